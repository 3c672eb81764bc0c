/- MergeSummaries, the program's. Condition: at most 2^20 entries. -/
import Derived.Test.YtlckeefjhafloaaSmyMg
import Derived.Test.YtlckeefjhafloaaSmyG
import Derived.Test.YtlckeefjhafloaaCut
import Derived.Deep.RegionHeld3
import Derived.Deep.RegionLaw
import Derived.Deep.LoopGhost
import Derived.Deep.DeepCutAuto
set_option linter.unusedVariables false
set_option linter.unusedSimpArgs false
namespace Go.Proofs.Ytlckeefjhafloaa.smyMg
open Go.RowKit Go.Proofs.Ytlckeefjhafloaa.mem Go.Proofs.Ytlckeefjhafloaa.smy Go.Proofs.Ytlckeefjhafloaa.smyQ Go.Proofs.Ytlckeefjhafloaa.mgLaw

def okM (ca cb : Int) (a b : List Rkv) : Bool := vsmy ca a && (vsmy cb b && vsmy (ca + cb) (union ca cb a b))
def resM (ca cb : Int) (a b : List Rkv) : List Rkv := if okM ca cb a b = true then union ca cb a b else []
def resMN (ca cb : Int) (a b : List Rkv) : Int := if okM ca cb a b = true then ca + cb else 0
theorem mrg_len : ∀ x y : List Rkv, (mrg x y).length = x.length + y.length
  | [], y => by simp [mrg]
  | a :: x, [] => by simp [mrg]
  | a :: x, b :: y => by
    rw [mrg]; split
    · have := mrg_len x (b :: y); simp at this ⊢; omega
    · have := mrg_len (a :: x) y; simp at this ⊢; omega
theorem mrg_nil (x : List Rkv) : mrg x [] = x := by cases x <;> simp [mrg]
theorem mrg_le {a b : Rkv} {x y : List Rkv} (h : a.value ≤ b.value) : mrg (a :: x) (b :: y) = a :: mrg x (b :: y) := by rw [mrg, if_pos h]
theorem mrg_gt {a b : Rkv} {x y : List Rkv} (h : ¬ a.value ≤ b.value) : mrg (a :: x) (b :: y) = b :: mrg (a :: x) y := by rw [mrg, if_neg h]
theorem union_len {ca cb : Int} {a b : List Rkv} (ha : Asc a) (hb : Asc b) : (union ca cb a b).length = a.length + b.length := by
  rw [← union_mrg ha hb, mrg_len, placed_len, placed_len]
theorem placed_any {ca cb : Int} (late : Bool) (A B : Option Addr) (c d : Nat) (l o : List Rkv) (w : World) (hl : l.length ≤ 64) (ho0 : o.length ≤ 64) (hBl : Bd l) (hBo : Bd o) (hc1 : 0 ≤ cb) (hc2 : cb ≤ 1000) (hr : Rd w 3 A l.length (rkvs l)) (hr2 : Rd w 3 B o.length (rkvs o)) :
    Calls Try.prog 59 #[.agg #[.int .i64 ca, .slice A l.length c], .agg #[.int .i64 cb, .slice B o.length d], .bool late] w fun e w' => ∃ v, e = .returned v ∧ OwnRkv w w' v (placed l cb o late) ∧ Below w.heap.size w w' := by
  cases late
  · exact placed_false A B c d l o w hl ho0 hBl hBo hc1 hc2 hr hr2
  · exact placed_true A B c d l o w hl ho0 hBl hBo hc1 hc2 hr hr2
theorem mrg_x {x y : List Rkv} (hx : 0 < x.length) (h : y = [] ∨ ∃ hy : 0 < y.length, x[0].value ≤ y[0].value) : mrg x y = x[0] :: mrg (x.drop 1) y := by
  cases x with
  | nil => simp at hx
  | cons a x =>
    cases y with
    | nil => simp [mrg_nil]
    | cons b y =>
      rcases h with h | ⟨_, h⟩
      · cases h
      · exact mrg_le h
theorem mrg_y {x y : List Rkv} (hy : 0 < y.length) (h : x = [] ∨ ∃ hx : 0 < x.length, ¬ x[0].value ≤ y[0].value) : mrg x y = y[0] :: mrg x (y.drop 1) := by
  cases y with
  | nil => simp at hy
  | cons b y =>
    cases x with
    | nil => simp [mrg]
    | cons a x =>
      rcases h with h | ⟨_, h⟩
      · cases h
      · exact mrg_gt h
theorem rd_tail {w : World} {A : Option Addr} {c : Nat} {x : List Rkv} (hc : x.length ≤ c) (h : Rd w 3 A x.length (rkvs x)) (h0 : 0 < x.length) : Rd w 3 (cutA A c 1 3) (x.drop 1).length (rkvs (x.drop 1)) := by
  have := h.cut_at (k := 1) (m := (x.drop 1).length) (cap := c) (by rw [List.length_drop]; omega) hc
  rwa [← rkvs_drop, ← rkvs_take, List.take_length] at this
/-- the value v is a slice of the list's entries -/
def SlR (w : World) (v : Value) (l : List Rkv) : Prop := ∃ A c, v = .slice A l.length c ∧ l.length ≤ c ∧ Rd w 3 A l.length (rkvs l)
theorem SlR.below {w w' : World} {v : Value} {l : List Rkv} (h : SlR w v l) (hb : Below w.heap.size w w') : SlR w' v l := by
  obtain ⟨A, c, h1, h2, h3⟩ := h
  exact ⟨A, c, h1, h2, h3.below hb⟩
theorem SlR.of {w w' : World} {v : Value} {l : List Rkv} (h : OwnRkv w w' v l) : SlR w' v l := by
  obtain ⟨A, c, h1, h2, h3, h4⟩ := own_form h.1
  exact ⟨A, c, h1, h2, h4⟩
theorem SlR.tail {w : World} {A : Option Addr} {c : Nat} {x : Rkv} {t : List Rkv} (hc : t.length + 1 ≤ c) (h : Rd w 3 A (t.length + 1) (rkvs (x :: t))) : Rd w 3 (cutA A c 1 3) t.length (rkvs t) := by
  have := h.cut_at (k := 1) (m := t.length) (cap := c) (by omega) hc
  rwa [show 1 * 3 = 3 from rfl, ← len_rkvs, rkvs_cons, show (x.cells ++ rkvs t).drop 3 = rkvs t from List.drop_left (l₁ := x.cells), List.take_length] at this

set_option maxRecDepth 100000 in
set_option maxHeartbeats 4000000 in
theorem impl_any {ca cb : Int} (A : Option Addr) (c : Nat) (a : List Rkv) (B : Option Addr) (d : Nat) (b : List Rkv) (w : World) (hn : a.length ≤ 1048576) (hr : Rd w 3 A a.length (rkvs a)) (hm : b.length ≤ 1048576) (hr2 : Rd w 3 B b.length (rkvs b)) :
    Calls Try.prog 23 #[.agg #[.int .i64 ca, .slice A a.length c], .agg #[.int .i64 cb, .slice B b.length d]] w fun e w' => ∃ (v : Value) (n : Int), e = .returned (.tuple #[.agg #[.int .i64 n, v], .bool (okM ca cb a b)]) ∧ n = resMN ca cb a b ∧ OwnRkv w w' v (resM ca cb a b) ∧ Below w.heap.size w w' := by
  have HBX := Lib.hid (fun (o o2 o3 : Obj) => (((Below.refl w.heap.size w).alloc (Nat.le_refl _) o).alloc (by simp) o2).alloc (by simp; omega) o3)
  have HV := Lib.hid (fun W (h : Below w.heap.size w W) => smy.impl_any (cnt := ca) A c a W hn (hr.below h))
  have HV2 := Lib.hid (fun W (h : Below w.heap.size w W) => smy.impl_any (cnt := cb) B d b W hm (hr2.below h))
  have HR0 := Lib.hid (fun (h : okM ca cb a b = false) => show resM ca cb a b = [] ∧ resMN ca cb a b = 0 by simp [resM, resMN, h])
  have HR1 := Lib.hid (fun (h : okM ca cb a b = true) => show resM ca cb a b = union ca cb a b ∧ resMN ca cb a b = ca + cb by simp [resM, resMN, h])
  have HOK := Lib.hid (show okM ca cb a b = (vsmy ca a && (vsmy cb b && vsmy (ca + cb) (union ca cb a b))) from rfl)
  have hblk : ∀ W, W = ((w.alloc (.cells #[.int .i64 ca, .slice A a.length c] 29)).alloc (.cells #[.int .i64 cb, .slice B b.length d] 29)).alloc (.cells #[.int .i64 0, .slice none 0 0] 29) → Blk W w.heap.size 29 #[.int .i64 ca, .slice A a.length c] ∧ Blk W (w.heap.size + 1) 29 #[.int .i64 cb, .slice B b.length d] ∧ Blk W (w.heap.size + 2) 29 #[.int .i64 0, .slice none 0 0] := fun W hW => by
    subst hW
    refine ⟨((Blk.new _ _ _).alloc _).alloc _, ?_, ?_⟩
    · have := (Blk.new (w.alloc (.cells #[.int .i64 ca, .slice A a.length c] 29)) 29 #[.int .i64 cb, .slice B b.length d]).alloc (.cells #[.int .i64 0, .slice none 0 0] 29)
      rwa [show (w.alloc (.cells #[.int .i64 ca, .slice A a.length c] 29)).heap.size = w.heap.size + 1 by simp] at this
    · have := Blk.new ((w.alloc (.cells #[.int .i64 ca, .slice A a.length c] 29)).alloc (.cells #[.int .i64 cb, .slice B b.length d] 29)) 29 #[.int .i64 0, .slice none 0 0]
      rwa [show ((w.alloc (.cells #[.int .i64 ca, .slice A a.length c] 29)).alloc (.cells #[.int .i64 cb, .slice B b.length d] 29)).heap.size = w.heap.size + 2 by simp] at this
  have HBLK := Lib.hid (hblk _ rfl)
  have hbw := HBX.out (.cells #[.int .i64 ca, .slice A a.length c] 29) (.cells #[.int .i64 cb, .slice B b.length d] 29) (.cells #[.int .i64 0, .slice none 0 0] 29)
  clear hblk
  cases hv : vsmy ca a with
  | false =>
    have HF := Lib.hid (show okM ca cb a b = false by rw [HOK.out, hv]; rfl)
    have HV' := Lib.hid (hv ▸ HV.out _ hbw)
    clear hv HV
    go_enter Try.func23, Try.ntmps23
    go_wp2_with fail
    refine HV'.out.mono ?_
    rintro e w1 ⟨rfl, hb1⟩
    have hb2 := below_at hbw (by simp; omega) hb1
    have hE := HBLK.out.2.2.below hb1 (by simp)
    have e0 : w1.cell? ⟨w.heap.size + 2, 0, none⟩ = some (.int .i64 0) := hE.cell 0
    have e1 : w1.cell? ⟨w.heap.size + 2, 1, none⟩ = some (.slice none 0 0) := hE.cell 1
    have e3 := hE.thaw 0
    have e4 := hE.thaw 1
    clear hE hb1 hbw
    go_wp2
    refine bodyPost_ret (v := .tuple #[.agg #[.int .i64 0, .slice none 0 0], .bool false]) (by simp [results, Try.results23, go_sem, e0, e1]) rfl ⟨.slice none 0 0, 0, by rw [HF.out], (HR0.out HF.out).2.symm, ⟨by rw [(HR0.out HF.out).1]; exact World.ownsRow_nil _ _ _ _, by rw [(HR0.out HF.out).1]; simp⟩, ?_⟩
    first | exact hb2 | exact (hb2.setCell (by simp only; omega) _).setCell (by simp only; omega) _
  | true =>
    cases hv2 : vsmy cb b with
    | false =>
      have HF := Lib.hid (show okM ca cb a b = false by rw [HOK.out, hv, hv2]; rfl)
      have HV' := Lib.hid (hv ▸ HV.out _ hbw)
      have HV2' := Lib.hid (fun W h => hv2 ▸ HV2.out W h)
      clear hv HV hv2 HV2
      go_enter Try.func23, Try.ntmps23
      go_wp2_with fail
      refine HV'.out.mono ?_
      rintro e w1 ⟨rfl, hb1⟩
      have hb2 := below_at hbw (by simp; omega) hb1
      have hE := HBLK.out.2.2.below hb1 (by simp)
      have hT := HBLK.out.2.1.below hb1 (by simp)
      have hT0 : w1.cell? ⟨w.heap.size + 1, 0, none⟩ = some (.int .i64 cb) := hT.cell 0
      have hT1 : w1.cell? ⟨w.heap.size + 1, 1, none⟩ = some (.slice B b.length d) := hT.cell 1
      have HE := Lib.hid hE
      have hlt := hE.lt
      clear hE hb1 hbw hT
      go_wp2_with fail
      refine (HV2'.out _ hb2).mono ?_
      rintro e w2 ⟨rfl, hb3⟩
      have hb4 := below_at hb2 hb2.size hb3
      have hE := HE.out.below hb3 hlt
      have e0 : w2.cell? ⟨w.heap.size + 2, 0, none⟩ = some (.int .i64 0) := hE.cell 0
      have e1 : w2.cell? ⟨w.heap.size + 2, 1, none⟩ = some (.slice none 0 0) := hE.cell 1
      have e3 := hE.thaw 0
      have e4 := hE.thaw 1
      clear hE hb3 hT0 hT1 hb2
      go_wp2
      refine bodyPost_ret (v := .tuple #[.agg #[.int .i64 0, .slice none 0 0], .bool false]) (by simp [results, Try.results23, go_sem, e0, e1]) rfl ⟨.slice none 0 0, 0, by rw [HF.out], (HR0.out HF.out).2.symm, ⟨by rw [(HR0.out HF.out).1]; exact World.ownsRow_nil _ _ _ _, by rw [(HR0.out HF.out).1]; simp⟩, ?_⟩
      first | exact hb4 | exact (hb4.setCell (by simp only; omega) _).setCell (by simp only; omega) _
    | true =>
      have hAa := asc_of hv
      have hAb := asc_of hv2
      have hca := vsmy_cnt hv
      have hcb := vsmy_cnt hv2
      have HU := Lib.hid (union_mrg (ca := ca) (cb := cb) hAa hAb)
      have HUL := Lib.hid (union_len (ca := ca) (cb := cb) hAa hAb)
      have HOK2 := Lib.hid (show okM ca cb a b = vsmy (ca + cb) (union ca cb a b) by rw [HOK.out, hv, hv2]; rfl)
      have HP1 := Lib.hid (fun W h => placed_any (ca := ca) (cb := cb) false A B c d a b W hca.2.2.1 hcb.2.2.1 (bd_of hv) (bd_of hv2) hcb.1 hcb.2.1 (hr.below (w' := W) h) (hr2.below h))
      have HP2 := Lib.hid (fun W h => placed_any (ca := cb) (cb := ca) true B A d c b a W hcb.2.2.1 hca.2.2.1 (bd_of hv2) (bd_of hv) hca.1 hca.2.1 (hr2.below (w' := W) h) (hr.below h))
      have HV' := Lib.hid (hv ▸ HV.out _ hbw)
      have HV2' := Lib.hid (fun W h => hv2 ▸ HV2.out W h)
      obtain ⟨a1, a2, a3, _⟩ := hca
      obtain ⟨b1, b2, b3, _⟩ := hcb
      clear hv HV hv2 HV2 hAa hAb
      go_enter Try.func23, Try.ntmps23
      go_wp2_with fail
      refine HV'.out.mono ?_
      rintro e w1 ⟨rfl, hb1⟩
      have hb2 := below_at hbw (by simp; omega) hb1
      have HE := Lib.hid (And.intro (HBLK.out.1.below hb1 (by simp; omega)) (And.intro (HBLK.out.2.1.below hb1 (by simp)) (HBLK.out.2.2.below hb1 (by simp))))
      have hlt := HE.out.2.2.lt
      have hT0 : w1.cell? ⟨w.heap.size + 1, 0, none⟩ = some (.int .i64 cb) := HE.out.2.1.cell 0
      have hT1 : w1.cell? ⟨w.heap.size + 1, 1, none⟩ = some (.slice B b.length d) := HE.out.2.1.cell 1
      clear hb1 hbw
      go_wp2_with fail
      refine (HV2'.out _ hb2).mono ?_
      rintro e w2 ⟨rfl, hb3⟩
      have hb4 := below_at hb2 hb2.size hb3
      have HE2 := Lib.hid (And.intro (HE.out.1.below hb3 HE.out.1.lt) (And.intro (HE.out.2.1.below hb3 HE.out.2.1.lt) (HE.out.2.2.below hb3 hlt)))
      have hlt2 := HE2.out.2.2.lt
      clear hT0 hT1 hb2 hb3 HE hlt
      have hS0 : w2.cell? ⟨w.heap.size, 0, none⟩ = some (.int .i64 ca) := HE2.out.1.cell 0
      have hS1 : w2.cell? ⟨w.heap.size, 1, none⟩ = some (.slice A a.length c) := HE2.out.1.cell 1
      have hT0 : w2.cell? ⟨w.heap.size + 1, 0, none⟩ = some (.int .i64 cb) := HE2.out.2.1.cell 0
      have hT1 : w2.cell? ⟨w.heap.size + 1, 1, none⟩ = some (.slice B b.length d) := HE2.out.2.1.cell 1
      have HKC := Lib.hid (fun (w' : World) (h : Below w2.heap.size w2 w') => And.intro (cells_below h hS0) (And.intro (cells_below h hS1) (And.intro (cells_below h hT0) (cells_below h hT1))))
      have HDR := Lib.hid (show Below w2.heap.size w2 w2.drew from below_drewN (Below.refl _ _) 1)
      have HB4 := Lib.hid hb4
      clear hb4
      go_upto_region 3 with fail
      go_cut [6, 7] (fun s6 s7 wx => SlR wx s6 (placed a cb b false) ∧ SlR wx s7 (placed b ca a true) ∧ Below w2.heap.size w2 wx)
      case first =>
        go_region_held3 (fun w' => w'.cell? ⟨w.heap.size, 0, none⟩ = some (.int .i64 ca) ∧ w'.cell? ⟨w.heap.size, 1, none⟩ = some (.slice A a.length c) ∧ w'.cell? ⟨w.heap.size + 1, 0, none⟩ = some (.int .i64 cb) ∧ w'.cell? ⟨w.heap.size + 1, 1, none⟩ = some (.slice B b.length d)) (first | exact HKC.out _ hq | go_keep) (first
          | (go_at_call 59; (with_reducible refine (HP1.out _ (by first | exact below_step HB4.out hq7 | exact below_step HB4.out HDR.out)).mono ?_); rintro e w3 ⟨v6, rfl, ho6, hb6⟩; have hq6 : Below w2.heap.size w2 w3 := (by first | exact below_step hq7 hb6 | exact below_step HDR.out hb6); have hq := hq6; have h6 := SlR.of ho6; clear ho6; try (replace h7 := h7.below hb6))
          | (go_at_call 59; (with_reducible refine (HP2.out _ (by first | exact below_step HB4.out hq6 | exact below_step HB4.out HDR.out)).mono ?_); rintro e w3 ⟨v7, rfl, ho7, hb7⟩; have hq7 : Below w2.heap.size w2 w3 := (by first | exact below_step hq6 hb7 | exact below_step HDR.out hb7); have hq := hq7; have h7 := SlR.of ho7; clear ho7; try (replace h6 := h6.below hb7)))
        all_goals (go_wp2_with fail; go_meet; exact ⟨h6, h7, hq⟩)
      case rest =>
        obtain ⟨⟨A6, c6, rfl, hc6, hr6⟩, ⟨A7, c7, rfl, hc7, hr7⟩, hbx⟩ := hcut
        clear HKC HDR hS0 hS1 hT0 hT1
        have hE3 := HE2.out.2.2.below hbx hlt2
        have hS0 : wc.cell? ⟨w.heap.size, 0, none⟩ = some (.int .i64 ca) := (HE2.out.1.below hbx HE2.out.1.lt).cell 0
        have hT0 : wc.cell? ⟨w.heap.size + 1, 0, none⟩ = some (.int .i64 cb) := (HE2.out.2.1.below hbx HE2.out.2.1.lt).cell 0
        have HEX := Lib.hid hE3
        have hlx := hE3.lt
        have HB5 := Lib.hid (below_step HB4.out hbx)
        have HU2 := Lib.hid HU.out
        have hl1 := placed_len a cb b false
        have hl2 := placed_len b ca a true
        generalize placed a cb b false = pa at hc6 hr6 HU2 hl1 ⊢
        generalize placed b ca a true = pb at hc7 hr7 HU2 hl2 ⊢
        generalize hun : union ca cb a b = un at HU2 HUL
        have HUN := Lib.hid hun
        have HPA := Lib.hid (And.intro hl1 hl2)
        have HRR := Lib.hid (And.intro hr6 hr7)
        clear hE3 hun hl1 hl2 hr6 hr7 hbx
        go_wp2
        clear hS0 hT0
        obtain ⟨g0, hg0⟩ : ∃ g, g = wc.heap.size := ⟨_, rfl⟩
        have hO := Blk.new (wc.alloc (.cells #[] 51)) 29 #[.int .i64 (ca + cb), .slice (some ⟨wc.heap.size, 0, none⟩) 0 0]
        have ho := (World.ownsRow_made (e := 51) (size := 3) wc #[] 0 (Nat.le_refl _) (Nat.zero_le _) (by simp)).alloc (.cells #[.int .i64 (ca + cb), .slice (some ⟨wc.heap.size, 0, none⟩) 0 0] 29)
        have hb6 := ((Below.refl wc.heap.size wc).alloc (Nat.le_refl _) (.cells #[] 51)).alloc (by simp) (.cells #[.int .i64 (ca + cb), .slice (some ⟨wc.heap.size, 0, none⟩) 0 0] 29)
        rw [show (wc.alloc (.cells #[] 51)).heap.size = wc.heap.size + 1 by simp] at hO
        have HG0 := Lib.hid hg0
        have HSTART := Lib.hid (And.intro hO (And.intro ho hb6))
        clear hO ho hb6 hg0
        go_loopg [6, 7] (pa.length + pb.length + 1) (fun f s6 s7 wr => ∃ (x y M : List Rkv) (A6 : Option Addr) (c6 : Nat) (A7 : Option Addr) (c7 : Nat) (v : Value), s6 = .slice A6 x.length c6 ∧ s7 = .slice A7 y.length c7 ∧ x.length ≤ c6 ∧ y.length ≤ c7 ∧ Rd wc 3 A6 x.length (rkvs x) ∧ Rd wc 3 A7 y.length (rkvs y) ∧ x.length + y.length < f ∧ M ++ mrg x y = un ∧ Blk wr (wc.heap.size + 1) 29 #[.int .i64 (ca + cb), v] ∧ wr.ownsRow wc.heap.size 51 3 v M.length (rkvs M) ∧ v.ownBlock ≠ some (wc.heap.size + 1) ∧ Below wc.heap.size wc wr)
        case atStart => exact ⟨pa, pb, [], A6, c6, A7, c7, _, rfl, rfl, hc6, hc7, HRR.out.1, HRR.out.2, by omega, HU2.out, HSTART.out.1, HSTART.out.2.1, by simp [Value.ownBlock], HSTART.out.2.2⟩
        case round =>
          obtain ⟨x, y, M, A6', c6', A7', c7', v, rfl, rfl, hx6, hy7, hrx, hry, hgk, hM, hO, ho, hne, hb⟩ := hrel
          obtain ⟨Av, cv, hve, _, _, _⟩ := own_form ho
          subst hve
          have HM := Lib.hid hM
          have hMl : M.length ≤ 128 := by
            have h1 := congrArg List.length hM
            rw [HUL.out, List.length_append] at h1
            omega
          have HO := Lib.hid (And.intro hO (And.intro ho (And.intro hne hb)))
          clear hM hne ho hc6 hc7
          have hO1 : wr.cell? ⟨wc.heap.size + 1, 1, none⟩ = some (.slice Av M.length cv) := hO.cell 1
          clear hO
          by_cases h1 : x.length = 0
          · obtain rfl : x = [] := List.eq_nil_of_length_eq_zero h1
            by_cases h2 : y.length = 0
            · obtain rfl : y = [] := List.eq_nil_of_length_eq_zero h2
              clear h1 h2
              have HMU := Lib.hid (show M = un by rw [← HM.out, show mrg [] [] = [] from by simp [mrg], List.append_nil])
              have HVM := Lib.hid (smy.impl_any (cnt := ca + cb) Av cv M wr (by omega) (own_rd HO.out.2.1))
              have hE4 := HEX.out.below hb hlx
              have HE5 := Lib.hid hE4
              have hO0 : wr.cell? ⟨wc.heap.size + 1, 0, none⟩ = some (.int .i64 (ca + cb)) := HO.out.1.cell 0
              have HOKM := Lib.hid (show okM ca cb a b = vsmy (ca + cb) M by rw [HOK2.out, HUN.out, HMU.out])
              have HB6 := Lib.hid (below_step HB5.out hb)
              have hlr := HO.out.1.lt
              have hlr2 := hE4.lt
              clear hE4 hb
              cases hvm : vsmy (ca + cb) M with
              | false =>
                rw [hvm] at HVM HOKM
                clear hvm
                go_wp2_with fail
                refine HVM.out.mono ?_
                rintro e w5 ⟨rfl, hb5⟩
                have hE6 := HE5.out.below hb5 hlr2
                have e0 : w5.cell? ⟨w.heap.size + 2, 0, none⟩ = some (.int .i64 0) := hE6.cell 0
                have e1 : w5.cell? ⟨w.heap.size + 2, 1, none⟩ = some (.slice none 0 0) := hE6.cell 1
                have e3 := hE6.thaw 0
                have e4 := hE6.thaw 1
                have hb7 := below_step HB6.out hb5
                clear hE6 hb5 hO0 hO1
                go_wp2
                refine bodyPost_ret (v := .tuple #[.agg #[.int .i64 0, .slice none 0 0], .bool false]) (by simp [results, Try.results23, go_sem, e0, e1]) rfl ⟨.slice none 0 0, 0, by rw [HOKM.out], (HR0.out HOKM.out).2.symm, ⟨by rw [(HR0.out HOKM.out).1]; exact World.ownsRow_nil _ _ _ _, by rw [(HR0.out HOKM.out).1]; simp⟩, ?_⟩
                first | exact hb7 | exact (hb7.setCell (by simp only; omega) _).setCell (by simp only; omega) _
              | true =>
                rw [hvm] at HVM HOKM
                clear hvm
                go_wp2_with fail
                refine HVM.out.mono ?_
                rintro e w5 ⟨rfl, hb5⟩
                have hE6 := HE5.out.below hb5 hlr2
                have hO6 := HO.out.1.below hb5 hlr
                have e0 : w5.cell? ⟨w.heap.size + 2, 0, none⟩ = some (.int .i64 0) := hE6.cell 0
                have e1 : w5.cell? ⟨w.heap.size + 2, 1, none⟩ = some (.slice none 0 0) := hE6.cell 1
                have e3 := hE6.thaw 0
                have e4 := hE6.thaw 1
                have o0 : w5.cell? ⟨wc.heap.size + 1, 0, none⟩ = some (.int .i64 (ca + cb)) := hO6.cell 0
                have o1 : w5.cell? ⟨wc.heap.size + 1, 1, none⟩ = some (.slice Av M.length cv) := hO6.cell 1
                have hb7 := below_step HB6.out hb5
                have ho6 := own_below HO.out.2.1 hb5
                have HOF := Lib.hid (fun u1 u2 => own_far (own_far ho6 (p := ⟨w.heap.size + 2, 0, none⟩) (fun e => by have := (ho6.lt _ e).1; simp at this; omega) u1) (p := ⟨w.heap.size + 2, 1, none⟩) (fun e => by have := (ho6.lt _ e).1; simp at this; omega) u2)
                have hwl : w.heap.size ≤ wc.heap.size := by omega
                clear hE6 hO6 hb5 hO0 hO1 ho6
                go_wp2
                refine bodyPost_ret (v := .tuple #[.agg #[.int .i64 (ca + cb), .slice Av M.length cv], .bool true]) (by simp [results, Try.results23, go_sem, e0, e1]) rfl ⟨_, _, by rw [HOKM.out], (HR1.out HOKM.out).2.symm, ⟨by rw [(HR1.out HOKM.out).1, HUN.out, ← HMU.out]; exact own_base (HOF.out _ _) hwl, by rw [(HR1.out HOKM.out).1, HUN.out, ← HMU.out]; omega⟩, ?_⟩
                exact (hb7.setCell (by simp only; omega) _).setCell (by simp only; omega) _
            · have hy0 : 0 < y.length := by omega
              have q1 : ((y.length : Int) == 0) = false := by simpa using h2
              clear h1 h2
              obtain ⟨b0, off0, rfl, p0, p1, p2⟩ := (hry.below hb).rkv hy0
              simp only [Nat.zero_mul, Nat.add_zero] at p0 p1 p2
              have HT := Lib.hid (rd_tail hy7 hry hy0)
              have hsl : ∀ W : World, (Instr.slice 27 (.slice (some ⟨b0, off0, none⟩) y.length c7') (some (.int .i64 1)) none none).run Try.prog W = .ok (.slice (cutA (some ⟨b0, off0, none⟩) c7' 1 3) (y.drop 1).length (c7' - 1)) W := fun W => by
                rw [List.length_drop]; exact run_from 27 51 _ 3 24 Try.underlying27 mem.info_rkv _ _ _ 1 1 rfl (by omega) W
              have HM2 := Lib.hid (show (M ++ [y[0]]) ++ mrg ([] : List Rkv) (y.drop 1) = un by
                rw [← HM.out, mrg_y hy0 (Or.inl rfl), List.append_assoc]; rfl)
              have hlen : (y.drop 1).length + 1 ≤ y.length ∧ (y.drop 1).length ≤ c7' - 1 := by rw [List.length_drop]; omega
              generalize y.drop 1 = ty at HT HM2 hlen hsl
              generalize y[0] = ey at p0 p1 p2 HM2
              
              have HG := Lib.hid (own_ge HO.out.2.1)
              have hh : M.length ≤ 1099511627776 := by omega
              have hbs : wc.heap.size ≤ wr.heap.size := hb.size
              have hgl : wc.heap.size + 1 < wr.heap.size := HO.out.1.lt
              have hLAST := Lib.hid (And.intro hx6 (And.intro hy7 (And.intro hrx hry)))
              clear hb
              go_wp2_with fail
              go_quiet (fail)
              obtain ⟨wq, hwq⟩ : ∃ W : World, W = wr.drewN nq := ⟨_, rfl⟩
              rw [← hwq]
              have p0q : wq.cell? ⟨b0, off0, none⟩ = some (.int .i64 ey.value) := by rw [hwq]; exact p0
              have p1q : wq.cell? ⟨b0, off0 + 1, none⟩ = some (.int .i64 ey.least) := by rw [hwq]; exact p1
              have p2q : wq.cell? ⟨b0, off0 + 2, none⟩ = some (.int .i64 ey.most) := by rw [hwq]; exact p2
              have hO1q : wq.cell? ⟨wc.heap.size + 1, 1, none⟩ = some (.slice Av M.length cv) := by rw [hwq]; exact hO1
              have hO1z := fun (o : Obj) => cells_below (w' := wq.alloc o) ((Below.refl _ _).alloc (Nat.le_refl _) o) hO1q
              have hbsq : wc.heap.size ≤ wq.heap.size := by rw [hwq]; exact hbs
              have hglq : wc.heap.size + 1 < wq.heap.size := by rw [hwq]; exact hgl
              have HOq := Lib.hid (show Blk wq (wc.heap.size + 1) 29 #[.int .i64 (ca + cb), .slice Av M.length cv] ∧ wq.ownsRow wc.heap.size 51 3 (.slice Av M.length cv) M.length (rkvs M) ∧ (Value.slice Av M.length cv).ownBlock ≠ some (wc.heap.size + 1) ∧ Below wc.heap.size wc wq from by rw [hwq]; exact And.intro (HO.out.1.drewN nq) (And.intro (own_drewN HO.out.2.1 nq) (And.intro HO.out.2.2.1 (below_drewN HO.out.2.2.2 nq))))
              have ho3 : wq.drew.ownsRow wc.heap.size 51 3 (.slice Av M.length cv) M.length (rkvs M) := HOq.out.2.1
              clear p0 p1 p2 hO1 hbs hgl hwq HO
              skip
              go_wp2_with fail
              go_region_law ((refine mem.step_push_atH wq.drew rfl (.tmp 69) (.tmp 73) 27 rfl wc.heap.size 51 _ 3 24 Try.underlying27 mem.info_rkv rfl (by decide) (.slice Av M.length cv) M.length (rkvs M) (by simp [Act.eval, Act.put]) ho3 wq.heap.size rfl (rkvs [ey]) 1 rfl (mem.rkvs_one [ey]) (by simp [Act.eval, Act.put]) hh (by decide) hbsq ?_; intro v' w' ho' hg0 hnw'; have hg' := mem.grown_undrew hg0; clear hg0; have hO2 := HOq.out.1.grown hg' (fun e => HOq.out.2.2.1 e.symm); have hcc : w'.cell? ⟨wc.heap.size + 1, 1, none⟩ = some (.slice Av M.length cv) := hO2.cell 1; have hff := hO2.thaw 1; obtain ⟨A', c', hve, _, _, _⟩ := own_form ho'; subst hve))
              all_goals
                have hne3 : (Value.slice A' (M.length + 1) c').ownBlock ≠ some (wc.heap.size + 1) := fun e => by
                  rcases hnw' _ e with h | h
                  · exact HOq.out.2.2.1 h
                  · exact absurd (show wq.heap.size ≤ wc.heap.size + 1 from h) (by omega)
                have hO3 := hO2.put 1 (.slice A' (M.length + 1) c')
                have hoo := own_far ho' (p := ⟨wc.heap.size + 1, 1, none⟩) hne3 (.slice A' (M.length + 1) c')
                have hb3 := (below_grown HOq.out.2.2.2 HOq.out.2.2.2.size hg' (fun g h => by have := HG.out _ h; omega)).setCell (p := ⟨wc.heap.size + 1, 1, none⟩) (by simp only; omega) (.slice A' (M.length + 1) c')
                have HALL := Lib.hid (And.intro hO3 (And.intro hoo (And.intro hne3 hb3)))
                clear ho' hg' hnw' hO2 hcc hff hO3 hoo hb3 hne3
                go_wp2
                go_roundg (gk - 1)
                case rel => exact ⟨([] : List Rkv), ty, M ++ [ey], _, _, _, _, _, rfl, rfl, hLAST.out.1, hlen.2, hLAST.out.2.2.1, HT.out, by simp only [List.length_nil] at hgk ⊢; omega, HM2.out, HALL.out.1, by rw [List.length_append, rkvs_app]; exact HALL.out.2.1, HALL.out.2.2.1, HALL.out.2.2.2⟩
                case measure => omega
          · have hx0 : 0 < x.length := by omega
            by_cases h2 : y.length = 0
            · obtain rfl : y = [] := List.eq_nil_of_length_eq_zero h2
              clear h1 h2
              obtain ⟨b0, off0, rfl, p0, p1, p2⟩ := (hrx.below hb).rkv hx0
              simp only [Nat.zero_mul, Nat.add_zero] at p0 p1 p2
              have HT := Lib.hid (rd_tail hx6 hrx hx0)
              have hsl : ∀ W : World, (Instr.slice 27 (.slice (some ⟨b0, off0, none⟩) x.length c6') (some (.int .i64 1)) none none).run Try.prog W = .ok (.slice (cutA (some ⟨b0, off0, none⟩) c6' 1 3) (x.drop 1).length (c6' - 1)) W := fun W => by
                rw [List.length_drop]; exact run_from 27 51 _ 3 24 Try.underlying27 mem.info_rkv _ _ _ 1 1 rfl (by omega) W
              have HM2 := Lib.hid (show (M ++ [x[0]]) ++ mrg (x.drop 1) ([] : List Rkv) = un by
                rw [← HM.out, mrg_x hx0 (Or.inl rfl), List.append_assoc]; rfl)
              have hlen : (x.drop 1).length + 1 ≤ x.length ∧ (x.drop 1).length ≤ c6' - 1 := by rw [List.length_drop]; omega
              generalize x.drop 1 = tx at HT HM2 hlen hsl
              generalize x[0] = ex at p0 p1 p2 HM2
              
              have HG := Lib.hid (own_ge HO.out.2.1)
              have hh : M.length ≤ 1099511627776 := by omega
              have hbs : wc.heap.size ≤ wr.heap.size := hb.size
              have hgl : wc.heap.size + 1 < wr.heap.size := HO.out.1.lt
              have hLAST := Lib.hid (And.intro hx6 (And.intro hy7 (And.intro hrx hry)))
              clear hb
              go_wp2_with fail
              go_quiet (fail)
              obtain ⟨wq, hwq⟩ : ∃ W : World, W = wr.drewN nq := ⟨_, rfl⟩
              rw [← hwq]
              have p0q : wq.cell? ⟨b0, off0, none⟩ = some (.int .i64 ex.value) := by rw [hwq]; exact p0
              have p1q : wq.cell? ⟨b0, off0 + 1, none⟩ = some (.int .i64 ex.least) := by rw [hwq]; exact p1
              have p2q : wq.cell? ⟨b0, off0 + 2, none⟩ = some (.int .i64 ex.most) := by rw [hwq]; exact p2
              have hO1q : wq.cell? ⟨wc.heap.size + 1, 1, none⟩ = some (.slice Av M.length cv) := by rw [hwq]; exact hO1
              have hO1z := fun (o : Obj) => cells_below (w' := wq.alloc o) ((Below.refl _ _).alloc (Nat.le_refl _) o) hO1q
              have hbsq : wc.heap.size ≤ wq.heap.size := by rw [hwq]; exact hbs
              have hglq : wc.heap.size + 1 < wq.heap.size := by rw [hwq]; exact hgl
              have HOq := Lib.hid (show Blk wq (wc.heap.size + 1) 29 #[.int .i64 (ca + cb), .slice Av M.length cv] ∧ wq.ownsRow wc.heap.size 51 3 (.slice Av M.length cv) M.length (rkvs M) ∧ (Value.slice Av M.length cv).ownBlock ≠ some (wc.heap.size + 1) ∧ Below wc.heap.size wc wq from by rw [hwq]; exact And.intro (HO.out.1.drewN nq) (And.intro (own_drewN HO.out.2.1 nq) (And.intro HO.out.2.2.1 (below_drewN HO.out.2.2.2 nq))))
              have ho3 : wq.drew.ownsRow wc.heap.size 51 3 (.slice Av M.length cv) M.length (rkvs M) := HOq.out.2.1
              clear p0 p1 p2 hO1 hbs hgl hwq HO
              skip
              go_wp2_with fail
              go_region_law ((refine mem.step_push_atH wq.drew rfl (.tmp 59) (.tmp 63) 27 rfl wc.heap.size 51 _ 3 24 Try.underlying27 mem.info_rkv rfl (by decide) (.slice Av M.length cv) M.length (rkvs M) (by simp [Act.eval, Act.put]) ho3 wq.heap.size rfl (rkvs [ex]) 1 rfl (mem.rkvs_one [ex]) (by simp [Act.eval, Act.put]) hh (by decide) hbsq ?_; intro v' w' ho' hg0 hnw'; have hg' := mem.grown_undrew hg0; clear hg0; have hO2 := HOq.out.1.grown hg' (fun e => HOq.out.2.2.1 e.symm); have hcc : w'.cell? ⟨wc.heap.size + 1, 1, none⟩ = some (.slice Av M.length cv) := hO2.cell 1; have hff := hO2.thaw 1; obtain ⟨A', c', hve, _, _, _⟩ := own_form ho'; subst hve))
              all_goals
                have hne3 : (Value.slice A' (M.length + 1) c').ownBlock ≠ some (wc.heap.size + 1) := fun e => by
                  rcases hnw' _ e with h | h
                  · exact HOq.out.2.2.1 h
                  · exact absurd (show wq.heap.size ≤ wc.heap.size + 1 from h) (by omega)
                have hO3 := hO2.put 1 (.slice A' (M.length + 1) c')
                have hoo := own_far ho' (p := ⟨wc.heap.size + 1, 1, none⟩) hne3 (.slice A' (M.length + 1) c')
                have hb3 := (below_grown HOq.out.2.2.2 HOq.out.2.2.2.size hg' (fun g h => by have := HG.out _ h; omega)).setCell (p := ⟨wc.heap.size + 1, 1, none⟩) (by simp only; omega) (.slice A' (M.length + 1) c')
                have HALL := Lib.hid (And.intro hO3 (And.intro hoo (And.intro hne3 hb3)))
                clear ho' hg' hnw' hO2 hcc hff hO3 hoo hb3 hne3
                go_wp2
                go_roundg (gk - 1)
                case rel => exact ⟨tx, ([] : List Rkv), M ++ [ex], _, _, _, _, _, rfl, rfl, hlen.2, hLAST.out.2.1, HT.out, hLAST.out.2.2.2, by simp only [List.length_nil] at hgk ⊢; omega, HM2.out, HALL.out.1, by rw [List.length_append, rkvs_app]; exact HALL.out.2.1, HALL.out.2.2.1, HALL.out.2.2.2⟩
                case measure => omega
            · have hy0 : 0 < y.length := by omega
              have q1 : ((y.length : Int) == 0) = false := by simpa using h2
              clear h1 h2
              by_cases hle : x[0].value ≤ y[0].value
              · obtain ⟨b0, off0, rfl, p0, p1, p2⟩ := (hrx.below hb).rkv hx0
                simp only [Nat.zero_mul, Nat.add_zero] at p0 p1 p2
                have HT := Lib.hid (rd_tail hx6 hrx hx0)
                have hsl : ∀ W : World, (Instr.slice 27 (.slice (some ⟨b0, off0, none⟩) x.length c6') (some (.int .i64 1)) none none).run Try.prog W = .ok (.slice (cutA (some ⟨b0, off0, none⟩) c6' 1 3) (x.drop 1).length (c6' - 1)) W := fun W => by
                  rw [List.length_drop]; exact run_from 27 51 _ 3 24 Try.underlying27 mem.info_rkv _ _ _ 1 1 rfl (by omega) W
                have HM2 := Lib.hid (show (M ++ [x[0]]) ++ mrg (x.drop 1) y = un by
                  rw [← HM.out, mrg_x hx0 (Or.inr ⟨hy0, hle⟩), List.append_assoc]; rfl)
                have hlen : (x.drop 1).length + 1 ≤ x.length ∧ (x.drop 1).length ≤ c6' - 1 := by rw [List.length_drop]; omega
                generalize x.drop 1 = tx at HT HM2 hlen hsl
                generalize x[0] = ex at p0 p1 p2 HM2 hle
                obtain ⟨b1, off1, rfl, r0, r1, r2⟩ := (hry.below hb).rkv hy0
                simp only [Nat.zero_mul, Nat.add_zero] at r0 r1 r2
                generalize y[0] = ey at r0 r1 r2 hle
                have HG := Lib.hid (own_ge HO.out.2.1)
                have hh : M.length ≤ 1099511627776 := by omega
                have hbs : wc.heap.size ≤ wr.heap.size := hb.size
                have hgl : wc.heap.size + 1 < wr.heap.size := HO.out.1.lt
                have hLAST := Lib.hid (And.intro hx6 (And.intro hy7 (And.intro hrx hry)))
                clear hb
                go_wp2_with fail
                go_quiet (fail)
                obtain ⟨wq, hwq⟩ : ∃ W : World, W = wr.drewN nq := ⟨_, rfl⟩
                rw [← hwq]
                have p0q : wq.cell? ⟨b0, off0, none⟩ = some (.int .i64 ex.value) := by rw [hwq]; exact p0
                have p1q : wq.cell? ⟨b0, off0 + 1, none⟩ = some (.int .i64 ex.least) := by rw [hwq]; exact p1
                have p2q : wq.cell? ⟨b0, off0 + 2, none⟩ = some (.int .i64 ex.most) := by rw [hwq]; exact p2
                have hO1q : wq.cell? ⟨wc.heap.size + 1, 1, none⟩ = some (.slice Av M.length cv) := by rw [hwq]; exact hO1
                have hO1z := fun (o : Obj) => cells_below (w' := wq.alloc o) ((Below.refl _ _).alloc (Nat.le_refl _) o) hO1q
                have hbsq : wc.heap.size ≤ wq.heap.size := by rw [hwq]; exact hbs
                have hglq : wc.heap.size + 1 < wq.heap.size := by rw [hwq]; exact hgl
                have HOq := Lib.hid (show Blk wq (wc.heap.size + 1) 29 #[.int .i64 (ca + cb), .slice Av M.length cv] ∧ wq.ownsRow wc.heap.size 51 3 (.slice Av M.length cv) M.length (rkvs M) ∧ (Value.slice Av M.length cv).ownBlock ≠ some (wc.heap.size + 1) ∧ Below wc.heap.size wc wq from by rw [hwq]; exact And.intro (HO.out.1.drewN nq) (And.intro (own_drewN HO.out.2.1 nq) (And.intro HO.out.2.2.1 (below_drewN HO.out.2.2.2 nq))))
                have ho3 : wq.drew.ownsRow wc.heap.size 51 3 (.slice Av M.length cv) M.length (rkvs M) := HOq.out.2.1
                clear p0 p1 p2 hO1 hbs hgl hwq HO
                clear r0 r1 r2
                go_wp2_with fail
                go_region_law ((refine mem.step_push_atH wq.drew rfl (.tmp 59) (.tmp 63) 27 rfl wc.heap.size 51 _ 3 24 Try.underlying27 mem.info_rkv rfl (by decide) (.slice Av M.length cv) M.length (rkvs M) (by simp [Act.eval, Act.put]) ho3 wq.heap.size rfl (rkvs [ex]) 1 rfl (mem.rkvs_one [ex]) (by simp [Act.eval, Act.put]) hh (by decide) hbsq ?_; intro v' w' ho' hg0 hnw'; have hg' := mem.grown_undrew hg0; clear hg0; have hO2 := HOq.out.1.grown hg' (fun e => HOq.out.2.2.1 e.symm); have hcc : w'.cell? ⟨wc.heap.size + 1, 1, none⟩ = some (.slice Av M.length cv) := hO2.cell 1; have hff := hO2.thaw 1; obtain ⟨A', c', hve, _, _, _⟩ := own_form ho'; subst hve))
                all_goals
                  have hne3 : (Value.slice A' (M.length + 1) c').ownBlock ≠ some (wc.heap.size + 1) := fun e => by
                    rcases hnw' _ e with h | h
                    · exact HOq.out.2.2.1 h
                    · exact absurd (show wq.heap.size ≤ wc.heap.size + 1 from h) (by omega)
                  have hO3 := hO2.put 1 (.slice A' (M.length + 1) c')
                  have hoo := own_far ho' (p := ⟨wc.heap.size + 1, 1, none⟩) hne3 (.slice A' (M.length + 1) c')
                  have hb3 := (below_grown HOq.out.2.2.2 HOq.out.2.2.2.size hg' (fun g h => by have := HG.out _ h; omega)).setCell (p := ⟨wc.heap.size + 1, 1, none⟩) (by simp only; omega) (.slice A' (M.length + 1) c')
                  have HALL := Lib.hid (And.intro hO3 (And.intro hoo (And.intro hne3 hb3)))
                  clear ho' hg' hnw' hO2 hcc hff hO3 hoo hb3 hne3
                  go_wp2
                  go_roundg (gk - 1)
                  case rel => exact ⟨tx, y, M ++ [ex], _, _, _, _, _, rfl, rfl, hlen.2, hLAST.out.2.1, HT.out, hLAST.out.2.2.2, by omega, HM2.out, HALL.out.1, by rw [List.length_append, rkvs_app]; exact HALL.out.2.1, HALL.out.2.2.1, HALL.out.2.2.2⟩
                  case measure => omega
              · obtain ⟨b0, off0, rfl, p0, p1, p2⟩ := (hry.below hb).rkv hy0
                simp only [Nat.zero_mul, Nat.add_zero] at p0 p1 p2
                have HT := Lib.hid (rd_tail hy7 hry hy0)
                have hsl : ∀ W : World, (Instr.slice 27 (.slice (some ⟨b0, off0, none⟩) y.length c7') (some (.int .i64 1)) none none).run Try.prog W = .ok (.slice (cutA (some ⟨b0, off0, none⟩) c7' 1 3) (y.drop 1).length (c7' - 1)) W := fun W => by
                  rw [List.length_drop]; exact run_from 27 51 _ 3 24 Try.underlying27 mem.info_rkv _ _ _ 1 1 rfl (by omega) W
                have HM2 := Lib.hid (show (M ++ [y[0]]) ++ mrg x (y.drop 1) = un by
                  rw [← HM.out, mrg_y hy0 (Or.inr ⟨hx0, hle⟩), List.append_assoc]; rfl)
                have hlen : (y.drop 1).length + 1 ≤ y.length ∧ (y.drop 1).length ≤ c7' - 1 := by rw [List.length_drop]; omega
                generalize y.drop 1 = ty at HT HM2 hlen hsl
                generalize y[0] = ey at p0 p1 p2 HM2 hle
                obtain ⟨b1, off1, rfl, r0, r1, r2⟩ := (hrx.below hb).rkv hx0
                simp only [Nat.zero_mul, Nat.add_zero] at r0 r1 r2
                generalize x[0] = ex at r0 r1 r2 hle
                have HG := Lib.hid (own_ge HO.out.2.1)
                have hh : M.length ≤ 1099511627776 := by omega
                have hbs : wc.heap.size ≤ wr.heap.size := hb.size
                have hgl : wc.heap.size + 1 < wr.heap.size := HO.out.1.lt
                have hLAST := Lib.hid (And.intro hx6 (And.intro hy7 (And.intro hrx hry)))
                clear hb
                go_wp2_with fail
                go_quiet (fail)
                obtain ⟨wq, hwq⟩ : ∃ W : World, W = wr.drewN nq := ⟨_, rfl⟩
                rw [← hwq]
                have p0q : wq.cell? ⟨b0, off0, none⟩ = some (.int .i64 ey.value) := by rw [hwq]; exact p0
                have p1q : wq.cell? ⟨b0, off0 + 1, none⟩ = some (.int .i64 ey.least) := by rw [hwq]; exact p1
                have p2q : wq.cell? ⟨b0, off0 + 2, none⟩ = some (.int .i64 ey.most) := by rw [hwq]; exact p2
                have hO1q : wq.cell? ⟨wc.heap.size + 1, 1, none⟩ = some (.slice Av M.length cv) := by rw [hwq]; exact hO1
                have hO1z := fun (o : Obj) => cells_below (w' := wq.alloc o) ((Below.refl _ _).alloc (Nat.le_refl _) o) hO1q
                have hbsq : wc.heap.size ≤ wq.heap.size := by rw [hwq]; exact hbs
                have hglq : wc.heap.size + 1 < wq.heap.size := by rw [hwq]; exact hgl
                have HOq := Lib.hid (show Blk wq (wc.heap.size + 1) 29 #[.int .i64 (ca + cb), .slice Av M.length cv] ∧ wq.ownsRow wc.heap.size 51 3 (.slice Av M.length cv) M.length (rkvs M) ∧ (Value.slice Av M.length cv).ownBlock ≠ some (wc.heap.size + 1) ∧ Below wc.heap.size wc wq from by rw [hwq]; exact And.intro (HO.out.1.drewN nq) (And.intro (own_drewN HO.out.2.1 nq) (And.intro HO.out.2.2.1 (below_drewN HO.out.2.2.2 nq))))
                have ho3 : wq.drew.ownsRow wc.heap.size 51 3 (.slice Av M.length cv) M.length (rkvs M) := HOq.out.2.1
                clear p0 p1 p2 hO1 hbs hgl hwq HO
                clear r0 r1 r2
                go_wp2_with fail
                go_region_law ((refine mem.step_push_atH wq.drew rfl (.tmp 69) (.tmp 73) 27 rfl wc.heap.size 51 _ 3 24 Try.underlying27 mem.info_rkv rfl (by decide) (.slice Av M.length cv) M.length (rkvs M) (by simp [Act.eval, Act.put]) ho3 wq.heap.size rfl (rkvs [ey]) 1 rfl (mem.rkvs_one [ey]) (by simp [Act.eval, Act.put]) hh (by decide) hbsq ?_; intro v' w' ho' hg0 hnw'; have hg' := mem.grown_undrew hg0; clear hg0; have hO2 := HOq.out.1.grown hg' (fun e => HOq.out.2.2.1 e.symm); have hcc : w'.cell? ⟨wc.heap.size + 1, 1, none⟩ = some (.slice Av M.length cv) := hO2.cell 1; have hff := hO2.thaw 1; obtain ⟨A', c', hve, _, _, _⟩ := own_form ho'; subst hve))
                all_goals
                  have hne3 : (Value.slice A' (M.length + 1) c').ownBlock ≠ some (wc.heap.size + 1) := fun e => by
                    rcases hnw' _ e with h | h
                    · exact HOq.out.2.2.1 h
                    · exact absurd (show wq.heap.size ≤ wc.heap.size + 1 from h) (by omega)
                  have hO3 := hO2.put 1 (.slice A' (M.length + 1) c')
                  have hoo := own_far ho' (p := ⟨wc.heap.size + 1, 1, none⟩) hne3 (.slice A' (M.length + 1) c')
                  have hb3 := (below_grown HOq.out.2.2.2 HOq.out.2.2.2.size hg' (fun g h => by have := HG.out _ h; omega)).setCell (p := ⟨wc.heap.size + 1, 1, none⟩) (by simp only; omega) (.slice A' (M.length + 1) c')
                  have HALL := Lib.hid (And.intro hO3 (And.intro hoo (And.intro hne3 hb3)))
                  clear ho' hg' hnw' hO2 hcc hff hO3 hoo hb3 hne3
                  go_wp2
                  go_roundg (gk - 1)
                  case rel => exact ⟨x, ty, M ++ [ey], _, _, _, _, _, rfl, rfl, hLAST.out.1, hlen.2, hLAST.out.2.2.1, HT.out, by omega, HM2.out, HALL.out.1, by rw [List.length_append, rkvs_app]; exact HALL.out.2.1, HALL.out.2.2.1, HALL.out.2.2.2⟩
                  case measure => omega
end Go.Proofs.Ytlckeefjhafloaa.smyMg
