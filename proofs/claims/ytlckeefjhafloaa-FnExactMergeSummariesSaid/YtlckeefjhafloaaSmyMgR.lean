/- MergeSummaries, the reference's, whole. Condition: at most 2^20 entries. -/
import Derived.Test.YtlckeefjhafloaaSmyMgU
set_option linter.unusedVariables false
set_option linter.unusedSimpArgs false
namespace Go.Proofs.Ytlckeefjhafloaa.smyMg
open Go.RowKit Go.Proofs.Ytlckeefjhafloaa.mem Go.Proofs.Ytlckeefjhafloaa.smy Go.Proofs.Ytlckeefjhafloaa.smyQ Go.Proofs.Ytlckeefjhafloaa.mgLaw

set_option maxRecDepth 100000 in
set_option maxHeartbeats 4000000 in
theorem spec_any {ca cb : Int} (A : Option Addr) (c : Nat) (a : List Rkv) (B : Option Addr) (d : Nat) (b : List Rkv) (w : World) (hn : a.length ≤ 1048576) (hr : Rd w 3 A a.length (rkvs a)) (hm : b.length ≤ 1048576) (hr2 : Rd w 3 B b.length (rkvs b)) :
    Calls Try.prog 41 #[.agg #[.int .i64 ca, .slice A a.length c], .agg #[.int .i64 cb, .slice B b.length d]] w fun e w' => ∃ (v : Value) (n : Int), e = .returned (.tuple #[.agg #[.int .i64 n, v], .bool (okM ca cb a b)]) ∧ n = resMN ca cb a b ∧ OwnRkv w w' v (resM ca cb a b) ∧ Below w.heap.size w w' := by
  have HV := Lib.hid (fun W (h : Below w.heap.size w W) => smy.good_any (cnt := ca) A c a W hn (hr.below h))
  have HV2 := Lib.hid (fun W (h : Below w.heap.size w W) => smy.good_any (cnt := cb) B d b W hm (hr2.below h))
  have HR0 := Lib.hid (fun (h : okM ca cb a b = false) => show resM ca cb a b = [] ∧ resMN ca cb a b = 0 by simp [resM, resMN, h])
  have HR1 := Lib.hid (fun (h : okM ca cb a b = true) => show resM ca cb a b = union ca cb a b ∧ resMN ca cb a b = ca + cb by simp [resM, resMN, h])
  have HOK := Lib.hid (show okM ca cb a b = (vsmy ca a && (vsmy cb b && vsmy (ca + cb) (union ca cb a b))) from rfl)
  have HBLK := Lib.hid (box3 w 29 29 29 #[.int .i64 ca, .slice A a.length c] #[.int .i64 cb, .slice B b.length d] #[.int .i64 0, .slice none 0 0])
  have hbw := HBLK.out.2.2.2
  cases hv : vsmy ca a with
  | false =>
    have HF := Lib.hid (show okM ca cb a b = false by rw [HOK.out, hv]; rfl)
    have HV' := Lib.hid (hv ▸ HV.out _ hbw)
    clear hv HV
    go_enter Try.func41, Try.ntmps41
    go_wp2_with fail
    refine HV'.out.mono ?_
    rintro e w1 ⟨rfl, hb1⟩
    have hb2 := below_at hbw (by simp; omega) hb1
    have hE := HBLK.out.2.2.1.below hb1 (by simp)
    have e0 : w1.cell? ⟨w.heap.size + 2, 0, none⟩ = some (.int .i64 0) := hE.cell 0
    have e1 : w1.cell? ⟨w.heap.size + 2, 1, none⟩ = some (.slice none 0 0) := hE.cell 1
    have e3 := hE.thaw 0
    have e4 := hE.thaw 1
    clear hE hb1 hbw
    go_wp2
    refine bodyPost_ret (v := .tuple #[.agg #[.int .i64 0, .slice none 0 0], .bool false]) (by simp [results, Try.results41, go_sem, e0, e1]) rfl ⟨.slice none 0 0, 0, by rw [HF.out], (HR0.out HF.out).2.symm, ⟨by rw [(HR0.out HF.out).1]; exact World.ownsRow_nil _ _ _ _, by rw [(HR0.out HF.out).1]; simp⟩, ?_⟩
    first | exact hb2 | exact (hb2.setCell (by simp only; omega) _).setCell (by simp only; omega) _
  | true =>
    cases hv2 : vsmy cb b with
    | false =>
      have HF := Lib.hid (show okM ca cb a b = false by rw [HOK.out, hv, hv2]; rfl)
      have HV' := Lib.hid (hv ▸ HV.out _ hbw)
      have HV2' := Lib.hid (fun W h => hv2 ▸ HV2.out W h)
      clear hv HV hv2 HV2
      go_enter Try.func41, Try.ntmps41
      go_wp2_with fail
      refine HV'.out.mono ?_
      rintro e w1 ⟨rfl, hb1⟩
      have hb2 := below_at hbw (by simp; omega) hb1
      have hE := HBLK.out.2.2.1.below hb1 (by simp)
      have hT := HBLK.out.2.1.below hb1 (by simp)
      have hT0 : w1.cell? ⟨w.heap.size + 1, 0, none⟩ = some (.int .i64 cb) := hT.cell 0
      have hT1 : w1.cell? ⟨w.heap.size + 1, 1, none⟩ = some (.slice B b.length d) := hT.cell 1
      have HE := Lib.hid hE
      have hlt := hE.lt
      clear hE hb1 hbw hT
      go_wp2_with fail
      refine (HV2'.out _ hb2).mono ?_
      rintro e w2 ⟨rfl, hb3⟩
      have hb4 := below_at hb2 hb2.size hb3
      have hE := HE.out.below hb3 hlt
      have e0 : w2.cell? ⟨w.heap.size + 2, 0, none⟩ = some (.int .i64 0) := hE.cell 0
      have e1 : w2.cell? ⟨w.heap.size + 2, 1, none⟩ = some (.slice none 0 0) := hE.cell 1
      have e3 := hE.thaw 0
      have e4 := hE.thaw 1
      clear hE hb3 hT0 hT1 hb2
      go_wp2
      refine bodyPost_ret (v := .tuple #[.agg #[.int .i64 0, .slice none 0 0], .bool false]) (by simp [results, Try.results41, go_sem, e0, e1]) rfl ⟨.slice none 0 0, 0, by rw [HF.out], (HR0.out HF.out).2.symm, ⟨by rw [(HR0.out HF.out).1]; exact World.ownsRow_nil _ _ _ _, by rw [(HR0.out HF.out).1]; simp⟩, ?_⟩
      first | exact hb4 | exact (hb4.setCell (by simp only; omega) _).setCell (by simp only; omega) _
    | true =>
      have hAa := asc_of hv
      have hAb := asc_of hv2
      have hca := vsmy_cnt hv
      have hcb := vsmy_cnt hv2
      have HUL := Lib.hid (union_len (ca := ca) (cb := cb) hAa hAb)
      have HOK2 := Lib.hid (show okM ca cb a b = vsmy (ca + cb) (union ca cb a b) by rw [HOK.out, hv, hv2]; rfl)
      have HU := Lib.hid (fun W h => union_any (ca := ca) (cb := cb) A c a B d b W hca.2.2.1 hcb.2.2.1 (bd_of hv) (bd_of hv2) hca.1 hca.2.1 hcb.1 hcb.2.1 (hr.below (w' := W) h) (hr2.below h))
      have HV' := Lib.hid (hv ▸ HV.out _ hbw)
      have HV2' := Lib.hid (fun W h => hv2 ▸ HV2.out W h)
      obtain ⟨a1, a2, a3, _⟩ := hca
      obtain ⟨b1, b2, b3, _⟩ := hcb
      clear hv HV hv2 HV2 hAa hAb
      go_enter Try.func41, Try.ntmps41
      go_wp2_with fail
      refine HV'.out.mono ?_
      rintro e w1 ⟨rfl, hb1⟩
      have hb2 := below_at hbw (by simp; omega) hb1
      have HE := Lib.hid (And.intro (HBLK.out.1.below hb1 (by simp; omega)) (And.intro (HBLK.out.2.1.below hb1 (by simp)) (HBLK.out.2.2.1.below hb1 (by simp))))
      have hlt := HE.out.2.2.lt
      have hT0 : w1.cell? ⟨w.heap.size + 1, 0, none⟩ = some (.int .i64 cb) := HE.out.2.1.cell 0
      have hT1 : w1.cell? ⟨w.heap.size + 1, 1, none⟩ = some (.slice B b.length d) := HE.out.2.1.cell 1
      clear hb1 hbw
      go_wp2_with fail
      refine (HV2'.out _ hb2).mono ?_
      rintro e w2 ⟨rfl, hb3⟩
      have hb4 := below_at hb2 hb2.size hb3
      have HE2 := Lib.hid (And.intro (HE.out.1.below hb3 HE.out.1.lt) (And.intro (HE.out.2.1.below hb3 HE.out.2.1.lt) (HE.out.2.2.below hb3 hlt)))
      have hlt2 := HE2.out.2.2.lt
      clear hT0 hT1 hb2 hb3 HE hlt
      have hS0 : w2.cell? ⟨w.heap.size, 0, none⟩ = some (.int .i64 ca) := HE2.out.1.cell 0
      have hS1 : w2.cell? ⟨w.heap.size, 1, none⟩ = some (.slice A a.length c) := HE2.out.1.cell 1
      have hT0 : w2.cell? ⟨w.heap.size + 1, 0, none⟩ = some (.int .i64 cb) := HE2.out.2.1.cell 0
      have hT1 : w2.cell? ⟨w.heap.size + 1, 1, none⟩ = some (.slice B b.length d) := HE2.out.2.1.cell 1
      have HB4 := Lib.hid hb4
      go_wp2_with fail
      refine (HU.out _ hb4).mono ?_
      rintro e w3 ⟨v, rfl, ho, hb5⟩
      have hE3 := HE2.out.2.2.below hb5 hlt2
      have HE3 := Lib.hid hE3
      have hb6 := below_step hb4 hb5
      obtain ⟨Av, cv, hve, _, _, _⟩ := own_form ho.1
      subst hve
      have hlo : w2.heap.size ≤ w3.heap.size := hb5.size
      have hl3 := hE3.lt
      have HO := Lib.hid ho
      have HB6 := Lib.hid hb6
      clear hS0 hS1 hT0 hT1 hb4 hE3 hb5 ho hb6
      generalize hun : union ca cb a b = un at HO HUL HOK2 ⊢
      have HUN := Lib.hid hun
      have HVM := Lib.hid (fun (W : World) (h : Below w3.heap.size w3 W) => smy.good_any (cnt := ca + cb) Av cv un W (by rw [HUL.out]; omega) ((own_rd HO.out.1).below h))
      clear hun
      have hO := Blk.new w3 29 #[.int .i64 (ca + cb), .slice Av un.length cv]
      have HOB := Lib.hid hO
      have hbx := (Below.refl w3.heap.size w3).alloc (Nat.le_refl _) (.cells #[.int .i64 (ca + cb), .slice Av un.length cv] 29)
      have HBX := Lib.hid hbx
      clear hO hbx
      cases hvm : vsmy (ca + cb) un with
      | false =>
        rw [hvm] at HVM HOK2
        clear hvm
        have HF := HOK2
        go_wp2_with fail
        refine (HVM.out _ HBX.out).mono ?_
        rintro e w5 ⟨rfl, hb5⟩
        have hE6 := (HE3.out.alloc (.cells #[.int .i64 (ca + cb), .slice Av un.length cv] 29)).below hb5 (by simp; omega)
        have e0 : w5.cell? ⟨w.heap.size + 2, 0, none⟩ = some (.int .i64 0) := hE6.cell 0
        have e1 : w5.cell? ⟨w.heap.size + 2, 1, none⟩ = some (.slice none 0 0) := hE6.cell 1
        have e3 := hE6.thaw 0
        have e4 := hE6.thaw 1
        have hb7 := below_step HB6.out (below_step HBX.out hb5)
        clear hE6 hb5
        go_wp2
        refine bodyPost_ret (v := .tuple #[.agg #[.int .i64 0, .slice none 0 0], .bool false]) (by simp [results, Try.results41, go_sem, e0, e1]) rfl ⟨.slice none 0 0, 0, by rw [HF.out], (HR0.out HF.out).2.symm, ⟨by rw [(HR0.out HF.out).1]; exact World.ownsRow_nil _ _ _ _, by rw [(HR0.out HF.out).1]; simp⟩, ?_⟩
        first | exact hb7 | exact (hb7.setCell (by simp only; omega) _).setCell (by simp only; omega) _
      | true =>
        rw [hvm] at HVM HOK2
        clear hvm
        go_wp2_with fail
        refine (HVM.out _ HBX.out).mono ?_
        rintro e w5 ⟨rfl, hb5⟩
        have hE6 := (HE3.out.alloc (.cells #[.int .i64 (ca + cb), .slice Av un.length cv] 29)).below hb5 (by simp; omega)
        have hO6 := HOB.out.below hb5 (by simp)
        have e0 : w5.cell? ⟨w.heap.size + 2, 0, none⟩ = some (.int .i64 0) := hE6.cell 0
        have e1 : w5.cell? ⟨w.heap.size + 2, 1, none⟩ = some (.slice none 0 0) := hE6.cell 1
        have e3 := hE6.thaw 0
        have e4 := hE6.thaw 1
        have o0 : w5.cell? ⟨w3.heap.size, 0, none⟩ = some (.int .i64 (ca + cb)) := hO6.cell 0
        have o1 : w5.cell? ⟨w3.heap.size, 1, none⟩ = some (.slice Av un.length cv) := hO6.cell 1
        have hb7 := below_step HB6.out (below_step HBX.out hb5)
        have ho6 := own_below (HO.out.1.alloc (.cells #[.int .i64 (ca + cb), .slice Av un.length cv] 29)) hb5
        have HOF := Lib.hid (fun u1 u2 => own_far (own_far ho6 (p := ⟨w.heap.size + 2, 0, none⟩) (fun e => by have := (ho6.lt _ e).1; simp at this; omega) u1) (p := ⟨w.heap.size + 2, 1, none⟩) (fun e => by have := (ho6.lt _ e).1; simp at this; omega) u2)
        clear hE6 hO6 hb5 ho6
        go_wp2
        refine bodyPost_ret (v := .tuple #[.agg #[.int .i64 (ca + cb), .slice Av un.length cv], .bool true]) (by simp [results, Try.results41, go_sem, e0, e1]) rfl ⟨_, _, by rw [HOK2.out], (HR1.out HOK2.out).2.symm, ⟨by rw [(HR1.out HOK2.out).1, HUN.out]; exact own_base (HOF.out _ _) (by omega), by rw [(HR1.out HOK2.out).1, HUN.out, HUL.out]; omega⟩, ?_⟩
        exact (hb7.setCell (by simp only; omega) _).setCell (by simp only; omega) _
end Go.Proofs.Ytlckeefjhafloaa.smyMg
