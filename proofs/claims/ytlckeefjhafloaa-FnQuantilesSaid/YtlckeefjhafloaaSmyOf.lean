/- SummaryOf, the program's and the reference's. Condition: at most 2^20 elements. -/
import Derived.Test.YtlckeefjhafloaaSortI
import Derived.Test.YtlckeefjhafloaaList
import Derived.Test.YtlckeefjhafloaaSmy
import Derived.Test.YtlckeefjhafloaaCut
import Derived.Deep.RegionLaw
import Derived.Deep.LoopGhost
set_option linter.unusedVariables false
set_option linter.unusedSimpArgs false
namespace Go.Proofs.Ytlckeefjhafloaa.smyOf
open Go.RowKit Go.Proofs.Ytlckeefjhafloaa.mem Go.Proofs.Ytlckeefjhafloaa.srt
open Go.Proofs.Ytlckeefjhafloaa.lists (vlist)

def exk (s : List Int) (k : Nat) : List Rkv := (List.range k).map fun j => ⟨s.getD j 0, (j : Int) + 1, (j : Int) + 1⟩
theorem exk_len (s : List Int) (k : Nat) : (exk s k).length = k := by simp [exk]
theorem exk_step (s : List Int) (k : Nat) : exk s (k + 1) = exk s k ++ [⟨s.getD k 0, (k : Int) + 1, (k : Int) + 1⟩] := by simp [exk, List.range_succ]
def okS (zs : List Int) : Bool := vlist zs
def resS (zs : List Int) : List Rkv := if okS zs = true then exk (srt zs) zs.length else []
def resSN (zs : List Int) : Int := if okS zs = true then (zs.length : Int) else 0
theorem getD_z (l : List Int) {i : Nat} (h : i < l.length) : l.getD i 0 = l[i] := by
  rw [List.getD_eq_getElem?_getD, List.getElem?_eq_getElem h]; rfl

set_option maxRecDepth 100000 in
set_option maxHeartbeats 4000000 in
theorem impl_any (A : Option Addr) (c : Nat) (zs : List Int) (w : World) (hn : zs.length ≤ 1048576) (hr : Rd w 1 A zs.length (ints zs)) :
    Calls Try.prog 19 #[.slice A zs.length c] w fun e w' => ∃ (v : Value) (n : Int), e = .returned (.tuple #[.agg #[.int .i64 n, v], .bool (okS zs)]) ∧ n = resSN zs ∧ OwnRkv w w' v (resS zs) ∧ Below w.heap.size w w' := by
  have HV := Lib.hid (fun o => lists.impl_any A c zs (w.alloc o) hn (hr.alloc o))
  have hbo := (Below.refl w.heap.size w).alloc (Nat.le_refl _) (.cells #[.int .i64 0, .slice none 0 0] 29)
  have HBO := Lib.hid hbo
  have HR0 := Lib.hid (fun (h : okS zs = false) => show resS zs = [] ∧ resSN zs = 0 by simp [resS, resSN, h])
  have HR1 := Lib.hid (fun (h : okS zs = true) => show resS zs = exk (srt zs) zs.length ∧ resSN zs = (zs.length : Int) by simp [resS, resSN, h])
  have HE := Lib.hid (Blk.new w 29 #[.int .i64 0, .slice none 0 0])
  clear hbo
  cases hv : vlist zs with
  | false =>
    have HF := Lib.hid (show okS zs = false from hv)
    rw [hv] at HV
    clear hv
    go_enter Try.func19, Try.ntmps19
    go_wp2_with fail
    refine (HV.out _).mono ?_
    rintro e w1 ⟨rfl, hb1⟩
    have hb2 := below_step HBO.out hb1
    have hE := HE.out.below hb1 (by simp)
    have e0 : w1.cell? ⟨w.heap.size, 0, none⟩ = some (.int .i64 0) := hE.cell 0
    have e1 : w1.cell? ⟨w.heap.size, 1, none⟩ = some (.slice none 0 0) := hE.cell 1
    have e3 := hE.thaw 0
    have e4 := hE.thaw 1
    clear hE hb1
    go_wp2
    refine bodyPost_ret (v := .tuple #[.agg #[.int .i64 0, .slice none 0 0], .bool false]) (by simp [results, Try.results19, go_sem, e0, e1]) rfl ⟨.slice none 0 0, 0, by rw [HF.out], (HR0.out HF.out).2.symm, ⟨by rw [(HR0.out HF.out).1]; exact World.ownsRow_nil _ _ _ _, by rw [(HR0.out HF.out).1]; simp⟩, ?_⟩
    first | exact hb2 | exact (hb2.setCell (by simp) _).setCell (by simp) _
  | true =>
    have HF := Lib.hid (show okS zs = true from hv)
    rw [hv] at HV
    clear hv
    go_enter Try.func19, Try.ntmps19
    go_wp2_with fail
    refine (HV.out _).mono ?_
    rintro e w1 ⟨rfl, hb1⟩
    have hb2 := below_step HBO.out hb1
    have hE := HE.out.below hb1 (by simp)
    have hlt := hE.lt
    obtain ⟨h1, h2, h3⟩ := box2 w1 51 29 #[] #[.int .i64 (zs.length : Int), .slice (some ⟨w1.heap.size, 0, none⟩) 0 0]
    have HST := Lib.hid (And.intro hE (And.intro h1 (And.intro h2 (And.intro h3 hb2))))
    have ho0 := (World.ownsRow_made (e := 51) (size := 3) w1 #[] 0 (Nat.le_refl _) (Nat.zero_le _) (by simp)).alloc (.cells #[.int .i64 (zs.length : Int), .slice (some ⟨w1.heap.size, 0, none⟩) 0 0] 29)
    have HO0 := Lib.hid ho0
    have HS := Lib.hid (srt.impl_any A c zs _ hn (hr.below (below_step hb2 h3)))
    clear hE h1 h2 h3 hb1 ho0
    go_wp2_with fail
    refine HS.out.mono ?_
    rintro e w2 ⟨v, rfl, hos, hb3⟩
    obtain ⟨As, cs, rfl, _, _, hrs⟩ := own_form hos
    have hsz : w1.heap.size + 2 ≤ w2.heap.size := by have := hb3.size; simp at this; omega
    have hA : ∀ b off, 0 < zs.length → As = some ⟨b, off, none⟩ → w1.heap.size + 2 ≤ b ∧ b < w2.heap.size := fun b off h0 e => by
      obtain ⟨g, e2, h1, h2⟩ := own_addr hos h0
      rw [e2] at e; injection e with e; injection e with e3 e4
      subst e3; simp at h1; omega
    have HA := Lib.hid hA
    have HSL := Lib.hid (srt_len zs)
    generalize hss : srt zs = s at hrs HSL
    have HSS := Lib.hid hss
    have HX := Lib.hid (And.intro (HST.out.1.below (w' := w2) (below_step HST.out.2.2.2.1 hb3) hlt) (And.intro (HST.out.2.2.1.below hb3 (by simp)) (And.intro (own_below HO0.out hb3) (And.intro hrs (below_step hb2 (below_step HST.out.2.2.2.1 hb3))))))
    clear hss hrs hos hA hb3 hb2
    go_wp2
    go_loopg [18] (zs.length + 1) (fun f i wr => ∃ (k : Nat) (v : Value), i = .int .i64 (k : Int) ∧ k ≤ zs.length ∧ zs.length < k + f ∧ Blk wr w.heap.size 29 #[.int .i64 0, .slice none 0 0] ∧ Blk wr (w1.heap.size + 1) 29 #[.int .i64 (zs.length : Int), v] ∧ wr.ownsRow w1.heap.size 51 3 v (exk s k).length (rkvs (exk s k)) ∧ (∀ g, v.ownBlock = some g → g = w1.heap.size ∨ w2.heap.size ≤ g) ∧ Rd wr 1 As zs.length (ints s) ∧ Below w.heap.size w wr ∧ w2.heap.size ≤ wr.heap.size)
    case atStart => exact ⟨0, _, rfl, by omega, by omega, HX.out.1, HX.out.2.1, HX.out.2.2.1, fun g e => by simp [Value.ownBlock] at e; exact Or.inl e.symm, HX.out.2.2.2.1, HX.out.2.2.2.2, Nat.le_refl _⟩
    case round =>
      obtain ⟨k, v, rfl, hk, hf, hE, hO, ho, hg, hrs, hb, hw2⟩ := hrel
      obtain ⟨Av, cv, hve, _, _, _⟩ := own_form ho
      subst hve
      have hel := exk_len s k
      by_cases hlt2 : k < zs.length
      · have hks : k < s.length := by rw [HSL.out]; exact hlt2
        have hrs' : Rd wr 1 As s.length (ints s) := by rw [HSL.out]; exact hrs
        obtain ⟨b, off, rfl, hc⟩ := hrs'.int hks
        have hbb := HA.out b off (by omega) rfl
        have HEX := Lib.hid (exk_step s k)
        rw [getD_z s hks] at HEX
        generalize s[k] = x at hc HEX
        have HH := Lib.hid (And.intro hE (And.intro hO (And.intro ho (And.intro hg (And.intro hrs hb)))))
        have hO1 : wr.cell? ⟨w1.heap.size + 1, 1, none⟩ = some (.slice Av (exk s k).length cv) := hO.cell 1
        have hO1z := fun (o : Obj) => cells_below (w' := wr.alloc o) ((Below.refl _ _).alloc (Nat.le_refl _) o) hO1
        have hh : (exk s k).length ≤ 1099511627776 := by omega
        have hbs : w1.heap.size ≤ wr.heap.size := by omega
        have hlw := hE.lt
        clear hE hO hg hrs hrs' hb hel
        generalize hek : exk s k = pk at ho hh HEX hO1 hO1z HH ⊢
        have HEK := Lib.hid hek
        clear hek
        go_wp2_with (at_builtin; refine mem.push_atH _ rfl _ _ 27 rfl w1.heap.size 51 _ 3 24 Try.underlying27 mem.info_rkv rfl (by decide) (.slice Av pk.length cv) _ _ (by rfl) ho wr.heap.size (by simp) (rkvs [(⟨x, (k : Int) + 1, (k : Int) + 1⟩ : Rkv)]) _ rfl (mem.rkvs_one [_]) (by rfl) hh (by decide) hbs ?_; intro v' w' ho' hg' hnw'; have hO2 := HH.out.2.1.grown hg' (fun e => by rcases HH.out.2.2.2.1 _ e.symm with h | h <;> omega); have hcc : w'.cell? ⟨w1.heap.size + 1, 1, none⟩ = some (.slice Av pk.length cv) := hO2.cell 1; have hff := hO2.thaw 1; obtain ⟨A', c', hve, _, _, _⟩ := own_form ho'; subst hve)
        have hno : ∀ g, (Value.slice A' (pk.length + 1) c').ownBlock = some g → g = w1.heap.size ∨ w2.heap.size ≤ g := fun g e => by
          rcases hnw' g e with h | h
          · exact HH.out.2.2.2.1 g h
          · omega
        have hO3 := hO2.put 1 (.slice A' (pk.length + 1) c')
        have hoo := own_far ho' (p := ⟨w1.heap.size + 1, 1, none⟩) (fun e => by have := hno _ e; simp only at this; omega) (.slice A' (pk.length + 1) c')
        have hE3 := (HH.out.1.grown hg' (fun e => by rcases HH.out.2.2.2.1 _ e.symm with h | h <;> omega)).far (p := ⟨w1.heap.size + 1, 1, none⟩) (by simp only; omega) (.slice A' (pk.length + 1) c')
        have hr3 := rd_far (HH.out.2.2.2.2.1.grown hg' (fun b' o' e e2 => by injection e with e; injection e with e3 e4; subst e3; rcases HH.out.2.2.2.1 _ e2.symm with h | h <;> omega)) (p := ⟨w1.heap.size + 1, 1, none⟩) (fun b' o' e => by injection e with e; injection e with e3 e4; subst e3; simp only; omega) (.slice A' (pk.length + 1) c')
        have hb3 := (below_grown HH.out.2.2.2.2.2 HH.out.2.2.2.2.2.size hg' (fun g h => by rcases HH.out.2.2.2.1 _ h with h | h <;> omega)).setCell (p := ⟨w1.heap.size + 1, 1, none⟩) (by simp only; omega) (.slice A' (pk.length + 1) c')
        have hsz3 : w2.heap.size ≤ (w'.setCell ⟨w1.heap.size + 1, 1, none⟩ (.slice A' (pk.length + 1) c')).heap.size := by have := hg'.size; simp [World.setCell]; omega
        have HALL := Lib.hid (And.intro hE3 (And.intro hO3 (And.intro hoo (And.intro hno (And.intro hr3 (And.intro hb3 hsz3))))))
        clear ho' hg' hnw' hO2 hcc hff hO3 hoo hE3 hr3 hb3 hsz3 hno
        go_wp2
        go_roundg (gk - 1)
        case rel => exact ⟨k + 1, _, by go_num, by omega, by omega, HALL.out.1, HALL.out.2.1, by rw [HEX.out, List.length_append, rkvs_app]; exact HALL.out.2.2.1, HALL.out.2.2.2.1, HALL.out.2.2.2.2.1, HALL.out.2.2.2.2.2.1, HALL.out.2.2.2.2.2.2⟩
        case measure => omega
      · obtain rfl : k = zs.length := by omega
        have e0 : wr.cell? ⟨w.heap.size, 0, none⟩ = some (.int .i64 0) := hE.cell 0
        have e1 : wr.cell? ⟨w.heap.size, 1, none⟩ = some (.slice none 0 0) := hE.cell 1
        have e3 := hE.thaw 0
        have e4 := hE.thaw 1
        have o0 : wr.cell? ⟨w1.heap.size + 1, 0, none⟩ = some (.int .i64 (zs.length : Int)) := hO.cell 0
        have o1 : wr.cell? ⟨w1.heap.size + 1, 1, none⟩ = some (.slice Av (exk s zs.length).length cv) := hO.cell 1
        have HEL := Lib.hid hel
        have HRR := Lib.hid (show resS zs = exk s zs.length by rw [(HR1.out HF.out).1, HSS.out])
        generalize exk s zs.length = pk at ho o1 HEL HRR
        have HOF := Lib.hid (fun u1 u2 => own_far (own_far ho (p := ⟨w.heap.size, 0, none⟩) (fun e => by have := (ho.lt _ e).1; simp at this; omega) u1) (p := ⟨w.heap.size, 1, none⟩) (fun e => by have := (ho.lt _ e).1; simp at this; omega) u2)
        have HBF := Lib.hid (fun u1 u2 => (hb.setCell (p := ⟨w.heap.size, 0, none⟩) (by simp) u1).setCell (p := ⟨w.heap.size, 1, none⟩) (by simp) u2)
        have hlw : w.heap.size ≤ w1.heap.size := by omega
        clear ho hO hE hb hel hg hrs
        go_wp2
        refine bodyPost_ret (v := .tuple #[.agg #[.int .i64 (zs.length : Int), .slice Av pk.length cv], .bool true]) (by simp [results, Try.results19, go_sem, e0, e1]) rfl ⟨_, _, by rw [HF.out], (HR1.out HF.out).2.symm, ⟨by rw [HRR.out]; exact own_base (HOF.out _ _) hlw, by rw [HRR.out, HEL.out]; omega⟩, HBF.out _ _⟩
end Go.Proofs.Ytlckeefjhafloaa.smyOf
