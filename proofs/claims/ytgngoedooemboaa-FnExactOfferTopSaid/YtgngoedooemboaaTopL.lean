/- Top lists, the program's and the reference's; MergeTops. Condition: at most 2^20 records. -/
import Derived.Test.YtgngoedooemboaaTopR
import Derived.Test.YtgngoedooemboaaConcat
set_option linter.unusedVariables false
set_option linter.unusedSimpArgs false
namespace Go.Proofs.Ytgngoedooemboaa.tops
open Go.RowKit Go.Proofs.Ytgngoedooemboaa.mem Go.Proofs.Ytgngoedooemboaa.stb Go.Proofs.Ytgngoedooemboaa.cmpI
open Go.Proofs.Ytgngoedooemboaa.ins (inB inB_iff)
open Go.Proofs.Ytgngoedooemboaa.vrecs (vrec vrec_len)

def z0 : Rec := ⟨0, 0⟩
/-- a rise at i -/
def up (l : List Rec) (i : Nat) : Bool := decide ((l.getD i z0).key < (l.getD (i + 1) z0).key)
def fallsB (l : List Rec) : Bool := (List.range (l.length - 1)).all fun i => !up l i
theorem falls_true {l : List Rec} (h : ∀ i, i + 1 < l.length → up l i = false) : fallsB l = true := by
  rw [fallsB, List.all_eq_true]
  intro i hi
  rw [List.mem_range] at hi
  rw [h i (by omega)]; rfl
theorem falls_false {l : List Rec} {i : Nat} (hi : i + 1 < l.length) (h : up l i = true) : fallsB l = false := by
  rw [← Bool.not_eq_true, fallsB, List.all_eq_true]
  intro h2
  have := h2 i (List.mem_range.2 (by omega))
  rw [h] at this; simp at this
theorem falls_at {l : List Rec} (h : fallsB l = true) {i : Nat} (hi : i + 1 < l.length) : up l i = false := by
  cases hc : up l i with
  | false => rfl
  | true => rw [falls_false hi hc] at h; cases h
theorem getD_r (l : List Rec) {i : Nat} (h : i < l.length) : l.getD i z0 = l[i] := by
  rw [List.getD_eq_getElem?_getD, List.getElem?_eq_getElem h]; rfl
theorem up_at (l : List Rec) {i : Nat} (h : i + 1 < l.length) : up l i = decide ((l[i]'(by omega)).key < l[i + 1].key) := by
  rw [up, getD_r l (by omega), getD_r l h]
/-- a falling list is in order -/
theorem falls_asc {l : List Rec} (h : fallsB l = true) : Asc ltT l := by
  have key : ∀ d i (hd : i + d < l.length), (l[i + d]).key ≤ (l[i]'(by omega)).key := by
    intro d
    induction d with
    | zero => intro i hd; exact Int.le_refl _
    | succ d ih =>
      intro i hd
      have h1 := ih i (by omega)
      have h2 := falls_at h (i := i + d) (by omega)
      rw [up_at l (by omega)] at h2
      have h3 := of_decide_eq_false h2
      show (l[i + d + 1]).key ≤ _
      omega
  refine List.pairwise_iff_getElem.2 fun i j hi hj hij => ?_
  have := key (j - i) i (by omega)
  have e : i + (j - i) = j := by omega
  simp only [e] at this
  simp only [ltT, decide_eq_false_iff_not]
  omega

set_option maxRecDepth 100000 in
set_option maxHeartbeats 2000000 in
theorem sortedF_any (A : Option Addr) (c : Nat) (l : List Rec) (w : World) (hn : l.length ≤ 1048576) (hr : Rd w 2 A l.length (recs l)) :
    Calls Try.prog 98 #[.slice A l.length c, .func (.func 99) #[] #[]] w fun e w' => e = .returned (.bool (fallsB l)) ∧ Below w.heap.size w w' := by
  have hent : ∀ (args : Array Value) (w : World), (callFunc 99 args).run Try.prog w = .ok (.enter 99 args) w := fun _ _ => rfl
  go_enter Try.func98, Try.ntmps98
  go_wp2
  go_loopg [5] (l.length + 1) (fun f i wr => ∃ k : Nat, k < f ∧ k ≤ l.length ∧ i = .int .i64 ((k : Int) - 1) ∧ (∀ j, k ≤ j + 1 → j + 1 < l.length → up l j = false) ∧ Below w.heap.size w wr)
  case atStart => exact ⟨l.length, by omega, Nat.le_refl _, by go_num, fun j h1 h2 => by omega, Below.refl _ _⟩
  case round =>
    obtain ⟨k, hkf, hk, rfl, hd, hb⟩ := hrel
    have hr := hr.below hb
    have HD := Lib.hid hd
    clear hd
    by_cases hk1 : 1 < k
    · obtain ⟨t, rfl⟩ : ∃ t, k = t + 2 := ⟨k - 2, by omega⟩
      obtain ⟨b, off, rfl, cb0, cb1⟩ := hr.rec (k := t) (by omega)
      obtain ⟨ca0, ca1⟩ := hr.rec_at (k := t + 1) (by omega)
      have HU := Lib.hid (up_at l (i := t) (by omega))
      have HF := Lib.hid (fun h => falls_false (l := l) (i := t) (by omega) h)
      generalize l[t]'(by omega) = y at cb0 cb1 HU
      generalize l[t + 1]'(by omega) = x at ca0 ca1 HU
      rw [show (((t + 2 : Nat)) : Int) - 1 = (t : Int) + 1 by omega]
      have HCC := Lib.hid (fun d os => list_clo x y (Go.Sort.grow (redrawn wr d) os))
      have HNG := Lib.hid (cmpI_neg y.key x.key)
      generalize cmpI y.key x.key = z at HCC HNG
      have rcb0 := fun d os => cell_regrown cb0 d os
      have rcb1 := fun d os => cell_regrown cb1 d os
      have rca0 := fun d os => cell_regrown ca0 d os
      have rca1 := fun d os => cell_regrown ca1 d os
      clear cb0 cb1 ca0 ca1
      have q1 : (0 : Int) < (t : Int) + 1 := by omega
      have q2 : IntKind.i64.wrap (t : Int) = (t : Int) := IntWalk.i64_in _ (by omega)
      have q3 : (t : Int) < (l.length : Int) := by omega
      have q4 : (t : Int) + 1 < (l.length : Int) := by omega
      have q5 : ((t : Int) + 1).toNat = t + 1 := by omega
      have q6 : (0 : Int) ≤ (t : Int) + 1 := by omega
      by_cases hz : z < 0
      · have HR := Lib.hid (HF.out (show up l t = true by rw [HU.out, ← HNG.out]; exact decide_eq_true hz))
        go_wp2_with fail
        (refine wp_region_quiet_below (by kernel_rfl) (by kernel_rfl) ?_; (repeat (quiet_step (exact Calls.regrown_of (HCC.out _ _)))); refine wpQuiet_nil ?_; intro _ hw'; obtain ⟨⟨dq, osq⟩, hw''⟩ := hw'; subst hw'')
        have hb2 := below_at hb hb.size (below_regrown wr dq osq)
        clear rcb0 rcb1 rca0 rca1
        go_wp2
        go_ret
        exact ⟨ret_bool HR.out.symm, hb2⟩
      · have HR := Lib.hid (show up l t = false by rw [HU.out, ← HNG.out]; exact decide_eq_false hz)
        go_wp2_with fail
        (refine wp_region_quiet_below (by kernel_rfl) (by kernel_rfl) ?_; (repeat (quiet_step (exact Calls.regrown_of (HCC.out _ _)))); refine wpQuiet_nil ?_; intro _ hw'; obtain ⟨⟨dq, osq⟩, hw''⟩ := hw'; subst hw'')
        have hb2 := below_at hb hb.size (below_regrown wr dq osq)
        clear rcb0 rcb1 rca0 rca1
        clear q5
        go_wp2
        go_roundg (gk - 1)
        case measure => omega
        case rel => exact ⟨t + 1, by omega, by omega, by go_num, fun j h1 h2 => by
          by_cases e : j = t
          · subst e; exact HR.out
          · exact HD.out j (by omega) h2, hb2⟩
    · have HR := Lib.hid (show fallsB l = true from falls_true fun i hi => HD.out i (by omega) hi)
      have q1 : ¬ (0 : Int) < (k : Int) - 1 := by omega
      go_wp2
      go_ret
      exact ⟨ret_bool HR.out.symm, hb⟩

def okL (l : List Rec) (k : Int) : Bool := inB k 1 16 && (decide ((l.length : Int) ≤ k) && (vrec l && fallsB l))
set_option maxRecDepth 100000 in
set_option maxHeartbeats 2000000 in
theorem list_impl (A : Option Addr) (c : Nat) (l : List Rec) (k : Int) (w : World) (hn : l.length ≤ 1048576) (hr : Rd w 2 A l.length (recs l)) :
    Calls Try.prog 69 #[.slice A l.length c, .int .i64 k] w fun e w' => e = .returned (.bool (okL l k)) ∧ Below w.heap.size w w' := by
  have HS := Lib.hid (sortedF_any A c l w hn hr)
  have HV := Lib.hid (fun w1 h => vrecs.impl_any A c l w1 hn h)
  have HO := Lib.hid (show okL l k = (inB k 1 16 && (decide ((l.length : Int) ≤ k) && (vrec l && fallsB l))) from rfl)
  generalize fallsB l = fb at HS HO
  generalize vrec l = vb at HV HO
  cases hi : inB k 1 16 with
  | false =>
    have HI := Lib.hid hi
    have HR := Lib.hid (show okL l k = false by rw [HO.out, hi]; rfl)
    clear hi
    go_enter Try.func69, Try.ntmps69
    go_wp2_with fail
    refine HS.out.mono ?_
    rintro e w1 ⟨rfl, hb1⟩
    go_wp2_with fail
    refine (vrecs.itop_any _ _).mono ?_
    rintro e w2 ⟨rfl, rfl⟩
    rw [HI.out]
    go_wp2
    go_ret
    exact ⟨ret_bool HR.out.symm, hb1⟩
  | true =>
    have HI := Lib.hid hi
    have HK := Lib.hid (inB_iff.1 hi)
    by_cases hl : (l.length : Int) ≤ k
    · have HR := Lib.hid (show okL l k = (vb && fb) by rw [HO.out, hi, decide_eq_true hl]; rfl)
      clear hi
      cases vb with
      | false =>
        go_enter Try.func69, Try.ntmps69
        go_wp2_with fail
        refine HS.out.mono ?_
        rintro e w1 ⟨rfl, hb1⟩
        go_wp2_with fail
        refine (vrecs.itop_any _ _).mono ?_
        rintro e w2 ⟨rfl, rfl⟩
        rw [HI.out]
        go_wp2_with fail
        refine (HV.out _ (hr.below hb1)).mono ?_
        rintro e w2 ⟨rfl, hb2⟩
        have hb3 := below_step hb1 hb2
        go_wp2
        go_ret
        exact ⟨ret_bool (by rw [HR.out]; rfl), hb3⟩
      | true =>
        go_enter Try.func69, Try.ntmps69
        go_wp2_with fail
        refine HS.out.mono ?_
        rintro e w1 ⟨rfl, hb1⟩
        go_wp2_with fail
        refine (vrecs.itop_any _ _).mono ?_
        rintro e w2 ⟨rfl, rfl⟩
        rw [HI.out]
        go_wp2_with fail
        refine (HV.out _ (hr.below hb1)).mono ?_
        rintro e w2 ⟨rfl, hb2⟩
        have hb3 := below_step hb1 hb2
        go_wp2
        go_ret
        exact ⟨ret_bool (by rw [HR.out]; simp), hb3⟩
    · have HR := Lib.hid (show okL l k = false by rw [HO.out, hi, decide_eq_false hl]; rfl)
      have hl2 : k < (l.length : Int) := by omega
      clear hi
      go_enter Try.func69, Try.ntmps69
      go_wp2_with fail
      refine HS.out.mono ?_
      rintro e w1 ⟨rfl, hb1⟩
      go_wp2_with fail
      refine (vrecs.itop_any _ _).mono ?_
      rintro e w2 ⟨rfl, rfl⟩
      rw [HI.out]
      go_wp2
      go_ret
      exact ⟨ret_bool HR.out.symm, hb1⟩
set_option maxRecDepth 100000 in
set_option maxHeartbeats 2000000 in
theorem list_spec (A : Option Addr) (c : Nat) (l : List Rec) (k : Int) (w : World) (hn : l.length ≤ 1048576) (hr : Rd w 2 A l.length (recs l)) :
    Calls Try.prog 68 #[.slice A l.length c, .int .i64 k] w fun e w' => e = .returned (.bool (okL l k)) ∧ Below w.heap.size w w' := by
  have HV := Lib.hid (vrecs.spec_any A c l w hn hr)
  have HO := Lib.hid (show okL l k = (inB k 1 16 && (decide ((l.length : Int) ≤ k) && (vrec l && fallsB l))) from rfl)
  generalize vrec l = vb at HV HO
  cases vb with
  | false =>
    have HR := Lib.hid (show okL l k = false by rw [HO.out]; simp)
    go_enter Try.func68, Try.ntmps68
    go_wp2_with fail
    refine HV.out.mono ?_
    rintro e w1 ⟨rfl, rfl⟩
    go_wp2
    go_ret
    exact ⟨ret_bool HR.out.symm, Below.refl _ _⟩
  | true =>
    cases hi : inB k 1 16 with
    | false =>
      have HI := Lib.hid hi
      have HR := Lib.hid (show okL l k = false by rw [HO.out, hi]; rfl)
      clear hi
      go_enter Try.func68, Try.ntmps68
      go_wp2_with fail
      refine HV.out.mono ?_
      rintro e w1 ⟨rfl, rfl⟩
      go_wp2_with fail
      refine (ins.spec_any _ _ _ _).mono ?_
      rintro e w2 ⟨rfl, rfl⟩
      rw [HI.out]
      go_wp2
      go_ret
      exact ⟨ret_bool HR.out.symm, Below.refl _ _⟩
    | true =>
      have HI := Lib.hid hi
      by_cases hl : k < (l.length : Int)
      · have HR := Lib.hid (show okL l k = false by rw [HO.out, hi, decide_eq_false (by omega)]; rfl)
        clear hi
        go_enter Try.func68, Try.ntmps68
        go_wp2_with fail
        refine HV.out.mono ?_
        rintro e w1 ⟨rfl, rfl⟩
        go_wp2_with fail
        refine (ins.spec_any _ _ _ _).mono ?_
        rintro e w2 ⟨rfl, rfl⟩
        rw [HI.out]
        go_wp2
        go_ret
        exact ⟨ret_bool HR.out.symm, Below.refl _ _⟩
      · have HR := Lib.hid (show okL l k = fallsB l by rw [HO.out, hi, decide_eq_true (by omega)]; simp)
        clear hi
        go_enter Try.func68, Try.ntmps68
        go_wp2_with fail
        refine HV.out.mono ?_
        rintro e w1 ⟨rfl, rfl⟩
        go_wp2_with fail
        refine (ins.spec_any _ _ _ _).mono ?_
        rintro e w2 ⟨rfl, rfl⟩
        rw [HI.out]
        go_wp2
        go_loopg [5] (l.length + 2) (fun f i wr => ∃ t m : Nat, l.length + 1 < t + f + 1 ∧ (t + 1 ≤ l.length ∨ t = 0) ∧ i = .int .i64 ((t : Int) + 1) ∧ (∀ j, j < t → up l j = false) ∧ wr = w.drewN m)
        case atStart => exact ⟨0, 0, by omega, by omega, by go_num, fun j h => absurd h (by omega), rfl⟩
        case round =>
          obtain ⟨t, m, htf, ht, rfl, hd, hwr⟩ := hrel
          have hrr := hr.drewN m
          rw [← hwr] at hrr
          have hbr : Below w.heap.size w wr := by rw [hwr]; exact below_drewN (Below.refl _ _) m
          have HD := Lib.hid hd
          have HW := Lib.hid hwr
          clear hd hwr
          by_cases hlt : t + 1 < l.length
          · obtain ⟨b, off, rfl, cb0, cb1⟩ := hrr.rec (k := t) (by omega)
            obtain ⟨ca0, ca1⟩ := hrr.rec_at (k := t + 1) hlt
            have HU := Lib.hid (up_at l (i := t) hlt)
            have HF := Lib.hid (fun h => falls_false (l := l) (i := t) hlt h)
            generalize l[t]'(by omega) = y at cb0 cb1 HU
            generalize l[t + 1] = x at ca0 ca1 HU
            have q1 : (t : Int) < (l.length : Int) := by omega
            have q2 : (t : Int) + 1 < (l.length : Int) := by omega
            by_cases hz : y.key < x.key
            · have HR2 := Lib.hid (HF.out (show up l t = true by rw [HU.out]; exact decide_eq_true hz))
              go_wp2_with fail
              go_quiet (fail)
              have hb2 := below_drewN hbr nq
              go_wp2
              go_ret
              exact ⟨ret_bool (by rw [HR.out, HR2.out]), hb2⟩
            · have HR2 := Lib.hid (show up l t = false by rw [HU.out]; exact decide_eq_false hz)
              go_wp2_with fail
              go_quiet (fail)
              go_wp2
              go_roundg (gk - 1)
              case measure => omega
              case rel => exact ⟨t + 1, m + nq, by omega, by omega, by go_num, fun j h => by
                by_cases e : j = t
                · subst e; exact HR2.out
                · exact HD.out j (by omega), by rw [HW.out, World.drewN_drewN]⟩
          · have HR2 := Lib.hid (show fallsB l = true from falls_true fun i hi => HD.out i (by omega))
            have q2 : ¬ (t : Int) + 1 < (l.length : Int) := by omega
            go_wp2
            go_ret
            exact ⟨ret_bool (by rw [HR.out, HR2.out]), hbr⟩
end Go.Proofs.Ytgngoedooemboaa.tops
