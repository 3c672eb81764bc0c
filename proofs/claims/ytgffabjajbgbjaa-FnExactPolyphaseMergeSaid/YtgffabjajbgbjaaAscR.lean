/- Ascending lists of records, and many of them, the program's and the reference's. Condition: at most 2^20 records a list. -/
import Derived.Test.YtgffabjajbgbjaaVrec
import Derived.Test.YtgffabjajbgbjaaCmpI
import Derived.Test.YtgffabjajbgbjaaNest
import Derived.Deep.LoopGhost
import Derived.Lib.QuietBelow
set_option linter.unusedVariables false
set_option linter.unusedSimpArgs false
namespace Go.Proofs.Ytgffabjajbgbjaa.ascr
open Go.RowKit Go.Proofs.Ytgffabjajbgbjaa.mem Go.Proofs.Ytgffabjajbgbjaa.cmpI Go.Proofs.Ytgffabjajbgbjaa.nest
open Go.Proofs.Ytgffabjajbgbjaa.vrecs (vrec vrec_len)

def z0 : Rec := ⟨0, 0⟩
/-- a fall at i -/
def dn (l : List Rec) (i : Nat) : Bool := decide ((l.getD (i + 1) z0).key < (l.getD i z0).key)
def ascB (l : List Rec) : Bool := (List.range (l.length - 1)).all fun i => !dn l i
theorem asc_true {l : List Rec} (h : ∀ i, i + 1 < l.length → dn l i = false) : ascB l = true := by
  rw [ascB, List.all_eq_true]
  intro i hi
  rw [List.mem_range] at hi
  rw [h i (by omega)]; rfl
theorem asc_false {l : List Rec} {i : Nat} (hi : i + 1 < l.length) (h : dn l i = true) : ascB l = false := by
  rw [← Bool.not_eq_true, ascB, List.all_eq_true]
  intro h2
  have := h2 i (List.mem_range.2 (by omega))
  rw [h] at this; simp at this
theorem asc_at {l : List Rec} (h : ascB l = true) {i : Nat} (hi : i + 1 < l.length) : dn l i = false := by
  cases hc : dn l i with
  | false => rfl
  | true => rw [asc_false hi hc] at h; cases h
theorem getD_r (l : List Rec) {i : Nat} (h : i < l.length) : l.getD i z0 = l[i] := by
  rw [List.getD_eq_getElem?_getD, List.getElem?_eq_getElem h]; rfl
theorem dn_at (l : List Rec) {i : Nat} (h : i + 1 < l.length) : dn l i = decide (l[i + 1].key < (l[i]'(by omega)).key) := by
  rw [dn, getD_r l h, getD_r l (show i < l.length by omega)]
/-- an ascending list is in order -/
theorem asc_pair {l : List Rec} (h : ascB l = true) : l.Pairwise fun x y => x.key ≤ y.key := by
  have key : ∀ d i (hd : i + d < l.length), (l[i]'(by omega)).key ≤ (l[i + d]).key := by
    intro d
    induction d with
    | zero => intro i hd; exact Int.le_refl _
    | succ d ih =>
      intro i hd
      have h1 := ih i (by omega)
      have h2 := asc_at h (i := i + d) (by omega)
      rw [dn_at l (by omega)] at h2
      have h3 := of_decide_eq_false h2
      show _ ≤ (l[i + d + 1]).key
      omega
  refine List.pairwise_iff_getElem.2 fun i j hi hj hij => ?_
  have := key (j - i) i (by omega)
  have e : i + (j - i) = j := by omega
  simp only [e] at this
  exact this
set_option maxRecDepth 100000 in
set_option maxHeartbeats 2000000 in
theorem sortedF_any (A : Option Addr) (c : Nat) (l : List Rec) (w : World) (hn : l.length ≤ 1048576) (hr : Rd w 2 A l.length (recs l)) :
    Calls Try.prog 104 #[.slice A l.length c, .func (.func 105) #[] #[]] w fun e w' => e = .returned (.bool (ascB l)) ∧ Below w.heap.size w w' := by
  have hent : ∀ (args : Array Value) (w : World), (callFunc 105 args).run Try.prog w = .ok (.enter 105 args) w := fun _ _ => rfl
  go_enter Try.func104, Try.ntmps104
  go_wp2
  go_loopg [5] (l.length + 1) (fun f i wr => ∃ k : Nat, k < f ∧ k ≤ l.length ∧ i = .int .i64 ((k : Int) - 1) ∧ (∀ j, k ≤ j + 1 → j + 1 < l.length → dn l j = false) ∧ Below w.heap.size w wr)
  case atStart => exact ⟨l.length, by omega, Nat.le_refl _, by go_num, fun j h1 h2 => by omega, Below.refl _ _⟩
  case round =>
    obtain ⟨k, hkf, hk, rfl, hd, hb⟩ := hrel
    have hr := hr.below hb
    have HD := Lib.hid hd
    clear hd
    by_cases hk1 : 1 < k
    · obtain ⟨t, rfl⟩ : ∃ t, k = t + 2 := ⟨k - 2, by omega⟩
      obtain ⟨b, off, rfl, cb0, cb1⟩ := hr.rec (k := t) (by omega)
      obtain ⟨ca0, ca1⟩ := hr.rec_at (k := t + 1) (by omega)
      have HU := Lib.hid (dn_at l (i := t) (by omega))
      have HF := Lib.hid (fun h => asc_false (l := l) (i := t) (by omega) h)
      generalize l[t]'(by omega) = y at cb0 cb1 HU
      generalize l[t + 1]'(by omega) = x at ca0 ca1 HU
      rw [show (((t + 2 : Nat)) : Int) - 1 = (t : Int) + 1 by omega]
      have HCC := Lib.hid (fun d os => keys_any x.key x.tag y.key y.tag (Go.Sort.grow (redrawn wr d) os))
      have HNG := Lib.hid (cmpI_neg x.key y.key)
      generalize cmpI x.key y.key = z at HCC HNG
      have rcb0 := fun d os => cell_regrown cb0 d os
      have rcb1 := fun d os => cell_regrown cb1 d os
      have rca0 := fun d os => cell_regrown ca0 d os
      have rca1 := fun d os => cell_regrown ca1 d os
      clear cb0 cb1 ca0 ca1
      have q1 : (0 : Int) < (t : Int) + 1 := by omega
      have q2 : IntKind.i64.wrap (t : Int) = (t : Int) := IntWalk.i64_in _ (by omega)
      have q3 : (t : Int) < (l.length : Int) := by omega
      have q4 : (t : Int) + 1 < (l.length : Int) := by omega
      have q5 : ((t : Int) + 1).toNat = t + 1 := by omega
      have q6 : (0 : Int) ≤ (t : Int) + 1 := by omega
      by_cases hz : z < 0
      · have HR := Lib.hid (HF.out (show dn l t = true by rw [HU.out, ← HNG.out]; exact decide_eq_true hz))
        go_wp2_with fail
        (refine wp_region_quiet_below (by kernel_rfl) (by kernel_rfl) ?_; (repeat (quiet_step (exact Calls.regrown_of (HCC.out _ _)))); refine wpQuiet_nil ?_; intro _ hw'; obtain ⟨⟨dq, osq⟩, hw''⟩ := hw'; subst hw'')
        have hb2 := below_at hb hb.size (below_regrown wr dq osq)
        clear rcb0 rcb1 rca0 rca1
        go_wp2
        go_ret
        exact ⟨ret_bool HR.out.symm, hb2⟩
      · have HR := Lib.hid (show dn l t = false by rw [HU.out, ← HNG.out]; exact decide_eq_false hz)
        go_wp2_with fail
        (refine wp_region_quiet_below (by kernel_rfl) (by kernel_rfl) ?_; (repeat (quiet_step (exact Calls.regrown_of (HCC.out _ _)))); refine wpQuiet_nil ?_; intro _ hw'; obtain ⟨⟨dq, osq⟩, hw''⟩ := hw'; subst hw'')
        have hb2 := below_at hb hb.size (below_regrown wr dq osq)
        clear rcb0 rcb1 rca0 rca1
        clear q5
        go_wp2
        go_roundg (gk - 1)
        case measure => omega
        case rel => exact ⟨t + 1, by omega, by omega, by go_num, fun j h1 h2 => by
          by_cases e : j = t
          · subst e; exact HR.out
          · exact HD.out j (by omega) h2, hb2⟩
    · have HR := Lib.hid (show ascB l = true from asc_true fun i hi => HD.out i (by omega) hi)
      have q1 : ¬ (0 : Int) < (k : Int) - 1 := by omega
      go_wp2
      go_ret
      exact ⟨ret_bool HR.out.symm, hb⟩
/-- valid and ascending -/
def okR (l : List Rec) : Bool := vrec l && ascB l
set_option maxRecDepth 100000 in
set_option maxHeartbeats 1000000 in
theorem asc_impl (A : Option Addr) (c : Nat) (l : List Rec) (w : World) (hn : l.length ≤ 1048576) (hr : Rd w 2 A l.length (recs l)) :
    Calls Try.prog 93 #[.slice A l.length c] w fun e w' => e = .returned (.bool (okR l)) ∧ Below w.heap.size w w' := by
  have HV := Lib.hid (vrecs.impl_any A c l w hn hr)
  have HS := Lib.hid (fun w' (h : Below w.heap.size w w') => sortedF_any A c l w' hn (hr.below h))
  have HO := Lib.hid (show okR l = (vrec l && ascB l) from rfl)
  generalize vrec l = v at HV HO
  cases v with
  | false =>
    go_enter Try.func93, Try.ntmps93
    go_wp2_with fail
    (with_reducible refine HV.out.mono ?_)
    rintro e w1 ⟨rfl, hb1⟩
    go_wp2
    go_ret
    exact ⟨ret_bool HO.out.symm, hb1⟩
  | true =>
    go_enter Try.func93, Try.ntmps93
    go_wp2_with fail
    (with_reducible refine HV.out.mono ?_)
    rintro e w1 ⟨rfl, hb1⟩
    go_wp2_with fail
    (with_reducible refine (HS.out _ hb1).mono ?_)
    rintro e w2 ⟨rfl, hb2⟩
    have hb3 := below_step hb1 hb2
    go_wp2
    go_ret
    exact ⟨ret_bool (by rw [HO.out]; rfl), hb3⟩
set_option maxRecDepth 100000 in
set_option maxHeartbeats 1000000 in
theorem asc_spec (A : Option Addr) (c : Nat) (l : List Rec) (w : World) (hn : l.length ≤ 1048576) (hr : Rd w 2 A l.length (recs l)) :
    Calls Try.prog 75 #[.slice A l.length c] w fun e w' => e = .returned (.bool (ascB l)) ∧ ∃ n, w' = w.drewN n := by
  go_enter Try.func75, Try.ntmps75
  go_wp2
  go_loopg [3] (l.length + 1) (fun f i wr => ∃ k m : Nat, l.length < k + f ∧ k ≤ l.length ∧ i = .int .i64 (k : Int) ∧ (∀ j, j < k → j + 1 < l.length → dn l j = false) ∧ wr = w.drewN m)
  case atStart => exact ⟨0, 0, by omega, by omega, rfl, fun j h => absurd h (by omega), rfl⟩
  case round =>
    obtain ⟨k, m, hkf, hk, rfl, hd, rfl⟩ := hrel
    have HD := Lib.hid hd
    clear hd
    by_cases hlt : k + 1 < l.length
    · obtain ⟨b, off, rfl, cb0, _⟩ := hr.rec (k := k) (by omega)
      obtain ⟨ca0, _⟩ := hr.rec_at (k := k + 1) hlt
      have HU := Lib.hid (dn_at l (i := k) hlt)
      have HF := Lib.hid (fun h => asc_false (l := l) (i := k) hlt h)
      generalize l[k]'(by omega) = y at cb0 HU
      generalize l[k + 1]'hlt = x at ca0 HU
      have q1 : (k : Int) + 1 < (l.length : Int) := by omega
      have q2 : (k : Int) < (l.length : Int) := by omega
      have q3 : ((k : Int) + 1).toNat = k + 1 := by omega
      have q4 : (0 : Int) ≤ (k : Int) + 1 := by omega
      have q5 : IntKind.i64.wrap ((k : Int) + 1) = (k : Int) + 1 := IntWalk.i64_in _ (by omega)
      by_cases hz : x.key < y.key
      · have HR := Lib.hid (HF.out (by rw [HU.out]; exact decide_eq_true hz))
        have hg : decide (x.key < y.key) = true := decide_eq_true hz
        go_wp2_with fail
        go_quiet (fail)
        go_wp2
        go_ret
        exact ⟨ret_bool HR.out.symm, _, by first | rfl | exact World.drewN_drewN _ _ _⟩
      · have HR := Lib.hid (show dn l k = false by rw [HU.out]; exact decide_eq_false hz)
        have hg : decide (x.key < y.key) = false := decide_eq_false hz
        go_wp2_with fail
        go_quiet (fail)
        go_wp2
        go_roundg (gk - 1)
        case measure => omega
        case rel => exact ⟨k + 1, _, by omega, by omega, by go_num, fun j h1 h2 => by
          by_cases e : j = k
          · subst e; exact HR.out
          · exact HD.out j (by omega) h2, by first | rfl | exact World.drewN_drewN _ _ _⟩
    · have HR := Lib.hid (show ascB l = true from asc_true fun i hi => HD.out i (by omega) hi)
      go_wp2
      go_ret
      exact ⟨ret_bool HR.out.symm, m, rfl⟩
end Go.Proofs.Ytgffabjajbgbjaa.ascr
