/- PolyphaseLevel, the program's and the reference's: the smallest level with enough runs. No condition. -/
import Derived.Test.YtgffabjajbgbjaaIn
import Derived.Test.YtgffabjajbgbjaaDist
set_option linter.unusedVariables false
set_option linter.unusedSimpArgs false
namespace Go.Proofs.Ytgffabjajbgbjaa.level
open Go.RowKit Go.Proofs.Ytgffabjajbgbjaa.mem Go.Proofs.Ytgffabjajbgbjaa.dists Go.Proofs.Ytgffabjajbgbjaa.sums
open Go.Proofs.Ytgffabjajbgbjaa.ins (inB inB_true inB_false inB_iff)

/-- level n is the least with at least r runs over u tapes -/
def IsLev (u r n : Nat) : Prop := (∀ j, j < n → (dist u j).sum < (r : Int)) ∧ (r : Int) ≤ (dist u n).sum
theorem IsLev.eq {u r a b : Nat} (h : IsLev u r a) (k : IsLev u r b) : a = b := by
  rcases Nat.lt_trichotomy a b with l | l | l
  · have := k.1 a l; have := h.2; omega
  · exact l
  · have := h.1 b l; have := k.2; omega
theorem enough {u : Nat} (hu : 2 ≤ u) (hu2 : u ≤ 7) : (1000 : Int) ≤ (dist u 15).sum := by
  have h : u = 2 ∨ u = 3 ∨ u = 4 ∨ u = 5 ∨ u = 6 ∨ u = 7 := by omega
  rcases h with rfl | rfl | rfl | rfl | rfl | rfl <;> decide +kernel
theorem low {u r n : Nat} (hu : 2 ≤ u) (hu2 : u ≤ 7) (hr : r ≤ 1000) (h : ∀ j, j < n → (dist u j).sum < (r : Int)) : n ≤ 15 := by
  rcases Nat.lt_or_ge 15 n with l | l
  · have := h 15 l; have := enough hu hu2; omega
  · exact l
/-- the level, as a function -/
def lev (u r : Nat) : Nat := ((List.range 16).find? fun n => decide ((r : Int) ≤ (dist u n).sum)).getD 0
theorem IsLev.lev {u r n : Nat} (h : IsLev u r n) (hn : n ≤ 15) : n = lev u r := by
  have e : (List.range 16).find? (fun n => decide ((r : Int) ≤ (dist u n).sum)) = some n := by
    rw [List.find?_range_eq_some]
    refine ⟨by simpa using h.2, by simp; omega, fun j hj => ?_⟩
    have := h.1 j hj
    simp; omega
  rw [level.lev, e]; rfl

set_option maxHeartbeats 400000 in
theorem impl_lev (u r : Nat) (w : World) (hu : 2 ≤ u) (hu2 : u ≤ 7) (hr : r ≤ 1000) :
    Calls Try.prog 58 #[.int .i64 ((u : Int) + 1), .int .i64 (r : Int)] w fun e w' => ∃ n : Nat, e = .returned (.int .i64 (n : Int)) ∧ IsLev u r n ∧ n ≤ 15 ∧ Below w.heap.size w w' := by
  go_enter Try.func58, Try.ntmps58
  go_wp2
  go_loopw [5] (fun i wr => ∃ n : Nat, i = .int .i64 (n : Int) ∧ (∀ j, j < n → (dist u j).sum < (r : Int)) ∧ Below w.heap.size w wr) (fun i _ => 16 - (intOf i).toNat)
  case atStart => exact ⟨0, rfl, fun j h => absurd h (by omega), Below.refl _ _⟩
  case round =>
    obtain ⟨n, rfl, hj, hb⟩ := hrel
    have hn := low hu hu2 hr hj
    have HJ := Lib.hid hj
    clear hj
    go_wp2_with fail
    refine (dists.impl_any u n _ hu hu2 hn).mono ?_
    rintro e w1 ⟨v, rfl, ho, hb1⟩
    have hb2 := below_step hb hb1
    have hl := dist_len hu n
    have hsm := dist_small hu hn
    obtain ⟨ds, hds⟩ : ∃ ds, ds = dist u n := ⟨_, rfl⟩
    rw [← hds] at hl hsm ho
    have HD := Lib.hid hds
    clear hds
    subst hl
    obtain ⟨A, c, rfl, hnc, hcm, hrd⟩ := own_form ho
    go_wp2_with fail
    refine (sums.impl_any A c ds w1 (by omega) hsm hrd).mono ?_
    rintro e w2 ⟨rfl, rfl⟩
    obtain ⟨s, hs⟩ : ∃ s, s = ds.sum := ⟨_, rfl⟩
    rw [← hs]
    have HS := Lib.hid (show s = (dist ds.length n).sum by rw [hs, ← HD.out])
    clear hs ho hrd hsm
    by_cases hlt : s < (r : Int)
    · have HJ2 := Lib.hid (show ∀ j, j < n + 1 → (dist ds.length j).sum < (r : Int) from fun j hj => by
        by_cases e : j = n
        · subst e; rw [← HS.out]; exact hlt
        · exact HJ.out j (by omega))
      have hn2 := low hu hu2 hr HJ2.out
      go_wp2
      go_roundw
      case rel => exact ⟨n + 1, by go_num, HJ2.out, hb2⟩
      case measure => simp [intOf]; omega
    · have HI := Lib.hid (show IsLev ds.length r n from ⟨HJ.out, by rw [← HS.out]; omega⟩)
      go_wp2
      go_ret
      exact ⟨n, rfl, HI.out, hn, hb2⟩
set_option maxHeartbeats 400000 in
theorem spec_lev (u r : Nat) (w : World) (hu : 2 ≤ u) (hu2 : u ≤ 7) (hr : r ≤ 1000) :
    Calls Try.prog 56 #[.int .i64 ((u : Int) + 1), .int .i64 (r : Int)] w fun e w' => ∃ n : Nat, e = .returned (.int .i64 (n : Int)) ∧ IsLev u r n ∧ n ≤ 15 ∧ Below w.heap.size w w' := by
  go_enter Try.func56, Try.ntmps56
  go_wp2
  go_loopw [5] (fun i wr => ∃ n : Nat, i = .int .i64 (n : Int) ∧ (∀ j, j < n → (dist u j).sum < (r : Int)) ∧ Below w.heap.size w wr) (fun i _ => 16 - (intOf i).toNat)
  case atStart => exact ⟨0, rfl, fun j h => absurd h (by omega), Below.refl _ _⟩
  case round =>
    obtain ⟨n, rfl, hj, hb⟩ := hrel
    have hn := low hu hu2 hr hj
    have HJ := Lib.hid hj
    clear hj
    go_wp2_with fail
    refine (dists.spec_any u n _ hu hu2 hn).mono ?_
    rintro e w1 ⟨v, rfl, ho, hb1⟩
    have hb2 := below_step hb hb1
    have hl := dist_len hu n
    have hsm := dist_small hu hn
    obtain ⟨ds, hds⟩ : ∃ ds, ds = dist u n := ⟨_, rfl⟩
    rw [← hds] at hl hsm ho
    have HD := Lib.hid hds
    clear hds
    subst hl
    obtain ⟨A, c, rfl, hnc, hcm, hrd⟩ := own_form ho
    go_wp2_with fail
    refine (sums.spec_any A c ds w1 (by omega) hsm hrd).mono ?_
    rintro e w2 ⟨rfl, rfl⟩
    obtain ⟨s, hs⟩ : ∃ s, s = ds.sum := ⟨_, rfl⟩
    rw [← hs]
    have HS := Lib.hid (show s = (dist ds.length n).sum by rw [hs, ← HD.out])
    clear hs ho hrd hsm
    by_cases hlt : s < (r : Int)
    · have HJ2 := Lib.hid (show ∀ j, j < n + 1 → (dist ds.length j).sum < (r : Int) from fun j hj => by
        by_cases e : j = n
        · subst e; rw [← HS.out]; exact hlt
        · exact HJ.out j (by omega))
      have hn2 := low hu hu2 hr HJ2.out
      go_wp2
      go_roundw
      case rel => exact ⟨n + 1, by go_num, HJ2.out, hb2⟩
      case measure => simp [intOf]; omega
    · have HI := Lib.hid (show IsLev ds.length r n from ⟨HJ.out, by rw [← HS.out]; omega⟩)
      go_wp2
      go_ret
      exact ⟨n, rfl, HI.out, hn, hb2⟩

def can (t r : Int) : Bool := inB t 3 8 && inB r 1 1000
theorem can_iff {t r : Int} : can t r = true ↔ (3 ≤ t ∧ t ≤ 8) ∧ 1 ≤ r ∧ r ≤ 1000 := by simp [can, inB_iff]
set_option maxHeartbeats 400000 in
theorem impl_can (t r : Int) (w : World) : Calls Try.prog 57 #[.int .i64 t, .int .i64 r] w fun e w' => e = .returned (.bool (can t r)) ∧ w = w' := by
  by_cases h : inB t 3 8 = true
  · have HC := Lib.hid (show can t r = inB r 1 1000 by rw [can, h, Bool.true_and])
    go_enter Try.func57, Try.ntmps57
    go_wp2_with (first | (go_at_call 50; refine (ins.spec_any _ _ _ _).mono ?_; rintro e w' ⟨rfl, rfl⟩) | (go_at_call 53; refine (ins.impl_any _ _ _ _).mono ?_; rintro e w' ⟨rfl, rfl⟩) | go_in)
    go_ret
    exact ⟨ret_bool HC.out.symm, rfl⟩
  · have h2 : inB t 3 8 = false := by simpa using h
    have HC := Lib.hid (show can t r = false by rw [can, h2, Bool.false_and])
    go_enter Try.func57, Try.ntmps57
    go_wp2_with (first | (go_at_call 50; refine (ins.spec_any _ _ _ _).mono ?_; rintro e w' ⟨rfl, rfl⟩) | (go_at_call 53; refine (ins.impl_any _ _ _ _).mono ?_; rintro e w' ⟨rfl, rfl⟩) | go_in)
    go_ret
    exact ⟨ret_bool HC.out.symm, rfl⟩
set_option maxHeartbeats 400000 in
theorem spec_can (t r : Int) (w : World) : Calls Try.prog 55 #[.int .i64 t, .int .i64 r] w fun e w' => e = .returned (.bool (can t r)) ∧ w = w' := by
  by_cases h : inB t 3 8 = true
  · have HC := Lib.hid (show can t r = inB r 1 1000 by rw [can, h, Bool.true_and])
    go_enter Try.func55, Try.ntmps55
    go_wp2_with (first | (go_at_call 50; refine (ins.spec_any _ _ _ _).mono ?_; rintro e w' ⟨rfl, rfl⟩) | (go_at_call 53; refine (ins.impl_any _ _ _ _).mono ?_; rintro e w' ⟨rfl, rfl⟩) | go_in)
    go_ret
    exact ⟨ret_bool HC.out.symm, rfl⟩
  · have h2 : inB t 3 8 = false := by simpa using h
    have HC := Lib.hid (show can t r = false by rw [can, h2, Bool.false_and])
    go_enter Try.func55, Try.ntmps55
    go_wp2_with (first | (go_at_call 50; refine (ins.spec_any _ _ _ _).mono ?_; rintro e w' ⟨rfl, rfl⟩) | (go_at_call 53; refine (ins.impl_any _ _ _ _).mono ?_; rintro e w' ⟨rfl, rfl⟩) | go_in)
    go_ret
    exact ⟨ret_bool HC.out.symm, rfl⟩

def res (t r : Int) : Int := if can t r = true then (lev (t.toNat - 1) r.toNat : Int) else 0
/-- what 'can' says, in natural numbers -/
theorem can_nat {t r : Int} (h : can t r = true) : ∃ u n : Nat, (2 ≤ u ∧ u ≤ 7) ∧ (1 ≤ n ∧ n ≤ 1000) ∧ t = (u : Int) + 1 ∧ r = (n : Int) := by
  obtain ⟨⟨h1, h2⟩, h3, h4⟩ := can_iff.1 h
  exact ⟨(t - 1).toNat, r.toNat, by omega, by omega, by omega, by omega⟩

set_option maxHeartbeats 400000 in
theorem impl_any (t r : Int) (w : World) : Calls Try.prog 20 #[.int .i64 t, .int .i64 r] w fun e w' => e = .returned (.tuple #[.int .i64 (res t r), .bool (can t r)]) ∧ Below w.heap.size w w' := by
  by_cases h : can t r = true
  · obtain ⟨u, n, ⟨hu, hu2⟩, ⟨hn, hn2⟩, rfl, rfl⟩ := can_nat h
    have HR := Lib.hid (show res ((u : Int) + 1) (n : Int) = lev u n by
      rw [res, if_pos h, show ((u : Int) + 1).toNat - 1 = u by omega, show ((n : Int)).toNat = n by omega])
    go_enter Try.func20, Try.ntmps20
    go_wp2_with fail
    refine (impl_can _ _ _).mono ?_
    rintro e w1 ⟨rfl, rfl⟩
    go_wp2_with fail
    refine (impl_lev u n _ hu hu2 hn2).mono ?_
    rintro e w2 ⟨m, rfl, hm, hm2, hb⟩
    have HM := Lib.hid (hm.lev hm2)
    clear hm
    go_wp2
    go_ret2
    exact ⟨by rw [HR.out, ← HM.out, h]; rfl, hb⟩
  · have h2 : can t r = false := by simpa using h
    have HR := Lib.hid (show res t r = 0 by rw [res, if_neg h])
    clear h
    go_enter Try.func20, Try.ntmps20
    go_wp2_with fail
    refine (impl_can _ _ _).mono ?_
    rintro e w1 ⟨rfl, rfl⟩
    go_wp2
    go_ret2
    exact ⟨by rw [HR.out, h2]; rfl, Below.refl _ _⟩
set_option maxHeartbeats 400000 in
theorem spec_any (t r : Int) (w : World) : Calls Try.prog 19 #[.int .i64 t, .int .i64 r] w fun e w' => e = .returned (.tuple #[.int .i64 (res t r), .bool (can t r)]) ∧ Below w.heap.size w w' := by
  by_cases h : can t r = true
  · obtain ⟨u, n, ⟨hu, hu2⟩, ⟨hn, hn2⟩, rfl, rfl⟩ := can_nat h
    have HR := Lib.hid (show res ((u : Int) + 1) (n : Int) = lev u n by
      rw [res, if_pos h, show ((u : Int) + 1).toNat - 1 = u by omega, show ((n : Int)).toNat = n by omega])
    go_enter Try.func19, Try.ntmps19
    go_wp2_with fail
    refine (spec_can _ _ _).mono ?_
    rintro e w1 ⟨rfl, rfl⟩
    go_wp2_with fail
    refine (spec_lev u n _ hu hu2 hn2).mono ?_
    rintro e w2 ⟨m, rfl, hm, hm2, hb⟩
    have HM := Lib.hid (hm.lev hm2)
    clear hm
    go_wp2
    go_ret2
    exact ⟨by rw [HR.out, ← HM.out, h]; rfl, hb⟩
  · have h2 : can t r = false := by simpa using h
    have HR := Lib.hid (show res t r = 0 by rw [res, if_neg h])
    clear h
    go_enter Try.func19, Try.ntmps19
    go_wp2_with fail
    refine (spec_can _ _ _).mono ?_
    rintro e w1 ⟨rfl, rfl⟩
    go_wp2
    go_ret2
    exact ⟨by rw [HR.out, h2]; rfl, Below.refl _ _⟩
end Go.Proofs.Ytgffabjajbgbjaa.level
