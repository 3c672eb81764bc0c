/- PolyphaseDistribution, the program's and the reference's, by one function. No condition. -/
import Derived.Test.YtgffabjajbgbjaaIn
import Derived.Test.YtgffabjajbgbjaaDist
set_option linter.unusedVariables false
set_option linter.unusedSimpArgs false
namespace Go.Proofs.Ytgffabjajbgbjaa.polyDist
open Go.RowKit Go.Proofs.Ytgffabjajbgbjaa.mem Go.Proofs.Ytgffabjajbgbjaa.dists Go.Proofs.Ytgffabjajbgbjaa.ins

def ok (t l : Int) : Bool := inB t 3 8 && inB l 0 15
def res (t l : Int) : List Int := if ok t l = true then dist (t.toNat - 1) l.toNat else []
theorem ok_iff {t l : Int} : ok t l = true ↔ (3 ≤ t ∧ t ≤ 8) ∧ 0 ≤ l ∧ l ≤ 15 := by simp [ok, inB_iff]
set_option maxHeartbeats 400000 in
theorem impl_any (t l : Int) (w : World) :
    Calls Try.prog 15 #[.int .i64 t, .int .i64 l] w fun e w' => ∃ v, e = .returned (.tuple #[v, .bool (ok t l)]) ∧ OwnI w w' v (res t l) ∧ Below w.heap.size w w' := by
  by_cases h : ok t l = true
  · obtain ⟨⟨h1, h2⟩, h3, h4⟩ := ok_iff.1 h
    obtain ⟨u, hu, rfl⟩ : ∃ u : Nat, (2 ≤ u ∧ u ≤ 7) ∧ t = (u : Int) + 1 := ⟨(t - 1).toNat, by omega, by omega⟩
    obtain ⟨n, rfl⟩ := Int.eq_ofNat_of_zero_le h3
    have HR := Lib.hid (show res ((u : Int) + 1) (n : Int) = dist u n by
      rw [res, if_pos h, show ((u : Int) + 1).toNat - 1 = u by omega, show ((n : Int)).toNat = n by omega])
    have HO := Lib.hid h
    have i1 : inB ((u : Int) + 1) 3 8 = true := inB_true (by omega) (by omega)
    have i2 : inB (n : Int) 0 15 = true := inB_true (by omega) (by omega)
    have hn : n ≤ 15 := by omega
    clear h
    rw [HR.out, HO.out]
    go_enter Try.func15, Try.ntmps15
    go_wp2_with (first | (go_at_call 50; refine (ins.spec_any _ _ _ _).mono ?_; rintro e w' ⟨rfl, rfl⟩) | (go_at_call 53; refine (ins.impl_any _ _ _ _).mono ?_; rintro e w' ⟨rfl, rfl⟩) | (go_at_call 54; refine (dists.impl_any u n _ hu.1 hu.2 hn).mono ?_; rintro e w' ⟨v, rfl, ho, hb⟩) | go_in)
    go_ret2
    have hl := dist_len hu.1 n
    exact ⟨_, rfl, ⟨by rw [hl]; exact ho, by rw [hl]; omega⟩, hb⟩
  · have HR := Lib.hid (show res t l = [] by rw [res, if_neg h])
    have HO := Lib.hid (show ok t l = false by simpa using h)
    rw [HR.out, HO.out]
    by_cases h1 : inB t 3 8 = true
    · have h2 : inB l 0 15 = false := by
        simp only [ok, h1, Bool.true_and] at h; simpa using h
      clear h
      go_enter Try.func15, Try.ntmps15
      go_wp2_with (first | (go_at_call 50; refine (ins.spec_any _ _ _ _).mono ?_; rintro e w' ⟨rfl, rfl⟩) | (go_at_call 53; refine (ins.impl_any _ _ _ _).mono ?_; rintro e w' ⟨rfl, rfl⟩) | go_in)
      go_ret2
      exact ⟨_, rfl, ⟨World.ownsRow_nil _ _ _ _, by simp⟩, by repeat (first | exact Below.refl _ _ | exact (Below.refl _ _).alloc (Nat.le_refl _) _)⟩
    · have h2 : inB t 3 8 = false := by simpa using h1
      clear h h1
      go_enter Try.func15, Try.ntmps15
      go_wp2_with (first | (go_at_call 50; refine (ins.spec_any _ _ _ _).mono ?_; rintro e w' ⟨rfl, rfl⟩) | (go_at_call 53; refine (ins.impl_any _ _ _ _).mono ?_; rintro e w' ⟨rfl, rfl⟩) | go_in)
      go_ret2
      exact ⟨_, rfl, ⟨World.ownsRow_nil _ _ _ _, by simp⟩, by repeat (first | exact Below.refl _ _ | exact (Below.refl _ _).alloc (Nat.le_refl _) _)⟩
set_option maxHeartbeats 400000 in
theorem spec_any (t l : Int) (w : World) :
    Calls Try.prog 14 #[.int .i64 t, .int .i64 l] w fun e w' => ∃ v, e = .returned (.tuple #[v, .bool (ok t l)]) ∧ OwnI w w' v (res t l) ∧ Below w.heap.size w w' := by
  by_cases h : ok t l = true
  · obtain ⟨⟨h1, h2⟩, h3, h4⟩ := ok_iff.1 h
    obtain ⟨u, hu, rfl⟩ : ∃ u : Nat, (2 ≤ u ∧ u ≤ 7) ∧ t = (u : Int) + 1 := ⟨(t - 1).toNat, by omega, by omega⟩
    obtain ⟨n, rfl⟩ := Int.eq_ofNat_of_zero_le h3
    have HR := Lib.hid (show res ((u : Int) + 1) (n : Int) = dist u n by
      rw [res, if_pos h, show ((u : Int) + 1).toNat - 1 = u by omega, show ((n : Int)).toNat = n by omega])
    have HO := Lib.hid h
    have i1 : inB ((u : Int) + 1) 3 8 = true := inB_true (by omega) (by omega)
    have i2 : inB (n : Int) 0 15 = true := inB_true (by omega) (by omega)
    have hn : n ≤ 15 := by omega
    clear h
    rw [HR.out, HO.out]
    go_enter Try.func14, Try.ntmps14
    go_wp2_with (first | (go_at_call 50; refine (ins.spec_any _ _ _ _).mono ?_; rintro e w' ⟨rfl, rfl⟩) | (go_at_call 53; refine (ins.impl_any _ _ _ _).mono ?_; rintro e w' ⟨rfl, rfl⟩) | (go_at_call 51; refine (dists.spec_any u n _ hu.1 hu.2 hn).mono ?_; rintro e w' ⟨v, rfl, ho, hb⟩) | go_in)
    go_ret2
    have hl := dist_len hu.1 n
    exact ⟨_, rfl, ⟨by rw [hl]; exact ho, by rw [hl]; omega⟩, hb⟩
  · have HR := Lib.hid (show res t l = [] by rw [res, if_neg h])
    have HO := Lib.hid (show ok t l = false by simpa using h)
    rw [HR.out, HO.out]
    by_cases h1 : inB t 3 8 = true
    · have h2 : inB l 0 15 = false := by
        simp only [ok, h1, Bool.true_and] at h; simpa using h
      clear h
      go_enter Try.func14, Try.ntmps14
      go_wp2_with (first | (go_at_call 50; refine (ins.spec_any _ _ _ _).mono ?_; rintro e w' ⟨rfl, rfl⟩) | (go_at_call 53; refine (ins.impl_any _ _ _ _).mono ?_; rintro e w' ⟨rfl, rfl⟩) | go_in)
      go_ret2
      exact ⟨_, rfl, ⟨World.ownsRow_made w #[] 0 (Nat.le_refl _) (Nat.zero_le _) (by simp), by simp⟩, by repeat (first | exact Below.refl _ _ | exact (Below.refl _ _).alloc (Nat.le_refl _) _)⟩
    · have h2 : inB t 3 8 = false := by simpa using h1
      clear h h1
      go_enter Try.func14, Try.ntmps14
      go_wp2_with (first | (go_at_call 50; refine (ins.spec_any _ _ _ _).mono ?_; rintro e w' ⟨rfl, rfl⟩) | (go_at_call 53; refine (ins.impl_any _ _ _ _).mono ?_; rintro e w' ⟨rfl, rfl⟩) | go_in)
      go_ret2
      exact ⟨_, rfl, ⟨World.ownsRow_made w #[] 0 (Nat.le_refl _) (Nat.zero_le _) (by simp), by simp⟩, by repeat (first | exact Below.refl _ _ | exact (Below.refl _ _).alloc (Nat.le_refl _) _)⟩
end Go.Proofs.Ytgffabjajbgbjaa.polyDist
