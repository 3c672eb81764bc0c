/- The plain law of dummy runs: with the real ones they are the perfect distribution, and real runs stay level. No program here. -/
import Derived.Test.YtgffabjajbgbjaaDummies
set_option linter.unusedVariables false
set_option linter.unusedSimpArgs false
namespace Go.Proofs.Ytgffabjajbgbjaa.dumLaw
open Go.RowKit Go.Proofs.Ytgffabjajbgbjaa.mem Go.Proofs.Ytgffabjajbgbjaa.dists Go.Proofs.Ytgffabjajbgbjaa.sums Go.Proofs.Ytgffabjajbgbjaa.level Go.Proofs.Ytgffabjajbgbjaa.dummies

theorem am_top (l : List Int) : ∀ k i, i < k → l.getD i 0 ≤ l.getD (am l k) 0
  | 0, i, h => by omega
  | k + 1, i, h => by
    unfold am
    by_cases e : i = k
    · subst e; split <;> omega
    · have := am_top l k i (by omega)
      split <;> omega
theorem sum_set : ∀ (l : List Int) (i : Nat) (z : Int), i < l.length → (l.set i z).sum = l.sum - l.getD i 0 + z
  | [], i, z, h => by simp at h
  | a :: r, 0, z, h => by simp; omega
  | a :: r, i + 1, z, h => by
    have := sum_set r i z (by simpa using h)
    simp [List.getD_cons_succ] at *; omega
theorem getD_set (l : List Int) (i j : Nat) (z : Int) (h : i < l.length) : (l.set i z).getD j 0 = if i = j then z else l.getD j 0 := by
  rw [List.getD_eq_getElem?_getD, List.getElem?_set]
  split
  · simp [h]
  · rw [← List.getD_eq_getElem?_getD]
theorem sum_pos : ∀ (l : List Int), 0 < l.sum → ∃ i, i < l.length ∧ 0 < l.getD i 0
  | [], h => by simp at h
  | a :: r, h => by
    by_cases ha : 0 < a
    · exact ⟨0, by simp, by simpa using ha⟩
    · obtain ⟨i, h1, h2⟩ := sum_pos r (by simp at h; omega)
      exact ⟨i + 1, by simpa using h1, by simpa using h2⟩

/-- what holds after j steps -/
def Inv (d : List Int) (j : Nat) (p : List Int × List Int) : Prop :=
  (∀ i, p.1.getD i 0 + p.2.getD i 0 = d.getD i 0) ∧ (∀ i, 0 ≤ p.1.getD i 0) ∧ (∀ i, 0 ≤ p.2.getD i 0) ∧ p.1.sum = d.sum - j ∧
  ∀ i k, 0 < p.2.getD i 0 → p.1.getD k 0 ≤ p.1.getD i 0 + 1
theorem inv_zero {u l : Nat} (hu : 2 ≤ u) (hl : l ≤ 15) : Inv (dist u l) 0 (dist u l, List.replicate u 0) := by
  have hz : ∀ i, (List.replicate u (0 : Int)).getD i 0 = 0 := fun i => by
    rw [List.getD_eq_getElem?_getD, List.getElem?_replicate]; split <;> rfl
  refine ⟨fun i => by simp only [hz]; omega, fun i => ?_, fun i => by simp only [hz]; omega, by simp, fun i k h => by simp only [hz] at h; omega⟩
  rw [List.getD_eq_getElem?_getD]
  cases h : (dist u l)[i]? with
  | none => simp
  | some z => have := dist_small hu hl z (List.mem_of_getElem? h); simp; omega
theorem inv_step {d : List Int} {j : Nat} {p : List Int × List Int} (h : Inv d j p) (hl : p.1.length = d.length) (hl2 : p.2.length = d.length) (hp : (j : Int) < d.sum) : Inv d (j + 1) (dstep p) := by
  obtain ⟨h1, h2, h3, h4, h5⟩ := h
  obtain ⟨i0, hi0, hi1⟩ := sum_pos p.1 (by omega)
  have htop := fun i (hi : i < p.1.length) => am_top p.1 p.1.length i hi
  have hm := am_lt (l := p.1) (k := p.1.length) (by omega) (Nat.le_refl _)
  have htop2 : ∀ i, p.1.getD i 0 ≤ p.1.getD (am p.1 p.1.length) 0 := fun i => by
    rcases Nat.lt_or_ge i p.1.length with hi | hi
    · exact htop i hi
    · rw [List.getD_eq_getElem?_getD, List.getElem?_eq_none hi]; exact h2 _
  have ht0 := htop i0 hi0
  unfold dstep
  generalize am p.1 p.1.length = m at *
  have hm2 : m < p.2.length := by omega
  refine ⟨fun i => ?_, fun i => ?_, fun i => ?_, ?_, fun i k => ?_⟩
  · simp only [getD_set _ _ _ _ hm, getD_set _ _ _ _ hm2]
    have := h1 i
    split
    · rename_i e; subst e; omega
    · exact this
  · simp only [getD_set _ _ _ _ hm]
    have := h2 i
    split <;> omega
  · simp only [getD_set _ _ _ _ hm2]
    have a := h3 m
    have b := h3 i
    split <;> omega
  · simp only []
    rw [sum_set _ _ _ hm, h4]; omega
  · simp only [getD_set _ _ _ _ hm, getD_set _ _ _ _ hm2]
    intro hi
    have a := htop2 k
    have b := htop2 i
    by_cases e1 : m = i
    · rw [if_pos e1]
      split <;> omega
    · rw [if_neg e1] at hi
      have c := h5 i k hi
      have c2 := h5 i m hi
      rw [if_neg e1]
      split <;> omega
theorem inv_all {u l : Nat} (hu : 2 ≤ u) (hl : l ≤ 15) : ∀ j : Nat, (j : Int) ≤ (dist u l).sum → Inv (dist u l) j (dsteps (dist u l, List.replicate u 0) j)
  | 0, _ => inv_zero hu hl
  | j + 1, h => by
    have hlen := dsteps_len (dist u l, List.replicate u 0) j
    exact inv_step (inv_all hu hl j (by omega)) hlen.1 (by rw [hlen.2, dist_len hu]; simp) (by omega)
/-- the law, of the result -/
theorem law {u r : Nat} (hu : 2 ≤ u) (hu2 : u ≤ 7) (h : IsLev u r (lev u r)) (hn : lev u r ≤ 15) :
    (∀ i, (dum u r).1.getD i 0 + (dum u r).2.getD i 0 = (dist u (lev u r)).getD i 0) ∧ (∀ i, 0 ≤ (dum u r).1.getD i 0) ∧ (∀ i, 0 ≤ (dum u r).2.getD i 0) ∧ (dum u r).1.sum = r ∧
    ∀ i k, 0 < (dum u r).2.getD i 0 → (dum u r).1.getD k 0 ≤ (dum u r).1.getD i 0 + 1 := by
  have h2 := h.2
  have e : ((miss u (lev u r) r : Nat) : Int) = (dist u (lev u r)).sum - r := by unfold miss; omega
  obtain ⟨a, b, c, d, f⟩ := inv_all hu hn (miss u (lev u r) r) (by omega)
  exact ⟨a, b, c, by have : (dum u r).1.sum = (dist u (lev u r)).sum - ((miss u (lev u r) r : Nat) : Int) := d
                     omega, f⟩
theorem exists_lev {u r : Nat} (hu : 2 ≤ u) (hu2 : u ≤ 7) (hr : r ≤ 1000) : IsLev u r (lev u r) ∧ lev u r ≤ 15 := by
  have h : ∃ n, n ≤ 15 ∧ IsLev u r n := by
    have key : ∀ n, (∀ j, j < n → (dist u j).sum < (r : Int)) → n ≤ 15 → ∃ n, n ≤ 15 ∧ IsLev u r n := by
      intro n
      induction hm : 15 - n generalizing n with
      | zero =>
        intro hj hn
        have : n = 15 := by omega
        subst this
        exact ⟨15, Nat.le_refl _, hj, by have := enough hu hu2; omega⟩
      | succ m ih =>
        intro hj hn
        by_cases hs : (dist u n).sum < (r : Int)
        · refine ih (n + 1) (by omega) (fun j hj2 => ?_) (by omega)
          by_cases e : j = n
          · subst e; exact hs
          · exact hj j (by omega)
        · exact ⟨n, hn, hj, by omega⟩
    exact key 0 (fun j h => by omega) (by omega)
  obtain ⟨n, hn, hI⟩ := h
  have := hI.lev hn
  subst this
  exact ⟨hI, hn⟩
end Go.Proofs.Ytgffabjajbgbjaa.dumLaw
