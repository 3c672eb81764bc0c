/- Rounds of pairwise merges: each round, and the bounds of the span. No condition. -/
import Derived.Test.YtfjmpplpagmpbaaRndI
set_option linter.unusedVariables false
set_option linter.unusedSimpArgs false
namespace Go.Proofs.Ytfjmpplpagmpbaa.rnd
open Go.RowKit Go.Proofs.Ytfjmpplpagmpbaa.mem

def nxI (l : List Int) : Nat → List Int
  | 0 => l
  | k + 1 => nx (nxI l k)
theorem nxI_succ (l : List Int) : ∀ k, nxI l (k + 1) = nxI (nx l) k
  | 0 => rfl
  | k + 1 => by rw [nxI, nxI_succ l k]; rfl
theorem rnds_at : ∀ (l : List Int) (k : Nat) (h : k < (rnds l).length), (rnds l)[k] = nxI l (k + 1) ∧ 1 < (nxI l k).length := by
  intro l
  induction hn : l.length using Nat.strongRecOn generalizing l with
  | _ n ih =>
    intro k h
    by_cases hl : 1 < l.length
    · cases k with
      | zero =>
        refine ⟨?_, hl⟩
        have e := rnds_more hl
        simp only [e, List.getElem_cons_zero]; rfl
      | succ k =>
        have e := rnds_more hl
        have h2 : k < (rnds (nx l)).length := by rw [e] at h; simpa using h
        have h3 := ih (nx l).length (by rw [nx_len]; omega) (nx l) rfl k h2
        refine ⟨?_, by rw [nxI_succ]; exact h3.2⟩
        simp only [e, List.getElem_cons_succ]
        rw [h3.1, nxI_succ l (k + 1)]
    · rw [rnds_end hl] at h; simp at h
theorem rnds_last : ∀ (l : List Int), (nxI l (rnds l).length).length ≤ 1 := by
  intro l
  induction hn : l.length using Nat.strongRecOn generalizing l with
  | _ n ih =>
    by_cases hl : 1 < l.length
    · have e := rnds_more hl
      have h3 := ih (nx l).length (by rw [nx_len]; omega) (nx l) rfl
      rw [e, List.length_cons, nxI_succ]; exact h3
    · rw [rnds_end hl]; show l.length ≤ 1; omega
theorem nxI_sum (l : List Int) : ∀ k, (nxI l k).sum = l.sum
  | 0 => rfl
  | k + 1 => by rw [nxI, nx_sum, nxI_sum l k]
theorem nxI_bd {B : Int} {l : List Int} (h : Bd B l) : ∀ k, Bd B (nxI l k)
  | 0 => h
  | k + 1 => bd_nx (nxI_bd h k)
theorem nxI_len (l : List Int) (k : Nat) : (nxI l (k + 1)).length = ((nxI l k).length + 1) / 2 := nx_len _
theorem span_ge : ∀ (l : List Int), (∀ z ∈ l, 0 ≤ z) → 1 < l.length → l.sum ≤ span l := by
  intro l
  induction hn : l.length using Nat.strongRecOn generalizing l with
  | _ n ih =>
    intro hp hl
    rw [span_more (by omega)]
    have h1 := mo_bd hp (l.length / 2)
    by_cases h2 : 1 < (nx l).length
    · have := ih (nx l).length (by rw [nx_len]; omega) (nx l) rfl (nx_nonneg hp) h2
      rw [nx_sum] at this
      omega
    · rw [nx_len] at h2
      match l, hn with
      | [a, b], _ =>
        have hb := span_bd (B := ([a, b] : List Int).sum) (l := nx [a, b]) (by
          exact ⟨nx_nonneg hp, by rw [nx_sum]; exact Int.le_refl _⟩)
        simp [mo] at *
        omega
      | [], h => simp at h; omega
      | [a], h => simp at h; omega
      | a :: b :: c :: r, h => simp at h h2; omega
theorem span_le {l : List Int} (h : ∀ z ∈ l, 0 ≤ z) : span l ≤ l.sum * ((rnds l).length : Int) := (span_bd (B := l.sum) ⟨h, Int.le_refl _⟩).2
end Go.Proofs.Ytfjmpplpagmpbaa.rnd
