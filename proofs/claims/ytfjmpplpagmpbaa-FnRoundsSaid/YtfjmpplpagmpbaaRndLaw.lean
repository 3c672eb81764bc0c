/- Rounds of pairwise merges: the plain law. No condition. -/
import Derived.Test.YtfjmpplpagmpbaaMem
set_option linter.unusedVariables false
set_option linter.unusedSimpArgs false
namespace Go.Proofs.Ytfjmpplpagmpbaa.rnd
open Go.RowKit Go.Proofs.Ytfjmpplpagmpbaa.mem

/-- the first k sums of neighbours -/
def pr (l : List Int) (k : Nat) : List Int := (List.range k).map fun j => l.getD (2 * j) 0 + l.getD (2 * j + 1) 0
/-- the greatest of the first k sums -/
def mo (l : List Int) : Nat → Int
  | 0 => 0
  | k + 1 => max (mo l k) (l.getD (2 * k) 0 + l.getD (2 * k + 1) 0)
theorem pr_len (l : List Int) (k : Nat) : (pr l k).length = k := by simp [pr]
theorem pr_step (l : List Int) (k : Nat) : pr l (k + 1) = pr l k ++ [l.getD (2 * k) 0 + l.getD (2 * k + 1) 0] := by simp [pr, List.range_succ]
/-- one round -/
def nx (l : List Int) : List Int := pr l ((l.length + 1) / 2)
theorem nx_len (l : List Int) : (nx l).length = (l.length + 1) / 2 := pr_len _ _
def rnds (l : List Int) : List (List Int) := if h : 1 < l.length then nx l :: rnds (nx l) else []
termination_by l.length
decreasing_by rw [nx_len]; omega
def span (l : List Int) : Int := if h : 1 < l.length then mo l (l.length / 2) + span (nx l) else 0
termination_by l.length
decreasing_by rw [nx_len]; omega
theorem rnds_more {l : List Int} (h : 1 < l.length) : rnds l = nx l :: rnds (nx l) := by rw [rnds, dif_pos h]
theorem rnds_end {l : List Int} (h : ¬ 1 < l.length) : rnds l = [] := by rw [rnds, dif_neg h]
theorem span_more {l : List Int} (h : 1 < l.length) : span l = mo l (l.length / 2) + span (nx l) := by rw [span, dif_pos h]
theorem span_end {l : List Int} (h : ¬ 1 < l.length) : span l = 0 := by rw [span, dif_neg h]
def Bd (B : Int) (l : List Int) : Prop := (∀ z ∈ l, 0 ≤ z) ∧ l.sum ≤ B
theorem nonneg_sum : ∀ {l : List Int}, (∀ z ∈ l, 0 ≤ z) → 0 ≤ l.sum
  | [], _ => by simp
  | a :: l, h => by
    have := nonneg_sum (l := l) (fun z hz => h z (by simp [hz]))
    have := h a (by simp)
    simp; omega
/-- the sums of neighbours, from the left -/
theorem pr_cons2 (a b : Int) (l : List Int) (k : Nat) : pr (a :: b :: l) (k + 1) = (a + b) :: pr l k := by
  simp only [pr, List.range_succ_eq_map, List.map_cons, List.map_map]
  congr 1
theorem nx_cons2 (a b : Int) (l : List Int) : nx (a :: b :: l) = (a + b) :: nx l := by
  rw [nx, show ((a :: b :: l).length + 1) / 2 = (l.length + 1) / 2 + 1 by simp only [List.length_cons]; omega, pr_cons2]; rfl
theorem nx_one (a : Int) : nx [a] = [a] := by simp [nx, pr]
theorem nx_sum : ∀ l : List Int, (nx l).sum = l.sum
  | [] => rfl
  | [a] => by rw [nx_one]
  | a :: b :: l => by rw [nx_cons2]; simp [nx_sum l]; omega
theorem nx_nonneg : ∀ {l : List Int}, (∀ z ∈ l, 0 ≤ z) → ∀ z ∈ nx l, 0 ≤ z
  | [], _ => by simp [nx, pr]
  | [a], h => by rw [nx_one]; exact h
  | a :: b :: l, h => by
    rw [nx_cons2]
    have ha := h a (by simp)
    have hb := h b (by simp)
    have ih := nx_nonneg (l := l) (fun z hz => h z (by simp [hz]))
    intro z hz
    rcases List.mem_cons.1 hz with rfl | hz
    · omega
    · exact ih z hz
theorem bd_nx {B : Int} {l : List Int} (h : Bd B l) : Bd B (nx l) := ⟨nx_nonneg h.1, by rw [nx_sum]; exact h.2⟩
theorem pair_bd : ∀ {l : List Int}, (∀ z ∈ l, 0 ≤ z) → ∀ k, 0 ≤ l.getD (2 * k) 0 + l.getD (2 * k + 1) 0 ∧ l.getD (2 * k) 0 + l.getD (2 * k + 1) 0 ≤ l.sum ∧ 0 ≤ l.getD (2 * k) 0 ∧ 0 ≤ l.getD (2 * k + 1) 0
  | [], _, k => by simp
  | [a], h, k => by
    have := h a (by simp)
    cases k with
    | zero => simp; omega
    | succ k => simp [Nat.mul_succ]; omega
  | a :: b :: l, h, k => by
    have ha := h a (by simp)
    have hb := h b (by simp)
    have hn := nonneg_sum (l := l) (fun z hz => h z (by simp [hz]))
    cases k with
    | zero => simp; omega
    | succ k =>
      have ih := pair_bd (l := l) (fun z hz => h z (by simp [hz])) k
      rw [show 2 * (k + 1) = 2 * k + 1 + 1 by omega]
      simp only [List.getD_cons_succ, List.sum_cons]
      omega
theorem mo_bd {l : List Int} (h : ∀ z ∈ l, 0 ≤ z) : ∀ k, 0 ≤ mo l k ∧ mo l k ≤ l.sum
  | 0 => ⟨Int.le_refl _, nonneg_sum h⟩
  | k + 1 => by
    have := mo_bd h k
    have := pair_bd h k
    unfold mo; omega
theorem span_bd {B : Int} : ∀ {l : List Int}, Bd B l → 0 ≤ span l ∧ span l ≤ B * (rnds l).length := by
  intro l
  induction hn : l.length using Nat.strongRecOn generalizing l with
  | _ n ih =>
    intro h
    by_cases hl : 1 < l.length
    · have h1 := mo_bd h.1 (l.length / 2)
      have h2 := ih (nx l).length (by rw [nx_len]; omega) rfl (bd_nx h)
      have h3 := h.2
      rw [span_more hl, rnds_more hl, List.length_cons]
      have e : B * (((rnds (nx l)).length + 1 : Nat) : Int) = B * ((rnds (nx l)).length : Int) + B := by rw [Int.natCast_add, Int.mul_add]; simp
      rw [e]; omega
    · have := nonneg_sum h.1
      rw [span_end hl, rnds_end hl]; simp
theorem rnds_len : ∀ (l : List Int), (rnds l).length ≤ l.length := by
  intro l
  induction hn : l.length using Nat.strongRecOn generalizing l with
  | _ n ih =>
    by_cases hl : 1 < l.length
    · have := ih (nx l).length (by rw [nx_len]; omega) (nx l) rfl
      rw [rnds_more hl, List.length_cons]
      rw [nx_len] at this
      omega
    · rw [rnds_end hl]; simp
theorem sum_le_mul {B : Int} (hB : 0 ≤ B) : ∀ {l : List Int}, (∀ z ∈ l, 0 ≤ z ∧ z ≤ B) → l.sum ≤ B * (l.length : Int)
  | [], _ => by simp
  | a :: l, h => by
    have := sum_le_mul hB (l := l) (fun z hz => h z (by simp [hz]))
    have := h a (by simp)
    rw [List.sum_cons, List.length_cons, Int.natCast_add, Int.mul_add]; simp; omega
end Go.Proofs.Ytfjmpplpagmpbaa.rnd
