/- Tournaments: who wins a tree's matches, in the program's order and in the reference's. No program. -/
import Derived.Test.YtgffabjajbgbjaaMem
set_option linter.unusedVariables false
set_option linter.unusedSimpArgs false
namespace Go.Proofs.Ytgffabjajbgbjaa.tn

/-- leaf i beats leaf m -/
def bt (ks : List Int) (ds : List Bool) (i m : Nat) : Bool :=
  if (ds.getD i false != ds.getD m false) = true then ds.getD m false else decide (ks.getD i 0 < ks.getD m 0) || (decide (ks.getD i 0 = ks.getD m 0) && decide (i < m))
theorem bt_irr (ks : List Int) (ds : List Bool) (i : Nat) : bt ks ds i i = false := by simp [bt]
theorem bt_flip (ks : List Int) (ds : List Bool) {i m : Nat} (h : i ≠ m) : bt ks ds i m = !bt ks ds m i := by
  unfold bt
  generalize ks.getD i 0 = a
  generalize ks.getD m 0 = b
  generalize ds.getD i false = p
  generalize ds.getD m false = q
  cases p <;> cases q <;> simp only [bne_self_eq_false, Bool.false_eq_true, if_false, Bool.false_bne, Bool.true_bne, Bool.bne_false, Bool.bne_true, Bool.not_true, Bool.not_false, if_true]
  all_goals
    rw [Bool.eq_iff_iff]
    simp only [Bool.or_eq_true, Bool.and_eq_true, decide_eq_true_eq, Bool.not_eq_true', Bool.or_eq_false_iff, Bool.and_eq_false_iff, decide_eq_false_iff_not]
    omega
/-- the winner below node j of a tree with k leaves -/
def win (ks : List Int) (ds : List Bool) (k j : Nat) : Nat :=
  if h : j = 0 ∨ k ≤ j then j - k else
    if bt ks ds (win ks ds k (2 * j + 1)) (win ks ds k (2 * j)) = true then win ks ds k (2 * j + 1) else win ks ds k (2 * j)
termination_by 2 * k - j
decreasing_by all_goals omega
theorem win_leaf (ks : List Int) (ds : List Bool) {k j : Nat} (h : k ≤ j) : win ks ds k j = j - k := by rw [win, dif_pos (Or.inr h)]
theorem win_node (ks : List Int) (ds : List Bool) {k j : Nat} (h0 : 0 < j) (h : j < k) : win ks ds k j = if bt ks ds (win ks ds k (2 * j + 1)) (win ks ds k (2 * j)) = true then win ks ds k (2 * j + 1) else win ks ds k (2 * j) := by
  rw [win, dif_neg (by omega)]
/-- node j stands above leaf i -/
def Above (k j i : Nat) : Prop := ∃ t, (k + i) / 2 ^ t = j
theorem above_half {k j i : Nat} (h : Above k (2 * j) i ∨ Above k (2 * j + 1) i) : Above k j i := by
  rcases h with ⟨t, h⟩ | ⟨t, h⟩
  · exact ⟨t + 1, by rw [Nat.pow_succ, ← Nat.div_div_eq_div_mul, h]; omega⟩
  · exact ⟨t + 1, by rw [Nat.pow_succ, ← Nat.div_div_eq_div_mul, h]; omega⟩
theorem win_spec (ks : List Int) (ds : List Bool) (k : Nat) : ∀ (f j : Nat), 2 * k ≤ j + f → 0 < j → j < 2 * k → win ks ds k j < k ∧ Above k j (win ks ds k j)
  | 0, j, hf, h0, h => absurd hf (by omega)
  | f + 1, j, hf, h0, h => by
    by_cases hk : k ≤ j
    · rw [win_leaf ks ds hk]
      exact ⟨by omega, 0, by simp; omega⟩
    · have a := win_spec ks ds k f (2 * j) (by omega) (by omega) (by omega)
      have b := win_spec ks ds k f (2 * j + 1) (by omega) (by omega) (by omega)
      rw [win_node ks ds h0 (by omega)]
      split
      · exact ⟨b.1, above_half (Or.inr b.2)⟩
      · exact ⟨a.1, above_half (Or.inl a.2)⟩
theorem pow_div_le (x : Nat) {s : Nat} (hs : 0 < s) : x / 2 ^ s ≤ x / 2 := by
  obtain ⟨r, rfl⟩ : ∃ r, s = r + 1 := ⟨s - 1, by omega⟩
  rw [Nat.pow_succ, Nat.mul_comm, ← Nat.div_div_eq_div_mul]
  exact Nat.div_le_self _ _
theorem above_apart {k j i : Nat} (h0 : 0 < j) (h1 : Above k (2 * j) i) (h2 : Above k (2 * j + 1) i) : False := by
  obtain ⟨t, h1⟩ := h1
  obtain ⟨s, h2⟩ := h2
  rcases Nat.lt_trichotomy t s with h | h | h
  · obtain ⟨d, rfl⟩ : ∃ d, s = t + d := ⟨s - t, by omega⟩
    rw [Nat.pow_add, ← Nat.div_div_eq_div_mul, h1] at h2
    have := pow_div_le (2 * j) (s := d) (by omega)
    omega
  · subst h; omega
  · obtain ⟨d, rfl⟩ : ∃ d, t = s + d := ⟨t - s, by omega⟩
    rw [Nat.pow_add, ← Nat.div_div_eq_div_mul, h2] at h1
    have := pow_div_le (2 * j + 1) (s := d) (by omega)
    omega
theorem win_apart (ks : List Int) (ds : List Bool) {k j : Nat} (h0 : 0 < j) (h : j < k) : win ks ds k (2 * j) ≠ win ks ds k (2 * j + 1) := fun e => by
  have a := win_spec ks ds k (2 * k) (2 * j) (by omega) (by omega) (by omega)
  have b := win_spec ks ds k (2 * k) (2 * j + 1) (by omega) (by omega) (by omega)
  rw [e] at a
  exact above_apart h0 a.2 b.2
/-- the reference asks the other way round -/
theorem win_other (ks : List Int) (ds : List Bool) {k j : Nat} (h0 : 0 < j) (h : j < k) : win ks ds k j = if bt ks ds (win ks ds k (2 * j)) (win ks ds k (2 * j + 1)) = true then win ks ds k (2 * j) else win ks ds k (2 * j + 1) := by
  rw [win_node ks ds h0 h, bt_flip ks ds (win_apart ks ds h0 h)]
  cases bt ks ds (win ks ds k (2 * j + 1)) (win ks ds k (2 * j)) <;> rfl
theorem win_lt (ks : List Int) (ds : List Bool) {k : Nat} (h : 0 < k) : win ks ds k 1 < k := (win_spec ks ds k (2 * k) 1 (by omega) (by omega) (by omega)).1
/-- how many inner nodes stand above -/
def up (n : Nat) : Nat := if h : n = 0 then 0 else up (n / 2) + 1
termination_by n
decreasing_by omega
theorem up_zero : up 0 = 0 := by rw [up]; rfl
theorem up_pos {n : Nat} (h : 0 < n) : up n = up (n / 2) + 1 := by rw [up, dif_neg (by omega)]
theorem up_le : ∀ n : Nat, up n ≤ n := by
  intro n
  induction n using Nat.strongRecOn with
  | _ n ih =>
    by_cases h : n = 0
    · subst h; rw [up_zero]; exact Nat.le_refl _
    · rw [up_pos (by omega)]
      have := ih (n / 2) (by omega)
      omega
end Go.Proofs.Ytgffabjajbgbjaa.tn
