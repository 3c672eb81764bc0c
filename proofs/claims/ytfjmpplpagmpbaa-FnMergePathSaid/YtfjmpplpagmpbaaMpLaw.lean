/- The split of a merge at a diagonal, its properties; the sizes of the parts. No condition. -/
import Derived.Test.YtfjmpplpagmpbaaPath
import Derived.Test.YtfjmpplpagmpbaaPathParts
import Derived.Test.YtfjmpplpagmpbaaParMrg
set_option linter.unusedVariables false
set_option linter.unusedSimpArgs false
namespace Go.Proofs.Ytfjmpplpagmpbaa.mpLaw
open Go.RowKit Go.Proofs.Ytfjmpplpagmpbaa.mem Go.Proofs.Ytfjmpplpagmpbaa.paths Go.Proofs.Ytfjmpplpagmpbaa.parMrg

theorem bs_prop (a b : List Int) (dg l0 h0 : Nat) : ∀ f lo hi n, hi - lo < f → lo ≤ hi → l0 ≤ lo → hi ≤ h0 → (lo = l0 ∨ a.getD (lo - 1) 0 ≤ b.getD (dg - lo) 0) → (hi = h0 ∨ b.getD (dg - 1 - hi) 0 < a.getD hi 0) →
    l0 ≤ (bs a b dg f lo hi n).1 ∧ (bs a b dg f lo hi n).1 ≤ h0 ∧
      ((bs a b dg f lo hi n).1 = l0 ∨ a.getD ((bs a b dg f lo hi n).1 - 1) 0 ≤ b.getD (dg - (bs a b dg f lo hi n).1) 0) ∧
      ((bs a b dg f lo hi n).1 = h0 ∨ b.getD (dg - 1 - (bs a b dg f lo hi n).1) 0 < a.getD (bs a b dg f lo hi n).1 0)
  | 0, lo, hi, n, hf, _, _, _, _, _ => by omega
  | f + 1, lo, hi, n, hf, hlh, hl, hh, hL, hH => by
    unfold bs
    by_cases h : lo < hi
    · rw [if_pos h]
      by_cases hc : a.getD ((lo + hi) / 2) 0 ≤ b.getD (dg - 1 - (lo + hi) / 2) 0
      · rw [if_pos hc]
        refine bs_prop a b dg l0 h0 f _ hi (n + 1) (by omega) (by omega) (by omega) hh (Or.inr ?_) hH
        rw [show (lo + hi) / 2 + 1 - 1 = (lo + hi) / 2 by omega, show dg - ((lo + hi) / 2 + 1) = dg - 1 - (lo + hi) / 2 by omega]; exact hc
      · rw [if_neg hc]
        exact bs_prop a b dg l0 h0 f lo _ (n + 1) (by omega) (by omega) hl (by omega) hL (Or.inr (by omega))
    · rw [if_neg h]
      have e : lo = hi := by omega
      subst e
      exact ⟨hl, hh, hL, hH⟩
theorem bs_cnt (a b : List Int) (dg : Nat) : ∀ k f lo hi n, hi - lo < 2 ^ k → (bs a b dg f lo hi n).2 ≤ n + k
  | k, 0, lo, hi, n, h => by simp [bs]
  | 0, f + 1, lo, hi, n, h => by
    unfold bs
    rw [if_neg (by simp at h; omega)]; simp
  | k + 1, f + 1, lo, hi, n, h => by
    unfold bs
    rw [Nat.pow_succ] at h
    by_cases hlt : lo < hi
    · rw [if_pos hlt]
      by_cases hc : a.getD ((lo + hi) / 2) 0 ≤ b.getD (dg - 1 - (lo + hi) / 2) 0
      · rw [if_pos hc]
        have := bs_cnt a b dg k f ((lo + hi) / 2 + 1) hi (n + 1) (by omega); omega
      · rw [if_neg hc]
        have := bs_cnt a b dg k f lo ((lo + hi) / 2) (n + 1) (by omega); omega
    · rw [if_neg hlt]; simp
/-- where the diagonal is met -/
def pt (a b : List Int) (dg : Nat) : Nat := (split a b dg).1
theorem pt_prop (a b : List Int) {dg : Nat} (hd : dg ≤ a.length + b.length) : dg - b.length ≤ pt a b dg ∧ pt a b dg ≤ dg ∧ pt a b dg ≤ a.length ∧
    (0 < pt a b dg → dg - pt a b dg < b.length → a.getD (pt a b dg - 1) 0 ≤ b.getD (dg - pt a b dg) 0) ∧
    (0 < dg - pt a b dg → pt a b dg < a.length → b.getD (dg - pt a b dg - 1) 0 < a.getD (pt a b dg) 0) := by
  have h := bs_prop a b dg (dg - b.length) (min dg a.length) (min dg a.length + 1) (dg - b.length) (min dg a.length) 0 (by omega) (by omega) (Nat.le_refl _) (Nat.le_refl _) (Or.inl rfl) (Or.inl rfl)
  rw [pt, split]
  generalize (bs a b dg (min dg a.length + 1) (dg - b.length) (min dg a.length) 0).1 = i at h
  obtain ⟨h1, h2, h3, h4⟩ := h
  refine ⟨h1, by omega, by omega, fun h5 h6 => ?_, fun h5 h6 => ?_⟩
  · rcases h3 with h3 | h3
    · omega
    · exact h3
  · rcases h4 with h4 | h4
    · omega
    · rw [show dg - i - 1 = dg - 1 - i by omega]; exact h4
theorem split_cnt {a b : List Int} (hab : a.length + b.length ≤ 64) {dg : Nat} (hd : dg ≤ a.length + b.length) : (split a b dg).2 ≤ 7 := by
  have := bs_cnt a b dg 7 (min dg a.length + 1) (dg - b.length) (min dg a.length) 0 (by show _ < 128; omega)
  rw [split]; omega
def Up (l : List Int) : Prop := ∀ i j, i ≤ j → j < l.length → l.getD i 0 ≤ l.getD j 0
theorem pt_next {a b : List Int} (ha : Up a) (hb : Up b) {dg : Nat} (hd : dg + 1 ≤ a.length + b.length) : pt a b dg ≤ pt a b (dg + 1) ∧ pt a b (dg + 1) ≤ pt a b dg + 1 := by
  obtain ⟨h1, h2, h3, h4, h5⟩ := pt_prop a b (dg := dg) (by omega)
  obtain ⟨k1, k2, k3, k4, k5⟩ := pt_prop a b hd
  generalize pt a b dg = i at *
  generalize pt a b (dg + 1) = i' at *
  refine ⟨Nat.le_of_not_lt fun hlt => ?_, Nat.le_of_not_lt fun hlt => ?_⟩
  · have e1 := k5 (by omega) (by omega)
    have e2 := h4 (by omega) (by omega)
    have e3 := hb (dg - i) (dg + 1 - i' - 1) (by omega) (by omega)
    have e4 := ha i' (i - 1) (by omega) (by omega)
    omega
  · have e1 := k4 (by omega) (by omega)
    have e2 := h5 (by omega) (by omega)
    have e3 := ha i (i' - 1) (by omega) (by omega)
    have e4 := hb (dg + 1 - i') (dg - i - 1) (by omega) (by omega)
    omega
theorem pt_zero (a b : List Int) : pt a b 0 = 0 := by
  have := (pt_prop a b (dg := 0) (by omega)).2.1; omega
theorem pt_end (a b : List Int) : pt a b (a.length + b.length) = a.length := by
  have h := pt_prop a b (Nat.le_refl (a.length + b.length)); omega
theorem up_of {l : List Int} (h : lists.asc l = true) : Up l := by
  have hs : ∀ i, i + 1 < l.length → l.getD i 0 ≤ l.getD (i + 1) 0 := fun i hi => lists.asc_le h hi
  intro i j hij hj
  induction j with
  | zero => rw [show i = 0 by omega]; exact Int.le_refl _
  | succ j ih =>
    by_cases e : i = j + 1
    · subst e; exact Int.le_refl _
    · have := ih (by omega) (by omega)
      have := hs j hj
      omega
/-! ### sizes -/
theorem szs_at {n p k i : Nat} (h : i < k) : (szs n p k).getD i 0 = (((i + 1) * n / p : Nat) : Int) - ((i * n / p : Nat) : Int) := by
  rw [szs, List.getD_eq_getElem?_getD, List.getElem?_map, List.getElem?_range h]; rfl
theorem size_bd (n p i : Nat) (hp : 0 < p) : i * n / p + n / p ≤ (i + 1) * n / p ∧ (i + 1) * n / p ≤ i * n / p + (n + p - 1) / p := by
  have h1 := Nat.div_add_mod (i * n) p
  have h2 := Nat.mod_lt (i * n) hp
  have e : (i + 1) * n = (i * n % p + n) + p * (i * n / p) := by rw [Nat.succ_mul]; omega
  rw [e, Nat.add_mul_div_left _ _ hp]
  have h3 := Nat.div_le_div_right (c := p) (show n ≤ i * n % p + n by omega)
  have h4 := Nat.div_le_div_right (c := p) (show i * n % p + n ≤ n + p - 1 by omega)
  omega
theorem szs_sum (n p : Nat) : ∀ k, (szs n p k).sum = ((k * n / p : Nat) : Int)
  | 0 => by simp [szs]
  | k + 1 => by
    rw [szs_step, List.sum_append, szs_sum n p k, List.sum_singleton]; omega
theorem szs_total {n p : Nat} (hp : 0 < p) : (szs n p p).sum = (n : Int) := by
  rw [szs_sum, Nat.mul_div_cancel_left _ hp]
theorem szs_pos {n p : Nat} (hp : 0 < p) (hn : n ≤ 64) : ∀ z ∈ szs n p p, 0 ≤ z ∧ z ≤ 64 := by
  intro z hz
  obtain ⟨i, hi, rfl⟩ := List.mem_map.1 hz
  have h := size_bd n p i hp
  have h2 : (n + p - 1) / p ≤ n := by
    rcases Nat.eq_zero_or_pos n with e | e
    · subst e; rw [Nat.div_eq_of_lt (by omega)]; omega
    · rw [Nat.div_le_iff_le_mul_add_pred hp]
      have : n ≤ p * n := Nat.le_mul_of_pos_left n hp
      omega
  have h5 : (0 : Int) ≤ ((n / p : Nat) : Int) := Int.natCast_nonneg _
  omega
/-! ### the parts' bounds -/
theorem parts_at (a b : List Int) {p k i : Nat} (h : i < k) : (pathParts.parts a b p k).getD i 0 = (pt a b (i * (a.length + b.length) / p) : Int) := by
  rw [pathParts.parts, List.getD_eq_getElem?_getD, List.getElem?_map, List.getElem?_range h]; rfl
theorem parts_first (a b : List Int) (p : Nat) : (pathParts.parts a b p (p + 1)).getD 0 0 = 0 := by
  rw [parts_at a b (by omega), Nat.zero_mul, Nat.zero_div, pt_zero]; rfl
theorem parts_last (a b : List Int) {p : Nat} (hp : 0 < p) : (pathParts.parts a b p (p + 1)).getD p 0 = (a.length : Int) := by
  rw [parts_at a b (by omega), Nat.mul_div_cancel_left _ hp, pt_end]
end Go.Proofs.Ytfjmpplpagmpbaa.mpLaw
