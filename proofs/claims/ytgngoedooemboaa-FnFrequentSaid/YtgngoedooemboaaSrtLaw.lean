/- Sorting by exchanges: the plain law. No condition. -/
import Derived.Test.YtgngoedooemboaaMem
set_option linter.unusedVariables false
set_option linter.unusedSimpArgs false
namespace Go.Proofs.Ytgngoedooemboaa.srt
open Go.RowKit Go.Proofs.Ytgngoedooemboaa.mem

def srt (zs : List Int) : List Int := zs.mergeSort fun x y => decide (x ≤ y)
theorem srt_len (zs : List Int) : (srt zs).length = zs.length := List.length_mergeSort _
theorem srt_perm (zs : List Int) : (srt zs).Perm zs := List.mergeSort_perm _ _
theorem srt_mem {zs : List Int} {x : Int} : x ∈ srt zs ↔ x ∈ zs := (srt_perm zs).mem_iff
theorem srt_asc (zs : List Int) : (srt zs).Pairwise (· ≤ ·) := by
  have h := List.pairwise_mergeSort (le := fun x y : Int => decide (x ≤ y)) (fun a b c h1 h2 => by simp only [decide_eq_true_eq] at *; omega) (fun a b => by simp only [Bool.or_eq_true, decide_eq_true_eq]; omega) zs
  exact h.imp fun hab => by simpa using hab
theorem srt_uniq {l zs : List Int} (hp : l.Perm zs) (hs : l.Pairwise (· ≤ ·)) : l = srt zs :=
  List.Perm.eq_of_pairwise (fun a b _ _ h1 h2 => Int.le_antisymm h1 h2) hs (srt_asc zs) (hp.trans (srt_perm zs).symm)
/-- one exchange -/
def sw (l : List Int) (k : Nat) : List Int := (l.set (k - 1) (l.getD k 0)).set k (l.getD (k - 1) 0)
theorem sw_len (l : List Int) (k : Nat) : (sw l k).length = l.length := by simp [sw]
theorem sw_perm : ∀ (l : List Int) (k : Nat), 0 < k → k < l.length → (sw l k).Perm l
  | [], k, h, h2 => by simp at h2
  | [a], k, h, h2 => by simp at h2; omega
  | a :: b :: l, 1, _, _ => by
    exact List.Perm.swap a b l
  | a :: l, k + 2, _, h => by
    have ih := sw_perm l (k + 1) (by omega) (by simp only [List.length_cons] at h; omega)
    exact ih.cons a
theorem sw_get {l : List Int} {k : Nat} (h0 : 0 < k) (hk : k < l.length) (j : Nat) : (sw l k).getD j 0 = if j = k then l.getD (k - 1) 0 else if j = k - 1 then l.getD k 0 else l.getD j 0 := by
  simp only [sw, List.getD_eq_getElem?_getD, List.getElem?_set, List.length_set]
  by_cases h1 : j = k
  · subst h1; simp [hk]
  · rw [if_neg (fun e => h1 e.symm), if_neg h1]
    by_cases h2 : j = k - 1
    · subst h2
      have : k - 1 < l.length := by omega
      simp [this]
    · rw [if_neg (fun e => h2 e.symm), if_neg h2]
/-- the first i + 1 elements are in order but for the one at k -/
def Inv (zs l : List Int) (i k : Nat) : Prop := l.length = zs.length ∧ l.Perm zs ∧ ∀ p q, p < q → q ≤ i → q ≠ k → l.getD p 0 ≤ l.getD q 0
theorem inv_start (zs : List Int) : Inv zs zs 0 0 := ⟨rfl, List.Perm.refl _, fun p q h1 h2 h3 => by omega⟩
theorem inv_next {zs l : List Int} {i : Nat} (h : Inv zs l i 0) : Inv zs l (i + 1) (i + 1) := ⟨h.1, h.2.1, fun p q h1 h2 h3 => h.2.2 p q h1 (by omega) (by omega)⟩
theorem inv_swap {zs l : List Int} {i k : Nat} (h : Inv zs l i k) (h0 : 0 < k) (hk : k ≤ i) (hi : i < l.length) (hgt : l.getD k 0 < l.getD (k - 1) 0) : Inv zs (sw l k) i (k - 1) := by
  refine ⟨by rw [sw_len]; exact h.1, (sw_perm l k h0 (by omega)).trans h.2.1, fun p q h1 h2 h3 => ?_⟩
  rw [sw_get h0 (by omega), sw_get h0 (by omega)]
  by_cases e1 : q = k
  · rw [if_pos e1, if_neg (by omega)]
    by_cases e2 : p = k - 1
    · rw [if_pos e2]; omega
    · rw [if_neg e2]; exact h.2.2 p (k - 1) (by omega) (by omega) (by omega)
  · rw [if_neg e1, if_neg h3]
    by_cases e2 : p = k
    · rw [if_pos e2]; exact h.2.2 (k - 1) q (by omega) h2 e1
    · rw [if_neg e2]
      by_cases e3 : p = k - 1
      · rw [if_pos e3]; exact h.2.2 k q (by omega) h2 e1
      · rw [if_neg e3]; exact h.2.2 p q h1 h2 e1
theorem inv_stop {zs l : List Int} {i k : Nat} (h : Inv zs l i k) (hs : k = 0 ∨ l.getD (k - 1) 0 ≤ l.getD k 0) : Inv zs l i 0 := by
  refine ⟨h.1, h.2.1, fun p q h1 h2 _ => ?_⟩
  by_cases e : q = k
  · subst e
    rcases hs with hs | hs
    · omega
    · by_cases e2 : p = q - 1
      · subst e2; exact hs
      · exact Int.le_trans (h.2.2 p (q - 1) (by omega) (by omega) (by omega)) hs
  · exact h.2.2 p q h1 h2 e
theorem inv_end {zs l : List Int} {i : Nat} (h : Inv zs l i 0) (hi : l.length ≤ i + 1) : l = srt zs := by
  refine srt_uniq h.2.1 (List.pairwise_iff_getElem.2 fun p q hp hq hpq => ?_)
  have := h.2.2 p q hpq (by omega) (by omega)
  simpa [List.getD_eq_getElem?_getD, List.getElem?_eq_getElem hp, List.getElem?_eq_getElem hq] using this
end Go.Proofs.Ytgngoedooemboaa.srt
