/- Pruned summaries: the plain law. No condition. -/
import Derived.Test.YtlckeefjhafloaaSmyQ
set_option linter.unusedVariables false
set_option linter.unusedSimpArgs false
namespace Go.Proofs.Ytlckeefjhafloaa.prLaw
open Go.RowKit Go.Proofs.Ytlckeefjhafloaa.mem Go.Proofs.Ytlckeefjhafloaa.smy Go.Proofs.Ytlckeefjhafloaa.smyQ
open Go.Proofs.Ytlckeefjhafloaa.smyRank (mono')

/-- a later entry that is strictly better stays so for greater ranks -/
theorem better {x y : Rkv} {r s : Int} (h1 : x.least < y.least) (h2 : x.most < y.most) (hx : x.least ≤ x.most) (hy : y.least ≤ y.most) (hrs : r ≤ s) (h : err y r < err x r) : err y s < err x s := by
  unfold err at *; omega
theorem mono_lt {cnt : Int} {l : List Rkv} (h : vsmy cnt l = true) {i j : Nat} (hij : i < j) (hj : j < l.length) : (l[i]'(by omega)).least < l[j].least ∧ (l[i]'(by omega)).most < l[j].most := by
  have h1 := vsmy_next h (k := i) (by omega)
  have h2 := mono' h (i := i + 1) (j := j) (by omega) hj
  omega
theorem bst_min (l : List Rkv) (r : Int) : ∀ k i, bst l r k ≤ i → i < k → err (l.getD (bst l r k) z0) r ≤ err (l.getD i z0) r
| k + 1, i, h1, hi => by
  simp only [bst] at h1 ⊢
  by_cases h : k = 0
  · subst h; obtain rfl : i = 0 := by omega
    simp
  · rw [if_neg h] at h1 ⊢
    by_cases h2 : err (l.getD k z0) r < err (l.getD (bst l r k) z0) r
    · rw [if_pos h2] at h1 ⊢
      obtain rfl : i = k := by omega
      omega
    · rw [if_neg h2] at h1 ⊢
      by_cases h3 : i = k
      · subst h3; omega
      · exact bst_min l r k i h1 (by omega)
/-- the best one is strictly better than all before it -/
theorem bst_first (l : List Rkv) (r : Int) : ∀ k i, i < bst l r k → err (l.getD (bst l r k) z0) r < err (l.getD i z0) r
  | k + 1, i, hi => by
    simp only [bst] at hi ⊢
    by_cases h : k = 0
    · simp [h] at hi
    · rw [if_neg h] at hi ⊢
      by_cases h2 : err (l.getD k z0) r < err (l.getD (bst l r k) z0) r
      · rw [if_pos h2] at hi ⊢
        by_cases h3 : i < bst l r k
        · have := bst_first l r k i h3; omega
        · by_cases h4 : i = bst l r k
          · subst h4; exact h2
          · have := bst_min l r k i (by omega) (by omega); omega
      · rw [if_neg h2] at hi ⊢
        exact bst_first l r k i hi
theorem best_mono {cnt : Int} {l : List Rkv} (h : vsmy cnt l = true) (h0 : 0 < l.length) {r s : Int} (hrs : r ≤ s) : best l r ≤ best l s := by
  have h1 : best l r < l.length := bst_lt l r l.length h0
  have h2 : best l s < l.length := bst_lt l s l.length h0
  by_cases hc : best l s < best l r
  · exfalso
    have a := bst_first l r l.length (best l s) hc
    have b := mono_lt h hc h1
    have c := vsmy_at h h1
    have d := vsmy_at h h2
    have e : err (l.getD (best l r) z0) s < err (l.getD (best l s) z0) s := by
      rw [getD_r l h1, getD_r l h2]
      refine better b.1 b.2 (by omega) (by omega) hrs ?_
      have := a
      rw [show bst l r l.length = best l r from rfl, getD_r l h1, getD_r l h2] at this
      exact this
    have f := bst_min l s l.length (best l r) (by show best l s ≤ best l r; omega) h1
    rw [show bst l s l.length = best l s from rfl] at f
    omega
  · omega
/-! ### the selected entries -/
def rkP (cnt : Int) (size : Int) (i : Nat) : Int := 1 + (i : Int) * (cnt - 1) / size
def bi (cnt : Int) (l : List Rkv) (size : Int) (i : Nat) : Nat := best l (rkP cnt size i)
def sel (cnt : Int) (l : List Rkv) (size : Int) (k j : Nat) : Bool := (List.range k).any fun i => bi cnt l size i == j
def pick (cnt : Int) (l : List Rkv) (size : Int) (k n : Nat) : List Rkv := ((List.range n).filter fun j => sel cnt l size k j).map fun j => l.getD j z0
theorem sel_succ (cnt : Int) (l : List Rkv) (size : Int) (k j : Nat) : sel cnt l size (k + 1) j = (sel cnt l size k j || (bi cnt l size k == j)) := by
  simp [sel, List.range_succ]
theorem sel_le {cnt : Int} {l : List Rkv} {size : Int} {k j m : Nat} (hm : ∀ i, i < k → bi cnt l size i ≤ m) (h : sel cnt l size k j = true) : j ≤ m := by
  simp only [sel, List.any_eq_true, List.mem_range, beq_iff_eq] at h
  obtain ⟨i, hi, rfl⟩ := h
  exact hm i hi
theorem pick_old {cnt : Int} {l : List Rkv} {size : Int} {k n : Nat} (h : sel cnt l size k (bi cnt l size k) = true) : pick cnt l size (k + 1) n = pick cnt l size k n := by
  unfold pick
  congr 1
  apply List.filter_congr
  intro j _
  rw [sel_succ]
  by_cases e : bi cnt l size k = j
  · subst e; simp [h]
  · simp [e]
theorem pick_new {cnt : Int} {l : List Rkv} {size : Int} {k n : Nat} (hm : ∀ i, i < k → bi cnt l size i < bi cnt l size k) (hn : bi cnt l size k < n) : pick cnt l size (k + 1) n = pick cnt l size k n ++ [l.getD (bi cnt l size k) z0] := by
  obtain ⟨d, rfl⟩ : ∃ d, n = bi cnt l size k + 1 + d := ⟨n - (bi cnt l size k + 1), by omega⟩
  generalize hg : bi cnt l size k = g at *
  have hf : ∀ j, g ≤ j → sel cnt l size k j = false := fun j hj => by
    cases h : sel cnt l size k j with
    | false => rfl
    | true =>
      simp only [sel, List.any_eq_true, List.mem_range, beq_iff_eq] at h
      obtain ⟨i, hi, rfl⟩ := h
      have := hm i hi; omega
  have e1 : (List.range (g + 1 + d)) = List.range g ++ (g :: (List.range d).map fun i => g + 1 + i) := by
    rw [List.range_add, List.range_succ, List.append_assoc]; rfl
  unfold pick
  rw [e1, List.filter_append, List.filter_append, List.map_append, List.map_append, List.filter_cons, List.filter_cons]
  have e2 : ((List.range g).filter fun j => sel cnt l size (k + 1) j) = (List.range g).filter fun j => sel cnt l size k j := by
    apply List.filter_congr
    intro j hj
    rw [List.mem_range] at hj
    rw [sel_succ, hg]
    have : (g == j) = false := by simp; omega
    rw [this, Bool.or_false]
  have e3 : (((List.range d).map fun i => g + 1 + i).filter fun j => sel cnt l size (k + 1) j) = [] := by
    rw [List.filter_eq_nil_iff]
    intro j hj
    obtain ⟨i, _, rfl⟩ := List.mem_map.1 hj
    rw [sel_succ, hg, hf _ (by omega)]; simp; omega
  have e4 : (((List.range d).map fun i => g + 1 + i).filter fun j => sel cnt l size k j) = [] := by
    rw [List.filter_eq_nil_iff]
    intro j hj
    obtain ⟨i, _, rfl⟩ := List.mem_map.1 hj
    rw [hf _ (by omega)]; simp
  have e5 : sel cnt l size (k + 1) g = true := by rw [sel_succ, hg]; simp
  rw [e2, e3, e4, e5, hf g (Nat.le_refl _)]
  simp
/-- one entry further, the program's way -/
theorem pick_step (cnt : Int) (l : List Rkv) (size : Int) (k n : Nat) : pick cnt l size k (n + 1) = pick cnt l size k n ++ (if sel cnt l size k n = true then [l.getD n z0] else []) := by
  unfold pick
  rw [List.range_succ, List.filter_append, List.map_append]
  congr 1
  cases h : sel cnt l size k n <;> simp [h]
theorem pick_len (cnt : Int) (l : List Rkv) (size : Int) (k n : Nat) : (pick cnt l size k n).length ≤ n := by
  unfold pick
  rw [List.length_map]
  have := List.length_filter_le (fun j => sel cnt l size k j) (List.range n)
  simpa using this
end Go.Proofs.Ytlckeefjhafloaa.prLaw
