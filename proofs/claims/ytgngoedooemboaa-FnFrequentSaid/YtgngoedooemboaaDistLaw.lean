/- Distinct elements: the plain law. No condition. -/
import Derived.Test.YtgngoedooemboaaSrtLaw
import Derived.Lib.SlicesCompact
set_option linter.unusedVariables false
set_option linter.unusedSimpArgs false
namespace Go.Proofs.Ytgngoedooemboaa.distinct
open Go.RowKit Go.Proofs.Ytgngoedooemboaa.mem Go.Proofs.Ytgngoedooemboaa.srt

/-- one element further: it is added unless it is there -/
def add (o : List Int) (x : Int) : List Int := if o.contains x = true then o else o ++ [x]
def dst (l : List Int) : List Int := l.foldl add []
theorem dst_snoc (l : List Int) (x : Int) : dst (l ++ [x]) = add (dst l) x := by simp [dst]
theorem dst_take {l : List Int} {k : Nat} (h : k < l.length) : dst (l.take (k + 1)) = add (dst (l.take k)) l[k] := by
  rw [List.take_succ_eq_append_getElem h, dst_snoc]
theorem add_len (o : List Int) (x : Int) : (add o x).length ≤ o.length + 1 := by unfold add; split <;> simp
theorem mem_add {o : List Int} {x y : Int} : y ∈ add o x ↔ y ∈ o ∨ y = x := by
  unfold add
  by_cases h : o.contains x = true
  · rw [if_pos h]
    constructor
    · exact Or.inl
    · rintro (h1 | rfl)
      · exact h1
      · simpa using h
  · rw [if_neg h]; simp
theorem mem_dst (l : List Int) {y : Int} : y ∈ dst l ↔ y ∈ l := by
  have key : ∀ (l o : List Int), y ∈ l.foldl add o ↔ y ∈ o ∨ y ∈ l := by
    intro l
    induction l with
    | nil => intro o; simp
    | cons a l ih => intro o; rw [List.foldl_cons, ih, mem_add]; simp only [List.mem_cons]; constructor <;> intro h <;> grind
  simpa [dst] using key l []
theorem dst_len (l : List Int) : ∀ k, (dst (l.take k)).length ≤ k
  | 0 => by simp [dst]
  | k + 1 => by
    by_cases h : k < l.length
    · rw [dst_take h]; have := dst_len l k; have := add_len (dst (l.take k)) l[k]; omega
    · rw [List.take_of_length_le (by omega), ← List.take_of_length_le (l := l) (i := k) (by omega)]; have := dst_len l k; omega
/-- on an ascending list the library's Compact gives the same -/
theorem dst_compact {s : List Int} (h : s.Pairwise (· ≤ ·)) : ∀ k, k ≤ s.length → dst (s.take k) = Go.Lib.compactUpTo s.toArray k
  | 0, _ => rfl
  | k + 1, hk => by
    have hlt : k < s.length := by omega
    have hget : ∀ j (hj : j < s.length), s.toArray[j]! = s[j] := fun j hj => by rw [getElem!_pos _ j (by simpa using hj)]; simp
    rw [dst_take hlt, dst_compact h k (by omega), Go.Lib.compactUpTo, Go.Lib.compactUpTo, List.range_succ, List.filter_append, List.map_append]
    have hmem : s[k] ∈ dst (s.take k) ↔ Go.Lib.keeps s.toArray k = false := by
      rw [mem_dst]
      simp only [Go.Lib.keeps, decide_eq_false_iff_not, not_or, Decidable.not_not]
      constructor
      · intro hm
        obtain ⟨i, hi, he⟩ := List.getElem_of_mem hm
        have hik : i < k := by simp at hi; omega
        rw [List.getElem_take] at he
        refine ⟨by omega, ?_⟩
        rw [hget k hlt, hget (k - 1) (by omega)]
        have h1 := List.pairwise_iff_getElem.1 h (k - 1) k (by omega) hlt (by omega)
        by_cases e : i = k - 1
        · subst e; exact he.symm
        · have h2 := List.pairwise_iff_getElem.1 h i (k - 1) (by omega) (by omega) (by omega)
          omega
      · rintro ⟨h0, he⟩
        rw [hget k hlt, hget (k - 1) (by omega)] at he
        rw [he]
        exact List.mem_take_iff_getElem.2 ⟨k - 1, by omega, rfl⟩
    rw [dst_compact h k (by omega), Go.Lib.compactUpTo] at hmem
    unfold add
    cases hkp : Go.Lib.keeps s.toArray k with
    | false =>
      rw [if_pos (by simpa using hmem.2 hkp)]
      simp [hkp]
    | true =>
      rw [if_neg (by intro hc; have := hmem.1 (by simpa using hc); rw [hkp] at this; cases this)]
      have hk2 := hget k hlt
      simp only [List.filter_cons, hkp, if_true, List.filter_nil, List.map_cons, List.map_nil, hk2]
theorem compact_srt (zs : List Int) : Go.Lib.compact (srt zs) = dst (srt zs) := by
  have := dst_compact (srt_asc zs) (srt zs).length (Nat.le_refl _)
  rw [List.take_length] at this
  exact this.symm
/-! ### how often each occurs -/
theorem dst_nodup (l : List Int) : (dst l).Nodup := by
  have key : ∀ (l o : List Int), o.Nodup → (l.foldl add o).Nodup := by
    intro l
    induction l with
    | nil => intro o h; exact h
    | cons a l ih =>
      intro o h
      rw [List.foldl_cons]
      refine ih _ ?_
      unfold add
      split
      · exact h
      · rename_i hc
        rw [List.nodup_append]
        refine ⟨h, by simp, fun x hx y hy => ?_⟩
        rintro rfl
        simp at hy
        subst hy
        exact hc (by simpa using hx)
  exact key l [] List.nodup_nil
def tms (l : List Int) : List Int := (dst l).map fun x => ((l.count x : Nat) : Int)
theorem tms_len (l : List Int) : (tms l).length = (dst l).length := List.length_map _
theorem tms_new {l : List Int} {x : Int} (h : x ∉ dst l) : dst (l ++ [x]) = dst l ++ [x] ∧ tms (l ++ [x]) = tms l ++ [1] := by
  have e : dst (l ++ [x]) = dst l ++ [x] := by
    rw [dst_snoc, add, if_neg (by simpa using h)]
  refine ⟨e, ?_⟩
  unfold tms
  rw [e, List.map_append]
  congr 1
  · refine List.map_congr_left fun y hy => ?_
    have : ¬ x = y := fun e => h (e ▸ hy)
    simp [List.count_append, this]
  · have hc : l.count x = 0 := List.count_eq_zero.2 fun hx => h ((mem_dst l).2 hx)
    simp [List.count_append, hc]
theorem tms_old {l : List Int} {x : Int} {m : Nat} (hm : (dst l)[m]? = some x) : dst (l ++ [x]) = dst l ∧ tms (l ++ [x]) = (tms l).set m ((tms l).getD m 0 + 1) := by
  obtain ⟨hlt, hx⟩ := List.getElem?_eq_some_iff.1 hm
  have e : dst (l ++ [x]) = dst l := by
    rw [dst_snoc, add, if_pos (by have := List.mem_of_getElem? hm; simpa using this)]
  refine ⟨e, ?_⟩
  apply List.ext_getElem
  · rw [List.length_set, tms_len, tms_len, e]
  · intro i h1 h2
    rw [List.length_set] at h2
    have hi : i < (dst l).length := by rw [tms_len] at h2; exact h2
    rw [List.getElem_set]
    simp only [tms, e, List.getElem_map, List.count_append, List.getD_eq_getElem?_getD, List.getElem?_map, List.getElem?_eq_getElem hlt, Option.map_some, Option.getD_some]
    by_cases hc : m = i
    · subst hc; rw [if_pos rfl, hx]; simp
    · rw [if_neg hc]
      have : ¬ x = (dst l)[i] := fun h => hc ((List.getElem_inj (dst_nodup l)).1 (hx.trans h))
      simp [this]
theorem tms_bound (l : List Int) (m : Nat) : 0 ≤ (tms l).getD m 0 ∧ (tms l).getD m 0 ≤ l.length := by
  rw [List.getD_eq_getElem?_getD]
  by_cases h : m < (tms l).length
  · rw [List.getElem?_eq_getElem h]
    simp only [tms, List.getElem_map, Option.getD_some]
    have := List.count_le_length (a := (dst l)[m]'(by rw [← tms_len]; exact h)) (l := l)
    omega
  · rw [List.getElem?_eq_none (by omega)]; simp
/-- the place of an element, or -1 -/
def ix (l : List Int) (x : Int) : Int := if x ∈ l then ((l.idxOf x : Nat) : Int) else -1
theorem ix_none {l : List Int} {x : Int} (h : x ∉ l) : ix l x = -1 := by rw [ix, if_neg h]
theorem ix_some {l : List Int} {x : Int} (h : x ∈ l) : ∃ m : Nat, ix l x = (m : Int) ∧ m < l.length ∧ l[m]? = some x := by
  refine ⟨l.idxOf x, by rw [ix, if_pos h], List.idxOf_lt_length_iff.2 h, ?_⟩
  rw [List.getElem?_eq_getElem (List.idxOf_lt_length_iff.2 h), List.getElem_idxOf]
theorem ix_first {l : List Int} {x : Int} {m : Nat} (h : m < l.length) (hx : l[m] = x) (hn : x ∉ l.take m) : ix l x = (m : Int) := by
  have hm : x ∈ l := hx ▸ List.getElem_mem h
  rw [ix, if_pos hm]
  congr 1
  have e : l = l.take m ++ x :: l.drop (m + 1) := by rw [← hx, ← List.drop_eq_getElem_cons h, List.take_append_drop]
  conv => lhs; rw [e]
  rw [List.idxOf_append, if_neg hn]
  simp; omega
end Go.Proofs.Ytgngoedooemboaa.distinct
