/- Counters for frequent elements: keys and counts as two lists, the reference's loops over them. No program. -/
import Derived.Test.YtgngoedooemboaaFrqLaw
set_option linter.unusedVariables false
set_option linter.unusedSimpArgs false
namespace Go.Proofs.Ytgngoedooemboaa.frq
open Go Go.Maps

def vals (L : Ctr) : List Int := L.map (·.2)
theorem keys_len (L : Ctr) : (keys L).length = L.length := List.length_map _
theorem vals_len (L : Ctr) : (vals L).length = L.length := List.length_map _
theorem vals_app (L M : Ctr) : vals (L ++ M) = vals L ++ vals M := List.map_append
theorem step_sub {m : Nat} {L : Ctr} {x y : Int} (h : y ∈ keys (step m L x)) : y ∈ keys L ∨ y = x := by
  unfold step at h
  split at h
  · rw [keys_bump] at h; exact Or.inl h
  · split at h
    · rw [keys_app] at h
      rcases List.mem_append.1 h with h | h
      · exact Or.inl h
      · right; simpa [keys] using h
    · exact Or.inl ((keys_dec L).subset h)
theorem fold_sub (m : Nat) : ∀ (zs : List Int) (L : Ctr) {y : Int}, y ∈ keys (zs.foldl (step m) L) → y ∈ keys L ∨ y ∈ zs
  | [], L, y, h => Or.inl h
  | z :: zs, L, y, h => by
    rcases fold_sub m zs (step m L z) h with h | h
    · rcases step_sub h with h | h
      · exact Or.inl h
      · exact Or.inr (h ▸ List.mem_cons_self)
    · exact Or.inr (List.mem_cons_of_mem _ h)
theorem run_sub {m : Nat} {zs : List Int} {y : Int} (h : y ∈ keys (run m zs)) : y ∈ zs := by
  rcases fold_sub m zs [] h with h | h
  · cases h
  · exact h
theorem take_step (L : Ctr) {k : Nat} (h : k < L.length) : L.take (k + 1) = L.take k ++ [L[k]] := List.take_succ_eq_append_getElem h
/-- the counts at x among the first k -/
def hit (L : Ctr) (x : Int) (k : Nat) : List Int := ((L.take k).filter fun p => decide (p.1 = x)).map (·.2)
theorem hit_zero (L : Ctr) (x : Int) : hit L x 0 = [] := by simp [hit]
theorem hit_step (L : Ctr) (x : Int) {k : Nat} (h : k < L.length) : hit L x (k + 1) = if L[k].1 = x then hit L x k ++ [L[k].2] else hit L x k := by
  unfold hit
  rw [take_step L h, List.filter_append, List.map_append]
  split
  · rename_i e; simp [e]
  · rename_i e; simp [e]
theorem hit_len (L : Ctr) (x : Int) (k : Nat) : (hit L x k).length ≤ k := by
  unfold hit
  rw [List.length_map]
  exact Nat.le_trans (List.length_filter_le _ _) (List.length_take_le _ _)
theorem filter_key {L : Ctr} (hn : (keys L).Nodup) {x : Int} (hx : x ∈ keys L) : (L.filter fun p => decide (p.1 = x)).map (·.2) = [look L x] := by
  induction L with
  | nil => cases hx
  | cons p L ih =>
    have hk : keys (p :: L) = p.1 :: keys L := rfl
    rw [hk] at hn hx
    rw [List.nodup_cons] at hn
    rw [look_cons, List.filter_cons]
    by_cases e : p.1 = x
    · rw [if_pos e]
      have : L.filter (fun p => decide (p.1 = x)) = [] := List.filter_eq_nil_iff.2 fun q hq hqx => hn.1 (by
        simp only [decide_eq_true_eq] at hqx
        rw [e, ← hqx]; exact List.mem_map_of_mem hq)
      simp [e, this]
    · rw [if_neg e]
      rcases List.mem_cons.1 hx with h | h
      · exact absurd h.symm e
      · simp [e]; simpa using ih hn.2 h
theorem hit_all {L : Ctr} (hO : Ok L) {x : Int} (hx : x ∈ keys L) : hit L x L.length = [look L x] := by
  unfold hit
  rw [List.take_length]
  exact filter_key hO.nd hx
theorem dec_step (L : Ctr) {k : Nat} (h : k < L.length) : dec (L.take (k + 1)) = if 1 < L[k].2 then dec (L.take k) ++ [(L[k].1, L[k].2 - 1)] else dec (L.take k) := by
  unfold dec
  rw [take_step L h, List.filter_append, List.map_append]
  split
  · rename_i e; simp [e]
  · rename_i e; simp [e]
theorem dec_len (L : Ctr) (k : Nat) : (dec (L.take k)).length ≤ k := by
  unfold dec
  rw [List.length_map]
  exact Nat.le_trans (List.length_filter_le _ _) (List.length_take_le _ _)
theorem keys_at (L : Ctr) {k : Nat} (h : k < L.length) : (keys L)[k]? = some L[k].1 := by simp [keys, h]
theorem vals_at (L : Ctr) {k : Nat} (h : k < L.length) : (vals L)[k]? = some L[k].2 := by simp [vals, h]
theorem vals_bump {L : Ctr} (hn : (keys L).Nodup) {k : Nat} (h : k < L.length) : vals (bump L L[k].1) = (vals L).set k (L[k].2 + 1) := by
  apply List.ext_getElem?
  intro i
  rw [List.getElem?_set]
  unfold vals bump
  rw [List.map_map, List.getElem?_map]
  by_cases e : k = i
  · subst e
    rw [if_pos rfl, if_pos (by simpa using h), List.getElem?_eq_getElem h]
    simp
  · rw [if_neg e, List.getElem?_map]
    by_cases hi : i < L.length
    · rw [List.getElem?_eq_getElem hi]
      have hne : L[i].1 ≠ L[k].1 := by
        intro he
        have h1 : (keys L)[i]? = (keys L)[k]? := by rw [keys_at L hi, keys_at L h, he]
        have hi2 : i < (keys L).length := by rw [keys_len]; exact hi
        have hk2 : k < (keys L).length := by rw [keys_len]; exact h
        rw [List.getElem?_eq_getElem hi2, List.getElem?_eq_getElem hk2] at h1
        exact e ((List.getElem_inj hn).1 (Option.some.inj h1)).symm
      simp [hne]
    · rw [List.getElem?_eq_none (by omega)]; rfl
theorem not_mem_of {L : Ctr} {x : Int} (h : ∀ j (hj : j < L.length), L[j].1 ≠ x) : x ∉ keys L := by
  intro hx
  obtain ⟨p, hp, rfl⟩ := List.mem_map.1 hx
  obtain ⟨j, hj, rfl⟩ := List.getElem_of_mem hp
  exact h j hj rfl
theorem mem_at {L : Ctr} {k : Nat} (h : k < L.length) : L[k].1 ∈ keys L := List.mem_map_of_mem (List.getElem_mem h)
end Go.Proofs.Ytgngoedooemboaa.frq
