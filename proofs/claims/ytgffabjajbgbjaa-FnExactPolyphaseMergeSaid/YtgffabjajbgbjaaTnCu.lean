/- What is left of each list in a merge by tournaments. No program. -/
import Derived.Test.YtgffabjajbgbjaaTnKm
set_option linter.unusedVariables false
set_option linter.unusedSimpArgs false
namespace Go.Proofs.Ytgffabjajbgbjaa.tn
open Go.RowKit Go.Proofs.Ytgffabjajbgbjaa.mem

structure Cur (rs cur : List (List Rec)) (nx : List Int) : Prop where
  len : cur.length = rs.length
  nl : nx.length = rs.length
  at' : ∀ i, i < rs.length → ∃ p : Nat, nx[i]? = some (p : Int) ∧ p ≤ (rs.getD i []).length ∧ cur.getD i [] = (rs.getD i []).drop p
theorem cur_init (rs : List (List Rec)) : Cur rs rs (List.replicate rs.length 0) :=
  ⟨rfl, by simp, fun i hi => ⟨0, by simp [hi], Nat.zero_le _, by simp⟩⟩
theorem getD_set' {α : Type} (l : List α) (i j : Nat) (x d : α) (h : i < l.length) : (l.set i x).getD j d = if i = j then x else l.getD j d := by
  rw [List.getD_eq_getElem?_getD, List.getElem?_set]
  by_cases e : i = j
  · rw [if_pos e, if_pos e, if_pos h]; rfl
  · rw [if_neg e, if_neg e, List.getD_eq_getElem?_getD]
theorem Cur.step {rs cur : List (List Rec)} {nx : List Int} (h : Cur rs cur nx) {i : Nat} (hi : i < rs.length) {x : Rec} {t : List Rec} (hc : cur.getD i [] = x :: t) :
    ∃ p : Nat, ∃ hp : p < (rs.getD i []).length, nx[i]? = some (p : Int) ∧ (rs.getD i [])[p] = x ∧ t = (rs.getD i []).drop (p + 1) ∧ Cur rs (cur.set i t) (nx.set i ((p : Int) + 1)) := by
  obtain ⟨p, h1, h2, h3⟩ := h.at' i hi
  rw [hc] at h3
  have hp : p < (rs.getD i []).length := by
    rcases Nat.lt_or_ge p (rs.getD i []).length with h | h
    · exact h
    · rw [List.drop_eq_nil_of_le h] at h3; cases h3
  rw [List.drop_eq_getElem_cons hp] at h3
  injection h3 with h4 h5
  refine ⟨p, hp, h1, h4.symm, h5, by rw [List.length_set]; exact h.len, by rw [List.length_set]; exact h.nl, fun j hj => ?_⟩
  by_cases e : i = j
  · subst e
    exact ⟨p + 1, by rw [List.getElem?_set_self (by rw [h.nl]; exact hi)]; rfl, hp, by rw [getD_set' _ _ _ _ _ (by rw [h.len]; exact hi), if_pos rfl]; exact h5⟩
  · obtain ⟨q, a, b, c⟩ := h.at' j hj
    exact ⟨q, by rw [List.getElem?_set_ne e]; exact a, b, by rw [getD_set' _ _ _ _ _ (by rw [h.len]; exact hi), if_neg e]; exact c⟩
theorem kys_set (cur : List (List Rec)) (i : Nat) (t : List Rec) : kys (cur.set i t) = (kys cur).set i (hd t) := List.map_set
theorem dns_set (cur : List (List Rec)) (i : Nat) (t : List Rec) : dns (cur.set i t) = (dns cur).set i t.isEmpty := List.map_set
theorem dns_get {cur : List (List Rec)} {i : Nat} (h : i < cur.length) : (dns cur)[i]? = some (cur.getD i []).isEmpty := by
  simp [dns, h, List.getD_eq_getElem?_getD]
theorem kys_get {cur : List (List Rec)} {i : Nat} (h : i < cur.length) : (kys cur)[i]? = some (hd (cur.getD i [])) := by
  simp [kys, h, List.getD_eq_getElem?_getD]
theorem getD_some {α : Type} {l : List α} {i : Nat} {d : α} (h : i < l.length) : l[i]? = some (l.getD i d) := by
  simp [h, List.getD_eq_getElem?_getD]
theorem list_of {α : Type} {a b : List α} (hl : a.length = b.length) (h : ∀ p, p < a.length → a[p]? = b[p]?) : a = b :=
  List.ext_getElem? fun p => by
    by_cases hp : p < a.length
    · exact h p hp
    · rw [List.getElem?_eq_none (by omega), List.getElem?_eq_none (by omega)]
theorem up_div_le (k w : Nat) (hk : k ≤ 1024) (hw : w < k) : up ((k + w) / 2) ≤ 1024 := by
  have := up_le ((k + w) / 2)
  omega
theorem km_len : ∀ (f : Nat) (rs : List (List Rec)), (km f rs).1.length ≤ f
  | 0, rs => Nat.le_refl _
  | f + 1, rs => by
    cases h : rs.getD (wn rs) [] with
    | nil => rw [km_done h]; exact Nat.zero_le _
    | cons x t =>
      rw [km_step h]
      have := km_len f (rs.set (wn rs) t)
      simp only [List.length_cons]; omega
theorem km_cost : ∀ (f : Nat) (rs : List (List Rec)), 0 < rs.length → rs.length ≤ 1024 → (km f rs).2 ≤ f * 1024
  | 0, rs, _, _ => Nat.le_refl _
  | f + 1, rs, h0, hn => by
    cases h : rs.getD (wn rs) [] with
    | nil => rw [km_done h]; exact Nat.zero_le _
    | cons x t =>
      rw [km_step h]
      have := km_cost f (rs.set (wn rs) t) (by rw [List.length_set]; exact h0) (by rw [List.length_set]; exact hn)
      have h2 := up_div_le rs.length (wn rs) hn (wn_lt h0)
      show up ((rs.length + wn rs) / 2) + _ ≤ _
      omega
end Go.Proofs.Ytgffabjajbgbjaa.tn
