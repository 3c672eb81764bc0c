/- The bound of the counters for frequent elements: a counter is at most the number of occurrences, and short of it by at most n / (counters + 1). No program. -/
import Derived.Test.YtgngoedooemboaaFrqI
set_option linter.unusedVariables false
set_option linter.unusedSimpArgs false
namespace Go.Proofs.Ytgngoedooemboaa.frq

def tot (L : Ctr) : Int := (vals L).sum
theorem tot_cons (p : Int × Int) (L : Ctr) : tot (p :: L) = p.2 + tot L := by simp [tot, vals]
theorem tot_app (L M : Ctr) : tot (L ++ M) = tot L + tot M := by simp [tot, vals]
theorem tot_pos {L : Ctr} (h : Ok L) : 0 ≤ tot L := by
  have hp := h.pos
  clear h
  induction L with
  | nil => simp [tot, vals]
  | cons p L ih =>
    rw [tot_cons]
    have h1 := hp p List.mem_cons_self
    have h2 := ih fun q hq => hp q (List.mem_cons_of_mem _ hq)
    omega
theorem bump_none {L : Ctr} {x : Int} (h : x ∉ keys L) : bump L x = L := by
  induction L with
  | nil => rfl
  | cons p L ih =>
    simp only [keys, List.map_cons, List.mem_cons, not_or] at h
    have hb : bump (p :: L) x = (if p.1 = x then (p.1, p.2 + 1) else p) :: bump L x := rfl
    rw [hb, ih h.2, if_neg (fun e => h.1 e.symm)]
theorem tot_bump {L : Ctr} (hn : (keys L).Nodup) {x : Int} (hx : x ∈ keys L) : tot (bump L x) = tot L + 1 := by
  induction L with
  | nil => cases hx
  | cons p L ih =>
    have hk : keys (p :: L) = p.1 :: keys L := rfl
    rw [hk] at hn hx
    rw [List.nodup_cons] at hn
    have hb : bump (p :: L) x = (if p.1 = x then (p.1, p.2 + 1) else p) :: bump L x := rfl
    rw [hb, tot_cons, tot_cons]
    by_cases e : p.1 = x
    · rw [if_pos e, bump_none (by rw [← e]; exact hn.1)]
      simp only []; omega
    · rw [if_neg e]
      rcases List.mem_cons.1 hx with h | h
      · exact absurd h.symm e
      · rw [ih hn.2 h]; omega
theorem tot_dec {L : Ctr} (h : Ok L) : tot (dec L) = tot L - (L.length : Int) := by
  have hp := h.pos
  clear h
  induction L with
  | nil => simp [tot, vals, dec]
  | cons p L ih =>
    have h1 := hp p List.mem_cons_self
    have h2 := ih fun q hq => hp q (List.mem_cons_of_mem _ hq)
    have hd : dec (p :: L) = if 1 < p.2 then (p.1, p.2 - 1) :: dec L else dec L := by
      unfold dec
      rw [List.filter_cons]
      by_cases h3 : 1 < p.2 <;> simp [h3]
    rw [hd, tot_cons, List.length_cons]
    split
    · rw [tot_cons, h2]; simp only []; omega
    · rw [h2]; omega
theorem count_take (zs : List Int) {k : Nat} (h : k < zs.length) (y : Int) : ((zs.take (k + 1)).count y : Int) = (zs.take k).count y + if zs[k] = y then 1 else 0 := by
  rw [List.take_succ_eq_append_getElem h, List.count_append, List.count_singleton]
  by_cases e : zs[k] = y <;> simp [e]
theorem mg (m : Nat) (zs : List Int) : ∀ k, k ≤ zs.length → ∃ d : Int, 0 ≤ d ∧ (k : Int) = tot (at' m zs k) + d * ((m : Int) + 1) ∧ ∀ y, 0 ≤ ((zs.take k).count y : Int) - look (at' m zs k) y ∧ ((zs.take k).count y : Int) - look (at' m zs k) y ≤ d
  | 0, _ => ⟨0, Int.le_refl _, by simp [at', run, tot, vals], fun y => by simp [at', run, look]⟩
  | k + 1, h => by
    have hlt : k < zs.length := h
    obtain ⟨d, hd, hk, hy⟩ := mg m zs k (Nat.le_of_lt hlt)
    obtain ⟨h1, h2, h3⟩ := at_ok m zs k (by omega)
    have hc := fun y => count_take zs hlt y
    rw [at_step m zs hlt]
    generalize at' m zs k = L at hk hy h1 h2 h3 ⊢
    generalize zs[k] = x at hc ⊢
    by_cases hx : x ∈ keys L
    · have e : step m L x = bump L x := by rw [step, if_pos hx]
      refine ⟨d, hd, by rw [e, tot_bump h1.nd hx]; omega, fun y => ?_⟩
      have := hy y
      rw [e, look_bump, hc]
      by_cases e2 : y = x
      · simp only [if_pos (show y = x ∧ x ∈ keys L from ⟨e2, hx⟩), if_pos (show x = y from e2.symm)]; omega
      · simp only [if_neg (show ¬ (y = x ∧ x ∈ keys L) from fun q => e2 q.1), if_neg (show ¬ x = y from fun q => e2 q.symm)]; omega
    · by_cases hm : L.length < m
      · have e : step m L x = L ++ [(x, 1)] := by rw [step, if_neg hx, if_pos hm]
        refine ⟨d, hd, by rw [e, tot_app]; simp only [tot, vals, List.map_cons, List.map_nil, List.sum_cons, List.sum_nil]; simp only [tot, vals] at hk; omega, fun y => ?_⟩
        have := hy y
        rw [e, look_snoc hx, hc]
        by_cases e2 : y = x
        · simp only [if_pos e2, if_pos (show x = y from e2.symm)]
          rw [e2, look_none hx] at this
          rw [e2]; omega
        · simp only [if_neg e2, if_neg (show ¬ x = y from fun q => e2 q.symm)]; omega
      · have e : step m L x = dec L := by rw [step, if_neg hx, if_neg hm]
        have hml : (L.length : Int) = m := by omega
        refine ⟨d + 1, by omega, ?_, fun y => ?_⟩
        · rw [e, tot_dec h1, hml, Int.add_mul]; omega
        · have := hy y
          have hp : 0 ≤ look L y := by
            by_cases hyk : y ∈ keys L
            · have := (look_pos h1 y).2 hyk; omega
            · rw [look_none hyk]; omega
          rw [e, look_dec h1, hc, dn]
          by_cases e2 : x = y
          · rw [if_pos e2]
            rw [← e2, look_none hx] at this ⊢
            rw [if_neg (by omega)]; omega
          · rw [if_neg e2]
            split <;> omega
/-- the bound -/
theorem bound (m : Nat) (zs : List Int) (y : Int) : look (run m zs) y ≤ (zs.count y : Int) ∧ 0 ≤ ((zs.count y : Int) - look (run m zs) y) * ((m : Int) + 1) ∧ ((zs.count y : Int) - look (run m zs) y) * ((m : Int) + 1) ≤ zs.length := by
  obtain ⟨d, hd, hk, hy⟩ := mg m zs zs.length (Nat.le_refl _)
  obtain ⟨h1, _, _⟩ := at_ok m zs zs.length (Nat.le_refl _)
  have hp := tot_pos h1
  have hr : at' m zs zs.length = run m zs := by rw [at', List.take_length]
  rw [hr] at hk hy hp
  rw [List.take_length] at hy
  have h2 := hy y
  have h3 := Int.mul_le_mul_of_nonneg_right h2.2 (show (0 : Int) ≤ (m : Int) + 1 by omega)
  have h4 := Int.mul_nonneg h2.1 (show (0 : Int) ≤ (m : Int) + 1 by omega)
  exact ⟨by omega, h4, by omega⟩
theorem look_nonneg {L : Ctr} (h : Ok L) (y : Int) : 0 ≤ look L y := by
  by_cases hyk : y ∈ keys L
  · have := (look_pos h y).2 hyk; omega
  · rw [look_none hyk]; omega
/-- what the law's inner loop has found -/
def fnd (L : Ctr) (S : List Int) (x : Int) (j : Nat) : Int := if x ∈ S.take j then look L x else 0
theorem fnd_zero (L : Ctr) (S : List Int) (x : Int) : fnd L S x 0 = 0 := by simp [fnd]
theorem fnd_step (L : Ctr) (S : List Int) (x : Int) {j : Nat} (h : j < S.length) : fnd L S x (j + 1) = if S[j] = x then look L S[j] else fnd L S x j := by
  unfold fnd
  rw [List.take_succ_eq_append_getElem h]
  by_cases e : S[j] = x
  · rw [if_pos e, if_pos (List.mem_append_right _ (List.mem_singleton.2 e.symm)), e]
  · rw [if_neg e]
    have : x ∈ S.take j ++ [S[j]] ↔ x ∈ S.take j := by
      rw [List.mem_append, List.mem_singleton]
      exact ⟨fun q => q.resolve_right (fun q => e q.symm), Or.inl⟩
    simp only [this]
theorem fnd_all {L : Ctr} {S : List Int} (h : ∀ y, y ∈ keys L → y ∈ S) (x : Int) : fnd L S x S.length = look L x := by
  unfold fnd
  rw [List.take_length]
  split
  · rfl
  · rename_i hx
    exact (look_none (fun q => hx (h x q))).symm
end Go.Proofs.Ytgngoedooemboaa.frq
