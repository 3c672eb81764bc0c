/- The states of a polyphase merge from a perfect distribution on: the plain law. No condition. -/
import Derived.Test.YtgffabjajbgbjaaPerfect
import Derived.Test.YtgffabjajbgbjaaPolyDist
import Derived.Test.YtgffabjajbgbjaaLevel
set_option linter.unusedVariables false
set_option linter.unusedSimpArgs false
namespace Go.Proofs.Ytgffabjajbgbjaa.phs
open Go.RowKit Go.Proofs.Ytgffabjajbgbjaa.mem Go.Proofs.Ytgffabjajbgbjaa.sums Go.Proofs.Ytgffabjajbgbjaa.phases Go.Proofs.Ytgffabjajbgbjaa.perfect Go.Proofs.Ytgffabjajbgbjaa.dists
open Go.Proofs.Ytgffabjajbgbjaa.ins (inB inB_iff)

theorem perm_sum {l r : List Int} (h : l.Perm r) : l.sum = r.sum := by
  induction h with
  | nil => rfl
  | cons x _ ih => simp [ih]
  | swap x y l => simp; omega
  | trans _ _ h1 h2 => rw [h1, h2]
theorem getD_in (l : List Int) {i : Nat} (h : i < l.length) : l.getD i 0 = l[i] := by
  rw [List.getD_eq_getElem?_getD, List.getElem?_eq_getElem h]; rfl
theorem nz_count (l : List Int) : ∀ k, k ≤ l.length → nz l k = (l.take k).count 0
  | 0, _ => by simp [nz]
  | k + 1, h => by
    have ih := nz_count l k (by omega)
    rw [List.take_succ_eq_append_getElem (show k < l.length by omega), List.count_append, ← ih, nz, getD_in l (show k < l.length by omega)]
    by_cases e : l[k] = 0
    · rw [if_pos e, e]; simp
    · rw [if_neg e]; simp [List.count_cons, e]
theorem able_count (l : List Int) : able l = decide (l.count 0 = 1) := by
  rw [able, nz_count l l.length (Nat.le_refl _), List.take_length]
theorem mz_in (l : List Int) : ∀ k, k ≤ l.length → mz l k = 0 ∨ mz l k ∈ l
  | 0, _ => Or.inl rfl
  | k + 1, h => by
    have ih := mz_in l k (by omega)
    unfold mz
    split
    · right; rw [getD_in l (show k < l.length by omega)]; exact List.getElem_mem _
    · exact ih
/-- a phase, element by element -/
theorem nxt_map {l : List Int} (ha : able l = true) : nxt l = l.map fun x => if x = 0 then mz l l.length else x - mz l l.length := by
  have hz := ez_zero l.length (show nz l l.length = 1 by simpa [able] using ha)
  apply List.ext_getElem
  · simp [nxt]
  · intro i h1 h2
    have hi : i < l.length := by simpa using h2
    have h3 := hz i hi
    rw [getD_in l hi] at h3
    have h4 := nxt_at l hi
    rw [getD_in l hi] at h4
    rw [getD_in _ h1] at h4
    rw [h4, List.getElem_map]
    by_cases e : l[i] = 0
    · rw [if_pos (h3.1 e), if_pos e]
    · rw [if_neg (fun h => e (h3.2 h)), if_neg e]
theorem step_perm {a : Int} {r l : List Int} (ha : 0 < a) (hr : ∀ x ∈ r, 0 ≤ x) (ht : Tidy l) (h : l.Perm (nextL (a :: r) ++ [0])) : able l = true ∧ (nxt l).Perm ((a :: r) ++ [0]) := by
  have hE : nextL (a :: r) ++ [0] = r.map (fun x => a + x) ++ [a, 0] := by simp [nextL]
  rw [hE] at h
  have hc : l.count 0 = 1 := by
    rw [h.count_eq, List.count_append]
    have h0 : (r.map (fun x => a + x)).count 0 = 0 := by
      rw [List.count_eq_zero]
      intro hm
      obtain ⟨x, hx, e⟩ := List.mem_map.1 hm
      have := hr x hx
      omega
    rw [h0]
    have : ¬ a = 0 := by omega
    simp [List.count_cons, this]
  have hab : able l = true := by rw [able_count]; simp [hc]
  have hge : ∀ x ∈ l, x = 0 ∨ a ≤ x := by
    intro x hx
    have := h.mem_iff.1 hx
    rcases List.mem_append.1 this with h1 | h1
    · obtain ⟨y, hy, rfl⟩ := List.mem_map.1 h1
      have := hr y hy
      right; omega
    · simp at h1
      rcases h1 with rfl | rfl
      · right; omega
      · left; rfl
  have haM : a ∈ l := h.mem_iff.2 (by simp)
  have hM : mz l l.length = a := by
    obtain ⟨i, hi, e⟩ := List.getElem_of_mem haM
    have h1 := mz_le ht l.length i hi (by rw [getD_in l hi, e]; omega)
    rw [getD_in l hi, e] at h1
    rcases mz_in l l.length (Nat.le_refl _) with h2 | h2
    · omega
    · rcases hge _ h2 with h3 | h3 <;> omega
  refine ⟨hab, ?_⟩
  rw [nxt_map hab, hM]
  refine (h.map _).trans ?_
  rw [List.map_append, List.map_map]
  have e1 : r.map ((fun x => if x = 0 then a else x - a) ∘ fun x => a + x) = r := by
    conv => rhs; rw [← List.map_id r]
    apply List.map_congr_left
    intro x hx
    have := hr x hx
    simp only [Function.comp, id]
    rw [if_neg (by omega)]; omega
  have e2 : [a, 0].map (fun x => if x = 0 then a else x - a) = [0, a] := by
    have : ¬ a = 0 := by omega
    simp [this]
  rw [e1, e2]
  have h5 : (r ++ [0, a]).Perm ([a] ++ (r ++ [0])) := by
    rw [show r ++ [0, a] = (r ++ [0]) ++ [a] by simp]
    exact List.perm_append_comm
  exact h5
/-- the states, one behind the other -/
def st (u L : Nat) : Nat → List Int
  | 0 => dist u L ++ [0]
  | k + 1 => nxt (st u L k)
theorem dist_head {u : Nat} (hu : 2 ≤ u) : ∀ l, ∃ a r, dist u l = a :: r ∧ 0 < a ∧ ∀ x ∈ r, 0 ≤ x
  | 0 => ⟨1, _, rfl, by omega, fun x hx => by obtain ⟨_, rfl⟩ := List.mem_replicate.1 hx; omega⟩
  | l + 1 => by
    obtain ⟨a, r, e, ha, hr⟩ := dist_head hu l
    have hl := dist_len hu l
    have hb := dist_bd hu (l + 1)
    cases r with
    | nil => rw [e] at hl; simp at hl; omega
    | cons b r =>
      have e2 : dist u (l + 1) = (a + b) :: (r.map (fun x => a + x) ++ [a]) := by rw [dist, e]; simp [nextL]
      refine ⟨_, _, e2, by have := hr b (by simp); omega, fun x hx => ?_⟩
      exact (hb x (by rw [e2]; simp only [List.mem_cons]; exact Or.inr hx)).1
theorem tidy_perm {l r : List Int} (h : l.Perm r) (hr : ∀ x ∈ r, 0 ≤ x ∧ x ≤ 1048576) : Tidy l := by
  intro i
  rw [List.getD_eq_getElem?_getD]
  cases hi : l[i]? with
  | none => simp
  | some z => exact hr z (h.mem_iff.1 (List.mem_of_getElem? hi))
theorem dist0_bd {u j : Nat} (hu : 2 ≤ u) (hj : j ≤ 15) : ∀ x ∈ dist u j ++ [0], 0 ≤ x ∧ x ≤ 32768 := by
  intro x hx
  rcases List.mem_append.1 hx with h | h
  · have h1 := dist_bd hu j x h
    have h2 := two_pow hj
    omega
  · simp at h; omega
theorem st_perm {u L : Nat} (hu : 2 ≤ u) (hL : L ≤ 15) : ∀ k, k ≤ L → (st u L k).Perm (dist u (L - k) ++ [0])
  | 0, _ => List.Perm.refl _
  | k + 1, h => by
    have ih := st_perm hu hL k (by omega)
    obtain ⟨a, r, e, ha, hr⟩ := dist_head hu (L - (k + 1))
    have e2 : dist u (L - k) = nextL (a :: r) := by rw [show L - k = (L - (k + 1)) + 1 by omega, dist, e]
    have ht := tidy_perm ih (fun x hx => by have := dist0_bd hu (j := L - k) (by omega) x hx; omega)
    rw [e2] at ih
    rw [e]
    exact (step_perm ha hr ht ih).2
theorem st_tidy {u L k : Nat} (hu : 2 ≤ u) (hL : L ≤ 15) (hk : k ≤ L) : Tidy (st u L k) :=
  tidy_perm (st_perm hu hL k hk) (fun x hx => by have := dist0_bd hu (j := L - k) (by omega) x hx; omega)
theorem st_len {u L k : Nat} (hu : 2 ≤ u) (hL : L ≤ 15) (hk : k ≤ L) : (st u L k).length = u + 1 := by
  rw [(st_perm hu hL k hk).length_eq, List.length_append, dist_len hu]; rfl
theorem st_able {u L k : Nat} (hu : 2 ≤ u) (hL : L ≤ 15) (hk : k < L) : able (st u L k) = true := by
  have ih := st_perm hu hL k (by omega)
  obtain ⟨a, r, e, ha, hr⟩ := dist_head hu (L - (k + 1))
  have e2 : dist u (L - k) = nextL (a :: r) := by rw [show L - k = (L - (k + 1)) + 1 by omega, dist, e]
  rw [e2] at ih
  exact (step_perm ha hr (st_tidy hu hL (by omega)) ih).1
theorem st_sum {u L k : Nat} (hu : 2 ≤ u) (hL : L ≤ 15) (hk : k ≤ L) : (st u L k).sum = (dist u (L - k)).sum := by
  rw [perm_sum (st_perm hu hL k hk), List.sum_append]; simp
theorem sum_zero {u : Nat} : (dist u 0).sum = 1 := by
  have : ∀ n, (List.replicate n (0 : Int)).sum = 0 := by
    intro n; induction n with
    | zero => rfl
    | succ n ih => rw [List.replicate_succ, List.sum_cons, ih]; rfl
  rw [dist, List.sum_cons, this]; rfl
theorem st_down {u L k : Nat} (hu : 2 ≤ u) (hL : L ≤ 15) (hk : k < L) : (st u L (k + 1)).sum < (st u L k).sum := by
  have := nxt_sum (st_tidy hu hL (Nat.le_of_lt hk)) (st_able hu hL hk) (by rw [st_len hu hL (Nat.le_of_lt hk)]; omega)
  exact this.2
theorem dist_up {u l : Nat} (hu : 2 ≤ u) (hl : l < 15) : (dist u l).sum < (dist u (l + 1)).sum := by
  have h := st_down (u := u) (L := l + 1) (k := 0) hu (by omega) (by omega)
  rw [st_sum hu (by omega) (by omega), st_sum hu (by omega) (by omega)] at h
  simpa using h
theorem dist_sum_pos {u : Nat} (hu : 2 ≤ u) : ∀ l : Nat, l ≤ 15 → (l : Int) + 1 ≤ (dist u l).sum
  | 0, _ => by rw [sum_zero]; omega
  | l + 1, h => by
    have := dist_sum_pos hu l (by omega)
    have := dist_up hu (show l < 15 by omega)
    omega
theorem st_more {u L k : Nat} (hu : 2 ≤ u) (hL : L ≤ 15) (hk : k ≤ L) : 1 < (st u L k).sum ↔ k < L := by
  rw [st_sum hu hL hk]
  have := dist_sum_pos hu (L - k) (by omega)
  constructor
  · intro h
    by_cases e : k = L
    · subst e; rw [Nat.sub_self, sum_zero] at h; omega
    · omega
  · intro h; omega
def okH (t l : Int) : Bool := polyDist.ok t l
def resH (t l : Int) : List (List Int) := if okH t l = true then (List.range (l.toNat + 1)).map (st (t.toNat - 1) l.toNat) else []
theorem resH_row (t l : Int) : ∀ r ∈ resH t l, r.length ≤ 8 := by
  intro r hr
  unfold resH at hr
  split at hr
  · rename_i h
    have h2 := polyDist.ok_iff.1 h
    obtain ⟨k, hk, rfl⟩ := List.mem_map.1 hr
    rw [List.mem_range] at hk
    rw [st_len (by omega) (by omega) (by omega)]; omega
  · simp at hr
theorem resH_len (t l : Int) : (resH t l).length ≤ 16 := by
  unfold resH
  split
  · rename_i h
    have h2 := polyDist.ok_iff.1 h
    simp; omega
  · simp
def sts (u L k : Nat) : List (List Int) := (List.range k).map (st u L)
theorem sts_len (u L k : Nat) : (sts u L k).length = k := by simp [sts]
theorem sts_step (u L k : Nat) : sts u L (k + 1) = sts u L k ++ [st u L k] := by simp [sts, List.range_succ]
end Go.Proofs.Ytgffabjajbgbjaa.phs
