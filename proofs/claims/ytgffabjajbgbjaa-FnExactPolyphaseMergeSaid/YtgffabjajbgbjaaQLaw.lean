/- Queues on tapes: one merge, one phase, all phases; how many runs each tape holds. No program. -/
import Derived.Test.YtgffabjajbgbjaaPhsLaw
set_option linter.unusedVariables false
set_option linter.unusedSimpArgs false
namespace Go.Proofs.Ytgffabjajbgbjaa.qlaw
open Go.Proofs.Ytgffabjajbgbjaa.phases Go.Proofs.Ytgffabjajbgbjaa.phs Go.Proofs.Ytgffabjajbgbjaa.dists

abbrev QS (β : Type) := List (List β)
section
variable {β γ : Type}
def cnt (Q : QS β) : List Int := Q.map fun q => (q.length : Int)
/-- the heads of the first i tapes but one -/
def hds (to : Nat) (Q : QS β) : Nat → List β
  | 0 => []
  | i + 1 => hds to Q i ++ (if i = to then [] else (Q.getD i []).take 1)
/-- the first i tapes but one without their heads -/
def tls (to : Nat) (Q : QS β) : Nat → QS β
  | 0 => Q
  | i + 1 => if i = to then tls to Q i else (tls to Q i).set i ((Q.getD i []).drop 1)
def one (mg : List β → β) (to : Nat) (Q : QS β) : QS β := (tls to Q Q.length).set to (Q.getD to [] ++ [mg (hds to Q Q.length)])
def ms (mg : List β → β) (wt : List β → Int) (to : Nat) (S : QS β × Int) : QS β × Int := (one mg to S.1, S.2 + wt (hds to S.1 S.1.length))
def msn (mg : List β → β) (wt : List β → Int) (to : Nat) (S : QS β × Int) : Nat → QS β × Int
  | 0 => S
  | j + 1 => ms mg wt to (msn mg wt to S j)
def toOf (l : List Int) : Nat := (ez l l.length).toNat
def manyOf (l : List Int) : Nat := (mz l l.length).toNat
def phs (mg : List β → β) (wt : List β → Int) (S : QS β × Int) : QS β × Int := msn mg wt (toOf (cnt S.1)) S (manyOf (cnt S.1))
def phn (mg : List β → β) (wt : List β → Int) (S : QS β × Int) : Nat → QS β × Int
  | 0 => S
  | k + 1 => phs mg wt (phn mg wt S k)

theorem cnt_len (Q : QS β) : (cnt Q).length = Q.length := List.length_map _
theorem cnt_at (Q : QS β) (i : Nat) : (cnt Q).getD i 0 = ((Q.getD i []).length : Int) := by
  unfold cnt
  rw [List.getD_eq_getElem?_getD, List.getD_eq_getElem?_getD, List.getElem?_map]
  cases Q[i]? <;> rfl
theorem tls_len (to : Nat) (Q : QS β) : ∀ i, (tls to Q i).length = Q.length
  | 0 => rfl
  | i + 1 => by
    unfold tls
    split
    · exact tls_len to Q i
    · rw [List.length_set]; exact tls_len to Q i
theorem getD_set (Q : QS β) (i j : Nat) (x : List β) (h : i < Q.length) : (Q.set i x).getD j [] = if i = j then x else Q.getD j [] := by
  rw [List.getD_eq_getElem?_getD, List.getElem?_set]
  by_cases e : i = j
  · rw [if_pos e, if_pos e, if_pos (by omega)]; rfl
  · rw [if_neg e, if_neg e]; rw [List.getD_eq_getElem?_getD]
theorem tls_at (to : Nat) (Q : QS β) : ∀ i, i ≤ Q.length → ∀ j, (tls to Q i).getD j [] = if j < i ∧ j ≠ to then (Q.getD j []).drop 1 else Q.getD j []
  | 0, _, j => by simp [tls]
  | i + 1, h, j => by
    have ih := tls_at to Q i (by omega) j
    unfold tls
    split
    · rename_i e
      rw [ih]
      by_cases h1 : j < i ∧ j ≠ to
      · rw [if_pos h1, if_pos ⟨by omega, h1.2⟩]
      · rw [if_neg h1, if_neg (by omega)]
    · rename_i e
      rw [getD_set _ _ _ _ (by rw [tls_len]; omega)]
      by_cases h2 : i = j
      · subst h2
        rw [if_pos rfl, if_pos ⟨by omega, e⟩]
      · rw [if_neg h2, ih]
        by_cases h1 : j < i ∧ j ≠ to
        · rw [if_pos h1, if_pos ⟨by omega, h1.2⟩]
        · rw [if_neg h1, if_neg (by omega)]
theorem one_len (mg : List β → β) (to : Nat) (Q : QS β) : (one mg to Q).length = Q.length := by rw [one, List.length_set, tls_len]
theorem one_at (mg : List β → β) {to : Nat} {Q : QS β} (ht : to < Q.length) {j : Nat} (hj : j < Q.length) : (one mg to Q).getD j [] = if j = to then Q.getD to [] ++ [mg (hds to Q Q.length)] else (Q.getD j []).drop 1 := by
  unfold one
  rw [getD_set _ _ _ _ (by rw [tls_len]; exact ht), tls_at to Q _ (Nat.le_refl _)]
  by_cases e : to = j
  · simp only [if_pos e, if_pos (show j = to from e.symm)]
  · have e2 : ¬ j = to := fun h => e h.symm
    simp only [if_neg e, if_neg e2, if_pos (show j < Q.length ∧ j ≠ to from ⟨hj, e2⟩)]
theorem msn_len (mg : List β → β) (wt : List β → Int) (to : Nat) (S : QS β × Int) : ∀ j, (msn mg wt to S j).1.length = S.1.length
  | 0 => rfl
  | j + 1 => by
    show (one mg to _).length = _
    rw [one_len]; exact msn_len mg wt to S j
/-- the counts within a phase -/
theorem msn_cnt (mg : List β → β) (wt : List β → Int) {to : Nat} {S : QS β × Int} (ht : to < S.1.length) (h0 : (cnt S.1).getD to 0 = 0) {m : Nat} (hm : ∀ i, i < S.1.length → i ≠ to → (m : Int) ≤ (cnt S.1).getD i 0) :
    ∀ j, j ≤ m → ∀ i, i < S.1.length → (cnt (msn mg wt to S j).1).getD i 0 = if i = to then (j : Int) else (cnt S.1).getD i 0 - j
  | 0, _, i, hi => by
    show (cnt S.1).getD i 0 = _
    by_cases e : i = to
    · rw [if_pos e, e, h0]; rfl
    · rw [if_neg e]; omega
  | j + 1, hj, i, hi => by
    have ih := msn_cnt mg wt ht h0 hm j (by omega) i hi
    have hl := msn_len mg wt to S j
    show (cnt (one mg to (msn mg wt to S j).1)).getD i 0 = _
    rw [cnt_at, one_at mg (by rw [hl]; exact ht) (by rw [hl]; exact hi)]
    rw [cnt_at] at ih
    by_cases e : i = to
    · subst e
      rw [if_pos rfl] at ih ⊢
      rw [if_pos rfl, List.length_append, List.length_singleton]
      omega
    · rw [if_neg e] at ih ⊢
      have := hm i hi e
      rw [if_neg e, List.length_drop]
      omega
theorem list_ext {a b : List Int} (hl : a.length = b.length) (h : ∀ i, i < a.length → a.getD i 0 = b.getD i 0) : a = b := by
  refine List.ext_getElem hl fun i h1 h2 => ?_
  have := h i h1
  rw [getD_in a h1, getD_in b h2] at this
  exact this
structure Ph (l : List Int) : Prop where
  tidy : Tidy l
  able : able l = true
theorem Ph.nz {l : List Int} (h : Ph l) : nz l l.length = 1 := of_decide_eq_true h.able
theorem Ph.ez {l : List Int} (h : Ph l) : ez l l.length = (toOf l : Int) ∧ toOf l < l.length := by
  have h1 := ez_bd l l.length
  have h2 := h1.2.2.2 (by rw [h.nz]; omega)
  unfold toOf
  omega
theorem Ph.zero {l : List Int} (h : Ph l) : l.getD (toOf l) 0 = 0 := ((ez_zero l.length h.nz) (toOf l) h.ez.2).2 h.ez.1.symm
theorem Ph.other {l : List Int} (h : Ph l) {i : Nat} (hi : i < l.length) (hne : i ≠ toOf l) : (manyOf l : Int) ≤ l.getD i 0 := by
  have h1 : ¬ l.getD i 0 = 0 := fun e => hne (by
    have := ((ez_zero l.length h.nz) i hi).1 e
    have := h.ez.1
    omega)
  have := mz_le h.tidy l.length i hi h1
  unfold manyOf; omega
theorem Ph.mz {l : List Int} (h : Ph l) : mz l l.length = (manyOf l : Int) := by
  have := (mz_bd h.tidy l.length).1
  unfold manyOf; omega
theorem phs_len (mg : List β → β) (wt : List β → Int) (S : QS β × Int) : (phs mg wt S).1.length = S.1.length := msn_len _ _ _ _ _
theorem phs_cnt (mg : List β → β) (wt : List β → Int) {S : QS β × Int} (h : Ph (cnt S.1)) : cnt (phs mg wt S).1 = nxt (cnt S.1) := by
  have hez := h.ez
  rw [cnt_len] at hez
  refine list_ext (by rw [cnt_len, phs_len, nxt_len, cnt_len]) fun i hi => ?_
  rw [cnt_len, phs_len] at hi
  rw [nxt_at _ (by rw [cnt_len]; exact hi), cnt_len]
  unfold phs
  rw [msn_cnt mg wt hez.2 h.zero (m := manyOf (cnt S.1)) (fun i hi hne => h.other (by rw [cnt_len]; exact hi) hne) _ (Nat.le_refl _) i hi]
  have hmz := h.mz
  rw [cnt_len] at hmz
  rw [hmz, hez.1]
  by_cases e : i = toOf (cnt S.1)
  · rw [if_pos e, if_pos (by rw [e])]
  · rw [if_neg e, if_neg (by omega)]
theorem phn_len (mg : List β → β) (wt : List β → Int) (S : QS β × Int) : ∀ k, (phn mg wt S k).1.length = S.1.length
  | 0 => rfl
  | k + 1 => by
    show (phs mg wt _).1.length = _
    rw [phs_len]; exact phn_len mg wt S k
theorem ph_st {u L k : Nat} (hu : 2 ≤ u) (hL : L ≤ 15) (hk : k < L) : Ph (st u L k) := ⟨st_tidy hu hL (Nat.le_of_lt hk), st_able hu hL hk⟩
theorem phn_cnt (mg : List β → β) (wt : List β → Int) {S : QS β × Int} {u L : Nat} (hu : 2 ≤ u) (hL : L ≤ 15) (h : cnt S.1 = st u L 0) : ∀ k, k ≤ L → cnt (phn mg wt S k).1 = st u L k
  | 0, _ => h
  | k + 1, hk => by
    have ih := phn_cnt mg wt hu hL h k (by omega)
    show cnt (phs mg wt _).1 = _
    rw [phs_cnt mg wt (by rw [ih]; exact ph_st hu hL (by omega)), ih]
    rfl
/-! ### projections -/
variable (f : γ → β)
def proj (Q : QS γ) : QS β := Q.map (List.map f)
theorem proj_len (Q : QS γ) : (proj f Q).length = Q.length := List.length_map _
theorem proj_at (Q : QS γ) (i : Nat) : (proj f Q).getD i [] = (Q.getD i []).map f := by
  unfold proj
  rw [List.getD_eq_getElem?_getD, List.getD_eq_getElem?_getD, List.getElem?_map]
  cases Q[i]? <;> rfl
theorem proj_cnt (Q : QS γ) : cnt (proj f Q) = cnt Q := by
  unfold cnt proj
  rw [List.map_map]
  refine List.map_congr_left fun q _ => ?_
  simp
theorem proj_hds (to : Nat) (Q : QS γ) : ∀ i, hds to (proj f Q) i = (hds to Q i).map f
  | 0 => rfl
  | i + 1 => by
    unfold hds
    rw [proj_hds to Q i, proj_at, List.map_append]
    split
    · rfl
    · rw [List.map_take]
theorem proj_set (Q : QS γ) (i : Nat) (x : List γ) : proj f (Q.set i x) = (proj f Q).set i (x.map f) := by
  unfold proj; rw [List.map_set]
theorem proj_tls (to : Nat) (Q : QS γ) : ∀ i, tls to (proj f Q) i = proj f (tls to Q i)
  | 0 => rfl
  | i + 1 => by
    unfold tls
    split
    · exact proj_tls to Q i
    · rw [proj_tls to Q i, proj_at, proj_set, List.map_drop]
/-- one merge, by its parts -/
theorem proj_one (mg : List β → β) (to : Nat) (Q : QS γ) (x : γ) (hx : f x = mg ((hds to Q Q.length).map f)) : proj f ((tls to Q Q.length).set to (Q.getD to [] ++ [x])) = one mg to (proj f Q) := by
  unfold one
  rw [proj_set, proj_len, ← proj_tls, proj_at, proj_hds, List.map_append, List.map_singleton, hx]
/-! ### what all elements have in common -/
def All (p : β → Prop) (Q : QS β) : Prop := ∀ q ∈ Q, ∀ x ∈ q, p x
theorem All.at {p : β → Prop} {Q : QS β} (h : All p Q) (i : Nat) : ∀ x ∈ Q.getD i [], p x := by
  rw [List.getD_eq_getElem?_getD]
  cases hq : Q[i]? with
  | none => intro x hx; simp at hx
  | some q => exact h q (List.mem_of_getElem? hq)
theorem All.set {p : β → Prop} {Q : QS β} (h : All p Q) (i : Nat) {q : List β} (hq : ∀ x ∈ q, p x) : All p (Q.set i q) := by
  intro r hr x hx
  rcases List.mem_or_eq_of_mem_set hr with h1 | h1
  · exact h r h1 x hx
  · subst h1; exact hq x hx
theorem All.tls {p : β → Prop} {Q : QS β} (h : All p Q) (to : Nat) : ∀ i, All p (tls to Q i)
  | 0 => h
  | i + 1 => by
    unfold qlaw.tls
    split
    · exact All.tls h to i
    · exact (All.tls h to i).set i fun x hx => h.at i x (List.mem_of_mem_drop hx)
theorem All.hds {p : β → Prop} {Q : QS β} (h : All p Q) (to : Nat) : ∀ i, ∀ x ∈ hds to Q i, p x
  | 0, x, hx => by cases hx
  | i + 1, x, hx => by
    unfold qlaw.hds at hx
    rcases List.mem_append.1 hx with h1 | h1
    · exact All.hds h to i x h1
    · split at h1
      · cases h1
      · exact h.at i x (List.mem_of_mem_take h1)
theorem hds_len (to : Nat) (Q : QS β) : ∀ i, (hds to Q i).length ≤ i
  | 0 => Nat.le_refl _
  | i + 1 => by
    unfold hds
    rw [List.length_append]
    have := hds_len to Q i
    split
    · simp; omega
    · have := List.length_take_le 1 (Q.getD i []); omega
theorem hds_same {to : Nat} {Q : QS β} {i : Nat} (h : i = to) : hds to Q (i + 1) = hds to Q i := by
  show hds to Q i ++ (if i = to then [] else (Q.getD i []).take 1) = _
  rw [if_pos h, List.append_nil]
theorem hds_more {to : Nat} {Q : QS β} {i : Nat} (h : i ≠ to) {x : β} {q : List β} (hq : Q.getD i [] = x :: q) : hds to Q (i + 1) = hds to Q i ++ [x] := by
  show hds to Q i ++ (if i = to then [] else (Q.getD i []).take 1) = _
  rw [if_neg h, hq]; rfl
theorem tls_same {to : Nat} {Q : QS β} {i : Nat} (h : i = to) : tls to Q (i + 1) = tls to Q i := by
  show (if i = to then tls to Q i else _) = _
  rw [if_pos h]
theorem tls_more {to : Nat} {Q : QS β} {i : Nat} (h : i ≠ to) {x : β} {q : List β} (hq : Q.getD i [] = x :: q) : tls to Q (i + 1) = (tls to Q i).set i q := by
  show (if i = to then _ else (tls to Q i).set i ((Q.getD i []).drop 1)) = _
  rw [if_neg h, hq]; rfl
theorem tls_here (to : Nat) (Q : QS β) {i : Nat} (h : i ≤ Q.length) : (tls to Q i).getD i [] = Q.getD i [] := by
  rw [tls_at to Q i h i, if_neg (by omega)]
/-! ### the state behind k phases and j merges -/
section
variable (mg : List β → β) (wt : List β → Int) (u L : Nat) (S0 : QS β × Int)
def stt (k j : Nat) : QS β × Int := msn mg wt (toOf (st u L k)) (phn mg wt S0 k) j
theorem stt_len (k j : Nat) : (stt mg wt u L S0 k j).1.length = S0.1.length := by rw [stt, msn_len, phn_len]
variable {mg wt u L S0}
theorem stt_all (hu : 2 ≤ u) (hL : L ≤ 15) (h : cnt S0.1 = st u L 0) {k : Nat} (hk : k < L) : stt mg wt u L S0 k (manyOf (st u L k)) = stt mg wt u L S0 (k + 1) 0 := by
  show _ = phs mg wt (phn mg wt S0 k)
  unfold stt phs
  rw [phn_cnt mg wt hu hL h k (by omega)]
theorem len_of (hu : 2 ≤ u) (hL : L ≤ 15) (h : cnt S0.1 = st u L 0) : S0.1.length = u + 1 := by
  rw [← cnt_len, h, st_len hu hL (Nat.zero_le _)]
theorem stt_cnt (hu : 2 ≤ u) (hL : L ≤ 15) (h : cnt S0.1 = st u L 0) {k : Nat} (hk : k < L) {j : Nat} (hj : j ≤ manyOf (st u L k)) {i : Nat} (hi : i < u + 1) :
    (cnt (stt mg wt u L S0 k j).1).getD i 0 = if i = toOf (st u L k) then (j : Int) else (st u L k).getD i 0 - j := by
  have hc := phn_cnt mg wt hu hL h k (by omega)
  have hp := ph_st hu hL hk
  have hlen := st_len hu hL (Nat.le_of_lt hk)
  have hl : (phn mg wt S0 k).1.length = u + 1 := by rw [phn_len, len_of hu hL h]
  unfold stt
  rw [msn_cnt mg wt (by rw [hl, ← hlen]; exact hp.ez.2) (by rw [hc]; exact hp.zero) (m := manyOf (st u L k)) (fun i hi hne => by rw [hc]; exact hp.other (by rw [hlen, ← hl]; exact hi) hne) j hj i (by rw [hl]; exact hi), hc]
theorem to_lt (hu : 2 ≤ u) (hL : L ≤ 15) {k : Nat} (hk : k < L) : toOf (st u L k) < u + 1 := by
  have := (ph_st hu hL hk).ez.2
  rwa [st_len hu hL (Nat.le_of_lt hk)] at this
theorem stt_ne (hu : 2 ≤ u) (hL : L ≤ 15) (h : cnt S0.1 = st u L 0) {k : Nat} (hk : k < L) {j : Nat} (hj : j < manyOf (st u L k)) {i : Nat} (hi : i < u + 1) (hne : i ≠ toOf (st u L k)) :
    ((stt mg wt u L S0 k j).1.getD i []) ≠ [] := by
  have h1 := stt_cnt (mg := mg) (wt := wt) hu hL h hk (Nat.le_of_lt hj) hi
  rw [cnt_at, if_neg hne] at h1
  have h2 := (ph_st hu hL hk).other (i := i) (by rw [st_len hu hL (Nat.le_of_lt hk)]; exact hi) hne
  intro e
  rw [e, List.length_nil] at h1
  omega
theorem st_bd (hu : 2 ≤ u) (hL : L ≤ 15) {k : Nat} (hk : k ≤ L) (i : Nat) : 0 ≤ (st u L k).getD i 0 ∧ (st u L k).getD i 0 ≤ 32768 := by
  by_cases hi : i < (st u L k).length
  · rw [getD_in _ hi]
    exact dist0_bd hu (j := L - k) (by omega) _ ((st_perm hu hL k hk).mem_iff.1 (List.getElem_mem hi))
  · rw [List.getD_eq_getElem?_getD, List.getElem?_eq_none (by omega)]; exact ⟨Int.le_refl _, by decide⟩
theorem many_le (hu : 2 ≤ u) (hL : L ≤ 15) {k : Nat} (hk : k < L) : manyOf (st u L k) ≤ 32768 := by
  have hp := ph_st hu hL hk
  have hl := st_len hu hL (Nat.le_of_lt hk)
  obtain ⟨i, hi, hne⟩ : ∃ i, i < u + 1 ∧ i ≠ toOf (st u L k) := by
    by_cases h : toOf (st u L k) = 0
    · exact ⟨1, by omega, by omega⟩
    · exact ⟨0, by omega, fun e => h e.symm⟩
  have h1 := hp.other (i := i) (by rw [hl]; exact hi) hne
  have h2 := st_bd hu hL (Nat.le_of_lt hk) i
  omega
theorem cnt_sum (Q : QS β) : ((Q.flatten.length : Nat) : Int) = (cnt Q).sum := by
  induction Q with
  | nil => rfl
  | cons q Q ih =>
    have : cnt (q :: Q) = (q.length : Int) :: cnt Q := rfl
    rw [this, List.sum_cons, ← ih, List.flatten_cons, List.length_append]; simp
theorem flat_one (hu : 2 ≤ u) (hL : L ≤ 15) (h : cnt S0.1 = st u L 0) : (phn mg wt S0 L).1.flatten.length = 1 := by
  have h1 := cnt_sum (phn mg wt S0 L).1
  rw [phn_cnt mg wt hu hL h L (Nat.le_refl _), st_sum hu hL (Nat.le_refl _), Nat.sub_self, sum_zero] at h1
  omega
end
end
end Go.Proofs.Ytgffabjajbgbjaa.qlaw
