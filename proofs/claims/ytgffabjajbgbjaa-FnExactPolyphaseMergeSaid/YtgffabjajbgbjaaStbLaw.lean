/- Stable sorting by insertion and by symmetric merges: the plain law. Condition: the order is a strict weak one. -/
import Derived.Test.YtgffabjajbgbjaaMem
set_option linter.unusedVariables false
set_option linter.unusedSimpArgs false
namespace Go.Proofs.Ytgffabjajbgbjaa.stb

section
variable {α : Type}
/-- where x goes into the first k elements: behind the last one that is not above it -/
def pos (lt : α → α → Bool) (x : α) (l : List α) : Nat → Nat
  | 0 => 0
  | k + 1 => if (l[k]?.map (lt x)).getD false = true then pos lt x l k else k + 1
def insR (lt : α → α → Bool) (l : List α) (x : α) : List α := l.take (pos lt x l l.length) ++ x :: l.drop (pos lt x l l.length)
/-- the stable sort -/
def stab (lt : α → α → Bool) (l : List α) : List α := l.foldl (insR lt) []
def mrg (lt : α → α → Bool) (l r : List α) : List α := l.merge r fun x y => !lt y x
structure Weak (lt : α → α → Bool) : Prop where
  irr : ∀ x, lt x x = false
  tr : ∀ x y z, lt x y = true → lt y z = true → lt x z = true
  ntr : ∀ x y z, lt y x = false → lt z y = false → lt z x = false
/-- in order: no later element is below an earlier one -/
def Asc (lt : α → α → Bool) (l : List α) : Prop := l.Pairwise fun x y => lt y x = false
variable {lt : α → α → Bool}
theorem pos_le (x : α) (l : List α) : ∀ k, pos lt x l k ≤ k
  | 0 => Nat.le_refl _
  | k + 1 => by unfold pos; split
                · have := pos_le x l k; omega
                · exact Nat.le_refl _
/-- what pos says: behind it all are above x, and the one before it is not -/
theorem pos_above (x : α) (l : List α) : ∀ k i, pos lt x l k ≤ i → i < k → ∀ y, l[i]? = some y → lt x y = true
  | 0, i, h1, h2, y, hy => by omega
  | k + 1, i, h1, h2, y, hy => by
    unfold pos at h1
    split at h1
    · rename_i hc
      by_cases e : i = k
      · subst e; rw [hy] at hc; simpa using hc
      · exact pos_above x l k i h1 (by omega) y hy
    · omega
theorem pos_last (x : α) (l : List α) : ∀ k, k ≤ l.length → 0 < pos lt x l k → ∃ y, l[pos lt x l k - 1]? = some y ∧ lt x y = false
  | 0, h, h0 => by simp [pos] at h0
  | k + 1, h, h0 => by
    have hk : k < l.length := by omega
    unfold pos at h0 ⊢
    split
    · rename_i hc
      rw [if_pos hc] at h0
      exact pos_last x l k (by omega) h0
    · rename_i hc
      refine ⟨l[k], by simp [hk], ?_⟩
      rw [List.getElem?_eq_getElem hk] at hc
      simpa using hc
theorem insR_len (l : List α) (x : α) : (insR lt l x).length = l.length + 1 := by
  have := pos_le (lt := lt) x l l.length
  simp [insR]; omega
theorem insR_perm (l : List α) (x : α) : (insR lt l x).Perm (x :: l) := by
  unfold insR
  exact List.perm_middle.trans (List.Perm.cons _ (by rw [List.take_append_drop]))
theorem insR_nil (x : α) : insR lt [] x = [x] := by simp [insR, pos]
theorem pos_succ (x y : α) (l : List α) : ∀ k, pos lt x (y :: l) (k + 1) = if pos lt x l k = 0 then (if lt x y = true then 0 else 1) else pos lt x l k + 1
  | 0 => by simp [pos]
  | k + 1 => by
    have ih := pos_succ x y l k
    have e1 : pos lt x (y :: l) (k + 1 + 1) = if (l[k]?.map (lt x)).getD false = true then pos lt x (y :: l) (k + 1) else k + 1 + 1 := by rw [pos]; simp only [List.getElem?_cons_succ]
    have e2 : pos lt x l (k + 1) = if (l[k]?.map (lt x)).getD false = true then pos lt x l k else k + 1 := by rw [pos]
    rw [e1, e2]
    by_cases hc : (l[k]?.map (lt x)).getD false = true
    · rw [if_pos hc, if_pos hc]; exact ih
    · rw [if_neg hc, if_neg hc]; simp
theorem insR_cons (y : α) (l : List α) (x : α) : insR lt (y :: l) x = if pos lt x l l.length = 0 ∧ lt x y = true then x :: y :: l else y :: insR lt l x := by
  unfold insR
  rw [List.length_cons, pos_succ]
  by_cases h : pos lt x l l.length = 0
  · rw [h, if_pos rfl]
    cases lt x y <;> simp
  · rw [if_neg h, if_neg (fun hc => h hc.1)]
    obtain ⟨p, hp⟩ : ∃ p, pos lt x l l.length = p + 1 := ⟨_, (Nat.succ_pred h).symm⟩
    rw [hp]; rfl
theorem pos_zero_iff {x : α} {l : List α} : pos lt x l l.length = 0 ↔ ∀ y ∈ l, lt x y = true := by
  constructor
  · intro h y hy
    obtain ⟨i, hi, rfl⟩ := List.getElem_of_mem hy
    exact pos_above x l l.length i (by omega) hi _ (by simp [hi])
  · intro h
    rcases Nat.eq_zero_or_pos (pos lt x l l.length) with h0 | h0
    · exact h0
    · obtain ⟨y, hy, hf⟩ := pos_last x l l.length (Nat.le_refl _) h0
      have := h y (List.mem_of_getElem? hy)
      rw [this] at hf; cases hf
/-- on an ascending list: insertion from the left -/
theorem insR_cons_asc (hw : Weak lt) {y : α} {l : List α} (h : Asc lt (y :: l)) (x : α) : insR lt (y :: l) x = if lt x y = true then x :: y :: l else y :: insR lt l x := by
  rw [insR_cons]
  by_cases hx : lt x y = true
  · have h0 : pos lt x l l.length = 0 := pos_zero_iff.2 fun z hz => by
      have h1 := (List.pairwise_cons.1 h).1 z hz
      cases hc : lt x z with
      | true => rfl
      | false => have := hw.ntr y z x h1 hc; rw [this] at hx; cases hx
    rw [if_pos hx, if_pos ⟨h0, hx⟩]
  · rw [if_neg hx, if_neg (fun hc => hx hc.2)]
theorem insR_asc (hw : Weak lt) : ∀ {l : List α}, Asc lt l → ∀ x, Asc lt (insR lt l x)
  | [], _, x => by rw [insR_nil]; exact List.pairwise_singleton _ _
  | y :: l, h, x => by
    rw [insR_cons_asc hw h]
    have h2 := List.pairwise_cons.1 h
    split
    · rename_i hx
      refine List.pairwise_cons.2 ⟨fun z hz => ?_, h⟩
      have hnx : lt y x = false := by
        cases hc : lt y x with
        | false => rfl
        | true => have := hw.tr _ _ _ hx hc; rw [hw.irr] at this; cases this
      rcases List.mem_cons.1 hz with rfl | hz
      · exact hnx
      · exact hw.ntr x y z hnx (h2.1 z hz)
    · rename_i hx
      refine List.pairwise_cons.2 ⟨fun z hz => ?_, insR_asc hw h2.2 x⟩
      rcases List.mem_cons.1 ((insR_perm l x).mem_iff.1 hz) with rfl | hz
      · simpa using hx
      · exact h2.1 z hz
theorem stab_nil : stab lt ([] : List α) = [] := rfl
theorem stab_snoc (l : List α) (x : α) : stab lt (l ++ [x]) = insR lt (stab lt l) x := by simp [stab]
theorem stab_len (l : List α) : (stab lt l).length = l.length := by
  have key : ∀ (l o : List α), (l.foldl (insR lt) o).length = o.length + l.length := by
    intro l
    induction l with
    | nil => intro o; simp
    | cons a l ih => intro o; rw [List.foldl_cons, ih, insR_len, List.length_cons]; omega
  simpa [stab] using key l []
theorem stab_perm (l : List α) : (stab lt l).Perm l := by
  have key : ∀ (l o : List α), (l.foldl (insR lt) o).Perm (o ++ l) := by
    intro l
    induction l with
    | nil => intro o; simp
    | cons a l ih =>
      intro o
      rw [List.foldl_cons]
      refine (ih _).trans (((insR_perm o a).append_right l).trans ?_)
      exact (List.perm_middle (l₁ := o) (l₂ := l) (a := a)).symm
  simpa [stab] using key l []
theorem stab_asc (hw : Weak lt) (l : List α) : Asc lt (stab lt l) := by
  have key : ∀ (l o : List α), Asc lt o → Asc lt (l.foldl (insR lt) o) := by
    intro l
    induction l with
    | nil => intro o h; exact h
    | cons a l ih => intro o h; rw [List.foldl_cons]; exact ih _ (insR_asc hw h a)
  exact key l [] List.Pairwise.nil

theorem mrg_nil_left (r : List α) : mrg lt [] r = r := by simp [mrg]
theorem mrg_nil_right (l : List α) : mrg lt l [] = l := by simp [mrg]
theorem mrg_cons (x y : α) (l r : List α) : mrg lt (x :: l) (y :: r) = if lt y x = true then y :: mrg lt (x :: l) r else x :: mrg lt l (y :: r) := by
  unfold mrg
  rw [List.cons_merge_cons]
  cases h : lt y x <;> simp
theorem mrg_perm : ∀ (l r : List α), (mrg lt l r).Perm (l ++ r) := fun l r => List.merge_perm_append _
theorem mrg_len (l r : List α) : (mrg lt l r).length = l.length + r.length := by simp [mrg]
/-- an element more on the right -/
theorem mrg_ins (hw : Weak lt) : ∀ (l r : List α), Asc lt l → Asc lt r → ∀ x, mrg lt l (insR lt r x) = insR lt (mrg lt l r) x
  | [], r, hl, hr, x => by rw [mrg_nil_left, mrg_nil_left]
  | a :: l, [], hl, hr, x => by
    rw [mrg_nil_right, insR_nil, insR_cons_asc hw hl, mrg_cons]
    split
    · rw [mrg_nil_right]
    · have ih := mrg_ins hw l [] (List.pairwise_cons.1 hl).2 List.Pairwise.nil x
      rw [insR_nil, mrg_nil_right] at ih
      rw [ih]
  | a :: l, b :: r, hl, hr, x => by
    have hl2 := List.pairwise_cons.1 hl
    have hr2 := List.pairwise_cons.1 hr
    have i1 := mrg_ins hw l (b :: r) hl2.2 hr x
    have i2 := mrg_ins hw (a :: l) r hl hr2.2 x
    rw [insR_cons_asc hw hr] at i1 ⊢
    rw [mrg_cons]
    by_cases hba : lt b a = true
    · rw [if_pos hba]
      have hs : Asc lt (b :: mrg lt (a :: l) r) := by
        have ha : ∀ z ∈ mrg lt (a :: l) r, lt z b = false := fun z hz => by
          rcases List.mem_append.1 ((mrg_perm _ _).mem_iff.1 hz) with h | h
          · have hab : lt a b = false := by
              cases hc : lt a b with
              | false => rfl
              | true => have := hw.tr _ _ _ hba hc; rw [hw.irr] at this; cases this
            rcases List.mem_cons.1 h with rfl | h
            · exact hab
            · exact hw.ntr b a z hab (hl2.1 z h)
          · exact hr2.1 z h
        exact List.pairwise_cons.2 ⟨ha, mrg_asc hw _ _ hl hr2.2⟩
      rw [insR_cons_asc hw hs]
      by_cases hxb : lt x b = true
      · rw [if_pos hxb, if_pos hxb, mrg_cons, if_pos (hw.tr _ _ _ hxb hba), mrg_cons, if_pos hba]
      · rw [if_neg hxb, if_neg hxb, mrg_cons, if_pos hba, i2]
    · rw [if_neg hba]
      have hs : Asc lt (a :: mrg lt l (b :: r)) := by
        have ha : ∀ z ∈ mrg lt l (b :: r), lt z a = false := fun z hz => by
          rcases List.mem_append.1 ((mrg_perm _ _).mem_iff.1 hz) with h | h
          · exact hl2.1 z h
          · have hba' : lt b a = false := by simpa using hba
            rcases List.mem_cons.1 h with rfl | h
            · exact hba'
            · exact hw.ntr a b z hba' (hr2.1 z h)
        exact List.pairwise_cons.2 ⟨ha, mrg_asc hw _ _ hl2.2 hr⟩
      rw [insR_cons_asc hw hs]
      by_cases hxa : lt x a = true
      · rw [if_pos hxa]
        have hxb : lt x b = true := by
          cases hc : lt x b with
          | true => rfl
          | false =>
            have := hw.ntr a b x (by simpa using hba) hc
            rw [this] at hxa; cases hxa
        rw [if_pos hxb, mrg_cons, if_pos hxa, mrg_cons, if_neg hba]
      · rw [if_neg hxa]
        split at i1 <;> rename_i hxb
        · rw [if_pos hxb, mrg_cons, if_neg hxa, i1]
        · rw [if_neg hxb, mrg_cons, if_neg hba, i1]
termination_by l r => l.length + r.length
where
  mrg_asc (hw : Weak lt) : ∀ (l r : List α), Asc lt l → Asc lt r → Asc lt (mrg lt l r)
  | [], r, hl, hr => by rw [mrg_nil_left]; exact hr
  | a :: l, [], hl, hr => by rw [mrg_nil_right]; exact hl
  | a :: l, b :: r, hl, hr => by
    have hl2 := List.pairwise_cons.1 hl
    have hr2 := List.pairwise_cons.1 hr
    rw [mrg_cons]
    split
    · rename_i hba
      refine List.pairwise_cons.2 ⟨fun z hz => ?_, mrg_asc hw _ _ hl hr2.2⟩
      rcases List.mem_append.1 ((mrg_perm _ _).mem_iff.1 hz) with h | h
      · have hab : lt a b = false := by
          cases hc : lt a b with
          | false => rfl
          | true => have := hw.tr _ _ _ hba hc; rw [hw.irr] at this; cases this
        rcases List.mem_cons.1 h with rfl | h
        · exact hab
        · exact hw.ntr b a z hab (hl2.1 z h)
      · exact hr2.1 z h
    · rename_i hba
      have hba' : lt b a = false := by simpa using hba
      refine List.pairwise_cons.2 ⟨fun z hz => ?_, mrg_asc hw _ _ hl2.2 hr⟩
      rcases List.mem_append.1 ((mrg_perm _ _).mem_iff.1 hz) with h | h
      · exact hl2.1 z h
      · rcases List.mem_cons.1 h with rfl | h
        · exact hba'
        · exact hw.ntr a b z hba' (hr2.1 z h)
  termination_by l r => l.length + r.length
/-- two sorted halves, merged -/
theorem stab_app (hw : Weak lt) (l : List α) : ∀ r, stab lt (l ++ r) = mrg lt (stab lt l) (stab lt r) := by
  intro r
  induction hn : r.length generalizing r with
  | zero =>
    obtain rfl := List.eq_nil_of_length_eq_zero hn
    rw [List.append_nil, stab_nil, mrg_nil_right]
  | succ n ih =>
    rcases List.eq_nil_or_concat r with rfl | ⟨r', x, rfl⟩
    · cases hn
    · rw [List.concat_eq_append] at hn ⊢
      rw [← List.append_assoc, stab_snoc, stab_snoc, ih r' (by simpa using hn), mrg_ins hw _ _ (stab_asc hw l) (stab_asc hw r')]
/-- a merge in two parts -/
theorem mrg_parts : ∀ (l1 r1 l2 r2 : List α), (∀ x ∈ l1, ∀ y ∈ r2, lt y x = false) → (∀ y ∈ r1, ∀ x ∈ l2, lt y x = true) → mrg lt (l1 ++ l2) (r1 ++ r2) = mrg lt l1 r1 ++ mrg lt l2 r2
  | [], [], l2, r2, _, _ => by rw [mrg_nil_left]; rfl
  | [], y :: r1, l2, r2, h1, h2 => by
    have ih := mrg_parts [] r1 l2 r2 (by simp) (fun y' hy => h2 y' (List.mem_cons_of_mem _ hy))
    rw [mrg_nil_left] at ih ⊢
    rw [List.nil_append] at ih ⊢
    cases l2 with
    | nil => simp [mrg]
    | cons x l2 =>
      rw [List.cons_append, mrg_cons, if_pos (h2 y (by simp) x (by simp)), ih, List.cons_append]
  | x :: l1, [], l2, r2, h1, h2 => by
    have ih := mrg_parts l1 [] l2 r2 (fun x' hx => h1 x' (List.mem_cons_of_mem _ hx)) (by simp)
    rw [mrg_nil_right, List.nil_append] at ih ⊢
    cases r2 with
    | nil => simp [mrg]
    | cons y r2 =>
      rw [List.cons_append, mrg_cons, if_neg (by rw [h1 x (by simp) y (by simp)]; simp), ih, List.cons_append]
  | x :: l1, y :: r1, l2, r2, h1, h2 => by
    have i1 := mrg_parts (x :: l1) r1 l2 r2 h1 (fun y' hy => h2 y' (List.mem_cons_of_mem _ hy))
    have i2 := mrg_parts l1 (y :: r1) l2 r2 (fun x' hx => h1 x' (List.mem_cons_of_mem _ hx)) h2
    rw [List.cons_append] at i1 i2 ⊢
    rw [List.cons_append, mrg_cons, mrg_cons]
    split
    · rw [i1, List.cons_append]
    · rw [List.cons_append, i2]
termination_by l1 r1 => l1.length + r1.length
theorem asc_at {l : List α} (hw : Weak lt) (h : Asc lt l) {p q : Nat} (hpq : p ≤ q) {x y : α} (hx : l[p]? = some x) (hy : l[q]? = some y) : lt y x = false := by
  obtain ⟨hp, rfl⟩ := List.getElem?_eq_some_iff.1 hx
  obtain ⟨hq, rfl⟩ := List.getElem?_eq_some_iff.1 hy
  by_cases e : p = q
  · subst e; exact hw.irr _
  · exact List.pairwise_iff_getElem.1 h p q hp hq (by omega)
/-- a merge, parted where two places meet -/
theorem mrg_split (hw : Weak lt) {l r : List α} (hl : Asc lt l) (hr : Asc lt r) {i j : Nat} (hi : i ≤ l.length) (hj : j ≤ r.length)
    (h1 : ∀ x y, 0 < i → l[i - 1]? = some x → r[j]? = some y → lt y x = false) (h2 : ∀ x y, 0 < j → r[j - 1]? = some y → l[i]? = some x → lt y x = true) :
    mrg lt l r = mrg lt (l.take i) (r.take j) ++ mrg lt (l.drop i) (r.drop j) := by
  have h := mrg_parts (lt := lt) (l.take i) (r.take j) (l.drop i) (r.drop j) ?_ ?_
  · rwa [List.take_append_drop, List.take_append_drop] at h
  · intro x hx y hy
    obtain ⟨p, hp, hxp⟩ := List.mem_take_iff_getElem.1 hx
    obtain ⟨q, hq, hyq⟩ := List.mem_drop_iff_getElem.1 hy
    have a1 : l[i - 1]? = some (l[i - 1]'(by omega)) := List.getElem?_eq_getElem (by omega)
    have a2 : r[j]? = some (r[j]'(by omega)) := List.getElem?_eq_getElem (by omega)
    have hyq' : r[j + q]? = some y := by rw [List.getElem?_eq_getElem (by omega), hyq]
    have hxp' : l[p]? = some x := by rw [List.getElem?_eq_getElem (by omega), hxp]
    have b1 := asc_at hw hl (show p ≤ i - 1 by omega) hxp' a1
    have b2 := h1 _ _ (by omega) a1 a2
    have b3 := asc_at hw hr (show j ≤ j + q by omega) a2 hyq'
    exact hw.ntr _ _ _ (hw.ntr _ _ _ b1 b2) b3
  · intro y hy x hx
    obtain ⟨p, hp, hyp⟩ := List.mem_take_iff_getElem.1 hy
    obtain ⟨q, hq, hxq⟩ := List.mem_drop_iff_getElem.1 hx
    have a1 : r[j - 1]? = some (r[j - 1]'(by omega)) := List.getElem?_eq_getElem (by omega)
    have a2 : l[i]? = some (l[i]'(by omega)) := List.getElem?_eq_getElem (by omega)
    have hxq' : l[i + q]? = some x := by rw [List.getElem?_eq_getElem (by omega), hxq]
    have hyp' : r[p]? = some y := by rw [List.getElem?_eq_getElem (by omega), hyp]
    have b1 := asc_at hw hr (show p ≤ j - 1 by omega) hyp' a1
    have b2 := h2 _ _ (by omega) a1 a2
    have b3 := asc_at hw hl (show i ≤ i + q by omega) a2 hxq'
    cases hc : lt y x with
    | true => rfl
    | false =>
      have := hw.ntr _ _ _ (hw.ntr _ _ _ b3 hc) b1
      rw [this] at b2; cases b2
/-- one element on the left -/
theorem mrg_one_left (hw : Weak lt) {x : α} {r : List α} (hr : Asc lt r) {j : Nat} (hj : j ≤ r.length)
    (h1 : ∀ y, r[j]? = some y → lt y x = false) (h2 : ∀ y, 0 < j → r[j - 1]? = some y → lt y x = true) : mrg lt [x] r = r.take j ++ x :: r.drop j := by
  have a1 := mrg_split hw (l := [x]) (r := r) (List.pairwise_singleton _ _) hr (i := 0) (j := j) (by simp) hj (fun x' y h => absurd h (by omega)) (fun x' y h0 hy hx => by simp at hx; subst hx; exact h2 y h0 hy)
  have a2 := mrg_split hw (l := [x]) (r := r.drop j) (List.pairwise_singleton _ _) (hr.sublist (List.drop_sublist _ _)) (i := 1) (j := 0) (by simp) (by simp) (fun x' y _ hx hy => by simp at hx; subst hx; exact h1 y (by simpa using hy)) (fun x' y h0 => absurd h0 (by omega))
  rw [a1]
  simp only [List.take_zero, List.drop_zero, mrg_nil_left]
  rw [a2]
  simp [mrg_nil_left, mrg_nil_right]
/-- one element on the right -/
theorem mrg_one_right (hw : Weak lt) {y : α} {l : List α} (hl : Asc lt l) {i : Nat} (hi : i ≤ l.length)
    (h1 : ∀ x, l[i]? = some x → lt y x = true) (h2 : ∀ x, 0 < i → l[i - 1]? = some x → lt y x = false) : mrg lt l [y] = l.take i ++ y :: l.drop i := by
  have a1 := mrg_split hw (l := l) (r := [y]) hl (List.pairwise_singleton _ _) (i := i) (j := 0) hi (by simp) (fun x y' h0 hx hy => by simp at hy; subst hy; exact h2 x h0 hx) (fun x y' h => absurd h (by omega))
  have a2 := mrg_split hw (l := l.drop i) (r := [y]) (hl.sublist (List.drop_sublist _ _)) (List.pairwise_singleton _ _) (i := 0) (j := 1) (by simp) (by simp) (fun x' y h0 => absurd h0 (by omega)) (fun x y' _ hy hx => by simp at hy; subst hy; exact h1 x (by simpa using hx))
  rw [a1]
  simp only [List.take_zero, List.drop_zero, mrg_nil_right]
  rw [a2]
  simp [mrg_nil_left, mrg_nil_right]

/-! ### blocks -/
/-- the list, sorted block by block -/
def chunked (lt : α → α → Bool) (bs : Nat) (l : List α) : List α := if bs = 0 ∨ l.length ≤ bs then stab lt l else stab lt (l.take bs) ++ chunked lt bs (l.drop bs)
termination_by l.length
decreasing_by simp; omega
theorem chunked_short {bs : Nat} {l : List α} (h : l.length ≤ bs) : chunked lt bs l = stab lt l := by rw [chunked, if_pos (Or.inr h)]
theorem chunked_long {bs : Nat} {l : List α} (h0 : 0 < bs) (h : bs < l.length) : chunked lt bs l = stab lt (l.take bs) ++ chunked lt bs (l.drop bs) := by rw [chunked, if_neg (by omega)]
theorem chunked_nil (bs : Nat) : chunked lt bs [] = [] := by rw [chunked_short (by simp)]; rfl
theorem chunked_cut {bs : Nat} {l : List α} (h0 : 0 < bs) : chunked lt bs l = stab lt (l.take bs) ++ chunked lt bs (l.drop bs) := by
  by_cases h : bs < l.length
  · exact chunked_long h0 h
  · rw [chunked_short (by omega), List.take_of_length_le (by omega), List.drop_of_length_le (by omega), chunked_nil, List.append_nil]
theorem chunked_len {bs : Nat} (h0 : 0 < bs) (l : List α) : (chunked lt bs l).length = l.length := by
  induction hn : l.length using Nat.strongRecOn generalizing l with
  | _ n ih =>
    by_cases h : bs < l.length
    · rw [chunked_long h0 h, List.length_append, stab_len, List.length_take, ih _ (by rw [List.length_drop]; omega) _ rfl, List.length_drop]; omega
    · rw [chunked_short (by omega), stab_len, hn]
/-- whole blocks, and one more -/
theorem chunked_app {bs : Nat} (h0 : 0 < bs) : ∀ (q : Nat) (l r : List α), l.length = q * bs → chunked lt bs (l ++ r) = chunked lt bs l ++ chunked lt bs r
  | 0, l, r, h => by
    obtain rfl : l = [] := List.eq_nil_of_length_eq_zero (by simpa using h)
    rw [chunked_nil]; rfl
  | q + 1, l, r, h => by
    have hl : bs ≤ l.length := by rw [h, Nat.add_mul]; omega
    rw [chunked_cut h0 (l := l ++ r), chunked_cut h0 (l := l), List.take_append_of_le_length hl, List.drop_append_of_le_length hl,
      chunked_app h0 q (l.drop bs) r (by rw [List.length_drop, h, Nat.add_mul]; omega), List.append_assoc]
theorem chunked_take {bs : Nat} (h0 : 0 < bs) (l : List α) (q : Nat) (h : q * bs + bs ≤ l.length) : chunked lt bs (l.take (q * bs + bs)) = chunked lt bs (l.take (q * bs)) ++ stab lt ((l.drop (q * bs)).take bs) := by
  have e : l.take (q * bs + bs) = l.take (q * bs) ++ (l.drop (q * bs)).take bs := List.take_add
  rw [e, chunked_app h0 q _ _ (by rw [List.length_take]; omega), chunked_short (l := (l.drop (q * bs)).take bs) (by rw [List.length_take]; omega)]
theorem chunked_end {bs : Nat} (h0 : 0 < bs) (l : List α) (q : Nat) (h : q * bs ≤ l.length) (h2 : l.length ≤ q * bs + bs) : chunked lt bs l = chunked lt bs (l.take (q * bs)) ++ stab lt (l.drop (q * bs)) := by
  have e := chunked_app h0 q (l.take (q * bs)) (l.drop (q * bs)) (lt := lt) (by rw [List.length_take]; omega)
  rw [List.take_append_drop] at e
  rw [e, chunked_short (l := l.drop (q * bs)) (by rw [List.length_drop]; omega)]
/-- two blocks of a round -/
theorem chunked_two {bs : Nat} (hw : Weak lt) (h0 : 0 < bs) (l : List α) : chunked lt bs l = stab lt (l.take bs) ++ (stab lt ((l.drop bs).take bs) ++ chunked lt bs (l.drop (bs + bs))) := by
  rw [chunked_cut h0, chunked_cut h0 (l := l.drop bs), List.drop_drop]
theorem stab_two {bs : Nat} (hw : Weak lt) (l : List α) : mrg lt (stab lt (l.take bs)) (stab lt ((l.drop bs).take bs)) = stab lt (l.take (bs + bs)) := by
  rw [← stab_app hw, ← List.take_add]
/-! ### exchanges -/
/-- the list T with x at place u, within a longer one -/
def ri (P T S : List α) (x : α) (u : Nat) : List α := P ++ (T.take u ++ x :: T.drop u) ++ S
theorem ri_len (P T S : List α) (x : α) (u : Nat) : (ri P T S x u).length = P.length + (T.length + 1) + S.length := by
  simp [ri]; omega
theorem ri_form {T : List α} {u : Nat} (h : u < T.length) (P S : List α) (x : α) : ri P T S x (u + 1) = (P ++ T.take u) ++ T[u] :: x :: (T.drop (u + 1) ++ S) ∧ ri P T S x u = (P ++ T.take u) ++ x :: T[u] :: (T.drop (u + 1) ++ S) := by
  constructor
  · unfold ri; rw [List.take_succ_eq_append_getElem h]; simp only [List.append_assoc, List.cons_append, List.nil_append]
  · unfold ri; rw [List.drop_eq_getElem_cons h]; simp only [List.append_assoc, List.cons_append, List.nil_append]
theorem two_at (A B : List α) (y x : α) (n : Nat) (h : A.length = n) : (A ++ y :: x :: B)[n]? = some y ∧ (A ++ y :: x :: B)[n + 1]? = some x ∧ ((A ++ y :: x :: B).set (n + 1) y).set n x = A ++ x :: y :: B ∧ ((A ++ y :: x :: B).set n x).set (n + 1) y = A ++ x :: y :: B := by
  subst h
  refine ⟨by simp, by simp, ?_, ?_⟩
  · rw [List.set_append_right _ _ (by omega), show A.length + 1 - A.length = 1 by omega, List.set_append_right _ _ (by omega), Nat.sub_self]; rfl
  · rw [List.set_append_right _ _ (by omega), Nat.sub_self, List.set_append_right _ _ (by omega), show A.length + 1 - A.length = 1 by omega]; rfl
/-- the two places ahead of an exchange, and the row behind it -/
theorem ri_down {T : List α} {u : Nat} (h : u < T.length) (P S : List α) (x : α) {n : Nat} (hn : P.length + u = n) : (ri P T S x (u + 1))[n]? = some T[u] ∧ (ri P T S x (u + 1))[n + 1]? = some x ∧ ((ri P T S x (u + 1)).set (n + 1) T[u]).set n x = ri P T S x u := by
  rw [(ri_form h P S x).1, (ri_form h P S x).2]
  have := two_at (P ++ T.take u) (T.drop (u + 1) ++ S) T[u] x n (by simp; omega)
  exact ⟨this.1, this.2.1, this.2.2.1⟩
theorem ri_up {T : List α} {u : Nat} (h : u < T.length) (P S : List α) (x : α) {n : Nat} (hn : P.length + u = n) : (ri P T S x u)[n]? = some x ∧ (ri P T S x u)[n + 1]? = some T[u] ∧ ((ri P T S x u).set n T[u]).set (n + 1) x = ri P T S x (u + 1) := by
  rw [(ri_form h P S x).1, (ri_form h P S x).2]
  have := two_at (P ++ T.take u) (T.drop (u + 1) ++ S) x T[u] n (by simp; omega)
  exact ⟨this.1, this.2.1, this.2.2.2⟩
theorem ri_zero (P T S : List α) (x : α) : ri P T S x 0 = P ++ (x :: T) ++ S := by simp [ri]
theorem ri_all (P T S : List α) (x : α) : ri P T S x T.length = P ++ (T ++ [x]) ++ S := by simp [ri]
theorem ri_one (P T S : List α) (x : α) {u : Nat} (h : u ≤ T.length) {n : Nat} (hn : P.length + u = n) : (ri P T S x u)[n]? = some x := by
  subst hn
  unfold ri
  rw [List.append_assoc, List.getElem?_append_right (by omega), Nat.add_sub_cancel_left, List.append_assoc, List.getElem?_append_right (by rw [List.length_take]; omega), List.length_take, Nat.min_eq_left h, Nat.sub_self]; rfl
theorem ri_ins (P T S : List α) (x : α) (u : Nat) (h : pos lt x T T.length = u) : ri P T S x u = P ++ insR lt T x ++ S := by subst h; rfl
theorem pos_down {T : List α} {x : α} {u : Nat} (h : u < T.length) (hl : lt x T[u] = true) : pos lt x T (u + 1) = pos lt x T u := by rw [pos]; simp [h, hl]
theorem pos_stop {T : List α} {x : α} {u : Nat} (h : u < T.length) (hl : lt x T[u] = false) : pos lt x T (u + 1) = u + 1 := by rw [pos]; simp [h, hl]
/-- two stretches of one length, exchanged up to place i -/
def rx (P X M Y S : List α) (i : Nat) : List α := P ++ (Y.take i ++ X.drop i) ++ M ++ (X.take i ++ Y.drop i) ++ S
theorem rx_zero (P X M Y S : List α) : rx P X M Y S 0 = P ++ X ++ M ++ Y ++ S := by simp [rx]
theorem rx_all (P X M Y S : List α) (h : X.length = Y.length) : rx P X M Y S Y.length = P ++ Y ++ M ++ X ++ S := by
  unfold rx; rw [List.take_of_length_le (Nat.le_refl _), List.drop_of_length_le (l := X) (by omega), List.take_of_length_le (l := X) (by omega), List.drop_of_length_le (l := Y) (by omega)]; simp only [List.append_assoc, List.append_nil]
theorem rx_step (P M S : List α) {X Y : List α} {i : Nat} (hx : i < X.length) (hy : i < Y.length) (hl : X.length = Y.length) {p q : Nat} (hp : P.length + i = p) (hq : P.length + X.length + M.length + i = q) :
    (rx P X M Y S i)[p]? = some X[i] ∧ (rx P X M Y S i)[q]? = some Y[i] ∧ ((rx P X M Y S i).set p Y[i]).set q X[i] = rx P X M Y S (i + 1) := by
  have e1 : rx P X M Y S i = (P ++ Y.take i) ++ X[i] :: ((X.drop (i + 1) ++ M ++ X.take i) ++ Y[i] :: (Y.drop (i + 1) ++ S)) := by
    unfold rx; rw [List.drop_eq_getElem_cons hx, List.drop_eq_getElem_cons hy]; simp only [List.append_assoc, List.cons_append, List.nil_append]
  have e2 : rx P X M Y S (i + 1) = (P ++ Y.take i) ++ Y[i] :: ((X.drop (i + 1) ++ M ++ X.take i) ++ X[i] :: (Y.drop (i + 1) ++ S)) := by
    unfold rx; rw [List.take_succ_eq_append_getElem hx, List.take_succ_eq_append_getElem hy]; simp only [List.append_assoc, List.cons_append, List.nil_append]
  rw [e1, e2]
  have l1 : (P ++ Y.take i).length = p := by simp; omega
  have l2 : (X.drop (i + 1) ++ M ++ X.take i).length = q - p - 1 := by simp; omega
  generalize P ++ Y.take i = A at l1 ⊢
  generalize X.drop (i + 1) ++ M ++ X.take i = B at l2 ⊢
  subst l1
  refine ⟨by simp, ?_, ?_⟩
  · rw [List.getElem?_append_right (by omega), show q - A.length = B.length + 1 by omega]; simp
  · rw [List.set_append_right _ _ (by omega), Nat.sub_self, List.set_cons_zero, List.set_append_right _ _ (by omega), show q - A.length = B.length + 1 by omega, List.set_cons_succ, List.set_append_right _ _ (by omega), Nat.sub_self, List.set_cons_zero]
/-! ### lists that are in order already, and images -/
theorem stab_one (x : α) : stab lt [x] = [x] := by simp [stab, insR_nil]
theorem stab_of_asc : ∀ (l : List α), Asc lt l → stab lt l = l := by
  intro l
  induction hn : l.length generalizing l with
  | zero => intro _; obtain rfl := List.eq_nil_of_length_eq_zero hn; rfl
  | succ n ih =>
    intro h
    rcases List.eq_nil_or_concat l with rfl | ⟨l', x, rfl⟩
    · cases hn
    · rw [List.concat_eq_append] at hn h ⊢
      have h2 := List.pairwise_append.1 h
      rw [stab_snoc, ih l' (by simpa using hn) h2.1]
      have hp : pos lt x l' l'.length = l'.length := by
        cases hl : l'.length with
        | zero => rfl
        | succ m =>
          have hm : m < l'.length := by omega
          exact pos_stop hm (h2.2.2 _ (List.getElem_mem hm) x (by simp))
      rw [insR, hp]; simp
theorem pos_map {β : Type} {lt' : β → β → Bool} (f : α → β) (hf : ∀ x y, lt' (f x) (f y) = lt x y) (x : α) (l : List α) : ∀ k, pos lt' (f x) (l.map f) k = pos lt x l k
  | 0 => rfl
  | k + 1 => by
    rw [pos, pos, pos_map f hf x l k, List.getElem?_map]
    cases l[k]? with
    | none => rfl
    | some y => simp [hf]
theorem stab_map {β : Type} {lt' : β → β → Bool} (f : α → β) (hf : ∀ x y, lt' (f x) (f y) = lt x y) (l : List α) : stab lt' (l.map f) = (stab lt l).map f := by
  have key : ∀ (l o : List α), (l.map f).foldl (insR lt') (o.map f) = (l.foldl (insR lt) o).map f := by
    intro l
    induction l with
    | nil => intro o; rfl
    | cons a l ih =>
      intro o
      rw [List.map_cons, List.foldl_cons, List.foldl_cons, ← ih]
      congr 1
      rw [insR, insR, List.length_map, pos_map f hf]
      simp
  exact key l []
theorem stab_take (l : List α) {k : Nat} (h : k < l.length) : stab lt (l.take (k + 1)) = insR lt (stab lt (l.take k)) l[k] := by
  rw [List.take_succ_eq_append_getElem h, stab_snoc]
/-- a number to sort by, downwards -/
theorem weak_down (f : α → Int) : Weak fun x y => decide (f y < f x) := by
  refine ⟨fun x => by simp, fun x y z h1 h2 => ?_, fun x y z h1 h2 => ?_⟩ <;> simp at * <;> omega
theorem weak_up (f : α → Int) : Weak fun x y => decide (f x < f y) := by
  refine ⟨fun x => by simp, fun x y z h1 h2 => ?_, fun x y z h1 h2 => ?_⟩ <;> simp at * <;> omega
/-- stability: equal ones keep what held between them -/
theorem stab_stable (hw : Weak lt) {S : α → α → Prop} : ∀ (l : List α), l.Pairwise S → (stab lt l).Pairwise fun x y => lt x y = true ∨ (lt y x = false ∧ S x y) := by
  intro l
  induction hn : l.length generalizing l with
  | zero => intro _; obtain rfl := List.eq_nil_of_length_eq_zero hn; exact List.Pairwise.nil
  | succ n ih =>
    intro h
    rcases List.eq_nil_or_concat l with rfl | ⟨l', x, rfl⟩
    · cases hn
    · rw [List.concat_eq_append] at hn h ⊢
      have h2 := List.pairwise_append.1 h
      have i1 := ih l' (by simpa using hn) h2.1
      have ha := stab_asc hw l'
      have hm : ∀ y ∈ stab lt l', S y x := fun y hy => h2.2.2 y ((stab_perm l').mem_iff.1 hy) x (by simp)
      rw [stab_snoc]
      generalize stab lt l' = T at i1 ha hm ⊢
      rw [insR, List.pairwise_append]
      have hsplit := i1
      rw [← List.take_append_drop (pos lt x T T.length) T, List.pairwise_append] at hsplit
      refine ⟨hsplit.1, List.pairwise_cons.2 ⟨fun z hz => ?_, hsplit.2.1⟩, fun y hy z hz => ?_⟩
      · obtain ⟨q, hq, hzq⟩ := List.mem_drop_iff_getElem.1 hz
        exact Or.inl (pos_above x T T.length (pos lt x T T.length + q) (by omega) (by omega) z (by rw [List.getElem?_eq_getElem (by omega), hzq]))
      · rcases List.mem_cons.1 hz with rfl | hz
        · right
          obtain ⟨q, hq, hyq⟩ := List.mem_take_iff_getElem.1 hy
          obtain ⟨y', hy', hf⟩ := pos_last (lt := lt) z T T.length (Nat.le_refl _) (by omega)
          refine ⟨?_, hm y (List.mem_of_mem_take hy)⟩
          have := asc_at hw ha (show q ≤ pos lt z T T.length - 1 by omega) (show T[q]? = some y by rw [List.getElem?_eq_getElem (by omega), hyq]) hy'
          exact hw.ntr _ _ _ this hf
        · exact hsplit.2.2 y hy z hz
theorem row_left {P L R S : List α} {i k : Nat} (h : i < L.length) (hk : P.length + i = k) : (P ++ L ++ R ++ S)[k]? = L[i]? := by
  subst hk
  rw [List.append_assoc, List.append_assoc, List.getElem?_append_right (by omega), Nat.add_sub_cancel_left, List.getElem?_append_left h]
theorem row_right {P L R S : List α} {j k : Nat} (h : j < R.length) (hk : P.length + L.length + j = k) : (P ++ L ++ R ++ S)[k]? = R[j]? := by
  subst hk
  rw [List.append_assoc (P ++ L), List.getElem?_append_right (by rw [List.length_append]; omega), List.length_append, Nat.add_sub_cancel_left, List.getElem?_append_left h]
end
end Go.Proofs.Ytgffabjajbgbjaa.stb
