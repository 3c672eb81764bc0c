/- What fits a summary, merged and pruned summaries, ranks: the plain law. No condition. -/
import Derived.Test.YtlckeefjhafloaaSmyFit
import Derived.Test.YtlckeefjhafloaaSmyPr
import Derived.Test.YtlckeefjhafloaaSmyMgI
set_option linter.unusedVariables false
set_option linter.unusedSimpArgs false
namespace Go.Proofs.Ytlckeefjhafloaa.fitLaw
open Go.RowKit Go.Proofs.Ytlckeefjhafloaa.mem Go.Proofs.Ytlckeefjhafloaa.smy Go.Proofs.Ytlckeefjhafloaa.smyQ Go.Proofs.Ytlckeefjhafloaa.mgLaw Go.Proofs.Ytlckeefjhafloaa.smyMg Go.Proofs.Ytlckeefjhafloaa.srt Go.Proofs.Ytlckeefjhafloaa.smyFit Go.Proofs.Ytlckeefjhafloaa.smyOf Go.Proofs.Ytlckeefjhafloaa.prLaw

def lt (zs : List Int) (v : Int) : Int := (zs.countP fun x => decide (x < v) : Nat)
def le (zs : List Int) (v : Int) : Int := (zs.countP fun x => decide (x ≤ v) : Nat)
theorem lt_perm {a b : List Int} (h : a.Perm b) (v : Int) : lt a v = lt b v := by unfold lt; rw [h.countP_eq]
theorem le_perm {a b : List Int} (h : a.Perm b) (v : Int) : le a v = le b v := by unfold le; rw [h.countP_eq]
theorem lt_app (a b : List Int) (v : Int) : lt (a ++ b) v = lt a v + lt b v := by unfold lt; rw [List.countP_append]; omega
theorem le_app (a b : List Int) (v : Int) : le (a ++ b) v = le a v + le b v := by unfold le; rw [List.countP_append]; omega
theorem lt_le (zs : List Int) (v : Int) : lt zs v ≤ le zs v := by
  unfold lt le
  have := List.countP_mono_left (l := zs) (p := fun x => decide (x < v)) (q := fun x => decide (x ≤ v)) (fun x _ h => by simp at h ⊢; omega)
  omega
theorem le_lt (zs : List Int) {u v : Int} (h : u < v) : le zs u ≤ lt zs v := by
  unfold lt le
  have := List.countP_mono_left (l := zs) (p := fun x => decide (x ≤ u)) (q := fun x => decide (x < v)) (fun x _ h => by simp at h ⊢; omega)
  omega
theorem lt_mono (zs : List Int) {u v : Int} (h : u ≤ v) : lt zs u ≤ lt zs v := by
  unfold lt
  have := List.countP_mono_left (l := zs) (p := fun x => decide (x < u)) (q := fun x => decide (x < v)) (fun x _ h => by simp at h ⊢; omega)
  omega
theorem le_mono (zs : List Int) {u v : Int} (h : u ≤ v) : le zs u ≤ le zs v := by
  unfold le
  have := List.countP_mono_left (l := zs) (p := fun x => decide (x ≤ u)) (q := fun x => decide (x ≤ v)) (fun x _ h => by simp at h ⊢; omega)
  omega
theorem le_len (zs : List Int) (v : Int) : le zs v ≤ (zs.length : Int) := by
  unfold le
  have := List.countP_le_length (p := fun x => decide (x ≤ v)) (l := zs)
  omega
theorem lt_pos (zs : List Int) (v : Int) : 0 ≤ lt zs v := by unfold lt; omega
theorem cnt_at (p : Int → Bool) : ∀ (s : List Int), s.Pairwise (fun a b => p b = true → p a = true) → ∀ i (h : i < s.length), (i < s.countP p ↔ p s[i] = true)
  | [], _, i, h => by simp at h
  | a :: s, hs, i, h => by
    have h2 := List.pairwise_cons.1 hs
    by_cases ha : p a = true
    · rw [List.countP_cons_of_pos ha]
      cases i with
      | zero => simp [ha]
      | succ i =>
        have ih := cnt_at p s h2.2 i (by simpa using h)
        simp only [List.getElem_cons_succ]
        rw [← ih]; omega
    · have h0 : s.countP p = 0 := List.countP_eq_zero.2 (fun b hb hp => ha (h2.1 b hb hp))
      rw [List.countP_cons_of_neg ha, h0]
      cases i with
      | zero => simp [ha]
      | succ i =>
        simp only [List.getElem_cons_succ]
        constructor
        · intro h3; omega
        · intro h3; exact absurd (h2.1 _ (List.getElem_mem (by simpa using h)) h3) ha
theorem at_iff {zs : List Int} {p v : Int} (h1 : 1 ≤ p) (h2 : p ≤ (zs.length : Int)) : (srt zs).getD (p - 1).toNat 0 = v ↔ lt zs v < p ∧ p ≤ le zs v := by
  obtain ⟨i, rfl⟩ : ∃ i : Nat, p = (i : Int) + 1 := ⟨(p - 1).toNat, by omega⟩
  have hi : i < (srt zs).length := by rw [srt_len]; omega
  rw [show ((i : Int) + 1 - 1).toNat = i by omega, getD_z _ hi, ← lt_perm (srt_perm zs), ← le_perm (srt_perm zs)]
  have ha := srt_asc zs
  have e1 := cnt_at (fun x => decide (x < v)) (srt zs) (ha.imp (fun hab h => by simp at h ⊢; omega)) i hi
  have e2 := cnt_at (fun x => decide (x ≤ v)) (srt zs) (ha.imp (fun hab h => by simp at h ⊢; omega)) i hi
  simp only [decide_eq_true_eq] at e1 e2
  unfold lt le
  constructor
  · intro e
    constructor
    · have : ¬ (i < (srt zs).countP fun x => decide (x < v)) := fun h => by have := e1.1 h; omega
      omega
    · have := e2.2 (by omega); omega
  · rintro ⟨g1, g2⟩
    have a1 : ¬ (srt zs)[i] < v := fun h => by have := e1.2 h; omega
    have a2 := e2.1 (by omega)
    omega
/-- the entries stand at growing positions behind last -/
def Fit (zs : List Int) : List Rkv → Int → Prop
  | [], _ => True
  | e :: l, last => ∃ p : Int, last < p ∧ e.least ≤ p ∧ p ≤ e.most ∧ lt zs e.value < p ∧ p ≤ le zs e.value ∧ Fit zs l p
theorem fit_mono {zs : List Int} : ∀ {l : List Rkv} {p q : Int}, Fit zs l p → q ≤ p → Fit zs l q
  | [], _, _, _, _ => trivial
  | _ :: _, _, _, ⟨p, h1, h2⟩, h => ⟨p, by omega, h2⟩
theorem sk_spec (s : List Int) (v most : Int) : ∀ (f : Nat) (r : Int), (most + 1 - r).toNat ≤ f → r ≤ sk s v most f r ∧ (sk s v most f r ≤ most → s.getD (sk s v most f r - 1).toNat 0 = v) ∧ (∀ p, r ≤ p → p ≤ most → s.getD (p - 1).toNat 0 = v → sk s v most f r ≤ p)
  | 0, r, h => by simp only [sk]; exact ⟨by omega, fun h2 => by omega, fun p h1 h2 => by omega⟩
  | f + 1, r, h => by
    simp only [sk]
    split
    · next hc =>
      have ih := sk_spec s v most f (r + 1) (by omega)
      refine ⟨by omega, ih.2.1, fun p h1 h2 h3 => ?_⟩
      by_cases e : p = r
      · subst e; exact absurd h3 hc.2
      · exact ih.2.2 p (by omega) h2 h3
    · next hc =>
      refine ⟨Int.le_refl _, fun h2 => ?_, fun p h1 _ _ => h1⟩
      by_cases e : s.getD (r - 1).toNat 0 = v
      · exact e
      · exact absurd ⟨h2, e⟩ hc
theorem fgo_iff {zs : List Int} : ∀ {l : List Rkv} {last : Int}, (∀ e ∈ l, 1 ≤ e.least ∧ e.most ≤ (zs.length : Int)) → (fgo (srt zs) l last = true ↔ Fit zs l last)
  | [], last, _ => by simp [fgo, Fit]
  | e :: l, last, h => by
    have h0 := h e (by simp)
    have hs := sk_spec (srt zs) e.value e.most (e.most + 1 - max e.least (last + 1)).toNat (max e.least (last + 1)) (Nat.le_refl _)
    have ih := fun q => fgo_iff (zs := zs) (l := l) (last := q) (fun x hx => h x (by simp [hx]))
    rw [fgo]
    change ((if e.most < skr (srt zs) e.value e.most (max e.least (last + 1)) then false else _) = true ↔ _)
    obtain ⟨s1, s2, s3⟩ := hs
    change max e.least (last + 1) ≤ skr (srt zs) e.value e.most (max e.least (last + 1)) at s1
    change skr (srt zs) e.value e.most (max e.least (last + 1)) ≤ e.most → (srt zs).getD (skr (srt zs) e.value e.most (max e.least (last + 1)) - 1).toNat 0 = e.value at s2
    change ∀ p, max e.least (last + 1) ≤ p → p ≤ e.most → (srt zs).getD (p - 1).toNat 0 = e.value → skr (srt zs) e.value e.most (max e.least (last + 1)) ≤ p at s3
    generalize skr (srt zs) e.value e.most (max e.least (last + 1)) = r at *
    constructor
    · intro hf
      split at hf
      · cases hf
      · next hc =>
        have h4 := (at_iff (zs := zs) (p := r) (v := e.value) (by omega) (by omega)).1 (s2 (by omega))
        exact ⟨r, by omega, by omega, by omega, h4.1, h4.2, (ih r).1 hf⟩
    · rintro ⟨p, p1, p2, p3, p4, p5, p6⟩
      have h5 := s3 p (by omega) p3 ((at_iff (by omega) (by omega)).2 ⟨p4, p5⟩)
      rw [if_neg (by omega)]
      exact (ih r).2 (fit_mono p6 h5)
theorem fit_of {zs : List Int} : ∀ {l : List Rkv} (p : Nat → Int) (last : Int), (0 < l.length → last < p 0) → (∀ i, i + 1 < l.length → p i < p (i + 1)) →
    (∀ i (h : i < l.length), l[i].least ≤ p i ∧ p i ≤ l[i].most ∧ lt zs l[i].value < p i ∧ p i ≤ le zs l[i].value) → Fit zs l last
  | [], _, _, _, _, _ => trivial
  | e :: l, p, last, h0, hs, hb => by
    have h1 := hb 0 (by simp)
    simp only [List.getElem_cons_zero] at h1
    exact ⟨p 0, h0 (by simp), h1.1, h1.2.1, h1.2.2.1, h1.2.2.2, fit_of (fun i => p (i + 1)) (p 0) (fun h => hs 0 (by simpa using h)) (fun i h => hs (i + 1) (by simpa using h)) (fun i h => by have := hb (i + 1) (by simpa using h); simpa using this)⟩
theorem fit_fn {zs : List Int} : ∀ {l : List Rkv} {last : Int}, Fit zs l last → ∃ p : Nat → Int, (0 < l.length → last < p 0) ∧ (∀ i, i + 1 < l.length → p i < p (i + 1)) ∧
    (∀ i (h : i < l.length), l[i].least ≤ p i ∧ p i ≤ l[i].most ∧ lt zs l[i].value < p i ∧ p i ≤ le zs l[i].value)
  | [], _, _ => ⟨fun _ => 0, by simp, by simp, by simp⟩
  | e :: l, last, ⟨p, h1, h2, h3, h4, h5, h6⟩ => by
    obtain ⟨q, q0, q1, q2⟩ := fit_fn h6
    refine ⟨fun i => if i = 0 then p else q (i - 1), fun _ => h1, ?_, ?_⟩
    · intro i hi
      cases i with
      | zero => simpa using q0 (by simpa using hi)
      | succ i => simpa using q1 i (by simpa using hi)
    · intro i hi
      cases i with
      | zero => exact ⟨h2, h3, h4, h5⟩
      | succ i => simpa using q2 i (by simpa using hi)
theorem fit_sub {zs : List Int} {l' l : List Rkv} (hs : l'.Sublist l) : ∀ {last : Int}, Fit zs l last → Fit zs l' last := by
  induction hs with
  | slnil => intro _ h; exact h
  | cons a _ ih => intro last ⟨p, h1, _, _, _, _, h6⟩; exact ih (fit_mono h6 (by omega))
  | cons_cons a _ ih => intro last ⟨p, h1, h2, h3, h4, h5, h6⟩; exact ⟨p, h1, h2, h3, h4, h5, ih h6⟩
/-- the exact summary fits -/
theorem fit_exact (zs : List Int) : Fit zs (exk (srt zs) zs.length) 0 := by
  refine fit_of (fun i => (i : Int) + 1) 0 (fun _ => by simp) (fun i _ => by simp; omega) (fun i h => ?_)
  have hl : i < zs.length := by rw [exk_len] at h; exact h
  have e : (exk (srt zs) zs.length)[i] = ⟨(srt zs).getD i 0, (i : Int) + 1, (i : Int) + 1⟩ := by simp [exk]
  rw [e]
  have h2 := (at_iff (zs := zs) (p := (i : Int) + 1) (v := (srt zs).getD i 0) (by omega) (by omega)).1 (by rw [show ((i : Int) + 1 - 1).toNat = i by omega])
  exact ⟨Int.le_refl _, Int.le_refl _, h2.1, h2.2⟩
/-- what a valid summary is, with a bound on its gap -/
structure Sm (c : Int) (l : List Rkv) (G : Int) : Prop where
  cnt : 0 ≤ c
  emp : l.length = 0 → c = 0
  at_ : ∀ i, i < l.length → -100000 ≤ (l.getD i z0).value ∧ (l.getD i z0).value ≤ 100000 ∧ 1 ≤ (l.getD i z0).least ∧ (l.getD i z0).least ≤ (l.getD i z0).most ∧ (l.getD i z0).most ≤ c
  nx : ∀ i, i + 1 < l.length → (l.getD i z0).value ≤ (l.getD (i + 1) z0).value ∧ (l.getD i z0).least < (l.getD (i + 1) z0).least ∧ (l.getD i z0).most < (l.getD (i + 1) z0).most ∧ (l.getD (i + 1) z0).most - (l.getD i z0).least ≤ G
  fst : 0 < l.length → (l.getD 0 z0).most = 1
  lst : 0 < l.length → (l.getD (l.length - 1) z0).least = c
  G0 : 0 ≤ G
theorem g_ge (l : List Rkv) : ∀ k i, i < k → (l.getD (i + 1) z0).most - (l.getD i z0).least ≤ smyGap.g l k
  | k + 1, i, h => by
    simp only [smyGap.g]
    by_cases e : i = k
    · subst e; omega
    · have := g_ge l k i (by omega); omega
theorem g_pos (l : List Rkv) : ∀ k, 0 ≤ smyGap.g l k
  | 0 => by simp [smyGap.g]
  | k + 1 => by have := g_pos l k; simp only [smyGap.g]; omega
theorem g_le {l : List Rkv} {G : Int} (h0 : 0 ≤ G) : ∀ k, (∀ i, i < k → (l.getD (i + 1) z0).most - (l.getD i z0).least ≤ G) → smyGap.g l k ≤ G
  | 0, _ => by simpa [smyGap.g] using h0
  | k + 1, h => by
    have h1 := g_le h0 k (fun i hi => h i (by omega))
    have h2 := h k (by omega)
    simp only [smyGap.g]; omega
theorem sm_of {c : Int} {l : List Rkv} (h : vsmy c l = true) : Sm c l (smyGap.g l (l.length - 1)) := by
  have hc := vsmy_cnt h
  refine ⟨hc.1, hc.2.2.2.1, fun i hi => ?_, fun i hi => ?_, fun h0 => ?_, fun h0 => ?_, g_pos _ _⟩
  · rw [getD_r l hi]; exact vsmy_at h hi
  · have := vsmy_next h hi
    have h2 := g_ge l (l.length - 1) i (by omega)
    rw [getD_r l hi, getD_r l (by omega)] at *
    exact ⟨this.1, this.2.1, this.2.2, h2⟩
  · rw [getD_r l h0]; exact (vsmy_ends h h0).1
  · rw [getD_r l (by omega)]; exact (vsmy_ends h h0).2
theorem vsmy_of {c : Int} {l : List Rkv} {G : Int} (h : Sm c l G) (hl : l.length ≤ 64) (hc : c ≤ 1000) : vsmy c l = true := by
  have hc0 := h.cnt
  have hiff : l.length = 0 ↔ c = 0 := ⟨h.emp, fun e => by
    by_cases h0 : l.length = 0
    · exact h0
    · have := h.at_ 0 (by omega); omega⟩
  have hk : ∀ k, k ≤ l.length → okB c l k = true := by
    intro k
    induction k with
    | zero => intro _; rfl
    | succ k ih =>
      intro hk
      have h1 := h.at_ k (by omega)
      rw [okB_step (ih (by omega))]
      simp only [Bool.and_eq_true, Bool.or_eq_true, decide_eq_true_eq, oke, okp]
      refine ⟨⟨Go.Proofs.Ytlckeefjhafloaa.ins.inB_iff.2 ⟨h1.1, h1.2.1⟩, Go.Proofs.Ytlckeefjhafloaa.ins.inB_iff.2 ⟨h1.2.2.1, h1.2.2.2.1⟩, h1.2.2.2.2⟩, ?_⟩
      cases k with
      | zero => exact Or.inl rfl
      | succ k =>
        right
        have h2 := h.nx k (by omega)
        rw [Nat.add_sub_cancel]
        exact ⟨h2.1, h2.2.1, h2.2.2.1⟩
  rw [vsmy_end _ (hk _ (Nat.le_refl _))]
  · simp only [ends, Bool.or_eq_true, Bool.and_eq_true, decide_eq_true_eq]
    by_cases h0 : l.length = 0
    · exact Or.inl h0
    · exact Or.inr ⟨h.fst (by omega), h.lst (by omega)⟩
  · simp only [hd, Bool.and_eq_true, decide_eq_true_eq, beq_iff_eq, decide_eq_decide]
    exact ⟨Go.Proofs.Ytlckeefjhafloaa.ins.inB_iff.2 ⟨hc0, hc⟩, hl, hiff⟩
theorem gap_of {c : Int} {l : List Rkv} {G : Int} (h : Sm c l G) : smyGap.g l (l.length - 1) ≤ G :=
  g_le h.G0 _ (fun i hi => (h.nx i (by omega)).2.2.2)
theorem lohi {c : Int} {l : List Rkv} {G : Int} (h : Sm c l G) {k : Nat} (hk : k ≤ l.length) : 0 ≤ lo l k ∧ lo l k ≤ hi c l k ∧ hi c l k ≤ c ∧ hi c l k - lo l k ≤ G := by
  have hc := h.cnt
  have hG := h.G0
  unfold lo hi
  by_cases h0 : k = 0
  · subst h0
    by_cases h1 : 0 < l.length
    · have a := h.fst h1
      rw [if_pos rfl, if_pos h1, a]; omega
    · have a := h.emp (by omega)
      rw [if_pos rfl, if_neg h1]; omega
  · rw [if_neg h0]
    have a := h.at_ (k - 1) (by omega)
    by_cases h1 : k < l.length
    · have b := h.at_ k h1
      have d := h.nx (k - 1) (by omega)
      rw [show k - 1 + 1 = k by omega] at d
      rw [if_pos h1]; omega
    · have d := h.lst (by omega)
      rw [show l.length - 1 = k - 1 by omega] at d
      rw [if_neg h1]; omega
theorem lo_in {l : List Rkv} {k : Nat} (h : 0 < k) : lo l k = (l.getD (k - 1) z0).least := by rw [lo, if_neg (by omega)]
theorem hi_in {c : Int} {l : List Rkv} {k : Nat} (h : k < l.length) : hi c l k = (l.getD k z0).most - 1 := by rw [hi, if_pos h]
theorem hi_end {c : Int} {l : List Rkv} : hi c l l.length = c := by rw [hi, if_neg (by omega)]
def Ch (R : Rkv → Rkv → Prop) (E : Rkv → Prop) : Rkv → List Rkv → Prop
  | p, [] => E p
  | p, x :: l => R p x ∧ Ch R E x l
theorem ch_at {R : Rkv → Rkv → Prop} {E : Rkv → Prop} : ∀ {l : List Rkv} {p : Rkv}, Ch R E p l → ∀ i, i < l.length → R ((p :: l).getD i z0) (l.getD i z0)
  | [], _, _, i, h => by simp at h
  | x :: l, p, hc, 0, h => hc.1
  | x :: l, p, hc, i + 1, h => ch_at hc.2 i (by simpa using h)
theorem ch_end {R : Rkv → Rkv → Prop} {E : Rkv → Prop} : ∀ {l : List Rkv} {p : Rkv}, Ch R E p l → E ((p :: l).getD l.length z0)
  | [], _, hc => hc
  | x :: l, p, hc => ch_end (l := l) (p := x) hc.2
def Rel (c D : Int) (p x : Rkv) : Prop := p.value ≤ x.value ∧ p.least < x.least ∧ p.most < x.most ∧ x.most - p.least ≤ D ∧ -100000 ≤ x.value ∧ x.value ≤ 100000 ∧ 1 ≤ x.least ∧ x.least ≤ x.most ∧ x.most ≤ c
theorem sm_ch {c D : Int} {p : Rkv} {l : List Rkv} (hc0 : 0 ≤ c) (hD : 0 ≤ D) (h : Ch (Rel c D) (fun q => q.least = c) p l) (hp : p.most = 1) (h1 : -100000 ≤ p.value ∧ p.value ≤ 100000 ∧ 1 ≤ p.least ∧ p.least ≤ p.most ∧ p.most ≤ c) : Sm c (p :: l) D := by
  refine ⟨hc0, fun e => by simp at e, fun i hi => ?_, fun i hi => ?_, fun _ => hp, fun _ => ch_end h, hD⟩
  · cases i with
    | zero => exact h1
    | succ i => have := ch_at h i (by simpa using hi); exact this.2.2.2.2
  · have := ch_at h i (by simpa using hi); exact ⟨this.1, this.2.1, this.2.2.1, this.2.2.2.1⟩
def Prev (ca cb : Int) (a b : List Rkv) (i k : Nat) (p : Rkv) : Prop :=
  (0 < i ∧ p = moved (a.getD (i - 1) z0) cb b k) ∨ (0 < k ∧ p = moved (b.getD (k - 1) z0) ca a i)
theorem un_ch {ca cb ga gb : Int} {a b : List Rkv} (ha : Sm ca a ga) (hb : Sm cb b gb) : ∀ (f i k : Nat), a.length - i + (b.length - k) ≤ f → i ≤ a.length → k ≤ b.length →
    (0 < k → i < a.length → (b.getD (k - 1) z0).value < (a.getD i z0).value) → (0 < i → k < b.length → (a.getD (i - 1) z0).value ≤ (b.getD k z0).value) →
    ∀ p, Prev ca cb a b i k p → Ch (Rel (ca + cb) (ga + gb + 1)) (fun q => q.least = ca + cb) p (un ca cb a b f i k) := by
  have hA0 := ha.cnt
  have hB0 := hb.cnt
  have gA := ha.G0
  have gB := hb.G0
  have fin : ∀ (i k : Nat), i = a.length → k = b.length → ∀ p, Prev ca cb a b i k p → p.least = ca + cb := by
    rintro i k rfl rfl p hp
    rcases hp with ⟨h0, rfl⟩ | ⟨h0, rfl⟩
    · rw [moved_lo]
      have := ha.lst h0
      simp only [this]
      by_cases hk : b.length = 0
      · have := hb.emp hk; rw [lo, if_pos hk]; omega
      · have := hb.lst (by omega); rw [lo_in (by omega)]; omega
    · rw [moved_lo]
      have := hb.lst h0
      simp only [this]
      by_cases hk : a.length = 0
      · have := ha.emp hk; rw [lo, if_pos hk]; omega
      · have := ha.lst (by omega); rw [lo_in (by omega)]; omega
  intro f
  induction f with
  | zero =>
    intro i k hf hi hk _ _ p hp
    exact fin i k (by omega) (by omega) p hp
  | succ f ih =>
    intro i k hf hi0 hk0 h1 h2 p hp
    rw [un]
    by_cases hA : i < a.length ∨ k < b.length
    · rw [if_pos hA]
      have la := lohi ha hi0
      have lb := lohi hb hk0
      by_cases hc : k = b.length ∨ (i < a.length ∧ (a.getD i z0).value ≤ (b.getD k z0).value)
      · rw [if_pos hc]
        have hiA : i < a.length := by omega
        have ai := ha.at_ i hiA
        have hia := hi_in (c := ca) hiA
        refine ⟨?_, ih (i + 1) k (by omega) (by omega) hk0 (fun h3 h4 => ?_) (fun _ h4 => ?_) _ (Or.inl ⟨by omega, by rw [Nat.add_sub_cancel]⟩)⟩
        · rcases hp with ⟨h0, rfl⟩ | ⟨h0, rfl⟩
          · have n := ha.nx (i - 1) (by omega)
            rw [show i - 1 + 1 = i by omega] at n
            rw [moved_lo, moved_lo]
            simp only [Rel]
            omega
          · have n := h1 h0 hiA
            have bk := hb.at_ (k - 1) (by omega)
            have hlb := lo_in (l := b) h0
            rw [moved_lo, moved_lo]
            simp only [Rel]
            have hll : lo a i < (a.getD i z0).least := by
              by_cases e : i = 0
              · rw [lo, if_pos e]; omega
              · have n2 := ha.nx (i - 1) (by omega)
                rw [show i - 1 + 1 = i by omega] at n2
                rw [lo_in (by omega)]; omega
            have hhh : (b.getD (k - 1) z0).most - 1 < hi cb b k := by
              by_cases e : k < b.length
              · have n2 := hb.nx (k - 1) (by omega)
                rw [show k - 1 + 1 = k by omega] at n2
                rw [hi_in e]; omega
              · rw [hi, if_neg e]; omega
            omega
        · have n := ha.nx i h4
          have := h1 h3 hiA
          omega
        · rw [Nat.add_sub_cancel]; omega
      · rw [if_neg hc]
        have hk : k < b.length := by omega
        have bk := hb.at_ k hk
        have hib := hi_in (c := cb) hk
        refine ⟨?_, ih i (k + 1) (by omega) hi0 (by omega) (fun _ h4 => ?_) (fun h3 h4 => ?_) _ (Or.inr ⟨by omega, by rw [Nat.add_sub_cancel]⟩)⟩
        · rcases hp with ⟨h0, rfl⟩ | ⟨h0, rfl⟩
          · have n := h2 h0 hk
            have ai := ha.at_ (i - 1) (by omega)
            have hla := lo_in (l := a) h0
            rw [moved_lo, moved_lo]
            simp only [Rel]
            have hll : lo b k < (b.getD k z0).least := by
              by_cases e : k = 0
              · rw [lo, if_pos e]; omega
              · have n2 := hb.nx (k - 1) (by omega)
                rw [show k - 1 + 1 = k by omega] at n2
                rw [lo_in (by omega)]; omega
            have hhh : (a.getD (i - 1) z0).most - 1 < hi ca a i := by
              by_cases e : i < a.length
              · have n2 := ha.nx (i - 1) (by omega)
                rw [show i - 1 + 1 = i by omega] at n2
                rw [hi_in e]; omega
              · rw [hi, if_neg e]; omega
            omega
          · have n := hb.nx (k - 1) (by omega)
            rw [show k - 1 + 1 = k by omega] at n
            rw [moved_lo, moved_lo]
            simp only [Rel]
            omega
        · rw [Nat.add_sub_cancel]; omega
        · have n := hb.nx k h4
          have := h2 h3 hk
          omega
    · rw [if_neg hA]
      exact fin i k (by omega) (by omega) p hp
theorem union_sm {ca cb ga gb : Int} {a b : List Rkv} (ha : Sm ca a ga) (hb : Sm cb b gb) : Sm (ca + cb) (union ca cb a b) (ga + gb + 1) := by
  have hA0 := ha.cnt
  have hB0 := hb.cnt
  have gA := ha.G0
  have gB := hb.G0
  have la := lohi ha (Nat.zero_le _)
  have lb := lohi hb (Nat.zero_le _)
  have l0 : ∀ l : List Rkv, lo l 0 = 0 := fun l => by simp [lo]
  have hz : ∀ {c G : Int} {l : List Rkv}, Sm c l G → hi c l 0 = 0 := fun {c G l} h => by
    unfold hi
    by_cases h0 : 0 < l.length
    · rw [if_pos h0, h.fst h0]; omega
    · rw [if_neg h0]; exact h.emp (by omega)
  unfold union
  by_cases hne : a.length + b.length = 0
  · have e : a.length = 0 ∧ b.length = 0 := by omega
    rw [hne, un]
    have e1 := ha.emp e.1
    have e2 := hb.emp e.2
    exact ⟨by omega, fun _ => by omega, fun i hi => by simp at hi, fun i hi => by simp at hi, fun h => by simp at h, fun h => by simp at h, by omega⟩
  · obtain ⟨f, hf⟩ : ∃ f, a.length + b.length = f + 1 := ⟨a.length + b.length - 1, by omega⟩
    rw [hf, un, if_pos (by omega)]
    by_cases hc : 0 = b.length ∨ (0 < a.length ∧ (a.getD 0 z0).value ≤ (b.getD 0 z0).value)
    · rw [if_pos hc]
      have h0 : 0 < a.length := by omega
      have ai := ha.at_ 0 h0
      have af := ha.fst h0
      refine sm_ch (by omega) (by omega) (un_ch ha hb f 1 0 (by omega) (by omega) (by omega) (fun h => by omega) (fun _ h => by rw [Nat.sub_self]; omega) _ (Or.inl ⟨by omega, rfl⟩)) ?_ ?_
      · rw [moved_lo]; simp only [af, hz hb]; rfl
      · rw [moved_lo]; simp only [l0, hz hb]; omega
    · rw [if_neg hc]
      have h0 : 0 < b.length := by omega
      have ai := hb.at_ 0 h0
      have af := hb.fst h0
      refine sm_ch (by omega) (by omega) (un_ch ha hb f 0 1 (by omega) (by omega) (by omega) (fun _ h => by rw [Nat.sub_self]; omega) (fun h => by omega) _ (Or.inr ⟨by omega, rfl⟩)) ?_ ?_
      · rw [moved_lo]; simp only [af, hz ha]; rfl
      · rw [moved_lo]; simp only [l0, hz ha]; omega
theorem un_length {ca cb : Int} {a b : List Rkv} : ∀ (f i k : Nat), a.length - i + (b.length - k) ≤ f → i ≤ a.length → k ≤ b.length → (un ca cb a b f i k).length = a.length - i + (b.length - k)
  | 0, i, k, h, _, _ => by simp only [un, List.length_nil]; omega
  | f + 1, i, k, h, hi, hk => by
    rw [un]
    split
    · split
      · next hc => rw [List.length_cons, un_length f (i + 1) k (by omega) (by omega) hk]; omega
      · next hc => rw [List.length_cons, un_length f i (k + 1) (by omega) hi (by omega)]; omega
    · simp only [List.length_nil]; omega
theorem union_length (ca cb : Int) (a b : List Rkv) : (union ca cb a b).length = a.length + b.length := by
  have := un_length (ca := ca) (cb := cb) (a := a) (b := b) (a.length + b.length) 0 0 (by omega) (by omega) (by omega)
  simpa [union] using this
theorem union_fit {za zb : List Int} {ca cb ga gb : Int} {a b : List Rkv} (ha : Sm ca a ga) (hb : Sm cb b gb) (hca : (za.length : Int) = ca) (hcb : (zb.length : Int) = cb) (fa : Fit za a 0) (fb : Fit zb b 0) : Fit (za ++ zb) (union ca cb a b) 0 := by
  obtain ⟨pa, a0, a1, a2⟩ := fit_fn fa
  obtain ⟨pb, b0, b1, b2⟩ := fit_fn fb
  have A2 : ∀ i, i < a.length → (a.getD i z0).least ≤ pa i ∧ pa i ≤ (a.getD i z0).most ∧ lt za (a.getD i z0).value < pa i ∧ pa i ≤ le za (a.getD i z0).value := fun i h => by rw [getD_r a h]; exact a2 i h
  have B2 : ∀ i, i < b.length → (b.getD i z0).least ≤ pb i ∧ pb i ≤ (b.getD i z0).most ∧ lt zb (b.getD i z0).value < pb i ∧ pb i ≤ le zb (b.getD i z0).value := fun i h => by rw [getD_r b h]; exact b2 i h
  have main : ∀ (f i k : Nat), a.length - i + (b.length - k) ≤ f → i ≤ a.length → k ≤ b.length →
    (0 < k → i < a.length → (b.getD (k - 1) z0).value < (a.getD i z0).value) → (0 < i → k < b.length → (a.getD (i - 1) z0).value ≤ (b.getD k z0).value) →
    ∀ last, (i < a.length → last < pa i + lt zb (a.getD i z0).value) → (k < b.length → last < pb k + le za (b.getD k z0).value) → Fit (za ++ zb) (un ca cb a b f i k) last := by
    intro f
    induction f with
    | zero => intro i k _ _ _ _ _ last _ _; exact trivial
    | succ f ih =>
      intro i k hf hi0 hk0 h1 h2 last l1 l2
      rw [un]
      by_cases hA : i < a.length ∨ k < b.length
      · rw [if_pos hA]
        by_cases hc : k = b.length ∨ (i < a.length ∧ (a.getD i z0).value ≤ (b.getD k z0).value)
        · rw [if_pos hc]
          have hiA : i < a.length := by omega
          have ai := A2 i hiA
          have p1 := lt_pos zb (a.getD i z0).value
          have p2 := lt_le zb (a.getD i z0).value
          have p3 := le_len zb (a.getD i z0).value
          have hlo : lo b k ≤ lt zb (a.getD i z0).value := by
            by_cases e : k = 0
            · rw [lo, if_pos e]; omega
            · have x1 := B2 (k - 1) (by omega)
              have x2 := le_lt zb (h1 (by omega) hiA)
              rw [lo_in (by omega)]; omega
          have hhi : lt zb (a.getD i z0).value ≤ hi cb b k := by
            by_cases e : k < b.length
            · have x1 := B2 k e
              have x2 := lt_mono zb (show (a.getD i z0).value ≤ (b.getD k z0).value by omega)
              rw [hi_in e]; omega
            · rw [hi, if_neg e]; omega
          refine ⟨pa i + lt zb (a.getD i z0).value, l1 hiA, ?_, ?_, ?_, ?_, ?_⟩
          · rw [moved_lo]; simp only; omega
          · rw [moved_lo]; simp only; omega
          · rw [moved_lo]; simp only; rw [lt_app]; omega
          · rw [moved_lo]; simp only; rw [le_app]; omega
          · refine ih (i + 1) k (by omega) (by omega) hk0 (fun h3 h4 => ?_) (fun _ h4 => ?_) _ (fun h4 => ?_) (fun h4 => ?_)
            · have n := (ha.nx i h4).1
              have := h1 h3 hiA
              omega
            · rw [Nat.add_sub_cancel]; omega
            · have n := (ha.nx i h4).1
              have := a1 i h4
              have := lt_mono zb n
              omega
            · have x1 := B2 k h4
              have x2 := lt_mono zb (show (a.getD i z0).value ≤ (b.getD k z0).value by omega)
              have x3 := le_mono za (show (a.getD i z0).value ≤ (b.getD k z0).value by omega)
              omega
        · rw [if_neg hc]
          have hk : k < b.length := by omega
          have bk := B2 k hk
          have p1 := lt_le za (b.getD k z0).value
          have p2 := lt_pos za (b.getD k z0).value
          have p3 := le_len za (b.getD k z0).value
          have hlo : lo a i ≤ le za (b.getD k z0).value := by
            by_cases e : i = 0
            · rw [lo, if_pos e]; omega
            · have x1 := A2 (i - 1) (by omega)
              have x2 := le_mono za (h2 (by omega) hk)
              rw [lo_in (by omega)]; omega
          have hhi : le za (b.getD k z0).value ≤ hi ca a i := by
            by_cases e : i < a.length
            · have x1 := A2 i e
              have x2 := le_lt za (show (b.getD k z0).value < (a.getD i z0).value by omega)
              rw [hi_in e]; omega
            · rw [hi, if_neg e]; omega
          refine ⟨pb k + le za (b.getD k z0).value, l2 hk, ?_, ?_, ?_, ?_, ?_⟩
          · rw [moved_lo]; simp only; omega
          · rw [moved_lo]; simp only; omega
          · rw [moved_lo]; simp only; rw [lt_app]; omega
          · rw [moved_lo]; simp only; rw [le_app]; omega
          · refine ih i (k + 1) (by omega) hi0 (by omega) (fun _ h4 => ?_) (fun h3 h4 => ?_) _ (fun h4 => ?_) (fun h4 => ?_)
            · rw [Nat.add_sub_cancel]; omega
            · have n := (hb.nx k h4).1
              have := h2 h3 hk
              omega
            · have x1 := A2 i h4
              have x2 := le_lt za (show (b.getD k z0).value < (a.getD i z0).value by omega)
              have x3 := le_lt zb (show (b.getD k z0).value < (a.getD i z0).value by omega)
              omega
            · have n := (hb.nx k h4).1
              have := b1 k h4
              have := le_mono za n
              omega
      · rw [if_neg hA]; exact trivial
  refine main _ 0 0 (by omega) (by omega) (by omega) (fun h => by omega) (fun h => by omega) 0 (fun h => ?_) (fun h => ?_)
  · have := a0 h; have := lt_pos zb (a.getD 0 z0).value; omega
  · have := b0 h; have := le_mono za (Int.le_refl (b.getD 0 z0).value); have := lt_pos za (b.getD 0 z0).value; have := lt_le za (b.getD 0 z0).value; omega
/-! ### exact summaries -/
theorem exk_getD (s : List Int) (n : Nat) {i : Nat} (h : i < n) : (exk s n).getD i z0 = ⟨s.getD i 0, (i : Int) + 1, (i : Int) + 1⟩ := by
  rw [getD_r _ (by rw [exk_len]; exact h)]; simp [exk]
theorem vsmy_exact {zs : List Int} (hv : lists.vlist zs = true) : vsmy (zs.length : Int) (exk (srt zs) zs.length) = true := by
  have hl := lists.vlist_len hv
  have hk := lists.vlist_key hv
  have hs : ∀ i, i < zs.length → -100000 ≤ (srt zs).getD i 0 ∧ (srt zs).getD i 0 ≤ 100000 := fun i hi => by
    rw [getD_z _ (by rw [srt_len]; exact hi)]
    exact hk _ (srt_mem.1 (List.getElem_mem _))
  have ha := List.pairwise_iff_getElem.1 (srt_asc zs)
  refine vsmy_of (G := 1) ⟨by omega, fun h => by rw [exk_len] at h; omega, fun i hi => ?_, fun i hi => ?_, fun h => ?_, fun h => ?_, by omega⟩ (by rw [exk_len]; exact hl) (by omega)
  · rw [exk_len] at hi
    rw [exk_getD _ _ hi]
    have := hs i hi
    simp only; omega
  · rw [exk_len] at hi
    rw [exk_getD _ _ hi, exk_getD _ _ (by omega)]
    have := ha i (i + 1) (by rw [srt_len]; omega) (by rw [srt_len]; omega) (by omega)
    rw [← getD_z _ (by rw [srt_len]; omega), ← getD_z _ (by rw [srt_len]; omega)] at this
    simp only; omega
  · rw [exk_len] at h
    rw [exk_getD _ _ h]; rfl
  · rw [exk_len] at h ⊢
    rw [exk_getD _ _ (by omega)]; simp only; omega
theorem fitsv_of {cnt : Int} {l : List Rkv} {zs : List Int} (hv : vsmy cnt l = true) (hc : (zs.length : Int) = cnt) : (fitsv cnt (srt zs) l = true ↔ Fit zs l 0) := by
  have hm : ∀ e ∈ l, 1 ≤ e.least ∧ e.most ≤ (zs.length : Int) := fun e he => by
    obtain ⟨i, hi, rfl⟩ := List.getElem_of_mem he
    have := vsmy_at hv hi
    omega
  rw [fitsv, srt_len, Bool.and_eq_true, decide_eq_true_eq, fgo_iff hm]
  exact ⟨fun h => h.2, fun h => ⟨hc, h⟩⟩
theorem fits_exact {zs : List Int} (hv : lists.vlist zs = true) : fitsv (zs.length : Int) (srt zs) (exk (srt zs) zs.length) = true :=
  (fitsv_of (vsmy_exact hv) rfl).2 (fit_exact zs)
theorem vlist_app {a b : List Int} (ha : lists.vlist a = true) (hb : lists.vlist b = true) (h : a.length + b.length ≤ 64) : lists.vlist (a ++ b) = true := by
  simp only [lists.vlist, Bool.and_eq_true, decide_eq_true_eq, List.all_append, List.length_append] at *
  exact ⟨h, ha.2, hb.2⟩
/-- merged summaries: validity, gap -/
theorem vsmy_union {ca cb : Int} {a b : List Rkv} (ha : vsmy ca a = true) (hb : vsmy cb b = true) (h : a.length + b.length ≤ 64) (hc : ca + cb ≤ 1000) : vsmy (ca + cb) (union ca cb a b) = true :=
  vsmy_of (union_sm (sm_of ha) (sm_of hb)) (by rw [union_length]; exact h) hc
theorem gap_union {ca cb : Int} {a b : List Rkv} (ha : vsmy ca a = true) (hb : vsmy cb b = true) : smyGap.g (union ca cb a b) ((union ca cb a b).length - 1) ≤ smyGap.g a (a.length - 1) + smyGap.g b (b.length - 1) + 1 :=
  gap_of (union_sm (sm_of ha) (sm_of hb))
theorem fits_union {ca cb : Int} {a b : List Rkv} {za zb : List Int} (ha : vsmy ca a = true) (hb : vsmy cb b = true) (hv : vsmy (ca + cb) (union ca cb a b) = true) (h1 : fitsv ca (srt za) a = true) (h2 : fitsv cb (srt zb) b = true) : fitsv (ca + cb) (srt (za ++ zb)) (union ca cb a b) = true := by
  have e1 : (za.length : Int) = ca := by rw [fitsv, Bool.and_eq_true, decide_eq_true_eq, srt_len] at h1; exact h1.1
  have e2 : (zb.length : Int) = cb := by rw [fitsv, Bool.and_eq_true, decide_eq_true_eq, srt_len] at h2; exact h2.1
  exact (fitsv_of hv (by rw [List.length_append]; omega)).2 (union_fit (sm_of ha) (sm_of hb) e1 e2 ((fitsv_of ha e1).1 h1) ((fitsv_of hb e2).1 h2))
theorem long_union {ca cb : Int} {a b : List Rkv} (h : ¬ a.length + b.length ≤ 64) : vsmy (ca + cb) (union ca cb a b) = false := by
  cases hv : vsmy (ca + cb) (union ca cb a b) with
  | false => rfl
  | true => have := vsmy_cnt hv; rw [union_length] at this; omega
end Go.Proofs.Ytlckeefjhafloaa.fitLaw
