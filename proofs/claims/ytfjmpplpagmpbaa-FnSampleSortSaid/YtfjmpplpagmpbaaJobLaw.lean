/- Jobs by falling times, each to the worker with the least load: the plain law. No condition. -/
import Derived.Test.YtfjmpplpagmpbaaStbLaw
set_option linter.unusedVariables false
set_option linter.unusedSimpArgs false
namespace Go.Proofs.Ytfjmpplpagmpbaa.jobLaw
open Go.RowKit Go.Proofs.Ytfjmpplpagmpbaa.mem Go.Proofs.Ytfjmpplpagmpbaa.stb

def tm (ts : List Int) (i : Nat) : Int := ts.getD i 0
def ltJ (ts : List Int) (i k : Nat) : Bool := decide (tm ts k < tm ts i)
theorem weakJ (ts : List Int) : Weak (ltJ ts) := weak_down (tm ts)
/-- the jobs in their order -/
def ord (ts : List Int) : List Nat := stab (ltJ ts) (List.range ts.length)
theorem ord_len (ts : List Int) : (ord ts).length = ts.length := by rw [ord, stab_len, List.length_range]
theorem ord_mem (ts : List Int) {i : Nat} : i ∈ ord ts ↔ i < ts.length := by rw [ord, (stab_perm _).mem_iff, List.mem_range]
theorem ord_nodup (ts : List Int) : (ord ts).Nodup := (stab_perm _).nodup_iff.2 List.nodup_range
theorem ord_sorted (ts : List Int) : (ord ts).Pairwise fun i k => tm ts k < tm ts i ∨ (tm ts k ≤ tm ts i ∧ i < k) := by
  refine (stab_stable (weakJ ts) _ List.pairwise_lt_range).imp fun h => ?_
  rcases h with h | ⟨h, h2⟩
  · left; simpa [ltJ] using h
  · right; simp [ltJ] at h; exact ⟨h, h2⟩
/-- j is the first of the longest jobs below k that are not among the given ones -/
def Best (ts : List Int) (g : List Nat) (k j : Nat) : Prop := j < k ∧ j ∉ g ∧ ∀ i, i < k → i ∉ g → tm ts i ≤ tm ts j ∧ (i < j → tm ts i < tm ts j)
theorem best_ord (ts : List Int) {t : Nat} (h : t < (ord ts).length) : Best ts ((ord ts).take t) ts.length (ord ts)[t] := by
  have hs := ord_sorted ts
  have hnd := ord_nodup ts
  refine ⟨(ord_mem ts).1 (List.getElem_mem h), fun hm => ?_, fun i hi hg => ?_⟩
  · obtain ⟨q, hq, he⟩ := List.mem_take_iff_getElem.1 hm
    have := (List.getElem_inj hnd).1 he
    omega
  · have hm := (ord_mem ts).2 hi
    obtain ⟨q, hq, rfl⟩ := List.getElem_of_mem hm
    have hqt : t ≤ q := by
      rcases Nat.lt_or_ge q t with h1 | h1
      · exact absurd (List.mem_take_iff_getElem.2 ⟨q, by omega, rfl⟩) hg
      · exact h1
    by_cases e : t = q
    · subst e; exact ⟨Int.le_refl _, fun h => absurd h (by omega)⟩
    · have := List.pairwise_iff_getElem.1 hs t q h hq (by omega)
      rcases this with h1 | ⟨h1, h2⟩
      · exact ⟨by omega, fun _ => h1⟩
      · exact ⟨h1, fun h3 => absurd h3 (by omega)⟩
theorem best_uniq {ts : List Int} {g : List Nat} {k a b : Nat} (ha : Best ts g k a) (hb : Best ts g k b) : a = b := by
  have h1 := ha.2.2 b hb.1 hb.2.1
  have h2 := hb.2.2 a ha.1 ha.2.1
  rcases Nat.lt_trichotomy a b with h | h | h
  · have := h2.2 h; omega
  · exact h
  · have := h1.2 h; omega
/-- what the scan of the first k jobs has found -/
def Scan (ts : List Int) (g : List Nat) (k : Nat) (j : Int) : Prop := (j = -1 ∧ ∀ i, i < k → i ∈ g) ∨ ∃ m : Nat, j = (m : Int) ∧ Best ts g k m
theorem scan_zero (ts : List Int) (g : List Nat) : Scan ts g 0 (-1) := Or.inl ⟨rfl, fun i h => absurd h (by omega)⟩
theorem scan_given {ts : List Int} {g : List Nat} {k : Nat} {j : Int} (h : Scan ts g k j) (hg : k ∈ g) : Scan ts g (k + 1) j := by
  rcases h with ⟨rfl, h⟩ | ⟨m, rfl, h1, h2, h3⟩
  · refine Or.inl ⟨rfl, fun i hi => ?_⟩
    by_cases e : i = k
    · subst e; exact hg
    · exact h i (by omega)
  · refine Or.inr ⟨m, rfl, by omega, h2, fun i hi hn => ?_⟩
    by_cases e : i = k
    · subst e; exact absurd hg hn
    · exact h3 i (by omega) hn
theorem scan_first {ts : List Int} {g : List Nat} {k : Nat} (h : Scan ts g k (-1)) (hg : k ∉ g) : Scan ts g (k + 1) (k : Int) := by
  rcases h with ⟨_, h⟩ | ⟨m, h0, _⟩
  · refine Or.inr ⟨k, rfl, by omega, hg, fun i hi hn => ?_⟩
    by_cases e : i = k
    · subst e; exact ⟨Int.le_refl _, fun h => absurd h (by omega)⟩
    · exact absurd (h i (by omega)) hn
  · omega
theorem scan_more {ts : List Int} {g : List Nat} {k m : Nat} (h : Scan ts g k (m : Int)) (hg : k ∉ g) (hlt : tm ts m < tm ts k) : Scan ts g (k + 1) (k : Int) := by
  rcases h with ⟨h0, _⟩ | ⟨m', h0, h1, h2, h3⟩
  · omega
  · obtain rfl : m = m' := by omega
    refine Or.inr ⟨k, rfl, by omega, hg, fun i hi hn => ?_⟩
    by_cases e : i = k
    · subst e; exact ⟨Int.le_refl _, fun h => absurd h (by omega)⟩
    · have := h3 i (by omega) hn
      exact ⟨by omega, fun _ => by omega⟩
theorem scan_less {ts : List Int} {g : List Nat} {k m : Nat} (h : Scan ts g k (m : Int)) (hle : tm ts k ≤ tm ts m) : Scan ts g (k + 1) (m : Int) := by
  rcases h with ⟨h0, _⟩ | ⟨m', h0, h1, h2, h3⟩
  · omega
  · obtain rfl : m = m' := by omega
    refine Or.inr ⟨m, rfl, by omega, h2, fun i hi hn => ?_⟩
    by_cases e : i = k
    · subst e; exact ⟨hle, fun h => absurd h (by omega)⟩
    · exact h3 i (by omega) hn
theorem scan_end {ts : List Int} {t : Nat} {j : Int} (ht : t < ts.length) (h : Scan ts ((ord ts).take t) ts.length j) : ∃ (hm : t < (ord ts).length), j = (((ord ts)[t] : Nat) : Int) := by
  have hm : t < (ord ts).length := by rw [ord_len]; exact ht
  refine ⟨hm, ?_⟩
  have hb := best_ord ts hm
  rcases h with ⟨_, h⟩ | ⟨m, rfl, h⟩
  · exact absurd (h _ hb.1) hb.2.1
  · rw [best_uniq h hb]
/-- the worker with the least load, the first of these -/
def am (loads : List Int) : Nat → Nat
  | 0 => 0
  | k + 1 => if loads.getD k 0 < loads.getD (am loads k) 0 then k else am loads k
theorem am_lt (loads : List Int) (h : 0 < loads.length) : ∀ k, k ≤ loads.length → am loads k < loads.length
  | 0, _ => h
  | k + 1, hk => by
    have := am_lt loads h k (by omega)
    unfold am; split <;> omega
def mx (l : List Int) : Int := l.foldl max 0
theorem foldl_max (l : List Int) : ∀ a, l.foldl max a = max a (l.foldl max 0) ∨ (a < 0 ∧ True) := by
  induction l with
  | nil => intro a; simp; omega
  | cons x l ih =>
    intro a
    by_cases ha : a < 0
    · exact Or.inr ⟨ha, trivial⟩
    · left
      rw [List.foldl_cons, List.foldl_cons]
      rcases ih (max a x) with h1 | ⟨h1, _⟩
      · rcases ih (max 0 x) with h2 | ⟨h2, _⟩
        · rw [h1, h2]; omega
        · omega
      · omega
theorem mx_cons (x : Int) (l : List Int) : mx (x :: l) = max x (mx l) ∨ x < 0 := by
  by_cases hx : x < 0
  · exact Or.inr hx
  · left
    have h := foldl_max l (max 0 x)
    rw [mx, List.foldl_cons]
    rcases h with h | ⟨h, _⟩
    · rw [h]
      show max (max 0 x) (mx l) = _
      have : 0 ≤ mx l := by
        rcases foldl_max l 0 with h2 | ⟨h2, _⟩
        · unfold mx; omega
        · omega
      omega
    · omega
theorem mx_nonneg (l : List Int) : 0 ≤ mx l := by
  rcases foldl_max l 0 with h2 | ⟨h2, _⟩
  · unfold mx; omega
  · omega
/-- a load that grows -/
theorem mx_set : ∀ (l : List Int) (k : Nat) (z : Int), (∀ x ∈ l, 0 ≤ x) → k < l.length → l.getD k 0 ≤ z → mx (l.set k z) = max (mx l) z
  | [], k, z, _, h, _ => by simp at h
  | x :: l, 0, z, hp, _, hz => by
    have hx := hp x (by simp)
    simp only [List.set_cons_zero, List.getD_cons_zero] at *
    rcases mx_cons z l with h1 | h1 <;> rcases mx_cons x l with h2 | h2
    · rw [h1, h2]; omega
    · omega
    · omega
    · omega
  | x :: l, k + 1, z, hp, h, hz => by
    have hx := hp x (by simp)
    have ih := mx_set l k z (fun y hy => hp y (by simp [hy])) (by simpa using h) (by simpa using hz)
    simp only [List.set_cons_succ] at *
    rcases mx_cons x (l.set k z) with h1 | h1 <;> rcases mx_cons x l with h2 | h2
    · rw [h1, h2, ih]; omega
    · omega
    · omega
    · omega
theorem mx_zero (n : Nat) : mx (List.replicate n 0) = 0 := by
  induction n with
  | zero => rfl
  | succ n ih =>
    rw [List.replicate_succ]
    rcases mx_cons 0 (List.replicate n 0) with h | h
    · rw [h, ih]; rfl
    · omega
/-- one job given: the workers named so far, the loads -/
def jst (ts : List Int) (s : List Int × List Int) (i : Nat) : List Int × List Int :=
  (s.1.set i ((am s.2 s.2.length : Nat) : Int), s.2.set (am s.2 s.2.length) (s.2.getD (am s.2 s.2.length) 0 + tm ts i))
def stt (ts : List Int) (w t : Nat) : List Int × List Int := ((ord ts).take t).foldl (jst ts) (List.replicate ts.length 0, List.replicate w 0)
theorem stt_step (ts : List Int) (w : Nat) {t : Nat} (h : t < (ord ts).length) : stt ts w (t + 1) = jst ts (stt ts w t) (ord ts)[t] := by
  rw [stt, List.take_succ_eq_append_getElem h, List.foldl_append]; rfl
theorem stt_len (ts : List Int) (w : Nat) : ∀ t, t ≤ ts.length → (stt ts w t).1.length = ts.length ∧ (stt ts w t).2.length = w
  | 0, _ => by simp [stt]
  | t + 1, h => by
    have ih := stt_len ts w t (by omega)
    rw [stt_step ts w (by rw [ord_len]; omega)]
    simp only [jst, List.length_set]
    exact ih
theorem stt_pos {ts : List Int} (hp : ∀ z ∈ ts, 1 ≤ z ∧ z ≤ 100000) (w : Nat) : ∀ t, t ≤ ts.length → ∀ z ∈ (stt ts w t).2, 0 ≤ z ∧ z ≤ 100000 * (t : Int)
  | 0, _ => by
    intro z hz
    simp only [stt, List.take_zero, List.foldl_nil] at hz
    have := (List.mem_replicate.1 hz).2
    omega
  | t + 1, h => by
    intro z hz
    have ih := stt_pos hp w t (by omega)
    have hlt : t < (ord ts).length := by rw [ord_len]; omega
    rw [stt_step ts w hlt] at hz
    have hi := (ord_mem ts).1 (List.getElem_mem hlt)
    have ht : 1 ≤ tm ts (ord ts)[t] ∧ tm ts (ord ts)[t] ≤ 100000 := by
      rw [tm, List.getD_eq_getElem?_getD, List.getElem?_eq_getElem hi]
      exact hp _ (List.getElem_mem hi)
    have hd : 0 ≤ (stt ts w t).2.getD (am (stt ts w t).2 (stt ts w t).2.length) 0 ∧ (stt ts w t).2.getD (am (stt ts w t).2 (stt ts w t).2.length) 0 ≤ 100000 * (t : Int) := by
      rw [List.getD_eq_getElem?_getD]
      cases hc : (stt ts w t).2[am (stt ts w t).2 (stt ts w t).2.length]? with
      | none => simp; omega
      | some y => exact ih y (List.mem_of_getElem? hc)
    simp only [jst] at hz
    rcases List.mem_or_eq_of_mem_set hz with h1 | rfl
    · have := ih z h1; omega
    · omega
theorem span_step {ts : List Int} (hp : ∀ z ∈ ts, 1 ≤ z ∧ z ≤ 100000) {w t : Nat} (hw : 0 < w) (h : t < ts.length) (hm : t < (ord ts).length) :
    mx (stt ts w (t + 1)).2 = max (mx (stt ts w t).2) ((stt ts w t).2.getD (am (stt ts w t).2 (stt ts w t).2.length) 0 + tm ts (ord ts)[t]) := by
  have hl := stt_len ts w t (by omega)
  have hq := stt_pos hp w t (by omega)
  have hi := (ord_mem ts).1 (List.getElem_mem hm)
  have ht : 1 ≤ tm ts (ord ts)[t] := by
    rw [tm, List.getD_eq_getElem?_getD, List.getElem?_eq_getElem hi]
    exact (hp _ (List.getElem_mem hi)).1
  rw [stt_step ts w hm]
  exact mx_set _ _ _ (fun x hx => (hq x hx).1) (am_lt _ (by omega) _ (Nat.le_refl _)) (by omega)
end Go.Proofs.Ytfjmpplpagmpbaa.jobLaw
