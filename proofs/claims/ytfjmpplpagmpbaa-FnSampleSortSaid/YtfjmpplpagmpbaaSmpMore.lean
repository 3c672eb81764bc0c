/- Sample sort: the splitters, and the buckets between them. No condition. -/
import Derived.Test.YtfjmpplpagmpbaaSampLaw
import Derived.Test.YtfjmpplpagmpbaaBuckets
import Derived.Test.YtfjmpplpagmpbaaJobMore
set_option linter.unusedVariables false
set_option linter.unusedSimpArgs false
namespace Go.Proofs.Ytfjmpplpagmpbaa.smpMore
open Go.RowKit Go.Proofs.Ytfjmpplpagmpbaa.mem Go.Proofs.Ytfjmpplpagmpbaa.srt Go.Proofs.Ytfjmpplpagmpbaa.samp Go.Proofs.Ytfjmpplpagmpbaa.bucketing Go.Proofs.Ytfjmpplpagmpbaa.lists
open Go.Proofs.Ytfjmpplpagmpbaa.jobLaw (sum_set set_getD)

theorem getD_in (l : List Int) {i : Nat} (h : i < l.length) : l.getD i 0 = l[i] := by
  rw [List.getD_eq_getElem?_getD, List.getElem?_eq_getElem h]; rfl
theorem sorted_le {b : List Int} (h : b.Pairwise (· ≤ ·)) {i j : Nat} (hij : i ≤ j) (hj : j < b.length) : b.getD i 0 ≤ b.getD j 0 := by
  rw [getD_in b (by omega), getD_in b hj]
  by_cases e : i = j
  · subst e; exact Int.le_refl _
  · exact List.pairwise_iff_getElem.1 h i j (by omega) hj (by omega)
theorem pks_mem {b : List Int} {p : Nat} {x : Int} (h : x ∈ pks b p) : x ∈ b := by
  unfold pks at h
  split at h
  · simp at h
  · rename_i h0
    obtain ⟨i, hi, rfl⟩ := List.mem_map.1 h
    rw [List.mem_range] at hi
    have := at_lt (n := b.length) (j := i + 1) (p := p) (by omega) (by omega)
    rw [getD_in b this]
    exact List.getElem_mem _
theorem pks_sorted {b : List Int} {p : Nat} (hb : b.Pairwise (· ≤ ·)) : (pks b p).Pairwise (· ≤ ·) := by
  unfold pks
  split
  · exact List.Pairwise.nil
  · rename_i h0
    refine List.pairwise_iff_getElem.2 fun i j hi hj hij => ?_
    rw [pk_len] at hi hj
    simp only [pk, List.getElem_map, List.getElem_range]
    exact sorted_le hb (Nat.div_le_div_right (Nat.mul_le_mul_right _ (by omega))) (at_lt (by omega) (by omega))
theorem smp_mem (zs : List Int) (p : Nat) : ∀ k {x : Int}, x ∈ smp zs p k → x ∈ zs
  | 0, x, h => by simp [smp] at h
  | k + 1, x, h => by
    rw [smp] at h
    rcases List.mem_append.1 h with h | h
    · exact smp_mem zs p k h
    · exact List.mem_of_mem_drop (List.mem_of_mem_take (srt_mem.1 (pks_mem h)))
theorem sample_mem {zs : List Int} {p : Nat} {x : Int} (h : x ∈ sample zs p) : x ∈ zs := smp_mem zs p p (srt_mem.1 (pks_mem h))
theorem sample_sorted (zs : List Int) (p : Nat) : (sample zs p).Pairwise (· ≤ ·) := pks_sorted (srt_asc _)
/-! ### counts -/
theorem cnt_count (zs sp : List Int) (i : Nat) (hi : i < sp.length + 1) : ∀ j, j ≤ zs.length → (cnt zs sp j).getD i 0 = (((zs.take j).map fun x => bk x sp).count i : Int)
  | 0, _ => by
    simp only [cnt, List.take_zero, List.map_nil, List.count_nil]
    rw [List.getD_eq_getElem?_getD, List.getElem?_replicate, if_pos hi]; rfl
  | j + 1, h => by
    have ih := cnt_count zs sp i hi j (by omega)
    have hl := cnt_len zs sp j
    have hj : j < zs.length := by omega
    have hb := bk_le (zs.getD j 0) sp
    simp only [cnt]
    rw [set_getD _ (by omega), List.take_succ_eq_append_getElem hj, List.map_append, List.count_append, ← getD_in zs hj]
    simp only [List.map_cons, List.map_nil]
    generalize bk (zs.getD j 0) sp = b at hb ⊢
    by_cases e : b = i
    · subst e; rw [if_pos rfl, ih]; simp
    · rw [if_neg e, ih]
      simp [List.count_cons, e]
theorem buckets_at (zs sp : List Int) {i : Nat} (hi : i < sp.length + 1) : (buckets zs sp).getD i 0 = ((zs.map fun x => bk x sp).count i : Int) := by
  rw [buckets, cnt_count zs sp i hi zs.length (Nat.le_refl _), List.take_length]
theorem buckets_perm {zs ys sp : List Int} (h : zs.Perm ys) : buckets zs sp = buckets ys sp := by
  apply List.ext_getElem
  · rw [buckets_len, buckets_len]
  · intro i h1 h2
    have hi : i < sp.length + 1 := by rw [buckets_len] at h1; exact h1
    have e1 := buckets_at zs sp hi
    have e2 := buckets_at ys sp hi
    rw [getD_in _ h1] at e1
    rw [getD_in _ h2] at e2
    rw [e1, e2, (h.map _).count_eq]
theorem cnt_sum (zs sp : List Int) : ∀ j, j ≤ zs.length → (cnt zs sp j).sum = (j : Int)
  | 0, _ => by
    simp only [cnt]
    have : ∀ n, (List.replicate n (0 : Int)).sum = 0 := by
      intro n; induction n with
      | zero => rfl
      | succ n ih => rw [List.replicate_succ, List.sum_cons, ih]; rfl
    rw [this]; rfl
  | j + 1, h => by
    have ih := cnt_sum zs sp j (by omega)
    have hl := cnt_len zs sp j
    have hb := bk_le (zs.getD j 0) sp
    simp only [cnt]
    rw [sum_set _ _ _ (by omega), ih]; omega
theorem buckets_sum (zs sp : List Int) : (buckets zs sp).sum = (zs.length : Int) := cnt_sum zs sp zs.length (Nat.le_refl _)
theorem buckets_pos (zs sp : List Int) : ∀ z ∈ buckets zs sp, 0 ≤ z ∧ z ≤ (zs.length : Int) := by
  intro z hz
  obtain ⟨i, hi, rfl⟩ := List.getElem_of_mem hz
  have := cnt_bd zs sp zs.length i
  rw [← getD_in _ hi]; exact this
/-! ### places -/
def cn (ks : List Nat) (k : Nat) : Nat := (ks.filter fun a => decide (a < k)).length
theorem cn_at : ∀ (ks : List Nat) (k : Nat), ks.Pairwise (· ≤ ·) → ∀ i (h : i < ks.length), (i < cn ks k ↔ ks[i] < k)
  | [], k, _, i, h => by simp at h
  | a :: r, k, hs, i, h => by
    have hr := (List.pairwise_cons.1 hs)
    have ih := cn_at r k hr.2
    by_cases ha : a < k
    · have e : cn (a :: r) k = cn r k + 1 := by simp [cn, ha]
      rw [e]
      cases i with
      | zero => simp [ha]
      | succ i =>
        have := ih i (by simpa using h)
        simp only [List.getElem_cons_succ]; omega
    · have hz : cn r k = 0 := by
        rw [cn, List.length_eq_zero_iff, List.filter_eq_nil_iff]
        intro b hb
        have := hr.1 b hb
        simp; omega
      have e : cn (a :: r) k = 0 := by rw [← hz]; simp [cn, ha]
      rw [e]
      cases i with
      | zero => simp; omega
      | succ i =>
        have := hr.1 (r[i]'(by simpa using h)) (List.getElem_mem _)
        simp only [List.getElem_cons_succ]; omega
theorem cn_succ (ks : List Nat) (k : Nat) : cn ks (k + 1) = cn ks k + ks.count k := by
  induction ks with
  | nil => rfl
  | cons a r ih =>
    simp only [cn, List.filter_cons, List.count_cons] at *
    by_cases h1 : a < k
    · have h2 : a < k + 1 := by omega
      have h3 : ¬ a = k := by omega
      simp [h1, h2, h3, ih]; omega
    · by_cases h2 : a = k
      · subst h2; simp [ih]; omega
      · have h3 : ¬ a < k + 1 := by omega
        simp [h1, h2, h3, ih]
theorem cn_zero (ks : List Nat) : cn ks 0 = 0 := by simp [cn]
theorem bk_mono {x y : Int} (h : x ≤ y) : ∀ sp : List Int, bk x sp ≤ bk y sp
  | [] => Nat.le_refl _
  | t :: r => by
    have := bk_mono h r
    unfold bk
    by_cases h1 : t < x
    · rw [if_pos h1, if_pos (by omega)]; omega
    · rw [if_neg h1]; omega
theorem bk_sep (x : Int) : ∀ (sp : List Int) (k : Nat), bk x sp = k → (0 < k → sp.getD (k - 1) 0 < x) ∧ (k < sp.length → x ≤ sp.getD k 0)
  | [], k, h => by
    simp only [bk] at h
    subst h
    exact ⟨fun h => absurd h (by omega), fun h => by simp at h⟩
  | t :: r, k, h => by
    unfold bk at h
    by_cases h1 : t < x
    · rw [if_pos h1] at h
      obtain ⟨j, rfl⟩ : ∃ j, k = j + 1 := ⟨k - 1, by omega⟩
      have ih := bk_sep x r j (by omega)
      refine ⟨fun _ => ?_, fun hk => ?_⟩
      · cases j with
        | zero => simpa using h1
        | succ j => have := ih.1 (by omega); simpa using this
      · have := ih.2 (by simpa using hk); simpa using this
    · rw [if_neg h1] at h
      subst h
      exact ⟨fun h => absurd h (by omega), fun _ => by simp; omega⟩
/-- where the k-th bucket begins -/
def at_ (zs sp : List Int) (k : Nat) : Nat := cn ((srt zs).map fun x => bk x sp) k
theorem at_succ (zs sp : List Int) {k : Nat} (hk : k < sp.length + 1) : ((at_ zs sp (k + 1) : Nat) : Int) = (at_ zs sp k : Nat) + (buckets zs sp).getD k 0 := by
  rw [at_, cn_succ, ← buckets_perm (srt_perm zs), buckets_at _ _ hk, at_]; omega
theorem ks_sorted (zs sp : List Int) : ((srt zs).map fun x => bk x sp).Pairwise (· ≤ ·) :=
  List.pairwise_map.2 ((srt_asc zs).imp fun h => bk_mono h sp)
theorem at_le (zs sp : List Int) (k : Nat) : at_ zs sp k ≤ zs.length := by
  have := List.length_filter_le (fun a => decide (a < k)) ((srt zs).map fun x => bk x sp)
  rw [at_, cn]
  rw [List.length_map, srt_len] at this
  exact this
/-- what lies in the k-th bucket lies between its splitters -/
theorem at_in (zs sp : List Int) {k i : Nat} (h1 : at_ zs sp k ≤ i) (h2 : i < at_ zs sp (k + 1)) :
    i < (srt zs).length ∧ (0 < k → sp.getD (k - 1) 0 < (srt zs).getD i 0) ∧ (k < sp.length → (srt zs).getD i 0 ≤ sp.getD k 0) := by
  have hi : i < (srt zs).length := by have := at_le zs sp (k + 1); rw [srt_len]; omega
  have hs := ks_sorted zs sp
  have hl : i < ((srt zs).map fun x => bk x sp).length := by rw [List.length_map]; exact hi
  have a1 := cn_at _ k hs i hl
  have a2 := cn_at _ (k + 1) hs i hl
  rw [at_] at h1 h2
  rw [List.getElem_map] at a1 a2
  have e : bk (srt zs)[i] sp = k := by
    have := a2.1 h2
    have h3 : ¬ bk (srt zs)[i] sp < k := fun h => by have := a1.2 h; omega
    omega
  rw [getD_in _ hi]
  exact ⟨hi, (bk_sep _ sp k e).1, (bk_sep _ sp k e).2⟩
theorem vlist_srt {zs : List Int} (h : vlist zs = true) : vlist (srt zs) = true := by
  have h1 := vlist_len h
  have h2 := vlist_key h
  rw [vlist, Bool.and_eq_true, decide_eq_true_eq, List.all_eq_true]
  refine ⟨by rw [srt_len]; exact h1, fun x hx => ?_⟩
  have := h2 x (srt_mem.1 hx)
  rw [key, ins.inB_iff]; exact this
theorem vlist_smp {zs : List Int} {p : Nat} (h : vlist zs = true) (hp : p ≤ 16) : vlist (sample zs p) = true := by
  have h2 := vlist_key h
  have h3 := sample_len zs p
  rw [vlist, Bool.and_eq_true, decide_eq_true_eq, List.all_eq_true]
  refine ⟨by omega, fun x hx => ?_⟩
  have := h2 x (sample_mem hx)
  rw [key, ins.inB_iff]; exact this
theorem asc_of {l : List Int} (h : l.Pairwise (· ≤ ·)) : asc l = true := by
  have key : ∀ k, k ≤ l.length → ascB l k = true := by
    intro k
    induction k with
    | zero => intro _; rfl
    | succ k ih =>
      intro hk
      cases k with
      | zero => rfl
      | succ k =>
        rw [ascB_step l k (ih (by omega))]
        exact decide_eq_true (sorted_le h (by omega) (by omega))
  exact key l.length (Nat.le_refl _)
end Go.Proofs.Ytfjmpplpagmpbaa.smpMore
