/- Pruned summaries, ranks and queries against a list that fits: the plain law. No condition. -/
import Derived.Test.YtlckeefjhafloaaFitLaw
set_option linter.unusedVariables false
set_option linter.unusedSimpArgs false
namespace Go.Proofs.Ytlckeefjhafloaa.fitLaw
open Go.RowKit Go.Proofs.Ytlckeefjhafloaa.mem Go.Proofs.Ytlckeefjhafloaa.smy Go.Proofs.Ytlckeefjhafloaa.smyQ Go.Proofs.Ytlckeefjhafloaa.mgLaw Go.Proofs.Ytlckeefjhafloaa.smyMg Go.Proofs.Ytlckeefjhafloaa.srt Go.Proofs.Ytlckeefjhafloaa.smyFit Go.Proofs.Ytlckeefjhafloaa.smyOf Go.Proofs.Ytlckeefjhafloaa.prLaw

theorem err_pos (x : Rkv) (r : Int) : 0 ≤ err x r := by unfold err; omega
theorem err_exact {x : Rkv} {r : Int} (h1 : x.least = r) (h2 : x.most = r) : err x r = 0 := by unfold err; omega
theorem best_lt {l : List Rkv} (h0 : 0 < l.length) (r : Int) : best l r < l.length := bst_lt l r l.length h0
theorem best_first {cnt : Int} {l : List Rkv} (h : vsmy cnt l = true) (h0 : 0 < l.length) : best l 1 = 0 := by
  have e := vsmy_ends h h0
  have a := vsmy_at h h0
  by_cases hb : best l 1 = 0
  · exact hb
  · have h1 := bst_first l 1 l.length 0 (by unfold best at hb; omega)
    have h2 := err_pos (l.getD (bst l 1 l.length) z0) 1
    rw [getD_r l h0, err_exact (by omega) e.1] at h1
    omega
theorem best_last {cnt : Int} {l : List Rkv} (h : vsmy cnt l = true) (h0 : 0 < l.length) : best l cnt = l.length - 1 := by
  have e := vsmy_ends h h0
  have a := vsmy_at h (show l.length - 1 < l.length by omega)
  have hb := best_lt h0 cnt
  by_cases hx : best l cnt = l.length - 1
  · exact hx
  · have h1 := bst_min l cnt l.length (l.length - 1) (by unfold best at hb; omega) (by omega)
    unfold best at hb hx
    rw [getD_r l (show l.length - 1 < l.length by omega), err_exact e.2 (by omega), getD_r l hb] at h1
    have h3 := mono_lt h (show bst l cnt l.length < l.length - 1 by omega) (by omega)
    have h4 : cnt - l[bst l cnt l.length].least ≤ err l[bst l cnt l.length] cnt := by unfold err; omega
    omega
theorem rkP_mono {cnt size : Int} (h1 : 1 ≤ cnt) (h2 : 1 ≤ size) {i j : Nat} (h : i ≤ j) : rkP cnt size i ≤ rkP cnt size j := by
  unfold rkP
  have : (i : Int) * (cnt - 1) / size ≤ (j : Int) * (cnt - 1) / size := Int.ediv_le_ediv (by omega) (Int.mul_le_mul_of_nonneg_right (by omega) (by omega))
  omega
theorem rkP_zero (cnt size : Int) : rkP cnt size 0 = 1 := by simp [rkP]
theorem rkP_end {cnt size : Int} (h : 1 ≤ size) : rkP cnt size size.toNat = cnt := by
  unfold rkP
  rw [show ((size.toNat : Nat) : Int) = size by omega, Int.mul_ediv_cancel_left _ (by omega)]
  omega
theorem pick_len_k {cnt : Int} {l : List Rkv} {size : Int} (h : vsmy cnt l = true) (h0 : 0 < l.length) (h1 : 1 ≤ cnt) (h2 : 1 ≤ size) : ∀ k, (pick cnt l size k l.length).length ≤ k
  | 0 => by simp [pick, sel]
  | k + 1 => by
    have ih := pick_len_k h h0 h1 h2 k
    cases hs : sel cnt l size k (bi cnt l size k) with
    | true => rw [pick_old hs]; omega
    | false =>
      have hb : bi cnt l size k < l.length := best_lt h0 _
      rw [pick_new (fun i hi => ?_) hb, List.length_append, List.length_singleton]
      · omega
      · have hm : bi cnt l size i ≤ bi cnt l size k := best_mono h h0 (rkP_mono h1 h2 (by omega))
        have hne : bi cnt l size i ≠ bi cnt l size k := fun e => by
          have : sel cnt l size k (bi cnt l size k) = true := by
            simp only [sel, List.any_eq_true, List.mem_range, beq_iff_eq]
            exact ⟨i, hi, e⟩
          rw [hs] at this; cases this
        omega
theorem pick_sub (cnt : Int) (l : List Rkv) (size : Int) (k : Nat) : (pick cnt l size k l.length).Sublist l := by
  have e : (List.range l.length).map (fun j => l.getD j z0) = l := by
    apply List.ext_getElem (by simp)
    intro i h1 h2
    simp only [List.getElem_map, List.getElem_range]
    exact getD_r l h2
  have := (List.filter_sublist (l := List.range l.length) (p := fun j => sel cnt l size k j)).map (fun j => l.getD j z0)
  rw [e] at this
  exact this
theorem pick_head {cnt : Int} {l : List Rkv} {size : Int} {k n : Nat} (h : sel cnt l size k 0 = true) : (pick cnt l size k (n + 1)).getD 0 z0 = l.getD 0 z0 ∧ 0 < (pick cnt l size k (n + 1)).length := by
  induction n with
  | zero => rw [pick_step, if_pos h]; simp [pick]
  | succ n ih =>
    rw [pick_step]
    have e : ∀ (a b : List Rkv), 0 < a.length → (a ++ b).getD 0 z0 = a.getD 0 z0 ∧ 0 < (a ++ b).length := fun a b h => by
      cases a with
      | nil => simp at h
      | cons x a => simp
    have := e _ (if sel cnt l size k (n + 1) = true then [l.getD (n + 1) z0] else []) ih.2
    exact ⟨this.1.trans ih.1, this.2⟩
theorem pick_end {cnt : Int} {l : List Rkv} {size : Int} {k n : Nat} (h : sel cnt l size k n = true) : (pick cnt l size k (n + 1)).getD ((pick cnt l size k (n + 1)).length - 1) z0 = l.getD n z0 := by
  rw [pick_step, if_pos h]
  generalize pick cnt l size k n = q
  rw [List.length_append, List.length_singleton, Nat.add_sub_cancel, List.getD_eq_getElem?_getD, List.getElem?_append_right (Nat.le_refl _)]
  simp
theorem sm_sub {cnt : Int} {l q : List Rkv} (h : vsmy cnt l = true) (hs : q.Sublist l) (h0 : 0 < q.length) (h1 : q.getD 0 z0 = l.getD 0 z0) (h2 : q.getD (q.length - 1) z0 = l.getD (l.length - 1) z0) : vsmy cnt q = true := by
  have hc := vsmy_cnt h
  have hlen := hs.length_le
  have hl0 : 0 < l.length := by omega
  have hp : l.Pairwise (fun x y => x.value ≤ y.value ∧ x.least < y.least ∧ x.most < y.most) := by
    rw [List.pairwise_iff_getElem]
    intro i j hi hj hij
    have a := mono_lt h hij hj
    have b := smyRank.mono' h (Nat.le_of_lt hij) hj
    exact ⟨b.1, a.1, a.2⟩
  have hq := List.pairwise_iff_getElem.1 (hp.sublist hs)
  have hm : ∀ i (hi : i < q.length), -100000 ≤ q[i].value ∧ q[i].value ≤ 100000 ∧ 1 ≤ q[i].least ∧ q[i].least ≤ q[i].most ∧ q[i].most ≤ cnt := fun i hi => by
    obtain ⟨j, hj, e⟩ := List.getElem_of_mem (hs.subset (List.getElem_mem hi))
    rw [← e]; exact vsmy_at h hj
  have e := vsmy_ends h hl0
  refine vsmy_of (G := cnt) ⟨hc.1, fun h => by omega, fun i hi => ?_, fun i hi => ?_, fun _ => ?_, fun _ => ?_, hc.1⟩ (by omega) hc.2.1
  · rw [getD_r q hi]; exact hm i hi
  · have a := hq i (i + 1) (by omega) hi (by omega)
    have b := hm (i + 1) hi
    have d := hm i (by omega)
    rw [getD_r q hi, getD_r q (by omega)]
    exact ⟨a.1, a.2.1, a.2.2, by omega⟩
  · rw [h1, getD_r l hl0]; exact e.1
  · rw [h2, getD_r l (by omega)]; exact e.2
theorem pruned {cnt size : Int} {l : List Rkv} (h : vsmy cnt l = true) (hc : ¬ cnt = 0) (h1 : 1 ≤ size) : vsmy cnt (pick cnt l size (size.toNat + 1) l.length) = true ∧ ((pick cnt l size (size.toNat + 1) l.length).length : Int) ≤ size + 1 := by
  have hcc := vsmy_cnt h
  have h0 : 0 < l.length := by
    by_cases e : l.length = 0
    · exact absurd (hcc.2.2.2.1 e) hc
    · omega
  have s0 : sel cnt l size (size.toNat + 1) 0 = true := by
    simp only [sel, List.any_eq_true, List.mem_range, beq_iff_eq]
    exact ⟨0, by omega, by rw [bi, rkP_zero, best_first h h0]⟩
  have s1 : sel cnt l size (size.toNat + 1) (l.length - 1) = true := by
    simp only [sel, List.any_eq_true, List.mem_range, beq_iff_eq]
    exact ⟨size.toNat, by omega, by rw [bi, rkP_end h1, best_last h h0]⟩
  have e0 := pick_head (n := l.length - 1) s0
  have e1 := pick_end s1
  rw [show l.length - 1 + 1 = l.length by omega] at e0 e1
  refine ⟨sm_sub h (pick_sub _ _ _ _) e0.2 e0.1 e1, ?_⟩
  have := pick_len_k (size := size) h h0 (by omega) h1 (size.toNat + 1)
  omega
theorem fits_pruned {cnt size : Int} {l : List Rkv} {zs : List Int} (h : vsmy cnt l = true) (hc : ¬ cnt = 0) (h1 : 1 ≤ size) (hf : fitsv cnt (srt zs) l = true) : fitsv cnt (srt zs) (pick cnt l size (size.toNat + 1) l.length) = true := by
  have e1 : (zs.length : Int) = cnt := by rw [fitsv, Bool.and_eq_true, decide_eq_true_eq, srt_len] at hf; exact hf.1
  exact (fitsv_of (pruned h hc h1).1 e1).2 (fit_sub (pick_sub _ _ _ _) ((fitsv_of h e1).1 hf))
/-- the bounds of a rank contain the true number -/
theorem bounds_in {cnt : Int} {l : List Rkv} {zs : List Int} (h : vsmy cnt l = true) (hf : fitsv cnt (srt zs) l = true) (v : Int) : smyRank.resL cnt l v ≤ le zs v ∧ le zs v ≤ smyRank.resH cnt l v := by
  have e1 : (zs.length : Int) = cnt := by rw [fitsv, Bool.and_eq_true, decide_eq_true_eq, srt_len] at hf; exact hf.1
  obtain ⟨p, _, _, hb⟩ := fit_fn ((fitsv_of h e1).1 hf)
  obtain ⟨s1, s2⟩ := smyRank.cut_split h v
  have hcl := smyRank.cut_le l v
  rw [smyRank.resL, smyRank.resH, if_pos h, if_pos h, smyRank.low, smyRank.high]
  generalize smyRank.cut l v = k at *
  have hp := lt_pos zs v
  have hq := lt_le zs v
  constructor
  · split
    · omega
    · have a := hb (k - 1) (by omega)
      have b := s1 (k - 1) (by omega) (by omega)
      have d := le_mono zs b
      rw [getD_r l (by omega)]; omega
  · split
    · have := le_len zs v; omega
    · have a := hb k (by omega)
      have b := s2 k (by omega) (Nat.le_refl _)
      have d := le_lt zs b
      rw [getD_r l (by omega)]; omega
/-- an entry stands near its rank -/
theorem near {cnt : Int} {l : List Rkv} {zs : List Int} (h : vsmy cnt l = true) (hf : fitsv cnt (srt zs) l = true) {r : Int} (h0 : 0 < l.length) :
    ∃ i : Nat, i < zs.length ∧ (srt zs).getD i 0 = (l.getD (best l r) z0).value ∧ r - errv l r ≤ (i : Int) + 1 ∧ (i : Int) + 1 ≤ r + errv l r := by
  have e1 : (zs.length : Int) = cnt := by rw [fitsv, Bool.and_eq_true, decide_eq_true_eq, srt_len] at hf; exact hf.1
  obtain ⟨p, _, _, hb⟩ := fit_fn ((fitsv_of h e1).1 hf)
  have hk := best_lt h0 r
  have a := hb (best l r) hk
  have ha := vsmy_at h hk
  have he : errv l r = err l[best l r] r := by rw [errv, el, if_neg (by omega)]; rw [← getD_r l hk]; rfl
  rw [he, getD_r l hk]
  generalize l[best l r] = x at *
  generalize p (best l r) = q at *
  have hle := le_len zs x.value
  have hp := lt_pos zs x.value
  refine ⟨(q - 1).toNat, by omega, (at_iff (by omega) (by omega)).2 ⟨a.2.2.1, a.2.2.2⟩, ?_, ?_⟩
  · unfold err; omega
  · unfold err; omega
end Go.Proofs.Ytlckeefjhafloaa.fitLaw
