/- The queues of PolyphaseVolume: how they begin, that their total stays, that all is small. No program. -/
import Derived.Test.YtgffabjajbgbjaaQLaw
import Derived.Test.YtgffabjajbgbjaaDumLaw
set_option linter.unusedVariables false
set_option linter.unusedSimpArgs false
namespace Go.Proofs.Ytgffabjajbgbjaa.vol
open Go.Proofs.Ytgffabjajbgbjaa.qlaw Go.Proofs.Ytgffabjajbgbjaa.dumLaw Go.Proofs.Ytgffabjajbgbjaa.dummies Go.Proofs.Ytgffabjajbgbjaa.level Go.Proofs.Ytgffabjajbgbjaa.phs Go.Proofs.Ytgffabjajbgbjaa.dists Go.Proofs.Ytgffabjajbgbjaa.sums

def rl (u r i : Nat) : Nat := ((dum u r).1.getD i 0).toNat
def dl (u r i : Nat) : Nat := ((dum u r).2.getD i 0).toNat
def col (u r i : Nat) : List Int := List.replicate (dl u r i) 0 ++ List.replicate (rl u r i) 1
def q0 (u r : Nat) : QS Int := (List.range u).map (col u r) ++ [[]]
theorem q0_len (u r : Nat) : (q0 u r).length = u + 1 := by simp [q0]
theorem lens {u r : Nat} (hu : 2 ≤ u) (hu2 : u ≤ 7) (hr : r ≤ 1000) (i : Nat) : (dl u r i : Int) = (dum u r).2.getD i 0 ∧ (rl u r i : Int) = (dum u r).1.getD i 0 ∧ (dl u r i : Int) + rl u r i = (dist u (lev u r)).getD i 0 := by
  obtain ⟨h1, h2⟩ := exists_lev hu hu2 hr
  obtain ⟨a, b, c, d, _⟩ := dumLaw.law hu hu2 h1 h2
  have := a i
  have := b i
  have := c i
  unfold dl rl
  omega
theorem sum_le2 {u r : Nat} (hu : 2 ≤ u) (hu2 : u ≤ 7) (hr : r ≤ 1000) (i : Nat) : dl u r i ≤ 32768 ∧ rl u r i ≤ 32768 := by
  have h1 := lens hu hu2 hr i
  obtain ⟨h2, h3⟩ := exists_lev hu hu2 hr
  have h4 : (dist u (lev u r)).getD i 0 ≤ 32768 := by
    have := (st_bd (L := lev u r) hu h3 (Nat.zero_le _) i).2
    have e : st u (lev u r) 0 = dist u (lev u r) ++ [0] := rfl
    by_cases hi : i < (dist u (lev u r)).length
    · rw [e, List.getD_eq_getElem?_getD, List.getElem?_append_left hi, ← List.getD_eq_getElem?_getD] at this
      exact this
    · rw [List.getD_eq_getElem?_getD, List.getElem?_eq_none (by omega)]; decide
  omega
theorem q0_cnt {u r : Nat} (hu : 2 ≤ u) (hu2 : u ≤ 7) (hr : r ≤ 1000) : cnt (q0 u r) = st u (lev u r) 0 := by
  refine list_ext (by rw [cnt_len, q0_len]; show _ = (dist u _ ++ [0]).length; rw [List.length_append, dist_len hu]; rfl) fun i hi => ?_
  rw [cnt_len, q0_len] at hi
  rw [cnt_at]
  show _ = (dist u (lev u r) ++ [0]).getD i 0
  have hd := dist_len hu (lev u r)
  by_cases h : i < u
  · rw [List.getD_eq_getElem?_getD, q0, List.getElem?_append_left (by simpa using h), List.getElem?_map, List.getElem?_range h]
    rw [List.getD_eq_getElem?_getD (l := dist u (lev u r) ++ [0]), List.getElem?_append_left (by omega), ← List.getD_eq_getElem?_getD]
    have := (lens hu hu2 hr i).2.2
    show ((col u r i).length : Int) = _
    rw [col, List.length_append, List.length_replicate, List.length_replicate]
    omega
  · obtain rfl : i = u := by omega
    rw [List.getD_eq_getElem?_getD, q0, List.getElem?_append_right (by simp)]
    rw [List.getD_eq_getElem?_getD (l := dist i (lev i r) ++ [0]), List.getElem?_append_right (by omega)]
    simp [hd]
def tot (Q : QS Int) : Int := (Q.map List.sum).sum
theorem tot_set (Q : QS Int) {i : Nat} (h : i < Q.length) (q : List Int) : tot (Q.set i q) = tot Q - (Q.getD i []).sum + q.sum := by
  unfold tot
  rw [List.map_set, sum_set _ _ _ (by simpa using h)]
  have : (Q.map List.sum).getD i 0 = (Q.getD i []).sum := by
    rw [List.getD_eq_getElem?_getD, List.getD_eq_getElem?_getD, List.getElem?_map]
    cases Q[i]? <;> rfl
  rw [this]
theorem head_tail (q : List Int) : (q.take 1).sum + (q.drop 1).sum = q.sum := by
  cases q <;> simp
theorem tot_tls (to : Nat) (Q : QS Int) : ∀ i, i ≤ Q.length → tot (tls to Q i) + (hds to Q i).sum = tot Q
  | 0, _ => by simp [tls, hds]
  | i + 1, h => by
    have ih := tot_tls to Q i (by omega)
    by_cases e : i = to
    · rw [tls_same e, hds_same e]; exact ih
    · show tot (if i = to then tls to Q i else (tls to Q i).set i ((Q.getD i []).drop 1)) + (hds to Q i ++ (if i = to then [] else (Q.getD i []).take 1)).sum = _
      rw [if_neg e, if_neg e, tot_set _ (by rw [tls_len]; omega), tls_here to Q (by omega), List.sum_append]
      have := head_tail (Q.getD i [])
      omega
theorem tot_one {to : Nat} {Q : QS Int} (ht : to < Q.length) : tot (one List.sum to Q) = tot Q := by
  unfold one
  rw [tot_set _ (by rw [tls_len]; exact ht), tls_at to Q _ (Nat.le_refl _), if_neg (fun h => h.2 rfl), List.sum_append, List.sum_cons, List.sum_nil]
  have := tot_tls to Q Q.length (Nat.le_refl _)
  omega
theorem sum_nn {l : List Int} (h : ∀ z ∈ l, 0 ≤ z) : 0 ≤ l.sum ∧ ∀ z ∈ l, z ≤ l.sum := by
  induction l with
  | nil => exact ⟨Int.le_refl _, fun z hz => by cases hz⟩
  | cons a l ih =>
    obtain ⟨h1, h2⟩ := ih fun z hz => h z (List.mem_cons_of_mem _ hz)
    have := h a List.mem_cons_self
    rw [List.sum_cons]
    refine ⟨by omega, fun z hz => ?_⟩
    rcases List.mem_cons.1 hz with rfl | hz
    · omega
    · have := h2 z hz; omega
theorem tot_nn {Q : QS Int} (h : All (0 ≤ ·) Q) : 0 ≤ tot Q := by
  refine (sum_nn (l := Q.map List.sum) fun z hz => ?_).1
  obtain ⟨q, hq, rfl⟩ := List.mem_map.1 hz
  exact (sum_nn (h q hq)).1
/-- all numbers are at least 0, and their total is r -/
structure Good (r : Nat) (Q : QS Int) : Prop where
  nn : All (0 ≤ ·) Q
  tt : tot Q = r
theorem Good.heads {r : Nat} {Q : QS Int} (h : Good r Q) (to : Nat) : (∀ z ∈ hds to Q Q.length, 0 ≤ z ∧ z ≤ r) ∧ 0 ≤ (hds to Q Q.length).sum ∧ (hds to Q Q.length).sum ≤ r := by
  have h1 := h.nn.hds to Q.length
  have h2 := sum_nn h1
  have h3 := tot_nn (h.nn.tls to Q.length)
  have h4 := tot_tls to Q Q.length (Nat.le_refl _)
  have h5 := h.tt
  refine ⟨fun z hz => ?_, h2.1, by omega⟩
  have := h1 z hz
  have := h2.2 z hz
  omega
theorem Good.one {r : Nat} {Q : QS Int} (h : Good r Q) {to : Nat} (ht : to < Q.length) : Good r (qlaw.one List.sum to Q) := by
  refine ⟨(h.nn.tls to _).set to fun x hx => ?_, by rw [tot_one ht]; exact h.tt⟩
  rcases List.mem_append.1 hx with h1 | h1
  · exact h.nn.at to x h1
  · obtain rfl := List.mem_singleton.1 h1
    exact (h.heads to).2.1
theorem Good.msn {r : Nat} {S : QS Int × Int} (h : Good r S.1) {to : Nat} (ht : to < S.1.length) : ∀ j, Good r (msn List.sum List.sum to S j).1 ∧ S.2 ≤ (msn List.sum List.sum to S j).2 ∧ (msn List.sum List.sum to S j).2 ≤ S.2 + r * j
  | 0 => ⟨h, Int.le_refl _, by simp [qlaw.msn]⟩
  | j + 1 => by
    obtain ⟨h1, h2, h3⟩ := Good.msn h ht j
    have hl := msn_len List.sum List.sum to S j
    have h4 := (h1.heads to).2
    refine ⟨h1.one (by rw [hl]; exact ht), ?_, ?_⟩
    · show S.2 ≤ (qlaw.msn List.sum List.sum to S j).2 + _
      omega
    · show (qlaw.msn List.sum List.sum to S j).2 + _ ≤ _
      have e : (r : Int) * ((j + 1 : Nat) : Int) = r * j + r := by rw [Int.natCast_add, Int.mul_add]; simp
      rw [e]; omega
theorem Good.phn {r u L : Nat} {S : QS Int × Int} (hu : 2 ≤ u) (hL : L ≤ 15) (hr : r ≤ 1000) (h : Good r S.1) (h0 : cnt S.1 = st u L 0) : ∀ k, k ≤ L → Good r (phn List.sum List.sum S k).1 ∧ S.2 ≤ (phn List.sum List.sum S k).2 ∧ (phn List.sum List.sum S k).2 ≤ S.2 + 32768000 * k
  | 0, _ => ⟨h, Int.le_refl _, by simp [qlaw.phn]⟩
  | k + 1, hk => by
    obtain ⟨h1, h2, h3⟩ := Good.phn hu hL hr h h0 k (by omega)
    have hc := phn_cnt List.sum List.sum hu hL h0 k (by omega)
    have hl : (qlaw.phn List.sum List.sum S k).1.length = u + 1 := by rw [phn_len, len_of hu hL h0]
    have ht : toOf (cnt (qlaw.phn List.sum List.sum S k).1) < (qlaw.phn List.sum List.sum S k).1.length := by rw [hc, hl]; exact to_lt hu hL (by omega)
    obtain ⟨a, b, c⟩ := h1.msn ht (manyOf (cnt (qlaw.phn List.sum List.sum S k).1))
    have hm : manyOf (cnt (qlaw.phn List.sum List.sum S k).1) ≤ 32768 := by rw [hc]; exact many_le hu hL (by omega)
    have hmul : (r : Int) * (manyOf (cnt (qlaw.phn List.sum List.sum S k).1) : Int) ≤ 32768000 := by
      have := Nat.mul_le_mul hr hm
      have e : ((r * manyOf (cnt (qlaw.phn List.sum List.sum S k).1) : Nat) : Int) ≤ ((1000 * 32768 : Nat) : Int) := by exact_mod_cast this
      rw [Int.natCast_mul] at e
      omega
    exact ⟨a, Int.le_trans h2 b, Int.le_trans c (by omega)⟩
theorem Good.stt {r u L : Nat} {S : QS Int × Int} (hu : 2 ≤ u) (hL : L ≤ 15) (hr : r ≤ 1000) (h : Good r S.1) (h0 : cnt S.1 = st u L 0) {k : Nat} (hk : k < L) (j : Nat) (hj : j ≤ manyOf (st u L k)) :
    Good r (stt List.sum List.sum u L S k j).1 ∧ S.2 ≤ (stt List.sum List.sum u L S k j).2 ∧ (stt List.sum List.sum u L S k j).2 ≤ S.2 + 524288000 := by
  obtain ⟨h1, h2, h3⟩ := h.phn hu hL hr h0 k (by omega)
  have hl : (qlaw.phn List.sum List.sum S k).1.length = u + 1 := by rw [phn_len, len_of hu hL h0]
  obtain ⟨a, b, c⟩ := h1.msn (by rw [hl]; exact to_lt hu hL hk) j
  have hm := many_le hu hL hk
  have hmul : (r : Int) * (j : Int) ≤ 32768000 := by
    have := Nat.mul_le_mul hr (Nat.le_trans hj hm)
    have e : ((r * j : Nat) : Int) ≤ ((1000 * 32768 : Nat) : Int) := by exact_mod_cast this
    rw [Int.natCast_mul] at e
    omega
  exact ⟨a, Int.le_trans h2 b, Int.le_trans c (by omega)⟩
theorem sum_rep1 : ∀ n : Nat, (List.replicate n (1 : Int)).sum = n
  | 0 => rfl
  | n + 1 => by rw [List.replicate_succ, List.sum_cons, sum_rep1 n]; omega
theorem sum_rep0 : ∀ n : Nat, (List.replicate n (0 : Int)).sum = 0
  | 0 => rfl
  | n + 1 => by rw [List.replicate_succ, List.sum_cons, sum_rep0 n]; rfl
theorem q0_good {u r : Nat} (hu : 2 ≤ u) (hu2 : u ≤ 7) (hr : r ≤ 1000) : Good r (q0 u r) := by
  refine ⟨fun q hq x hx => ?_, ?_⟩
  · rcases List.mem_append.1 hq with h | h
    · obtain ⟨i, _, rfl⟩ := List.mem_map.1 h
      rcases List.mem_append.1 hx with h2 | h2
      · rw [List.eq_of_mem_replicate h2]; exact Int.le_refl _
      · rw [List.eq_of_mem_replicate h2]; decide
    · obtain rfl := List.mem_singleton.1 h
      cases hx
  · obtain ⟨h1, h2⟩ := exists_lev hu hu2 hr
    have hs := (dumLaw.law hu hu2 h1 h2).2.2.2.1
    have hl := (dum_len (r := r) hu).1
    have e : ((List.range u).map (col u r)).map List.sum = (dum u r).1 := by
      refine list_ext (by simp [hl]) fun i hi => ?_
      have hi2 : i < u := by simpa using hi
      rw [List.map_map, List.getD_eq_getElem?_getD, List.getElem?_map, List.getElem?_range hi2]
      show (col u r i).sum = _
      rw [col, List.sum_append, sum_rep0, sum_rep1]
      have := (lens hu hu2 hr i).2.1
      omega
    unfold tot q0
    rw [List.map_append, List.sum_append, e, hs]
    simp
end Go.Proofs.Ytgffabjajbgbjaa.vol
