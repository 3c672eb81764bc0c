/- Jobs by falling times: loads, their sum, the longest job. No condition. -/
import Derived.Test.YtfjmpplpagmpbaaJobLaw
set_option linter.unusedVariables false
set_option linter.unusedSimpArgs false
namespace Go.Proofs.Ytfjmpplpagmpbaa.jobLaw
open Go.RowKit Go.Proofs.Ytfjmpplpagmpbaa.mem Go.Proofs.Ytfjmpplpagmpbaa.stb

def okJ (ts : List Int) (k : Int) : Bool := decide (ts.length ≤ 64) && (ts.all (fun t => decide (1 ≤ t) && decide (t ≤ 100000)) && (decide (1 ≤ k) && decide (k ≤ 16)))
theorem okJ_iff {ts : List Int} {k : Int} : okJ ts k = true ↔ ts.length ≤ 64 ∧ (∀ t ∈ ts, 1 ≤ t ∧ t ≤ 100000) ∧ 1 ≤ k ∧ k ≤ 16 := by
  simp [okJ]
def outJ (ts : List Int) (k : Int) : List Int := if okJ ts k = true then (stt ts k.toNat ts.length).1 else []
def spanJ (ts : List Int) (k : Int) : Int := if okJ ts k = true then mx (stt ts k.toNat ts.length).2 else 0

/-! ### sums -/
theorem perm_sum {l r : List Int} (h : l.Perm r) : l.sum = r.sum := by
  induction h with
  | nil => rfl
  | cons x _ ih => simp [ih]
  | swap x y l => simp; omega
  | trans _ _ h1 h2 => rw [h1, h2]
theorem range_sum (ts : List Int) : ((List.range ts.length).map (tm ts)).sum = ts.sum := by
  congr 1
  apply List.ext_getElem
  · simp
  · intro i h1 h2
    simp [tm, h2]
theorem ord_sum (ts : List Int) : ((ord ts).map (tm ts)).sum = ts.sum := by
  rw [ord, perm_sum ((stab_perm (lt := ltJ ts) (List.range ts.length)).map (tm ts)), range_sum]
theorem sum_set : ∀ (l : List Int) (k : Nat) (z : Int), k < l.length → (l.set k z).sum = l.sum - l.getD k 0 + z
  | [], k, z, h => by simp at h
  | x :: l, 0, z, _ => by simp; omega
  | x :: l, k + 1, z, h => by
    have ih := sum_set l k z (by simpa using h)
    simp only [List.set_cons_succ, List.sum_cons, List.getD_cons_succ]
    omega
theorem sum_map_add (l : List Nat) (f g : Nat → Int) : (l.map fun i => f i + g i).sum = (l.map f).sum + (l.map g).sum := by
  induction l with
  | nil => rfl
  | cons a l ih => simp only [List.map_cons, List.sum_cons, ih]; omega
theorem le_mx : ∀ (l : List Int) {x : Int}, (∀ y ∈ l, 0 ≤ y) → x ∈ l → x ≤ mx l
  | [], x, _, h => by simp at h
  | a :: l, x, hp, h => by
    have ha := hp a (by simp)
    rcases mx_cons a l with h1 | h1
    · rw [h1]
      rcases List.mem_cons.1 h with rfl | h
      · omega
      · have := le_mx l (fun y hy => hp y (by simp [hy])) h; omega
    · omega
theorem mx_le : ∀ (l : List Int) {b : Int}, 0 ≤ b → (∀ y ∈ l, 0 ≤ y ∧ y ≤ b) → mx l ≤ b
  | [], b, hb, _ => hb
  | a :: l, b, hb, h => by
    have ha := h a (by simp)
    have ih := mx_le l hb (fun y hy => h y (by simp [hy]))
    rcases mx_cons a l with h1 | h1
    · rw [h1]; omega
    · omega
theorem sum_le : ∀ (l : List Int) {b : Int}, (∀ y ∈ l, y ≤ b) → l.sum ≤ (l.length : Int) * b
  | [], b, _ => by simp
  | a :: l, b, h => by
    have ha := h a (by simp)
    have ih := sum_le l (fun y hy => h y (by simp [hy]))
    rw [List.sum_cons, List.length_cons, Int.natCast_add, Int.add_mul]
    simp; omega
theorem sum_ge : ∀ (l : List Int) {b : Int}, (∀ y ∈ l, b ≤ y) → (l.length : Int) * b ≤ l.sum
  | [], b, _ => by simp
  | a :: l, b, h => by
    have ha := h a (by simp)
    have ih := sum_ge l (fun y hy => h y (by simp [hy]))
    rw [List.sum_cons, List.length_cons, Int.natCast_add, Int.add_mul]
    simp; omega
/-- the worker with the least load has it -/
theorem am_le (loads : List Int) : ∀ k, k ≤ loads.length → ∀ i, i < k → loads.getD (am loads k) 0 ≤ loads.getD i 0
  | 0, _, i, h => absurd h (by omega)
  | k + 1, hk, i, h => by
    have ih := am_le loads k (by omega)
    unfold am
    by_cases e : i = k
    · subst e
      split <;> omega
    · have := ih i (by omega)
      split <;> omega

section
variable {ts : List Int} (hp : ∀ z ∈ ts, 1 ≤ z ∧ z ≤ 100000) {w : Nat} (hw : 0 < w)
include hp hw
omit hw in
theorem tm_bd {i : Nat} (h : i < ts.length) : 1 ≤ tm ts i ∧ tm ts i ≤ 100000 := by
  rw [tm, List.getD_eq_getElem?_getD, List.getElem?_eq_getElem h]
  exact hp _ (List.getElem_mem h)
omit hw hp in
theorem loads_sum : ∀ t, t ≤ ts.length → 0 < w → (stt ts w t).2.sum = (((ord ts).take t).map (tm ts)).sum
  | 0, _, _ => by simp [stt]
  | t + 1, h, hw => by
    have ih := loads_sum t (by omega) hw
    have hl := stt_len ts w t (by omega)
    have hm : t < (ord ts).length := by rw [ord_len]; omega
    rw [stt_step ts w hm]
    simp only [jst]
    rw [sum_set _ _ _ (am_lt _ (by omega) _ (Nat.le_refl _)), ih, List.take_succ_eq_append_getElem hm, List.map_append, List.sum_append]
    simp; omega
theorem span_long : ∀ t, t ≤ ts.length → ∀ q (h : q < (ord ts).length), q < t → tm ts (ord ts)[q] ≤ mx (stt ts w t).2
  | 0, _, q, h, hq => absurd hq (by omega)
  | t + 1, h, q, hqo, hq => by
    have hm : t < (ord ts).length := by rw [ord_len]; omega
    rw [span_step hp hw (by omega) hm]
    by_cases e : q = t
    · subst e
      have hpos := stt_pos hp w q (by omega)
      have : 0 ≤ (stt ts w q).2.getD (am (stt ts w q).2 (stt ts w q).2.length) 0 := by
        rw [List.getD_eq_getElem?_getD]
        cases hc : (stt ts w q).2[am (stt ts w q).2 (stt ts w q).2.length]? with
        | none => simp
        | some y => exact (hpos y (List.mem_of_getElem? hc)).1
      omega
    · have := span_long t (by omega) q hqo (by omega)
      omega
theorem span_ge {i : Nat} (h : i < ts.length) : tm ts i ≤ mx (stt ts w ts.length).2 := by
  obtain ⟨q, hq, rfl⟩ := List.getElem_of_mem ((ord_mem ts).2 h)
  exact span_long hp hw ts.length (Nat.le_refl _) q hq (by rw [← ord_len ts]; exact hq)
omit hp in
theorem loads_all : (stt ts w ts.length).2.sum = ts.sum := by
  rw [loads_sum ts.length (Nat.le_refl _) hw, List.take_of_length_le (by rw [ord_len]; omega), ord_sum]
theorem span_total : ts.sum ≤ (w : Int) * mx (stt ts w ts.length).2 := by
  have hpos := stt_pos hp w ts.length (Nat.le_refl _)
  have h := sum_le (stt ts w ts.length).2 (b := mx (stt ts w ts.length).2) (fun y hy => le_mx _ (fun z hz => (hpos z hz).1) hy)
  rw [(stt_len ts w ts.length (Nat.le_refl _)).2, loads_all hw] at h
  exact h
omit hw in
theorem take_sum_le (t : Nat) : (((ord ts).take t).map (tm ts)).sum ≤ ts.sum := by
  have h : ((ord ts).map (tm ts)).sum = (((ord ts).take t).map (tm ts)).sum + (((ord ts).drop t).map (tm ts)).sum := by
    rw [← List.sum_append, ← List.map_append, List.take_append_drop]
  rw [ord_sum] at h
  have h2 := sum_ge (((ord ts).drop t).map (tm ts)) (b := 0) (fun y hy => by
    obtain ⟨i, hi, rfl⟩ := List.mem_map.1 hy
    have := tm_bd hp ((ord_mem ts).1 (List.mem_of_mem_drop hi))
    omega)
  omega
theorem span_short {lg : Int} (hlg : ∀ i, i < ts.length → tm ts i ≤ lg) (h0 : 0 ≤ lg) : ∀ t, t ≤ ts.length → (w : Int) * (mx (stt ts w t).2 - lg) ≤ ts.sum
  | 0, _ => by
    have h := take_sum_le hp 0
    have e : mx (stt ts w 0).2 = 0 := by simp only [stt, List.take_zero, List.foldl_nil]; exact mx_zero w
    rw [e]
    have : (w : Int) * (0 - lg) ≤ 0 := Int.mul_nonpos_of_nonneg_of_nonpos (by omega) (by omega)
    simp at h
    omega
  | t + 1, h => by
    have ih := span_short hlg h0 t (by omega)
    have hm : t < (ord ts).length := by rw [ord_len]; omega
    have hl := stt_len ts w t (by omega)
    have hq := tm_bd hp ((ord_mem ts).1 (List.getElem_mem hm))
    have hq2 := hlg _ ((ord_mem ts).1 (List.getElem_mem hm))
    have hs := loads_sum (ts := ts) t (by omega) hw
    have hts := take_sum_le hp t
    have hge := sum_ge (stt ts w t).2 (b := (stt ts w t).2.getD (am (stt ts w t).2 (stt ts w t).2.length) 0) (fun y hy => by
      obtain ⟨i, hi, rfl⟩ := List.getElem_of_mem hy
      have := am_le (stt ts w t).2 _ (Nat.le_refl _) i hi
      rwa [show (stt ts w t).2.getD i 0 = (stt ts w t).2[i] by rw [List.getD_eq_getElem?_getD, List.getElem?_eq_getElem hi]; rfl] at this)
    rw [hl.2] at hge
    rw [span_step hp hw (by omega) hm]
    rcases Int.le_total (mx (stt ts w t).2) ((stt ts w t).2.getD (am (stt ts w t).2 (stt ts w t).2.length) 0 + tm ts (ord ts)[t]) with h1 | h1
    · rw [Int.max_eq_right h1]
      rw [hl.2] at *
      have : (w : Int) * ((stt ts w t).2.getD (am (stt ts w t).2 w) 0 + tm ts (ord ts)[t] - lg) ≤ (w : Int) * (stt ts w t).2.getD (am (stt ts w t).2 w) 0 := Int.mul_le_mul_of_nonneg_left (by omega) (by omega)
      omega
    · rw [Int.max_eq_left h1]; exact ih
end

/-! ### the loads counted anew -/
def jat (ts : List Int) (w q : Nat) : Nat := am (stt ts w q).2 (stt ts w q).2.length
/-- what the q-th of the order was given stands to the end -/
theorem given_at (ts : List Int) (w : Nat) {q : Nat} (hq : q < (ord ts).length) : ∀ t, q < t → t ≤ ts.length → (stt ts w t).1.getD (ord ts)[q] 0 = (jat ts w q : Int)
  | 0, h, _ => absurd h (by omega)
  | t + 1, h, ht => by
    have hm : t < (ord ts).length := by rw [ord_len]; omega
    have hl := stt_len ts w t (by omega)
    rw [stt_step ts w hm]
    simp only [jst]
    have hi := (ord_mem ts).1 (List.getElem_mem hm)
    by_cases e : q = t
    · subst e
      rw [List.getD_eq_getElem?_getD, List.getElem?_set_self (by rw [hl.1]; exact hi)]; rfl
    · have ih := given_at ts w hq t (by omega) (by omega)
      rw [List.getD_eq_getElem?_getD, List.getElem?_set_ne, ← List.getD_eq_getElem?_getD]
      · exact ih
      · intro he
        exact e ((List.getElem_inj (ord_nodup ts)).1 he.symm)
theorem given_in (ts : List Int) {w : Nat} (hw : 0 < w) {i : Nat} (hi : i < ts.length) : ∃ a : Nat, (stt ts w ts.length).1.getD i 0 = (a : Int) ∧ a < w := by
  obtain ⟨q, hq, rfl⟩ := List.getElem_of_mem ((ord_mem ts).2 hi)
  have hqn : q < ts.length := by rw [← ord_len ts]; exact hq
  have hl := stt_len ts w q (by omega)
  exact ⟨_, given_at ts w hq ts.length hqn (Nat.le_refl _), by have := am_lt (stt ts w q).2 (by omega) _ (Nat.le_refl _); unfold jat; omega⟩
def pick (g : Nat → Int) (ts : List Int) (j : Nat) (i : Nat) : Int := if g i = (j : Int) then tm ts i else 0
/-- the loads, counted over the given workers from the left -/
def ld (g : Nat → Int) (ts : List Int) (w : Nat) : Nat → List Int
  | 0 => List.replicate w 0
  | k + 1 => (ld g ts w k).set (g k).toNat ((ld g ts w k).getD (g k).toNat 0 + tm ts k)
theorem ld_len (g : Nat → Int) (ts : List Int) (w : Nat) : ∀ k, (ld g ts w k).length = w
  | 0 => by simp [ld]
  | k + 1 => by simp [ld, ld_len g ts w k]
theorem set_getD (l : List Int) {a : Nat} (h : a < l.length) (z : Int) (j : Nat) : (l.set a z).getD j 0 = if a = j then z else l.getD j 0 := by
  rw [List.getD_eq_getElem?_getD, List.getD_eq_getElem?_getD, List.getElem?_set]
  by_cases e : a = j
  · subst e; simp [h]
  · simp [e]
theorem ld_at (g : Nat → Int) (ts : List Int) (w j : Nat) : ∀ k, (∀ i, i < k → ∃ a : Nat, g i = (a : Int) ∧ a < w) → j < w → (ld g ts w k).getD j 0 = ((List.range k).map (pick g ts j)).sum
  | 0, _, h => by simp only [ld, List.range_zero, List.map_nil, List.sum_nil]; rw [List.getD_eq_getElem?_getD, List.getElem?_replicate]; split <;> rfl
  | k + 1, hg, h => by
    have ih := ld_at g ts w j k (fun i hi => hg i (by omega)) h
    obtain ⟨a, ha, haw⟩ := hg k (by omega)
    have hl := ld_len g ts w k
    rw [ld, List.range_succ, List.map_append, List.sum_append, ← ih, ha, Int.toNat_natCast]
    simp only [List.map_cons, List.map_nil, List.sum_cons, List.sum_nil, pick, ha]
    rw [set_getD _ (by omega)]
    by_cases e : a = j
    · subst e
      rw [if_pos rfl, if_pos rfl]; omega
    · rw [if_neg e, if_neg (by omega)]; omega
theorem stt_at (ts : List Int) {w : Nat} (hw : 0 < w) {j : Nat} (h : j < w) (g : Nat → Int) : ∀ t, t ≤ ts.length → (∀ q (hq : q < (ord ts).length), q < t → g (ord ts)[q] = (jat ts w q : Int)) →
    (stt ts w t).2.getD j 0 = (((ord ts).take t).map (pick g ts j)).sum
  | 0, _, _ => by simp only [stt, List.take_zero, List.foldl_nil, List.map_nil, List.sum_nil]; rw [List.getD_eq_getElem?_getD, List.getElem?_replicate]; split <;> rfl
  | t + 1, ht, hg => by
    have ih := stt_at ts hw h g t (by omega) (fun q hq h2 => hg q hq (by omega))
    have hm : t < (ord ts).length := by rw [ord_len]; omega
    have hl := stt_len ts w t (by omega)
    have e1 := hg t hm (by omega)
    have ha := am_lt (stt ts w t).2 (by omega) _ (Nat.le_refl _)
    rw [stt_step ts w hm, List.take_succ_eq_append_getElem hm, List.map_append, List.sum_append, ← ih]
    simp only [jst, List.map_cons, List.map_nil, List.sum_cons, List.sum_nil, pick, e1, jat]
    rw [set_getD _ ha]
    by_cases e : am (stt ts w t).2 (stt ts w t).2.length = j
    · rw [if_pos e, if_pos (by rw [e]), e]; omega
    · rw [if_neg e, if_neg (by omega)]; omega
/-- counted anew, the loads are the same -/
theorem ld_eq {ts : List Int} {w : Nat} (hw : 0 < w) : ld (fun i => (stt ts w ts.length).1.getD i 0) ts w ts.length = (stt ts w ts.length).2 := by
  have hl := stt_len ts w ts.length (Nat.le_refl _)
  apply List.ext_getElem
  · rw [ld_len, hl.2]
  · intro j h1 h2
    have hj : j < w := by rw [ld_len] at h1; exact h1
    have e1 := ld_at (fun i => (stt ts w ts.length).1.getD i 0) ts w j ts.length (fun i hi => given_in ts hw hi) hj
    have e2 := stt_at ts hw hj (fun i => (stt ts w ts.length).1.getD i 0) ts.length (Nat.le_refl _) (fun q hq h => given_at ts w hq ts.length h (Nat.le_refl _))
    rw [List.take_of_length_le (by rw [ord_len]; omega), show ord ts = stab (ltJ ts) (List.range ts.length) from rfl, perm_sum ((stab_perm (lt := ltJ ts) (List.range ts.length)).map _), ← e1] at e2
    rw [List.getD_eq_getElem?_getD, List.getD_eq_getElem?_getD, List.getElem?_eq_getElem h1, List.getElem?_eq_getElem h2] at e2
    exact e2.symm
end Go.Proofs.Ytfjmpplpagmpbaa.jobLaw
