/- The laws' helpers at rows of rows: equality, marks, and what is held. Condition: at most 2^20 rows. -/
import Derived.Test.YtgffabjajbgbjaaNest
import Derived.Test.YtgffabjajbgbjaaLawInt
import Derived.Lib.QuietBelow
import Derived.Deep.LoopGhost
import Derived.Deep.RegionHeld3
set_option linter.unusedVariables false
set_option linter.unusedSimpArgs false
namespace Go.Proofs.Ytgffabjajbgbjaa.lawNest
open Go.RowKit Go.Proofs.Ytgffabjajbgbjaa.mem Go.Proofs.Ytgffabjajbgbjaa.nest

def Same {α : Type} (xs ys : List α) (k : Nat) : Prop := xs.take k = ys.take k
theorem same_step {α : Type} {xs ys : List α} {k : Nat} (h : Same xs ys k) (h1 : k < xs.length) (h2 : k < ys.length) (e : xs[k] = ys[k]) : Same xs ys (k + 1) := by
  unfold Same at *
  rw [List.take_add_one, List.take_add_one, h, List.getElem?_eq_getElem h1, List.getElem?_eq_getElem h2, e]
theorem same_ne {α : Type} {xs ys : List α} {k : Nat} (h1 : k < xs.length) (h2 : k < ys.length) (e : xs[k] ≠ ys[k]) : xs ≠ ys := by
  rintro rfl; exact e rfl
theorem same_all {α : Type} {xs ys : List α} {k : Nat} (h : Same xs ys k) (h1 : k = xs.length) (h2 : xs.length = ys.length) : xs = ys := by
  unfold Same at h
  rwa [h1, List.take_length, h2, List.take_length] at h

set_option maxRecDepth 100000 in
set_option maxHeartbeats 1000000 in
theorem eq_int (A B : Option Addr) (c d : Nat) (vs us : List Value) (xss yss : List (List Int)) (w : World) (hn : xss.length ≤ 1048576) (hm : yss.length ≤ 1048576) (hx : RdL_int w A vs xss) (hy : RdL_int w B us yss) :
    Calls Try.prog 34 #[.slice A xss.length c, .slice B yss.length d] w fun e w' => e = .returned (.bool (decide (xss = yss))) ∧ Below w.heap.size w w' := by
  by_cases hlen : xss.length = yss.length
  · have HL := Lib.hid hlen
    have hle : xss.length ≤ yss.length ∧ yss.length ≤ xss.length := by omega
    have hl2 : ((xss.length : Int) != (yss.length : Int)) = false := by rw [hlen]; simp
    clear hlen
    go_enter Try.func34, Try.ntmps34
    go_wp2
    go_loopg [5] (xss.length + 1) (fun f i wr => ∃ k : Nat, xss.length < k + f ∧ k ≤ xss.length ∧ i = .int .i64 (k : Int) ∧ Same xss yss k ∧ Below w.heap.size w wr)
    case atStart => exact ⟨0, by omega, by omega, rfl, rfl, Below.refl _ _⟩
    case round =>
      obtain ⟨k, hkf, hk, rfl, hs, hb⟩ := hrel
      have HS := Lib.hid hs
      clear hs
      by_cases hlt : k < xss.length
      · have hlt2 : k < yss.length := by omega
        obtain ⟨b1, o1, rfl, B1, c1, cell1, l1, m1, r1⟩ := (hx.below hb).cell hlt
        obtain ⟨b2, o2, rfl, B2, c2, cell2, l2, m2, r2⟩ := (hy.below hb).cell hlt2
        have HST := Lib.hid (fun e => same_step HS.out hlt hlt2 e)
        have HNE := Lib.hid (fun e => same_ne hlt hlt2 e)
        generalize xss[k] = xs at cell1 l1 r1 HST HNE
        generalize yss[k] = ys at cell2 l2 r2 HST HNE
        have q1 : (k : Int) < (xss.length : Int) := by omega
        have q2 : (k : Int) < (yss.length : Int) := by omega
        have HQ := Lib.hid (fun d os => lawInt.eqB B1 B2 c1 c2 xs ys (Go.Sort.grow (redrawn wr d) os) (Nat.le_trans l1 m1) (Nat.le_trans l2 m2) (r1.below (below_regrown wr d os)) (r2.below (below_regrown wr d os)))
        have rc1 := fun d os => cell_regrown cell1 d os
        have rc2 := fun d os => cell_regrown cell2 d os
        clear cell1 cell2 r1 r2
        by_cases he : xs = ys
        · have HD := Lib.hid (show decide (xs = ys) = true from decide_eq_true he)
          have HS2 := Lib.hid (HST.out he)
          rw [HD.out] at HQ
          clear he
          go_wp2_with fail
          (refine wp_region_quiet_below (by kernel_rfl) (by kernel_rfl) ?_; (repeat (quiet_step (exact Calls.regrown_of (HQ.out _ _)))); refine wpQuiet_nil ?_; intro _ hw'; obtain ⟨⟨dq, osq⟩, hw''⟩ := hw'; subst hw'')
          have hb2 := below_at hb hb.size (below_regrown wr dq osq)
          clear rc1 rc2
          go_wp2
          go_roundg (gk - 1)
          case measure => omega
          case rel => exact ⟨k + 1, by omega, by omega, by go_num, HS2.out, hb2⟩
        · have HD := Lib.hid (show decide (xs = ys) = false from decide_eq_false he)
          have HS2 := Lib.hid (show decide (xss = yss) = false from decide_eq_false (HNE.out he))
          rw [HD.out] at HQ
          clear he
          go_wp2_with fail
          (refine wp_region_quiet_below (by kernel_rfl) (by kernel_rfl) ?_; (repeat (quiet_step (exact Calls.regrown_of (HQ.out _ _)))); refine wpQuiet_nil ?_; intro _ hw'; obtain ⟨⟨dq, osq⟩, hw''⟩ := hw'; subst hw'')
          have hb2 := below_at hb hb.size (below_regrown wr dq osq)
          clear rc1 rc2
          go_wp2
          go_ret
          exact ⟨ret_bool HS2.out.symm, hb2⟩
      · have HT := Lib.hid (show xss = yss from same_all HS.out (by omega) HL.out)
        go_wp2
        go_ret
        exact ⟨ret_bool (decide_eq_true HT.out).symm, hb⟩
  · have HL := Lib.hid (show decide (xss = yss) = false from decide_eq_false (fun e => hlen (by rw [e])))
    have hl2 : ((xss.length : Int) != (yss.length : Int)) = true := by simpa using (fun e => hlen (by omega))
    clear hlen
    go_enter Try.func34, Try.ntmps34
    go_wp2
    go_ret
    exact ⟨ret_bool HL.out.symm, Below.refl _ _⟩
/-- numbers from k on, laid over the rows -/
def ions_int (k : Int) : List (List Int) → List (List Int)
  | [] => []
  | zs :: r => lawInt.iota k zs.length :: ions_int (k + zs.length) r
def tot_int (zss : List (List Int)) : Nat := (zss.map List.length).sum
/-- the first j rows numbered -/
def marked_int (k : Int) (zss : List (List Int)) (j : Nat) : List (List Int) := ions_int k (zss.take j) ++ zss.drop j
theorem ions_len_int : ∀ (k : Int) (zss : List (List Int)), (ions_int k zss).length = zss.length
  | _, [] => rfl
  | k, zs :: r => by simp [ions_int, ions_len_int (k + zs.length) r]
theorem ions_snoc_int : ∀ (k : Int) (zss : List (List Int)) (zs : List Int), ions_int k (zss ++ [zs]) = ions_int k zss ++ [lawInt.iota (k + (tot_int zss : Nat)) zs.length]
  | k, [], zs => by simp [ions_int, tot_int]
  | k, a :: r, zs => by
    rw [List.cons_append, ions_int, ions_snoc_int (k + a.length) r zs, ions_int, List.cons_append]
    have e : k + (a.length : Int) + (tot_int r : Nat) = k + (tot_int (a :: r) : Nat) := by simp only [tot_int, List.map_cons, List.sum_cons]; omega
    rw [e]
theorem tot_take_int (zss : List (List Int)) {j : Nat} (h : j < zss.length) : tot_int (zss.take (j + 1)) = tot_int (zss.take j) + zss[j].length := by
  rw [List.take_succ_eq_append_getElem h, tot_int, tot_int, List.map_append, List.sum_append]; simp
theorem tot_le_int (zss : List (List Int)) (j : Nat) : tot_int (zss.take j) ≤ tot_int zss := by
  have : tot_int zss = tot_int (zss.take j) + tot_int (zss.drop j) := by
    rw [tot_int, tot_int, tot_int, ← List.sum_append, ← List.map_append, List.take_append_drop]
  omega
theorem tot_bd_int {zss : List (List Int)} (h : zss.length ≤ 1024) (hr : ∀ zs ∈ zss, zs.length ≤ 1048576) : tot_int zss ≤ 1073741824 := by
  have key : ∀ (l : List (List Int)), (∀ zs ∈ l, zs.length ≤ 1048576) → tot_int l ≤ l.length * 1048576 := by
    intro l
    induction l with
    | nil => intro _; simp [tot_int]
    | cons a l ih =>
      intro h
      have h1 := h a (by simp)
      have h2 := ih (fun z hz => h z (by simp [hz]))
      simp only [tot_int, List.map_cons, List.sum_cons, List.length_cons, Nat.succ_mul] at *
      omega
  have := key zss hr
  omega
theorem marked_len_int (k : Int) (zss : List (List Int)) {j : Nat} (h : j ≤ zss.length) : (marked_int k zss j).length = zss.length := by
  rw [marked_int, List.length_append, ions_len_int, List.length_take, List.length_drop]; omega
theorem marked_at_int (k : Int) (zss : List (List Int)) {j : Nat} (h : j < zss.length) : (marked_int k zss j)[j]? = some zss[j] := by
  rw [marked_int, List.getElem?_append_right (by rw [ions_len_int, List.length_take]; omega), List.getElem?_drop, ions_len_int, List.length_take]
  rw [show j + (j - min j zss.length) = j by omega, List.getElem?_eq_getElem h]
theorem marked_step_int (k : Int) (zss : List (List Int)) {j : Nat} (h : j < zss.length) : (marked_int k zss j).set j (lawInt.iota (k + (tot_int (zss.take j) : Nat)) zss[j].length) = marked_int k zss (j + 1) := by
  have hl : (ions_int k (zss.take j)).length = j := by rw [ions_len_int, List.length_take]; omega
  rw [marked_int, marked_int, List.take_succ_eq_append_getElem h, ions_snoc_int, List.drop_eq_getElem_cons h, List.set_append_right _ _ (by omega), hl, Nat.sub_self, List.set_cons_zero, List.append_assoc]
  rfl
theorem marked_all_int (k : Int) (zss : List (List Int)) : marked_int k zss zss.length = ions_int k zss := by simp [marked_int]
theorem ions_at_int (k : Int) (zss : List (List Int)) {j : Nat} (h : j < zss.length) : (ions_int k zss)[j]? = some (lawInt.iota (k + (tot_int (zss.take j) : Nat)) zss[j].length) := by
  rw [← marked_all_int]
  have h2 : zss.length = j + 1 + (zss.length - (j + 1)) := by omega
  have key : ∀ d, j + 1 + d ≤ zss.length → (marked_int k zss (j + 1 + d))[j]? = some (lawInt.iota (k + (tot_int (zss.take j) : Nat)) zss[j].length) := by
    intro d
    induction d with
    | zero => intro _; rw [Nat.add_zero, ← marked_step_int k zss h, List.getElem?_set_self (by rw [marked_len_int k zss (by omega)]; exact h)]
    | succ d ih =>
      intro hd
      rw [show j + 1 + (d + 1) = (j + 1 + d) + 1 by omega, ← marked_step_int k zss (by omega), List.getElem?_set_ne (by omega)]
      exact ih (by omega)
  rw [h2]; exact key _ (by omega)
theorem io_len_int (k : Int) (n : Nat) : (lawInt.iota k n).length = n := lawInt.len_iota _ _
set_option maxRecDepth 100000 in
set_option maxHeartbeats 1000000 in
theorem mark_int (B : Nat) (A : Option Addr) (c : Nat) (vs : List Value) (zss : List (List Int)) (k : Int) (w : World) (hn : zss.length ≤ 1048576) (hk : 0 ≤ k) (hk2 : k + (tot_int zss : Nat) ≤ 1099511627776) (hB : B ≤ w.heap.size)
    (ho : NL_int w B (.slice A zss.length c) vs zss) :
    Calls Try.prog 35 #[.slice A zss.length c, .int .i64 k] w fun e w' => e = .returned (.int .i64 (k + (tot_int zss : Nat))) ∧ NL_int w' B (.slice A zss.length c) vs (ions_int k zss) ∧ Below B w w' := by
  go_enter Try.func35, Try.ntmps35
  go_wp2
  go_loopg [1, 5] (zss.length + 1) (fun f x i wr => ∃ (j : Nat) (t : Int), zss.length < j + f ∧ j ≤ zss.length ∧ i = .int .i64 (j : Int) ∧ x = .int .i64 t ∧ t = k + (tot_int (zss.take j) : Nat) ∧ NL_int wr B (.slice A zss.length c) vs (marked_int k zss j) ∧ Below B w wr)
  case atStart => exact ⟨0, k, by omega, by omega, rfl, rfl, by simp [tot_int], by rw [marked_int]; simpa [ions_int] using ho, Below.refl _ _⟩
  case round =>
    obtain ⟨j, t, hjf, hj, rfl, rfl, ht, ho, hb⟩ := hrel
    by_cases hlt : j < zss.length
    · have hml := marked_len_int k zss (Nat.le_of_lt hlt)
      obtain ⟨B1, c1, e1, l1, m1, o1⟩ := nl_at_int ho (i := j) (by omega)
      have hat := marked_at_int k zss hlt
      rw [List.getElem?_eq_getElem (by omega)] at hat
      injection hat with hat
      have HLE := Lib.hid hat
      rw [hat] at e1 l1 o1
      have HTK := Lib.hid (tot_take_int zss hlt)
      have HTL := Lib.hid (tot_le_int zss (j + 1))
      have HST := Lib.hid (marked_step_int k zss hlt)
      rw [← ht] at HST
      have HHT := Lib.hid ht
      have hcell := (own_rd (show wr.ownsRow B 22 1 (.slice A zss.length c) zss.length vs by have := ho.top; rwa [hml] at this)).cells (by omega)
      obtain ⟨b, off, rfl, hcell⟩ := hcell
      have hc := hcell j _ e1
      clear hcell hat
      have HO := Lib.hid ho
      have HE1 := Lib.hid e1
      generalize zss[j] = zs at hc l1 o1 HTK HST HLE HE1
      have q1 : (j : Int) < (zss.length : Int) := by omega
      have ht0 : 0 ≤ t := by omega
      have ht2 : t + (zs.length : Nat) ≤ 1099511627776 := by have := HTK.out; have := HTL.out; omega
      have HM := Lib.hid (lawInt.mark_any B B1 zs.length c1 (ints zs) t wr ht0 ht2 o1)
      clear ht ho e1 o1
      go_wp2_with fail
      refine HM.out.mono ?_
      rintro e w1 ⟨rfl, ho1, hg1⟩
      have HN := Lib.hid (show NL_int w1 B (.slice (some ⟨b, off, none⟩) zss.length c) vs (marked_int k zss (j + 1)) by
        rw [← HST.out]
        refine nl_set_int HO.out HE1.out (by omega) (by rw [HLE.out, io_len_int]) (by rw [io_len_int]; exact ho1) hg1)
      have hb1 : Below B w w1 := below_grown hb (Nat.le_trans hB hb.size) hg1 (fun g hg => (nl_rows_lt_int HO.out _ (List.mem_of_getElem? HE1.out) g hg).1)
      have HT2 := Lib.hid (show t + (zs.length : Nat) = k + (tot_int (zss.take (j + 1)) : Nat) by have := HTK.out; have := HHT.out; omega)
      clear ho1 hg1 hc
      go_wp2
      go_roundg (gk - 1)
      case measure => omega
      case rel => exact ⟨j + 1, t + (zs.length : Nat), by omega, by omega, by go_num, rfl, HT2.out, HN.out, hb1⟩
    · obtain rfl : j = zss.length := by omega
      have HE := Lib.hid (show NL_int wr B (.slice A zss.length c) vs (ions_int k zss) by rw [← marked_all_int]; exact ho)
      have HT := Lib.hid (show t = k + (tot_int zss : Nat) by rw [ht, List.take_length])
      clear ho ht
      go_wp2
      go_ret
      exact ⟨ret_int HT.out, HE.out, hb⟩
set_option maxRecDepth 100000 in
set_option maxHeartbeats 1000000 in
theorem held_int (A : Option Addr) (c : Nat) (vs : List Value) (zss : List (List Int)) (k : Int) (w : World) (hn : zss.length ≤ 1048576) (hk : 0 ≤ k) (hk2 : k + (tot_int zss : Nat) ≤ 1099511627776)
    (ho : RdL_int w A vs (ions_int k zss)) :
    Calls Try.prog 36 #[.slice A zss.length c, .int .i64 k] w fun e w' => e = .returned (.int .i64 (k + (tot_int zss : Nat))) ∧ w = w' := by
  have hil := ions_len_int k zss
  go_enter Try.func36, Try.ntmps36
  go_wp2
  go_loopg [1, 5] (zss.length + 1) (fun f x i wr => ∃ (j : Nat) (t : Int), zss.length < j + f ∧ j ≤ zss.length ∧ i = .int .i64 (j : Int) ∧ x = .int .i64 t ∧ t = k + (tot_int (zss.take j) : Nat) ∧ w = wr)
  case atStart => exact ⟨0, k, by omega, by omega, rfl, rfl, by simp [tot_int], rfl⟩
  case round =>
    obtain ⟨j, t, hjf, hj, rfl, rfl, ht, rfl⟩ := hrel
    by_cases hlt : j < zss.length
    · obtain ⟨b, off, rfl, B1, c1, hc, l1, m1, r1⟩ := ho.cell (i := j) (by omega)
      have hat := ions_at_int k zss hlt
      rw [List.getElem?_eq_getElem (by omega)] at hat
      injection hat with hat
      have HTK := Lib.hid (tot_take_int zss hlt)
      have HTL := Lib.hid (tot_le_int zss (j + 1))
      have HHT := Lib.hid ht
      rw [hat, io_len_int, ← ht] at r1
      rw [hat, io_len_int] at hc
      clear hat l1
      generalize zss[j] = zs at hc r1 HTK
      have q1 : (j : Int) < (zss.length : Int) := by omega
      have ht0 : 0 ≤ t := by omega
      have ht2 : t + (zs.length : Nat) ≤ 1099511627776 := by have := HTK.out; have := HTL.out; omega
      have ht3 : ¬ t + (zs.length : Nat) < 0 := by omega
      have HM := Lib.hid (lawInt.held_any B1 zs.length c1 t w ht0 ht2 r1)
      clear ht r1
      go_wp2_with fail
      refine HM.out.mono ?_
      rintro e w1 ⟨rfl, rfl⟩
      have HT2 := Lib.hid (show t + (zs.length : Nat) = k + (tot_int (zss.take (j + 1)) : Nat) by have := HTK.out; have := HHT.out; omega)
      clear hc
      go_wp2
      go_roundg (gk - 1)
      case measure => omega
      case rel => exact ⟨j + 1, t + (zs.length : Nat), by omega, by omega, by go_num, rfl, HT2.out, rfl⟩
    · obtain rfl : j = zss.length := by omega
      have HT := Lib.hid (show t = k + (tot_int zss : Nat) by rw [ht, List.take_length])
      clear ht
      go_wp2
      go_ret
      exact ⟨ret_int HT.out, rfl⟩
end Go.Proofs.Ytgffabjajbgbjaa.lawNest
