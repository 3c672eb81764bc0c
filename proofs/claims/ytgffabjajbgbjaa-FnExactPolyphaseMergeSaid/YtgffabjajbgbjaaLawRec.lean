/- The laws' own helpers for lists of Records: the size, a copy, equality, marks. Condition: lists of at most 2^20 elements where memory is made. -/
import Derived.Test.YtgffabjajbgbjaaRec
import Derived.Deep.RegionWith
set_option linter.unusedVariables false
set_option linter.unusedSimpArgs false
namespace Go.Proofs.Ytgffabjajbgbjaa.lawRec
open Go.RowKit Go.Proofs.Ytgffabjajbgbjaa.mem

set_option maxRecDepth 100000 in
set_option maxHeartbeats 1000000 in
theorem to_one (x0 x1 : Int) (w : World) :
    Calls Try.prog 92 #[.agg #[.int .i64 x0, .int .i64 x1]] w fun e w' => e = .returned (.agg #[.int .i64 x0, .int .i64 x1]) ∧ Below w.heap.size w w' := by
  have b1 : ∀ (B : Nat) (W X : World) (o : Obj), B ≤ X.heap.size → Below B W X → Below B W (X.alloc o) := fun B W X o h k => k.alloc h o
  have b2 : ∀ (X : World) (o : Obj), (X.alloc o).heap.size = X.heap.size + 1 := fun X o => by simp
  have B1 := Lib.hid b1
  have B2 := Lib.hid b2
  clear b1 b2
  go_enter Try.func92, Try.ntmps92
  go_wp2
  exact bodyPost_ret (v := .agg #[.int .i64 x0, .int .i64 x1]) (by simp [results, Try.results92, go_sem]) rfl ⟨rfl, B1.out _ _ _ _ (by rw [B2.out, B2.out]; omega) (B1.out _ _ _ _ (by rw [B2.out]; omega) (B1.out _ _ _ _ (Nat.le_refl _) (Below.refl _ _)))⟩
set_option maxRecDepth 100000 in
set_option maxHeartbeats 2000000 in
theorem to_any (A : Option Addr) (c : Nat) (gs : List Rec) (w : World) (hn : gs.length ≤ 1048576) (hr : Rd w 2 A gs.length (recs gs)) :
    Calls Try.prog 77 #[.slice A gs.length c] w fun e w' => ∃ v, e = .returned v ∧ w'.ownsRow w.heap.size 87 2 v gs.length (recs gs) ∧ Below w.heap.size w w' := by
  have hmk := make_rec (P := Try.prog) 54 87 Try.underlying54 info_rec gs.length (by omega)
  have HL := Lib.hid (len_recs gs)
  go_enter Try.func77, Try.ntmps77
  go_wp2
  go_loopw [4] (fun i wr => ∃ k : Nat, k ≤ gs.length ∧ i = .int .i64 k ∧ Blk wr w.heap.size 87 (filled (recs gs) (.int .i64 0) (k * 2)) ∧ Below w.heap.size w wr) (fun i _ => gs.length - (intOf i).toNat)
  case atStart => exact ⟨0, by omega, rfl, by rw [Nat.zero_mul, ← filled_zero _ _ (gs.length * 2) HL.out]; exact Blk.new _ _ _, (Below.refl _ _).alloc (Nat.le_refl _) _⟩
  case round =>
    obtain ⟨k, hk, rfl, hB, hb⟩ := hrel
    clear hmk
    by_cases hlt : k < gs.length
    · obtain ⟨b, off, rfl, h0, h1⟩ := (hr.below hb).rec hlt
      have HA := Lib.hid (fun j (hj : j < 2) => recs_at gs k j hlt hj)
      obtain ⟨g, hg⟩ : ∃ g, g = gs[k] := ⟨_, rfl⟩
      rw [← hg] at h0 h1 HA
      clear hg
      have hlt2 : k * 2 + 2 ≤ gs.length * 2 := by omega
      go_wp2_with fail
      refine (to_one _ _ _).mono ?_
      rintro e w2 ⟨rfl, hb1⟩
      have hB1 := hB.below hb1 hB.lt
      have hb2 := below_at hb hb.size hb1
      have hB2 := hB1.put (k * 2) (.int .i64 g.key)
      rw [filled_step (recs gs) _ (.int .i64 g.key) (k * 2) (HA.out 0 (by omega))] at hB2
      have hB3 := hB2.put (k * 2 + 1) (.int .i64 g.tag)
      rw [filled_step (recs gs) _ (.int .i64 g.tag) (k * 2 + 1) (HA.out 1 (by omega))] at hB3
      have c0 : w2.cell? ⟨w.heap.size, k * 2, none⟩ = some (.int .i64 0) := by rw [hB1.cell]; exact filled_later (recs gs) _ (by omega) (by rw [HL.out]; omega)
      have f0 := hB1.thaw (k * 2)
      have c1 : w2.cell? ⟨w.heap.size, k * 2 + 1, none⟩ = some (.int .i64 0) := by rw [hB1.cell]; exact filled_later (recs gs) _ (by omega) (by rw [HL.out]; omega)
      have f1 := hB1.thaw (k * 2 + 1)
      have hb3 := ((hb2.setCell (p := ⟨w.heap.size, k * 2, none⟩) (Nat.le_refl _) (.int .i64 g.key)).setCell (p := ⟨w.heap.size, k * 2 + 1, none⟩) (Nat.le_refl _) (.int .i64 g.tag))
      clear hB hB1 hB2
      go_wp2
      go_roundw
      case rel => exact ⟨k + 1, by omega, by go_num, by rw [show (k + 1) * 2 = k * 2 + 1 + 1 by omega]; exact hB3, hb3⟩
      case measure => simp [intOf]; omega
    · have hO : wr.ownsRow w.heap.size 87 2 (.slice (some ⟨w.heap.size, 0, none⟩) gs.length gs.length) gs.length (recs gs) := by
        have e : k * 2 = (recs gs).length := by rw [HL.out, show k = gs.length by omega]
        rw [e, filled_all] at hB
        have h := hB.own (base := w.heap.size) (size := 2) (n := gs.length) (c := gs.length) (Nat.le_refl _) (Nat.le_refl _) (by unfold maxLen; omega) (by simpa using HL.out)
        rwa [← HL.out, List.take_of_length_le (by simp)] at h
      clear hB
      go_wp2
      go_ret
      exact ⟨_, rfl, hO, hb⟩
set_option maxHeartbeats 400000 in
theorem sz_any (A : Option Addr) (c : Nat) (gs : List Rec) (l : Int) (w : World) (h0 : 0 ≤ l) (h1 : l ≤ 1048576) (hn : gs.length ≤ maxLen) (hr : Rd w 2 A gs.length (recs gs)) :
    Calls Try.prog 73 #[.slice A gs.length c, .int .i64 l] w fun e w' => e = .returned (.int .i64 (szv l gs.length)) ∧ w = w' := by
  unfold maxLen at hn
  by_cases h : (gs.length : Int) ≤ l
  · have HE := Lib.hid (szv_pos h)
    go_enter Try.func73, Try.ntmps73
    go_wp2
    go_ret
    exact ⟨ret_int (by rw [HE.out]), rfl⟩
  · have HE := Lib.hid (szv_neg h)
    go_enter Try.func73, Try.ntmps73
    go_wp2
    go_ret
    exact ⟨ret_int (by rw [HE.out]), rfl⟩
set_option maxRecDepth 100000 in
set_option maxHeartbeats 1000000 in
theorem eq_one (x y : Rec) (w : World) :
    Calls Try.prog 86 #[.agg #[.int .i64 x.key, .int .i64 x.tag], .agg #[.int .i64 y.key, .int .i64 y.tag]] w fun e w' => e = .returned (.bool (decide (x = y))) ∧ Below w.heap.size w w' := by
  obtain ⟨x0, x1⟩ := x
  obtain ⟨y0, y1⟩ := y
  have hbb : ∀ o o' : Obj, Below w.heap.size w ((w.alloc o).alloc o') := fun o o' => ((Below.refl _ _).alloc (Nat.le_refl _) o).alloc (by simp) o'
  have HB := Lib.hid hbb
  clear hbb
  by_cases e0 : x0 = y0
  · have q0 : (x0 != y0) = false := by simpa using e0
    have E0 := Lib.hid e0
    clear e0
    by_cases e1 : x1 = y1
    · have q1 : (x1 != y1) = false := by simpa using e1
      have E1 := Lib.hid e1
      clear e1
      have HD := Lib.hid (show decide ((⟨x0, x1⟩ : Rec) = ⟨y0, y1⟩) = true by simp [E0.out, E1.out])
      go_enter Try.func86, Try.ntmps86
      go_wp2
      go_ret
      exact ⟨ret_bool HD.out.symm, HB.out _ _⟩
    · have q1 : (x1 != y1) = true := by simpa using e1
      have E1 := Lib.hid e1
      clear e1
      have HD := Lib.hid (show decide ((⟨x0, x1⟩ : Rec) = ⟨y0, y1⟩) = false by simp [E1.out])
      go_enter Try.func86, Try.ntmps86
      go_wp2
      go_ret
      exact ⟨ret_bool HD.out.symm, HB.out _ _⟩
  · have q0 : (x0 != y0) = true := by simpa using e0
    have E0 := Lib.hid e0
    clear e0
    have HD := Lib.hid (show decide ((⟨x0, x1⟩ : Rec) = ⟨y0, y1⟩) = false by simp [E0.out])
    go_enter Try.func86, Try.ntmps86
    go_wp2
    go_ret
    exact ⟨ret_bool HD.out.symm, HB.out _ _⟩
def upTo (xs ys : List Rec) (k : Nat) : Prop := xs.take k = ys.take k
theorem upTo_step {xs ys : List Rec} {k : Nat} (h : upTo xs ys k) (h1 : k < xs.length) (h2 : k < ys.length) (e : xs[k] = ys[k]) : upTo xs ys (k + 1) := by
  unfold upTo at *
  rw [List.take_add_one, List.take_add_one, h, List.getElem?_eq_getElem h1, List.getElem?_eq_getElem h2, e]
set_option maxRecDepth 100000 in
set_option maxHeartbeats 2000000 in
theorem eqB (A B : Option Addr) (c d : Nat) (xs ys : List Rec) (w : World) (hn : xs.length ≤ maxLen) (hm : ys.length ≤ maxLen) (hx : Rd w 2 A xs.length (recs xs)) (hy : Rd w 2 B ys.length (recs ys)) :
    Calls Try.prog 47 #[.slice A xs.length c, .slice B ys.length d] w fun e w' => e = .returned (.bool (decide (xs = ys))) ∧ Below w.heap.size w w' := by
  unfold maxLen at hn hm
  by_cases hlen : xs.length = ys.length
  · have HL := Lib.hid hlen
    have hle : xs.length ≤ ys.length ∧ ys.length ≤ xs.length := by omega
    have hl2 : ((xs.length : Int) != (ys.length : Int)) = false := by rw [hlen]; simp
    clear hlen
    go_enter Try.func47, Try.ntmps47
    go_wp2
    go_loopw [5] (fun i wr => ∃ k : Nat, k ≤ xs.length ∧ i = .int .i64 k ∧ upTo xs ys k ∧ Below w.heap.size w wr) (fun i _ => xs.length - (intOf i).toNat)
    case atStart => exact ⟨0, by omega, rfl, rfl, Below.refl _ _⟩
    case round =>
      obtain ⟨k, hk, rfl, hu, hb⟩ := hrel
      by_cases hlt : k < xs.length
      · have hlt2 : k < ys.length := by omega
        obtain ⟨b, off, rfl, hx0, hx1⟩ := (hx.below hb).rec hlt
        obtain ⟨b2, off2, rfl, hy0, hy1⟩ := (hy.below hb).rec hlt2
        have HS := Lib.hid (fun e => upTo_step hu hlt hlt2 e)
        have HF := Lib.hid (show ¬ xs[k] = ys[k] → decide (xs = ys) = false from fun he => by
          rw [decide_eq_false_iff_not]; intro e; subst e; exact he rfl)
        clear hu
        generalize xs[k] = x at hx0 hx1 HS HF
        generalize ys[k] = y at hy0 hy1 HS HF
        have q1 : (k : Int) < (xs.length : Int) := by omega
        have q2 : (k : Int) < (ys.length : Int) := by omega
        go_wp2_with fail
        go_region_with (first | (go_at_call 86; refine (eq_one x y _).mono ?_; rintro e w2 ⟨rfl, hb1⟩))
        all_goals
          have hb2 : Below w.heap.size w w2 := below_at (below_drewN hb 1) hb.size hb1
          by_cases he : x = y
          · have hu2 := HS.out he
            have hd : decide (x = y) = true := by simpa using he
            rw [hd]
            clear he hd
            go_wp2
            go_roundw
            case rel => exact ⟨k + 1, by omega, by go_num, hu2, hb2⟩
            case measure => simp [intOf]; omega
          · have HE := Lib.hid (HF.out he)
            have hd : decide (x = y) = false := by simpa using he
            rw [hd]
            clear he hd
            go_wp2
            go_ret
            exact ⟨ret_bool (by rw [HE.out]), hb2⟩
      · have HE := Lib.hid (show decide (xs = ys) = true by
          rw [decide_eq_true_iff]
          unfold upTo at hu
          rwa [List.take_of_length_le (by omega), List.take_of_length_le (by omega)] at hu)
        clear hu
        go_wp2
        go_ret
        exact ⟨ret_bool (by rw [HE.out]), hb⟩
  · have HE := Lib.hid (show decide (xs = ys) = false by rw [decide_eq_false_iff_not]; intro e; subst e; exact hlen rfl)
    have hl2 : ((xs.length : Int) != (ys.length : Int)) = true := by rw [bne_iff_ne]; omega
    clear hlen
    go_enter Try.func47, Try.ntmps47
    go_wp2
    go_ret
    exact ⟨ret_bool (by rw [HE.out]), Below.refl _ _⟩
/-- k, k+1, .. -/
def iota (k : Int) (n : Nat) : List Int := (List.range n).map fun (i : Nat) => k + (i : Int)
theorem len_iota (k : Int) (n : Nat) : (iota k n).length = n := by simp [iota]
theorem iota_at (k : Int) (n j : Nat) (h : j < n) : (ints (iota k n))[j]? = some (.int .i64 (k + j)) := by simp [ints, iota, h]
def marked (cur : Array Value) (k : Int) (j : Nat) : Array Value := (ints (iota k j) ++ cur.toList.drop j).toArray
theorem marked_zero (cur : Array Value) (k : Int) : marked cur k 0 = cur := by simp [marked, iota, ints]
theorem marked_size (cur : Array Value) (k : Int) (j : Nat) (h : j ≤ cur.size) : (marked cur k j).size = cur.size := by
  simp [marked, len_ints, len_iota]; omega
theorem marked_at (cur : Array Value) (k : Int) (j i : Nat) (hj : j ≤ i) (h : i < cur.size) : (marked cur k j)[i]? = cur[i]? := by
  simp only [marked, List.getElem?_toArray]
  rw [List.getElem?_append_right (by rw [len_ints, len_iota]; omega), len_ints, len_iota, List.getElem?_drop, show j + (i - j) = i by omega]
  simp
theorem marked_step (cur : Array Value) (k : Int) (j : Nat) (h : j < cur.size) : (marked cur k j).setIfInBounds j (.int .i64 (k + j)) = marked cur k (j + 1) := by
  have hl : j < cur.toList.length := by simpa using h
  simp only [marked, List.setIfInBounds_toArray]
  rw [List.set_append_right _ _ (by rw [len_ints, len_iota]; omega), len_ints, len_iota, Nat.sub_self, List.drop_eq_getElem_cons hl, List.set_cons_zero]
  congr 1
  have e : ints (iota k (j + 1)) = ints (iota k j) ++ [.int .i64 (k + j)] := by simp [ints, iota, List.range_succ]
  rw [e, List.append_assoc]
  rfl
theorem marked_take (cur : Array Value) (k : Int) (n : Nat) : (marked cur k n).toList.take n = ints (iota k n) := by
  simp only [marked]
  rw [List.take_append_of_le_length (by rw [len_ints, len_iota]; omega), List.take_of_length_le (by rw [len_ints, len_iota]; omega)]

set_option maxRecDepth 100000 in
set_option maxHeartbeats 2000000 in
theorem mark_any (B : Nat) (A : Option Addr) (n c : Nat) (xs : List Value) (k : Int) (w : World) (hk : 0 ≤ k) (hk2 : k + (n * 2 : Nat) ≤ 1099511627776)
    (ho : w.ownsRow B 87 2 (.slice A n c) n xs) :
    Calls Try.prog 48 #[.slice A n c, .int .i64 k] w fun e w' => e = .returned (.int .i64 (k + (n * 2 : Nat))) ∧ w'.ownsRow B 87 2 (.slice A n c) n (ints (iota k (n * 2))) ∧ w.grownBy w' (Value.slice A n c).ownBlock := by
  rcases ho.2 with ⟨hv, rfl⟩ | ⟨g, cap, cur, hv, hb, hg, hnc, hcm, hcs, htake⟩
  · injection hv with hA _ hc
    subst hA; subst hc
    go_enter Try.func48, Try.ntmps48
    go_wp2
    refine wp_loop_rounds 1 ?_
    rw [rounds_succ]
    go_wp2
    go_ret
    exact ⟨ret_int (by simp), by rw [show (0 * 2) = 0 from rfl]; exact World.ownsRow_nil _ _ _ _, World.grownBy.refl _ _⟩
  · injection hv with hA _ hc
    subst hA; subst hc
    have hgB : Blk w g 87 cur := hg
    have HCS := Lib.hid hcs
    have hsz : n * 2 ≤ cur.size := by rw [hcs]; exact Nat.mul_le_mul_right _ hnc
    clear hcs htake hg ho
    go_enter Try.func48, Try.ntmps48
    go_wp2
    go_loopw [1, 5] (fun x i wr => ∃ j : Nat, j ≤ n ∧ i = .int .i64 j ∧ x = .int .i64 (k + (j * 2 : Nat)) ∧ Blk wr g 87 (marked cur k (j * 2)) ∧ w.grownBy wr (some g)) (fun _ i _ => n - (intOf i).toNat)
    case atStart => exact ⟨0, by omega, rfl, by go_num, by rw [Nat.zero_mul, marked_zero]; exact hgB, World.grownBy.refl _ _⟩
    case round =>
      obtain ⟨j, hj, rfl, rfl, hB0, hgr0⟩ := hrel
      by_cases hlt : j < n
      · have hlt2 : j * 2 + 2 ≤ cur.size := by omega
        have hu0 := getElem_of cur (j * 2) (by omega)
        obtain ⟨u0, hu0⟩ := hu0
        have hu1 := getElem_of cur (j * 2 + 1) (by omega)
        obtain ⟨u1, hu1⟩ := hu1
        have hB1 := hB0.put (j * 2) (.int .i64 (k + ((j * 2 : Nat) : Int)))
        rw [marked_step cur k (j * 2) (by omega)] at hB1
        have hgr1 := only_put hgr0 (j * 2) (.int .i64 (k + ((j * 2 : Nat) : Int)))
        have hB2 := hB1.put (j * 2 + 1) (.int .i64 (k + ((j * 2 + 1 : Nat) : Int)))
        rw [marked_step cur k (j * 2 + 1) (by omega)] at hB2
        have hgr2 := only_put hgr1 (j * 2 + 1) (.int .i64 (k + ((j * 2 + 1 : Nat) : Int)))
        have c0 : wr.cell? ⟨g, j * 2, none⟩ = some u0 := by rw [hB0.cell, marked_at _ _ _ _ (by omega) (by omega), hu0]
        have f0 := hB0.thaw (j * 2)
        have c1 : (wr.setCell ⟨g, j * 2, none⟩ (.int .i64 (k + ((j * 2 : Nat) : Int)))).cell? ⟨g, j * 2 + 1, none⟩ = some u1 := by rw [hB1.cell, marked_at _ _ _ _ (by omega) (by omega), hu1]
        have f1 := hB1.thaw (j * 2 + 1)
        have s0 : k + ((j * 2 : Nat) : Int) = k + ((j * 2 : Nat) : Int) := by omega
        have s1 : k + ((j * 2 + 1 : Nat) : Int) = k + ((j * 2 : Nat) : Int) + 1 := by omega
        rw [s1] at hB2 hgr2
        clear hu0 hu1 hB0 hB1 hgr0 hgr1 s0 s1
        obtain ⟨K, hK⟩ : ∃ K : Int, K = k + ((j * 2 : Nat) : Int) := ⟨_, rfl⟩
        have hKb : 0 ≤ K ∧ K ≤ 1099511627776 := by omega
        rw [← hK] at c1 hB2 hgr2 f1
        rw [← hK]
        have HK := Lib.hid hK
        clear hK
        go_wp2
        go_roundw
        case rel => exact ⟨j + 1, by omega, by go_num, by rw [show k + (((j + 1) * 2 : Nat) : Int) = K + 1 + 1 by have := HK.out; omega], by rw [show (j + 1) * 2 = j * 2 + 1 + 1 by omega]; exact hB2, hgr2⟩
        case measure => simp [intOf]; omega
      · have e : j = n := by omega
        have hO : wr.ownsRow B 87 2 (.slice (some ⟨g, 0, none⟩) n c) n (ints (iota k (n * 2))) := by
          subst e
          have h := hB0.own (base := B) (size := 2) (n := j) (c := c) hb hnc hcm (by rw [marked_size _ _ _ (by omega), HCS.out])
          rwa [marked_take] at h
        have HE := Lib.hid (show k + ((j * 2 : Nat) : Int) = k + ((n * 2 : Nat) : Int) by rw [e])
        clear hB0 e
        go_wp2
        go_ret
        exact ⟨ret_int HE.out, hO, hgr0⟩
set_option maxRecDepth 100000 in
set_option maxHeartbeats 2000000 in
theorem held_any (A : Option Addr) (n c : Nat) (k : Int) (w : World) (hk : 0 ≤ k) (hk2 : k + (n * 2 : Nat) ≤ 1099511627776)
    (hr : Rd w 2 A n (ints (iota k (n * 2)))) :
    Calls Try.prog 49 #[.slice A n c, .int .i64 k] w fun e w' => e = .returned (.int .i64 (k + (n * 2 : Nat))) ∧ w = w' := by
  go_enter Try.func49, Try.ntmps49
  go_wp2
  go_loop [1, 5] (fun x i => ∃ j : Nat, j ≤ n ∧ i = .int .i64 j ∧ x = .int .i64 (k + (j * 2 : Nat))) (fun _ i => n - (intOf i).toNat)
  case atStart => exact ⟨0, by omega, rfl, by go_num⟩
  case round =>
    obtain ⟨j, hj, rfl, rfl⟩ := hrel
    by_cases hlt : j < n
    · obtain ⟨b, off, rfl, hcells⟩ := hr.cells (by omega)
      have hlt2 : j * 2 + 2 ≤ n * 2 := by omega
      have c0 := hcells (j * 2) _ (iota_at k (n * 2) (j * 2) (by omega))
      have s0 : k + ((j * 2 : Nat) : Int) = k + ((j * 2 : Nat) : Int) := by omega
      have c1 := hcells (j * 2 + 1) _ (iota_at k (n * 2) (j * 2 + 1) (by omega))
      have s1 : k + ((j * 2 + 1 : Nat) : Int) = k + ((j * 2 : Nat) : Int) + 1 := by omega
      rw [s1] at c1
      rw [show off + (j * 2 + 1) = off + j * 2 + 1 by omega] at c1
      clear hcells s0 s1
      obtain ⟨K, hK⟩ : ∃ K : Int, K = k + ((j * 2 : Nat) : Int) := ⟨_, rfl⟩
      have hKb : 0 ≤ K ∧ K ≤ 1099511627776 := by omega
      rw [← hK] at c0 c1
      rw [← hK]
      have HK := Lib.hid hK
      clear hK
      go_wp2
      go_round
      case rel => exact ⟨j + 1, by omega, by go_num, by rw [show k + (((j + 1) * 2 : Nat) : Int) = K + 1 + 1 by have := HK.out; omega]⟩
      case measure => simp [intOf]; omega
    · have e : j = n := by omega
      have HE := Lib.hid (show k + ((j * 2 : Nat) : Int) = k + ((n * 2 : Nat) : Int) by rw [e])
      clear e
      go_wp2
      go_ret
      exact ⟨ret_int HE.out, rfl⟩
end Go.Proofs.Ytgffabjajbgbjaa.lawRec
