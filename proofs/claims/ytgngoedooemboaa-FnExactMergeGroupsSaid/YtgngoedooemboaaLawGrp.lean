/- The laws' own helpers for lists of Groups: the size, a copy, equality, marks. Condition: lists of at most 2^20 elements where memory is made. -/
import Derived.Test.YtgngoedooemboaaGrp
import Derived.Deep.RegionWith
set_option linter.unusedVariables false
set_option linter.unusedSimpArgs false
namespace Go.Proofs.Ytgngoedooemboaa.lawGroup
open Go.RowKit Go.Proofs.Ytgngoedooemboaa.mem

set_option maxRecDepth 100000 in
set_option maxHeartbeats 1000000 in
theorem to_one (x0 x1 x2 x3 x4 : Int) (w : World) :
    Calls Try.prog 53 #[.agg #[.int .i64 x0, .int .i64 x1, .int .i64 x2, .int .i64 x3, .int .i64 x4]] w fun e w' => e = .returned (.agg #[.int .i64 x0, .int .i64 x1, .int .i64 x2, .int .i64 x3, .int .i64 x4]) ∧ Below w.heap.size w w' := by
  have b1 : ∀ (B : Nat) (W X : World) (o : Obj), B ≤ X.heap.size → Below B W X → Below B W (X.alloc o) := fun B W X o h k => k.alloc h o
  have b2 : ∀ (X : World) (o : Obj), (X.alloc o).heap.size = X.heap.size + 1 := fun X o => by simp
  have B1 := Lib.hid b1
  have B2 := Lib.hid b2
  clear b1 b2
  go_enter Try.func53, Try.ntmps53
  go_wp2
  exact bodyPost_ret (v := .agg #[.int .i64 x0, .int .i64 x1, .int .i64 x2, .int .i64 x3, .int .i64 x4]) (by simp [results, Try.results53, go_sem]) rfl ⟨rfl, B1.out _ _ _ _ (by rw [B2.out, B2.out]; omega) (B1.out _ _ _ _ (by rw [B2.out]; omega) (B1.out _ _ _ _ (Nat.le_refl _) (Below.refl _ _)))⟩
set_option maxRecDepth 100000 in
set_option maxHeartbeats 2000000 in
theorem to_any (A : Option Addr) (c : Nat) (gs : List Grp) (w : World) (hn : gs.length ≤ 1048576) (hr : Rd w 5 A gs.length (grps gs)) :
    Calls Try.prog 16 #[.slice A gs.length c] w fun e w' => ∃ v, e = .returned v ∧ w'.ownsRow w.heap.size 71 5 v gs.length (grps gs) ∧ Below w.heap.size w w' := by
  have hmk := make_grp (P := Try.prog) 25 71 Try.underlying25 info_grp gs.length (by omega)
  have HL := Lib.hid (len_grps gs)
  go_enter Try.func16, Try.ntmps16
  go_wp2
  go_loopw [4] (fun i wr => ∃ k : Nat, k ≤ gs.length ∧ i = .int .i64 k ∧ Blk wr w.heap.size 71 (filled (grps gs) (.int .i64 0) (k * 5)) ∧ Below w.heap.size w wr) (fun i _ => gs.length - (intOf i).toNat)
  case atStart => exact ⟨0, by omega, rfl, by rw [Nat.zero_mul, ← filled_zero _ _ (gs.length * 5) HL.out]; exact Blk.new _ _ _, (Below.refl _ _).alloc (Nat.le_refl _) _⟩
  case round =>
    obtain ⟨k, hk, rfl, hB, hb⟩ := hrel
    clear hmk
    by_cases hlt : k < gs.length
    · obtain ⟨b, off, rfl, h0, h1, h2, h3, h4⟩ := (hr.below hb).grp hlt
      have HA := Lib.hid (fun j (hj : j < 5) => grps_at gs k j hlt hj)
      obtain ⟨g, hg⟩ : ∃ g, g = gs[k] := ⟨_, rfl⟩
      rw [← hg] at h0 h1 h2 h3 h4 HA
      clear hg
      have hlt2 : k * 5 + 5 ≤ gs.length * 5 := by omega
      go_wp2_with fail
      refine (to_one _ _ _ _ _ _).mono ?_
      rintro e w2 ⟨rfl, hb1⟩
      have hB1 := hB.below hb1 hB.lt
      have hb2 := below_at hb hb.size hb1
      have hB2 := hB1.put (k * 5) (.int .i64 g.key)
      rw [filled_step (grps gs) _ (.int .i64 g.key) (k * 5) (HA.out 0 (by omega))] at hB2
      have hB3 := hB2.put (k * 5 + 1) (.int .i64 g.count)
      rw [filled_step (grps gs) _ (.int .i64 g.count) (k * 5 + 1) (HA.out 1 (by omega))] at hB3
      have hB4 := hB3.put (k * 5 + 2) (.int .i64 g.sum)
      rw [filled_step (grps gs) _ (.int .i64 g.sum) (k * 5 + 2) (HA.out 2 (by omega))] at hB4
      have hB5 := hB4.put (k * 5 + 3) (.int .i64 g.least)
      rw [filled_step (grps gs) _ (.int .i64 g.least) (k * 5 + 3) (HA.out 3 (by omega))] at hB5
      have hB6 := hB5.put (k * 5 + 4) (.int .i64 g.most)
      rw [filled_step (grps gs) _ (.int .i64 g.most) (k * 5 + 4) (HA.out 4 (by omega))] at hB6
      have c0 : w2.cell? ⟨w.heap.size, k * 5, none⟩ = some (.int .i64 0) := by rw [hB1.cell]; exact filled_later (grps gs) _ (by omega) (by rw [HL.out]; omega)
      have f0 := hB1.thaw (k * 5)
      have c1 : w2.cell? ⟨w.heap.size, k * 5 + 1, none⟩ = some (.int .i64 0) := by rw [hB1.cell]; exact filled_later (grps gs) _ (by omega) (by rw [HL.out]; omega)
      have f1 := hB1.thaw (k * 5 + 1)
      have c2 : w2.cell? ⟨w.heap.size, k * 5 + 2, none⟩ = some (.int .i64 0) := by rw [hB1.cell]; exact filled_later (grps gs) _ (by omega) (by rw [HL.out]; omega)
      have f2 := hB1.thaw (k * 5 + 2)
      have c3 : w2.cell? ⟨w.heap.size, k * 5 + 3, none⟩ = some (.int .i64 0) := by rw [hB1.cell]; exact filled_later (grps gs) _ (by omega) (by rw [HL.out]; omega)
      have f3 := hB1.thaw (k * 5 + 3)
      have c4 : w2.cell? ⟨w.heap.size, k * 5 + 4, none⟩ = some (.int .i64 0) := by rw [hB1.cell]; exact filled_later (grps gs) _ (by omega) (by rw [HL.out]; omega)
      have f4 := hB1.thaw (k * 5 + 4)
      have hb3 := (((((hb2.setCell (p := ⟨w.heap.size, k * 5, none⟩) (Nat.le_refl _) (.int .i64 g.key)).setCell (p := ⟨w.heap.size, k * 5 + 1, none⟩) (Nat.le_refl _) (.int .i64 g.count)).setCell (p := ⟨w.heap.size, k * 5 + 2, none⟩) (Nat.le_refl _) (.int .i64 g.sum)).setCell (p := ⟨w.heap.size, k * 5 + 3, none⟩) (Nat.le_refl _) (.int .i64 g.least)).setCell (p := ⟨w.heap.size, k * 5 + 4, none⟩) (Nat.le_refl _) (.int .i64 g.most))
      clear hB hB1 hB2 hB3 hB4 hB5
      go_wp2
      go_roundw
      case rel => exact ⟨k + 1, by omega, by go_num, by rw [show (k + 1) * 5 = k * 5 + 4 + 1 by omega]; exact hB6, hb3⟩
      case measure => simp [intOf]; omega
    · have hO : wr.ownsRow w.heap.size 71 5 (.slice (some ⟨w.heap.size, 0, none⟩) gs.length gs.length) gs.length (grps gs) := by
        have e : k * 5 = (grps gs).length := by rw [HL.out, show k = gs.length by omega]
        rw [e, filled_all] at hB
        have h := hB.own (base := w.heap.size) (size := 5) (n := gs.length) (c := gs.length) (Nat.le_refl _) (Nat.le_refl _) (by unfold maxLen; omega) (by simpa using HL.out)
        rwa [← HL.out, List.take_of_length_le (by simp)] at h
      clear hB
      go_wp2
      go_ret
      exact ⟨_, rfl, hO, hb⟩
set_option maxHeartbeats 400000 in
theorem sz_any (A : Option Addr) (c : Nat) (gs : List Grp) (l : Int) (w : World) (h0 : 0 ≤ l) (h1 : l ≤ 1048576) (hn : gs.length ≤ maxLen) (hr : Rd w 5 A gs.length (grps gs)) :
    Calls Try.prog 14 #[.slice A gs.length c, .int .i64 l] w fun e w' => e = .returned (.int .i64 (szv l gs.length)) ∧ w = w' := by
  unfold maxLen at hn
  by_cases h : (gs.length : Int) ≤ l
  · have HE := Lib.hid (szv_pos h)
    go_enter Try.func14, Try.ntmps14
    go_wp2
    go_ret
    exact ⟨ret_int (by rw [HE.out]), rfl⟩
  · have HE := Lib.hid (szv_neg h)
    go_enter Try.func14, Try.ntmps14
    go_wp2
    go_ret
    exact ⟨ret_int (by rw [HE.out]), rfl⟩
set_option maxRecDepth 100000 in
set_option maxHeartbeats 1000000 in
theorem eq_one (x y : Grp) (w : World) :
    Calls Try.prog 55 #[.agg #[.int .i64 x.key, .int .i64 x.count, .int .i64 x.sum, .int .i64 x.least, .int .i64 x.most], .agg #[.int .i64 y.key, .int .i64 y.count, .int .i64 y.sum, .int .i64 y.least, .int .i64 y.most]] w fun e w' => e = .returned (.bool (decide (x = y))) ∧ Below w.heap.size w w' := by
  obtain ⟨x0, x1, x2, x3, x4⟩ := x
  obtain ⟨y0, y1, y2, y3, y4⟩ := y
  have hbb : ∀ o o' : Obj, Below w.heap.size w ((w.alloc o).alloc o') := fun o o' => ((Below.refl _ _).alloc (Nat.le_refl _) o).alloc (by simp) o'
  have HB := Lib.hid hbb
  clear hbb
  by_cases e0 : x0 = y0
  · have q0 : (x0 != y0) = false := by simpa using e0
    have E0 := Lib.hid e0
    clear e0
    by_cases e1 : x1 = y1
    · have q1 : (x1 != y1) = false := by simpa using e1
      have E1 := Lib.hid e1
      clear e1
      by_cases e2 : x2 = y2
      · have q2 : (x2 != y2) = false := by simpa using e2
        have E2 := Lib.hid e2
        clear e2
        by_cases e3 : x3 = y3
        · have q3 : (x3 != y3) = false := by simpa using e3
          have E3 := Lib.hid e3
          clear e3
          by_cases e4 : x4 = y4
          · have q4 : (x4 != y4) = false := by simpa using e4
            have E4 := Lib.hid e4
            clear e4
            have HD := Lib.hid (show decide ((⟨x0, x1, x2, x3, x4⟩ : Grp) = ⟨y0, y1, y2, y3, y4⟩) = true by simp [E0.out, E1.out, E2.out, E3.out, E4.out])
            go_enter Try.func55, Try.ntmps55
            go_wp2
            go_ret
            exact ⟨ret_bool HD.out.symm, HB.out _ _⟩
          · have q4 : (x4 != y4) = true := by simpa using e4
            have E4 := Lib.hid e4
            clear e4
            have HD := Lib.hid (show decide ((⟨x0, x1, x2, x3, x4⟩ : Grp) = ⟨y0, y1, y2, y3, y4⟩) = false by simp [E4.out])
            go_enter Try.func55, Try.ntmps55
            go_wp2
            go_ret
            exact ⟨ret_bool HD.out.symm, HB.out _ _⟩
        · have q3 : (x3 != y3) = true := by simpa using e3
          have E3 := Lib.hid e3
          clear e3
          have HD := Lib.hid (show decide ((⟨x0, x1, x2, x3, x4⟩ : Grp) = ⟨y0, y1, y2, y3, y4⟩) = false by simp [E3.out])
          go_enter Try.func55, Try.ntmps55
          go_wp2
          go_ret
          exact ⟨ret_bool HD.out.symm, HB.out _ _⟩
      · have q2 : (x2 != y2) = true := by simpa using e2
        have E2 := Lib.hid e2
        clear e2
        have HD := Lib.hid (show decide ((⟨x0, x1, x2, x3, x4⟩ : Grp) = ⟨y0, y1, y2, y3, y4⟩) = false by simp [E2.out])
        go_enter Try.func55, Try.ntmps55
        go_wp2
        go_ret
        exact ⟨ret_bool HD.out.symm, HB.out _ _⟩
    · have q1 : (x1 != y1) = true := by simpa using e1
      have E1 := Lib.hid e1
      clear e1
      have HD := Lib.hid (show decide ((⟨x0, x1, x2, x3, x4⟩ : Grp) = ⟨y0, y1, y2, y3, y4⟩) = false by simp [E1.out])
      go_enter Try.func55, Try.ntmps55
      go_wp2
      go_ret
      exact ⟨ret_bool HD.out.symm, HB.out _ _⟩
  · have q0 : (x0 != y0) = true := by simpa using e0
    have E0 := Lib.hid e0
    clear e0
    have HD := Lib.hid (show decide ((⟨x0, x1, x2, x3, x4⟩ : Grp) = ⟨y0, y1, y2, y3, y4⟩) = false by simp [E0.out])
    go_enter Try.func55, Try.ntmps55
    go_wp2
    go_ret
    exact ⟨ret_bool HD.out.symm, HB.out _ _⟩
def upTo (xs ys : List Grp) (k : Nat) : Prop := xs.take k = ys.take k
theorem upTo_step {xs ys : List Grp} {k : Nat} (h : upTo xs ys k) (h1 : k < xs.length) (h2 : k < ys.length) (e : xs[k] = ys[k]) : upTo xs ys (k + 1) := by
  unfold upTo at *
  rw [List.take_add_one, List.take_add_one, h, List.getElem?_eq_getElem h1, List.getElem?_eq_getElem h2, e]
set_option maxRecDepth 100000 in
set_option maxHeartbeats 2000000 in
theorem eqB (A B : Option Addr) (c d : Nat) (xs ys : List Grp) (w : World) (hn : xs.length ≤ maxLen) (hm : ys.length ≤ maxLen) (hx : Rd w 5 A xs.length (grps xs)) (hy : Rd w 5 B ys.length (grps ys)) :
    Calls Try.prog 18 #[.slice A xs.length c, .slice B ys.length d] w fun e w' => e = .returned (.bool (decide (xs = ys))) ∧ Below w.heap.size w w' := by
  unfold maxLen at hn hm
  by_cases hlen : xs.length = ys.length
  · have HL := Lib.hid hlen
    have hle : xs.length ≤ ys.length ∧ ys.length ≤ xs.length := by omega
    have hl2 : ((xs.length : Int) != (ys.length : Int)) = false := by rw [hlen]; simp
    clear hlen
    go_enter Try.func18, Try.ntmps18
    go_wp2
    go_loopw [5] (fun i wr => ∃ k : Nat, k ≤ xs.length ∧ i = .int .i64 k ∧ upTo xs ys k ∧ Below w.heap.size w wr) (fun i _ => xs.length - (intOf i).toNat)
    case atStart => exact ⟨0, by omega, rfl, rfl, Below.refl _ _⟩
    case round =>
      obtain ⟨k, hk, rfl, hu, hb⟩ := hrel
      by_cases hlt : k < xs.length
      · have hlt2 : k < ys.length := by omega
        obtain ⟨b, off, rfl, hx0, hx1, hx2, hx3, hx4⟩ := (hx.below hb).grp hlt
        obtain ⟨b2, off2, rfl, hy0, hy1, hy2, hy3, hy4⟩ := (hy.below hb).grp hlt2
        have HS := Lib.hid (fun e => upTo_step hu hlt hlt2 e)
        have HF := Lib.hid (show ¬ xs[k] = ys[k] → decide (xs = ys) = false from fun he => by
          rw [decide_eq_false_iff_not]; intro e; subst e; exact he rfl)
        clear hu
        generalize xs[k] = x at hx0 hx1 hx2 hx3 hx4 HS HF
        generalize ys[k] = y at hy0 hy1 hy2 hy3 hy4 HS HF
        have q1 : (k : Int) < (xs.length : Int) := by omega
        have q2 : (k : Int) < (ys.length : Int) := by omega
        go_wp2_with fail
        go_region_with (first | (go_at_call 55; refine (eq_one x y _).mono ?_; rintro e w2 ⟨rfl, hb1⟩))
        all_goals
          have hb2 : Below w.heap.size w w2 := below_at (below_drewN hb 1) hb.size hb1
          by_cases he : x = y
          · have hu2 := HS.out he
            have hd : decide (x = y) = true := by simpa using he
            rw [hd]
            clear he hd
            go_wp2
            go_roundw
            case rel => exact ⟨k + 1, by omega, by go_num, hu2, hb2⟩
            case measure => simp [intOf]; omega
          · have HE := Lib.hid (HF.out he)
            have hd : decide (x = y) = false := by simpa using he
            rw [hd]
            clear he hd
            go_wp2
            go_ret
            exact ⟨ret_bool (by rw [HE.out]), hb2⟩
      · have HE := Lib.hid (show decide (xs = ys) = true by
          rw [decide_eq_true_iff]
          unfold upTo at hu
          rwa [List.take_of_length_le (by omega), List.take_of_length_le (by omega)] at hu)
        clear hu
        go_wp2
        go_ret
        exact ⟨ret_bool (by rw [HE.out]), hb⟩
  · have HE := Lib.hid (show decide (xs = ys) = false by rw [decide_eq_false_iff_not]; intro e; subst e; exact hlen rfl)
    have hl2 : ((xs.length : Int) != (ys.length : Int)) = true := by rw [bne_iff_ne]; omega
    clear hlen
    go_enter Try.func18, Try.ntmps18
    go_wp2
    go_ret
    exact ⟨ret_bool (by rw [HE.out]), Below.refl _ _⟩
/-- k, k+1, .. -/
def iota (k : Int) (n : Nat) : List Int := (List.range n).map fun (i : Nat) => k + (i : Int)
theorem len_iota (k : Int) (n : Nat) : (iota k n).length = n := by simp [iota]
theorem iota_at (k : Int) (n j : Nat) (h : j < n) : (ints (iota k n))[j]? = some (.int .i64 (k + j)) := by simp [ints, iota, h]
def marked (cur : Array Value) (k : Int) (j : Nat) : Array Value := (ints (iota k j) ++ cur.toList.drop j).toArray
theorem marked_zero (cur : Array Value) (k : Int) : marked cur k 0 = cur := by simp [marked, iota, ints]
theorem marked_size (cur : Array Value) (k : Int) (j : Nat) (h : j ≤ cur.size) : (marked cur k j).size = cur.size := by
  simp [marked, len_ints, len_iota]; omega
theorem marked_at (cur : Array Value) (k : Int) (j i : Nat) (hj : j ≤ i) (h : i < cur.size) : (marked cur k j)[i]? = cur[i]? := by
  simp only [marked, List.getElem?_toArray]
  rw [List.getElem?_append_right (by rw [len_ints, len_iota]; omega), len_ints, len_iota, List.getElem?_drop, show j + (i - j) = i by omega]
  simp
theorem marked_step (cur : Array Value) (k : Int) (j : Nat) (h : j < cur.size) : (marked cur k j).setIfInBounds j (.int .i64 (k + j)) = marked cur k (j + 1) := by
  have hl : j < cur.toList.length := by simpa using h
  simp only [marked, List.setIfInBounds_toArray]
  rw [List.set_append_right _ _ (by rw [len_ints, len_iota]; omega), len_ints, len_iota, Nat.sub_self, List.drop_eq_getElem_cons hl, List.set_cons_zero]
  congr 1
  have e : ints (iota k (j + 1)) = ints (iota k j) ++ [.int .i64 (k + j)] := by simp [ints, iota, List.range_succ]
  rw [e, List.append_assoc]
  rfl
theorem marked_take (cur : Array Value) (k : Int) (n : Nat) : (marked cur k n).toList.take n = ints (iota k n) := by
  simp only [marked]
  rw [List.take_append_of_le_length (by rw [len_ints, len_iota]; omega), List.take_of_length_le (by rw [len_ints, len_iota]; omega)]

set_option maxRecDepth 100000 in
set_option maxHeartbeats 2000000 in
theorem mark_any (B : Nat) (A : Option Addr) (n c : Nat) (xs : List Value) (k : Int) (w : World) (hk : 0 ≤ k) (hk2 : k + (n * 5 : Nat) ≤ 1099511627776)
    (ho : w.ownsRow B 71 5 (.slice A n c) n xs) :
    Calls Try.prog 37 #[.slice A n c, .int .i64 k] w fun e w' => e = .returned (.int .i64 (k + (n * 5 : Nat))) ∧ w'.ownsRow B 71 5 (.slice A n c) n (ints (iota k (n * 5))) ∧ w.grownBy w' (Value.slice A n c).ownBlock := by
  rcases ho.2 with ⟨hv, rfl⟩ | ⟨g, cap, cur, hv, hb, hg, hnc, hcm, hcs, htake⟩
  · injection hv with hA _ hc
    subst hA; subst hc
    go_enter Try.func37, Try.ntmps37
    go_wp2
    refine wp_loop_rounds 1 ?_
    rw [rounds_succ]
    go_wp2
    go_ret
    exact ⟨ret_int (by simp), by rw [show (0 * 5) = 0 from rfl]; exact World.ownsRow_nil _ _ _ _, World.grownBy.refl _ _⟩
  · injection hv with hA _ hc
    subst hA; subst hc
    have hgB : Blk w g 71 cur := hg
    have HCS := Lib.hid hcs
    have hsz : n * 5 ≤ cur.size := by rw [hcs]; exact Nat.mul_le_mul_right _ hnc
    clear hcs htake hg ho
    go_enter Try.func37, Try.ntmps37
    go_wp2
    go_loopw [1, 5] (fun x i wr => ∃ j : Nat, j ≤ n ∧ i = .int .i64 j ∧ x = .int .i64 (k + (j * 5 : Nat)) ∧ Blk wr g 71 (marked cur k (j * 5)) ∧ w.grownBy wr (some g)) (fun _ i _ => n - (intOf i).toNat)
    case atStart => exact ⟨0, by omega, rfl, by go_num, by rw [Nat.zero_mul, marked_zero]; exact hgB, World.grownBy.refl _ _⟩
    case round =>
      obtain ⟨j, hj, rfl, rfl, hB0, hgr0⟩ := hrel
      by_cases hlt : j < n
      · have hlt2 : j * 5 + 5 ≤ cur.size := by omega
        have hu0 := getElem_of cur (j * 5) (by omega)
        obtain ⟨u0, hu0⟩ := hu0
        have hu1 := getElem_of cur (j * 5 + 1) (by omega)
        obtain ⟨u1, hu1⟩ := hu1
        have hu2 := getElem_of cur (j * 5 + 2) (by omega)
        obtain ⟨u2, hu2⟩ := hu2
        have hu3 := getElem_of cur (j * 5 + 3) (by omega)
        obtain ⟨u3, hu3⟩ := hu3
        have hu4 := getElem_of cur (j * 5 + 4) (by omega)
        obtain ⟨u4, hu4⟩ := hu4
        have hB1 := hB0.put (j * 5) (.int .i64 (k + ((j * 5 : Nat) : Int)))
        rw [marked_step cur k (j * 5) (by omega)] at hB1
        have hgr1 := only_put hgr0 (j * 5) (.int .i64 (k + ((j * 5 : Nat) : Int)))
        have hB2 := hB1.put (j * 5 + 1) (.int .i64 (k + ((j * 5 + 1 : Nat) : Int)))
        rw [marked_step cur k (j * 5 + 1) (by omega)] at hB2
        have hgr2 := only_put hgr1 (j * 5 + 1) (.int .i64 (k + ((j * 5 + 1 : Nat) : Int)))
        have hB3 := hB2.put (j * 5 + 2) (.int .i64 (k + ((j * 5 + 2 : Nat) : Int)))
        rw [marked_step cur k (j * 5 + 2) (by omega)] at hB3
        have hgr3 := only_put hgr2 (j * 5 + 2) (.int .i64 (k + ((j * 5 + 2 : Nat) : Int)))
        have hB4 := hB3.put (j * 5 + 3) (.int .i64 (k + ((j * 5 + 3 : Nat) : Int)))
        rw [marked_step cur k (j * 5 + 3) (by omega)] at hB4
        have hgr4 := only_put hgr3 (j * 5 + 3) (.int .i64 (k + ((j * 5 + 3 : Nat) : Int)))
        have hB5 := hB4.put (j * 5 + 4) (.int .i64 (k + ((j * 5 + 4 : Nat) : Int)))
        rw [marked_step cur k (j * 5 + 4) (by omega)] at hB5
        have hgr5 := only_put hgr4 (j * 5 + 4) (.int .i64 (k + ((j * 5 + 4 : Nat) : Int)))
        have c0 : wr.cell? ⟨g, j * 5, none⟩ = some u0 := by rw [hB0.cell, marked_at _ _ _ _ (by omega) (by omega), hu0]
        have f0 := hB0.thaw (j * 5)
        have c1 : (wr.setCell ⟨g, j * 5, none⟩ (.int .i64 (k + ((j * 5 : Nat) : Int)))).cell? ⟨g, j * 5 + 1, none⟩ = some u1 := by rw [hB1.cell, marked_at _ _ _ _ (by omega) (by omega), hu1]
        have f1 := hB1.thaw (j * 5 + 1)
        have c2 : ((wr.setCell ⟨g, j * 5, none⟩ (.int .i64 (k + ((j * 5 : Nat) : Int)))).setCell ⟨g, j * 5 + 1, none⟩ (.int .i64 (k + ((j * 5 + 1 : Nat) : Int)))).cell? ⟨g, j * 5 + 2, none⟩ = some u2 := by rw [hB2.cell, marked_at _ _ _ _ (by omega) (by omega), hu2]
        have f2 := hB2.thaw (j * 5 + 2)
        have c3 : (((wr.setCell ⟨g, j * 5, none⟩ (.int .i64 (k + ((j * 5 : Nat) : Int)))).setCell ⟨g, j * 5 + 1, none⟩ (.int .i64 (k + ((j * 5 + 1 : Nat) : Int)))).setCell ⟨g, j * 5 + 2, none⟩ (.int .i64 (k + ((j * 5 + 2 : Nat) : Int)))).cell? ⟨g, j * 5 + 3, none⟩ = some u3 := by rw [hB3.cell, marked_at _ _ _ _ (by omega) (by omega), hu3]
        have f3 := hB3.thaw (j * 5 + 3)
        have c4 : ((((wr.setCell ⟨g, j * 5, none⟩ (.int .i64 (k + ((j * 5 : Nat) : Int)))).setCell ⟨g, j * 5 + 1, none⟩ (.int .i64 (k + ((j * 5 + 1 : Nat) : Int)))).setCell ⟨g, j * 5 + 2, none⟩ (.int .i64 (k + ((j * 5 + 2 : Nat) : Int)))).setCell ⟨g, j * 5 + 3, none⟩ (.int .i64 (k + ((j * 5 + 3 : Nat) : Int)))).cell? ⟨g, j * 5 + 4, none⟩ = some u4 := by rw [hB4.cell, marked_at _ _ _ _ (by omega) (by omega), hu4]
        have f4 := hB4.thaw (j * 5 + 4)
        have s0 : k + ((j * 5 : Nat) : Int) = k + ((j * 5 : Nat) : Int) := by omega
        have s1 : k + ((j * 5 + 1 : Nat) : Int) = k + ((j * 5 : Nat) : Int) + 1 := by omega
        have s2 : k + ((j * 5 + 2 : Nat) : Int) = k + ((j * 5 : Nat) : Int) + 1 + 1 := by omega
        have s3 : k + ((j * 5 + 3 : Nat) : Int) = k + ((j * 5 : Nat) : Int) + 1 + 1 + 1 := by omega
        have s4 : k + ((j * 5 + 4 : Nat) : Int) = k + ((j * 5 : Nat) : Int) + 1 + 1 + 1 + 1 := by omega
        rw [s1] at c2 f2
        rw [s1, s2] at c3 f3
        rw [s1, s2, s3] at c4 f4
        rw [s1, s2, s3, s4] at hB5 hgr5
        clear hu0 hu1 hu2 hu3 hu4 hB0 hB1 hB2 hB3 hB4 hgr0 hgr1 hgr2 hgr3 hgr4 s0 s1 s2 s3 s4
        obtain ⟨K, hK⟩ : ∃ K : Int, K = k + ((j * 5 : Nat) : Int) := ⟨_, rfl⟩
        have hKb : 0 ≤ K ∧ K ≤ 1099511627776 := by omega
        rw [← hK] at c1 c2 c3 c4 hB5 hgr5 f1 f2 f3 f4
        rw [← hK]
        have HK := Lib.hid hK
        clear hK
        go_wp2
        go_roundw
        case rel => exact ⟨j + 1, by omega, by go_num, by rw [show k + (((j + 1) * 5 : Nat) : Int) = K + 1 + 1 + 1 + 1 + 1 by have := HK.out; omega], by rw [show (j + 1) * 5 = j * 5 + 4 + 1 by omega]; exact hB5, hgr5⟩
        case measure => simp [intOf]; omega
      · have e : j = n := by omega
        have hO : wr.ownsRow B 71 5 (.slice (some ⟨g, 0, none⟩) n c) n (ints (iota k (n * 5))) := by
          subst e
          have h := hB0.own (base := B) (size := 5) (n := j) (c := c) hb hnc hcm (by rw [marked_size _ _ _ (by omega), HCS.out])
          rwa [marked_take] at h
        have HE := Lib.hid (show k + ((j * 5 : Nat) : Int) = k + ((n * 5 : Nat) : Int) by rw [e])
        clear hB0 e
        go_wp2
        go_ret
        exact ⟨ret_int HE.out, hO, hgr0⟩
set_option maxRecDepth 100000 in
set_option maxHeartbeats 2000000 in
theorem held_any (A : Option Addr) (n c : Nat) (k : Int) (w : World) (hk : 0 ≤ k) (hk2 : k + (n * 5 : Nat) ≤ 1099511627776)
    (hr : Rd w 5 A n (ints (iota k (n * 5)))) :
    Calls Try.prog 38 #[.slice A n c, .int .i64 k] w fun e w' => e = .returned (.int .i64 (k + (n * 5 : Nat))) ∧ w = w' := by
  go_enter Try.func38, Try.ntmps38
  go_wp2
  go_loop [1, 5] (fun x i => ∃ j : Nat, j ≤ n ∧ i = .int .i64 j ∧ x = .int .i64 (k + (j * 5 : Nat))) (fun _ i => n - (intOf i).toNat)
  case atStart => exact ⟨0, by omega, rfl, by go_num⟩
  case round =>
    obtain ⟨j, hj, rfl, rfl⟩ := hrel
    by_cases hlt : j < n
    · obtain ⟨b, off, rfl, hcells⟩ := hr.cells (by omega)
      have hlt2 : j * 5 + 5 ≤ n * 5 := by omega
      have c0 := hcells (j * 5) _ (iota_at k (n * 5) (j * 5) (by omega))
      have s0 : k + ((j * 5 : Nat) : Int) = k + ((j * 5 : Nat) : Int) := by omega
      have c1 := hcells (j * 5 + 1) _ (iota_at k (n * 5) (j * 5 + 1) (by omega))
      have s1 : k + ((j * 5 + 1 : Nat) : Int) = k + ((j * 5 : Nat) : Int) + 1 := by omega
      have c2 := hcells (j * 5 + 2) _ (iota_at k (n * 5) (j * 5 + 2) (by omega))
      have s2 : k + ((j * 5 + 2 : Nat) : Int) = k + ((j * 5 : Nat) : Int) + 1 + 1 := by omega
      have c3 := hcells (j * 5 + 3) _ (iota_at k (n * 5) (j * 5 + 3) (by omega))
      have s3 : k + ((j * 5 + 3 : Nat) : Int) = k + ((j * 5 : Nat) : Int) + 1 + 1 + 1 := by omega
      have c4 := hcells (j * 5 + 4) _ (iota_at k (n * 5) (j * 5 + 4) (by omega))
      have s4 : k + ((j * 5 + 4 : Nat) : Int) = k + ((j * 5 : Nat) : Int) + 1 + 1 + 1 + 1 := by omega
      rw [s1] at c1
      rw [s2] at c2
      rw [s3] at c3
      rw [s4] at c4
      rw [show off + (j * 5 + 1) = off + j * 5 + 1 by omega] at c1
      rw [show off + (j * 5 + 2) = off + j * 5 + 2 by omega] at c2
      rw [show off + (j * 5 + 3) = off + j * 5 + 3 by omega] at c3
      rw [show off + (j * 5 + 4) = off + j * 5 + 4 by omega] at c4
      clear hcells s0 s1 s2 s3 s4
      obtain ⟨K, hK⟩ : ∃ K : Int, K = k + ((j * 5 : Nat) : Int) := ⟨_, rfl⟩
      have hKb : 0 ≤ K ∧ K ≤ 1099511627776 := by omega
      rw [← hK] at c0 c1 c2 c3 c4
      rw [← hK]
      have HK := Lib.hid hK
      clear hK
      go_wp2
      go_round
      case rel => exact ⟨j + 1, by omega, by go_num, by rw [show k + (((j + 1) * 5 : Nat) : Int) = K + 1 + 1 + 1 + 1 + 1 by have := HK.out; omega]⟩
      case measure => simp [intOf]; omega
    · have e : j = n := by omega
      have HE := Lib.hid (show k + ((j * 5 : Nat) : Int) = k + ((n * 5 : Nat) : Int) by rw [e])
      clear e
      go_wp2
      go_ret
      exact ⟨ret_int HE.out, rfl⟩
end Go.Proofs.Ytgngoedooemboaa.lawGroup
