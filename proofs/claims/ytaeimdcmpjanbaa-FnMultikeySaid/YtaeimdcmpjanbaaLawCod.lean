/- The laws' helpers at lists of coded strings: equality, marks, and what is held. Condition: marks of at most 2^40. -/
import Derived.Test.YtaeimdcmpjanbaaCod
import Derived.Test.YtaeimdcmpjanbaaMarkStr
import Derived.Deep.RegionWith
set_option linter.unusedVariables false
set_option linter.unusedSimpArgs false
namespace Go.Proofs.Ytaeimdcmpjanbaa.lawCoded
open Go.RowKit Go.Proofs.Ytaeimdcmpjanbaa.mem Go.Proofs.Ytaeimdcmpjanbaa.markText Go.Proofs.Ytaeimdcmpjanbaa.lawStr

set_option maxRecDepth 100000 in
set_option maxHeartbeats 1000000 in
theorem eq_one (x y : Cod) (w : World) :
    Calls Try.prog 55 #[.agg #[.int .i64 x.shared, .string x.rest], .agg #[.int .i64 y.shared, .string y.rest]] w fun e w' => e = .returned (.bool (decide (x = y))) ∧ Below w.heap.size w w' := by
  obtain ⟨x0, x1⟩ := x
  obtain ⟨y0, y1⟩ := y
  have hbb : ∀ o o' : Obj, Below w.heap.size w ((w.alloc o).alloc o') := fun o o' => ((Below.refl _ _).alloc (Nat.le_refl _) o).alloc (by simp) o'
  have HB := Lib.hid hbb
  clear hbb
  by_cases e0 : x0 = y0
  · have q0 : (x0 != y0) = false := by simpa using e0
    have E0 := Lib.hid e0
    clear e0
    by_cases e1 : x1 = y1
    · subst e1
      have HD := Lib.hid (show decide ((⟨x0, x1⟩ : Cod) = ⟨y0, x1⟩) = true by simp [E0.out])
      go_enter Try.func55, Try.ntmps55
      go_wp2
      go_ret
      exact ⟨ret_bool HD.out.symm, HB.out _ _⟩
    · have q1 : (x1.toList == y1.toList) = false := bytes_ne e1
      have E1 := Lib.hid e1
      clear e1
      have HD := Lib.hid (show decide ((⟨x0, x1⟩ : Cod) = ⟨y0, y1⟩) = false by simp [E1.out])
      go_enter Try.func55, Try.ntmps55
      go_wp2
      go_ret
      exact ⟨ret_bool HD.out.symm, HB.out _ _⟩
  · have q0 : (x0 != y0) = true := by simpa using e0
    have E0 := Lib.hid e0
    clear e0
    have HD := Lib.hid (show decide ((⟨x0, x1⟩ : Cod) = ⟨y0, y1⟩) = false by simp [E0.out])
    go_enter Try.func55, Try.ntmps55
    go_wp2
    go_ret
    exact ⟨ret_bool HD.out.symm, HB.out _ _⟩
def upTo (xs ys : List Cod) (k : Nat) : Prop := xs.take k = ys.take k
theorem upTo_step {xs ys : List Cod} {k : Nat} (h : upTo xs ys k) (h1 : k < xs.length) (h2 : k < ys.length) (e : xs[k] = ys[k]) : upTo xs ys (k + 1) := by
  unfold upTo at *
  rw [List.take_add_one, List.take_add_one, h, List.getElem?_eq_getElem h1, List.getElem?_eq_getElem h2, e]
set_option maxRecDepth 100000 in
set_option maxHeartbeats 2000000 in
theorem eqB (A B : Option Addr) (c d : Nat) (xs ys : List Cod) (w : World) (hn : xs.length ≤ maxLen) (hm : ys.length ≤ maxLen) (hx : Rd w 2 A xs.length (cods xs)) (hy : Rd w 2 B ys.length (cods ys)) :
    Calls Try.prog 33 #[.slice A xs.length c, .slice B ys.length d] w fun e w' => e = .returned (.bool (decide (xs = ys))) ∧ Below w.heap.size w w' := by
  unfold maxLen at hn hm
  by_cases hlen : xs.length = ys.length
  · have HL := Lib.hid hlen
    have hle : xs.length ≤ ys.length ∧ ys.length ≤ xs.length := by omega
    have hl2 : ((xs.length : Int) != (ys.length : Int)) = false := by rw [hlen]; simp
    clear hlen
    go_enter Try.func33, Try.ntmps33
    go_wp2
    go_loopw [5] (fun i wr => ∃ k : Nat, k ≤ xs.length ∧ i = .int .i64 k ∧ upTo xs ys k ∧ Below w.heap.size w wr) (fun i _ => xs.length - (intOf i).toNat)
    case atStart => exact ⟨0, by omega, rfl, rfl, Below.refl _ _⟩
    case round =>
      obtain ⟨k, hk, rfl, hu, hb⟩ := hrel
      by_cases hlt : k < xs.length
      · have hlt2 : k < ys.length := by omega
        obtain ⟨b, off, rfl, hx0, hx1⟩ := (hx.below hb).cod hlt
        obtain ⟨b2, off2, rfl, hy0, hy1⟩ := (hy.below hb).cod hlt2
        have HS := Lib.hid (fun e => upTo_step hu hlt hlt2 e)
        have HF := Lib.hid (show ¬ xs[k] = ys[k] → decide (xs = ys) = false from fun he => by
          rw [decide_eq_false_iff_not]; intro e; subst e; exact he rfl)
        clear hu
        generalize xs[k] = x at hx0 hx1 HS HF
        generalize ys[k] = y at hy0 hy1 HS HF
        have q1 : (k : Int) < (xs.length : Int) := by omega
        have q2 : (k : Int) < (ys.length : Int) := by omega
        go_wp2_with fail
        go_region_with (first | (go_at_call 55; refine (eq_one x y _).mono ?_; rintro e w2 ⟨rfl, hb1⟩))
        all_goals
          have hb2 : Below w.heap.size w w2 := below_at (below_drewN hb 1) hb.size hb1
          by_cases he : x = y
          · have hu2 := HS.out he
            have hd : decide (x = y) = true := by simpa using he
            rw [hd]
            clear he hd
            go_wp2
            go_roundw
            case rel => exact ⟨k + 1, by omega, by go_num, hu2, hb2⟩
            case measure => simp [intOf]; omega
          · have HE := Lib.hid (HF.out he)
            have hd : decide (x = y) = false := by simpa using he
            rw [hd]
            clear he hd
            go_wp2
            go_ret
            exact ⟨ret_bool (by rw [HE.out]), hb2⟩
      · have HE := Lib.hid (show decide (xs = ys) = true by
          rw [decide_eq_true_iff]
          unfold upTo at hu
          rwa [List.take_of_length_le (by omega), List.take_of_length_le (by omega)] at hu)
        clear hu
        go_wp2
        go_ret
        exact ⟨ret_bool (by rw [HE.out]), hb⟩
  · have HE := Lib.hid (show decide (xs = ys) = false by rw [decide_eq_false_iff_not]; intro e; subst e; exact hlen rfl)
    have hl2 : ((xs.length : Int) != (ys.length : Int)) = true := by rw [bne_iff_ne]; omega
    clear hlen
    go_enter Try.func33, Try.ntmps33
    go_wp2
    go_ret
    exact ⟨ret_bool (by rw [HE.out]), Below.refl _ _⟩
/-- the marks k, k+1, .. laid over coded strings -/
def ciota (k : Int) (n : Nat) : List Cod := (List.range n).map fun (i : Nat) => ⟨k + 2 * (i : Int), mtext (k.toNat + 2 * i + 1)⟩
theorem len_ciota (k : Int) (n : Nat) : (ciota k n).length = n := by simp [ciota]
theorem ciota_at (k : Int) (n j : Nat) (h : j < (ciota k n).length) : (ciota k n)[j] = ⟨k + 2 * (j : Int), mtext (k.toNat + 2 * j + 1)⟩ := by simp [ciota]
def cmarked (cur : Array Value) (k : Int) (j : Nat) : Array Value := (cods (ciota k j) ++ cur.toList.drop (j * 2)).toArray
theorem cmarked_zero (cur : Array Value) (k : Int) : cmarked cur k 0 = cur := by simp [cmarked, ciota, cods]
theorem cmarked_size (cur : Array Value) (k : Int) (j : Nat) (h : j * 2 ≤ cur.size) : (cmarked cur k j).size = cur.size := by
  simp [cmarked, len_cods, len_ciota]; omega
theorem cmarked_at (cur : Array Value) (k : Int) (j i : Nat) (hj : j * 2 ≤ i) (h : i < cur.size) : (cmarked cur k j)[i]? = cur[i]? := by
  simp only [cmarked, List.getElem?_toArray]
  rw [List.getElem?_append_right (by rw [len_cods, len_ciota]; omega), len_cods, len_ciota, List.getElem?_drop, show j * 2 + (i - j * 2) = i by omega]
  simp
theorem cmarked_step (cur : Array Value) (k : Int) (j : Nat) (h : j * 2 + 1 < cur.size) :
    ((cmarked cur k j).setIfInBounds (j * 2) (.int .i64 (k + 2 * (j : Int)))).setIfInBounds (j * 2 + 1) (.string (mtext (k.toNat + 2 * j + 1))) = cmarked cur k (j + 1) := by
  have hl : j * 2 < cur.toList.length := by simp; omega
  have hl2 : j * 2 + 1 < cur.toList.length := by simpa using h
  simp only [cmarked, List.setIfInBounds_toArray]
  rw [List.set_append_right _ _ (by rw [len_cods, len_ciota]; omega), len_cods, len_ciota, Nat.sub_self, List.drop_eq_getElem_cons hl, List.set_cons_zero,
    List.set_append_right _ _ (by rw [len_cods, len_ciota]; omega), len_cods, len_ciota, show j * 2 + 1 - j * 2 = 1 by omega, List.drop_eq_getElem_cons hl2, List.set_cons_succ, List.set_cons_zero]
  congr 1
  have e : cods (ciota k (j + 1)) = cods (ciota k j) ++ [.int .i64 (k + 2 * (j : Int)), .string (mtext (k.toNat + 2 * j + 1))] := by
    simp [ciota, List.range_succ, cods_app, cods, Cod.cells]
  rw [e, List.append_assoc, show (j + 1) * 2 = j * 2 + 1 + 1 by omega]
  rfl
theorem cmarked_take (cur : Array Value) (k : Int) (n : Nat) : (cmarked cur k n).toList.take (n * 2) = cods (ciota k n) := by
  simp only [cmarked]
  rw [List.take_append_of_le_length (by rw [len_cods, len_ciota]; omega), List.take_of_length_le (by rw [len_cods, len_ciota]; omega)]

set_option maxRecDepth 100000 in
set_option maxHeartbeats 2000000 in
theorem mark_any (B : Nat) (A : Option Addr) (n c : Nat) (xs : List Value) (k : Int) (w : World) (hk : 1 ≤ k) (hk2 : k + (n * 2 : Nat) ≤ 1099511627776)
    (ho : w.ownsRow B 57 2 (.slice A n c) n xs) :
    Calls Try.prog 34 #[.slice A n c, .int .i64 k] w fun e w' => e = .returned (.int .i64 (k + (n * 2 : Nat))) ∧ w'.ownsRow B 57 2 (.slice A n c) n (cods (ciota k n)) ∧ w.grownBy w' (Value.slice A n c).ownBlock := by
  rcases ho.2 with ⟨hv, rfl⟩ | ⟨g, cap, cur, hv, hb, hg, hnc, hcm, hcs, htake⟩
  · injection hv with hA _ hc
    subst hA; subst hc
    go_enter Try.func34, Try.ntmps34
    go_wp2
    refine wp_loop_rounds 1 ?_
    rw [rounds_succ]
    go_wp2
    go_ret
    exact ⟨ret_int (by simp), World.ownsRow_nil _ _ _ _, World.grownBy.refl _ _⟩
  · injection hv with hA _ hc
    subst hA; subst hc
    have hgB : Blk w g 57 cur := hg
    have HCS := Lib.hid hcs
    have hsz : c * 2 ≤ cur.size ∧ cur.size ≤ c * 2 := by omega
    clear hcs htake hg ho
    go_enter Try.func34, Try.ntmps34
    go_wp2
    go_loopg [1, 5] (n + 1) (fun f x i wr => ∃ (j : Nat) (kk : Int), n < j + f ∧ j ≤ n ∧ i = .int .i64 (j : Int) ∧ x = .int .i64 kk ∧ kk = k + 2 * (j : Int) ∧ Blk wr g 57 (cmarked cur k j) ∧ w.grownBy wr (some g))
    case atStart => exact ⟨0, k, by omega, by omega, rfl, rfl, by omega, by rw [cmarked_zero]; exact hgB, World.grownBy.refl _ _⟩
    case round =>
      obtain ⟨j, kk, hjf, hj, rfl, rfl, hkk, hB, hgr⟩ := hrel
      have HKK := Lib.hid hkk
      have hk1 : 1 ≤ kk := by omega
      by_cases hlt : j < n
      · have hkb : kk + 2 ≤ 1099511627776 := by omega
        have h1 : j * 2 + 1 < cur.size := by omega
        obtain ⟨u, hu⟩ : ∃ u, cur[j * 2]? = some u := ⟨cur[j * 2]'(by omega), Array.getElem?_eq_getElem (by omega)⟩
        obtain ⟨u1, hu1⟩ : ∃ u, cur[j * 2 + 1]? = some u := ⟨cur[j * 2 + 1]'h1, Array.getElem?_eq_getElem h1⟩
        have HT := Lib.hid (fun W => (text_any (k.toNat + 2 * j + 1) W (by omega) (by omega)).mono fun e w' ⟨h1, _, h2⟩ => And.intro h1 h2)
        rw [show ((k.toNat + 2 * j + 1 : Nat) : Int) = kk + 1 by omega] at HT
        have HST := Lib.hid (cmarked_step cur k j h1)
        rw [← HKK.out] at HST
        clear hkk
        generalize mtext (k.toNat + 2 * j + 1) = s at HT HST
        have hc : wr.cell? ⟨g, j * 2, none⟩ = some u := by rw [hB.cell, cmarked_at _ _ _ _ (by omega) (by omega), hu]
        have hf := hB.thaw (j * 2)
        have q1 : (j : Int) < (n : Int) := by omega
        have hB1 := hB.put (j * 2) (.int .i64 kk)
        have hgr1 := only_put hgr (j * 2) (.int .i64 kk)
        have hc1 : (wr.setCell ⟨g, j * 2, none⟩ (.int .i64 kk)).cell? ⟨g, j * 2 + 1, none⟩ = some u1 := by
          rw [hB1.cell, Array.getElem?_setIfInBounds_ne (by omega), cmarked_at _ _ _ _ (by omega) (by omega), hu1]
        clear hB hgr hu hu1
        go_wp2_with fail
        obtain ⟨wx, hwx⟩ : ∃ W : World, W = wr.setCell ⟨g, j * 2, none⟩ (.int .i64 kk) := ⟨_, rfl⟩
        rw [← hwx] at hB1 hgr1 hc1
        rw [← hwx]
        clear hwx hc hf
        refine (HT.out _).mono ?_
        rintro e w2 ⟨rfl, hb2⟩
        have hB2 := hB1.below hb2 hB1.lt
        have hgr2 := only_below hgr1 hb2
        have hc2 := (hb2.cell (World.block_lt_of_cell? _ _ hc1)).trans hc1
        have hf2 := hB2.thaw (j * 2 + 1)
        have hB3 := hB2.put (j * 2 + 1) (.string s)
        rw [HST.out] at hB3
        have hgr3 := only_put hgr2 (j * 2 + 1) (.string s)
        clear hB1 hB2 hgr1 hgr2 hb2 hc1
        go_wp2
        go_roundg (gk - 1)
        case measure => omega
        case rel => exact ⟨j + 1, kk + 1 + 1, by omega, by omega, by go_num, by go_num, by have := HKK.out; omega, hB3, hgr3⟩
      · have e : j = n := by omega
        have HE := Lib.hid (show kk = k + (n * 2 : Nat) by omega)
        have hO : wr.ownsRow B 57 2 (.slice (some ⟨g, 0, none⟩) n c) n (cods (ciota k n)) := by
          subst e
          have h := hB.own (base := B) (size := 2) (n := j) (c := c) hb hnc hcm (by rw [cmarked_size _ _ _ (by omega), HCS.out])
          rwa [cmarked_take] at h
        have q1 : ¬ (j : Int) < (n : Int) := by omega
        clear hB e hkk
        go_wp2
        go_ret
        exact ⟨ret_int HE.out, hO, hgr⟩
set_option maxRecDepth 100000 in
set_option maxHeartbeats 2000000 in
theorem held_any (A : Option Addr) (n c : Nat) (k : Int) (w : World) (hk : 1 ≤ k) (hk2 : k + (n * 2 : Nat) ≤ 1099511627776)
    (hr : Rd w 2 A n (cods (ciota k n))) :
    Calls Try.prog 35 #[.slice A n c, .int .i64 k] w fun e w' => e = .returned (.int .i64 (k + (n * 2 : Nat))) ∧ Below w.heap.size w w' := by
  have hlen := len_ciota k n
  have hr2 : Rd w 2 A (ciota k n).length (cods (ciota k n)) := by rw [hlen]; exact hr
  clear hr
  go_enter Try.func35, Try.ntmps35
  go_wp2
  go_loopg [1, 5] (n + 1) (fun f x i wr => ∃ (j : Nat) (kk : Int), n < j + f ∧ j ≤ n ∧ i = .int .i64 (j : Int) ∧ x = .int .i64 kk ∧ kk = k + 2 * (j : Int) ∧ Below w.heap.size w wr)
  case atStart => exact ⟨0, k, by omega, by omega, rfl, rfl, by omega, Below.refl _ _⟩
  case round =>
    obtain ⟨j, kk, hjf, hj, rfl, rfl, hkk, hb⟩ := hrel
    have HKK := Lib.hid hkk
    have hk1 : 1 ≤ kk := by omega
    by_cases hlt : j < n
    · have hkb : kk + 2 ≤ 1099511627776 := by omega
      have hjl : j < (ciota k n).length := by omega
      obtain ⟨b, off, rfl, c0, c1⟩ := (hr2.below hb).cod hjl
      rw [ciota_at k n j hjl] at c0 c1
      simp only at c0 c1
      rw [← HKK.out] at c0
      have HT := Lib.hid (fun W => (text_any (k.toNat + 2 * j + 1) W (by omega) (by omega)).mono fun e w' ⟨h1, _, h2⟩ => And.intro h1 h2)
      rw [show ((k.toNat + 2 * j + 1 : Nat) : Int) = kk + 1 by omega] at HT
      generalize mtext (k.toNat + 2 * j + 1) = s at HT c1
      have q1 : (j : Int) < (n : Int) := by omega
      have hcr := fun d os => cell_regrown c1 d os
      clear hkk hlen
      go_wp2_with fail
      (refine wp_region_quiet_below (by kernel_rfl) (by kernel_rfl) ?_; (repeat (quiet_step (exact Calls.regrown_of (HT.out _)))); refine wpQuiet_nil ?_; intro _ hw'; obtain ⟨⟨dq, osq⟩, hw''⟩ := hw'; subst hw'')
      have hb2 := below_at hb hb.size (below_regrown wr dq osq)
      clear hcr c0 c1
      go_wp2
      go_roundg (gk - 1)
      case measure => omega
      case rel => exact ⟨j + 1, kk + 1 + 1, by omega, by omega, by go_num, by go_num, by have := HKK.out; omega, hb2⟩
    · have HE := Lib.hid (show kk = k + (n * 2 : Nat) by omega)
      have q1 : ¬ (j : Int) < (n : Int) := by omega
      clear hkk
      go_wp2
      go_ret
      exact ⟨ret_int HE.out, hb⟩
end Go.Proofs.Ytaeimdcmpjanbaa.lawCoded
