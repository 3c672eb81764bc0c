/- The laws' own helpers for lists of integers: the size, a copy, equality, marks. Condition: lists of at most 2^20 elements where memory is made. -/
import Derived.Test.YtgffabjajbgbjaaMem
set_option linter.unusedVariables false
set_option linter.unusedSimpArgs false
namespace Go.Proofs.Ytgffabjajbgbjaa.lawInt
open Go.RowKit Go.Proofs.Ytgffabjajbgbjaa.mem

theorem info : (Try.prog.info? 3).map (fun i => (i.zero, i.size, i.bytes)) = some (some (.int .i64 0), 1, 8) := by kernel_rfl

set_option maxHeartbeats 400000 in
theorem to_any (A : Option Addr) (c : Nat) (zs : List Int) (w : World) (hn : zs.length ≤ 1048576) (hr : Rd w 1 A zs.length (ints zs)) :
    Calls Try.prog 30 #[.slice A zs.length c] w fun e w' => ∃ v, e = .returned v ∧ w'.ownsRow w.heap.size 3 1 v zs.length (ints zs) ∧ Below w.heap.size w w' := by
  have hmk := make_rep (P := Try.prog) 22 3 _ _ Try.underlying22 info rfl zs.length (by omega) (by unfold maxLen; omega)
  go_enter Try.func30, Try.ntmps30
  go_wp2
  go_loopw [4] (fun i wr => ∃ k : Nat, k ≤ zs.length ∧ i = .int .i64 k ∧ Blk wr w.heap.size 3 (filled (ints zs) (.int .i64 0) k) ∧ Below w.heap.size w wr) (fun i _ => zs.length - (intOf i).toNat)
  case atStart => exact ⟨0, by omega, rfl, by rw [← filled_zero _ _ zs.length (len_ints zs)]; exact Blk.new _ _ _, (Below.refl _ _).alloc (Nat.le_refl _) _⟩
  case round =>
    obtain ⟨k, hk, rfl, hB, hb⟩ := hrel
    clear hmk
    by_cases hlt : k < zs.length
    · obtain ⟨b, off, rfl, hc⟩ := (hr.below hb).int hlt
      have hl : k < (ints zs).length := by rw [len_ints]; exact hlt
      have hg : wr.cell? ⟨w.heap.size, k, none⟩ = some (.int .i64 0) := by rw [hB.cell, filled_at _ _ _ hl]
      have hf := hB.thaw k
      have hB2 : Blk (wr.setCell ⟨w.heap.size, k, none⟩ (.int .i64 zs[k])) w.heap.size 3 (filled (ints zs) (.int .i64 0) (k + 1)) := by
        rw [← filled_step (ints zs) _ (.int .i64 zs[k]) k (by simp [ints, hlt])]; exact hB.put _ _
      have hb2 := hb.setCell (p := ⟨w.heap.size, k, none⟩) (Nat.le_refl _) (.int .i64 zs[k])
      clear hB
      go_wp2
      go_roundw
      case rel => exact ⟨k + 1, by omega, by go_num, hB2, hb2⟩
      case measure => simp [intOf]; omega
    · have hO : wr.ownsRow w.heap.size 3 1 (.slice (some ⟨w.heap.size, 0, none⟩) zs.length zs.length) zs.length (ints zs) := by
        have e : k = (ints zs).length := by rw [len_ints]; omega
        have hl : (ints zs).length = zs.length * 1 := by rw [len_ints]; omega
        rw [e, filled_all] at hB
        have h := hB.own (base := w.heap.size) (size := 1) (n := zs.length) (c := zs.length) (Nat.le_refl _) (Nat.le_refl _) (by unfold maxLen; omega) (by simpa using hl)
        rwa [← hl, List.take_of_length_le (by simp)] at h
      clear hB
      go_wp2
      go_ret
      exact ⟨_, rfl, hO, hb⟩
def upTo (xs ys : List Int) (k : Nat) : Prop := xs.take k = ys.take k
theorem upTo_step {xs ys : List Int} {k : Nat} (h : upTo xs ys k) (h1 : k < xs.length) (h2 : k < ys.length) (e : xs[k] = ys[k]) : upTo xs ys (k + 1) := by
  unfold upTo at *
  rw [List.take_add_one, List.take_add_one, h, List.getElem?_eq_getElem h1, List.getElem?_eq_getElem h2, e]

set_option maxHeartbeats 400000 in
theorem eq_any (A B : Option Addr) (c d : Nat) (xs ys : List Int) (w : World) (hn : xs.length ≤ maxLen) (hm : ys.length ≤ maxLen) (hx : Rd w 1 A xs.length (ints xs)) (hy : Rd w 1 B ys.length (ints ys)) :
    Calls Try.prog 16 #[.slice A xs.length c, .slice B ys.length d] w fun e w' => e = .returned (.bool (decide (xs = ys))) ∧ ∃ n, w' = w.drewN n := by
  unfold maxLen at hn hm
  by_cases hlen : xs.length = ys.length
  · have HL := Lib.hid hlen
    have hle : xs.length ≤ ys.length ∧ ys.length ≤ xs.length := by omega
    have hl2 : ((xs.length : Int) != (ys.length : Int)) = false := by rw [hlen]; simp
    clear hlen
    go_enter Try.func16, Try.ntmps16
    go_wp2
    go_loopw [5] (fun i wr => ∃ k : Nat, k ≤ xs.length ∧ i = .int .i64 k ∧ upTo xs ys k ∧ ∃ n, wr = w.drewN n) (fun i _ => xs.length - (intOf i).toNat)
    case atStart => exact ⟨0, by omega, rfl, rfl, 0, rfl⟩
    case round =>
      obtain ⟨k, hk, rfl, hu, n, rfl⟩ := hrel
      by_cases hlt : k < xs.length
      · have hlt2 : k < ys.length := by omega
        obtain ⟨b, off, rfl, hc⟩ := hx.int hlt
        obtain ⟨b2, off2, rfl, hc2⟩ := hy.int hlt2
        by_cases he : xs[k] = ys[k]
        · have hu2 := upTo_step hu hlt hlt2 he
          clear hu
          go_wp2
          go_quiet (fail)
          go_wp2
          go_roundw
          case rel => exact ⟨k + 1, by omega, by go_num, hu2, _, rfl⟩
          case measure => simp [intOf]; omega
        · have he2 : (xs[k] == ys[k]) = false := by simpa using he
          have he3 : (xs[k] != ys[k]) = true := by simpa using he
          have HE := Lib.hid (show decide (xs = ys) = false by
            rw [decide_eq_false_iff_not]; intro e; subst e; exact he rfl)
          go_wp2
          go_quiet (fail)
          go_wp2
          go_ret
          exact ⟨ret_bool (by rw [HE.out]), n + nq, (World.drewN_drewN _ _ _)⟩
      · have HE := Lib.hid (show decide (xs = ys) = true by
          rw [decide_eq_true_iff]
          unfold upTo at hu
          rwa [List.take_of_length_le (by omega), List.take_of_length_le (by omega)] at hu)
        clear hu
        go_wp2
        go_ret
        exact ⟨ret_bool (by rw [HE.out]), _, rfl⟩
  · have HE := Lib.hid (show decide (xs = ys) = false by rw [decide_eq_false_iff_not]; intro e; subst e; exact hlen rfl)
    have hl2 : ((xs.length : Int) != (ys.length : Int)) = true := by rw [bne_iff_ne]; omega
    clear hlen
    go_enter Try.func16, Try.ntmps16
    go_wp2
    go_ret
    exact ⟨ret_bool (by rw [HE.out]), 0, rfl⟩
/-- k, k+1, .. -/
def iota (k : Int) (n : Nat) : List Int := (List.range n).map fun (i : Nat) => k + (i : Int)
theorem len_iota (k : Int) (n : Nat) : (iota k n).length = n := by simp [iota]
theorem iota_at (k : Int) (n j : Nat) (h : j < n) : (ints (iota k n))[j]? = some (.int .i64 (k + j)) := by simp [ints, iota, h]
def marked (cur : Array Value) (k : Int) (j : Nat) : Array Value := (ints (iota k j) ++ cur.toList.drop j).toArray
theorem marked_zero (cur : Array Value) (k : Int) : marked cur k 0 = cur := by simp [marked, iota, ints]
theorem marked_size (cur : Array Value) (k : Int) (j : Nat) (h : j ≤ cur.size) : (marked cur k j).size = cur.size := by
  simp [marked, len_ints, len_iota]; omega
theorem marked_at (cur : Array Value) (k : Int) (j : Nat) (h : j < cur.size) : (marked cur k j)[j]? = cur[j]? := by
  simp only [marked, List.getElem?_toArray]
  rw [List.getElem?_append_right (by rw [len_ints, len_iota]; omega), len_ints, len_iota]
  simp
theorem marked_step (cur : Array Value) (k : Int) (j : Nat) (h : j < cur.size) : (marked cur k j).setIfInBounds j (.int .i64 (k + j)) = marked cur k (j + 1) := by
  have hl : j < cur.toList.length := by simpa using h
  simp only [marked, List.setIfInBounds_toArray]
  rw [List.set_append_right _ _ (by rw [len_ints, len_iota]; omega), len_ints, len_iota, Nat.sub_self, List.drop_eq_getElem_cons hl, List.set_cons_zero]
  congr 1
  have e : ints (iota k (j + 1)) = ints (iota k j) ++ [.int .i64 (k + j)] := by simp [ints, iota, List.range_succ]
  rw [e, List.append_assoc]
  rfl
theorem marked_take (cur : Array Value) (k : Int) (n : Nat) : (marked cur k n).toList.take n = ints (iota k n) := by
  simp only [marked]
  rw [List.take_append_of_le_length (by rw [len_ints, len_iota]; omega), List.take_of_length_le (by rw [len_ints, len_iota]; omega)]

set_option maxHeartbeats 400000 in
theorem mark_any (B : Nat) (A : Option Addr) (n c : Nat) (xs : List Value) (k : Int) (w : World) (hk : 0 ≤ k) (hk2 : k + n ≤ 1099511627776)
    (ho : w.ownsRow B 3 1 (.slice A n c) n xs) :
    Calls Try.prog 17 #[.slice A n c, .int .i64 k] w fun e w' => e = .returned (.int .i64 (k + n)) ∧ w'.ownsRow B 3 1 (.slice A n c) n (ints (iota k n)) ∧ w.grownBy w' (Value.slice A n c).ownBlock := by
  rcases ho.2 with ⟨hv, rfl⟩ | ⟨g, cap, cur, hv, hb, hg, hnc, hcm, hcs, htake⟩
  · injection hv with hA _ hc
    subst hA; subst hc
    go_enter Try.func17, Try.ntmps17
    go_wp2
    refine wp_loop_rounds 1 ?_
    rw [rounds_succ]
    go_wp2
    go_ret
    exact ⟨ret_int (by simp), World.ownsRow_nil _ _ _ _, World.grownBy.refl _ _⟩
  · injection hv with hA _ hc
    subst hA; subst hc
    have hgB : Blk w g 3 cur := hg
    have HCS := Lib.hid hcs
    have HT := Lib.hid htake
    have hsz : c ≤ cur.size ∧ cur.size ≤ c := by omega
    clear hcs htake hg ho
    go_enter Try.func17, Try.ntmps17
    go_wp2
    go_loopw [1, 5] (fun x i wr => ∃ j : Nat, j ≤ n ∧ i = .int .i64 j ∧ x = .int .i64 (k + j) ∧ Blk wr g 3 (marked cur k j) ∧ w.grownBy wr (some g)) (fun _ i _ => n - (intOf i).toNat)
    case atStart => exact ⟨0, by omega, rfl, by go_num, by rw [marked_zero]; exact hgB, World.grownBy.refl _ _⟩
    case round =>
      obtain ⟨j, hj, rfl, rfl, hB, hgr⟩ := hrel
      by_cases hlt : j < n
      · have hl : j < cur.size := by omega
        obtain ⟨u, hu⟩ : ∃ u, cur[j]? = some u := ⟨cur[j], Array.getElem?_eq_getElem hl⟩
        have hc : wr.cell? ⟨g, j, none⟩ = some u := by rw [hB.cell, marked_at _ _ _ hl, hu]
        have hf := hB.thaw j
        have hB2 : Blk (wr.setCell ⟨g, j, none⟩ (.int .i64 (k + j))) g 3 (marked cur k (j + 1)) := by
          rw [← marked_step cur k j hl]; exact hB.put _ _
        have hgr2 := only_put hgr j (.int .i64 (k + j))
        clear hB hu hgr
        go_wp2
        go_roundw
        case rel => exact ⟨j + 1, by omega, by go_num, by go_num, hB2, hgr2⟩
        case measure => simp [intOf]; omega
      · have e : j = n := by omega
        have HE := Lib.hid (show k + (j : Int) = k + n by rw [e])
        have hO : wr.ownsRow B 3 1 (.slice (some ⟨g, 0, none⟩) n c) n (ints (iota k n)) := by
          subst e
          have h := hB.own (base := B) (size := 1) (n := j) (c := c) hb hnc hcm (by rw [marked_size _ _ _ (by omega), HCS.out])
          rwa [Nat.mul_one, marked_take] at h
        clear hB e
        go_wp2
        go_ret
        exact ⟨ret_int HE.out, hO, hgr⟩
set_option maxHeartbeats 400000 in
theorem held_any (A : Option Addr) (n c : Nat) (k : Int) (w : World) (hk : 0 ≤ k) (hk2 : k + n ≤ 1099511627776)
    (hr : Rd w 1 A n (ints (iota k n))) :
    Calls Try.prog 18 #[.slice A n c, .int .i64 k] w fun e w' => e = .returned (.int .i64 (k + n)) ∧ w = w' := by
  go_enter Try.func18, Try.ntmps18
  go_wp2
  go_loop [1, 5] (fun x i => ∃ j : Nat, j ≤ n ∧ i = .int .i64 j ∧ x = .int .i64 (k + j)) (fun _ i => n - (intOf i).toNat)
  case atStart => exact ⟨0, by omega, rfl, by go_num⟩
  case round =>
    obtain ⟨j, hj, rfl, rfl⟩ := hrel
    by_cases hlt : j < n
    · obtain ⟨b, off, rfl, hcells⟩ := hr.cells (by omega)
      have hc := hcells j _ (iota_at k n j hlt)
      clear hcells
      go_wp2
      go_round
      case rel => exact ⟨j + 1, by omega, by go_num, by go_num⟩
      case measure => simp [intOf]; omega
    · have HE := Lib.hid (show k + (j : Int) = k + n by have e : j = n := by omega
                                                        rw [e])
      go_wp2
      go_ret
      exact ⟨ret_int HE.out, rfl⟩
theorem eqB (A B : Option Addr) (c d : Nat) (xs ys : List Int) (w : World) (hn : xs.length ≤ maxLen) (hm : ys.length ≤ maxLen) (hx : Rd w 1 A xs.length (ints xs)) (hy : Rd w 1 B ys.length (ints ys)) :
    Calls Try.prog 16 #[.slice A xs.length c, .slice B ys.length d] w fun e w' => e = .returned (.bool (decide (xs = ys))) ∧ Below w.heap.size w w' :=
  (eq_any A B c d xs ys w hn hm hx hy).mono fun _ _ ⟨he, _, hw⟩ => ⟨he, by rw [hw]; exact below_drewN (Below.refl _ _) _⟩
end Go.Proofs.Ytgffabjajbgbjaa.lawInt
