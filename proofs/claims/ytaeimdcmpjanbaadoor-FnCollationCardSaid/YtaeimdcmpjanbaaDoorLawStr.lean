/- The laws' own helpers for lists of strings: the size, a copy, equality. Condition: fewer than 2^20 strings for the copy. -/
import Derived.Test.YtaeimdcmpjanbaaDoorMem
set_option linter.unusedVariables false
set_option linter.unusedSimpArgs false
namespace Go.Proofs.YtaeimdcmpjanbaaDoor.lawStr
open Go.RowKit Go.Proofs.YtaeimdcmpjanbaaDoor.mem

theorem info : (Tryd.prog.info? 9).map (fun i => (i.zero, i.size, i.bytes)) = some (some (.string ByteArray.empty), 1, 16) := by kernel_rfl

set_option maxHeartbeats 400000 in
theorem to_any (A : Option Addr) (c : Nat) (ss : List ByteArray) (w : World) (hn : ss.length ≤ 1048576) (hr : Rd w 1 A ss.length (strs ss)) :
    Calls Tryd.prog 10 #[.slice A ss.length c] w fun e w' => ∃ v, e = .returned v ∧ w'.ownsRow w.heap.size 9 1 v ss.length (strs ss) ∧ Below w.heap.size w w' := by
  have hmk := make_rep (P := Tryd.prog) 25 9 _ _ Tryd.underlying25 info rfl ss.length (by omega) (by unfold maxLen; omega)
  go_enter Tryd.func10, Tryd.ntmps10
  go_wp2
  go_loopw [4] (fun i wr => ∃ k : Nat, k ≤ ss.length ∧ i = .int .i64 k ∧ Blk wr w.heap.size 9 (filled (strs ss) (.string ByteArray.empty) k) ∧ Below w.heap.size w wr) (fun i _ => ss.length - (intOf i).toNat)
  case atStart => exact ⟨0, by omega, rfl, by rw [← filled_zero _ _ ss.length (len_strs ss)]; exact Blk.new _ _ _, (Below.refl _ _).alloc (Nat.le_refl _) _⟩
  case round =>
    obtain ⟨k, hk, rfl, hB, hb⟩ := hrel
    clear hmk
    by_cases hlt : k < ss.length
    · obtain ⟨b, off, rfl, hc⟩ := (hr.below hb).str hlt
      have hl : k < (strs ss).length := by rw [len_strs]; exact hlt
      have hg : wr.cell? ⟨w.heap.size, k, none⟩ = some (.string ByteArray.empty) := by rw [hB.cell, filled_at _ _ _ hl]
      have hf := hB.thaw k
      have hB2 : Blk (wr.setCell ⟨w.heap.size, k, none⟩ (.string ss[k])) w.heap.size 9 (filled (strs ss) (.string ByteArray.empty) (k + 1)) := by
        rw [← filled_step (strs ss) _ (.string ss[k]) k (by simp [strs, hlt])]; exact hB.put _ _
      have hb2 := hb.setCell (p := ⟨w.heap.size, k, none⟩) (Nat.le_refl _) (.string ss[k])
      clear hB
      go_wp2
      go_roundw
      case rel => exact ⟨k + 1, by omega, by go_num, hB2, hb2⟩
      case measure => simp [intOf]; omega
    · have hO : wr.ownsRow w.heap.size 9 1 (.slice (some ⟨w.heap.size, 0, none⟩) ss.length ss.length) ss.length (strs ss) := by
        have e : k = (strs ss).length := by rw [len_strs]; omega
        have hl : (strs ss).length = ss.length * 1 := by rw [len_strs]; omega
        rw [e, filled_all] at hB
        have h := hB.own (base := w.heap.size) (size := 1) (n := ss.length) (c := ss.length) (Nat.le_refl _) (Nat.le_refl _) (by unfold maxLen; omega) (by simpa using hl)
        rwa [← hl, List.take_of_length_le (by simp)] at h
      clear hB
      go_wp2
      go_ret
      exact ⟨_, rfl, hO, hb⟩
/-- how many bytes -/
def total (ss : List ByteArray) : Nat := (ss.map ByteArray.size).sum
theorem total_step (ss : List ByteArray) (k : Nat) (hk : k < ss.length) : total (ss.take (k + 1)) = total (ss.take k) + ss[k].size := by
  unfold total
  rw [List.take_add_one, List.getElem?_eq_getElem hk, List.map_append, List.sum_append]
  simp
theorem total_le (ss : List ByteArray) (k : Nat) : total (ss.take k) ≤ total ss := by
  unfold total
  conv => rhs; rw [← List.take_append_drop k ss]
  rw [List.map_append, List.sum_append]
  omega
theorem total_mem {ss : List ByteArray} {s : ByteArray} (h : s ∈ ss) : s.size ≤ total ss := by
  unfold total
  induction ss with
  | nil => cases h
  | cons x r ih =>
    simp only [List.map_cons, List.sum_cons]
    rcases List.mem_cons.1 h with rfl | h
    · omega
    · have := ih h; omega

set_option maxHeartbeats 400000 in
theorem sz_any (A : Option Addr) (c : Nat) (ss : List ByteArray) (l : Int) (w : World) (h0 : 0 ≤ l) (h1 : l ≤ 1048576) (hn : ss.length ≤ maxLen) (hs : ∀ s ∈ ss, s.size ≤ maxLen) (hr : Rd w 1 A ss.length (strs ss)) :
    Calls Tryd.prog 8 #[.slice A ss.length c, .int .i64 l] w fun e w' => e = .returned (.int .i64 (szv l (ss.length + total ss))) ∧ w = w' := by
  unfold maxLen at hn hs
  by_cases hl : (ss.length : Int) ≤ l
  · go_enter Tryd.func8, Tryd.ntmps8
    go_wp2
    go_loop [1, 5] (fun x i => ∃ (k : Nat) (m : Int), k ≤ ss.length ∧ i = .int .i64 k ∧ x = .int .i64 m ∧ 0 ≤ m ∧ m ≤ l ∧ m = l - (ss.length + total (ss.take k) : Nat)) (fun _ i => ss.length - (intOf i).toNat)
    case atStart => exact ⟨0, l - ss.length, by omega, rfl, rfl, by omega, by omega, by simp [total]⟩
    case round =>
      obtain ⟨k, m, hk, rfl, rfl, hm0, hm1, hm⟩ := hrel
      have HM := Lib.hid hm
      clear hm
      by_cases hlt : k < ss.length
      · obtain ⟨b, off, rfl, hc⟩ := hr.str hlt
        have hsz := hs ss[k] (List.getElem_mem hlt)
        have HT := Lib.hid (total_step ss k hlt)
        have htl := total_le ss (k + 1)
        by_cases hneg : m - (ss[k].size : Int) < 0
        · have HE := Lib.hid (szv_neg (l := l) (m := ss.length + total ss) (by have := HM.out; have := HT.out; omega))
          clear hs htl
          go_wp2
          go_ret
          exact ⟨ret_int (by rw [HE.out]), rfl⟩
        · clear hs htl
          go_wp2
          go_round
          case rel => exact ⟨k + 1, m - (ss[k].size : Int), by omega, by go_num, rfl, by omega, by omega, by have := HM.out; have := HT.out; omega⟩
          case measure => simp [intOf]; omega
      · have e : k = ss.length := by omega
        have HE := Lib.hid (show szv l (ss.length + total ss) = m by
          have := HM.out
          rw [e, List.take_length] at this
          rw [szv_pos (by omega)]; omega)
        clear e hs
        go_wp2
        go_ret
        exact ⟨ret_int (by rw [HE.out]), rfl⟩
  · have HE := Lib.hid (szv_neg (l := l) (m := ss.length + total ss) (by omega))
    go_enter Tryd.func8, Tryd.ntmps8
    go_wp2
    go_ret
    exact ⟨ret_int (by rw [HE.out]), rfl⟩

def upTo (xs ys : List ByteArray) (k : Nat) : Prop := xs.take k = ys.take k
theorem upTo_step {xs ys : List ByteArray} {k : Nat} (h : upTo xs ys k) (h1 : k < xs.length) (h2 : k < ys.length) (e : xs[k] = ys[k]) : upTo xs ys (k + 1) := by
  unfold upTo at *
  rw [List.take_add_one, List.take_add_one, h, List.getElem?_eq_getElem h1, List.getElem?_eq_getElem h2, e]

set_option maxHeartbeats 400000 in
theorem eq_any (A B : Option Addr) (c d : Nat) (xs ys : List ByteArray) (w : World) (hn : xs.length ≤ maxLen) (hm : ys.length ≤ maxLen) (hx : Rd w 1 A xs.length (strs xs)) (hy : Rd w 1 B ys.length (strs ys)) :
    Calls Tryd.prog 12 #[.slice A xs.length c, .slice B ys.length d] w fun e w' => e = .returned (.bool (decide (xs = ys))) ∧ ∃ n, w' = w.drewN n := by
  unfold maxLen at hn hm
  by_cases hlen : xs.length = ys.length
  · have HL := Lib.hid hlen
    have hle : xs.length ≤ ys.length ∧ ys.length ≤ xs.length := by omega
    have hl2 : ((xs.length : Int) != (ys.length : Int)) = false := by rw [hlen]; simp
    clear hlen
    go_enter Tryd.func12, Tryd.ntmps12
    go_wp2
    go_loopw [5] (fun i wr => ∃ k : Nat, k ≤ xs.length ∧ i = .int .i64 k ∧ upTo xs ys k ∧ ∃ n, wr = w.drewN n) (fun i _ => xs.length - (intOf i).toNat)
    case atStart => exact ⟨0, by omega, rfl, rfl, 0, rfl⟩
    case round =>
      obtain ⟨k, hk, rfl, hu, n, rfl⟩ := hrel
      by_cases hlt : k < xs.length
      · have hlt2 : k < ys.length := by omega
        obtain ⟨b, off, rfl, hc⟩ := hx.str hlt
        obtain ⟨b2, off2, rfl, hc2⟩ := hy.str hlt2
        by_cases he : xs[k] = ys[k]
        · have hu2 := upTo_step hu hlt hlt2 he
          clear hu
          go_wp2
          go_quiet (fail)
          go_wp2
          go_roundw
          case rel => exact ⟨k + 1, by omega, by go_num, hu2, _, rfl⟩
          case measure => simp [intOf]; omega
        · have he2 := bytes_ne he
          have HE := Lib.hid (show decide (xs = ys) = false by
            rw [decide_eq_false_iff_not]; intro e; subst e; exact he rfl)
          go_wp2
          go_quiet (fail)
          go_wp2
          go_ret
          exact ⟨ret_bool (by rw [HE.out]), n + nq, (World.drewN_drewN _ _ _)⟩
      · have HE := Lib.hid (show decide (xs = ys) = true by
          rw [decide_eq_true_iff]
          unfold upTo at hu
          rwa [List.take_of_length_le (by omega), List.take_of_length_le (by omega)] at hu)
        clear hu
        go_wp2
        go_ret
        exact ⟨ret_bool (by rw [HE.out]), _, rfl⟩
  · have HE := Lib.hid (show decide (xs = ys) = false by rw [decide_eq_false_iff_not]; intro e; subst e; exact hlen rfl)
    have hl2 : ((xs.length : Int) != (ys.length : Int)) = true := by rw [bne_iff_ne]; omega
    clear hlen
    go_enter Tryd.func12, Tryd.ntmps12
    go_wp2
    go_ret
    exact ⟨ret_bool (by rw [HE.out]), 0, rfl⟩
theorem eqB (A B : Option Addr) (c d : Nat) (xs ys : List ByteArray) (w : World) (hn : xs.length ≤ maxLen) (hm : ys.length ≤ maxLen) (hx : Rd w 1 A xs.length (strs xs)) (hy : Rd w 1 B ys.length (strs ys)) :
    Calls Tryd.prog 12 #[.slice A xs.length c, .slice B ys.length d] w fun e w' => e = .returned (.bool (decide (xs = ys))) ∧ Below w.heap.size w w' :=
  (eq_any A B c d xs ys w hn hm hx hy).mono fun _ _ ⟨he, _, hw⟩ => ⟨he, by rw [hw]; exact below_drewN (Below.refl _ _) _⟩
end Go.Proofs.YtaeimdcmpjanbaaDoor.lawStr
