/- rCount: how often a number stands in a list; the draw of sample sorts. Condition: at most 2^20 elements. -/
import Derived.Test.YtfjmpplpagmpbaaDrwInts
set_option linter.unusedVariables false
set_option linter.unusedSimpArgs false
namespace Go.Proofs.Ytfjmpplpagmpbaa.rcnt
open Go.RowKit Go.Proofs.Ytfjmpplpagmpbaa.mem Go.Proofs.Ytfjmpplpagmpbaa.cur Go.Proofs.Ytfjmpplpagmpbaa.drw

set_option maxHeartbeats 400000 in
theorem any (A : Option Addr) (c : Nat) (zs : List Int) (x : Int) (w : World) (hn : zs.length ≤ 1048576) (hr : Rd w 1 A zs.length (ints zs)) :
    Calls Try.prog 45 #[.slice A zs.length c, .int .i64 x] w fun e w' => e = .returned (.int .i64 (zs.count x : Int)) ∧ w = w' := by
  go_enter Try.func45, Try.ntmps45
  go_wp2
  go_loopg [5, 6] (zs.length + 1) (fun f s i wr => ∃ k m : Nat, zs.length < k + f ∧ k ≤ zs.length ∧ i = .int .i64 (k : Int) ∧ s = .int .i64 (m : Int) ∧ m = (zs.take k).count x ∧ m ≤ k ∧ w = wr)
  case atStart => exact ⟨0, 0, by omega, by omega, rfl, rfl, by simp, by omega, rfl⟩
  case round =>
    obtain ⟨k, m, hkf, hk, rfl, rfl, hm, hmk, rfl⟩ := hrel
    by_cases hlt : k < zs.length
    · obtain ⟨b, off, rfl, hc⟩ := hr.int hlt
      have HX := Lib.hid (show (zs.take (k + 1)).count x = m + if zs[k] = x then 1 else 0 by
        rw [List.take_succ_eq_append_getElem hlt, List.count_append, ← hm, List.count_singleton]
        by_cases e : zs[k] = x <;> simp [e])
      clear hm
      generalize zs[k] = y at hc HX
      have q1 : (k : Int) < (zs.length : Int) := by omega
      by_cases e : y = x
      · have HY := Lib.hid (show m + 1 = (zs.take (k + 1)).count x by rw [HX.out, if_pos e])
        have q2 : (y == x) = true := by simpa using e
        clear e
        go_wp2
        go_roundg (gk - 1)
        case measure => omega
        case rel => exact ⟨k + 1, m + 1, by omega, by omega, by go_num, by go_num, HY.out, by omega, rfl⟩
      · have HY := Lib.hid (show m = (zs.take (k + 1)).count x by rw [HX.out, if_neg e]; rfl)
        have q2 : (y == x) = false := by simpa using e
        clear e
        go_wp2
        go_roundg (gk - 1)
        case measure => omega
        case rel => exact ⟨k + 1, m, by omega, by omega, by go_num, rfl, HY.out, by omega, rfl⟩
    · have HE := Lib.hid (show (m : Int) = (zs.count x : Int) by rw [hm, show k = zs.length by omega, List.take_length])
      have q1 : ¬ (k : Int) < (zs.length : Int) := by omega
      clear hm
      go_wp2
      go_ret
      exact ⟨ret_int HE.out, rfl⟩
set_option maxRecDepth 100000 in
set_option maxHeartbeats 1000000 in
theorem draw_any (A : Option Addr) (c : Nat) (zs : List Int) (W : World) (hn : zs.length ≤ 1048576) (hz : ∀ z ∈ zs, 0 ≤ z ∧ z ≤ 255) (hr : Rd W 1 A zs.length (u8s zs)) :
    Calls Try.prog 78 #[.slice A zs.length c] W fun e w' => ∃ v l k, e = .returned (.tuple #[v, .int .i64 k]) ∧ w'.ownsRow W.heap.size 3 1 v l.length (ints l) ∧ l.length ≤ 70 ∧ -1048576 ≤ k ∧ k ≤ 1048576 ∧ Below W.heap.size W w' := by
  have HC := Lib.hid (cur_made W A c zs hz hr)
  clear hz hr
  go_enter Try.func78, Try.ntmps78
  go_wp2_with fail
  refine (anyInts_any W _ W.heap.size 0 zs hn (by omega) HC.out).mono ?_
  rintro e w1 ⟨v, l, a, rfl, hci, hl, ha, ha2⟩
  have HI := Lib.hid hci
  clear hci HC
  go_wp2_with fail
  refine (workers_any W _ W.heap.size a zs hn (by omega) HI.out.cur).mono ?_
  rintro e w2 ⟨k, a2, hk, _, _, rfl, hc2, hg2⟩
  have HJ := Lib.hid (HI.out.grown hc2 hg2)
  have HO := Lib.hid (own_base HJ.out.own (show W.heap.size ≤ (W.alloc (.cells #[.slice A zs.length c, .int .i64 0, .int .u64 0] 57)).heap.size by simp))
  clear hc2 hg2 HI
  go_wp2
  go_ret2
  first | exact ⟨_, l, k, rfl, HO.out, hl, hk.1, hk.2, HJ.out.cur.bel⟩ | exact ⟨_, _, k, rfl, HO.out, hl, hk.1, hk.2, HJ.out.cur.bel⟩
set_option maxRecDepth 100000 in
set_option maxHeartbeats 1000000 in
theorem smp_any (A : Option Addr) (c : Nat) (zs : List Int) (W : World) (hn : zs.length ≤ 1048576) (hz : ∀ z ∈ zs, 0 ≤ z ∧ z ≤ 255) (hr : Rd W 1 A zs.length (u8s zs)) :
    Calls Try.prog 43 #[.slice A zs.length c] W fun e w' => ∃ v l k, e = .returned (.tuple #[v, .int .i64 k]) ∧ w'.ownsRow W.heap.size 3 1 v l.length (ints l) ∧ l.length ≤ 70 ∧ -1048576 ≤ k ∧ k ≤ 1048576 ∧ Below W.heap.size W w' := by
  have HD := Lib.hid (draw_any A c zs W hn hz hr)
  clear hz hr
  go_enter Try.func43, Try.ntmps43
  go_wp2_with fail
  refine HD.out.mono ?_
  rintro e w1 ⟨v, l, k, rfl, ho, hl, hk, hk2, hb⟩
  go_wp2
  go_ret2
  exact ⟨_, l, k, rfl, ho, hl, hk, hk2, hb⟩
end Go.Proofs.Ytfjmpplpagmpbaa.rcnt
