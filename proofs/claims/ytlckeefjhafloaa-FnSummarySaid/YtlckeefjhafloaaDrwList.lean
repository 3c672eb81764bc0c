/- DrawIsValidList: a list of integers out of a code. Condition: a code of at most 2^20 bytes. -/
import Derived.Test.YtlckeefjhafloaaDrwInts
set_option linter.unusedVariables false
set_option linter.unusedSimpArgs false
namespace Go.Proofs.Ytlckeefjhafloaa.drw
open Go.RowKit Go.Proofs.Ytlckeefjhafloaa.mem Go.Proofs.Ytlckeefjhafloaa.cur

set_option maxRecDepth 100000 in
set_option maxHeartbeats 1000000 in
theorem list_any (A : Option Addr) (c : Nat) (zs : List Int) (W : World) (hn : zs.length ≤ 1048576) (hz : ∀ z ∈ zs, 0 ≤ z ∧ z ≤ 255) (hr : Rd W 1 A zs.length (u8s zs)) :
    Calls Try.prog 17 #[.slice A zs.length c] W fun e w' => ∃ v l, e = .returned v ∧ w'.ownsRow W.heap.size 3 1 v l.length (ints l) ∧ l.length ≤ 70 ∧ Below W.heap.size W w' := by
  have HC := Lib.hid (cur_made W A c zs hz hr)
  clear hz hr
  go_enter Try.func17, Try.ntmps17
  go_wp2_with fail
  refine (anyInts_any W _ W.heap.size 0 zs hn (by omega) HC.out).mono ?_
  rintro e w1 ⟨v, l, a, rfl, hci, hl, ha, ha2⟩
  have hsz : W.heap.size ≤ (W.alloc (.cells #[.slice A zs.length c, .int .i64 0, .int .u64 0] 73)).heap.size := by simp
  have HO := Lib.hid (own_base hci.own hsz)
  have HB := Lib.hid hci.cur.bel
  clear hci HC
  go_wp2
  go_ret
  first | exact ⟨_, rfl, l, HO.out, hl, HB.out⟩ | exact ⟨_, l, rfl, HO.out, hl, HB.out⟩
end Go.Proofs.Ytlckeefjhafloaa.drw
