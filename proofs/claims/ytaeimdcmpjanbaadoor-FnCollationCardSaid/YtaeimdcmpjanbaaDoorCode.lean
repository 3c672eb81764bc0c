/- The laws' own helpers on a code of bytes. No condition beyond what a Go slice can hold. -/
import Derived.Test.YtaeimdcmpjanbaaDoorMem
set_option linter.unusedVariables false
set_option linter.unusedSimpArgs false
namespace Go.Proofs.YtaeimdcmpjanbaaDoor.codes
open Go.RowKit Go.Proofs.YtaeimdcmpjanbaaDoor.mem

set_option maxHeartbeats 400000 in
theorem big_any (A : Option Addr) (n c : Nat) (w : World) (hn : n ≤ maxLen) :
    Calls Tryd.prog 15 #[.slice A n c] w fun e w' => e = .returned (.bool (decide (65536 < n))) ∧ w = w' := by
  unfold maxLen at hn
  go_enter Tryd.func15, Tryd.ntmps15
  go_wp2
  go_ret
  exact ⟨ret_bool (decide_eq_decide.2 (by omega)), rfl⟩

end Go.Proofs.YtaeimdcmpjanbaaDoor.codes
