/- The draw of jobs. Condition: a code of at most 2^20 bytes. -/
import Derived.Test.YtaeimdcmpjanbaaDoorDrwRnd
import Derived.Test.YtaeimdcmpjanbaaDoorCut
set_option linter.unusedVariables false
set_option linter.unusedSimpArgs false
namespace Go.Proofs.YtaeimdcmpjanbaaDoor.drw
open Go.RowKit Go.Proofs.YtaeimdcmpjanbaaDoor.mem Go.Proofs.YtaeimdcmpjanbaaDoor.cur

def wl : List Int := [1, 2, 2, 3, 4, 7, 16, 0, 17]
theorem wl_len : wl.length = 9 := rfl
theorem wl_bd : ∀ x ∈ wl, -1048576 ≤ x ∧ x ≤ 1048576 := by decide
end Go.Proofs.YtaeimdcmpjanbaaDoor.drw
