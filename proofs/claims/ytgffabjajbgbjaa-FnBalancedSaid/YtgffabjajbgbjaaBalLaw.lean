/- A balanced merge: the reach of the passes. No condition. -/
import Derived.Test.YtgffabjajbgbjaaPass
set_option linter.unusedVariables false
set_option linter.unusedSimpArgs false
namespace Go.Proofs.Ytgffabjajbgbjaa.pass
open Go.RowKit

theorem cd_le {r v m : Nat} (h2 : 2 ≤ v) : (r + v - 1) / v ≤ m ↔ r ≤ m * v := by
  rw [← Nat.lt_succ_iff, Nat.div_lt_iff_lt_mul (by omega), Nat.succ_mul]
  omega
theorem reach (v : Nat) (h2 : 2 ≤ v) : ∀ r : Nat, 1 ≤ r → (∀ i, i < pc v r → v ^ i < r) ∧ r ≤ v ^ pc v r := by
  intro r
  induction r using Nat.strongRecOn with
  | _ r ih =>
    intro h1
    by_cases hr : 1 < r
    · have hlt := step_lt hr h2
      have hlo := div_lo r v h1 h2
      obtain ⟨ha, hb⟩ := ih _ hlt hlo
      rw [pc_more hr h2]
      refine ⟨fun i hi => ?_, ?_⟩
      · cases i with
        | zero => simpa using hr
        | succ i =>
          have h3 := ha i (by omega)
          have h4 : ¬ (r + v - 1) / v ≤ v ^ i := by omega
          rw [cd_le h2] at h4
          rw [Nat.pow_succ]
          omega
      · rw [Nat.pow_succ]
        exact (cd_le h2).1 hb
    · rw [pc_done hr]
      exact ⟨fun i hi => absurd hi (by omega), by simp; omega⟩
end Go.Proofs.Ytgffabjajbgbjaa.pass
