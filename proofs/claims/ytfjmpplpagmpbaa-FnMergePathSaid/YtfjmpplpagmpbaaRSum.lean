/- The laws' sum of a list. Condition: at most 2^20 numbers from 0 to 2^40. -/
import Derived.Test.YtfjmpplpagmpbaaMem
import Derived.Deep.LoopGhost
set_option linter.unusedVariables false
set_option linter.unusedSimpArgs false
namespace Go.Proofs.Ytfjmpplpagmpbaa.rsum
open Go.RowKit Go.Proofs.Ytfjmpplpagmpbaa.mem

def Ok (zs : List Int) : Prop := ∀ z ∈ zs, 0 ≤ z ∧ z ≤ 1099511627776
theorem take_bd {zs : List Int} (h : Ok zs) : ∀ k, k ≤ zs.length → 0 ≤ (zs.take k).sum ∧ (zs.take k).sum ≤ 1099511627776 * (k : Int)
  | 0, _ => by simp
  | k + 1, hk => by
    have ih := take_bd h k (by omega)
    have := h _ (List.getElem_mem (show k < zs.length by omega))
    rw [List.take_succ_eq_append_getElem (show k < zs.length by omega), List.sum_append, List.sum_singleton]
    omega
set_option maxHeartbeats 400000 in
theorem any (A : Option Addr) (c : Nat) (zs : List Int) (w : World) (hn : zs.length ≤ 1048576) (hz : Ok zs) (hr : Rd w 1 A zs.length (ints zs)) :
    Calls Try.prog 25 #[.slice A zs.length c] w fun e w' => e = .returned (.int .i64 zs.sum) ∧ w = w' := by
  have HZ := Lib.hid hz
  clear hz
  go_enter Try.func25, Try.ntmps25
  go_wp2
  go_loopg [3, 4] (zs.length + 1) (fun f s i wr => ∃ (k : Nat) (x : Int), zs.length < k + f ∧ k ≤ zs.length ∧ i = .int .i64 (k : Int) ∧ s = .int .i64 x ∧ x = (zs.take k).sum ∧ w = wr)
  case atStart => exact ⟨0, 0, by omega, by omega, rfl, rfl, by simp, rfl⟩
  case round =>
    obtain ⟨k, x, hkf, hk, rfl, rfl, hx, rfl⟩ := hrel
    by_cases hlt : k < zs.length
    · obtain ⟨b, off, rfl, hc⟩ := hr.int hlt
      have h1 := take_bd HZ.out k hk
      have h2 := HZ.out _ (List.getElem_mem hlt)
      have HX := Lib.hid (show x + zs[k] = (zs.take (k + 1)).sum by rw [hx, List.take_succ_eq_append_getElem hlt, List.sum_append, List.sum_singleton])
      rw [← hx] at h1
      clear hx
      generalize zs[k] = y at hc h2 HX
      have q1 : (k : Int) < (zs.length : Int) := by omega
      have hwr : IntKind.i64.wrap (x + y) = x + y := IntWalk.i64_in _ (by omega)
      go_wp2
      go_roundg (gk - 1)
      case measure => omega
      case rel => exact ⟨k + 1, x + y, by omega, by omega, by go_num, rfl, HX.out, rfl⟩
    · have HE := Lib.hid (show x = zs.sum by rw [hx, show k = zs.length by omega, List.take_length])
      clear hx
      have q1 : ¬ (k : Int) < (zs.length : Int) := by omega
      go_wp2
      go_ret
      exact ⟨ret_int HE.out, rfl⟩
end Go.Proofs.Ytfjmpplpagmpbaa.rsum
