/- The sums of lists of small numbers: the program's, the reference's and the laws'. Condition: at most 2^20 numbers within 0 and 2^20. -/
import Derived.Test.YtgffabjajbgbjaaMem
set_option linter.unusedVariables false
set_option linter.unusedSimpArgs false
namespace Go.Proofs.Ytgffabjajbgbjaa.sums
open Go.RowKit Go.Proofs.Ytgffabjajbgbjaa.mem

/-- numbers within 0 and 2^20 -/
def Small (zs : List Int) : Prop := ∀ z ∈ zs, 0 ≤ z ∧ z ≤ 1048576
theorem take_step (zs : List Int) (k : Nat) (hk : k < zs.length) : (zs.take (k + 1)).sum = (zs.take k).sum + zs[k] := by
  rw [List.take_add_one, List.getElem?_eq_getElem hk, List.sum_append]
  simp
theorem take_bound {zs : List Int} (h : Small zs) (k : Nat) (hk : k ≤ zs.length) : 0 ≤ (zs.take k).sum ∧ (zs.take k).sum ≤ 1048576 * (k : Int) := by
  induction k with
  | zero => simp
  | succ k ih =>
    have h1 := ih (by omega)
    have h2 := h zs[k] (List.getElem_mem (by omega))
    rw [take_step zs k (by omega)]
    omega

set_option maxHeartbeats 400000 in
theorem impl_any (A : Option Addr) (c : Nat) (zs : List Int) (w : World) (hn : zs.length ≤ 1048576) (hz : Small zs) (hr : Rd w 1 A zs.length (ints zs)) :
    Calls Try.prog 61 #[.slice A zs.length c] w fun e w' => e = .returned (.int .i64 zs.sum) ∧ w = w' := by
  go_enter Try.func61, Try.ntmps61
  have HZ := Lib.hid hz
  clear hz
  go_wp2
  go_loop [3, 8] (fun x i => ∃ (k : Nat) (s : Int), k ≤ zs.length ∧ i = .int .i64 k ∧ x = .int .i64 s ∧ s = (zs.take k).sum) (fun _ i => zs.length - (intOf i).toNat)
  case atStart => exact ⟨0, 0, by omega, rfl, rfl, by simp⟩
  case round =>
    obtain ⟨k, s, hk, rfl, rfl, hs⟩ := hrel
    have hb := take_bound HZ.out k hk
    rw [← hs] at hb
    have HS := Lib.hid hs
    clear hs
    by_cases hlt : k < zs.length
    · obtain ⟨b, off, rfl, hc⟩ := hr.int hlt
      have hzk := HZ.out zs[k] (List.getElem_mem hlt)
      have HT := Lib.hid (take_step zs k hlt)
      go_wp2
      go_round
      case rel => exact ⟨k + 1, s + zs[k], by omega, by go_num, rfl, by rw [HT.out, ← HS.out]⟩
      case measure => simp [intOf]; omega
    · have HE := Lib.hid (show s = zs.sum by rw [HS.out, List.take_of_length_le (by omega)])
      go_wp2
      go_ret
      exact ⟨ret_int (by rw [HE.out]), rfl⟩
set_option maxHeartbeats 400000 in
theorem spec_any (A : Option Addr) (c : Nat) (zs : List Int) (w : World) (hn : zs.length ≤ 1048576) (hz : Small zs) (hr : Rd w 1 A zs.length (ints zs)) :
    Calls Try.prog 67 #[.slice A zs.length c] w fun e w' => e = .returned (.int .i64 zs.sum) ∧ w = w' := by
  go_enter Try.func67, Try.ntmps67
  have HZ := Lib.hid hz
  clear hz
  go_wp2
  go_loop [3, 4] (fun x i => ∃ (k : Nat) (s : Int), k ≤ zs.length ∧ i = .int .i64 k ∧ x = .int .i64 s ∧ s = (zs.take k).sum) (fun _ i => zs.length - (intOf i).toNat)
  case atStart => exact ⟨0, 0, by omega, rfl, rfl, by simp⟩
  case round =>
    obtain ⟨k, s, hk, rfl, rfl, hs⟩ := hrel
    have hb := take_bound HZ.out k hk
    rw [← hs] at hb
    have HS := Lib.hid hs
    clear hs
    by_cases hlt : k < zs.length
    · obtain ⟨b, off, rfl, hc⟩ := hr.int hlt
      have hzk := HZ.out zs[k] (List.getElem_mem hlt)
      have HT := Lib.hid (take_step zs k hlt)
      go_wp2
      go_round
      case rel => exact ⟨k + 1, s + zs[k], by omega, by go_num, rfl, by rw [HT.out, ← HS.out]⟩
      case measure => simp [intOf]; omega
    · have HE := Lib.hid (show s = zs.sum by rw [HS.out, List.take_of_length_le (by omega)])
      go_wp2
      go_ret
      exact ⟨ret_int (by rw [HE.out]), rfl⟩
set_option maxHeartbeats 400000 in
theorem laws_any (A : Option Addr) (c : Nat) (zs : List Int) (w : World) (hn : zs.length ≤ 1048576) (hz : Small zs) (hr : Rd w 1 A zs.length (ints zs)) :
    Calls Try.prog 24 #[.slice A zs.length c] w fun e w' => e = .returned (.int .i64 zs.sum) ∧ w = w' := by
  go_enter Try.func24, Try.ntmps24
  have HZ := Lib.hid hz
  clear hz
  go_wp2
  go_loop [3, 4] (fun x i => ∃ (k : Nat) (s : Int), k ≤ zs.length ∧ i = .int .i64 k ∧ x = .int .i64 s ∧ s = (zs.take k).sum) (fun _ i => zs.length - (intOf i).toNat)
  case atStart => exact ⟨0, 0, by omega, rfl, rfl, by simp⟩
  case round =>
    obtain ⟨k, s, hk, rfl, rfl, hs⟩ := hrel
    have hb := take_bound HZ.out k hk
    rw [← hs] at hb
    have HS := Lib.hid hs
    clear hs
    by_cases hlt : k < zs.length
    · obtain ⟨b, off, rfl, hc⟩ := hr.int hlt
      have hzk := HZ.out zs[k] (List.getElem_mem hlt)
      have HT := Lib.hid (take_step zs k hlt)
      go_wp2
      go_round
      case rel => exact ⟨k + 1, s + zs[k], by omega, by go_num, rfl, by rw [HT.out, ← HS.out]⟩
      case measure => simp [intOf]; omega
    · have HE := Lib.hid (show s = zs.sum by rw [HS.out, List.take_of_length_le (by omega)])
      go_wp2
      go_ret
      exact ⟨ret_int (by rw [HE.out]), rfl⟩
end Go.Proofs.Ytgffabjajbgbjaa.sums
