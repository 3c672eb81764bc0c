/- CommonPrefix, the program's and the reference's, both return the length of the longest common prefix. Condition: strings no longer than a Go string can be. -/
import Derived.Test.YtaeimdcmpjanbaaChecked
import Derived.WalkKit
import Derived.BigQuiet
import Derived.Lib.Hide
import Derived.Deep.QuietTactic
namespace Go.Proofs.Ytaeimdcmpjanbaa.prefixes
open Go.RowKit

def cpl : List UInt8 → List UInt8 → Nat
  | x :: xs, y :: ys => if x = y then cpl xs ys + 1 else 0
  | _, _ => 0

theorem cpl_nil (l : List UInt8) : cpl l [] = 0 := by cases l <;> rfl
theorem cpl_le : ∀ a b : List UInt8, cpl a b ≤ a.length ∧ cpl a b ≤ b.length
  | [], b => by cases b <;> simp [cpl]
  | x :: xs, [] => by simp [cpl]
  | x :: xs, y :: ys => by
    have := cpl_le xs ys
    simp only [cpl, List.length_cons]
    split <;> omega
theorem cpl_step (a b : ByteArray) (k : Nat) (h1 : k < a.size) (h2 : k < b.size) (h : a[k] = b[k]) :
    cpl (a.data.toList.drop k) (b.data.toList.drop k) = cpl (a.data.toList.drop (k+1)) (b.data.toList.drop (k+1)) + 1 := by
  rw [List.drop_eq_getElem_cons (i := k) (by simpa using h1), List.drop_eq_getElem_cons (l := b.data.toList) (i := k) (by simpa using h2)]
  simp only [cpl]; rw [if_pos]; exact h
theorem cpl_stop (a b : ByteArray) (k : Nat) (h1 : k < a.size) (h2 : k < b.size) (h : ¬ a[k] = b[k]) :
    cpl (a.data.toList.drop k) (b.data.toList.drop k) = 0 := by
  rw [List.drop_eq_getElem_cons (i := k) (by simpa using h1), List.drop_eq_getElem_cons (l := b.data.toList) (i := k) (by simpa using h2)]
  simp only [cpl]; rw [if_neg]; exact h
theorem cpl_end1 (a b : ByteArray) (k : Nat) (h1 : ¬ k < a.size) : cpl (a.data.toList.drop k) (b.data.toList.drop k) = 0 := by
  rw [List.drop_of_length_le (by simpa using h1)]; cases (b.data.toList.drop k) <;> rfl
theorem cpl_end2 (a b : ByteArray) (k : Nat) (h1 : ¬ k < b.size) : cpl (a.data.toList.drop k) (b.data.toList.drop k) = 0 := by
  rw [List.drop_of_length_le (l := b.data.toList) (by simpa using h1), cpl_nil]
theorem below_drewN {B : Nat} {a w : World} (h : Below B a w) (n : Nat) : Below B a (w.drewN n) := ⟨h.os, h.tape, h.output, h.size, h.block⟩
theorem ret_int {a b : Int} (h : a = b) : Ending.returned (.int .i64 a) = .returned (.int .i64 b) := by rw [h]

set_option maxHeartbeats 400000 in
/-- impl.CommonPrefix -/
theorem impl_any (a b : ByteArray) (w : World) (ha : a.size ≤ maxLen) (hb : b.size ≤ maxLen) :
    Calls Try.prog 21 #[.string a, .string b] w fun e w' => e = .returned (.int .i64 (cpl a.data.toList b.data.toList)) ∧ Below w.heap.size w w' := by
  unfold maxLen at ha hb
  go_enter Try.func21, Try.ntmps21
  go_wp2
  go_loopw [5] (fun n wr => ∃ k : Nat, k ≤ a.size ∧ k ≤ b.size ∧ n = .int .i64 k ∧ cpl a.data.toList b.data.toList = k + cpl (a.data.toList.drop k) (b.data.toList.drop k) ∧ Below w.heap.size w wr) (fun n _ => a.size - (intOf n).toNat)
  case atStart => exact ⟨0, by omega, by omega, rfl, by simp, Below.refl _ _⟩
  case round =>
    obtain ⟨k, hka, hkb, rfl, hc, hbw⟩ := hrel
    have HC := Lib.hid hc
    clear hc
    by_cases h1 : k < a.size
    · by_cases h2 : k < b.size
      · by_cases h3 : a[k] = b[k]
        · have HS := Lib.hid (cpl_step a b k h1 h2 h3)
          go_wp2
          go_quiet (fail)
          go_wp2
          go_roundw
          case rel => exact ⟨k+1, by omega, by omega, by go_num, by rw [HC.out, HS.out]; omega, below_drewN hbw _⟩
          case measure => simp [intOf]; omega
        · have h3' : (((a[k]).toNat : Int) == ((b[k]).toNat : Int)) = false := by rw [beq_eq_false_iff_ne]; intro h; exact h3 (UInt8.toNat_inj.1 (by omega))
          have HS := Lib.hid (cpl_stop a b k h1 h2 h3)
          go_wp2
          go_quiet (fail)
          go_wp2
          go_ret
          exact ⟨ret_int (by rw [HC.out, HS.out]; omega), below_drewN hbw _⟩
      · have h2' : decide ((k : Int) < b.size) = false := by simpa using h2
        have HS := Lib.hid (cpl_end2 a b k h2)
        go_wp2
        go_quiet (fail)
        go_wp2
        go_ret
        exact ⟨ret_int (by rw [HC.out, HS.out]; omega), below_drewN hbw _⟩
    · have h2' : decide ((k : Int) < a.size) = false := by simpa using h1
      have HS := Lib.hid (cpl_end1 a b k h1)
      go_wp2
      go_quiet (fail)
      go_wp2
      go_ret
      exact ⟨ret_int (by rw [HC.out, HS.out]; omega), below_drewN hbw _⟩
set_option maxHeartbeats 400000 in
/-- spec.CommonPrefix -/
theorem spec_any (a b : ByteArray) (w : World) (ha : a.size ≤ maxLen) (hb : b.size ≤ maxLen) :
    Calls Try.prog 69 #[.string a, .string b] w fun e w' => e = .returned (.int .i64 (cpl a.data.toList b.data.toList)) ∧ Below w.heap.size w w' := by
  unfold maxLen at ha hb
  go_enter Try.func69, Try.ntmps69
  go_wp2
  go_loopw [5] (fun n wr => ∃ k : Nat, k ≤ a.size ∧ k ≤ b.size ∧ n = .int .i64 k ∧ cpl a.data.toList b.data.toList = k + cpl (a.data.toList.drop k) (b.data.toList.drop k) ∧ Below w.heap.size w wr) (fun n _ => a.size - (intOf n).toNat)
  case atStart => exact ⟨0, by omega, by omega, rfl, by simp, Below.refl _ _⟩
  case round =>
    obtain ⟨k, hka, hkb, rfl, hc, hbw⟩ := hrel
    have HC := Lib.hid hc
    clear hc
    by_cases h1 : k < a.size
    · by_cases h2 : k < b.size
      · by_cases h3 : a[k] = b[k]
        · have HS := Lib.hid (cpl_step a b k h1 h2 h3)
          go_wp2
          go_quiet (fail)
          go_wp2
          go_roundw
          case rel => exact ⟨k+1, by omega, by omega, by go_num, by rw [HC.out, HS.out]; omega, below_drewN hbw _⟩
          case measure => simp [intOf]; omega
        · have h3' : (((a[k]).toNat : Int) == ((b[k]).toNat : Int)) = false := by rw [beq_eq_false_iff_ne]; intro h; exact h3 (UInt8.toNat_inj.1 (by omega))
          have HS := Lib.hid (cpl_stop a b k h1 h2 h3)
          go_wp2
          go_quiet (fail)
          go_wp2
          go_ret
          exact ⟨ret_int (by rw [HC.out, HS.out]; omega), below_drewN hbw _⟩
      · have h2' : decide ((k : Int) < b.size) = false := by simpa using h2
        have HS := Lib.hid (cpl_end2 a b k h2)
        go_wp2
        go_quiet (fail)
        go_wp2
        go_ret
        exact ⟨ret_int (by rw [HC.out, HS.out]; omega), below_drewN hbw _⟩
    · have h2' : decide ((k : Int) < a.size) = false := by simpa using h1
      have HS := Lib.hid (cpl_end1 a b k h1)
      go_wp2
      go_quiet (fail)
      go_wp2
      go_ret
      exact ⟨ret_int (by rw [HC.out, HS.out]; omega), below_drewN hbw _⟩

end Go.Proofs.Ytaeimdcmpjanbaa.prefixes
