/- The laws' own helpers on a code of bytes. No condition beyond what a Go slice can hold. -/
import Derived.Test.YtlckeefjhafloaaMem
set_option linter.unusedVariables false
set_option linter.unusedSimpArgs false
namespace Go.Proofs.Ytlckeefjhafloaa.codes
open Go.RowKit Go.Proofs.Ytlckeefjhafloaa.mem

set_option maxHeartbeats 400000 in
theorem big_any (A : Option Addr) (n c : Nat) (w : World) (hn : n ≤ maxLen) :
    Calls Try.prog 16 #[.slice A n c] w fun e w' => e = .returned (.bool (decide (65536 < n))) ∧ w = w' := by
  unfold maxLen at hn
  go_enter Try.func16, Try.ntmps16
  go_wp2
  go_ret
  exact ⟨ret_bool (decide_eq_decide.2 (by omega)), rfl⟩

set_option maxHeartbeats 400000 in
theorem at_any (A : Option Addr) (c : Nat) (zs : List Int) (i : Nat) (w : World) (hn : zs.length ≤ 65536) (hi : i ≤ 1000) (hz : ∀ z ∈ zs, 0 ≤ z ∧ z ≤ 255) (hr : Rd w 1 A zs.length (u8s zs)) :
    Calls Try.prog 49 #[.slice A zs.length c, .int .i64 (i : Int)] w fun e w' => ∃ x : Nat, x ≤ 255 ∧ e = .returned (.int .i64 (x : Int)) ∧ w = w' := by
  have HZ := Lib.hid hz
  clear hz
  by_cases h : i < zs.length
  · obtain ⟨b, off, rfl, hc⟩ := hr.byte h
    have hb := HZ.out zs[i] (List.getElem_mem h)
    obtain ⟨x, hx⟩ : ∃ x : Nat, zs[i] = (x : Int) := ⟨zs[i].toNat, by omega⟩
    rw [hx] at hc hb
    clear hx
    go_enter Try.func49, Try.ntmps49
    go_wp2
    go_ret
    exact ⟨x, by omega, ret_int rfl, rfl⟩
  · obtain ⟨x, hx, hx2⟩ : ∃ x : Nat, ((i : Int) * 7 + zs.length) % 256 = (x : Int) ∧ x ≤ 255 := ⟨(((i : Int) * 7 + zs.length) % 256).toNat, by omega, by omega⟩
    have HX := Lib.hid hx
    clear hx
    go_enter Try.func49, Try.ntmps49
    go_wp2
    go_ret
    exact ⟨x, hx2, ret_int (by rw [← HX.out]), rfl⟩
end Go.Proofs.Ytlckeefjhafloaa.codes
