/- The number of passes that reduce runs to one, and BalancedVolume over it. Conditions: the numbers that these functions let in. -/
import Derived.Test.YtgffabjajbgbjaaIn
namespace Go.Proofs.Ytgffabjajbgbjaa.pass
open Go.RowKit Go.Proofs.Ytgffabjajbgbjaa.ins

theorem step_lt {r v : Nat} (h1 : 1 < r) (h2 : 2 ≤ v) : (r + v - 1) / v < r := by
  apply Nat.div_lt_of_lt_mul
  obtain ⟨q, rfl⟩ : ∃ q, r = q + 1 := ⟨r - 1, by omega⟩
  have h := Nat.mul_le_mul_right q h2
  rw [Nat.mul_add]
  omega
/-- passes that reduce r runs to one, v at a time -/
def pc (v r : Nat) : Nat := if h : 1 < r ∧ 2 ≤ v then pc v ((r + v - 1) / v) + 1 else 0
termination_by r
decreasing_by exact step_lt h.1 h.2
theorem pc_more {v r : Nat} (h1 : 1 < r) (h2 : 2 ≤ v) : pc v r = pc v ((r + v - 1) / v) + 1 := by rw [pc, dif_pos ⟨h1, h2⟩]
theorem pc_done {v r : Nat} (h1 : ¬ 1 < r) : pc v r = 0 := by rw [pc, dif_neg (fun h => h1 h.1)]
theorem pc_le (v : Nat) : ∀ r : Nat, pc v r ≤ r := by
  intro r
  induction r using Nat.strongRecOn with
  | ind r ih =>
    by_cases h : 1 < r ∧ 2 ≤ v
    · rw [pc_more h.1 h.2]
      have h3 := step_lt h.1 h.2
      have := ih _ h3
      omega
    · rw [pc, dif_neg h]; omega
theorem step_cast (r v : Nat) (h : 2 ≤ v) : ((r : Int) + v - 1) / v = (((r + v - 1) / v : Nat) : Int) := by
  rw [Int.natCast_ediv]
  congr 1
  omega
theorem ret_two {a b : Int} (h : a = b) : Ending.returned (.tuple #[.int .i64 a, .bool true]) = .returned (.tuple #[.int .i64 b, .bool true]) := by rw [h]

theorem div_lo (x v : Nat) (h : 1 ≤ x) (h2 : 2 ≤ v) : 1 ≤ (x + v - 1) / v := (Nat.le_div_iff_mul_le (by omega)).2 (by omega)
set_option maxHeartbeats 400000 in
theorem impl_pass (r v : Nat) (w : World) (h0 : 1 ≤ r) (h1 : r ≤ 100000) (h2 : 2 ≤ v) (h3 : v ≤ 16) :
    Calls Try.prog 70 #[.int .i64 (r : Int), .int .i64 (v : Int)] w fun e w' => e = .returned (.int .i64 (pc v r)) ∧ w = w' := by
  have i1 : inB r 0 100000 = true := inB_true (by omega) (by omega)
  have i2 : inB v 2 16 = true := inB_true (by omega) (by omega)
  go_enter Try.func70, Try.ntmps70
  go_wp2_with (first | (go_at_call 50; refine (spec_any _ _ _ _).mono ?_; rintro e w' ⟨rfl, rfl⟩))
  go_loop [0, 5] (fun x n => ∃ y m : Nat, 1 ≤ y ∧ y ≤ r ∧ x = .int .i64 y ∧ n = .int .i64 m ∧ pc v r = m + pc v y) (fun x _ => (intOf x).toNat)
  case atStart => exact ⟨r, 0, by omega, by omega, rfl, rfl, by omega⟩
  case round =>
    obtain ⟨y, m, hy1, hy2, rfl, rfl, hp⟩ := hrel
    have hb := pc_le v r
    have hm : m ≤ r := by omega
    by_cases hlt : 1 < y
    · have hs := step_lt hlt h2
      have hlo := div_lo y v hy1 h2
      have HP := Lib.hid (show pc v r = (m + 1) + pc v ((y + v - 1) / v) by rw [hp, pc_more hlt h2, Nat.add_assoc, Nat.add_comm 1])
      have HS := Lib.hid (step_cast y v h2)
      clear hp hb
      go_wp2
      go_round
      case rel => exact ⟨(y + v - 1) / v, m + 1, hlo, by omega, by rw [HS.out], by go_num, HP.out⟩
      case measure => rw [HS.out]; simp only [intOf]; omega
    · have HP := Lib.hid (show pc v r = m by rw [hp, pc_done hlt]; rfl)
      clear hp hb
      go_wp2
      go_ret
      exact ⟨ret_int (by rw [HP.out]), rfl⟩

theorem bv_mul (a r : Nat) (h : a ≤ r) (h1 : r ≤ 1000) : (a : Int) * r ≤ 1000000 ∧ 0 ≤ (a : Int) * r := by
  have h2 : a * r ≤ 1000 * 1000 := Nat.mul_le_mul (by omega) h1
  have h3 : ((a * r : Nat) : Int) = (a : Int) * r := Int.natCast_mul a r
  omega
set_option maxHeartbeats 400000 in
theorem impl_yes (t r : Nat) (w : World) (h0 : 4 ≤ t) (h1 : t ≤ 8) (h2 : 1 ≤ r) (h3 : r ≤ 1000) :
    Calls Try.prog 31 #[.int .i64 (t : Int), .int .i64 (r : Int)] w fun e w' => e = .returned (.tuple #[.int .i64 (pc (t / 2) r), .int .i64 ((pc (t / 2) r : Int) * r), .bool true]) ∧ w = w' := by
  have i1 : inB t 3 8 = true := inB_true (by omega) (by omega)
  have i2 : inB r 1 1000 = true := inB_true (by omega) (by omega)
  have i3 : inB t 4 8 = true := inB_true (by omega) (by omega)
  have hp := pc_le (t / 2) r
  have hm := bv_mul _ r hp h3
  go_enter Try.func31, Try.ntmps31
  go_wp2_with (first | (go_at_call 50; refine (spec_any _ _ _ _).mono ?_; rintro e w' ⟨rfl, rfl⟩) | (go_at_call 53; refine (impl_any _ _ _ _).mono ?_; rintro e w' ⟨rfl, rfl⟩) | (go_at_call 70; refine (impl_pass r (t / 2) _ (by omega) (by omega) (by omega) (by omega)).mono ?_; rintro e w' ⟨rfl, rfl⟩) | go_in)
  go_ret3
  exact ⟨rfl, rfl⟩
set_option maxHeartbeats 400000 in
theorem impl_no (t r : Int) (w : World) (h0 : ¬ (4 ≤ t ∧ t ≤ 8 ∧ 1 ≤ r ∧ r ≤ 1000)) :
    Calls Try.prog 31 #[.int .i64 t, .int .i64 r] w fun e w' => e = .returned (.tuple #[.int .i64 0, .int .i64 0, .bool false]) ∧ w = w' := by
  go_enter Try.func31, Try.ntmps31
  by_cases h1 : 4 ≤ t ∧ t ≤ 8
  · have i1 : inB t 3 8 = true := inB_true (by omega) (by omega)
    have i2 : inB r 1 1000 = false := inB_false (by omega)
    have i3 : inB t 4 8 = true := inB_true (by omega) (by omega)
    go_wp2_with (first | (go_at_call 50; refine (spec_any _ _ _ _).mono ?_; rintro e w' ⟨rfl, rfl⟩) | (go_at_call 53; refine (impl_any _ _ _ _).mono ?_; rintro e w' ⟨rfl, rfl⟩) | go_in)
    go_ret3
    exact ⟨rfl, rfl⟩
  · have i3 : inB t 4 8 = false := inB_false h1
    by_cases h2 : inB t 3 8 = true
    · have h4 : t < 4 := by have := inB_iff.1 h2; omega
      by_cases h3 : inB r 1 1000 = true
      · go_wp2_with (first | (go_at_call 50; refine (spec_any _ _ _ _).mono ?_; rintro e w' ⟨rfl, rfl⟩) | (go_at_call 53; refine (impl_any _ _ _ _).mono ?_; rintro e w' ⟨rfl, rfl⟩) | go_in)
        go_ret3
        exact ⟨rfl, rfl⟩
      · have h3' : inB r 1 1000 = false := by simpa using h3
        go_wp2_with (first | (go_at_call 50; refine (spec_any _ _ _ _).mono ?_; rintro e w' ⟨rfl, rfl⟩) | (go_at_call 53; refine (impl_any _ _ _ _).mono ?_; rintro e w' ⟨rfl, rfl⟩) | go_in)
        go_ret3
        exact ⟨rfl, rfl⟩
    · have h2' : inB t 3 8 = false := by simpa using h2
      go_wp2_with (first | (go_at_call 50; refine (spec_any _ _ _ _).mono ?_; rintro e w' ⟨rfl, rfl⟩) | (go_at_call 53; refine (impl_any _ _ _ _).mono ?_; rintro e w' ⟨rfl, rfl⟩) | go_in)
      go_ret3
      exact ⟨rfl, rfl⟩
end Go.Proofs.Ytgffabjajbgbjaa.pass
