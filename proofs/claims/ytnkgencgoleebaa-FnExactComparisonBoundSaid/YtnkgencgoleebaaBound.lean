/- ComparisonBound, the program's and the reference's: the least b with 2^b at least n!. Condition: n within 1 and 12 (else both say so). -/
import Derived.Test.YtnkgencgoleebaaIn
namespace Go.Proofs.Ytnkgencgoleebaa.bound
open Go.RowKit Go.Proofs.Ytnkgencgoleebaa.ins

def fac : Nat → Nat
  | 0 => 1
  | n + 1 => (n + 1) * fac n
theorem fac_pos : ∀ n, 1 ≤ fac n
  | 0 => Nat.le_refl _
  | n + 1 => by simp only [fac]; exact Nat.mul_le_mul (Nat.le_add_left 1 n) (fac_pos n)
theorem fac_mono {m : Nat} : ∀ {n : Nat}, m ≤ n → fac m ≤ fac n
  | 0, h => by obtain rfl : m = 0 := by omega
               exact Nat.le_refl _
  | n + 1, h => by
    by_cases e : m = n + 1
    · subst e; exact Nat.le_refl _
    · have h1 := fac_mono (m := m) (n := n) (by omega)
      have h2 : 1 * fac n ≤ (n + 1) * fac n := Nat.mul_le_mul_right _ (by omega)
      simp only [fac]; omega
theorem fac_le {n : Nat} (h : n ≤ 12) : fac n ≤ 479001600 := Nat.le_trans (fac_mono h) (by decide)
theorem ret_two {a b : Int} (h : a = b) : Ending.returned (.tuple #[.int .i64 a, .bool true]) = .returned (.tuple #[.int .i64 b, .bool true]) := by rw [h]

set_option maxHeartbeats 400000 in
theorem impl_fac (n : Nat) (w : World) (h0 : 1 ≤ n) (h1 : n ≤ 12) :
    Calls Try.prog 24 #[.int .i64 (n : Int)] w fun e w' => e = .returned (.int .i64 (fac n)) ∧ w = w' := by
  go_enter Try.func24, Try.ntmps24
  go_wp2
  go_loop [3, 4] (fun x i => ∃ k : Nat, 1 ≤ k ∧ k ≤ n ∧ x = .int .i64 (fac k : Int) ∧ i = .int .i64 (k + 1 : Int)) (fun _ i => 13 - (intOf i).toNat)
  case atStart => exact ⟨1, by omega, by omega, rfl, rfl⟩
  case round =>
    obtain ⟨k, hk1, hk2, rfl, rfl⟩ := hrel
    by_cases hlt : k + 1 ≤ n
    · have hf : (0 : Int) ≤ (fac k : Int) * ((k : Int) + 1) ∧ (fac k : Int) * ((k : Int) + 1) ≤ 479001600 := by
        have h2 := fac_le (n := k + 1) (by omega)
        simp only [fac] at h2
        have h3 : (((k + 1) * fac k : Nat) : Int) = (fac k : Int) * ((k : Int) + 1) := by rw [Int.natCast_mul, Int.mul_comm]; rfl
        omega
      have hg : (fac (k + 1) : Int) = (fac k : Int) * ((k : Int) + 1) := by
        simp only [fac]; rw [Int.natCast_mul, Int.mul_comm]; rfl
      have HG := Lib.hid hg
      clear hg
      go_wp2
      go_round
      case rel => exact ⟨k + 1, by omega, by omega, by rw [HG.out], by go_num⟩
      case measure => simp only [intOf]; omega
    · have e := Lib.hid (show k = n by omega)
      go_wp2
      go_ret
      exact ⟨by rw [← e.out]; rfl, rfl⟩

set_option maxHeartbeats 400000 in
theorem spec_fac (n : Nat) (w : World) (h0 : 1 ≤ n) (h1 : n ≤ 12) :
    Calls Try.prog 22 #[.int .i64 (n : Int)] w fun e w' => e = .returned (.int .i64 (fac n)) ∧ w = w' := by
  go_enter Try.func22, Try.ntmps22
  go_wp2
  go_loop [0, 3] (fun i x => ∃ k y : Nat, 1 ≤ k ∧ k ≤ n ∧ i = .int .i64 (k : Int) ∧ x = .int .i64 (y : Int) ∧ fac n = y * fac k) (fun i _ => (intOf i).toNat)
  case atStart => exact ⟨n, 1, by omega, by omega, rfl, rfl, by simp⟩
  case round =>
    obtain ⟨k, y, hk1, hk2, rfl, rfl, hy⟩ := hrel
    have hle := fac_le h1
    by_cases hlt : 1 < k
    · obtain ⟨q, rfl⟩ : ∃ q, k = q + 1 := ⟨k - 1, by omega⟩
      have e : fac n = (y * (q + 1)) * fac q := by rw [hy]; simp only [fac]; rw [Nat.mul_assoc]
      have hq := fac_pos q
      have hb : y * (q + 1) ≤ 479001600 := Nat.le_trans (Nat.le_trans (by omega) (Nat.mul_le_mul_left _ hq)) (Nat.le_trans (Nat.le_of_eq e.symm) hle)
      have hf : (0 : Int) ≤ (y : Int) * ((q : Int) + 1) ∧ (y : Int) * ((q : Int) + 1) ≤ 479001600 := by
        have h3 : ((y * (q + 1) : Nat) : Int) = (y : Int) * ((q : Int) + 1) := by rw [Int.natCast_mul]; rfl
        omega
      have HG := Lib.hid (show ((y * (q + 1) : Nat) : Int) = (y : Int) * ((q : Int) + 1) by rw [Int.natCast_mul]; rfl)
      have HE := Lib.hid e
      clear e hy hb hq
      go_wp2
      go_round
      case rel => exact ⟨q, y * (q + 1), by omega, by omega, by go_num, by rw [HG.out], HE.out⟩
      case measure => simp only [intOf]; omega
    · have HE := Lib.hid (show fac n = y by obtain rfl : k = 1 := by omega
                                            simpa [fac] using hy)
      clear hy
      go_wp2
      go_ret
      exact ⟨by rw [HE.out]; rfl, rfl⟩

theorem wrap_pow {b : Nat} (h : b ≤ 29) : wrap64 ((2 : Int) ^ b) = ((2 ^ b : Nat) : Int) := by
  have h2 : 2 ^ b ≤ 2 ^ 29 := Nat.pow_le_pow_right (by omega) h
  have h3 : (2 : Nat) ^ 29 = 536870912 := by decide
  have h4 : ((2 ^ b : Nat) : Int) = (2 : Int) ^ b := by simp
  rw [← h4]
  rw [h3] at h2
  clear h4
  generalize 2 ^ b = p at h2 ⊢
  exact IntWalk.wrap64_in _ (by omega)
/-- the least b with 2^b at least F -/
def Least (F b : Nat) : Prop := (∀ j, j < b → 2 ^ j < F) ∧ F ≤ 2 ^ b
theorem Least.eq {F a b : Nat} (h : Least F a) (k : Least F b) : a = b := by
  rcases Nat.lt_trichotomy a b with l | l | l
  · have := k.1 a l; have := h.2; omega
  · exact l
  · have := h.1 b l; have := k.2; omega
theorem pow_lt {F b : Nat} (hF : F ≤ 479001600) (h : 2 ^ b < F) : b < 29 := by
  rcases Nat.lt_or_ge b 29 with l | l
  · exact l
  · have h2 : 2 ^ 29 ≤ 2 ^ b := Nat.pow_le_pow_right (by omega) l
    have h3 : (2 : Nat) ^ 29 = 536870912 := by decide
    omega

set_option maxHeartbeats 400000 in
theorem impl_yes (n : Nat) (w : World) (h0 : 1 ≤ n) (h1 : n ≤ 12) :
    Calls Try.prog 12 #[.int .i64 (n : Int)] w fun e w' => ∃ b : Nat, Least (fac n) b ∧ e = .returned (.tuple #[.int .i64 b, .bool true]) ∧ Below w.heap.size w w' := by
  have i1 : inB n 1 12 = true := inB_true (by omega) (by omega)
  go_enter Try.func12, Try.ntmps12
  go_wp2_with (first | (go_at_call 23; refine (impl_any _ _ _ _).mono ?_; rintro e w' ⟨rfl, rfl⟩))
  go_loopw [4] (fun x wr => ∃ b : Nat, x = .int .i64 b ∧ (∀ j, j < b → 2 ^ j < fac n) ∧ Below w.heap.size w wr) (fun x _ => 30 - (intOf x).toNat)
  case atStart => exact ⟨0, rfl, fun j h => absurd h (by omega), Below.refl _ _⟩
  case round =>
    obtain ⟨b, rfl, hb, hw⟩ := hrel
    have hb29 : b ≤ 29 := by
      rcases Nat.eq_zero_or_pos b with h | h
      · omega
      · have := pow_lt (fac_le h1) (hb (b - 1) (by omega)); omega
    have HB := Lib.hid hb
    clear hb
    have hw2 := wrap_pow hb29
    by_cases hlt : 2 ^ b < fac n
    · have hd : decide (wrap64 ((2 : Int) ^ b) < (fac n : Int)) = true := by rw [hw2]; simpa using (show ((2 ^ b : Nat) : Int) < (fac n : Int) by omega)
      have HB2 := Lib.hid (show ∀ j, j < b + 1 → 2 ^ j < fac n from fun j hj => by
        by_cases e : j = b
        · subst e; exact hlt
        · exact HB.out j (by omega))
      clear hw2
      have HL := Lib.hid hlt
      clear hlt
      go_wp2_with fail
      go_quiet ((go_at_call 24; exact quiet_eq (impl_fac _ _ h0 h1)))
      go_wp2
      go_roundw
      case rel => exact ⟨b + 1, by go_num, HB2.out, below_drewN hw _⟩
      case measure => have := pow_lt (fac_le h1) HL.out; simp only [intOf]; omega
    · have hd : decide (wrap64 ((2 : Int) ^ b) < (fac n : Int)) = false := by rw [hw2]; simpa using (show ¬ ((2 ^ b : Nat) : Int) < (fac n : Int) by omega)
      have HL := Lib.hid (show fac n ≤ 2 ^ b by omega)
      clear hlt hw2
      go_wp2_with fail
      go_quiet ((go_at_call 24; exact quiet_eq (impl_fac _ _ h0 h1)))
      go_wp2
      go_ret2
      exact ⟨b, ⟨HB.out, HL.out⟩, rfl, below_drewN hw _⟩

set_option maxHeartbeats 400000 in
theorem spec_yes (n : Nat) (w : World) (h0 : 1 ≤ n) (h1 : n ≤ 12) :
    Calls Try.prog 11 #[.int .i64 (n : Int)] w fun e w' => ∃ b : Nat, Least (fac n) b ∧ e = .returned (.tuple #[.int .i64 b, .bool true]) ∧ w = w' := by
  have i1 : inB n 1 12 = true := inB_true (by omega) (by omega)
  go_enter Try.func11, Try.ntmps11
  go_wp2_with (first | (go_at_call 18; refine (spec_any _ _ _ _).mono ?_; rintro e w' ⟨rfl, rfl⟩))
  go_loop [4, 5] (fun x y => ∃ b p : Nat, x = .int .i64 b ∧ y = .int .i64 p ∧ p = 2 ^ b ∧ (∀ j, j < b → 2 ^ j < fac n)) (fun x _ => 30 - (intOf x).toNat)
  case atStart => exact ⟨0, 1, rfl, rfl, rfl, fun j h => absurd h (by omega)⟩
  case round =>
    obtain ⟨b, p, rfl, rfl, hp, hb⟩ := hrel
    have hb29 : b ≤ 29 := by
      rcases Nat.eq_zero_or_pos b with h | h
      · omega
      · have := pow_lt (fac_le h1) (hb (b - 1) (by omega)); omega
    have hp29 : p ≤ 536870912 := by rw [hp]; exact Nat.le_trans (Nat.pow_le_pow_right (by omega) hb29) (by decide)
    have HB := Lib.hid hb
    have HP := Lib.hid hp
    clear hb hp
    by_cases hlt : p < fac n
    · have HB2 := Lib.hid (show ∀ j, j < b + 1 → 2 ^ j < fac n from fun j hj => by
        by_cases e : j = b
        · subst e; rw [← HP.out]; exact hlt
        · exact HB.out j (by omega))
      have hp28 := Lib.hid (pow_lt (fac_le h1) (by rw [← HP.out]; exact hlt))
      go_wp2_with fail
      refine (spec_fac _ _ h0 h1).mono ?_
      rintro e w' ⟨rfl, rfl⟩
      go_wp2
      go_round
      case rel => exact ⟨b + 1, 2 * p, by go_num, by go_num, by rw [HP.out, Nat.pow_succ, Nat.mul_comm], HB2.out⟩
      case measure => have := hp28.out; simp only [intOf]; omega
    · go_wp2_with fail
      refine (spec_fac _ _ h0 h1).mono ?_
      rintro e w' ⟨rfl, rfl⟩
      go_wp2
      go_ret2
      exact ⟨b, ⟨HB.out, by rw [← HP.out]; omega⟩, rfl, rfl⟩

set_option maxHeartbeats 400000 in
theorem impl_no (n : Int) (w : World) (h0 : ¬ (1 ≤ n ∧ n ≤ 12)) :
    Calls Try.prog 12 #[.int .i64 n] w fun e w' => e = .returned (.tuple #[.int .i64 0, .bool false]) ∧ w = w' := by
  have i1 : inB n 1 12 = false := inB_false h0
  go_enter Try.func12, Try.ntmps12
  go_wp2_with (first | (go_at_call 18; refine (spec_any _ _ _ _).mono ?_; rintro e w' ⟨rfl, rfl⟩) | (go_at_call 23; refine (impl_any _ _ _ _).mono ?_; rintro e w' ⟨rfl, rfl⟩))
  go_ret2
  exact ⟨rfl, rfl⟩
set_option maxHeartbeats 400000 in
theorem spec_no (n : Int) (w : World) (h0 : ¬ (1 ≤ n ∧ n ≤ 12)) :
    Calls Try.prog 11 #[.int .i64 n] w fun e w' => e = .returned (.tuple #[.int .i64 0, .bool false]) ∧ w = w' := by
  have i1 : inB n 1 12 = false := inB_false h0
  go_enter Try.func11, Try.ntmps11
  go_wp2_with (first | (go_at_call 18; refine (spec_any _ _ _ _).mono ?_; rintro e w' ⟨rfl, rfl⟩) | (go_at_call 23; refine (impl_any _ _ _ _).mono ?_; rintro e w' ⟨rfl, rfl⟩))
  go_ret2
  exact ⟨rfl, rfl⟩
end Go.Proofs.Ytnkgencgoleebaa.bound
