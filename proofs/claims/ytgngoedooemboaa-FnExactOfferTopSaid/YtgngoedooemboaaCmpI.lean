/- cmp.Compare at integers; rows cut short; comparisons of records. No condition. -/
import Derived.Test.YtgngoedooemboaaMemAt
import Derived.Test.YtgngoedooemboaaRec
set_option linter.unusedVariables false
set_option linter.unusedSimpArgs false
namespace Go.Proofs.Ytgngoedooemboaa.cmpI
open Go.RowKit Go.Proofs.Ytgngoedooemboaa.mem

def cmpI (x y : Int) : Int := if x < y then -1 else if y < x then 1 else 0
theorem cmpI_neg (x y : Int) : decide (cmpI x y < 0) = decide (x < y) := by
  unfold cmpI
  by_cases h : x < y
  · simp [h]
  · by_cases h2 : y < x <;> simp [h, h2]
theorem own_lessN {w : World} {base n c sz : Nat} {e : TypeId} {A : Option Addr} {xs : List Value} (h : w.ownsRow base e sz (.slice A n c) n xs) {k : Nat} (hk : k ≤ n) : w.ownsRow base e sz (.slice A k c) k (xs.take (k * sz)) := by
  have hl := h.1
  have hks := Nat.mul_le_mul_right sz hk
  rcases h.2 with ⟨hv, h0⟩ | ⟨g, cap, cur, hv, hb, hg, hnc, hcm, hcs, ht⟩
  · injection hv with h1 h2 h3
    subst h1; subst h3
    obtain rfl : k = 0 := by omega
    exact ⟨by simp, .inl ⟨rfl, rfl⟩⟩
  · injection hv with h1 h2 h3
    subst h1; subst h3
    refine ⟨by rw [List.length_take]; omega, .inr ⟨g, c, cur, rfl, hb, hg, by omega, hcm, hcs, ?_⟩⟩
    rw [← ht, List.take_take, Nat.min_eq_left hks]
set_option maxHeartbeats 400000 in
theorem nan_any (x : Int) (w : World) : Calls Try.prog 103 #[.int .i64 x] w fun e w' => e = .returned (.bool false) ∧ w = w' := by
  go_enter Try.func103, Try.ntmps103
  go_wp2
  go_ret
  exact ⟨ret_bool (by simp), rfl⟩
set_option maxHeartbeats 400000 in
theorem compare_any (x y : Int) (w : World) : Calls Try.prog 76 #[.int .i64 x, .int .i64 y] w fun e w' => e = .returned (.int .i64 (cmpI x y)) ∧ w = w' := by
  by_cases h : x < y
  · have HE := Lib.hid (show cmpI x y = -1 by simp [cmpI, h])
    go_enter Try.func76, Try.ntmps76
    go_wp2_with (go_at_call 103; refine (nan_any _ _).mono ?_; rintro e w' ⟨rfl, rfl⟩)
    go_ret
    exact ⟨ret_int HE.out.symm, rfl⟩
  · by_cases h2 : y < x
    · have HE := Lib.hid (show cmpI x y = 1 by simp [cmpI, h, h2])
      go_enter Try.func76, Try.ntmps76
      go_wp2_with (go_at_call 103; refine (nan_any _ _).mono ?_; rintro e w' ⟨rfl, rfl⟩)
      go_ret
      exact ⟨ret_int HE.out.symm, rfl⟩
    · have HE := Lib.hid (show cmpI x y = 0 by simp [cmpI, h, h2])
      go_enter Try.func76, Try.ntmps76
      go_wp2_with (go_at_call 103; refine (nan_any _ _).mono ?_; rintro e w' ⟨rfl, rfl⟩)
      go_ret
      exact ⟨ret_int HE.out.symm, rfl⟩
set_option maxRecDepth 100000 in
set_option maxHeartbeats 1000000 in
theorem keys_any (a0 a1 b0 b1 : Int) (w : World) : Calls Try.prog 97 #[.agg #[.int .i64 a0, .int .i64 a1], .agg #[.int .i64 b0, .int .i64 b1]] w fun e w' => e = .returned (.int .i64 (cmpI a0 b0)) ∧ Below w.heap.size w w' := by
  have hbb : ∀ o o' : Obj, Below w.heap.size w ((w.alloc o).alloc o') := fun o o' => ((Below.refl _ _).alloc (Nat.le_refl _) o).alloc (by simp) o'
  have HB := Lib.hid hbb
  clear hbb
  go_enter Try.func97, Try.ntmps97
  go_wp2_with fail
  refine (compare_any _ _ _).mono ?_
  rintro e w1 ⟨rfl, rfl⟩
  go_wp2
  go_ret
  exact ⟨rfl, HB.out _ _⟩
set_option maxRecDepth 100000 in
set_option maxHeartbeats 1000000 in
theorem top_clo (a b : Rec) (w : World) : Calls Try.prog 96 #[.agg #[.int .i64 a.key, .int .i64 a.tag], .agg #[.int .i64 b.key, .int .i64 b.tag]] w fun e w' => e = .returned (.int .i64 (cmpI b.key a.key)) ∧ Below w.heap.size w w' := by
  have hbb : ∀ o o' : Obj, Below w.heap.size w ((w.alloc o).alloc o') := fun o o' => ((Below.refl _ _).alloc (Nat.le_refl _) o).alloc (by simp) o'
  have HB := Lib.hid hbb
  have HK := Lib.hid (fun a0 a1 b0 b1 W => keys_any a0 a1 b0 b1 W)
  clear hbb
  go_enter Try.func96, Try.ntmps96
  go_wp2_with fail
  refine (HK.out _ _ _ _ _).mono ?_
  rintro e w1 ⟨rfl, hb⟩
  have hb2 := below_step (HB.out _ _) hb
  go_wp2
  go_ret
  exact ⟨rfl, hb2⟩
set_option maxRecDepth 100000 in
set_option maxHeartbeats 1000000 in
theorem list_clo (a b : Rec) (w : World) : Calls Try.prog 99 #[.agg #[.int .i64 a.key, .int .i64 a.tag], .agg #[.int .i64 b.key, .int .i64 b.tag]] w fun e w' => e = .returned (.int .i64 (cmpI b.key a.key)) ∧ Below w.heap.size w w' := by
  have hbb : ∀ o o' : Obj, Below w.heap.size w ((w.alloc o).alloc o') := fun o o' => ((Below.refl _ _).alloc (Nat.le_refl _) o).alloc (by simp) o'
  have HB := Lib.hid hbb
  have HK := Lib.hid (fun a0 a1 b0 b1 W => keys_any a0 a1 b0 b1 W)
  clear hbb
  go_enter Try.func99, Try.ntmps99
  go_wp2_with fail
  refine (HK.out _ _ _ _ _).mono ?_
  rintro e w1 ⟨rfl, hb⟩
  have hb2 := below_step (HB.out _ _) hb
  go_wp2
  go_ret
  exact ⟨rfl, hb2⟩
end Go.Proofs.Ytgngoedooemboaa.cmpI
