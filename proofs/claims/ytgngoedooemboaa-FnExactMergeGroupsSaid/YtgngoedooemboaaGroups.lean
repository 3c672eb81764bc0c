/- Valid groups, the program's and the reference's. No condition beyond 2^20 groups. -/
import Derived.Test.YtgngoedooemboaaGrp
import Derived.Test.YtgngoedooemboaaIn
import Derived.Deep.RegionWith
import Derived.Deep.LoopGhost
set_option linter.unusedVariables false
set_option linter.unusedSimpArgs false
namespace Go.Proofs.Ytgngoedooemboaa.groups
open Go.RowKit Go.Proofs.Ytgngoedooemboaa.mem
open Go.Proofs.Ytgngoedooemboaa.ins (inB inB_true inB_false inB_iff)

def okG (g : Grp) : Bool :=
  inB g.key (-100000) 100000 && (inB g.count 1 1000 && (inB g.least 0 g.most && (inB g.most 0 999 &&
    (if g.count = 1 then decide (g.least = g.most ∧ g.sum = g.least) else inB g.sum (g.least + g.most + (g.count - 2) * g.least) (g.least + g.most + (g.count - 2) * g.most)))))
theorem mul_bd {a b : Int} (h1 : 0 ≤ a) (h2 : a ≤ 998) (h3 : 0 ≤ b) (h4 : b ≤ 999) : 0 ≤ a * b ∧ a * b ≤ 997002 := by
  constructor
  · exact Int.mul_nonneg h1 h3
  · have := Int.mul_le_mul h2 h4 h3 (by omega); omega

set_option maxRecDepth 100000 in
set_option maxHeartbeats 2000000 in
theorem impl_one (g : Grp) (w : World) :
    Calls Try.prog 54 #[.agg #[.int .i64 g.key, .int .i64 g.count, .int .i64 g.sum, .int .i64 g.least, .int .i64 g.most]] w fun e w' => e = .returned (.bool (okG g)) ∧ Below w.heap.size w w' := by
  obtain ⟨x0, x1, x2, x3, x4⟩ := g
  have hbb : ∀ o : Obj, Below w.heap.size w (w.alloc o) := fun o => (Below.refl _ _).alloc (Nat.le_refl _) o
  have HB := Lib.hid hbb
  clear hbb
  simp only
  by_cases h0 : inB x0 (-100000) 100000 = true
  · by_cases h1 : inB x1 1 1000 = true
    · by_cases h3 : inB x3 0 x4 = true
      · by_cases h4 : inB x4 0 999 = true
        · obtain ⟨b1, b2⟩ := inB_iff.1 h1
          obtain ⟨b3, b4⟩ := inB_iff.1 h3
          obtain ⟨b5, b6⟩ := inB_iff.1 h4
          have q1 : decide (999 < x4) = false := by simpa using b6
          by_cases h5 : x1 = 1
          · subst h5
            by_cases h6 : x3 = x4
            · subst h6
              by_cases h7 : x2 = x3
              · subst h7
                have HR := Lib.hid (show okG ⟨x0, 1, x2, x2, x2⟩ = true by simp [okG, h0, h1, h3, h4])
                go_enter Try.func54, Try.ntmps54
                go_wp2_with (first | (go_at_call 91; refine (ins.impl_any _ _ _ _).mono ?_; rintro e w' ⟨rfl, rfl⟩) | go_in)
                go_ret
                exact ⟨ret_bool (by rw [HR.out]), HB.out _⟩
              · have HR := Lib.hid (show okG ⟨x0, 1, x2, x3, x3⟩ = false by simp [okG, h7])
                have q2 : (x2 == x3) = false := by simpa using h7
                clear h7
                go_enter Try.func54, Try.ntmps54
                go_wp2_with (first | (go_at_call 91; refine (ins.impl_any _ _ _ _).mono ?_; rintro e w' ⟨rfl, rfl⟩) | go_in)
                go_ret
                exact ⟨ret_bool (by rw [HR.out]), HB.out _⟩
            · have HR := Lib.hid (show okG ⟨x0, 1, x2, x3, x4⟩ = false by simp [okG, h6])
              have q2 : (x3 == x4) = false := by simpa using h6
              clear h6
              go_enter Try.func54, Try.ntmps54
              go_wp2_with (first | (go_at_call 91; refine (ins.impl_any _ _ _ _).mono ?_; rintro e w' ⟨rfl, rfl⟩) | go_in)
              go_ret
              exact ⟨ret_bool (by rw [HR.out]), HB.out _⟩
          · have HR := Lib.hid (show okG ⟨x0, x1, x2, x3, x4⟩ = inB x2 (x3 + x4 + (x1 - 2) * x3) (x3 + x4 + (x1 - 2) * x4) by simp [okG, h0, h1, h3, h4, h5])
            have m1 := mul_bd (a := x1 - 2) (b := x3) (by omega) (by omega) (by omega) (by omega)
            have m2 := mul_bd (a := x1 - 2) (b := x4) (by omega) (by omega) (by omega) (by omega)
            have q2 : (x1 == 1) = false := by simpa using h5
            clear h5
            go_enter Try.func54, Try.ntmps54
            go_wp2_with (first | (go_at_call 91; refine (ins.impl_any _ _ _ _).mono ?_; rintro e w' ⟨rfl, rfl⟩) | go_in)
            go_ret
            exact ⟨ret_bool (by rw [HR.out]), HB.out _⟩
        · have h4' : inB x4 0 999 = false := by simpa using h4
          have HR := Lib.hid (show okG ⟨x0, x1, x2, x3, x4⟩ = false by simp [okG, h4'])
          obtain ⟨b3, b4⟩ := inB_iff.1 h3
          have q1 : decide (999 < x4) = true := by
            have : ¬ (0 ≤ x4 ∧ x4 ≤ 999) := fun h => h4 (inB_iff.2 h)
            simp; omega
          clear h4
          go_enter Try.func54, Try.ntmps54
          go_wp2_with (first | (go_at_call 91; refine (ins.impl_any _ _ _ _).mono ?_; rintro e w' ⟨rfl, rfl⟩) | go_in)
          go_ret
          exact ⟨ret_bool HR.out.symm, HB.out _⟩
      · have h3' : inB x3 0 x4 = false := by simpa using h3
        have HR := Lib.hid (show okG ⟨x0, x1, x2, x3, x4⟩ = false by simp [okG, h3'])
        clear h3
        by_cases h4 : inB x4 0 999 = true
        · go_enter Try.func54, Try.ntmps54
          go_wp2_with (first | (go_at_call 91; refine (ins.impl_any _ _ _ _).mono ?_; rintro e w' ⟨rfl, rfl⟩) | go_in)
          go_ret
          exact ⟨ret_bool HR.out.symm, HB.out _⟩
        · have h4' : inB x4 0 999 = false := by simpa using h4
          clear h4
          go_enter Try.func54, Try.ntmps54
          go_wp2_with (first | (go_at_call 91; refine (ins.impl_any _ _ _ _).mono ?_; rintro e w' ⟨rfl, rfl⟩) | go_in)
          go_ret
          exact ⟨ret_bool HR.out.symm, HB.out _⟩
    · have h1' : inB x1 1 1000 = false := by simpa using h1
      have HR := Lib.hid (show okG ⟨x0, x1, x2, x3, x4⟩ = false by simp [okG, h1'])
      clear h1
      go_enter Try.func54, Try.ntmps54
      go_wp2_with (first | (go_at_call 91; refine (ins.impl_any _ _ _ _).mono ?_; rintro e w' ⟨rfl, rfl⟩) | go_in)
      go_ret
      exact ⟨ret_bool HR.out.symm, HB.out _⟩
  · have h0' : inB x0 (-100000) 100000 = false := by simpa using h0
    have HR := Lib.hid (show okG ⟨x0, x1, x2, x3, x4⟩ = false by simp [okG, h0'])
    clear h0
    go_enter Try.func54, Try.ntmps54
    go_wp2_with (first | (go_at_call 91; refine (ins.impl_any _ _ _ _).mono ?_; rintro e w' ⟨rfl, rfl⟩) | go_in)
    go_ret
    exact ⟨ret_bool HR.out.symm, HB.out _⟩
set_option maxRecDepth 100000 in
set_option maxHeartbeats 2000000 in
theorem spec_one (g : Grp) (w : World) :
    Calls Try.prog 89 #[.agg #[.int .i64 g.key, .int .i64 g.count, .int .i64 g.sum, .int .i64 g.least, .int .i64 g.most]] w fun e w' => e = .returned (.bool (okG g)) ∧ Below w.heap.size w w' := by
  obtain ⟨x0, x1, x2, x3, x4⟩ := g
  have hbb : ∀ o : Obj, Below w.heap.size w (w.alloc o) := fun o => (Below.refl _ _).alloc (Nat.le_refl _) o
  have HB := Lib.hid hbb
  clear hbb
  simp only
  by_cases h0 : inB x0 (-100000) 100000 = true
  · by_cases h1 : inB x1 1 1000 = true
    · by_cases h3 : inB x3 0 x4 = true
      · by_cases h4 : inB x4 0 999 = true
        · obtain ⟨b1, b2⟩ := inB_iff.1 h1
          obtain ⟨b3, b4⟩ := inB_iff.1 h3
          obtain ⟨b5, b6⟩ := inB_iff.1 h4
          have q1 : decide (999 < x4) = false := by simpa using b6
          by_cases h5 : x1 = 1
          · subst h5
            by_cases h6 : x3 = x4
            · subst h6
              by_cases h7 : x2 = x3
              · subst h7
                have HR := Lib.hid (show okG ⟨x0, 1, x2, x2, x2⟩ = true by simp [okG, h0, h1, h3, h4])
                go_enter Try.func89, Try.ntmps89
                go_wp2_with (first | (go_at_call 62; refine (ins.spec_any _ _ _ _).mono ?_; rintro e w' ⟨rfl, rfl⟩) | go_in)
                go_ret
                exact ⟨ret_bool (by rw [HR.out]), HB.out _⟩
              · have HR := Lib.hid (show okG ⟨x0, 1, x2, x3, x3⟩ = false by simp [okG, h7])
                have q2 : (x2 == x3) = false := by simpa using h7
                clear h7
                go_enter Try.func89, Try.ntmps89
                go_wp2_with (first | (go_at_call 62; refine (ins.spec_any _ _ _ _).mono ?_; rintro e w' ⟨rfl, rfl⟩) | go_in)
                go_ret
                exact ⟨ret_bool (by rw [HR.out]), HB.out _⟩
            · have HR := Lib.hid (show okG ⟨x0, 1, x2, x3, x4⟩ = false by simp [okG, h6])
              have q2 : (x3 == x4) = false := by simpa using h6
              clear h6
              go_enter Try.func89, Try.ntmps89
              go_wp2_with (first | (go_at_call 62; refine (ins.spec_any _ _ _ _).mono ?_; rintro e w' ⟨rfl, rfl⟩) | go_in)
              go_ret
              exact ⟨ret_bool (by rw [HR.out]), HB.out _⟩
          · have HR := Lib.hid (show okG ⟨x0, x1, x2, x3, x4⟩ = inB x2 (x3 + x4 + (x1 - 2) * x3) (x3 + x4 + (x1 - 2) * x4) by simp [okG, h0, h1, h3, h4, h5])
            have m1 := mul_bd (a := x1 - 2) (b := x3) (by omega) (by omega) (by omega) (by omega)
            have m2 := mul_bd (a := x1 - 2) (b := x4) (by omega) (by omega) (by omega) (by omega)
            have q2 : (x1 == 1) = false := by simpa using h5
            clear h5
            go_enter Try.func89, Try.ntmps89
            go_wp2_with (first | (go_at_call 62; refine (ins.spec_any _ _ _ _).mono ?_; rintro e w' ⟨rfl, rfl⟩) | go_in)
            go_ret
            exact ⟨ret_bool (by rw [HR.out]), HB.out _⟩
        · have h4' : inB x4 0 999 = false := by simpa using h4
          have HR := Lib.hid (show okG ⟨x0, x1, x2, x3, x4⟩ = false by simp [okG, h4'])
          obtain ⟨b3, b4⟩ := inB_iff.1 h3
          have q1 : decide (999 < x4) = true := by
            have : ¬ (0 ≤ x4 ∧ x4 ≤ 999) := fun h => h4 (inB_iff.2 h)
            simp; omega
          clear h4
          go_enter Try.func89, Try.ntmps89
          go_wp2_with (first | (go_at_call 62; refine (ins.spec_any _ _ _ _).mono ?_; rintro e w' ⟨rfl, rfl⟩) | go_in)
          go_ret
          exact ⟨ret_bool HR.out.symm, HB.out _⟩
      · have h3' : inB x3 0 x4 = false := by simpa using h3
        have HR := Lib.hid (show okG ⟨x0, x1, x2, x3, x4⟩ = false by simp [okG, h3'])
        clear h3
        by_cases h4 : inB x4 0 999 = true
        · go_enter Try.func89, Try.ntmps89
          go_wp2_with (first | (go_at_call 62; refine (ins.spec_any _ _ _ _).mono ?_; rintro e w' ⟨rfl, rfl⟩) | go_in)
          go_ret
          exact ⟨ret_bool HR.out.symm, HB.out _⟩
        · have h4' : inB x4 0 999 = false := by simpa using h4
          clear h4
          go_enter Try.func89, Try.ntmps89
          go_wp2_with (first | (go_at_call 62; refine (ins.spec_any _ _ _ _).mono ?_; rintro e w' ⟨rfl, rfl⟩) | go_in)
          go_ret
          exact ⟨ret_bool HR.out.symm, HB.out _⟩
    · have h1' : inB x1 1 1000 = false := by simpa using h1
      have HR := Lib.hid (show okG ⟨x0, x1, x2, x3, x4⟩ = false by simp [okG, h1'])
      clear h1
      go_enter Try.func89, Try.ntmps89
      go_wp2_with (first | (go_at_call 62; refine (ins.spec_any _ _ _ _).mono ?_; rintro e w' ⟨rfl, rfl⟩) | go_in)
      go_ret
      exact ⟨ret_bool HR.out.symm, HB.out _⟩
  · have h0' : inB x0 (-100000) 100000 = false := by simpa using h0
    have HR := Lib.hid (show okG ⟨x0, x1, x2, x3, x4⟩ = false by simp [okG, h0'])
    clear h0
    go_enter Try.func89, Try.ntmps89
    go_wp2_with (first | (go_at_call 62; refine (ins.spec_any _ _ _ _).mono ?_; rintro e w' ⟨rfl, rfl⟩) | go_in)
    go_ret
    exact ⟨ret_bool HR.out.symm, HB.out _⟩
end Go.Proofs.Ytgngoedooemboaa.groups
