/- FnExactIsValidStrings: for all lists of strings the program's IsValidStrings returns what the reference's returns. No condition. -/
import Derived.Test.YtnkgencgoleebaaFrame
import Derived.Test.YtnkgencgoleebaaLawStr
import Derived.Test.YtnkgencgoleebaaValidStr
set_option linter.unusedVariables false
set_option linter.unusedSimpArgs false
namespace Go.Proofs.Ytnkgencgoleebaa.fnExactIsValidStrings
open Go.ChangeShapes Go.WideShapes Go.ChangeAt Go.RowKit Go.Proofs.Ytnkgencgoleebaa.mem

set_option maxHeartbeats 400000 in
theorem walk (A : Option Addr) (n c : Nat) (ss : List ByteArray) (W : World) (h0 : n = ss.length ∧ n ≤ c ∧ c ≤ maxLen ∧ Rd W 1 A n (strs ss) ∧ (∀ s ∈ ss, s.size ≤ maxLen)) :
    Calls Try.prog 6 #[.slice A n c] W fun e w' => e = .returned (.bool true) ∧ Below W.heap.size W w' := by
  obtain ⟨rfl, hnc, hcm, hr, hs⟩ := h0
  have HS := Lib.hid hs
  clear hs
  have hn : ss.length ≤ maxLen := Nat.le_trans hnc hcm
  go_enter Try.func6, Try.ntmps6
  go_wp2_with fail
  refine (lawStr.sz_any A c ss 1048576 W (by omega) (by omega) hn HS.out hr).mono ?_
  rintro e w1 ⟨rfl, rfl⟩
  by_cases hsz : ((ss.length + lawStr.total ss : Nat) : Int) ≤ 1048576
  · rw [szv_pos hsz]
    have hn2 : ss.length ≤ 1048576 := by omega
    go_wp2_with fail
    refine (lawStr.to_any A c ss W hn2 hr).mono ?_
    rintro e w1 ⟨v1, rfl, ho1, hb1⟩
    obtain ⟨A1, c1, rfl, _, _, hr1⟩ := own_form ho1
    go_wp2_with fail
    refine (validStr.spec_any A1 c1 ss w1 hn HS.out hr1).mono ?_
    rintro e w2 ⟨rfl, rfl⟩
    go_wp2_with fail
    refine (lawStr.to_any A c ss _ hn2 (hr.below hb1)).mono ?_
    rintro e w2 ⟨v2, rfl, ho2, hb2⟩
    obtain ⟨A2, c2, rfl, _, _, hr2⟩ := own_form ho2
    have hbb2 := below_step hb1 hb2
    go_wp2_with fail
    refine (validStr.impl_any A2 c2 ss w2 hn HS.out hr2).mono ?_
    rintro e w3 ⟨rfl, hb3⟩
    have hbb3 := below_step hbb2 hb3
    go_wp2_with fail
    refine (lawStr.to_any A c ss _ hn2 (hr.below hbb3)).mono ?_
    rintro e w4 ⟨v4, rfl, ho4, hb4⟩
    obtain ⟨A4, c4, rfl, _, _, hr4⟩ := own_form ho4
    have hbb4 := below_step hbb3 hb4
    go_wp2_with fail
    refine (lawStr.eq_any A2 A4 c2 c4 ss ss w4 hn hn ((hr2.below hb3).below hb4) hr4).mono ?_
    rintro e w5 ⟨rfl, k, rfl⟩
    go_wp2
    go_ret
    exact ⟨rfl, below_drewN hbb4 _⟩
  · rw [szv_neg hsz]
    go_wp2
    go_ret
    exact ⟨rfl, Below.refl _ _⟩

theorem own : ownKnob Try.prog.godebug = none := by kernel_rfl
theorem laidOut : laidOutB Try.prog = true := by kernel_rfl
set_option maxRecDepth 100000 in
theorem lifted (os : Os) (started : os.Started) (H : Type) (enc : TypeId × Value → H) :
    ReturnsInHanded {} Try.checked os 6 .any (Rows.fnExactIsValidStringsSpec.pre6 enc Try.prog Try.f6 Rows.fnExactIsValidStringsRow.domain false) (Rows.fnExactIsValidStringsSpec.post enc Try.prog Try.f6 false true false false) := by
  refine returnsInHanded_of_change (C := Try.checked) own started (by kernel_rfl) Try.func6
    (ChangeSpec.witness6 (enc := enc) (C := Try.checked) false ⟨#[], #[.slice none 0 0], []⟩ 8 (by kernel_rfl) (by kernel_rfl) (by kernel_rfl) (by kernel_rfl)) ?_
  intro W base args ds gs before hval0 hW hcnd _
  have hval : ∀ (j : Nat) t v, Try.f6.params[j]? = some t → args[j]? = some v → Value.okWide Try.prog W .any base t v := hval0
  have hW' := hW
  have hlt : ∀ x ∈ before, x.block < W.heap.size := fun x hx => by simpa using hW.lt x hx
  obtain ⟨p, q, hA0, hV, rfl, hfz, hnd⟩ := hW
  have hA : DataW.TrodAll enc Try.prog W 0 (fun _ => true) true Try.f6.params.toList args.toList ds p := hA0
  rw [Try.params6] at hA hval
  obtain ⟨v0, vs0, d0, ds0, p0, q0, hargs, rfl, rfl, h0, r0⟩ := trodAll_cons hA
  obtain ⟨rfl, rfl, rfl⟩ := trodAll_nil r0
  obtain rfl : args = #[v0] := by cases args; simp_all
  obtain ⟨A0, n0, c0, ss0, rfl, w0⟩ := mem.open_rd_strs Try.underlying30 Try.underlying9 (by kernel_rfl) (hval 0 30 v0 rfl rfl) h0
  refine (walk A0 n0 c0 ss0 W w0).mono fun e W' ⟨he, hg⟩ => ?_
  subst he
  exact ⟨_, rfl, frame.post_true laidOut hW' rfl (of_decide_eq_true (by kernel_rfl)) (by kernel_rfl) Try.underlying4 rfl rfl rfl hg⟩
theorem over : Rows.fnExactIsValidStringsRow.holds Try.pinned (OpenSpec.ofChange Rows.fnExactIsValidStringsSpec) :=
  OpenClaim.holds_of_wide 6 Try.f6 rfl rfl rfl rfl rfl rfl rfl ⟨rfl, rfl, rfl, rfl, rfl⟩ rfl rfl rfl rfl rfl (by kernel_rfl) Try.func6 (by kernel_rfl)
    (of_decide_eq_true (by kernel_rfl)) (by unfold Func.isWrapper; first | (rw [if_pos (by decide +kernel)]; kernel_rfl) | (rw [if_neg (by decide +kernel)]; exact ⟨rfl, rfl⟩))
    (fun os started H enc _ => lifted os started H enc)
/-- The statement. -/
theorem proved : Rows.FnExactIsValidStringsSaid :=
  over
end Go.Proofs.Ytnkgencgoleebaa.fnExactIsValidStrings
