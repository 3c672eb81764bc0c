/- FnExactDummyRuns: for all arguments the program's DummyRuns returns what the reference's returns, in memory of its own, and leaves its arguments as they were. No condition. -/
import Derived.Test.YtgffabjajbgbjaaFrame
import Derived.Test.YtgffabjajbgbjaaLawInt
import Derived.Test.YtgffabjajbgbjaaDummies
set_option linter.unusedVariables false
set_option linter.unusedSimpArgs false
namespace Go.Proofs.Ytgffabjajbgbjaa.fnExactDummyRuns
open Go.ChangeShapes Go.WideShapes Go.ChangeAt Go.RowKit Go.Proofs.Ytgffabjajbgbjaa.mem
open Go.ChangeMaps (open_string shut_string)

set_option maxRecDepth 100000 in
set_option maxHeartbeats 2000000 in
theorem walk (a0 : Int) (w0 : (Lit.int .i64 a0).wf = true) (a1 : Int) (w1 : (Lit.int .i64 a1).wf = true) (W : World)  :
    Calls Try.prog 6 #[.int .i64 a0, .int .i64 a1] W fun e w' => e = .returned (.bool true) ∧ Below W.heap.size W w' := by
  have hbW : Below W.heap.size W W := Below.refl _ _
  go_enter Try.func6, Try.ntmps6
  go_wp2_with fail
  refine (dummies.spec_any a0 a1 _).mono ?_
  rintro e w_1 ⟨v_w0, v_w1, rfl, ⟨ho_w0, hk_w0⟩, ⟨ho_w1, hk_w1⟩, hap_w0_w1, hb_w_1⟩
  have hs_w_1 := (hb_w_1).size
  replace hbW := below_step hbW hb_w_1
  have hl_w0 := (ho_w0).lt
  obtain ⟨A_w0, c_w0, rfl, hnc_w0, hcm_w0, _⟩ := own_form ho_w0
  have hm_w0 := Nat.le_trans hnc_w0 hcm_w0
  have hl_w1 := (ho_w1).lt
  obtain ⟨A_w1, c_w1, rfl, hnc_w1, hcm_w1, _⟩ := own_form ho_w1
  have hm_w1 := Nat.le_trans hnc_w1 hcm_w1
  go_wp2_with fail
  refine (dummies.impl_any a0 a1 _).mono ?_
  rintro e w_2 ⟨v_g0, v_g1, rfl, ⟨ho_g0, hk_g0⟩, ⟨ho_g1, hk_g1⟩, hap_g0_g1, hb_w_2⟩
  have hs_w_2 := (hb_w_2).size
  replace hbW := below_step hbW hb_w_2
  replace ho_w0 := own_below ho_w0 hb_w_2
  replace ho_w1 := own_below ho_w1 hb_w_2
  have hl_g0 := (ho_g0).lt
  obtain ⟨A_g0, c_g0, rfl, hnc_g0, hcm_g0, _⟩ := own_form ho_g0
  have hm_g0 := Nat.le_trans hnc_g0 hcm_g0
  have hl_g1 := (ho_g1).lt
  obtain ⟨A_g1, c_g1, rfl, hnc_g1, hcm_g1, _⟩ := own_form ho_g1
  have hm_g1 := Nat.le_trans hnc_g1 hcm_g1
  go_wp2_with fail
  refine (lawInt.eqB _ _ _ _ _ _ _ hm_g0 hm_w0 (own_rd ho_g0) (own_rd ho_w0)).mono ?_
  rintro e w_3 ⟨rfl, hb_w_3⟩
  have hs_w_3 := (hb_w_3).size
  replace hbW := below_step hbW hb_w_3
  replace ho_w0 := own_below ho_w0 hb_w_3
  replace ho_w1 := own_below ho_w1 hb_w_3
  replace ho_g0 := own_below ho_g0 hb_w_3
  replace ho_g1 := own_below ho_g1 hb_w_3
  go_wp2_with fail
  refine (lawInt.eqB _ _ _ _ _ _ _ hm_g1 hm_w1 (own_rd ho_g1) (own_rd ho_w1)).mono ?_
  rintro e w_4 ⟨rfl, hb_w_4⟩
  have hs_w_4 := (hb_w_4).size
  replace hbW := below_step hbW hb_w_4
  replace ho_w0 := own_below ho_w0 hb_w_4
  replace ho_w1 := own_below ho_w1 hb_w_4
  replace ho_g0 := own_below ho_g0 hb_w_4
  replace ho_g1 := own_below ho_g1 hb_w_4
  go_wp2_with fail
  refine (lawInt.mark_any _ _ _ _ _ _ _ (by omega) (by omega) ho_g0).mono ?_
  rintro e w_5 ⟨rfl, hq_w_5, hg_w_5⟩
  have hs_w_5 := hg_w_5.size
  replace ho_w0 := ho_w0.kept hg_w_5 (sep hl_w0 hl_g0 (by omega))
  replace ho_w1 := ho_w1.kept hg_w_5 (sep hl_w1 hl_g0 (by omega))
  replace ho_g1 := ho_g1.kept hg_w_5 (sep_symm hap_g0_g1)
  replace ho_g0 := hq_w_5
  clear hq_w_5
  replace hbW := below_grown hbW hbW.size hg_w_5 (fun k hk => by have := hl_g0 k hk; omega)
  go_wp2_with fail
  refine (lawInt.mark_any _ _ _ _ _ _ _ (by omega) (by omega) ho_g1).mono ?_
  rintro e w_6 ⟨rfl, hq_w_6, hg_w_6⟩
  have hs_w_6 := hg_w_6.size
  replace ho_w0 := ho_w0.kept hg_w_6 (sep hl_w0 hl_g1 (by omega))
  replace ho_w1 := ho_w1.kept hg_w_6 (sep hl_w1 hl_g1 (by omega))
  replace ho_g0 := ho_g0.kept hg_w_6 hap_g0_g1
  replace ho_g1 := hq_w_6
  clear hq_w_6
  replace hbW := below_grown hbW hbW.size hg_w_6 (fun k hk => by have := hl_g1 k hk; omega)
  go_wp2_with fail
  refine (lawInt.held_any _ _ _ _ _ (by omega) (by omega) (own_rd ho_g0)).mono ?_
  rintro e w_7 ⟨rfl, rfl⟩
  go_wp2_with fail
  refine (lawInt.held_any _ _ _ _ _ (by omega) (by omega) (own_rd ho_g1)).mono ?_
  rintro e w_8 ⟨rfl, rfl⟩
  go_wp2_with fail
  refine (dummies.impl_any a0 a1 _).mono ?_
  rintro e w_9 ⟨v_h0, v_h1, rfl, ⟨ho_h0, hk_h0⟩, ⟨ho_h1, hk_h1⟩, hap_h0_h1, hb_w_9⟩
  have hs_w_9 := (hb_w_9).size
  replace hbW := below_step hbW hb_w_9
  replace ho_w0 := own_below ho_w0 hb_w_9
  replace ho_w1 := own_below ho_w1 hb_w_9
  replace ho_g0 := own_below ho_g0 hb_w_9
  replace ho_g1 := own_below ho_g1 hb_w_9
  have hl_h0 := (ho_h0).lt
  obtain ⟨A_h0, c_h0, rfl, hnc_h0, hcm_h0, _⟩ := own_form ho_h0
  have hm_h0 := Nat.le_trans hnc_h0 hcm_h0
  have hl_h1 := (ho_h1).lt
  obtain ⟨A_h1, c_h1, rfl, hnc_h1, hcm_h1, _⟩ := own_form ho_h1
  have hm_h1 := Nat.le_trans hnc_h1 hcm_h1
  go_wp2_with fail
  refine (lawInt.eqB _ _ _ _ _ _ _ hm_h0 hm_w0 (own_rd ho_h0) (own_rd ho_w0)).mono ?_
  rintro e w_10 ⟨rfl, hb_w_10⟩
  have hs_w_10 := (hb_w_10).size
  replace hbW := below_step hbW hb_w_10
  replace ho_w0 := own_below ho_w0 hb_w_10
  replace ho_w1 := own_below ho_w1 hb_w_10
  replace ho_g0 := own_below ho_g0 hb_w_10
  replace ho_g1 := own_below ho_g1 hb_w_10
  replace ho_h0 := own_below ho_h0 hb_w_10
  replace ho_h1 := own_below ho_h1 hb_w_10
  go_wp2_with fail
  refine (lawInt.eqB _ _ _ _ _ _ _ hm_h1 hm_w1 (own_rd ho_h1) (own_rd ho_w1)).mono ?_
  rintro e w_11 ⟨rfl, hb_w_11⟩
  have hs_w_11 := (hb_w_11).size
  replace hbW := below_step hbW hb_w_11
  replace ho_w0 := own_below ho_w0 hb_w_11
  replace ho_w1 := own_below ho_w1 hb_w_11
  replace ho_g0 := own_below ho_g0 hb_w_11
  replace ho_g1 := own_below ho_g1 hb_w_11
  replace ho_h0 := own_below ho_h0 hb_w_11
  replace ho_h1 := own_below ho_h1 hb_w_11
  go_wp2_with fail
  refine (lawInt.held_any _ _ _ _ _ (by omega) (by omega) (own_rd ho_g0)).mono ?_
  rintro e w_12 ⟨rfl, rfl⟩
  go_wp2_with fail
  refine (lawInt.held_any _ _ _ _ _ (by omega) (by omega) (own_rd ho_g1)).mono ?_
  rintro e w_13 ⟨rfl, rfl⟩
  go_wp2
  go_ret
  exact ⟨rfl, hbW⟩

theorem own : ownKnob Try.prog.godebug = none := by kernel_rfl
theorem laidOut : laidOutB Try.prog = true := by kernel_rfl
set_option maxRecDepth 100000 in
theorem lifted (os : Os) (started : os.Started) (H : Type) (enc : TypeId × Value → H) :
    ReturnsInHanded {} Try.checked os 6 .any (Rows.fnExactDummyRunsSpec.pre6 enc Try.prog Try.f6 Rows.fnExactDummyRunsRow.domain false) (Rows.fnExactDummyRunsSpec.post enc Try.prog Try.f6 false true false false) := by
  refine returnsInHanded_of_change (C := Try.checked) own started (by kernel_rfl) Try.func6
    (ChangeSpec.witness6 (enc := enc) (C := Try.checked) false ⟨#[], #[.int .i64 0, .int .i64 0], []⟩ 8 (by kernel_rfl) (by kernel_rfl) (by kernel_rfl) (by kernel_rfl)) ?_
  intro W base args ds gs before hval0 hW hcnd _
  have hval : ∀ (j : Nat) t v, Try.f6.params[j]? = some t → args[j]? = some v → Value.okWide Try.prog W .any base t v := hval0
  have hW' := hW
  have hlt : ∀ x ∈ before, x.block < W.heap.size := fun x hx => by simpa using hW.lt x hx
  obtain ⟨p, q, hA0, hV, rfl, hfz, hnd⟩ := hW
  have hA : DataW.TrodAll enc Try.prog W 0 (fun _ => true) true Try.f6.params.toList args.toList ds p := hA0
  rw [Try.params6] at hA hval
  obtain ⟨v0, vs0, d0, ds0, p0, q0, hargs, rfl, rfl, h0, r0⟩ := trodAll_cons hA
  obtain ⟨v1, vs1, d1, ds1, p1, q1, rfl, rfl, rfl, h1, r1⟩ := trodAll_cons r0
  obtain ⟨rfl, rfl, rfl⟩ := trodAll_nil r1
  obtain rfl : args = #[v0, v1] := by cases args; simp_all
  obtain ⟨a0, rfl, _, _, w0⟩ := open_int Try.underlying3 (hval 0 3 v0 rfl rfl) h0
  obtain ⟨a1, rfl, _, _, w1⟩ := open_int Try.underlying3 (hval 1 3 v1 rfl rfl) h1
  refine (walk a0 w0 a1 w1 W).mono fun e W' ⟨he, hg⟩ => ?_
  subst he
  exact ⟨_, rfl, frame.post_true laidOut hW' rfl (of_decide_eq_true (by kernel_rfl)) (by kernel_rfl) Try.underlying4 rfl rfl rfl hg⟩
theorem over : Rows.fnExactDummyRunsRow.holds Try.pinned (OpenSpec.ofChange Rows.fnExactDummyRunsSpec) :=
  OpenClaim.holds_of_wide 6 Try.f6 rfl rfl rfl rfl rfl rfl rfl ⟨rfl, rfl, rfl, rfl, rfl⟩ rfl rfl rfl rfl rfl (by kernel_rfl) Try.func6 (by kernel_rfl)
    (of_decide_eq_true (by kernel_rfl)) (by unfold Func.isWrapper; first | (rw [if_pos (by decide +kernel)]; kernel_rfl) | (rw [if_neg (by decide +kernel)]; exact ⟨rfl, rfl⟩))
    (fun os started H enc _ => lifted os started H enc)
/-- The statement. -/
theorem proved : Rows.FnExactDummyRunsSaid :=
  over
end Go.Proofs.Ytgffabjajbgbjaa.fnExactDummyRuns
