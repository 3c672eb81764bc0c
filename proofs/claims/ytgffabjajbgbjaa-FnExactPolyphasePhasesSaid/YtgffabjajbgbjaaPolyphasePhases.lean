/- FnExactPolyphasePhases: for all arguments the program's PolyphasePhases returns what the reference's returns, in memory of its own, and leaves its arguments as they were. No condition. -/
import Derived.Test.YtgffabjajbgbjaaFrame
import Derived.Test.YtgffabjajbgbjaaLawInt
import Derived.Test.YtgffabjajbgbjaaLawNest
import Derived.Test.YtgffabjajbgbjaaPhsS
set_option linter.unusedVariables false
set_option linter.unusedSimpArgs false
namespace Go.Proofs.Ytgffabjajbgbjaa.fnExactPolyphasePhases
open Go.ChangeShapes Go.WideShapes Go.ChangeAt Go.RowKit Go.Proofs.Ytgffabjajbgbjaa.mem
open Go.ChangeMaps (open_string shut_string)

set_option maxRecDepth 100000 in
set_option maxHeartbeats 2000000 in
theorem walk (a0 : Int) (w0 : (Lit.int .i64 a0).wf = true) (a1 : Int) (w1 : (Lit.int .i64 a1).wf = true) (W : World)  :
    Calls Try.prog 10 #[.int .i64 a0, .int .i64 a1] W fun e w' => e = .returned (.bool true) ∧ Below W.heap.size W w' := by
  have hbW : Below W.heap.size W W := Below.refl _ _
  go_enter Try.func10, Try.ntmps10
  go_wp2_with fail
  refine (phs.spec_any a0 a1 _).mono ?_
  rintro e w_1 ⟨v_w0, rfl, ⟨⟨vs_w0, ho_w0⟩, hk_w0, hkr_w0⟩, hb_w_1⟩
  have hs_w_1 := (hb_w_1).size
  replace hbW := below_step hbW hb_w_1
  have hl_w0 := nest.nl_lt_int ho_w0
  have hlr_w0 := nest.nl_rows_lt_int ho_w0
  obtain ⟨A_w0, c_w0, rfl, hnc_w0, hcm_w0, _⟩ := own_form ho_w0.top
  have hm_w0 := nest.wide hk_w0
  have ht_w0 := lawNest.tot_bd_int hk_w0 hkr_w0
  go_wp2_with fail
  refine (phs.impl_any a0 a1 _).mono ?_
  rintro e w_2 ⟨v_g0, rfl, ⟨⟨vs_g0, ho_g0⟩, hk_g0, hkr_g0⟩, hb_w_2⟩
  have hs_w_2 := (hb_w_2).size
  replace hbW := below_step hbW hb_w_2
  replace ho_w0 := nest.nl_below_int ho_w0 hb_w_2
  have hl_g0 := nest.nl_lt_int ho_g0
  have hlr_g0 := nest.nl_rows_lt_int ho_g0
  obtain ⟨A_g0, c_g0, rfl, hnc_g0, hcm_g0, _⟩ := own_form ho_g0.top
  have hm_g0 := nest.wide hk_g0
  have ht_g0 := lawNest.tot_bd_int hk_g0 hkr_g0
  go_wp2_with fail
  refine (lawNest.eq_int _ _ _ _ _ _ _ _ _ hm_g0 hm_w0 (nest.nl_rd_int ho_g0) (nest.nl_rd_int ho_w0)).mono ?_
  rintro e w_3 ⟨rfl, hb_w_3⟩
  have hs_w_3 := (hb_w_3).size
  replace hbW := below_step hbW hb_w_3
  replace ho_w0 := nest.nl_below_int ho_w0 hb_w_3
  replace ho_g0 := nest.nl_below_int ho_g0 hb_w_3
  go_wp2_with fail
  refine (lawNest.mark_int _ _ _ _ _ _ _ (nest.wide2 hk_g0) (by omega) (by omega) (by omega) ho_g0).mono ?_
  rintro e w_4 ⟨rfl, hq_w_4, hg_w_4⟩
  have hs_w_4 := hg_w_4.size
  replace ho_w0 := nest.nl_under_int ho_w0 (fun k hk => by have := hl_w0 k hk; omega) (fun u hu k hk => by have := hlr_w0 u hu k hk; omega) hg_w_4
  replace ho_g0 := hq_w_4
  clear hq_w_4
  replace hbW := hbW.trans (hg_w_4.mono (by omega))
  go_wp2_with fail
  refine (lawNest.held_int _ _ _ _ _ _ (nest.wide2 hk_g0) (by omega) (by omega) (nest.nl_rd_int ho_g0)).mono ?_
  rintro e w_5 ⟨rfl, rfl⟩
  go_wp2_with fail
  refine (phs.impl_any a0 a1 _).mono ?_
  rintro e w_6 ⟨v_h0, rfl, ⟨⟨vs_h0, ho_h0⟩, hk_h0, hkr_h0⟩, hb_w_6⟩
  have hs_w_6 := (hb_w_6).size
  replace hbW := below_step hbW hb_w_6
  replace ho_w0 := nest.nl_below_int ho_w0 hb_w_6
  replace ho_g0 := nest.nl_below_int ho_g0 hb_w_6
  have hl_h0 := nest.nl_lt_int ho_h0
  have hlr_h0 := nest.nl_rows_lt_int ho_h0
  obtain ⟨A_h0, c_h0, rfl, hnc_h0, hcm_h0, _⟩ := own_form ho_h0.top
  have hm_h0 := nest.wide hk_h0
  have ht_h0 := lawNest.tot_bd_int hk_h0 hkr_h0
  go_wp2_with fail
  refine (lawNest.eq_int _ _ _ _ _ _ _ _ _ hm_h0 hm_w0 (nest.nl_rd_int ho_h0) (nest.nl_rd_int ho_w0)).mono ?_
  rintro e w_7 ⟨rfl, hb_w_7⟩
  have hs_w_7 := (hb_w_7).size
  replace hbW := below_step hbW hb_w_7
  replace ho_w0 := nest.nl_below_int ho_w0 hb_w_7
  replace ho_g0 := nest.nl_below_int ho_g0 hb_w_7
  replace ho_h0 := nest.nl_below_int ho_h0 hb_w_7
  go_wp2_with fail
  refine (lawNest.held_int _ _ _ _ _ _ (nest.wide2 hk_g0) (by omega) (by omega) (nest.nl_rd_int ho_g0)).mono ?_
  rintro e w_8 ⟨rfl, rfl⟩
  go_wp2
  go_ret
  exact ⟨rfl, hbW⟩

theorem own : ownKnob Try.prog.godebug = none := by kernel_rfl
theorem laidOut : laidOutB Try.prog = true := by kernel_rfl
set_option maxRecDepth 100000 in
theorem lifted (os : Os) (started : os.Started) (H : Type) (enc : TypeId × Value → H) :
    ReturnsInHanded {} Try.checked os 10 .any (Rows.fnExactPolyphasePhasesSpec.pre6 enc Try.prog Try.f10 Rows.fnExactPolyphasePhasesRow.domain false) (Rows.fnExactPolyphasePhasesSpec.post enc Try.prog Try.f10 false true false false) := by
  refine returnsInHanded_of_change (C := Try.checked) own started (by kernel_rfl) Try.func10
    (ChangeSpec.witness6 (enc := enc) (C := Try.checked) false ⟨#[], #[.int .i64 0, .int .i64 0], []⟩ 8 (by kernel_rfl) (by kernel_rfl) (by kernel_rfl) (by kernel_rfl)) ?_
  intro W base args ds gs before hval0 hW hcnd _
  have hval : ∀ (j : Nat) t v, Try.f10.params[j]? = some t → args[j]? = some v → Value.okWide Try.prog W .any base t v := hval0
  have hW' := hW
  have hlt : ∀ x ∈ before, x.block < W.heap.size := fun x hx => by simpa using hW.lt x hx
  obtain ⟨p, q, hA0, hV, rfl, hfz, hnd⟩ := hW
  have hA : DataW.TrodAll enc Try.prog W 0 (fun _ => true) true Try.f10.params.toList args.toList ds p := hA0
  rw [Try.params10] at hA hval
  obtain ⟨v0, vs0, d0, ds0, p0, q0, hargs, rfl, rfl, h0, r0⟩ := trodAll_cons hA
  obtain ⟨v1, vs1, d1, ds1, p1, q1, rfl, rfl, rfl, h1, r1⟩ := trodAll_cons r0
  obtain ⟨rfl, rfl, rfl⟩ := trodAll_nil r1
  obtain rfl : args = #[v0, v1] := by cases args; simp_all
  obtain ⟨a0, rfl, _, _, w0⟩ := open_int Try.underlying3 (hval 0 3 v0 rfl rfl) h0
  obtain ⟨a1, rfl, _, _, w1⟩ := open_int Try.underlying3 (hval 1 3 v1 rfl rfl) h1
  refine (walk a0 w0 a1 w1 W).mono fun e W' ⟨he, hg⟩ => ?_
  subst he
  exact ⟨_, rfl, frame.post_true laidOut hW' rfl (of_decide_eq_true (by kernel_rfl)) (by kernel_rfl) Try.underlying4 rfl rfl rfl hg⟩
theorem over : Rows.fnExactPolyphasePhasesRow.holds Try.pinned (OpenSpec.ofChange Rows.fnExactPolyphasePhasesSpec) :=
  OpenClaim.holds_of_wide 10 Try.f10 rfl rfl rfl rfl rfl rfl rfl ⟨rfl, rfl, rfl, rfl, rfl⟩ rfl rfl rfl rfl rfl (by kernel_rfl) Try.func10 (by kernel_rfl)
    (of_decide_eq_true (by kernel_rfl)) (by unfold Func.isWrapper; first | (rw [if_pos (by decide +kernel)]; kernel_rfl) | (rw [if_neg (by decide +kernel)]; exact ⟨rfl, rfl⟩))
    (fun os started H enc _ => lifted os started H enc)
/-- The statement. -/
theorem proved : Rows.FnExactPolyphasePhasesSaid :=
  over
end Go.Proofs.Ytgffabjajbgbjaa.fnExactPolyphasePhases
