/- FnExactFrequentKeys: for all arguments the program's FrequentKeys returns what the reference's returns, in memory of its own, and leaves its arguments as they were. No condition. -/
import Derived.Test.YtgngoedooemboaaFrame
import Derived.Test.YtgngoedooemboaaLawInt
import Derived.Test.YtgngoedooemboaaFrqS
set_option linter.unusedVariables false
set_option linter.unusedSimpArgs false
namespace Go.Proofs.Ytgngoedooemboaa.fnExactFrequentKeys
open Go.ChangeShapes Go.WideShapes Go.ChangeAt Go.RowKit Go.Proofs.Ytgngoedooemboaa.mem
open Go.ChangeMaps (open_string shut_string)

set_option maxRecDepth 100000 in
set_option maxHeartbeats 2000000 in
theorem walk (A0 : Option Addr) (n0 c0 : Nat) (zs0 : List Int) (a1 : Int) (w1 : (Lit.int .i64 a1).wf = true) (W : World) (h0 : n0 = zs0.length ∧ n0 ≤ c0 ∧ c0 ≤ maxLen ∧ Rd W 1 A0 n0 (ints zs0) ∧ (∀ z ∈ zs0, (Lit.int .i64 z).wf = true)) :
    Calls Try.prog 13 #[.slice A0 n0 c0, .int .i64 a1] W fun e w' => e = .returned (.bool true) ∧ Below W.heap.size W w' := by
  obtain ⟨rfl, hnc0, hcm0, hr0, hx0⟩ := h0
  have HX0 := Lib.hid hx0
  clear hx0
  have hn0 : zs0.length ≤ maxLen := Nat.le_trans hnc0 hcm0
  have hbW : Below W.heap.size W W := Below.refl _ _
  go_enter Try.func13, Try.ntmps13
  by_cases hk0 : 1048576 < zs0.length
  · go_wp2
    go_ret
    exact ⟨rfl, hbW⟩
  replace hk0 : zs0.length ≤ 1048576 := by omega
  go_wp2_with fail
  refine (lawInt.to_any A0 c0 zs0 _ hk0 (hr0.below hbW)).mono ?_
  rintro e w_1 ⟨v_t1, rfl, ho_t1, hb_w_1⟩
  have hs_w_1 := (hb_w_1).size
  replace hbW := below_step hbW hb_w_1
  have hl_t1 := (ho_t1).lt
  obtain ⟨A_t1, c_t1, rfl, hnc_t1, hcm_t1, _⟩ := own_form ho_t1
  have hm_t1 : zs0.length ≤ maxLen := Nat.le_trans hnc_t1 hcm_t1
  go_wp2_with fail
  refine (frq.frq_spec A_t1 c_t1 zs0 a1 _ hk0 (own_rd ho_t1)).mono ?_
  rintro e w_2 ⟨v_w0, v_w1, rfl, ⟨ho_w0, hk_w0⟩, ⟨ho_w1, hk_w1⟩, hap_w0_w1, hb_w_2⟩
  have hs_w_2 := (hb_w_2).size
  replace hbW := below_step hbW hb_w_2
  replace ho_t1 := own_below ho_t1 hb_w_2
  have hl_w0 := (ho_w0).lt
  obtain ⟨A_w0, c_w0, rfl, hnc_w0, hcm_w0, _⟩ := own_form ho_w0
  have hm_w0 := Nat.le_trans hnc_w0 hcm_w0
  have hl_w1 := (ho_w1).lt
  obtain ⟨A_w1, c_w1, rfl, hnc_w1, hcm_w1, _⟩ := own_form ho_w1
  have hm_w1 := Nat.le_trans hnc_w1 hcm_w1
  go_wp2_with fail
  refine (lawInt.to_any A0 c0 zs0 _ hk0 (hr0.below hbW)).mono ?_
  rintro e w_3 ⟨v_t2, rfl, ho_t2, hb_w_3⟩
  have hs_w_3 := (hb_w_3).size
  replace hbW := below_step hbW hb_w_3
  replace ho_t1 := own_below ho_t1 hb_w_3
  replace ho_w0 := own_below ho_w0 hb_w_3
  replace ho_w1 := own_below ho_w1 hb_w_3
  have hl_t2 := (ho_t2).lt
  obtain ⟨A_t2, c_t2, rfl, hnc_t2, hcm_t2, _⟩ := own_form ho_t2
  have hm_t2 : zs0.length ≤ maxLen := Nat.le_trans hnc_t2 hcm_t2
  have ho_x0 := ho_t2
  have hl_x0 := hl_t2
  have hm_x0 := hm_t2
  clear ho_t2 hl_t2 hm_t2
  go_wp2_with fail
  refine (frq.frq_impl A_t2 c_t2 zs0 a1 _ hk0 (own_rd ho_x0)).mono ?_
  rintro e w_4 ⟨v_g0, v_g1, rfl, ⟨ho_g0, hk_g0⟩, ⟨ho_g1, hk_g1⟩, hap_g0_g1, hb_w_4⟩
  have hs_w_4 := (hb_w_4).size
  replace hbW := below_step hbW hb_w_4
  replace ho_t1 := own_below ho_t1 hb_w_4
  replace ho_w0 := own_below ho_w0 hb_w_4
  replace ho_w1 := own_below ho_w1 hb_w_4
  replace ho_x0 := own_below ho_x0 hb_w_4
  have hl_g0 := (ho_g0).lt
  obtain ⟨A_g0, c_g0, rfl, hnc_g0, hcm_g0, _⟩ := own_form ho_g0
  have hm_g0 := Nat.le_trans hnc_g0 hcm_g0
  have hl_g1 := (ho_g1).lt
  obtain ⟨A_g1, c_g1, rfl, hnc_g1, hcm_g1, _⟩ := own_form ho_g1
  have hm_g1 := Nat.le_trans hnc_g1 hcm_g1
  go_wp2_with fail
  refine (lawInt.eqB _ _ _ _ _ _ _ hm_g0 hm_w0 (own_rd ho_g0) (own_rd ho_w0)).mono ?_
  rintro e w_5 ⟨rfl, hb_w_5⟩
  have hs_w_5 := (hb_w_5).size
  replace hbW := below_step hbW hb_w_5
  replace ho_t1 := own_below ho_t1 hb_w_5
  replace ho_w0 := own_below ho_w0 hb_w_5
  replace ho_w1 := own_below ho_w1 hb_w_5
  replace ho_x0 := own_below ho_x0 hb_w_5
  replace ho_g0 := own_below ho_g0 hb_w_5
  replace ho_g1 := own_below ho_g1 hb_w_5
  go_wp2_with fail
  refine (lawInt.eqB _ _ _ _ _ _ _ hm_g1 hm_w1 (own_rd ho_g1) (own_rd ho_w1)).mono ?_
  rintro e w_6 ⟨rfl, hb_w_6⟩
  have hs_w_6 := (hb_w_6).size
  replace hbW := below_step hbW hb_w_6
  replace ho_t1 := own_below ho_t1 hb_w_6
  replace ho_w0 := own_below ho_w0 hb_w_6
  replace ho_w1 := own_below ho_w1 hb_w_6
  replace ho_x0 := own_below ho_x0 hb_w_6
  replace ho_g0 := own_below ho_g0 hb_w_6
  replace ho_g1 := own_below ho_g1 hb_w_6
  go_wp2_with fail
  refine (lawInt.to_any A0 c0 zs0 _ hk0 (hr0.below hbW)).mono ?_
  rintro e w_7 ⟨v_t3, rfl, ho_t3, hb_w_7⟩
  have hs_w_7 := (hb_w_7).size
  replace hbW := below_step hbW hb_w_7
  replace ho_t1 := own_below ho_t1 hb_w_7
  replace ho_w0 := own_below ho_w0 hb_w_7
  replace ho_w1 := own_below ho_w1 hb_w_7
  replace ho_x0 := own_below ho_x0 hb_w_7
  replace ho_g0 := own_below ho_g0 hb_w_7
  replace ho_g1 := own_below ho_g1 hb_w_7
  have hl_t3 := (ho_t3).lt
  obtain ⟨A_t3, c_t3, rfl, hnc_t3, hcm_t3, _⟩ := own_form ho_t3
  have hm_t3 : zs0.length ≤ maxLen := Nat.le_trans hnc_t3 hcm_t3
  go_wp2_with fail
  refine (lawInt.eqB _ _ _ _ _ _ _ hm_x0 hm_t3 (own_rd ho_x0) (own_rd ho_t3)).mono ?_
  rintro e w_8 ⟨rfl, hb_w_8⟩
  have hs_w_8 := (hb_w_8).size
  replace hbW := below_step hbW hb_w_8
  replace ho_t1 := own_below ho_t1 hb_w_8
  replace ho_w0 := own_below ho_w0 hb_w_8
  replace ho_w1 := own_below ho_w1 hb_w_8
  replace ho_x0 := own_below ho_x0 hb_w_8
  replace ho_g0 := own_below ho_g0 hb_w_8
  replace ho_g1 := own_below ho_g1 hb_w_8
  replace ho_t3 := own_below ho_t3 hb_w_8
  go_wp2_with fail
  refine (lawInt.mark_any _ _ _ _ _ _ _ (by omega) (by omega) ho_x0).mono ?_
  rintro e w_9 ⟨rfl, hq_w_9, hg_w_9⟩
  have hs_w_9 := hg_w_9.size
  replace ho_t1 := ho_t1.kept hg_w_9 (sep hl_t1 hl_x0 (by omega))
  replace ho_w0 := ho_w0.kept hg_w_9 (sep hl_w0 hl_x0 (by omega))
  replace ho_w1 := ho_w1.kept hg_w_9 (sep hl_w1 hl_x0 (by omega))
  replace ho_g0 := ho_g0.kept hg_w_9 (sep hl_g0 hl_x0 (by omega))
  replace ho_g1 := ho_g1.kept hg_w_9 (sep hl_g1 hl_x0 (by omega))
  replace ho_t3 := ho_t3.kept hg_w_9 (sep hl_t3 hl_x0 (by omega))
  replace ho_x0 := hq_w_9
  clear hq_w_9
  replace hbW := below_grown hbW hbW.size hg_w_9 (fun k hk => by have := hl_x0 k hk; omega)
  go_wp2_with fail
  refine (lawInt.eqB _ _ _ _ _ _ _ hm_g0 hm_w0 (own_rd ho_g0) (own_rd ho_w0)).mono ?_
  rintro e w_10 ⟨rfl, hb_w_10⟩
  have hs_w_10 := (hb_w_10).size
  replace hbW := below_step hbW hb_w_10
  replace ho_t1 := own_below ho_t1 hb_w_10
  replace ho_w0 := own_below ho_w0 hb_w_10
  replace ho_w1 := own_below ho_w1 hb_w_10
  replace ho_x0 := own_below ho_x0 hb_w_10
  replace ho_g0 := own_below ho_g0 hb_w_10
  replace ho_g1 := own_below ho_g1 hb_w_10
  replace ho_t3 := own_below ho_t3 hb_w_10
  go_wp2_with fail
  refine (lawInt.eqB _ _ _ _ _ _ _ hm_g1 hm_w1 (own_rd ho_g1) (own_rd ho_w1)).mono ?_
  rintro e w_11 ⟨rfl, hb_w_11⟩
  have hs_w_11 := (hb_w_11).size
  replace hbW := below_step hbW hb_w_11
  replace ho_t1 := own_below ho_t1 hb_w_11
  replace ho_w0 := own_below ho_w0 hb_w_11
  replace ho_w1 := own_below ho_w1 hb_w_11
  replace ho_x0 := own_below ho_x0 hb_w_11
  replace ho_g0 := own_below ho_g0 hb_w_11
  replace ho_g1 := own_below ho_g1 hb_w_11
  replace ho_t3 := own_below ho_t3 hb_w_11
  go_wp2_with fail
  refine (lawInt.mark_any _ _ _ _ _ _ _ (by omega) (by omega) ho_g0).mono ?_
  rintro e w_12 ⟨rfl, hq_w_12, hg_w_12⟩
  have hs_w_12 := hg_w_12.size
  replace ho_t1 := ho_t1.kept hg_w_12 (sep hl_t1 hl_g0 (by omega))
  replace ho_w0 := ho_w0.kept hg_w_12 (sep hl_w0 hl_g0 (by omega))
  replace ho_w1 := ho_w1.kept hg_w_12 (sep hl_w1 hl_g0 (by omega))
  replace ho_x0 := ho_x0.kept hg_w_12 (sep hl_x0 hl_g0 (by omega))
  replace ho_g1 := ho_g1.kept hg_w_12 (sep_symm hap_g0_g1)
  replace ho_t3 := ho_t3.kept hg_w_12 (sep hl_t3 hl_g0 (by omega))
  replace ho_g0 := hq_w_12
  clear hq_w_12
  replace hbW := below_grown hbW hbW.size hg_w_12 (fun k hk => by have := hl_g0 k hk; omega)
  go_wp2_with fail
  refine (lawInt.mark_any _ _ _ _ _ _ _ (by omega) (by omega) ho_g1).mono ?_
  rintro e w_13 ⟨rfl, hq_w_13, hg_w_13⟩
  have hs_w_13 := hg_w_13.size
  replace ho_t1 := ho_t1.kept hg_w_13 (sep hl_t1 hl_g1 (by omega))
  replace ho_w0 := ho_w0.kept hg_w_13 (sep hl_w0 hl_g1 (by omega))
  replace ho_w1 := ho_w1.kept hg_w_13 (sep hl_w1 hl_g1 (by omega))
  replace ho_x0 := ho_x0.kept hg_w_13 (sep hl_x0 hl_g1 (by omega))
  replace ho_g0 := ho_g0.kept hg_w_13 hap_g0_g1
  replace ho_t3 := ho_t3.kept hg_w_13 (sep hl_t3 hl_g1 (by omega))
  replace ho_g1 := hq_w_13
  clear hq_w_13
  replace hbW := below_grown hbW hbW.size hg_w_13 (fun k hk => by have := hl_g1 k hk; omega)
  go_wp2_with fail
  refine (lawInt.held_any _ _ _ _ _ (by omega) (by omega) (own_rd ho_g0)).mono ?_
  rintro e w_14 ⟨rfl, rfl⟩
  go_wp2_with fail
  refine (lawInt.held_any _ _ _ _ _ (by omega) (by omega) (own_rd ho_g1)).mono ?_
  rintro e w_15 ⟨rfl, rfl⟩
  go_wp2_with fail
  refine (lawInt.to_any A0 c0 zs0 _ hk0 (hr0.below hbW)).mono ?_
  rintro e w_16 ⟨v_t4, rfl, ho_t4, hb_w_16⟩
  have hs_w_16 := (hb_w_16).size
  replace hbW := below_step hbW hb_w_16
  replace ho_t1 := own_below ho_t1 hb_w_16
  replace ho_w0 := own_below ho_w0 hb_w_16
  replace ho_w1 := own_below ho_w1 hb_w_16
  replace ho_x0 := own_below ho_x0 hb_w_16
  replace ho_g0 := own_below ho_g0 hb_w_16
  replace ho_g1 := own_below ho_g1 hb_w_16
  replace ho_t3 := own_below ho_t3 hb_w_16
  have hl_t4 := (ho_t4).lt
  obtain ⟨A_t4, c_t4, rfl, hnc_t4, hcm_t4, _⟩ := own_form ho_t4
  have hm_t4 : zs0.length ≤ maxLen := Nat.le_trans hnc_t4 hcm_t4
  go_wp2_with fail
  refine (frq.frq_impl A_t4 c_t4 zs0 a1 _ hk0 (own_rd ho_t4)).mono ?_
  rintro e w_17 ⟨v_h0, v_h1, rfl, ⟨ho_h0, hk_h0⟩, ⟨ho_h1, hk_h1⟩, hap_h0_h1, hb_w_17⟩
  have hs_w_17 := (hb_w_17).size
  replace hbW := below_step hbW hb_w_17
  replace ho_t1 := own_below ho_t1 hb_w_17
  replace ho_w0 := own_below ho_w0 hb_w_17
  replace ho_w1 := own_below ho_w1 hb_w_17
  replace ho_x0 := own_below ho_x0 hb_w_17
  replace ho_g0 := own_below ho_g0 hb_w_17
  replace ho_g1 := own_below ho_g1 hb_w_17
  replace ho_t3 := own_below ho_t3 hb_w_17
  replace ho_t4 := own_below ho_t4 hb_w_17
  have hl_h0 := (ho_h0).lt
  obtain ⟨A_h0, c_h0, rfl, hnc_h0, hcm_h0, _⟩ := own_form ho_h0
  have hm_h0 := Nat.le_trans hnc_h0 hcm_h0
  have hl_h1 := (ho_h1).lt
  obtain ⟨A_h1, c_h1, rfl, hnc_h1, hcm_h1, _⟩ := own_form ho_h1
  have hm_h1 := Nat.le_trans hnc_h1 hcm_h1
  go_wp2_with fail
  refine (lawInt.eqB _ _ _ _ _ _ _ hm_h0 hm_w0 (own_rd ho_h0) (own_rd ho_w0)).mono ?_
  rintro e w_18 ⟨rfl, hb_w_18⟩
  have hs_w_18 := (hb_w_18).size
  replace hbW := below_step hbW hb_w_18
  replace ho_t1 := own_below ho_t1 hb_w_18
  replace ho_w0 := own_below ho_w0 hb_w_18
  replace ho_w1 := own_below ho_w1 hb_w_18
  replace ho_x0 := own_below ho_x0 hb_w_18
  replace ho_g0 := own_below ho_g0 hb_w_18
  replace ho_g1 := own_below ho_g1 hb_w_18
  replace ho_t3 := own_below ho_t3 hb_w_18
  replace ho_t4 := own_below ho_t4 hb_w_18
  replace ho_h0 := own_below ho_h0 hb_w_18
  replace ho_h1 := own_below ho_h1 hb_w_18
  go_wp2_with fail
  refine (lawInt.eqB _ _ _ _ _ _ _ hm_h1 hm_w1 (own_rd ho_h1) (own_rd ho_w1)).mono ?_
  rintro e w_19 ⟨rfl, hb_w_19⟩
  have hs_w_19 := (hb_w_19).size
  replace hbW := below_step hbW hb_w_19
  replace ho_t1 := own_below ho_t1 hb_w_19
  replace ho_w0 := own_below ho_w0 hb_w_19
  replace ho_w1 := own_below ho_w1 hb_w_19
  replace ho_x0 := own_below ho_x0 hb_w_19
  replace ho_g0 := own_below ho_g0 hb_w_19
  replace ho_g1 := own_below ho_g1 hb_w_19
  replace ho_t3 := own_below ho_t3 hb_w_19
  replace ho_t4 := own_below ho_t4 hb_w_19
  replace ho_h0 := own_below ho_h0 hb_w_19
  replace ho_h1 := own_below ho_h1 hb_w_19
  go_wp2_with fail
  refine (lawInt.held_any _ _ _ _ _ (by omega) (by omega) (own_rd ho_g0)).mono ?_
  rintro e w_20 ⟨rfl, rfl⟩
  go_wp2_with fail
  refine (lawInt.held_any _ _ _ _ _ (by omega) (by omega) (own_rd ho_g1)).mono ?_
  rintro e w_21 ⟨rfl, rfl⟩
  go_wp2
  go_ret
  exact ⟨rfl, hbW⟩

theorem own : ownKnob Try.prog.godebug = none := by kernel_rfl
theorem laidOut : laidOutB Try.prog = true := by kernel_rfl
set_option maxRecDepth 100000 in
theorem lifted (os : Os) (started : os.Started) (H : Type) (enc : TypeId × Value → H) :
    ReturnsInHanded {} Try.checked os 13 .any (Rows.fnExactFrequentKeysSpec.pre6 enc Try.prog Try.f13 Rows.fnExactFrequentKeysRow.domain false) (Rows.fnExactFrequentKeysSpec.post enc Try.prog Try.f13 false true false false) := by
  refine returnsInHanded_of_change (C := Try.checked) own started (by kernel_rfl) Try.func13
    (ChangeSpec.witness6 (enc := enc) (C := Try.checked) false ⟨#[], #[.slice none 0 0, .int .i64 0], []⟩ 8 (by kernel_rfl) (by kernel_rfl) (by kernel_rfl) (by kernel_rfl)) ?_
  intro W base args ds gs before hval0 hW hcnd _
  have hval : ∀ (j : Nat) t v, Try.f13.params[j]? = some t → args[j]? = some v → Value.okWide Try.prog W .any base t v := hval0
  have hW' := hW
  have hlt : ∀ x ∈ before, x.block < W.heap.size := fun x hx => by simpa using hW.lt x hx
  obtain ⟨p, q, hA0, hV, rfl, hfz, hnd⟩ := hW
  have hA : DataW.TrodAll enc Try.prog W 0 (fun _ => true) true Try.f13.params.toList args.toList ds p := hA0
  rw [Try.params13] at hA hval
  obtain ⟨v0, vs0, d0, ds0, p0, q0, hargs, rfl, rfl, h0, r0⟩ := trodAll_cons hA
  obtain ⟨v1, vs1, d1, ds1, p1, q1, rfl, rfl, rfl, h1, r1⟩ := trodAll_cons r0
  obtain ⟨rfl, rfl, rfl⟩ := trodAll_nil r1
  obtain rfl : args = #[v0, v1] := by cases args; simp_all
  obtain ⟨A0, n0, c0, zs0, rfl, w0⟩ := mem.open_rd_ints Try.underlying29 Try.underlying3 (by kernel_rfl) (hval 0 29 v0 rfl rfl) h0
  obtain ⟨a1, rfl, _, _, w1⟩ := open_int Try.underlying3 (hval 1 3 v1 rfl rfl) h1
  refine (walk A0 n0 c0 zs0 a1 w1 W w0).mono fun e W' ⟨he, hg⟩ => ?_
  subst he
  exact ⟨_, rfl, frame.post_true laidOut hW' rfl (of_decide_eq_true (by kernel_rfl)) (by kernel_rfl) Try.underlying4 rfl rfl rfl hg⟩
theorem over : Rows.fnExactFrequentKeysRow.holds Try.pinned (OpenSpec.ofChange Rows.fnExactFrequentKeysSpec) :=
  OpenClaim.holds_of_wide 13 Try.f13 rfl rfl rfl rfl rfl rfl rfl ⟨rfl, rfl, rfl, rfl, rfl⟩ rfl rfl rfl rfl rfl (by kernel_rfl) Try.func13 (by kernel_rfl)
    (of_decide_eq_true (by kernel_rfl)) (by unfold Func.isWrapper; first | (rw [if_pos (by decide +kernel)]; kernel_rfl) | (rw [if_neg (by decide +kernel)]; exact ⟨rfl, rfl⟩))
    (fun os started H enc _ => lifted os started H enc)
/-- The statement. -/
theorem proved : Rows.FnExactFrequentKeysSaid :=
  over
end Go.Proofs.Ytgngoedooemboaa.fnExactFrequentKeys
