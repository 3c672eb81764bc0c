/- FnExactMergeGroups: for all arguments the program's MergeGroups returns what the reference's returns, in memory of its own, and leaves its arguments as they were. No condition. -/
import Derived.Test.YtgngoedooemboaaFrame
import Derived.Test.YtgngoedooemboaaLawGrp
import Derived.Test.YtgngoedooemboaaOpenGrp
import Derived.Test.YtgngoedooemboaaMgS
set_option linter.unusedVariables false
set_option linter.unusedSimpArgs false
namespace Go.Proofs.Ytgngoedooemboaa.fnExactMergeGroups
open Go.ChangeShapes Go.WideShapes Go.ChangeAt Go.RowKit Go.Proofs.Ytgngoedooemboaa.mem
open Go.ChangeMaps (open_string shut_string)

set_option maxRecDepth 100000 in
set_option maxHeartbeats 2000000 in
theorem walk (A0 : Option Addr) (n0 c0 : Nat) (zs0 : List Grp) (A1 : Option Addr) (n1 c1 : Nat) (zs1 : List Grp) (W : World) (h0 : n0 = zs0.length ∧ n0 ≤ c0 ∧ c0 ≤ maxLen ∧ Rd W 5 A0 n0 (grps zs0) ∧ True) (h1 : n1 = zs1.length ∧ n1 ≤ c1 ∧ c1 ≤ maxLen ∧ Rd W 5 A1 n1 (grps zs1) ∧ True) :
    Calls Try.prog 10 #[.slice A0 n0 c0, .slice A1 n1 c1] W fun e w' => e = .returned (.bool true) ∧ Below W.heap.size W w' := by
  obtain ⟨rfl, hnc0, hcm0, hr0, hx0⟩ := h0
  have HX0 := Lib.hid hx0
  clear hx0
  have hn0 : zs0.length ≤ maxLen := Nat.le_trans hnc0 hcm0
  obtain ⟨rfl, hnc1, hcm1, hr1, hx1⟩ := h1
  have HX1 := Lib.hid hx1
  clear hx1
  have hn1 : zs1.length ≤ maxLen := Nat.le_trans hnc1 hcm1
  have hbW : Below W.heap.size W W := Below.refl _ _
  go_enter Try.func10, Try.ntmps10
  go_wp2_with fail
  refine (lawGroup.sz_any A0 c0 zs0 (1048576) _ (by omega) (by omega) hn0 (hr0.below hbW)).mono ?_
  rintro e w_1 ⟨rfl, rfl⟩
  by_cases hz0 : ¬ ((zs0.length : Nat) : Int) ≤ 1048576
  · rw [szv_neg hz0]
    go_wp2
    go_ret
    exact ⟨rfl, hbW⟩
  rw [Decidable.not_not] at hz0
  rw [szv_pos hz0]
  have hk0 : zs0.length ≤ 1048576 := by omega
  go_wp2_with fail
  refine (lawGroup.sz_any A1 c1 zs1 (1048576 - (zs0.length : Nat)) _ (by omega) (by omega) hn1 (hr1.below hbW)).mono ?_
  rintro e w_2 ⟨rfl, rfl⟩
  by_cases hz1 : ¬ ((zs1.length : Nat) : Int) ≤ 1048576 - (zs0.length : Nat)
  · rw [szv_neg hz1]
    go_wp2
    go_ret
    exact ⟨rfl, hbW⟩
  rw [Decidable.not_not] at hz1
  rw [szv_pos hz1]
  have hk1 : zs1.length ≤ 1048576 := by omega
  go_wp2_with fail
  refine (lawGroup.to_any A0 c0 zs0 _ hk0 (hr0.below hbW)).mono ?_
  rintro e w_3 ⟨v_t1, rfl, ho_t1, hb_w_3⟩
  have hs_w_3 := (hb_w_3).size
  replace hbW := below_step hbW hb_w_3
  have hl_t1 := (ho_t1).lt
  obtain ⟨A_t1, c_t1, rfl, hnc_t1, hcm_t1, _⟩ := own_form ho_t1
  have hm_t1 : zs0.length ≤ maxLen := Nat.le_trans hnc_t1 hcm_t1
  go_wp2_with fail
  refine (lawGroup.to_any A1 c1 zs1 _ hk1 (hr1.below hbW)).mono ?_
  rintro e w_4 ⟨v_t2, rfl, ho_t2, hb_w_4⟩
  have hs_w_4 := (hb_w_4).size
  replace hbW := below_step hbW hb_w_4
  replace ho_t1 := own_below ho_t1 hb_w_4
  have hl_t2 := (ho_t2).lt
  obtain ⟨A_t2, c_t2, rfl, hnc_t2, hcm_t2, _⟩ := own_form ho_t2
  have hm_t2 : zs1.length ≤ maxLen := Nat.le_trans hnc_t2 hcm_t2
  go_wp2_with fail
  refine (gm.mg_spec A_t1 c_t1 zs0 A_t2 c_t2 zs1 _ hk0 hnc_t1 hcm_t1 (own_rd ho_t1) hk1 hnc_t2 hcm_t2 (own_rd ho_t2)).mono ?_
  rintro e w_5 ⟨v_w0, rfl, ⟨ho_w0, hk_w0⟩, hb_w_5⟩
  have hs_w_5 := (hb_w_5).size
  replace hbW := below_step hbW hb_w_5
  replace ho_t1 := own_below ho_t1 hb_w_5
  replace ho_t2 := own_below ho_t2 hb_w_5
  have hl_w0 := (ho_w0).lt
  obtain ⟨A_w0, c_w0, rfl, hnc_w0, hcm_w0, _⟩ := own_form ho_w0
  have hm_w0 := Nat.le_trans hnc_w0 hcm_w0
  go_wp2_with fail
  refine (lawGroup.to_any A0 c0 zs0 _ hk0 (hr0.below hbW)).mono ?_
  rintro e w_6 ⟨v_t3, rfl, ho_t3, hb_w_6⟩
  have hs_w_6 := (hb_w_6).size
  replace hbW := below_step hbW hb_w_6
  replace ho_t1 := own_below ho_t1 hb_w_6
  replace ho_t2 := own_below ho_t2 hb_w_6
  replace ho_w0 := own_below ho_w0 hb_w_6
  have hl_t3 := (ho_t3).lt
  obtain ⟨A_t3, c_t3, rfl, hnc_t3, hcm_t3, _⟩ := own_form ho_t3
  have hm_t3 : zs0.length ≤ maxLen := Nat.le_trans hnc_t3 hcm_t3
  have ho_x0 := ho_t3
  have hl_x0 := hl_t3
  have hm_x0 := hm_t3
  clear ho_t3 hl_t3 hm_t3
  go_wp2_with fail
  refine (lawGroup.to_any A1 c1 zs1 _ hk1 (hr1.below hbW)).mono ?_
  rintro e w_7 ⟨v_t4, rfl, ho_t4, hb_w_7⟩
  have hs_w_7 := (hb_w_7).size
  replace hbW := below_step hbW hb_w_7
  replace ho_t1 := own_below ho_t1 hb_w_7
  replace ho_t2 := own_below ho_t2 hb_w_7
  replace ho_w0 := own_below ho_w0 hb_w_7
  replace ho_x0 := own_below ho_x0 hb_w_7
  have hl_t4 := (ho_t4).lt
  obtain ⟨A_t4, c_t4, rfl, hnc_t4, hcm_t4, _⟩ := own_form ho_t4
  have hm_t4 : zs1.length ≤ maxLen := Nat.le_trans hnc_t4 hcm_t4
  have ho_x1 := ho_t4
  have hl_x1 := hl_t4
  have hm_x1 := hm_t4
  clear ho_t4 hl_t4 hm_t4
  go_wp2_with fail
  refine (gm.mg_impl A_t3 c_t3 zs0 A_t4 c_t4 zs1 _ hk0 hnc_t3 hcm_t3 (own_rd ho_x0) hk1 hnc_t4 hcm_t4 (own_rd ho_x1)).mono ?_
  rintro e w_8 ⟨v_g0, rfl, ⟨ho_g0, hk_g0⟩, hb_w_8⟩
  have hs_w_8 := (hb_w_8).size
  replace hbW := below_step hbW hb_w_8
  replace ho_t1 := own_below ho_t1 hb_w_8
  replace ho_t2 := own_below ho_t2 hb_w_8
  replace ho_w0 := own_below ho_w0 hb_w_8
  replace ho_x0 := own_below ho_x0 hb_w_8
  replace ho_x1 := own_below ho_x1 hb_w_8
  have hl_g0 := (ho_g0).lt
  obtain ⟨A_g0, c_g0, rfl, hnc_g0, hcm_g0, _⟩ := own_form ho_g0
  have hm_g0 := Nat.le_trans hnc_g0 hcm_g0
  go_wp2_with fail
  refine (lawGroup.eqB _ _ _ _ _ _ _ hm_g0 hm_w0 (own_rd ho_g0) (own_rd ho_w0)).mono ?_
  rintro e w_9 ⟨rfl, hb_w_9⟩
  have hs_w_9 := (hb_w_9).size
  replace hbW := below_step hbW hb_w_9
  replace ho_t1 := own_below ho_t1 hb_w_9
  replace ho_t2 := own_below ho_t2 hb_w_9
  replace ho_w0 := own_below ho_w0 hb_w_9
  replace ho_x0 := own_below ho_x0 hb_w_9
  replace ho_x1 := own_below ho_x1 hb_w_9
  replace ho_g0 := own_below ho_g0 hb_w_9
  go_wp2_with fail
  refine (lawGroup.to_any A0 c0 zs0 _ hk0 (hr0.below hbW)).mono ?_
  rintro e w_10 ⟨v_t5, rfl, ho_t5, hb_w_10⟩
  have hs_w_10 := (hb_w_10).size
  replace hbW := below_step hbW hb_w_10
  replace ho_t1 := own_below ho_t1 hb_w_10
  replace ho_t2 := own_below ho_t2 hb_w_10
  replace ho_w0 := own_below ho_w0 hb_w_10
  replace ho_x0 := own_below ho_x0 hb_w_10
  replace ho_x1 := own_below ho_x1 hb_w_10
  replace ho_g0 := own_below ho_g0 hb_w_10
  have hl_t5 := (ho_t5).lt
  obtain ⟨A_t5, c_t5, rfl, hnc_t5, hcm_t5, _⟩ := own_form ho_t5
  have hm_t5 : zs0.length ≤ maxLen := Nat.le_trans hnc_t5 hcm_t5
  go_wp2_with fail
  refine (lawGroup.eqB _ _ _ _ _ _ _ hm_x0 hm_t5 (own_rd ho_x0) (own_rd ho_t5)).mono ?_
  rintro e w_11 ⟨rfl, hb_w_11⟩
  have hs_w_11 := (hb_w_11).size
  replace hbW := below_step hbW hb_w_11
  replace ho_t1 := own_below ho_t1 hb_w_11
  replace ho_t2 := own_below ho_t2 hb_w_11
  replace ho_w0 := own_below ho_w0 hb_w_11
  replace ho_x0 := own_below ho_x0 hb_w_11
  replace ho_x1 := own_below ho_x1 hb_w_11
  replace ho_g0 := own_below ho_g0 hb_w_11
  replace ho_t5 := own_below ho_t5 hb_w_11
  go_wp2_with fail
  refine (lawGroup.to_any A1 c1 zs1 _ hk1 (hr1.below hbW)).mono ?_
  rintro e w_12 ⟨v_t6, rfl, ho_t6, hb_w_12⟩
  have hs_w_12 := (hb_w_12).size
  replace hbW := below_step hbW hb_w_12
  replace ho_t1 := own_below ho_t1 hb_w_12
  replace ho_t2 := own_below ho_t2 hb_w_12
  replace ho_w0 := own_below ho_w0 hb_w_12
  replace ho_x0 := own_below ho_x0 hb_w_12
  replace ho_x1 := own_below ho_x1 hb_w_12
  replace ho_g0 := own_below ho_g0 hb_w_12
  replace ho_t5 := own_below ho_t5 hb_w_12
  have hl_t6 := (ho_t6).lt
  obtain ⟨A_t6, c_t6, rfl, hnc_t6, hcm_t6, _⟩ := own_form ho_t6
  have hm_t6 : zs1.length ≤ maxLen := Nat.le_trans hnc_t6 hcm_t6
  go_wp2_with fail
  refine (lawGroup.eqB _ _ _ _ _ _ _ hm_x1 hm_t6 (own_rd ho_x1) (own_rd ho_t6)).mono ?_
  rintro e w_13 ⟨rfl, hb_w_13⟩
  have hs_w_13 := (hb_w_13).size
  replace hbW := below_step hbW hb_w_13
  replace ho_t1 := own_below ho_t1 hb_w_13
  replace ho_t2 := own_below ho_t2 hb_w_13
  replace ho_w0 := own_below ho_w0 hb_w_13
  replace ho_x0 := own_below ho_x0 hb_w_13
  replace ho_x1 := own_below ho_x1 hb_w_13
  replace ho_g0 := own_below ho_g0 hb_w_13
  replace ho_t5 := own_below ho_t5 hb_w_13
  replace ho_t6 := own_below ho_t6 hb_w_13
  go_wp2_with fail
  refine (lawGroup.mark_any _ _ _ _ _ _ _ (by omega) (by omega) ho_x0).mono ?_
  rintro e w_14 ⟨rfl, hq_w_14, hg_w_14⟩
  have hs_w_14 := hg_w_14.size
  replace ho_t1 := ho_t1.kept hg_w_14 (sep hl_t1 hl_x0 (by omega))
  replace ho_t2 := ho_t2.kept hg_w_14 (sep hl_t2 hl_x0 (by omega))
  replace ho_w0 := ho_w0.kept hg_w_14 (sep hl_w0 hl_x0 (by omega))
  replace ho_x1 := ho_x1.kept hg_w_14 (sep hl_x1 hl_x0 (by omega))
  replace ho_g0 := ho_g0.kept hg_w_14 (sep hl_g0 hl_x0 (by omega))
  replace ho_t5 := ho_t5.kept hg_w_14 (sep hl_t5 hl_x0 (by omega))
  replace ho_t6 := ho_t6.kept hg_w_14 (sep hl_t6 hl_x0 (by omega))
  replace ho_x0 := hq_w_14
  clear hq_w_14
  replace hbW := below_grown hbW hbW.size hg_w_14 (fun k hk => by have := hl_x0 k hk; omega)
  go_wp2_with fail
  refine (lawGroup.mark_any _ _ _ _ _ _ _ (by omega) (by omega) ho_x1).mono ?_
  rintro e w_15 ⟨rfl, hq_w_15, hg_w_15⟩
  have hs_w_15 := hg_w_15.size
  replace ho_t1 := ho_t1.kept hg_w_15 (sep hl_t1 hl_x1 (by omega))
  replace ho_t2 := ho_t2.kept hg_w_15 (sep hl_t2 hl_x1 (by omega))
  replace ho_w0 := ho_w0.kept hg_w_15 (sep hl_w0 hl_x1 (by omega))
  replace ho_x0 := ho_x0.kept hg_w_15 (sep hl_x0 hl_x1 (by omega))
  replace ho_g0 := ho_g0.kept hg_w_15 (sep hl_g0 hl_x1 (by omega))
  replace ho_t5 := ho_t5.kept hg_w_15 (sep hl_t5 hl_x1 (by omega))
  replace ho_t6 := ho_t6.kept hg_w_15 (sep hl_t6 hl_x1 (by omega))
  replace ho_x1 := hq_w_15
  clear hq_w_15
  replace hbW := below_grown hbW hbW.size hg_w_15 (fun k hk => by have := hl_x1 k hk; omega)
  go_wp2_with fail
  refine (lawGroup.eqB _ _ _ _ _ _ _ hm_g0 hm_w0 (own_rd ho_g0) (own_rd ho_w0)).mono ?_
  rintro e w_16 ⟨rfl, hb_w_16⟩
  have hs_w_16 := (hb_w_16).size
  replace hbW := below_step hbW hb_w_16
  replace ho_t1 := own_below ho_t1 hb_w_16
  replace ho_t2 := own_below ho_t2 hb_w_16
  replace ho_w0 := own_below ho_w0 hb_w_16
  replace ho_x0 := own_below ho_x0 hb_w_16
  replace ho_x1 := own_below ho_x1 hb_w_16
  replace ho_g0 := own_below ho_g0 hb_w_16
  replace ho_t5 := own_below ho_t5 hb_w_16
  replace ho_t6 := own_below ho_t6 hb_w_16
  go_wp2_with fail
  refine (lawGroup.mark_any _ _ _ _ _ _ _ (by omega) (by omega) ho_g0).mono ?_
  rintro e w_17 ⟨rfl, hq_w_17, hg_w_17⟩
  have hs_w_17 := hg_w_17.size
  replace ho_t1 := ho_t1.kept hg_w_17 (sep hl_t1 hl_g0 (by omega))
  replace ho_t2 := ho_t2.kept hg_w_17 (sep hl_t2 hl_g0 (by omega))
  replace ho_w0 := ho_w0.kept hg_w_17 (sep hl_w0 hl_g0 (by omega))
  replace ho_x0 := ho_x0.kept hg_w_17 (sep hl_x0 hl_g0 (by omega))
  replace ho_x1 := ho_x1.kept hg_w_17 (sep hl_x1 hl_g0 (by omega))
  replace ho_t5 := ho_t5.kept hg_w_17 (sep hl_t5 hl_g0 (by omega))
  replace ho_t6 := ho_t6.kept hg_w_17 (sep hl_t6 hl_g0 (by omega))
  replace ho_g0 := hq_w_17
  clear hq_w_17
  replace hbW := below_grown hbW hbW.size hg_w_17 (fun k hk => by have := hl_g0 k hk; omega)
  go_wp2_with fail
  refine (lawGroup.held_any _ _ _ _ _ (by omega) (by omega) (own_rd ho_g0)).mono ?_
  rintro e w_18 ⟨rfl, rfl⟩
  go_wp2_with fail
  refine (lawGroup.to_any A0 c0 zs0 _ hk0 (hr0.below hbW)).mono ?_
  rintro e w_19 ⟨v_t7, rfl, ho_t7, hb_w_19⟩
  have hs_w_19 := (hb_w_19).size
  replace hbW := below_step hbW hb_w_19
  replace ho_t1 := own_below ho_t1 hb_w_19
  replace ho_t2 := own_below ho_t2 hb_w_19
  replace ho_w0 := own_below ho_w0 hb_w_19
  replace ho_x0 := own_below ho_x0 hb_w_19
  replace ho_x1 := own_below ho_x1 hb_w_19
  replace ho_g0 := own_below ho_g0 hb_w_19
  replace ho_t5 := own_below ho_t5 hb_w_19
  replace ho_t6 := own_below ho_t6 hb_w_19
  have hl_t7 := (ho_t7).lt
  obtain ⟨A_t7, c_t7, rfl, hnc_t7, hcm_t7, _⟩ := own_form ho_t7
  have hm_t7 : zs0.length ≤ maxLen := Nat.le_trans hnc_t7 hcm_t7
  go_wp2_with fail
  refine (lawGroup.to_any A1 c1 zs1 _ hk1 (hr1.below hbW)).mono ?_
  rintro e w_20 ⟨v_t8, rfl, ho_t8, hb_w_20⟩
  have hs_w_20 := (hb_w_20).size
  replace hbW := below_step hbW hb_w_20
  replace ho_t1 := own_below ho_t1 hb_w_20
  replace ho_t2 := own_below ho_t2 hb_w_20
  replace ho_w0 := own_below ho_w0 hb_w_20
  replace ho_x0 := own_below ho_x0 hb_w_20
  replace ho_x1 := own_below ho_x1 hb_w_20
  replace ho_g0 := own_below ho_g0 hb_w_20
  replace ho_t5 := own_below ho_t5 hb_w_20
  replace ho_t6 := own_below ho_t6 hb_w_20
  replace ho_t7 := own_below ho_t7 hb_w_20
  have hl_t8 := (ho_t8).lt
  obtain ⟨A_t8, c_t8, rfl, hnc_t8, hcm_t8, _⟩ := own_form ho_t8
  have hm_t8 : zs1.length ≤ maxLen := Nat.le_trans hnc_t8 hcm_t8
  go_wp2_with fail
  refine (gm.mg_impl A_t7 c_t7 zs0 A_t8 c_t8 zs1 _ hk0 hnc_t7 hcm_t7 (own_rd ho_t7) hk1 hnc_t8 hcm_t8 (own_rd ho_t8)).mono ?_
  rintro e w_21 ⟨v_h0, rfl, ⟨ho_h0, hk_h0⟩, hb_w_21⟩
  have hs_w_21 := (hb_w_21).size
  replace hbW := below_step hbW hb_w_21
  replace ho_t1 := own_below ho_t1 hb_w_21
  replace ho_t2 := own_below ho_t2 hb_w_21
  replace ho_w0 := own_below ho_w0 hb_w_21
  replace ho_x0 := own_below ho_x0 hb_w_21
  replace ho_x1 := own_below ho_x1 hb_w_21
  replace ho_g0 := own_below ho_g0 hb_w_21
  replace ho_t5 := own_below ho_t5 hb_w_21
  replace ho_t6 := own_below ho_t6 hb_w_21
  replace ho_t7 := own_below ho_t7 hb_w_21
  replace ho_t8 := own_below ho_t8 hb_w_21
  have hl_h0 := (ho_h0).lt
  obtain ⟨A_h0, c_h0, rfl, hnc_h0, hcm_h0, _⟩ := own_form ho_h0
  have hm_h0 := Nat.le_trans hnc_h0 hcm_h0
  go_wp2_with fail
  refine (lawGroup.eqB _ _ _ _ _ _ _ hm_h0 hm_w0 (own_rd ho_h0) (own_rd ho_w0)).mono ?_
  rintro e w_22 ⟨rfl, hb_w_22⟩
  have hs_w_22 := (hb_w_22).size
  replace hbW := below_step hbW hb_w_22
  replace ho_t1 := own_below ho_t1 hb_w_22
  replace ho_t2 := own_below ho_t2 hb_w_22
  replace ho_w0 := own_below ho_w0 hb_w_22
  replace ho_x0 := own_below ho_x0 hb_w_22
  replace ho_x1 := own_below ho_x1 hb_w_22
  replace ho_g0 := own_below ho_g0 hb_w_22
  replace ho_t5 := own_below ho_t5 hb_w_22
  replace ho_t6 := own_below ho_t6 hb_w_22
  replace ho_t7 := own_below ho_t7 hb_w_22
  replace ho_t8 := own_below ho_t8 hb_w_22
  replace ho_h0 := own_below ho_h0 hb_w_22
  go_wp2_with fail
  refine (lawGroup.held_any _ _ _ _ _ (by omega) (by omega) (own_rd ho_g0)).mono ?_
  rintro e w_23 ⟨rfl, rfl⟩
  go_wp2
  go_ret
  exact ⟨rfl, hbW⟩

theorem own : ownKnob Try.prog.godebug = none := by kernel_rfl
theorem laidOut : laidOutB Try.prog = true := by kernel_rfl
set_option maxRecDepth 100000 in
theorem lifted (os : Os) (started : os.Started) (H : Type) (enc : TypeId × Value → H) :
    ReturnsInHanded {} Try.checked os 10 .any (Rows.fnExactMergeGroupsSpec.pre6 enc Try.prog Try.f10 Rows.fnExactMergeGroupsRow.domain false) (Rows.fnExactMergeGroupsSpec.post enc Try.prog Try.f10 false true false false) := by
  refine returnsInHanded_of_change (C := Try.checked) own started (by kernel_rfl) Try.func10
    (ChangeSpec.witness6 (enc := enc) (C := Try.checked) false ⟨#[], #[.slice none 0 0, .slice none 0 0], []⟩ 8 (by kernel_rfl) (by kernel_rfl) (by kernel_rfl) (by kernel_rfl)) ?_
  intro W base args ds gs before hval0 hW hcnd _
  have hval : ∀ (j : Nat) t v, Try.f10.params[j]? = some t → args[j]? = some v → Value.okWide Try.prog W .any base t v := hval0
  have hW' := hW
  have hlt : ∀ x ∈ before, x.block < W.heap.size := fun x hx => by simpa using hW.lt x hx
  obtain ⟨p, q, hA0, hV, rfl, hfz, hnd⟩ := hW
  have hA : DataW.TrodAll enc Try.prog W 0 (fun _ => true) true Try.f10.params.toList args.toList ds p := hA0
  rw [Try.params10] at hA hval
  obtain ⟨v0, vs0, d0, ds0, p0, q0, hargs, rfl, rfl, h0, r0⟩ := trodAll_cons hA
  obtain ⟨v1, vs1, d1, ds1, p1, q1, rfl, rfl, rfl, h1, r1⟩ := trodAll_cons r0
  obtain ⟨rfl, rfl, rfl⟩ := trodAll_nil r1
  obtain rfl : args = #[v0, v1] := by cases args; simp_all
  obtain ⟨A0, n0, c0, zs0, rfl, w0⟩ := mem.open_rd_grp Try.underlying22 Try.underlying73 (by kernel_rfl) (fun j hj => match j, hj with | 0, _ => ⟨_, rfl, rfl, Try.underlying3, by kernel_rfl⟩ | 1, _ => ⟨_, rfl, rfl, Try.underlying3, by kernel_rfl⟩ | 2, _ => ⟨_, rfl, rfl, Try.underlying3, by kernel_rfl⟩ | 3, _ => ⟨_, rfl, rfl, Try.underlying3, by kernel_rfl⟩ | 4, _ => ⟨_, rfl, rfl, Try.underlying3, by kernel_rfl⟩ | _ + 5, h => absurd h (by omega)) (hval 0 22 v0 rfl rfl) h0
  obtain ⟨A1, n1, c1, zs1, rfl, w1⟩ := mem.open_rd_grp Try.underlying22 Try.underlying73 (by kernel_rfl) (fun j hj => match j, hj with | 0, _ => ⟨_, rfl, rfl, Try.underlying3, by kernel_rfl⟩ | 1, _ => ⟨_, rfl, rfl, Try.underlying3, by kernel_rfl⟩ | 2, _ => ⟨_, rfl, rfl, Try.underlying3, by kernel_rfl⟩ | 3, _ => ⟨_, rfl, rfl, Try.underlying3, by kernel_rfl⟩ | 4, _ => ⟨_, rfl, rfl, Try.underlying3, by kernel_rfl⟩ | _ + 5, h => absurd h (by omega)) (hval 1 22 v1 rfl rfl) h1
  refine (walk A0 n0 c0 zs0 A1 n1 c1 zs1 W w0 w1).mono fun e W' ⟨he, hg⟩ => ?_
  subst he
  exact ⟨_, rfl, frame.post_true laidOut hW' rfl (of_decide_eq_true (by kernel_rfl)) (by kernel_rfl) Try.underlying4 rfl rfl rfl hg⟩
theorem over : Rows.fnExactMergeGroupsRow.holds Try.pinned (OpenSpec.ofChange Rows.fnExactMergeGroupsSpec) :=
  OpenClaim.holds_of_wide 10 Try.f10 rfl rfl rfl rfl rfl rfl rfl ⟨rfl, rfl, rfl, rfl, rfl⟩ rfl rfl rfl rfl rfl (by kernel_rfl) Try.func10 (by kernel_rfl)
    (of_decide_eq_true (by kernel_rfl)) (by unfold Func.isWrapper; first | (rw [if_pos (by decide +kernel)]; kernel_rfl) | (rw [if_neg (by decide +kernel)]; exact ⟨rfl, rfl⟩))
    (fun os started H enc _ => lifted os started H enc)
/-- The statement. -/
theorem proved : Rows.FnExactMergeGroupsSaid :=
  over
end Go.Proofs.Ytgngoedooemboaa.fnExactMergeGroups
