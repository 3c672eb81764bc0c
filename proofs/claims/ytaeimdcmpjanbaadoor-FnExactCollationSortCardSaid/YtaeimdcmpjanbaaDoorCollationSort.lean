/- FnExactCollationSort: for all arguments the program's CollationSort returns what the reference's returns, in memory of its own, and leaves its arguments as they were. No condition. -/
import Derived.Test.YtaeimdcmpjanbaaDoorFrame
import Derived.Test.YtaeimdcmpjanbaaDoorLawStr
import Derived.Test.YtaeimdcmpjanbaaDoorMarkStr
import Derived.Test.YtaeimdcmpjanbaaDoorColSo
import Derived.Test.YtaeimdcmpjanbaaDoorCards
import Derived.Test.YtaeimdcmpjanbaaDoorTie
import Derived.LaidMore
import Derived.Lay
import Derived.SevenTiedAt
import Derived.Stop.Joined
set_option linter.unusedVariables false
set_option linter.unusedSimpArgs false
namespace Go.Proofs.YtaeimdcmpjanbaaDoor.fnExactCollationSort
open Go.ChangeShapes Go.WideShapes Go.ChangeAt Go.RowKit Go.Proofs.YtaeimdcmpjanbaaDoor.mem
open Go.ChangeMaps (open_string shut_string)

set_option maxRecDepth 100000 in
set_option maxHeartbeats 2000000 in
theorem walk (A0 : Option Addr) (n0 c0 : Nat) (zs0 : List ByteArray) (a1 : Bool) (a2 : Bool) (W : World) (h0 : n0 = zs0.length ∧ n0 ≤ c0 ∧ c0 ≤ maxLen ∧ Rd W 1 A0 n0 (strs zs0) ∧ (∀ s ∈ zs0, s.size ≤ maxLen)) :
    Calls Tryd.prog 4 #[.slice A0 n0 c0, .bool a1, .bool a2] W fun e w' => e = .returned (.bool true) ∧ Below W.heap.size W w' := by
  obtain ⟨rfl, hnc0, hcm0, hr0, hx0⟩ := h0
  have HX0 := Lib.hid hx0
  clear hx0
  have hn0 : zs0.length ≤ maxLen := Nat.le_trans hnc0 hcm0
  have hbW : Below W.heap.size W W := Below.refl _ _
  go_enter Tryd.func4, Tryd.ntmps4
  go_wp2_with fail
  refine (lawStr.sz_any A0 c0 zs0 (1048576) _ (by omega) (by omega) hn0 HX0.out (hr0.below hbW)).mono ?_
  rintro e w_1 ⟨rfl, rfl⟩
  by_cases hz0 : ¬ (((zs0.length + lawStr.total zs0) : Nat) : Int) ≤ 1048576
  · rw [szv_neg hz0]
    go_wp2
    go_ret
    exact ⟨rfl, hbW⟩
  rw [Decidable.not_not] at hz0
  rw [szv_pos hz0]
  have hk0 : zs0.length ≤ 1048576 := by omega
  have hj0 : ∀ s ∈ zs0, s.size ≤ 1048576 := fun s hs => by have := lawStr.total_mem hs; omega
  go_wp2_with fail
  refine (lawStr.to_any A0 c0 zs0 _ hk0 (hr0.below hbW)).mono ?_
  rintro e w_2 ⟨v_t1, rfl, ho_t1, hb_w_2⟩
  have hs_w_2 := (hb_w_2).size
  replace hbW := below_step hbW hb_w_2
  have hl_t1 := (ho_t1).lt
  obtain ⟨A_t1, c_t1, rfl, hnc_t1, hcm_t1, _⟩ := own_form ho_t1
  have hm_t1 : zs0.length ≤ maxLen := Nat.le_trans hnc_t1 hcm_t1
  go_wp2_with fail
  refine (colS.cs_spec A_t1 c_t1 zs0 a1 a2 _ hk0 hj0 (own_rd ho_t1)).mono ?_
  rintro e w_3 ⟨v_w0, rfl, ⟨ho_w0, hk_w0⟩, hb_w_3⟩
  have hs_w_3 := (hb_w_3).size
  replace hbW := below_step hbW hb_w_3
  replace ho_t1 := own_below ho_t1 hb_w_3
  have hl_w0 := (ho_w0).lt
  obtain ⟨A_w0, c_w0, rfl, hnc_w0, hcm_w0, _⟩ := own_form ho_w0
  have hm_w0 := Nat.le_trans hnc_w0 hcm_w0
  go_wp2_with fail
  refine (lawStr.to_any A0 c0 zs0 _ hk0 (hr0.below hbW)).mono ?_
  rintro e w_4 ⟨v_t2, rfl, ho_t2, hb_w_4⟩
  have hs_w_4 := (hb_w_4).size
  replace hbW := below_step hbW hb_w_4
  replace ho_t1 := own_below ho_t1 hb_w_4
  replace ho_w0 := own_below ho_w0 hb_w_4
  have hl_t2 := (ho_t2).lt
  obtain ⟨A_t2, c_t2, rfl, hnc_t2, hcm_t2, _⟩ := own_form ho_t2
  have hm_t2 : zs0.length ≤ maxLen := Nat.le_trans hnc_t2 hcm_t2
  have ho_x0 := ho_t2
  have hl_x0 := hl_t2
  have hm_x0 := hm_t2
  clear ho_t2 hl_t2 hm_t2
  go_wp2_with fail
  refine (colS.cs_impl A_t2 c_t2 zs0 a1 a2 _ hk0 hj0 (own_rd ho_x0)).mono ?_
  rintro e w_5 ⟨v_g0, rfl, ⟨ho_g0, hk_g0⟩, hb_w_5⟩
  have hs_w_5 := (hb_w_5).size
  replace hbW := below_step hbW hb_w_5
  replace ho_t1 := own_below ho_t1 hb_w_5
  replace ho_w0 := own_below ho_w0 hb_w_5
  replace ho_x0 := own_below ho_x0 hb_w_5
  have hl_g0 := (ho_g0).lt
  obtain ⟨A_g0, c_g0, rfl, hnc_g0, hcm_g0, _⟩ := own_form ho_g0
  have hm_g0 := Nat.le_trans hnc_g0 hcm_g0
  go_wp2_with fail
  refine (lawStr.eqB _ _ _ _ _ _ _ hm_g0 hm_w0 (own_rd ho_g0) (own_rd ho_w0)).mono ?_
  rintro e w_6 ⟨rfl, hb_w_6⟩
  have hs_w_6 := (hb_w_6).size
  replace hbW := below_step hbW hb_w_6
  replace ho_t1 := own_below ho_t1 hb_w_6
  replace ho_w0 := own_below ho_w0 hb_w_6
  replace ho_x0 := own_below ho_x0 hb_w_6
  replace ho_g0 := own_below ho_g0 hb_w_6
  go_wp2_with fail
  refine (lawStr.to_any A0 c0 zs0 _ hk0 (hr0.below hbW)).mono ?_
  rintro e w_7 ⟨v_t3, rfl, ho_t3, hb_w_7⟩
  have hs_w_7 := (hb_w_7).size
  replace hbW := below_step hbW hb_w_7
  replace ho_t1 := own_below ho_t1 hb_w_7
  replace ho_w0 := own_below ho_w0 hb_w_7
  replace ho_x0 := own_below ho_x0 hb_w_7
  replace ho_g0 := own_below ho_g0 hb_w_7
  have hl_t3 := (ho_t3).lt
  obtain ⟨A_t3, c_t3, rfl, hnc_t3, hcm_t3, _⟩ := own_form ho_t3
  have hm_t3 : zs0.length ≤ maxLen := Nat.le_trans hnc_t3 hcm_t3
  go_wp2_with fail
  refine (lawStr.eqB _ _ _ _ _ _ _ hm_x0 hm_t3 (own_rd ho_x0) (own_rd ho_t3)).mono ?_
  rintro e w_8 ⟨rfl, hb_w_8⟩
  have hs_w_8 := (hb_w_8).size
  replace hbW := below_step hbW hb_w_8
  replace ho_t1 := own_below ho_t1 hb_w_8
  replace ho_w0 := own_below ho_w0 hb_w_8
  replace ho_x0 := own_below ho_x0 hb_w_8
  replace ho_g0 := own_below ho_g0 hb_w_8
  replace ho_t3 := own_below ho_t3 hb_w_8
  go_wp2_with fail
  refine (lawStr.mark_any _ _ _ _ _ _ _ (by omega) (by omega) ho_x0).mono ?_
  rintro e w_9 ⟨rfl, hq_w_9, hg_w_9⟩
  have hs_w_9 := hg_w_9.size
  replace ho_t1 := ho_t1.kept hg_w_9 (sep hl_t1 hl_x0 (by omega))
  replace ho_w0 := ho_w0.kept hg_w_9 (sep hl_w0 hl_x0 (by omega))
  replace ho_g0 := ho_g0.kept hg_w_9 (sep hl_g0 hl_x0 (by omega))
  replace ho_t3 := ho_t3.kept hg_w_9 (sep hl_t3 hl_x0 (by omega))
  replace ho_x0 := hq_w_9
  clear hq_w_9
  replace hbW := below_grown hbW hbW.size hg_w_9 (fun k hk => by have := hl_x0 k hk; omega)
  go_wp2_with fail
  refine (lawStr.eqB _ _ _ _ _ _ _ hm_g0 hm_w0 (own_rd ho_g0) (own_rd ho_w0)).mono ?_
  rintro e w_10 ⟨rfl, hb_w_10⟩
  have hs_w_10 := (hb_w_10).size
  replace hbW := below_step hbW hb_w_10
  replace ho_t1 := own_below ho_t1 hb_w_10
  replace ho_w0 := own_below ho_w0 hb_w_10
  replace ho_x0 := own_below ho_x0 hb_w_10
  replace ho_g0 := own_below ho_g0 hb_w_10
  replace ho_t3 := own_below ho_t3 hb_w_10
  go_wp2_with fail
  refine (lawStr.mark_any _ _ _ _ _ _ _ (by omega) (by omega) ho_g0).mono ?_
  rintro e w_11 ⟨rfl, hq_w_11, hg_w_11⟩
  have hs_w_11 := hg_w_11.size
  replace ho_t1 := ho_t1.kept hg_w_11 (sep hl_t1 hl_g0 (by omega))
  replace ho_w0 := ho_w0.kept hg_w_11 (sep hl_w0 hl_g0 (by omega))
  replace ho_x0 := ho_x0.kept hg_w_11 (sep hl_x0 hl_g0 (by omega))
  replace ho_t3 := ho_t3.kept hg_w_11 (sep hl_t3 hl_g0 (by omega))
  replace ho_g0 := hq_w_11
  clear hq_w_11
  replace hbW := below_grown hbW hbW.size hg_w_11 (fun k hk => by have := hl_g0 k hk; omega)
  go_wp2_with fail
  refine (lawStr.held_any _ _ _ _ _ (by omega) (by omega) (own_rd ho_g0)).mono ?_
  rintro e w_12 ⟨rfl, hb_w_12⟩
  have hs_w_12 := (hb_w_12).size
  replace hbW := below_step hbW hb_w_12
  replace ho_t1 := own_below ho_t1 hb_w_12
  replace ho_w0 := own_below ho_w0 hb_w_12
  replace ho_x0 := own_below ho_x0 hb_w_12
  replace ho_g0 := own_below ho_g0 hb_w_12
  replace ho_t3 := own_below ho_t3 hb_w_12
  go_wp2_with fail
  refine (lawStr.to_any A0 c0 zs0 _ hk0 (hr0.below hbW)).mono ?_
  rintro e w_13 ⟨v_t4, rfl, ho_t4, hb_w_13⟩
  have hs_w_13 := (hb_w_13).size
  replace hbW := below_step hbW hb_w_13
  replace ho_t1 := own_below ho_t1 hb_w_13
  replace ho_w0 := own_below ho_w0 hb_w_13
  replace ho_x0 := own_below ho_x0 hb_w_13
  replace ho_g0 := own_below ho_g0 hb_w_13
  replace ho_t3 := own_below ho_t3 hb_w_13
  have hl_t4 := (ho_t4).lt
  obtain ⟨A_t4, c_t4, rfl, hnc_t4, hcm_t4, _⟩ := own_form ho_t4
  have hm_t4 : zs0.length ≤ maxLen := Nat.le_trans hnc_t4 hcm_t4
  go_wp2_with fail
  refine (colS.cs_impl A_t4 c_t4 zs0 a1 a2 _ hk0 hj0 (own_rd ho_t4)).mono ?_
  rintro e w_14 ⟨v_h0, rfl, ⟨ho_h0, hk_h0⟩, hb_w_14⟩
  have hs_w_14 := (hb_w_14).size
  replace hbW := below_step hbW hb_w_14
  replace ho_t1 := own_below ho_t1 hb_w_14
  replace ho_w0 := own_below ho_w0 hb_w_14
  replace ho_x0 := own_below ho_x0 hb_w_14
  replace ho_g0 := own_below ho_g0 hb_w_14
  replace ho_t3 := own_below ho_t3 hb_w_14
  replace ho_t4 := own_below ho_t4 hb_w_14
  have hl_h0 := (ho_h0).lt
  obtain ⟨A_h0, c_h0, rfl, hnc_h0, hcm_h0, _⟩ := own_form ho_h0
  have hm_h0 := Nat.le_trans hnc_h0 hcm_h0
  go_wp2_with fail
  refine (lawStr.eqB _ _ _ _ _ _ _ hm_h0 hm_w0 (own_rd ho_h0) (own_rd ho_w0)).mono ?_
  rintro e w_15 ⟨rfl, hb_w_15⟩
  have hs_w_15 := (hb_w_15).size
  replace hbW := below_step hbW hb_w_15
  replace ho_t1 := own_below ho_t1 hb_w_15
  replace ho_w0 := own_below ho_w0 hb_w_15
  replace ho_x0 := own_below ho_x0 hb_w_15
  replace ho_g0 := own_below ho_g0 hb_w_15
  replace ho_t3 := own_below ho_t3 hb_w_15
  replace ho_t4 := own_below ho_t4 hb_w_15
  replace ho_h0 := own_below ho_h0 hb_w_15
  go_wp2_with fail
  refine (lawStr.held_any _ _ _ _ _ (by omega) (by omega) (own_rd ho_g0)).mono ?_
  rintro e w_16 ⟨rfl, hb_w_16⟩
  have hs_w_16 := (hb_w_16).size
  replace hbW := below_step hbW hb_w_16
  replace ho_t1 := own_below ho_t1 hb_w_16
  replace ho_w0 := own_below ho_w0 hb_w_16
  replace ho_x0 := own_below ho_x0 hb_w_16
  replace ho_g0 := own_below ho_g0 hb_w_16
  replace ho_t3 := own_below ho_t3 hb_w_16
  replace ho_t4 := own_below ho_t4 hb_w_16
  replace ho_h0 := own_below ho_h0 hb_w_16
  go_wp2
  go_ret
  exact ⟨rfl, hbW⟩

theorem own : ownKnob Tryd.prog.godebug = none := by kernel_rfl
theorem laidOut : laidOutB Tryd.prog = true := by kernel_rfl
set_option maxRecDepth 100000 in
theorem lifted (os : Os) (started : os.Started) (H : Type) (enc : TypeId × Value → H) :
    ReturnsInHanded {} Tryd.checked os 4 .any (fun w args => (Rows.fnExactCollationSortSpec.pre enc Tryd.prog Tryd.f4 Rows.fnExactCollationSortRow.domain false w args ∧ laidMetH Tryd.prog Rows.fnExactCollationSortRow.laid w) ∧ sizedMet enc Tryd.prog Tryd.f4 (OpenSpec.ofChange Rows.fnExactCollationSortSpec) false w args) (Rows.fnExactCollationSortSpec.post enc Tryd.prog Tryd.f4 false true false false) := by
  refine returnsInHanded_of_change_and (C := Tryd.checked) (X := fun w _ => laidMetH Tryd.prog Rows.fnExactCollationSortRow.laid w) (fun _ _ _ hh h => h.of_heap hh) own started (by kernel_rfl) Tryd.func4
    (ChangeSpec.witness_shaped (enc := enc) (C := Tryd.checked) (os := os) (X := fun w _ => laidMetH Tryd.prog Rows.fnExactCollationSortRow.laid w) false (World.laidAll Tryd.prog os Rows.fnExactCollationSortRow.laid) #[.slice none 0 0, .bool false, .bool false] 8 (World.laidAll_os _ _ _)
      (World.shaped_of_ZipB (by kernel_rfl) (by kernel_rfl)) (by kernel_rfl) (by kernel_rfl) (by kernel_rfl)
      (by rw [MakeChecks.laidMetH_plain _ _ _ (by kernel_rfl)]; exact laidMet_laidAll _ (by kernel_rfl) (by kernel_rfl))) ?_
  intro W base args ds gs before hval0 hW hc _ hL _
  have hval : ∀ (j : Nat) t v, Tryd.f4.params[j]? = some t → args[j]? = some v → Value.okWide Tryd.prog W .any base t v := hval0
  have hW' := hW
  obtain ⟨p, q, hA0, hV, rfl, hfz, hnd⟩ := hW
  have hA : DataW.TrodAll enc Tryd.prog W 0 (fun _ => true) true Tryd.f4.params.toList args.toList ds p := hA0
  rw [Tryd.params4] at hA hval
  obtain ⟨v0, vs0, d0, ds0, p0, q0, hargs, rfl, rfl, h0, r0⟩ := trodAll_cons hA
  obtain ⟨v1, vs1, d1, ds1, p1, q1, rfl, rfl, rfl, h1, r1⟩ := trodAll_cons r0
  obtain ⟨v2, vs2, d2, ds2, p2, q2, rfl, rfl, rfl, h2, r2⟩ := trodAll_cons r1
  obtain ⟨rfl, rfl, rfl⟩ := trodAll_nil r2
  obtain rfl : args = #[v0, v1, v2] := by cases args; simp_all
  obtain ⟨A0, n0, c0, ss0, rfl, w0⟩ := mem.open_rd_strs Tryd.underlying25 Tryd.underlying9 (by kernel_rfl) (hval 0 25 v0 rfl rfl) h0
  obtain ⟨a1, rfl, _, w1⟩ := open_bool Tryd.underlying4 (hval 1 4 v1 rfl rfl) h1
  obtain ⟨a2, rfl, _, w2⟩ := open_bool Tryd.underlying4 (hval 2 4 v2 rfl rfl) h2
  refine (walk A0 n0 c0 ss0 a1 a2 W w0).mono fun e W' ⟨he, hg⟩ => ?_
  subst he
  exact ⟨_, rfl, frame.post_true laidOut hW' rfl (of_decide_eq_true (by kernel_rfl)) (by kernel_rfl) Tryd.underlying4 rfl rfl rfl hg⟩
theorem over : Rows.fnExactCollationSortRow.holds Tryd.pinned (OpenSpec.ofChange Rows.fnExactCollationSortSpec) :=
  OpenClaim.holds_of_wide 4 Tryd.f4 rfl rfl rfl rfl rfl rfl rfl ⟨rfl, rfl, rfl, rfl, rfl⟩ rfl rfl rfl rfl rfl (by kernel_rfl) Tryd.func4 (by kernel_rfl)
    (of_decide_eq_true (by kernel_rfl)) (by unfold Func.isWrapper; first | (rw [if_pos (by decide +kernel)]; kernel_rfl) | (rw [if_neg (by decide +kernel)]; exact ⟨rfl, rfl⟩))
    (fun os started H enc _ => lifted os started H enc)
/-- The statement: the tied card. -/
theorem proved : Rows.FnExactCollationSortCardSaid :=
  Claim7.holds_tied_plain_at .later [] [.data, .pinned] true (true, "07edee5e029a0688c922edc22bb40a9e632f266c0c8bdbc3ab082cabbfdf1916") false over (fun _ h => by cases h) (by kernel_rfl) (fun _ h => by cases h) fnExactCollationSort_row_tie rfl ⟨rfl, rfl⟩ (by kernel_rfl) rfl
    (fun f fn hf hfn => by
      obtain rfl : f = 4 := Option.some.inj ((show Tryd.prog.funcNamed "loop.example/g00907/laws.FnExactCollationSort" = some 4 by kernel_rfl).symm.trans hf) |>.symm
      obtain rfl : fn = Tryd.f4 := (Option.some.inj (Tryd.func4.symm.trans hfn)).symm
      exact ⟨by kernel_rfl, fun j t ht => by
        rw [Tryd.params4] at ht
        have hm : t ∈ [25, 4, 4] := by simpa using Array.mem_of_getElem? ht
        have hall : ([25, 4, 4].all fun u => !Tryd.prog.wantsStandIn u) = true := by kernel_rfl
        exact (show Tryd.prog.wantsStandIn t = false by simpa using List.all_eq_true.1 hall t hm)⟩)
    (by kernel_rfl)
end Go.Proofs.YtaeimdcmpjanbaaDoor.fnExactCollationSort
