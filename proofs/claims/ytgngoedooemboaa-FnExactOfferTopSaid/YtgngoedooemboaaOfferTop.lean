/- FnExactOfferTop: for all arguments the program's OfferTop returns what the reference's returns, in memory of its own, and leaves its arguments as they were. No condition. -/
import Derived.Test.YtgngoedooemboaaFrame
import Derived.Test.YtgngoedooemboaaLawRec
import Derived.Test.YtgngoedooemboaaOpenRec
import Derived.Test.YtgngoedooemboaaOpenOne
import Derived.Test.YtgngoedooemboaaOffS
import Derived.Deep.RegionHeld3
set_option linter.unusedVariables false
set_option linter.unusedSimpArgs false
namespace Go.Proofs.Ytgngoedooemboaa.fnExactOfferTop
open Go.ChangeShapes Go.WideShapes Go.ChangeAt Go.RowKit Go.Proofs.Ytgngoedooemboaa.mem
open Go.ChangeMaps (open_string shut_string)

set_option maxRecDepth 100000 in
set_option maxHeartbeats 2000000 in
theorem walk (A0 : Option Addr) (n0 c0 : Nat) (zs0 : List Rec) (a1 : Int) (w1 : (Lit.int .i64 a1).wf = true) (x2 y2 : Int) (W : World) (h0 : n0 = zs0.length ∧ n0 ≤ c0 ∧ c0 ≤ maxLen ∧ Rd W 2 A0 n0 (recs zs0) ∧ True) :
    Calls Try.prog 6 #[.slice A0 n0 c0, .int .i64 a1, .agg #[.int .i64 x2, .int .i64 y2]] W fun e w' => e = .returned (.bool true) ∧ Below W.heap.size W w' := by
  obtain ⟨rfl, hnc0, hcm0, hr0, hx0⟩ := h0
  have HX0 := Lib.hid hx0
  clear hx0
  have hn0 : zs0.length ≤ maxLen := Nat.le_trans hnc0 hcm0
  have hbW : Below W.heap.size W W := Below.refl _ _
  have HBX := Lib.hid (fun (o : Obj) => (Below.refl W.heap.size W).alloc (Nat.le_refl _) o)
  go_enter Try.func6, Try.ntmps6
  go_wp2_with fail
  obtain ⟨w_1, hwb⟩ : ∃ x : World, x = (W.alloc (.cells #[.int .i64 x2, .int .i64 y2] 46)) := ⟨_, rfl⟩
  rw [← hwb]
  have hb_w_1 : Below W.heap.size W w_1 := by rw [hwb]; exact (Below.refl _ _).alloc (Nat.le_refl _) _
  have hBx_aR : Blk w_1 (W.heap.size) 46 #[.int .i64 x2, .int .i64 y2] := by rw [hwb]; exact Blk.new _ _ _
  have hlx_aR := hBx_aR.lt
  have hbc_aR_0 : w_1.cell? ⟨W.heap.size, 0, none⟩ = some (.int .i64 x2) := hBx_aR.cell 0
  have hbc_aR_1 : w_1.cell? ⟨W.heap.size, 1, none⟩ = some (.int .i64 y2) := hBx_aR.cell 1
  clear hwb
  have hs_w_1 := (hb_w_1).size
  replace hbW := below_step hbW hb_w_1
  refine (lawRec.sz_any A0 c0 zs0 (1048576) _ (by omega) (by omega) hn0 (hr0.below hbW)).mono ?_
  rintro e w_2 ⟨rfl, rfl⟩
  by_cases hz0 : ¬ ((zs0.length : Nat) : Int) ≤ 1048576
  · rw [szv_neg hz0]
    go_wp2
    go_ret
    exact ⟨rfl, hbW⟩
  rw [Decidable.not_not] at hz0
  rw [szv_pos hz0]
  have hk0 : zs0.length ≤ 1048576 := by omega
  go_wp2_with fail
  have HKC5 := Lib.hid (fun (w' : World) (h : Below w_1.heap.size w_1 w') => And.intro (cells_below h hbc_aR_0) (cells_below h hbc_aR_1))
  have HTA5 := Lib.hid (lawRec.to_any A0 c0 zs0 w_1.drew hk0 (hr0.below (below_drewN hbW 1)))
  go_region_held3 (fun w' => w'.cell? ⟨W.heap.size, 0, none⟩ = some (.int .i64 x2) ∧ w'.cell? ⟨W.heap.size, 1, none⟩ = some (.int .i64 y2)) (first | exact HKC5.out _ hq_c5 | exact HKC5.out _ hq_b5 | exact HKC5.out _ hq_a5 | go_keep) (first
    | (go_at_call 27; (with_reducible refine HTA5.out.mono ?_); rintro e w_3 ⟨v_a5, rfl, ho_a5, hb_a5⟩; obtain ⟨A_a5, c_a5, rfl, hnc_a5, hcm_a5, _⟩ := own_form ho_a5; have hq_a5 : Below w_1.heap.size w_1 w_3 := ⟨hb_a5.os, hb_a5.tape, hb_a5.output, hb_a5.size, hb_a5.block⟩)
    | (go_at_call 33; (with_reducible refine (lawRec.to_one _ _ _).mono ?_); rintro e w_4 ⟨rfl, hb_b5⟩; have hq_b5 : Below w_1.heap.size w_1 w_4 := below_step hq_a5 hb_b5)
    | (go_at_call 32; (with_reducible refine (tops.off_spec A_a5 c_a5 zs0 a1 x2 y2 _ hk0 (own_rd (own_below ho_a5 hb_b5))).mono ?_); rintro e w_5 ⟨v_w0, rfl, ⟨ho_w0, hk_w0⟩, hb_c5⟩; have hq_c5 : Below w_1.heap.size w_1 w_5 := below_step hq_b5 hb_c5))
  clear HKC5
  have hs_w_3 := hq_a5.size
  have hs_w_4 := hb_b5.size
  have hsz_w_5 := hb_c5.size
  have hs_w_5 := (hq_c5).size
  replace hbW := below_step hbW hq_c5
  replace hBx_aR := hBx_aR.below hq_c5 hBx_aR.lt
  replace hbc_aR_0 : w_5.cell? ⟨W.heap.size, 0, none⟩ = some (.int .i64 x2) := hBx_aR.cell 0
  replace hbc_aR_1 : w_5.cell? ⟨W.heap.size, 1, none⟩ = some (.int .i64 y2) := hBx_aR.cell 1
  have hl_w0 := (ho_w0).lt
  obtain ⟨A_w0, c_w0, rfl, hnc_w0, hcm_w0, _⟩ := own_form ho_w0
  have hm_w0 := Nat.le_trans hnc_w0 hcm_w0
  go_wp2_with fail
  refine (lawRec.to_any A0 c0 zs0 _ hk0 (hr0.below hbW)).mono ?_
  rintro e w_6 ⟨v_t1, rfl, ho_t1, hb_w_6⟩
  have hs_w_6 := (hb_w_6).size
  replace hbW := below_step hbW hb_w_6
  replace ho_w0 := own_below ho_w0 hb_w_6
  replace hBx_aR := hBx_aR.below hb_w_6 hBx_aR.lt
  replace hbc_aR_0 : w_6.cell? ⟨W.heap.size, 0, none⟩ = some (.int .i64 x2) := hBx_aR.cell 0
  replace hbc_aR_1 : w_6.cell? ⟨W.heap.size, 1, none⟩ = some (.int .i64 y2) := hBx_aR.cell 1
  have hl_t1 := (ho_t1).lt
  obtain ⟨A_t1, c_t1, rfl, hnc_t1, hcm_t1, _⟩ := own_form ho_t1
  have hm_t1 : zs0.length ≤ maxLen := Nat.le_trans hnc_t1 hcm_t1
  have ho_x0 := ho_t1
  have hl_x0 := hl_t1
  have hm_x0 := hm_t1
  clear ho_t1 hl_t1 hm_t1
  go_wp2_with fail
  refine (lawRec.to_one _ _ _).mono ?_
  rintro e w_7 ⟨rfl, hb_w_7⟩
  have hs_w_7 := (hb_w_7).size
  replace hbW := below_step hbW hb_w_7
  replace ho_w0 := own_below ho_w0 hb_w_7
  replace ho_x0 := own_below ho_x0 hb_w_7
  replace hBx_aR := hBx_aR.below hb_w_7 hBx_aR.lt
  replace hbc_aR_0 : w_7.cell? ⟨W.heap.size, 0, none⟩ = some (.int .i64 x2) := hBx_aR.cell 0
  replace hbc_aR_1 : w_7.cell? ⟨W.heap.size, 1, none⟩ = some (.int .i64 y2) := hBx_aR.cell 1
  go_wp2_with fail
  refine (tops.off_impl A_t1 c_t1 zs0 a1 x2 y2 _ hk0 (own_rd ho_x0)).mono ?_
  rintro e w_8 ⟨v_g0, rfl, ⟨ho_g0, hk_g0⟩, hb_w_8⟩
  have hs_w_8 := (hb_w_8).size
  replace hbW := below_step hbW hb_w_8
  replace ho_w0 := own_below ho_w0 hb_w_8
  replace ho_x0 := own_below ho_x0 hb_w_8
  replace hBx_aR := hBx_aR.below hb_w_8 hBx_aR.lt
  replace hbc_aR_0 : w_8.cell? ⟨W.heap.size, 0, none⟩ = some (.int .i64 x2) := hBx_aR.cell 0
  replace hbc_aR_1 : w_8.cell? ⟨W.heap.size, 1, none⟩ = some (.int .i64 y2) := hBx_aR.cell 1
  have hl_g0 := (ho_g0).lt
  obtain ⟨A_g0, c_g0, rfl, hnc_g0, hcm_g0, _⟩ := own_form ho_g0
  have hm_g0 := Nat.le_trans hnc_g0 hcm_g0
  go_wp2_with fail
  refine (lawRec.eqB _ _ _ _ _ _ _ hm_g0 hm_w0 (own_rd ho_g0) (own_rd ho_w0)).mono ?_
  rintro e w_9 ⟨rfl, hb_w_9⟩
  have hs_w_9 := (hb_w_9).size
  replace hbW := below_step hbW hb_w_9
  replace ho_w0 := own_below ho_w0 hb_w_9
  replace ho_x0 := own_below ho_x0 hb_w_9
  replace ho_g0 := own_below ho_g0 hb_w_9
  replace hBx_aR := hBx_aR.below hb_w_9 hBx_aR.lt
  replace hbc_aR_0 : w_9.cell? ⟨W.heap.size, 0, none⟩ = some (.int .i64 x2) := hBx_aR.cell 0
  replace hbc_aR_1 : w_9.cell? ⟨W.heap.size, 1, none⟩ = some (.int .i64 y2) := hBx_aR.cell 1
  go_wp2_with fail
  refine (lawRec.to_any A0 c0 zs0 _ hk0 (hr0.below hbW)).mono ?_
  rintro e w_10 ⟨v_t2, rfl, ho_t2, hb_w_10⟩
  have hs_w_10 := (hb_w_10).size
  replace hbW := below_step hbW hb_w_10
  replace ho_w0 := own_below ho_w0 hb_w_10
  replace ho_x0 := own_below ho_x0 hb_w_10
  replace ho_g0 := own_below ho_g0 hb_w_10
  replace hBx_aR := hBx_aR.below hb_w_10 hBx_aR.lt
  replace hbc_aR_0 : w_10.cell? ⟨W.heap.size, 0, none⟩ = some (.int .i64 x2) := hBx_aR.cell 0
  replace hbc_aR_1 : w_10.cell? ⟨W.heap.size, 1, none⟩ = some (.int .i64 y2) := hBx_aR.cell 1
  have hl_t2 := (ho_t2).lt
  obtain ⟨A_t2, c_t2, rfl, hnc_t2, hcm_t2, _⟩ := own_form ho_t2
  have hm_t2 : zs0.length ≤ maxLen := Nat.le_trans hnc_t2 hcm_t2
  go_wp2_with fail
  refine (lawRec.eqB _ _ _ _ _ _ _ hm_x0 hm_t2 (own_rd ho_x0) (own_rd ho_t2)).mono ?_
  rintro e w_11 ⟨rfl, hb_w_11⟩
  have hs_w_11 := (hb_w_11).size
  replace hbW := below_step hbW hb_w_11
  replace ho_w0 := own_below ho_w0 hb_w_11
  replace ho_x0 := own_below ho_x0 hb_w_11
  replace ho_g0 := own_below ho_g0 hb_w_11
  replace ho_t2 := own_below ho_t2 hb_w_11
  replace hBx_aR := hBx_aR.below hb_w_11 hBx_aR.lt
  replace hbc_aR_0 : w_11.cell? ⟨W.heap.size, 0, none⟩ = some (.int .i64 x2) := hBx_aR.cell 0
  replace hbc_aR_1 : w_11.cell? ⟨W.heap.size, 1, none⟩ = some (.int .i64 y2) := hBx_aR.cell 1
  go_wp2_with fail
  refine (lawRec.mark_any _ _ _ _ _ _ _ (by omega) (by omega) ho_x0).mono ?_
  rintro e w_12 ⟨rfl, hq_w_12, hg_w_12⟩
  have hs_w_12 := hg_w_12.size
  replace ho_w0 := ho_w0.kept hg_w_12 (sep hl_w0 hl_x0 (by omega))
  replace ho_g0 := ho_g0.kept hg_w_12 (sep hl_g0 hl_x0 (by omega))
  replace ho_t2 := ho_t2.kept hg_w_12 (sep hl_t2 hl_x0 (by omega))
  replace ho_x0 := hq_w_12
  clear hq_w_12
  replace hbW := below_grown hbW hbW.size hg_w_12 (fun k hk => by have := hl_x0 k hk; omega)
  replace hBx_aR := hBx_aR.grown hg_w_12 (fun e => by have := hl_x0 _ e.symm; omega)
  replace hbc_aR_0 : w_12.cell? ⟨W.heap.size, 0, none⟩ = some (.int .i64 x2) := hBx_aR.cell 0
  replace hbc_aR_1 : w_12.cell? ⟨W.heap.size, 1, none⟩ = some (.int .i64 y2) := hBx_aR.cell 1
  go_wp2_with fail
  refine (lawRec.eqB _ _ _ _ _ _ _ hm_g0 hm_w0 (own_rd ho_g0) (own_rd ho_w0)).mono ?_
  rintro e w_13 ⟨rfl, hb_w_13⟩
  have hs_w_13 := (hb_w_13).size
  replace hbW := below_step hbW hb_w_13
  replace ho_w0 := own_below ho_w0 hb_w_13
  replace ho_x0 := own_below ho_x0 hb_w_13
  replace ho_g0 := own_below ho_g0 hb_w_13
  replace ho_t2 := own_below ho_t2 hb_w_13
  replace hBx_aR := hBx_aR.below hb_w_13 hBx_aR.lt
  replace hbc_aR_0 : w_13.cell? ⟨W.heap.size, 0, none⟩ = some (.int .i64 x2) := hBx_aR.cell 0
  replace hbc_aR_1 : w_13.cell? ⟨W.heap.size, 1, none⟩ = some (.int .i64 y2) := hBx_aR.cell 1
  go_wp2_with fail
  refine (lawRec.mark_any _ _ _ _ _ _ _ (by omega) (by omega) ho_g0).mono ?_
  rintro e w_14 ⟨rfl, hq_w_14, hg_w_14⟩
  have hs_w_14 := hg_w_14.size
  replace ho_w0 := ho_w0.kept hg_w_14 (sep hl_w0 hl_g0 (by omega))
  replace ho_x0 := ho_x0.kept hg_w_14 (sep hl_x0 hl_g0 (by omega))
  replace ho_t2 := ho_t2.kept hg_w_14 (sep hl_t2 hl_g0 (by omega))
  replace ho_g0 := hq_w_14
  clear hq_w_14
  replace hbW := below_grown hbW hbW.size hg_w_14 (fun k hk => by have := hl_g0 k hk; omega)
  replace hBx_aR := hBx_aR.grown hg_w_14 (fun e => by have := hl_g0 _ e.symm; omega)
  replace hbc_aR_0 : w_14.cell? ⟨W.heap.size, 0, none⟩ = some (.int .i64 x2) := hBx_aR.cell 0
  replace hbc_aR_1 : w_14.cell? ⟨W.heap.size, 1, none⟩ = some (.int .i64 y2) := hBx_aR.cell 1
  go_wp2_with fail
  refine (lawRec.held_any _ _ _ _ _ (by omega) (by omega) (own_rd ho_g0)).mono ?_
  rintro e w_15 ⟨rfl, rfl⟩
  go_wp2_with fail
  have HKC18 := Lib.hid (fun (w' : World) (h : Below w_14.heap.size w_14 w') => And.intro (cells_below h hbc_aR_0) (cells_below h hbc_aR_1))
  have HTA18 := Lib.hid (lawRec.to_any A0 c0 zs0 w_14.drew hk0 (hr0.below (below_drewN hbW 1)))
  go_region_held3 (fun w' => w'.cell? ⟨W.heap.size, 0, none⟩ = some (.int .i64 x2) ∧ w'.cell? ⟨W.heap.size, 1, none⟩ = some (.int .i64 y2)) (first | exact HKC18.out _ hq_c18 | exact HKC18.out _ hq_b18 | exact HKC18.out _ hq_a18 | go_keep) (first
    | (go_at_call 27; (with_reducible refine HTA18.out.mono ?_); rintro e w_16 ⟨v_a18, rfl, ho_a18, hb_a18⟩; obtain ⟨A_a18, c_a18, rfl, hnc_a18, hcm_a18, _⟩ := own_form ho_a18; have hq_a18 : Below w_14.heap.size w_14 w_16 := ⟨hb_a18.os, hb_a18.tape, hb_a18.output, hb_a18.size, hb_a18.block⟩)
    | (go_at_call 33; (with_reducible refine (lawRec.to_one _ _ _).mono ?_); rintro e w_17 ⟨rfl, hb_b18⟩; have hq_b18 : Below w_14.heap.size w_14 w_17 := below_step hq_a18 hb_b18)
    | (go_at_call 34; (with_reducible refine (tops.off_impl A_a18 c_a18 zs0 a1 x2 y2 _ hk0 (own_rd (own_below ho_a18 hb_b18))).mono ?_); rintro e w_18 ⟨v_h0, rfl, ⟨ho_h0, hk_h0⟩, hb_c18⟩; have hq_c18 : Below w_14.heap.size w_14 w_18 := below_step hq_b18 hb_c18))
  clear HKC18
  have hs_w_16 := hq_a18.size
  have hs_w_17 := hb_b18.size
  have hsz_w_18 := hb_c18.size
  have hs_w_18 := (hq_c18).size
  replace hbW := below_step hbW hq_c18
  replace ho_w0 := own_below ho_w0 hq_c18
  replace ho_x0 := own_below ho_x0 hq_c18
  replace ho_g0 := own_below ho_g0 hq_c18
  replace ho_t2 := own_below ho_t2 hq_c18
  replace hBx_aR := hBx_aR.below hq_c18 hBx_aR.lt
  replace hbc_aR_0 : w_18.cell? ⟨W.heap.size, 0, none⟩ = some (.int .i64 x2) := hBx_aR.cell 0
  replace hbc_aR_1 : w_18.cell? ⟨W.heap.size, 1, none⟩ = some (.int .i64 y2) := hBx_aR.cell 1
  have hl_h0 := (ho_h0).lt
  obtain ⟨A_h0, c_h0, rfl, hnc_h0, hcm_h0, _⟩ := own_form ho_h0
  have hm_h0 := Nat.le_trans hnc_h0 hcm_h0
  go_wp2_with fail
  refine (lawRec.eqB _ _ _ _ _ _ _ hm_h0 hm_w0 (own_rd ho_h0) (own_rd ho_w0)).mono ?_
  rintro e w_19 ⟨rfl, hb_w_19⟩
  have hs_w_19 := (hb_w_19).size
  replace hbW := below_step hbW hb_w_19
  replace ho_w0 := own_below ho_w0 hb_w_19
  replace ho_x0 := own_below ho_x0 hb_w_19
  replace ho_g0 := own_below ho_g0 hb_w_19
  replace ho_t2 := own_below ho_t2 hb_w_19
  replace ho_h0 := own_below ho_h0 hb_w_19
  replace hBx_aR := hBx_aR.below hb_w_19 hBx_aR.lt
  replace hbc_aR_0 : w_19.cell? ⟨W.heap.size, 0, none⟩ = some (.int .i64 x2) := hBx_aR.cell 0
  replace hbc_aR_1 : w_19.cell? ⟨W.heap.size, 1, none⟩ = some (.int .i64 y2) := hBx_aR.cell 1
  go_wp2_with fail
  refine (lawRec.held_any _ _ _ _ _ (by omega) (by omega) (own_rd ho_g0)).mono ?_
  rintro e w_20 ⟨rfl, rfl⟩
  go_wp2
  go_ret
  exact ⟨rfl, hbW⟩

theorem own : ownKnob Try.prog.godebug = none := by kernel_rfl
theorem laidOut : laidOutB Try.prog = true := by kernel_rfl
set_option maxRecDepth 100000 in
theorem lifted (os : Os) (started : os.Started) (H : Type) (enc : TypeId × Value → H) :
    ReturnsInHanded {} Try.checked os 6 .any (Rows.fnExactOfferTopSpec.pre6 enc Try.prog Try.f6 Rows.fnExactOfferTopRow.domain false) (Rows.fnExactOfferTopSpec.post enc Try.prog Try.f6 false true false false) := by
  refine returnsInHanded_of_change (C := Try.checked) own started (by kernel_rfl) Try.func6
    (ChangeSpec.witness6 (enc := enc) (C := Try.checked) false ⟨#[], #[.slice none 0 0, .int .i64 0, .agg #[.int .i64 0, .int .i64 0]], []⟩ 8 (by kernel_rfl) (by kernel_rfl) (by kernel_rfl) (by kernel_rfl)) ?_
  intro W base args ds gs before hval0 hW hcnd _
  have hval : ∀ (j : Nat) t v, Try.f6.params[j]? = some t → args[j]? = some v → Value.okWide Try.prog W .any base t v := hval0
  have hW' := hW
  have hlt : ∀ x ∈ before, x.block < W.heap.size := fun x hx => by simpa using hW.lt x hx
  obtain ⟨p, q, hA0, hV, rfl, hfz, hnd⟩ := hW
  have hA : DataW.TrodAll enc Try.prog W 0 (fun _ => true) true Try.f6.params.toList args.toList ds p := hA0
  rw [Try.params6] at hA hval
  obtain ⟨v0, vs0, d0, ds0, p0, q0, hargs, rfl, rfl, h0, r0⟩ := trodAll_cons hA
  obtain ⟨v1, vs1, d1, ds1, p1, q1, rfl, rfl, rfl, h1, r1⟩ := trodAll_cons r0
  obtain ⟨v2, vs2, d2, ds2, p2, q2, rfl, rfl, rfl, h2, r2⟩ := trodAll_cons r1
  obtain ⟨rfl, rfl, rfl⟩ := trodAll_nil r2
  obtain rfl : args = #[v0, v1, v2] := by cases args; simp_all
  obtain ⟨A0, n0, c0, zs0, rfl, w0⟩ := mem.open_rd_rec Try.underlying36 Try.underlying46 (by kernel_rfl) (fun j hj => match j, hj with | 0, _ => ⟨_, rfl, rfl, Try.underlying3, by kernel_rfl⟩ | 1, _ => ⟨_, rfl, rfl, Try.underlying3, by kernel_rfl⟩ | _ + 2, h => absurd h (by omega)) (hval 0 36 v0 rfl rfl) h0
  obtain ⟨a1, rfl, _, _, w1⟩ := open_int Try.underlying3 (hval 1 3 v1 rfl rfl) h1
  obtain ⟨x2, y2, rfl⟩ := mem.open_record Try.underlying46 (by kernel_rfl) (by kernel_rfl) Try.underlying3 Try.underlying3 (hval 2 46 v2 rfl rfl) h2
  refine (walk A0 n0 c0 zs0 a1 w1 x2 y2 W w0).mono fun e W' ⟨he, hg⟩ => ?_
  subst he
  exact ⟨_, rfl, frame.post_true laidOut hW' rfl (of_decide_eq_true (by kernel_rfl)) (by kernel_rfl) Try.underlying4 rfl rfl rfl hg⟩
theorem over : Rows.fnExactOfferTopRow.holds Try.pinned (OpenSpec.ofChange Rows.fnExactOfferTopSpec) :=
  OpenClaim.holds_of_wide 6 Try.f6 rfl rfl rfl rfl rfl rfl rfl ⟨rfl, rfl, rfl, rfl, rfl⟩ rfl rfl rfl rfl rfl (by kernel_rfl) Try.func6 (by kernel_rfl)
    (of_decide_eq_true (by kernel_rfl)) (by unfold Func.isWrapper; first | (rw [if_pos (by decide +kernel)]; kernel_rfl) | (rw [if_neg (by decide +kernel)]; exact ⟨rfl, rfl⟩))
    (fun os started H enc _ => lifted os started H enc)
/-- The statement. -/
theorem proved : Rows.FnExactOfferTopSaid :=
  over
end Go.Proofs.Ytgngoedooemboaa.fnExactOfferTop
