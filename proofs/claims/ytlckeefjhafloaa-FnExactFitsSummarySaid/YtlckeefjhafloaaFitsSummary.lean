/- FnExactFitsSummary: for all arguments the program's FitsSummary returns what the reference's returns, in memory of its own, and leaves its arguments as they were. No condition. -/
import Derived.Test.YtlckeefjhafloaaFrame
import Derived.Test.YtlckeefjhafloaaSmyFitS
import Derived.Test.YtlckeefjhafloaaLawInt
import Derived.Test.YtlckeefjhafloaaMemAt
import Derived.Test.YtlckeefjhafloaaLawSmy
import Derived.Test.YtlckeefjhafloaaOpenSmy
import Derived.Deep.RegionHeld3
set_option linter.unusedVariables false
set_option linter.unusedSimpArgs false
namespace Go.Proofs.Ytlckeefjhafloaa.fnExactFitsSummary
open Go.ChangeShapes Go.WideShapes Go.ChangeAt Go.RowKit Go.Proofs.Ytlckeefjhafloaa.mem
open Go.ChangeMaps (open_string shut_string)

set_option maxRecDepth 100000 in
set_option maxHeartbeats 2000000 in
theorem walk (p0 : Int) (A0 : Option Addr) (n0 c0 : Nat) (zs0 : List Rkv) (A1 : Option Addr) (n1 c1 : Nat) (zs1 : List Int) (W : World) (h0 : n0 = zs0.length ∧ n0 ≤ c0 ∧ c0 ≤ maxLen ∧ Rd W 3 A0 n0 (rkvs zs0) ∧ True) (h1 : n1 = zs1.length ∧ n1 ≤ c1 ∧ c1 ≤ maxLen ∧ Rd W 1 A1 n1 (ints zs1) ∧ (∀ z ∈ zs1, (Lit.int .i64 z).wf = true)) :
    Calls Try.prog 13 #[.agg #[.int .i64 p0, .slice A0 n0 c0], .slice A1 n1 c1] W fun e w' => e = .returned (.bool true) ∧ Below W.heap.size W w' := by
  obtain ⟨rfl, hnc0, hcm0, hr0, hx0⟩ := h0
  have HX0 := Lib.hid hx0
  clear hx0
  have hn0 : zs0.length ≤ maxLen := Nat.le_trans hnc0 hcm0
  obtain ⟨rfl, hnc1, hcm1, hr1, hx1⟩ := h1
  have HX1 := Lib.hid hx1
  clear hx1
  have hn1 : zs1.length ≤ maxLen := Nat.le_trans hnc1 hcm1
  have hbW : Below W.heap.size W W := Below.refl _ _
  have HBX := Lib.hid (fun (o : Obj) => (Below.refl W.heap.size W).alloc (Nat.le_refl _) o)
  go_enter Try.func13, Try.ntmps13
  by_cases hk1 : 1048576 < zs1.length
  · go_wp2
    go_ret
    exact ⟨rfl, HBX.out _⟩
  replace hk1 : zs1.length ≤ 1048576 := by omega
  go_wp2_with fail
  obtain ⟨w_1, hwb⟩ : ∃ x : World, x = (W.alloc (.cells #[.int .i64 p0, .slice A0 zs0.length c0] 41)) := ⟨_, rfl⟩
  rw [← hwb]
  have hb_w_1 : Below W.heap.size W w_1 := by rw [hwb]; exact (Below.refl _ _).alloc (Nat.le_refl _) _
  have hBx_aS : Blk w_1 (W.heap.size) 41 #[.int .i64 p0, .slice A0 zs0.length c0] := by rw [hwb]; exact Blk.new _ _ _
  have hlx_aS := hBx_aS.lt
  have hbc_aS_0 : w_1.cell? ⟨W.heap.size, 0, none⟩ = some (.int .i64 p0) := hBx_aS.cell 0
  have hbc_aS_1 : w_1.cell? ⟨W.heap.size, 1, none⟩ = some (.slice A0 zs0.length c0) := hBx_aS.cell 1
  clear hwb
  have hs_w_1 := (hb_w_1).size
  replace hbW := below_step hbW hb_w_1
  refine (lawSmy.sz_any A0 c0 zs0 (1048576) _ (by omega) (by omega) hn0 (hr0.below hbW)).mono ?_
  rintro e w_2 ⟨rfl, hb_w_2⟩
  have hs_w_2 := (hb_w_2).size
  replace hbW := below_step hbW hb_w_2
  replace hBx_aS := hBx_aS.below hb_w_2 hBx_aS.lt
  replace hbc_aS_0 : w_2.cell? ⟨W.heap.size, 0, none⟩ = some (.int .i64 p0) := hBx_aS.cell 0
  replace hbc_aS_1 : w_2.cell? ⟨W.heap.size, 1, none⟩ = some (.slice A0 zs0.length c0) := hBx_aS.cell 1
  by_cases hz0 : ¬ ((zs0.length : Nat) : Int) ≤ 1048576
  · rw [szv_neg hz0]
    go_wp2
    go_ret
    exact ⟨rfl, hbW⟩
  rw [Decidable.not_not] at hz0
  rw [szv_pos hz0]
  have hk0 : zs0.length ≤ 1048576 := by omega
  go_wp2_with fail
  refine (lawSmy.to_any A0 c0 zs0 _ hk0 (hr0.below hbW)).mono ?_
  rintro e w_3 ⟨v_t1, rfl, ho_t1, hb_w_3⟩
  have hs_w_3 := (hb_w_3).size
  replace hbW := below_step hbW hb_w_3
  replace hBx_aS := hBx_aS.below hb_w_3 hBx_aS.lt
  replace hbc_aS_0 : w_3.cell? ⟨W.heap.size, 0, none⟩ = some (.int .i64 p0) := hBx_aS.cell 0
  replace hbc_aS_1 : w_3.cell? ⟨W.heap.size, 1, none⟩ = some (.slice A0 zs0.length c0) := hBx_aS.cell 1
  have hl_t1 := (ho_t1).lt
  obtain ⟨A_t1, c_t1, rfl, hnc_t1, hcm_t1, _⟩ := own_form ho_t1
  have hm_t1 : zs0.length ≤ maxLen := Nat.le_trans hnc_t1 hcm_t1
  go_wp2_with fail
  refine (lawInt.to_any A1 c1 zs1 _ hk1 (hr1.below hbW)).mono ?_
  rintro e w_4 ⟨v_t2, rfl, ho_t2, hb_w_4⟩
  have hs_w_4 := (hb_w_4).size
  replace hbW := below_step hbW hb_w_4
  replace ho_t1 := own_below ho_t1 hb_w_4
  replace hBx_aS := hBx_aS.below hb_w_4 hBx_aS.lt
  replace hbc_aS_0 : w_4.cell? ⟨W.heap.size, 0, none⟩ = some (.int .i64 p0) := hBx_aS.cell 0
  replace hbc_aS_1 : w_4.cell? ⟨W.heap.size, 1, none⟩ = some (.slice A0 zs0.length c0) := hBx_aS.cell 1
  have hl_t2 := (ho_t2).lt
  obtain ⟨A_t2, c_t2, rfl, hnc_t2, hcm_t2, _⟩ := own_form ho_t2
  have hm_t2 : zs1.length ≤ maxLen := Nat.le_trans hnc_t2 hcm_t2
  go_wp2_with fail
  refine (smyFit.spec_any A_t1 c_t1 zs0 A_t2 c_t2 zs1 _ hk0 (own_rd ho_t1) hk1 (own_rd ho_t2)).mono ?_
  rintro e w_5 ⟨rfl, hb_w_5⟩
  have hs_w_5 := (hb_w_5).size
  replace hbW := below_step hbW hb_w_5
  replace ho_t1 := own_below ho_t1 hb_w_5
  replace ho_t2 := own_below ho_t2 hb_w_5
  replace hBx_aS := hBx_aS.below hb_w_5 hBx_aS.lt
  replace hbc_aS_0 : w_5.cell? ⟨W.heap.size, 0, none⟩ = some (.int .i64 p0) := hBx_aS.cell 0
  replace hbc_aS_1 : w_5.cell? ⟨W.heap.size, 1, none⟩ = some (.slice A0 zs0.length c0) := hBx_aS.cell 1
  go_wp2_with fail
  refine (lawSmy.to_any A0 c0 zs0 _ hk0 (hr0.below hbW)).mono ?_
  rintro e w_6 ⟨v_t3, rfl, ho_t3, hb_w_6⟩
  have hs_w_6 := (hb_w_6).size
  replace hbW := below_step hbW hb_w_6
  replace ho_t1 := own_below ho_t1 hb_w_6
  replace ho_t2 := own_below ho_t2 hb_w_6
  replace hBx_aS := hBx_aS.below hb_w_6 hBx_aS.lt
  replace hbc_aS_0 : w_6.cell? ⟨W.heap.size, 0, none⟩ = some (.int .i64 p0) := hBx_aS.cell 0
  replace hbc_aS_1 : w_6.cell? ⟨W.heap.size, 1, none⟩ = some (.slice A0 zs0.length c0) := hBx_aS.cell 1
  have hl_t3 := (ho_t3).lt
  obtain ⟨A_t3, c_t3, rfl, hnc_t3, hcm_t3, _⟩ := own_form ho_t3
  have hm_t3 : zs0.length ≤ maxLen := Nat.le_trans hnc_t3 hcm_t3
  have ho_x0 := ho_t3
  have hl_x0 := hl_t3
  have hm_x0 := hm_t3
  clear ho_t3 hl_t3 hm_t3
  have hbz_aS_0 := fun (o : Obj) => cells_below (w' := w_6.alloc o) ((Below.refl _ _).alloc (Nat.le_refl _) o) hbc_aS_0
  have hbz_aS_1 := fun (o : Obj) => cells_below (w' := w_6.alloc o) ((Below.refl _ _).alloc (Nat.le_refl _) o) hbc_aS_1
  go_wp2_with fail
  clear hbz_aS_0 hbz_aS_1
  obtain ⟨w_8, hwb⟩ : ∃ x : World, x = (w_6.alloc (.cells #[.int .i64 p0, .slice A_t3 zs0.length c_t3] 29)) := ⟨_, rfl⟩
  rw [← hwb]
  have hb_w_8 : Below w_6.heap.size w_6 w_8 := by rw [hwb]; exact (Below.refl _ _).alloc (Nat.le_refl _) _
  have hBx_x0 : Blk w_8 (w_6.heap.size) 29 #[.int .i64 p0, .slice A_t3 zs0.length c_t3] := by rw [hwb]; exact Blk.new _ _ _
  have hlx_x0 := hBx_x0.lt
  have hbc_x0_0 : w_8.cell? ⟨w_6.heap.size, 0, none⟩ = some (.int .i64 p0) := hBx_x0.cell 0
  have hbc_x0_1 : w_8.cell? ⟨w_6.heap.size, 1, none⟩ = some (.slice A_t3 zs0.length c_t3) := hBx_x0.cell 1
  clear hwb
  have hs_w_8 := (hb_w_8).size
  replace hbW := below_step hbW hb_w_8
  replace ho_t1 := own_below ho_t1 hb_w_8
  replace ho_t2 := own_below ho_t2 hb_w_8
  replace ho_x0 := own_below ho_x0 hb_w_8
  replace hBx_aS := hBx_aS.below hb_w_8 hBx_aS.lt
  replace hbc_aS_0 : w_8.cell? ⟨W.heap.size, 0, none⟩ = some (.int .i64 p0) := hBx_aS.cell 0
  replace hbc_aS_1 : w_8.cell? ⟨W.heap.size, 1, none⟩ = some (.slice A0 zs0.length c0) := hBx_aS.cell 1
  refine (lawInt.to_any A1 c1 zs1 _ hk1 (hr1.below hbW)).mono ?_
  rintro e w_7 ⟨v_t4, rfl, ho_t4, hb_w_7⟩
  have hs_w_7 := (hb_w_7).size
  replace hbW := below_step hbW hb_w_7
  replace ho_t1 := own_below ho_t1 hb_w_7
  replace ho_t2 := own_below ho_t2 hb_w_7
  replace ho_x0 := own_below ho_x0 hb_w_7
  replace hBx_aS := hBx_aS.below hb_w_7 hBx_aS.lt
  replace hbc_aS_0 : w_7.cell? ⟨W.heap.size, 0, none⟩ = some (.int .i64 p0) := hBx_aS.cell 0
  replace hbc_aS_1 : w_7.cell? ⟨W.heap.size, 1, none⟩ = some (.slice A0 zs0.length c0) := hBx_aS.cell 1
  replace hBx_x0 := hBx_x0.below hb_w_7 hBx_x0.lt
  replace hbc_x0_0 : w_7.cell? ⟨w_6.heap.size, 0, none⟩ = some (.int .i64 p0) := hBx_x0.cell 0
  replace hbc_x0_1 : w_7.cell? ⟨w_6.heap.size, 1, none⟩ = some (.slice A_t3 zs0.length c_t3) := hBx_x0.cell 1
  have hl_t4 := (ho_t4).lt
  obtain ⟨A_t4, c_t4, rfl, hnc_t4, hcm_t4, _⟩ := own_form ho_t4
  have hm_t4 : zs1.length ≤ maxLen := Nat.le_trans hnc_t4 hcm_t4
  have ho_x1 := ho_t4
  have hl_x1 := hl_t4
  have hm_x1 := hm_t4
  clear ho_t4 hl_t4 hm_t4
  go_wp2_with fail
  refine (smyFit.impl_any A_t3 c_t3 zs0 A_t4 c_t4 zs1 _ hk0 (own_rd ho_x0) hk1 (own_rd ho_x1)).mono ?_
  rintro e w_9 ⟨rfl, hb_w_9⟩
  have hs_w_9 := (hb_w_9).size
  replace hbW := below_step hbW hb_w_9
  replace ho_t1 := own_below ho_t1 hb_w_9
  replace ho_t2 := own_below ho_t2 hb_w_9
  replace ho_x0 := own_below ho_x0 hb_w_9
  replace ho_x1 := own_below ho_x1 hb_w_9
  replace hBx_aS := hBx_aS.below hb_w_9 hBx_aS.lt
  replace hbc_aS_0 : w_9.cell? ⟨W.heap.size, 0, none⟩ = some (.int .i64 p0) := hBx_aS.cell 0
  replace hbc_aS_1 : w_9.cell? ⟨W.heap.size, 1, none⟩ = some (.slice A0 zs0.length c0) := hBx_aS.cell 1
  replace hBx_x0 := hBx_x0.below hb_w_9 hBx_x0.lt
  replace hbc_x0_0 : w_9.cell? ⟨w_6.heap.size, 0, none⟩ = some (.int .i64 p0) := hBx_x0.cell 0
  replace hbc_x0_1 : w_9.cell? ⟨w_6.heap.size, 1, none⟩ = some (.slice A_t3 zs0.length c_t3) := hBx_x0.cell 1
  go_wp2_with fail
  have HKC := Lib.hid (fun (w' : World) (h : Below w_9.heap.size w_9 w') => And.intro (cells_below h hbc_aS_0) ( And.intro (cells_below h hbc_aS_1) ( And.intro (cells_below h hbc_x0_0) (cells_below h hbc_x0_1))))
  go_region_held3 (fun w' => w'.cell? ⟨W.heap.size, 0, none⟩ = some (.int .i64 p0) ∧ w'.cell? ⟨W.heap.size, 1, none⟩ = some (.slice A0 zs0.length c0) ∧ w'.cell? ⟨w_6.heap.size, 0, none⟩ = some (.int .i64 p0) ∧ w'.cell? ⟨w_6.heap.size, 1, none⟩ = some (.slice A_t3 zs0.length c_t3)) (first | exact HKC.out _ hq_b | exact HKC.out _ hq_a | go_keep) (first
    | (go_at_call 27; refine (lawSmy.to_any A0 c0 zs0 _ hk0 (by exact hr0.below (below_drewN hbW 1))).mono ?_; rintro e w_10 ⟨v_a, rfl, ho_a, hb_a⟩; obtain ⟨A_a, c_a, rfl, hnc_a, hcm_a, _⟩ := own_form ho_a; have hq_a : Below w_9.heap.size w_9 w_10 := ⟨hb_a.os, hb_a.tape, hb_a.output, hb_a.size, hb_a.block⟩)
    | (go_at_call 28; refine (lawSmy.eqB _ _ _ _ _ _ _ hm_x0 (Nat.le_trans hnc_a hcm_a) (by exact (own_rd ho_x0).below hq_a) (by exact own_rd ho_a)).mono ?_; rintro e w_11 ⟨rfl, hb_b⟩; have hq_b : Below w_9.heap.size w_9 w_11 := below_step hq_a hb_b))
  clear HKC
  have hs_w_11 := (hq_b).size
  replace hbW := below_step hbW hq_b
  replace ho_t1 := own_below ho_t1 hq_b
  replace ho_t2 := own_below ho_t2 hq_b
  replace ho_x0 := own_below ho_x0 hq_b
  replace ho_x1 := own_below ho_x1 hq_b
  replace hBx_aS := hBx_aS.below hq_b hBx_aS.lt
  replace hbc_aS_0 : w_11.cell? ⟨W.heap.size, 0, none⟩ = some (.int .i64 p0) := hBx_aS.cell 0
  replace hbc_aS_1 : w_11.cell? ⟨W.heap.size, 1, none⟩ = some (.slice A0 zs0.length c0) := hBx_aS.cell 1
  replace hBx_x0 := hBx_x0.below hq_b hBx_x0.lt
  replace hbc_x0_0 : w_11.cell? ⟨w_6.heap.size, 0, none⟩ = some (.int .i64 p0) := hBx_x0.cell 0
  replace hbc_x0_1 : w_11.cell? ⟨w_6.heap.size, 1, none⟩ = some (.slice A_t3 zs0.length c_t3) := hBx_x0.cell 1
  go_wp2_with fail
  refine (lawInt.to_any A1 c1 zs1 _ hk1 (hr1.below hbW)).mono ?_
  rintro e w_12 ⟨v_t5, rfl, ho_t5, hb_w_12⟩
  have hs_w_12 := (hb_w_12).size
  replace hbW := below_step hbW hb_w_12
  replace ho_t1 := own_below ho_t1 hb_w_12
  replace ho_t2 := own_below ho_t2 hb_w_12
  replace ho_x0 := own_below ho_x0 hb_w_12
  replace ho_x1 := own_below ho_x1 hb_w_12
  replace hBx_aS := hBx_aS.below hb_w_12 hBx_aS.lt
  replace hbc_aS_0 : w_12.cell? ⟨W.heap.size, 0, none⟩ = some (.int .i64 p0) := hBx_aS.cell 0
  replace hbc_aS_1 : w_12.cell? ⟨W.heap.size, 1, none⟩ = some (.slice A0 zs0.length c0) := hBx_aS.cell 1
  replace hBx_x0 := hBx_x0.below hb_w_12 hBx_x0.lt
  replace hbc_x0_0 : w_12.cell? ⟨w_6.heap.size, 0, none⟩ = some (.int .i64 p0) := hBx_x0.cell 0
  replace hbc_x0_1 : w_12.cell? ⟨w_6.heap.size, 1, none⟩ = some (.slice A_t3 zs0.length c_t3) := hBx_x0.cell 1
  have hl_t5 := (ho_t5).lt
  obtain ⟨A_t5, c_t5, rfl, hnc_t5, hcm_t5, _⟩ := own_form ho_t5
  have hm_t5 : zs1.length ≤ maxLen := Nat.le_trans hnc_t5 hcm_t5
  go_wp2_with fail
  refine (lawInt.eqB _ _ _ _ _ _ _ hm_x1 hm_t5 (own_rd ho_x1) (own_rd ho_t5)).mono ?_
  rintro e w_13 ⟨rfl, hb_w_13⟩
  have hs_w_13 := (hb_w_13).size
  replace hbW := below_step hbW hb_w_13
  replace ho_t1 := own_below ho_t1 hb_w_13
  replace ho_t2 := own_below ho_t2 hb_w_13
  replace ho_x0 := own_below ho_x0 hb_w_13
  replace ho_x1 := own_below ho_x1 hb_w_13
  replace ho_t5 := own_below ho_t5 hb_w_13
  replace hBx_aS := hBx_aS.below hb_w_13 hBx_aS.lt
  replace hbc_aS_0 : w_13.cell? ⟨W.heap.size, 0, none⟩ = some (.int .i64 p0) := hBx_aS.cell 0
  replace hbc_aS_1 : w_13.cell? ⟨W.heap.size, 1, none⟩ = some (.slice A0 zs0.length c0) := hBx_aS.cell 1
  replace hBx_x0 := hBx_x0.below hb_w_13 hBx_x0.lt
  replace hbc_x0_0 : w_13.cell? ⟨w_6.heap.size, 0, none⟩ = some (.int .i64 p0) := hBx_x0.cell 0
  replace hbc_x0_1 : w_13.cell? ⟨w_6.heap.size, 1, none⟩ = some (.slice A_t3 zs0.length c_t3) := hBx_x0.cell 1
  go_wp2
  go_ret
  exact ⟨rfl, hbW⟩

theorem own : ownKnob Try.prog.godebug = none := by kernel_rfl
theorem laidOut : laidOutB Try.prog = true := by kernel_rfl
set_option maxRecDepth 100000 in
theorem lifted (os : Os) (started : os.Started) (H : Type) (enc : TypeId × Value → H) :
    ReturnsInHanded {} Try.checked os 13 .any (Rows.fnExactFitsSummarySpec.pre6 enc Try.prog Try.f13 Rows.fnExactFitsSummaryRow.domain false) (Rows.fnExactFitsSummarySpec.post enc Try.prog Try.f13 false true false false) := by
  refine returnsInHanded_of_change (C := Try.checked) own started (by kernel_rfl) Try.func13
    (ChangeSpec.witness6 (enc := enc) (C := Try.checked) false ⟨#[], #[.agg #[.int .i64 0, .slice none 0 0], .slice none 0 0], []⟩ 8 (by kernel_rfl) (by kernel_rfl) (by kernel_rfl) (by kernel_rfl)) ?_
  intro W base args ds gs before hval0 hW hcnd _
  have hval : ∀ (j : Nat) t v, Try.f13.params[j]? = some t → args[j]? = some v → Value.okWide Try.prog W .any base t v := hval0
  have hW' := hW
  have hlt : ∀ x ∈ before, x.block < W.heap.size := fun x hx => by simpa using hW.lt x hx
  obtain ⟨p, q, hA0, hV, rfl, hfz, hnd⟩ := hW
  have hA : DataW.TrodAll enc Try.prog W 0 (fun _ => true) true Try.f13.params.toList args.toList ds p := hA0
  rw [Try.params13] at hA hval
  obtain ⟨v0, vs0, d0, ds0, p0, q0, hargs, rfl, rfl, h0, r0⟩ := trodAll_cons hA
  obtain ⟨v1, vs1, d1, ds1, p1, q1, rfl, rfl, rfl, h1, r1⟩ := trodAll_cons r0
  obtain ⟨rfl, rfl, rfl⟩ := trodAll_nil r1
  obtain rfl : args = #[v0, v1] := by cases args; simp_all
  obtain ⟨p0, A0, n0, c0, zs0, rfl, w0⟩ := mem.open_summary Try.underlying41 (by kernel_rfl) (by kernel_rfl) Try.underlying3 Try.underlying39 Try.underlying100 (by kernel_rfl) (fun j hj => match j, hj with | 0, _ => ⟨_, rfl, rfl, Try.underlying3, by kernel_rfl⟩ | 1, _ => ⟨_, rfl, rfl, Try.underlying3, by kernel_rfl⟩ | 2, _ => ⟨_, rfl, rfl, Try.underlying3, by kernel_rfl⟩ | _ + 3, h => absurd h (by omega)) (hval 0 41 v0 rfl rfl) h0
  obtain ⟨A1, n1, c1, zs1, rfl, w1⟩ := mem.open_rd_ints Try.underlying24 Try.underlying3 (by kernel_rfl) (hval 1 24 v1 rfl rfl) h1
  refine (walk p0 A0 n0 c0 zs0 A1 n1 c1 zs1 W w0 w1).mono fun e W' ⟨he, hg⟩ => ?_
  subst he
  exact ⟨_, rfl, frame.post_true laidOut hW' rfl (of_decide_eq_true (by kernel_rfl)) (by kernel_rfl) Try.underlying4 rfl rfl rfl hg⟩
theorem over : Rows.fnExactFitsSummaryRow.holds Try.pinned (OpenSpec.ofChange Rows.fnExactFitsSummarySpec) :=
  OpenClaim.holds_of_wide 13 Try.f13 rfl rfl rfl rfl rfl rfl rfl ⟨rfl, rfl, rfl, rfl, rfl⟩ rfl rfl rfl rfl rfl (by kernel_rfl) Try.func13 (by kernel_rfl)
    (of_decide_eq_true (by kernel_rfl)) (by unfold Func.isWrapper; first | (rw [if_pos (by decide +kernel)]; kernel_rfl) | (rw [if_neg (by decide +kernel)]; exact ⟨rfl, rfl⟩))
    (fun os started H enc _ => lifted os started H enc)
/-- The statement. -/
theorem proved : Rows.FnExactFitsSummarySaid :=
  over
end Go.Proofs.Ytlckeefjhafloaa.fnExactFitsSummary
