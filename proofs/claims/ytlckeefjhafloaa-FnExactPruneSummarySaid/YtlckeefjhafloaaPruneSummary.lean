/- FnExactPruneSummary: for all arguments the program's PruneSummary returns what the reference's returns, in memory of its own, and leaves its arguments as they were. No condition. -/
import Derived.Test.YtlckeefjhafloaaFrame
import Derived.Test.YtlckeefjhafloaaMemAt
import Derived.Test.YtlckeefjhafloaaLawSmy
import Derived.Test.YtlckeefjhafloaaSmyPrS
import Derived.Test.YtlckeefjhafloaaOpenSmy
import Derived.Deep.RegionHeld3
set_option linter.unusedVariables false
set_option linter.unusedSimpArgs false
namespace Go.Proofs.Ytlckeefjhafloaa.fnExactPruneSummary
open Go.ChangeShapes Go.WideShapes Go.ChangeAt Go.RowKit Go.Proofs.Ytlckeefjhafloaa.mem
open Go.ChangeMaps (open_string shut_string)

set_option maxRecDepth 100000 in
set_option maxHeartbeats 2000000 in
theorem walk (p0 : Int) (A0 : Option Addr) (n0 c0 : Nat) (zs0 : List Rkv) (a1 : Int) (w1 : (Lit.int .i64 a1).wf = true) (W : World) (h0 : n0 = zs0.length ∧ n0 ≤ c0 ∧ c0 ≤ maxLen ∧ Rd W 3 A0 n0 (rkvs zs0) ∧ True) :
    Calls Try.prog 9 #[.agg #[.int .i64 p0, .slice A0 n0 c0], .int .i64 a1] W fun e w' => e = .returned (.bool true) ∧ Below W.heap.size W w' := by
  obtain ⟨rfl, hnc0, hcm0, hr0, hx0⟩ := h0
  have HX0 := Lib.hid hx0
  clear hx0
  have hn0 : zs0.length ≤ maxLen := Nat.le_trans hnc0 hcm0
  have hbW : Below W.heap.size W W := Below.refl _ _
  have HBX := Lib.hid (fun (o : Obj) => (Below.refl W.heap.size W).alloc (Nat.le_refl _) o)
  go_enter Try.func9, Try.ntmps9
  go_wp2_with fail
  obtain ⟨w_1, hwb⟩ : ∃ x : World, x = (W.alloc (.cells #[.int .i64 p0, .slice A0 zs0.length c0] 41)) := ⟨_, rfl⟩
  rw [← hwb]
  have hb_w_1 : Below W.heap.size W w_1 := by rw [hwb]; exact (Below.refl _ _).alloc (Nat.le_refl _) _
  have hBx_aS : Blk w_1 (W.heap.size) 41 #[.int .i64 p0, .slice A0 zs0.length c0] := by rw [hwb]; exact Blk.new _ _ _
  have hlx_aS := hBx_aS.lt
  have hbc_aS_0 : w_1.cell? ⟨W.heap.size, 0, none⟩ = some (.int .i64 p0) := hBx_aS.cell 0
  have hbc_aS_1 : w_1.cell? ⟨W.heap.size, 1, none⟩ = some (.slice A0 zs0.length c0) := hBx_aS.cell 1
  clear hwb
  have hs_w_1 := (hb_w_1).size
  replace hbW := below_step hbW hb_w_1
  refine (lawSmy.sz_any A0 c0 zs0 (1048576) _ (by omega) (by omega) hn0 (hr0.below hbW)).mono ?_
  rintro e w_2 ⟨rfl, hb_w_2⟩
  have hs_w_2 := (hb_w_2).size
  replace hbW := below_step hbW hb_w_2
  replace hBx_aS := hBx_aS.below hb_w_2 hBx_aS.lt
  replace hbc_aS_0 : w_2.cell? ⟨W.heap.size, 0, none⟩ = some (.int .i64 p0) := hBx_aS.cell 0
  replace hbc_aS_1 : w_2.cell? ⟨W.heap.size, 1, none⟩ = some (.slice A0 zs0.length c0) := hBx_aS.cell 1
  by_cases hz0 : ¬ ((zs0.length : Nat) : Int) ≤ 1048576
  · rw [szv_neg hz0]
    go_wp2
    go_ret
    exact ⟨rfl, hbW⟩
  rw [Decidable.not_not] at hz0
  rw [szv_pos hz0]
  have hk0 : zs0.length ≤ 1048576 := by omega
  go_wp2_with fail
  refine (lawSmy.to_any A0 c0 zs0 _ hk0 (hr0.below hbW)).mono ?_
  rintro e w_3 ⟨v_t1, rfl, ho_t1, hb_w_3⟩
  have hs_w_3 := (hb_w_3).size
  replace hbW := below_step hbW hb_w_3
  replace hBx_aS := hBx_aS.below hb_w_3 hBx_aS.lt
  replace hbc_aS_0 : w_3.cell? ⟨W.heap.size, 0, none⟩ = some (.int .i64 p0) := hBx_aS.cell 0
  replace hbc_aS_1 : w_3.cell? ⟨W.heap.size, 1, none⟩ = some (.slice A0 zs0.length c0) := hBx_aS.cell 1
  have hl_t1 := (ho_t1).lt
  obtain ⟨A_t1, c_t1, rfl, hnc_t1, hcm_t1, _⟩ := own_form ho_t1
  have hm_t1 : zs0.length ≤ maxLen := Nat.le_trans hnc_t1 hcm_t1
  go_wp2_with fail
  refine (smyPr.spec_any A_t1 c_t1 zs0 a1 _ hk0 (own_rd ho_t1)).mono ?_
  rintro e w_4 ⟨v_w0, n_w0, rfl, hn_w0, ⟨ho_w0, hk_w0⟩, hb_w_4⟩
  have HN_w0 := Lib.hid hn_w0
  clear hn_w0
  have hs_w_4 := (hb_w_4).size
  replace hbW := below_step hbW hb_w_4
  replace ho_t1 := own_below ho_t1 hb_w_4
  replace hBx_aS := hBx_aS.below hb_w_4 hBx_aS.lt
  replace hbc_aS_0 : w_4.cell? ⟨W.heap.size, 0, none⟩ = some (.int .i64 p0) := hBx_aS.cell 0
  replace hbc_aS_1 : w_4.cell? ⟨W.heap.size, 1, none⟩ = some (.slice A0 zs0.length c0) := hBx_aS.cell 1
  have hl_w0 := (ho_w0).lt
  obtain ⟨A_w0, c_w0, rfl, hnc_w0, hcm_w0, _⟩ := own_form ho_w0
  have hm_w0 := Nat.le_trans hnc_w0 hcm_w0
  have hbz_aS_0 := fun (o : Obj) => cells_below (w' := w_4.alloc o) ((Below.refl _ _).alloc (Nat.le_refl _) o) hbc_aS_0
  have hbz_aS_1 := fun (o : Obj) => cells_below (w' := w_4.alloc o) ((Below.refl _ _).alloc (Nat.le_refl _) o) hbc_aS_1
  go_wp2_with fail
  clear hbz_aS_0 hbz_aS_1
  obtain ⟨w_6, hwb, hBx_w0⟩ := box_of ho_w0 w_4 (.int .i64 n_w0) 29
  rw [← hwb]
  have hb_w_6 : Below w_4.heap.size w_4 w_6 := by rw [hwb]; exact (Below.refl _ _).alloc (Nat.le_refl _) _
  have hlx_w0 := hBx_w0.lt
  have hbc_w0_0 : w_6.cell? ⟨w_4.heap.size, 0, none⟩ = some (.int .i64 n_w0) := hBx_w0.cell 0
  have hbc_w0_1 : w_6.cell? ⟨w_4.heap.size, 1, none⟩ = some (.slice A_w0 _ c_w0) := hBx_w0.cell 1
  clear hwb
  have hs_w_6 := (hb_w_6).size
  replace hbW := below_step hbW hb_w_6
  replace ho_t1 := own_below ho_t1 hb_w_6
  replace ho_w0 := own_below ho_w0 hb_w_6
  replace hBx_aS := hBx_aS.below hb_w_6 hBx_aS.lt
  replace hbc_aS_0 : w_6.cell? ⟨W.heap.size, 0, none⟩ = some (.int .i64 p0) := hBx_aS.cell 0
  replace hbc_aS_1 : w_6.cell? ⟨W.heap.size, 1, none⟩ = some (.slice A0 zs0.length c0) := hBx_aS.cell 1
  refine (lawSmy.to_any A0 c0 zs0 _ hk0 (hr0.below hbW)).mono ?_
  rintro e w_5 ⟨v_t2, rfl, ho_t2, hb_w_5⟩
  have hs_w_5 := (hb_w_5).size
  replace hbW := below_step hbW hb_w_5
  replace ho_t1 := own_below ho_t1 hb_w_5
  replace ho_w0 := own_below ho_w0 hb_w_5
  replace hBx_aS := hBx_aS.below hb_w_5 hBx_aS.lt
  replace hbc_aS_0 : w_5.cell? ⟨W.heap.size, 0, none⟩ = some (.int .i64 p0) := hBx_aS.cell 0
  replace hbc_aS_1 : w_5.cell? ⟨W.heap.size, 1, none⟩ = some (.slice A0 zs0.length c0) := hBx_aS.cell 1
  replace hBx_w0 := hBx_w0.below hb_w_5 hBx_w0.lt
  replace hbc_w0_0 : w_5.cell? ⟨w_4.heap.size, 0, none⟩ = some (.int .i64 n_w0) := hBx_w0.cell 0
  replace hbc_w0_1 : w_5.cell? ⟨w_4.heap.size, 1, none⟩ = some (.slice A_w0 _ c_w0) := hBx_w0.cell 1
  have hl_t2 := (ho_t2).lt
  obtain ⟨A_t2, c_t2, rfl, hnc_t2, hcm_t2, _⟩ := own_form ho_t2
  have hm_t2 : zs0.length ≤ maxLen := Nat.le_trans hnc_t2 hcm_t2
  have ho_x0 := ho_t2
  have hl_x0 := hl_t2
  have hm_x0 := hm_t2
  clear ho_t2 hl_t2 hm_t2
  have hbz_aS_0 := fun (o : Obj) => cells_below (w' := w_5.alloc o) ((Below.refl _ _).alloc (Nat.le_refl _) o) hbc_aS_0
  have hbz_aS_1 := fun (o : Obj) => cells_below (w' := w_5.alloc o) ((Below.refl _ _).alloc (Nat.le_refl _) o) hbc_aS_1
  have hbz_w0_0 := fun (o : Obj) => cells_below (w' := w_5.alloc o) ((Below.refl _ _).alloc (Nat.le_refl _) o) hbc_w0_0
  have hbz_w0_1 := fun (o : Obj) => cells_below (w' := w_5.alloc o) ((Below.refl _ _).alloc (Nat.le_refl _) o) hbc_w0_1
  go_wp2_with fail
  clear hbz_aS_0 hbz_aS_1 hbz_w0_0 hbz_w0_1
  obtain ⟨w_7, hwb⟩ : ∃ x : World, x = (w_5.alloc (.cells #[.int .i64 p0, .slice A_t2 zs0.length c_t2] 29)) := ⟨_, rfl⟩
  rw [← hwb]
  have hb_w_7 : Below w_5.heap.size w_5 w_7 := by rw [hwb]; exact (Below.refl _ _).alloc (Nat.le_refl _) _
  have hBx_x0 : Blk w_7 (w_5.heap.size) 29 #[.int .i64 p0, .slice A_t2 zs0.length c_t2] := by rw [hwb]; exact Blk.new _ _ _
  have hlx_x0 := hBx_x0.lt
  have hbc_x0_0 : w_7.cell? ⟨w_5.heap.size, 0, none⟩ = some (.int .i64 p0) := hBx_x0.cell 0
  have hbc_x0_1 : w_7.cell? ⟨w_5.heap.size, 1, none⟩ = some (.slice A_t2 zs0.length c_t2) := hBx_x0.cell 1
  clear hwb
  have hs_w_7 := (hb_w_7).size
  replace hbW := below_step hbW hb_w_7
  replace ho_t1 := own_below ho_t1 hb_w_7
  replace ho_w0 := own_below ho_w0 hb_w_7
  replace ho_x0 := own_below ho_x0 hb_w_7
  replace hBx_aS := hBx_aS.below hb_w_7 hBx_aS.lt
  replace hbc_aS_0 : w_7.cell? ⟨W.heap.size, 0, none⟩ = some (.int .i64 p0) := hBx_aS.cell 0
  replace hbc_aS_1 : w_7.cell? ⟨W.heap.size, 1, none⟩ = some (.slice A0 zs0.length c0) := hBx_aS.cell 1
  replace hBx_w0 := hBx_w0.below hb_w_7 hBx_w0.lt
  replace hbc_w0_0 : w_7.cell? ⟨w_4.heap.size, 0, none⟩ = some (.int .i64 n_w0) := hBx_w0.cell 0
  replace hbc_w0_1 : w_7.cell? ⟨w_4.heap.size, 1, none⟩ = some (.slice A_w0 _ c_w0) := hBx_w0.cell 1
  refine (smyPr.impl_any A_t2 c_t2 zs0 a1 _ hk0 (own_rd ho_x0)).mono ?_
  rintro e w_8 ⟨v_g0, n_g0, rfl, hn_g0, ⟨ho_g0, hk_g0⟩, hb_w_8⟩
  obtain rfl : n_w0 = n_g0 := HN_w0.out.trans hn_g0.symm
  clear hn_g0
  have hs_w_8 := (hb_w_8).size
  replace hbW := below_step hbW hb_w_8
  replace ho_t1 := own_below ho_t1 hb_w_8
  replace ho_w0 := own_below ho_w0 hb_w_8
  replace ho_x0 := own_below ho_x0 hb_w_8
  replace hBx_aS := hBx_aS.below hb_w_8 hBx_aS.lt
  replace hbc_aS_0 : w_8.cell? ⟨W.heap.size, 0, none⟩ = some (.int .i64 p0) := hBx_aS.cell 0
  replace hbc_aS_1 : w_8.cell? ⟨W.heap.size, 1, none⟩ = some (.slice A0 zs0.length c0) := hBx_aS.cell 1
  replace hBx_w0 := hBx_w0.below hb_w_8 hBx_w0.lt
  replace hbc_w0_0 : w_8.cell? ⟨w_4.heap.size, 0, none⟩ = some (.int .i64 n_w0) := hBx_w0.cell 0
  replace hbc_w0_1 : w_8.cell? ⟨w_4.heap.size, 1, none⟩ = some (.slice A_w0 _ c_w0) := hBx_w0.cell 1
  replace hBx_x0 := hBx_x0.below hb_w_8 hBx_x0.lt
  replace hbc_x0_0 : w_8.cell? ⟨w_5.heap.size, 0, none⟩ = some (.int .i64 p0) := hBx_x0.cell 0
  replace hbc_x0_1 : w_8.cell? ⟨w_5.heap.size, 1, none⟩ = some (.slice A_t2 zs0.length c_t2) := hBx_x0.cell 1
  have hl_g0 := (ho_g0).lt
  obtain ⟨A_g0, c_g0, rfl, hnc_g0, hcm_g0, _⟩ := own_form ho_g0
  have hm_g0 := Nat.le_trans hnc_g0 hcm_g0
  have hbz_aS_0 := fun (o : Obj) => cells_below (w' := w_8.alloc o) ((Below.refl _ _).alloc (Nat.le_refl _) o) hbc_aS_0
  have hbz_aS_1 := fun (o : Obj) => cells_below (w' := w_8.alloc o) ((Below.refl _ _).alloc (Nat.le_refl _) o) hbc_aS_1
  have hbz_w0_0 := fun (o : Obj) => cells_below (w' := w_8.alloc o) ((Below.refl _ _).alloc (Nat.le_refl _) o) hbc_w0_0
  have hbz_w0_1 := fun (o : Obj) => cells_below (w' := w_8.alloc o) ((Below.refl _ _).alloc (Nat.le_refl _) o) hbc_w0_1
  have hbz_x0_0 := fun (o : Obj) => cells_below (w' := w_8.alloc o) ((Below.refl _ _).alloc (Nat.le_refl _) o) hbc_x0_0
  have hbz_x0_1 := fun (o : Obj) => cells_below (w' := w_8.alloc o) ((Below.refl _ _).alloc (Nat.le_refl _) o) hbc_x0_1
  go_wp2_with fail
  clear hbz_aS_0 hbz_aS_1 hbz_w0_0 hbz_w0_1 hbz_x0_0 hbz_x0_1
  obtain ⟨w_9, hwb, hBx_g0⟩ := box_of ho_g0 w_8 (.int .i64 n_w0) 29
  rw [← hwb]
  have hb_w_9 : Below w_8.heap.size w_8 w_9 := by rw [hwb]; exact (Below.refl _ _).alloc (Nat.le_refl _) _
  have hlx_g0 := hBx_g0.lt
  have hbc_g0_0 : w_9.cell? ⟨w_8.heap.size, 0, none⟩ = some (.int .i64 n_w0) := hBx_g0.cell 0
  have hbc_g0_1 : w_9.cell? ⟨w_8.heap.size, 1, none⟩ = some (.slice A_g0 _ c_g0) := hBx_g0.cell 1
  clear hwb
  have hs_w_9 := (hb_w_9).size
  replace hbW := below_step hbW hb_w_9
  replace ho_t1 := own_below ho_t1 hb_w_9
  replace ho_w0 := own_below ho_w0 hb_w_9
  replace ho_x0 := own_below ho_x0 hb_w_9
  replace ho_g0 := own_below ho_g0 hb_w_9
  replace hBx_aS := hBx_aS.below hb_w_9 hBx_aS.lt
  replace hbc_aS_0 : w_9.cell? ⟨W.heap.size, 0, none⟩ = some (.int .i64 p0) := hBx_aS.cell 0
  replace hbc_aS_1 : w_9.cell? ⟨W.heap.size, 1, none⟩ = some (.slice A0 zs0.length c0) := hBx_aS.cell 1
  replace hBx_w0 := hBx_w0.below hb_w_9 hBx_w0.lt
  replace hbc_w0_0 : w_9.cell? ⟨w_4.heap.size, 0, none⟩ = some (.int .i64 n_w0) := hBx_w0.cell 0
  replace hbc_w0_1 : w_9.cell? ⟨w_4.heap.size, 1, none⟩ = some (.slice A_w0 _ c_w0) := hBx_w0.cell 1
  replace hBx_x0 := hBx_x0.below hb_w_9 hBx_x0.lt
  replace hbc_x0_0 : w_9.cell? ⟨w_5.heap.size, 0, none⟩ = some (.int .i64 p0) := hBx_x0.cell 0
  replace hbc_x0_1 : w_9.cell? ⟨w_5.heap.size, 1, none⟩ = some (.slice A_t2 zs0.length c_t2) := hBx_x0.cell 1
  refine (lawSmy.eqB _ _ _ _ _ _ _ hm_g0 hm_w0 (own_rd ho_g0) (own_rd ho_w0)).mono ?_
  rintro e w_10 ⟨rfl, hb_w_10⟩
  have hs_w_10 := (hb_w_10).size
  replace hbW := below_step hbW hb_w_10
  replace ho_t1 := own_below ho_t1 hb_w_10
  replace ho_w0 := own_below ho_w0 hb_w_10
  replace ho_x0 := own_below ho_x0 hb_w_10
  replace ho_g0 := own_below ho_g0 hb_w_10
  replace hBx_aS := hBx_aS.below hb_w_10 hBx_aS.lt
  replace hbc_aS_0 : w_10.cell? ⟨W.heap.size, 0, none⟩ = some (.int .i64 p0) := hBx_aS.cell 0
  replace hbc_aS_1 : w_10.cell? ⟨W.heap.size, 1, none⟩ = some (.slice A0 zs0.length c0) := hBx_aS.cell 1
  replace hBx_w0 := hBx_w0.below hb_w_10 hBx_w0.lt
  replace hbc_w0_0 : w_10.cell? ⟨w_4.heap.size, 0, none⟩ = some (.int .i64 n_w0) := hBx_w0.cell 0
  replace hbc_w0_1 : w_10.cell? ⟨w_4.heap.size, 1, none⟩ = some (.slice A_w0 _ c_w0) := hBx_w0.cell 1
  replace hBx_x0 := hBx_x0.below hb_w_10 hBx_x0.lt
  replace hbc_x0_0 : w_10.cell? ⟨w_5.heap.size, 0, none⟩ = some (.int .i64 p0) := hBx_x0.cell 0
  replace hbc_x0_1 : w_10.cell? ⟨w_5.heap.size, 1, none⟩ = some (.slice A_t2 zs0.length c_t2) := hBx_x0.cell 1
  replace hBx_g0 := hBx_g0.below hb_w_10 hBx_g0.lt
  replace hbc_g0_0 : w_10.cell? ⟨w_8.heap.size, 0, none⟩ = some (.int .i64 n_w0) := hBx_g0.cell 0
  replace hbc_g0_1 : w_10.cell? ⟨w_8.heap.size, 1, none⟩ = some (.slice A_g0 _ c_g0) := hBx_g0.cell 1
  go_wp2_with fail
  have HKC := Lib.hid (fun (w' : World) (h : Below w_10.heap.size w_10 w') => And.intro (cells_below h hbc_aS_0) ( And.intro (cells_below h hbc_aS_1) ( And.intro (cells_below h hbc_x0_0) (cells_below h hbc_x0_1))))
  go_region_held3 (fun w' => w'.cell? ⟨W.heap.size, 0, none⟩ = some (.int .i64 p0) ∧ w'.cell? ⟨W.heap.size, 1, none⟩ = some (.slice A0 zs0.length c0) ∧ w'.cell? ⟨w_5.heap.size, 0, none⟩ = some (.int .i64 p0) ∧ w'.cell? ⟨w_5.heap.size, 1, none⟩ = some (.slice A_t2 zs0.length c_t2)) (first | exact HKC.out _ hq_b | exact HKC.out _ hq_a | go_keep) (first
    | (go_at_call 27; refine (lawSmy.to_any A0 c0 zs0 _ hk0 (by exact hr0.below (below_drewN hbW 1))).mono ?_; rintro e w_11 ⟨v_a, rfl, ho_a, hb_a⟩; obtain ⟨A_a, c_a, rfl, hnc_a, hcm_a, _⟩ := own_form ho_a; have hq_a : Below w_10.heap.size w_10 w_11 := ⟨hb_a.os, hb_a.tape, hb_a.output, hb_a.size, hb_a.block⟩)
    | (go_at_call 28; refine (lawSmy.eqB _ _ _ _ _ _ _ hm_x0 (Nat.le_trans hnc_a hcm_a) (by exact (own_rd ho_x0).below hq_a) (by exact own_rd ho_a)).mono ?_; rintro e w_12 ⟨rfl, hb_b⟩; have hq_b : Below w_10.heap.size w_10 w_12 := below_step hq_a hb_b))
  clear HKC
  have hs_w_12 := (hq_b).size
  replace hbW := below_step hbW hq_b
  replace ho_t1 := own_below ho_t1 hq_b
  replace ho_w0 := own_below ho_w0 hq_b
  replace ho_x0 := own_below ho_x0 hq_b
  replace ho_g0 := own_below ho_g0 hq_b
  replace hBx_aS := hBx_aS.below hq_b hBx_aS.lt
  replace hbc_aS_0 : w_12.cell? ⟨W.heap.size, 0, none⟩ = some (.int .i64 p0) := hBx_aS.cell 0
  replace hbc_aS_1 : w_12.cell? ⟨W.heap.size, 1, none⟩ = some (.slice A0 zs0.length c0) := hBx_aS.cell 1
  replace hBx_w0 := hBx_w0.below hq_b hBx_w0.lt
  replace hbc_w0_0 : w_12.cell? ⟨w_4.heap.size, 0, none⟩ = some (.int .i64 n_w0) := hBx_w0.cell 0
  replace hbc_w0_1 : w_12.cell? ⟨w_4.heap.size, 1, none⟩ = some (.slice A_w0 _ c_w0) := hBx_w0.cell 1
  replace hBx_x0 := hBx_x0.below hq_b hBx_x0.lt
  replace hbc_x0_0 : w_12.cell? ⟨w_5.heap.size, 0, none⟩ = some (.int .i64 p0) := hBx_x0.cell 0
  replace hbc_x0_1 : w_12.cell? ⟨w_5.heap.size, 1, none⟩ = some (.slice A_t2 zs0.length c_t2) := hBx_x0.cell 1
  replace hBx_g0 := hBx_g0.below hq_b hBx_g0.lt
  replace hbc_g0_0 : w_12.cell? ⟨w_8.heap.size, 0, none⟩ = some (.int .i64 n_w0) := hBx_g0.cell 0
  replace hbc_g0_1 : w_12.cell? ⟨w_8.heap.size, 1, none⟩ = some (.slice A_g0 _ c_g0) := hBx_g0.cell 1
  go_wp2_with fail
  refine (lawSmy.mark_any _ _ _ _ _ _ _ (by omega) (by omega) ho_x0).mono ?_
  rintro e w_13 ⟨rfl, hq_w_13, hg_w_13⟩
  have hs_w_13 := hg_w_13.size
  replace ho_t1 := ho_t1.kept hg_w_13 (sep hl_t1 hl_x0 (by omega))
  replace ho_w0 := ho_w0.kept hg_w_13 (sep hl_w0 hl_x0 (by omega))
  replace ho_g0 := ho_g0.kept hg_w_13 (sep hl_g0 hl_x0 (by omega))
  replace ho_x0 := hq_w_13
  clear hq_w_13
  replace hbW := below_grown hbW hbW.size hg_w_13 (fun k hk => by have := hl_x0 k hk; omega)
  replace hBx_aS := hBx_aS.grown hg_w_13 (fun e => by have := hl_x0 _ e.symm; omega)
  replace hbc_aS_0 : w_13.cell? ⟨W.heap.size, 0, none⟩ = some (.int .i64 p0) := hBx_aS.cell 0
  replace hbc_aS_1 : w_13.cell? ⟨W.heap.size, 1, none⟩ = some (.slice A0 zs0.length c0) := hBx_aS.cell 1
  replace hBx_w0 := hBx_w0.grown hg_w_13 (fun e => by have := hl_x0 _ e.symm; omega)
  replace hbc_w0_0 : w_13.cell? ⟨w_4.heap.size, 0, none⟩ = some (.int .i64 n_w0) := hBx_w0.cell 0
  replace hbc_w0_1 : w_13.cell? ⟨w_4.heap.size, 1, none⟩ = some (.slice A_w0 _ c_w0) := hBx_w0.cell 1
  replace hBx_x0 := hBx_x0.grown hg_w_13 (fun e => by have := hl_x0 _ e.symm; omega)
  replace hbc_x0_0 : w_13.cell? ⟨w_5.heap.size, 0, none⟩ = some (.int .i64 p0) := hBx_x0.cell 0
  replace hbc_x0_1 : w_13.cell? ⟨w_5.heap.size, 1, none⟩ = some (.slice A_t2 zs0.length c_t2) := hBx_x0.cell 1
  replace hBx_g0 := hBx_g0.grown hg_w_13 (fun e => by have := hl_x0 _ e.symm; omega)
  replace hbc_g0_0 : w_13.cell? ⟨w_8.heap.size, 0, none⟩ = some (.int .i64 n_w0) := hBx_g0.cell 0
  replace hbc_g0_1 : w_13.cell? ⟨w_8.heap.size, 1, none⟩ = some (.slice A_g0 _ c_g0) := hBx_g0.cell 1
  go_wp2_with fail
  refine (lawSmy.eqB _ _ _ _ _ _ _ hm_g0 hm_w0 (own_rd ho_g0) (own_rd ho_w0)).mono ?_
  rintro e w_14 ⟨rfl, hb_w_14⟩
  have hs_w_14 := (hb_w_14).size
  replace hbW := below_step hbW hb_w_14
  replace ho_t1 := own_below ho_t1 hb_w_14
  replace ho_w0 := own_below ho_w0 hb_w_14
  replace ho_x0 := own_below ho_x0 hb_w_14
  replace ho_g0 := own_below ho_g0 hb_w_14
  replace hBx_aS := hBx_aS.below hb_w_14 hBx_aS.lt
  replace hbc_aS_0 : w_14.cell? ⟨W.heap.size, 0, none⟩ = some (.int .i64 p0) := hBx_aS.cell 0
  replace hbc_aS_1 : w_14.cell? ⟨W.heap.size, 1, none⟩ = some (.slice A0 zs0.length c0) := hBx_aS.cell 1
  replace hBx_w0 := hBx_w0.below hb_w_14 hBx_w0.lt
  replace hbc_w0_0 : w_14.cell? ⟨w_4.heap.size, 0, none⟩ = some (.int .i64 n_w0) := hBx_w0.cell 0
  replace hbc_w0_1 : w_14.cell? ⟨w_4.heap.size, 1, none⟩ = some (.slice A_w0 _ c_w0) := hBx_w0.cell 1
  replace hBx_x0 := hBx_x0.below hb_w_14 hBx_x0.lt
  replace hbc_x0_0 : w_14.cell? ⟨w_5.heap.size, 0, none⟩ = some (.int .i64 p0) := hBx_x0.cell 0
  replace hbc_x0_1 : w_14.cell? ⟨w_5.heap.size, 1, none⟩ = some (.slice A_t2 zs0.length c_t2) := hBx_x0.cell 1
  replace hBx_g0 := hBx_g0.below hb_w_14 hBx_g0.lt
  replace hbc_g0_0 : w_14.cell? ⟨w_8.heap.size, 0, none⟩ = some (.int .i64 n_w0) := hBx_g0.cell 0
  replace hbc_g0_1 : w_14.cell? ⟨w_8.heap.size, 1, none⟩ = some (.slice A_g0 _ c_g0) := hBx_g0.cell 1
  go_wp2_with fail
  refine (lawSmy.mark_any _ _ _ _ _ _ _ (by omega) (by omega) ho_g0).mono ?_
  rintro e w_15 ⟨rfl, hq_w_15, hg_w_15⟩
  have hs_w_15 := hg_w_15.size
  replace ho_t1 := ho_t1.kept hg_w_15 (sep hl_t1 hl_g0 (by omega))
  replace ho_w0 := ho_w0.kept hg_w_15 (sep hl_w0 hl_g0 (by omega))
  replace ho_x0 := ho_x0.kept hg_w_15 (sep hl_x0 hl_g0 (by omega))
  replace ho_g0 := hq_w_15
  clear hq_w_15
  replace hbW := below_grown hbW hbW.size hg_w_15 (fun k hk => by have := hl_g0 k hk; omega)
  replace hBx_aS := hBx_aS.grown hg_w_15 (fun e => by have := hl_g0 _ e.symm; omega)
  replace hbc_aS_0 : w_15.cell? ⟨W.heap.size, 0, none⟩ = some (.int .i64 p0) := hBx_aS.cell 0
  replace hbc_aS_1 : w_15.cell? ⟨W.heap.size, 1, none⟩ = some (.slice A0 zs0.length c0) := hBx_aS.cell 1
  replace hBx_w0 := hBx_w0.grown hg_w_15 (fun e => by have := hl_g0 _ e.symm; omega)
  replace hbc_w0_0 : w_15.cell? ⟨w_4.heap.size, 0, none⟩ = some (.int .i64 n_w0) := hBx_w0.cell 0
  replace hbc_w0_1 : w_15.cell? ⟨w_4.heap.size, 1, none⟩ = some (.slice A_w0 _ c_w0) := hBx_w0.cell 1
  replace hBx_x0 := hBx_x0.grown hg_w_15 (fun e => by have := hl_g0 _ e.symm; omega)
  replace hbc_x0_0 : w_15.cell? ⟨w_5.heap.size, 0, none⟩ = some (.int .i64 p0) := hBx_x0.cell 0
  replace hbc_x0_1 : w_15.cell? ⟨w_5.heap.size, 1, none⟩ = some (.slice A_t2 zs0.length c_t2) := hBx_x0.cell 1
  replace hBx_g0 := hBx_g0.grown hg_w_15 (fun e => by have := hl_g0 _ e.symm; omega)
  replace hbc_g0_0 : w_15.cell? ⟨w_8.heap.size, 0, none⟩ = some (.int .i64 n_w0) := hBx_g0.cell 0
  replace hbc_g0_1 : w_15.cell? ⟨w_8.heap.size, 1, none⟩ = some (.slice A_g0 _ c_g0) := hBx_g0.cell 1
  go_wp2_with fail
  refine (lawSmy.held_any _ _ _ _ _ (by omega) (by omega) (own_rd ho_g0)).mono ?_
  rintro e w_16 ⟨rfl, hb_w_16⟩
  have hs_w_16 := (hb_w_16).size
  replace hbW := below_step hbW hb_w_16
  replace ho_t1 := own_below ho_t1 hb_w_16
  replace ho_w0 := own_below ho_w0 hb_w_16
  replace ho_x0 := own_below ho_x0 hb_w_16
  replace ho_g0 := own_below ho_g0 hb_w_16
  replace hBx_aS := hBx_aS.below hb_w_16 hBx_aS.lt
  replace hbc_aS_0 : w_16.cell? ⟨W.heap.size, 0, none⟩ = some (.int .i64 p0) := hBx_aS.cell 0
  replace hbc_aS_1 : w_16.cell? ⟨W.heap.size, 1, none⟩ = some (.slice A0 zs0.length c0) := hBx_aS.cell 1
  replace hBx_w0 := hBx_w0.below hb_w_16 hBx_w0.lt
  replace hbc_w0_0 : w_16.cell? ⟨w_4.heap.size, 0, none⟩ = some (.int .i64 n_w0) := hBx_w0.cell 0
  replace hbc_w0_1 : w_16.cell? ⟨w_4.heap.size, 1, none⟩ = some (.slice A_w0 _ c_w0) := hBx_w0.cell 1
  replace hBx_x0 := hBx_x0.below hb_w_16 hBx_x0.lt
  replace hbc_x0_0 : w_16.cell? ⟨w_5.heap.size, 0, none⟩ = some (.int .i64 p0) := hBx_x0.cell 0
  replace hbc_x0_1 : w_16.cell? ⟨w_5.heap.size, 1, none⟩ = some (.slice A_t2 zs0.length c_t2) := hBx_x0.cell 1
  replace hBx_g0 := hBx_g0.below hb_w_16 hBx_g0.lt
  replace hbc_g0_0 : w_16.cell? ⟨w_8.heap.size, 0, none⟩ = some (.int .i64 n_w0) := hBx_g0.cell 0
  replace hbc_g0_1 : w_16.cell? ⟨w_8.heap.size, 1, none⟩ = some (.slice A_g0 _ c_g0) := hBx_g0.cell 1
  go_wp2_with fail
  refine (lawSmy.to_any A0 c0 zs0 _ hk0 (hr0.below hbW)).mono ?_
  rintro e w_17 ⟨v_t3, rfl, ho_t3, hb_w_17⟩
  have hs_w_17 := (hb_w_17).size
  replace hbW := below_step hbW hb_w_17
  replace ho_t1 := own_below ho_t1 hb_w_17
  replace ho_w0 := own_below ho_w0 hb_w_17
  replace ho_x0 := own_below ho_x0 hb_w_17
  replace ho_g0 := own_below ho_g0 hb_w_17
  replace hBx_aS := hBx_aS.below hb_w_17 hBx_aS.lt
  replace hbc_aS_0 : w_17.cell? ⟨W.heap.size, 0, none⟩ = some (.int .i64 p0) := hBx_aS.cell 0
  replace hbc_aS_1 : w_17.cell? ⟨W.heap.size, 1, none⟩ = some (.slice A0 zs0.length c0) := hBx_aS.cell 1
  replace hBx_w0 := hBx_w0.below hb_w_17 hBx_w0.lt
  replace hbc_w0_0 : w_17.cell? ⟨w_4.heap.size, 0, none⟩ = some (.int .i64 n_w0) := hBx_w0.cell 0
  replace hbc_w0_1 : w_17.cell? ⟨w_4.heap.size, 1, none⟩ = some (.slice A_w0 _ c_w0) := hBx_w0.cell 1
  replace hBx_x0 := hBx_x0.below hb_w_17 hBx_x0.lt
  replace hbc_x0_0 : w_17.cell? ⟨w_5.heap.size, 0, none⟩ = some (.int .i64 p0) := hBx_x0.cell 0
  replace hbc_x0_1 : w_17.cell? ⟨w_5.heap.size, 1, none⟩ = some (.slice A_t2 zs0.length c_t2) := hBx_x0.cell 1
  replace hBx_g0 := hBx_g0.below hb_w_17 hBx_g0.lt
  replace hbc_g0_0 : w_17.cell? ⟨w_8.heap.size, 0, none⟩ = some (.int .i64 n_w0) := hBx_g0.cell 0
  replace hbc_g0_1 : w_17.cell? ⟨w_8.heap.size, 1, none⟩ = some (.slice A_g0 _ c_g0) := hBx_g0.cell 1
  have hl_t3 := (ho_t3).lt
  obtain ⟨A_t3, c_t3, rfl, hnc_t3, hcm_t3, _⟩ := own_form ho_t3
  have hm_t3 : zs0.length ≤ maxLen := Nat.le_trans hnc_t3 hcm_t3
  go_wp2_with fail
  refine (smyPr.impl_any A_t3 c_t3 zs0 a1 _ hk0 (own_rd ho_t3)).mono ?_
  rintro e w_18 ⟨v_h0, n_h0, rfl, hn_h0, ⟨ho_h0, hk_h0⟩, hb_w_18⟩
  obtain rfl : n_w0 = n_h0 := HN_w0.out.trans hn_h0.symm
  clear hn_h0
  have hs_w_18 := (hb_w_18).size
  replace hbW := below_step hbW hb_w_18
  replace ho_t1 := own_below ho_t1 hb_w_18
  replace ho_w0 := own_below ho_w0 hb_w_18
  replace ho_x0 := own_below ho_x0 hb_w_18
  replace ho_g0 := own_below ho_g0 hb_w_18
  replace ho_t3 := own_below ho_t3 hb_w_18
  replace hBx_aS := hBx_aS.below hb_w_18 hBx_aS.lt
  replace hbc_aS_0 : w_18.cell? ⟨W.heap.size, 0, none⟩ = some (.int .i64 p0) := hBx_aS.cell 0
  replace hbc_aS_1 : w_18.cell? ⟨W.heap.size, 1, none⟩ = some (.slice A0 zs0.length c0) := hBx_aS.cell 1
  replace hBx_w0 := hBx_w0.below hb_w_18 hBx_w0.lt
  replace hbc_w0_0 : w_18.cell? ⟨w_4.heap.size, 0, none⟩ = some (.int .i64 n_w0) := hBx_w0.cell 0
  replace hbc_w0_1 : w_18.cell? ⟨w_4.heap.size, 1, none⟩ = some (.slice A_w0 _ c_w0) := hBx_w0.cell 1
  replace hBx_x0 := hBx_x0.below hb_w_18 hBx_x0.lt
  replace hbc_x0_0 : w_18.cell? ⟨w_5.heap.size, 0, none⟩ = some (.int .i64 p0) := hBx_x0.cell 0
  replace hbc_x0_1 : w_18.cell? ⟨w_5.heap.size, 1, none⟩ = some (.slice A_t2 zs0.length c_t2) := hBx_x0.cell 1
  replace hBx_g0 := hBx_g0.below hb_w_18 hBx_g0.lt
  replace hbc_g0_0 : w_18.cell? ⟨w_8.heap.size, 0, none⟩ = some (.int .i64 n_w0) := hBx_g0.cell 0
  replace hbc_g0_1 : w_18.cell? ⟨w_8.heap.size, 1, none⟩ = some (.slice A_g0 _ c_g0) := hBx_g0.cell 1
  have hl_h0 := (ho_h0).lt
  obtain ⟨A_h0, c_h0, rfl, hnc_h0, hcm_h0, _⟩ := own_form ho_h0
  have hm_h0 := Nat.le_trans hnc_h0 hcm_h0
  have hbz_aS_0 := fun (o : Obj) => cells_below (w' := w_18.alloc o) ((Below.refl _ _).alloc (Nat.le_refl _) o) hbc_aS_0
  have hbz_aS_1 := fun (o : Obj) => cells_below (w' := w_18.alloc o) ((Below.refl _ _).alloc (Nat.le_refl _) o) hbc_aS_1
  have hbz_w0_0 := fun (o : Obj) => cells_below (w' := w_18.alloc o) ((Below.refl _ _).alloc (Nat.le_refl _) o) hbc_w0_0
  have hbz_w0_1 := fun (o : Obj) => cells_below (w' := w_18.alloc o) ((Below.refl _ _).alloc (Nat.le_refl _) o) hbc_w0_1
  have hbz_x0_0 := fun (o : Obj) => cells_below (w' := w_18.alloc o) ((Below.refl _ _).alloc (Nat.le_refl _) o) hbc_x0_0
  have hbz_x0_1 := fun (o : Obj) => cells_below (w' := w_18.alloc o) ((Below.refl _ _).alloc (Nat.le_refl _) o) hbc_x0_1
  have hbz_g0_0 := fun (o : Obj) => cells_below (w' := w_18.alloc o) ((Below.refl _ _).alloc (Nat.le_refl _) o) hbc_g0_0
  have hbz_g0_1 := fun (o : Obj) => cells_below (w' := w_18.alloc o) ((Below.refl _ _).alloc (Nat.le_refl _) o) hbc_g0_1
  go_wp2_with fail
  clear hbz_aS_0 hbz_aS_1 hbz_w0_0 hbz_w0_1 hbz_x0_0 hbz_x0_1 hbz_g0_0 hbz_g0_1
  obtain ⟨w_19, hwb, hBx_h0⟩ := box_of ho_h0 w_18 (.int .i64 n_w0) 29
  rw [← hwb]
  have hb_w_19 : Below w_18.heap.size w_18 w_19 := by rw [hwb]; exact (Below.refl _ _).alloc (Nat.le_refl _) _
  have hlx_h0 := hBx_h0.lt
  have hbc_h0_0 : w_19.cell? ⟨w_18.heap.size, 0, none⟩ = some (.int .i64 n_w0) := hBx_h0.cell 0
  have hbc_h0_1 : w_19.cell? ⟨w_18.heap.size, 1, none⟩ = some (.slice A_h0 _ c_h0) := hBx_h0.cell 1
  clear hwb
  have hs_w_19 := (hb_w_19).size
  replace hbW := below_step hbW hb_w_19
  replace ho_t1 := own_below ho_t1 hb_w_19
  replace ho_w0 := own_below ho_w0 hb_w_19
  replace ho_x0 := own_below ho_x0 hb_w_19
  replace ho_g0 := own_below ho_g0 hb_w_19
  replace ho_t3 := own_below ho_t3 hb_w_19
  replace ho_h0 := own_below ho_h0 hb_w_19
  replace hBx_aS := hBx_aS.below hb_w_19 hBx_aS.lt
  replace hbc_aS_0 : w_19.cell? ⟨W.heap.size, 0, none⟩ = some (.int .i64 p0) := hBx_aS.cell 0
  replace hbc_aS_1 : w_19.cell? ⟨W.heap.size, 1, none⟩ = some (.slice A0 zs0.length c0) := hBx_aS.cell 1
  replace hBx_w0 := hBx_w0.below hb_w_19 hBx_w0.lt
  replace hbc_w0_0 : w_19.cell? ⟨w_4.heap.size, 0, none⟩ = some (.int .i64 n_w0) := hBx_w0.cell 0
  replace hbc_w0_1 : w_19.cell? ⟨w_4.heap.size, 1, none⟩ = some (.slice A_w0 _ c_w0) := hBx_w0.cell 1
  replace hBx_x0 := hBx_x0.below hb_w_19 hBx_x0.lt
  replace hbc_x0_0 : w_19.cell? ⟨w_5.heap.size, 0, none⟩ = some (.int .i64 p0) := hBx_x0.cell 0
  replace hbc_x0_1 : w_19.cell? ⟨w_5.heap.size, 1, none⟩ = some (.slice A_t2 zs0.length c_t2) := hBx_x0.cell 1
  replace hBx_g0 := hBx_g0.below hb_w_19 hBx_g0.lt
  replace hbc_g0_0 : w_19.cell? ⟨w_8.heap.size, 0, none⟩ = some (.int .i64 n_w0) := hBx_g0.cell 0
  replace hbc_g0_1 : w_19.cell? ⟨w_8.heap.size, 1, none⟩ = some (.slice A_g0 _ c_g0) := hBx_g0.cell 1
  refine (lawSmy.eqB _ _ _ _ _ _ _ hm_h0 hm_w0 (own_rd ho_h0) (own_rd ho_w0)).mono ?_
  rintro e w_20 ⟨rfl, hb_w_20⟩
  have hs_w_20 := (hb_w_20).size
  replace hbW := below_step hbW hb_w_20
  replace ho_t1 := own_below ho_t1 hb_w_20
  replace ho_w0 := own_below ho_w0 hb_w_20
  replace ho_x0 := own_below ho_x0 hb_w_20
  replace ho_g0 := own_below ho_g0 hb_w_20
  replace ho_t3 := own_below ho_t3 hb_w_20
  replace ho_h0 := own_below ho_h0 hb_w_20
  replace hBx_aS := hBx_aS.below hb_w_20 hBx_aS.lt
  replace hbc_aS_0 : w_20.cell? ⟨W.heap.size, 0, none⟩ = some (.int .i64 p0) := hBx_aS.cell 0
  replace hbc_aS_1 : w_20.cell? ⟨W.heap.size, 1, none⟩ = some (.slice A0 zs0.length c0) := hBx_aS.cell 1
  replace hBx_w0 := hBx_w0.below hb_w_20 hBx_w0.lt
  replace hbc_w0_0 : w_20.cell? ⟨w_4.heap.size, 0, none⟩ = some (.int .i64 n_w0) := hBx_w0.cell 0
  replace hbc_w0_1 : w_20.cell? ⟨w_4.heap.size, 1, none⟩ = some (.slice A_w0 _ c_w0) := hBx_w0.cell 1
  replace hBx_x0 := hBx_x0.below hb_w_20 hBx_x0.lt
  replace hbc_x0_0 : w_20.cell? ⟨w_5.heap.size, 0, none⟩ = some (.int .i64 p0) := hBx_x0.cell 0
  replace hbc_x0_1 : w_20.cell? ⟨w_5.heap.size, 1, none⟩ = some (.slice A_t2 zs0.length c_t2) := hBx_x0.cell 1
  replace hBx_g0 := hBx_g0.below hb_w_20 hBx_g0.lt
  replace hbc_g0_0 : w_20.cell? ⟨w_8.heap.size, 0, none⟩ = some (.int .i64 n_w0) := hBx_g0.cell 0
  replace hbc_g0_1 : w_20.cell? ⟨w_8.heap.size, 1, none⟩ = some (.slice A_g0 _ c_g0) := hBx_g0.cell 1
  replace hBx_h0 := hBx_h0.below hb_w_20 hBx_h0.lt
  replace hbc_h0_0 : w_20.cell? ⟨w_18.heap.size, 0, none⟩ = some (.int .i64 n_w0) := hBx_h0.cell 0
  replace hbc_h0_1 : w_20.cell? ⟨w_18.heap.size, 1, none⟩ = some (.slice A_h0 _ c_h0) := hBx_h0.cell 1
  go_wp2_with fail
  refine (lawSmy.held_any _ _ _ _ _ (by omega) (by omega) (own_rd ho_g0)).mono ?_
  rintro e w_21 ⟨rfl, hb_w_21⟩
  have hs_w_21 := (hb_w_21).size
  replace hbW := below_step hbW hb_w_21
  replace ho_t1 := own_below ho_t1 hb_w_21
  replace ho_w0 := own_below ho_w0 hb_w_21
  replace ho_x0 := own_below ho_x0 hb_w_21
  replace ho_g0 := own_below ho_g0 hb_w_21
  replace ho_t3 := own_below ho_t3 hb_w_21
  replace ho_h0 := own_below ho_h0 hb_w_21
  replace hBx_aS := hBx_aS.below hb_w_21 hBx_aS.lt
  replace hbc_aS_0 : w_21.cell? ⟨W.heap.size, 0, none⟩ = some (.int .i64 p0) := hBx_aS.cell 0
  replace hbc_aS_1 : w_21.cell? ⟨W.heap.size, 1, none⟩ = some (.slice A0 zs0.length c0) := hBx_aS.cell 1
  replace hBx_w0 := hBx_w0.below hb_w_21 hBx_w0.lt
  replace hbc_w0_0 : w_21.cell? ⟨w_4.heap.size, 0, none⟩ = some (.int .i64 n_w0) := hBx_w0.cell 0
  replace hbc_w0_1 : w_21.cell? ⟨w_4.heap.size, 1, none⟩ = some (.slice A_w0 _ c_w0) := hBx_w0.cell 1
  replace hBx_x0 := hBx_x0.below hb_w_21 hBx_x0.lt
  replace hbc_x0_0 : w_21.cell? ⟨w_5.heap.size, 0, none⟩ = some (.int .i64 p0) := hBx_x0.cell 0
  replace hbc_x0_1 : w_21.cell? ⟨w_5.heap.size, 1, none⟩ = some (.slice A_t2 zs0.length c_t2) := hBx_x0.cell 1
  replace hBx_g0 := hBx_g0.below hb_w_21 hBx_g0.lt
  replace hbc_g0_0 : w_21.cell? ⟨w_8.heap.size, 0, none⟩ = some (.int .i64 n_w0) := hBx_g0.cell 0
  replace hbc_g0_1 : w_21.cell? ⟨w_8.heap.size, 1, none⟩ = some (.slice A_g0 _ c_g0) := hBx_g0.cell 1
  replace hBx_h0 := hBx_h0.below hb_w_21 hBx_h0.lt
  replace hbc_h0_0 : w_21.cell? ⟨w_18.heap.size, 0, none⟩ = some (.int .i64 n_w0) := hBx_h0.cell 0
  replace hbc_h0_1 : w_21.cell? ⟨w_18.heap.size, 1, none⟩ = some (.slice A_h0 _ c_h0) := hBx_h0.cell 1
  go_wp2
  go_ret
  exact ⟨rfl, hbW⟩

theorem own : ownKnob Try.prog.godebug = none := by kernel_rfl
theorem laidOut : laidOutB Try.prog = true := by kernel_rfl
set_option maxRecDepth 100000 in
theorem lifted (os : Os) (started : os.Started) (H : Type) (enc : TypeId × Value → H) :
    ReturnsInHanded {} Try.checked os 9 .any (Rows.fnExactPruneSummarySpec.pre6 enc Try.prog Try.f9 Rows.fnExactPruneSummaryRow.domain false) (Rows.fnExactPruneSummarySpec.post enc Try.prog Try.f9 false true false false) := by
  refine returnsInHanded_of_change (C := Try.checked) own started (by kernel_rfl) Try.func9
    (ChangeSpec.witness6 (enc := enc) (C := Try.checked) false ⟨#[], #[.agg #[.int .i64 0, .slice none 0 0], .int .i64 0], []⟩ 8 (by kernel_rfl) (by kernel_rfl) (by kernel_rfl) (by kernel_rfl)) ?_
  intro W base args ds gs before hval0 hW hcnd _
  have hval : ∀ (j : Nat) t v, Try.f9.params[j]? = some t → args[j]? = some v → Value.okWide Try.prog W .any base t v := hval0
  have hW' := hW
  have hlt : ∀ x ∈ before, x.block < W.heap.size := fun x hx => by simpa using hW.lt x hx
  obtain ⟨p, q, hA0, hV, rfl, hfz, hnd⟩ := hW
  have hA : DataW.TrodAll enc Try.prog W 0 (fun _ => true) true Try.f9.params.toList args.toList ds p := hA0
  rw [Try.params9] at hA hval
  obtain ⟨v0, vs0, d0, ds0, p0, q0, hargs, rfl, rfl, h0, r0⟩ := trodAll_cons hA
  obtain ⟨v1, vs1, d1, ds1, p1, q1, rfl, rfl, rfl, h1, r1⟩ := trodAll_cons r0
  obtain ⟨rfl, rfl, rfl⟩ := trodAll_nil r1
  obtain rfl : args = #[v0, v1] := by cases args; simp_all
  obtain ⟨p0, A0, n0, c0, zs0, rfl, w0⟩ := mem.open_summary Try.underlying41 (by kernel_rfl) (by kernel_rfl) Try.underlying3 Try.underlying39 Try.underlying100 (by kernel_rfl) (fun j hj => match j, hj with | 0, _ => ⟨_, rfl, rfl, Try.underlying3, by kernel_rfl⟩ | 1, _ => ⟨_, rfl, rfl, Try.underlying3, by kernel_rfl⟩ | 2, _ => ⟨_, rfl, rfl, Try.underlying3, by kernel_rfl⟩ | _ + 3, h => absurd h (by omega)) (hval 0 41 v0 rfl rfl) h0
  obtain ⟨a1, rfl, _, _, w1⟩ := open_int Try.underlying3 (hval 1 3 v1 rfl rfl) h1
  refine (walk p0 A0 n0 c0 zs0 a1 w1 W w0).mono fun e W' ⟨he, hg⟩ => ?_
  subst he
  exact ⟨_, rfl, frame.post_true laidOut hW' rfl (of_decide_eq_true (by kernel_rfl)) (by kernel_rfl) Try.underlying4 rfl rfl rfl hg⟩
theorem over : Rows.fnExactPruneSummaryRow.holds Try.pinned (OpenSpec.ofChange Rows.fnExactPruneSummarySpec) :=
  OpenClaim.holds_of_wide 9 Try.f9 rfl rfl rfl rfl rfl rfl rfl ⟨rfl, rfl, rfl, rfl, rfl⟩ rfl rfl rfl rfl rfl (by kernel_rfl) Try.func9 (by kernel_rfl)
    (of_decide_eq_true (by kernel_rfl)) (by unfold Func.isWrapper; first | (rw [if_pos (by decide +kernel)]; kernel_rfl) | (rw [if_neg (by decide +kernel)]; exact ⟨rfl, rfl⟩))
    (fun os started H enc _ => lifted os started H enc)
/-- The statement. -/
theorem proved : Rows.FnExactPruneSummarySaid :=
  over
end Go.Proofs.Ytlckeefjhafloaa.fnExactPruneSummary
