/- FnExactMergeSummaries: for all arguments the program's MergeSummaries returns what the reference's returns, in memory of its own, and leaves its arguments as they were. No condition. -/
import Derived.Test.YtlckeefjhafloaaFrame
import Derived.Test.YtlckeefjhafloaaSmyMgR
import Derived.Test.YtlckeefjhafloaaMemAt
import Derived.Test.YtlckeefjhafloaaLawSmy
import Derived.Test.YtlckeefjhafloaaOpenSmy
import Derived.Deep.RegionHeld3
import Derived.Deep.DeepCutAuto
import Derived.Test.YtlckeefjhafloaaBoxR
set_option linter.unusedVariables false
set_option linter.unusedSimpArgs false
namespace Go.Proofs.Ytlckeefjhafloaa.fnExactMergeSummaries
open Go.ChangeShapes Go.WideShapes Go.ChangeAt Go.RowKit Go.Proofs.Ytlckeefjhafloaa.mem
open Go.ChangeMaps (open_string shut_string)

set_option maxRecDepth 100000 in
set_option maxHeartbeats 2000000 in
theorem walk (p0 : Int) (A0 : Option Addr) (n0 c0 : Nat) (zs0 : List Rkv) (p1 : Int) (A1 : Option Addr) (n1 c1 : Nat) (zs1 : List Rkv) (W : World) (h0 : n0 = zs0.length ∧ n0 ≤ c0 ∧ c0 ≤ maxLen ∧ Rd W 3 A0 n0 (rkvs zs0) ∧ True) (h1 : n1 = zs1.length ∧ n1 ≤ c1 ∧ c1 ≤ maxLen ∧ Rd W 3 A1 n1 (rkvs zs1) ∧ True) :
    Calls Try.prog 10 #[.agg #[.int .i64 p0, .slice A0 n0 c0], .agg #[.int .i64 p1, .slice A1 n1 c1]] W fun e w' => e = .returned (.bool true) ∧ Below W.heap.size W w' := by
  obtain ⟨rfl, hnc0, hcm0, hr0, hx0⟩ := h0
  have HX0 := Lib.hid hx0
  clear hx0
  have hn0 : zs0.length ≤ maxLen := Nat.le_trans hnc0 hcm0
  obtain ⟨rfl, hnc1, hcm1, hr1, hx1⟩ := h1
  have HX1 := Lib.hid hx1
  clear hx1
  have hn1 : zs1.length ≤ maxLen := Nat.le_trans hnc1 hcm1
  have hbW : Below W.heap.size W W := Below.refl _ _
  have HBX := Lib.hid (fun (o1 o2 : Obj) => ((Below.refl W.heap.size W).alloc (Nat.le_refl _) o1).alloc (by simp) o2)
  go_enter Try.func10, Try.ntmps10
  go_wp2_with fail
  obtain ⟨w_1, hwb⟩ : ∃ x : World, x = ((W.alloc (.cells #[.int .i64 p0, .slice A0 zs0.length c0] 41)).alloc (.cells #[.int .i64 p1, .slice A1 zs1.length c1] 41)) := ⟨_, rfl⟩
  rw [← hwb]
  have hb_w_1 : Below W.heap.size W w_1 := by rw [hwb]; exact ((Below.refl _ _).alloc (Nat.le_refl _) _).alloc (by simp) _
  have hBx_aA : Blk w_1 (W.heap.size) 41 #[.int .i64 p0, .slice A0 zs0.length c0] := by rw [hwb]; exact (Blk.new _ _ _).alloc _
  have hlx_aA := hBx_aA.lt
  have hbc_aA_0 : w_1.cell? ⟨W.heap.size, 0, none⟩ = some (.int .i64 p0) := hBx_aA.cell 0
  have hbc_aA_1 : w_1.cell? ⟨W.heap.size, 1, none⟩ = some (.slice A0 zs0.length c0) := hBx_aA.cell 1
  have hBx_aB : Blk w_1 (W.heap.size + 1) 41 #[.int .i64 p1, .slice A1 zs1.length c1] := by rw [hwb]; exact (mem.box2 _ _ _ _ _).2.1
  have hlx_aB := hBx_aB.lt
  have hbc_aB_0 : w_1.cell? ⟨W.heap.size + 1, 0, none⟩ = some (.int .i64 p1) := hBx_aB.cell 0
  have hbc_aB_1 : w_1.cell? ⟨W.heap.size + 1, 1, none⟩ = some (.slice A1 zs1.length c1) := hBx_aB.cell 1
  clear hwb
  have hs_w_1 := (hb_w_1).size
  replace hbW := below_step hbW hb_w_1
  refine (lawSmy.sz_any A0 c0 zs0 (1048576) _ (by omega) (by omega) hn0 (hr0.below hbW)).mono ?_
  rintro e w_2 ⟨rfl, hb_w_2⟩
  have hs_w_2 := (hb_w_2).size
  replace hbW := below_step hbW hb_w_2
  replace hBx_aA := hBx_aA.below hb_w_2 hBx_aA.lt
  replace hbc_aA_0 : w_2.cell? ⟨W.heap.size, 0, none⟩ = some (.int .i64 p0) := hBx_aA.cell 0
  replace hbc_aA_1 : w_2.cell? ⟨W.heap.size, 1, none⟩ = some (.slice A0 zs0.length c0) := hBx_aA.cell 1
  replace hBx_aB := hBx_aB.below hb_w_2 hBx_aB.lt
  replace hbc_aB_0 : w_2.cell? ⟨W.heap.size + 1, 0, none⟩ = some (.int .i64 p1) := hBx_aB.cell 0
  replace hbc_aB_1 : w_2.cell? ⟨W.heap.size + 1, 1, none⟩ = some (.slice A1 zs1.length c1) := hBx_aB.cell 1
  by_cases hz0 : ¬ ((zs0.length : Nat) : Int) ≤ 1048576
  · rw [szv_neg hz0]
    go_wp2
    go_ret
    exact ⟨rfl, hbW⟩
  rw [Decidable.not_not] at hz0
  rw [szv_pos hz0]
  have hk0 : zs0.length ≤ 1048576 := by omega
  go_wp2_with fail
  refine (lawSmy.sz_any A1 c1 zs1 (1048576 - (zs0.length : Nat)) _ (by omega) (by omega) hn1 (hr1.below hbW)).mono ?_
  rintro e w_3 ⟨rfl, hb_w_3⟩
  have hs_w_3 := (hb_w_3).size
  replace hbW := below_step hbW hb_w_3
  replace hBx_aA := hBx_aA.below hb_w_3 hBx_aA.lt
  replace hbc_aA_0 : w_3.cell? ⟨W.heap.size, 0, none⟩ = some (.int .i64 p0) := hBx_aA.cell 0
  replace hbc_aA_1 : w_3.cell? ⟨W.heap.size, 1, none⟩ = some (.slice A0 zs0.length c0) := hBx_aA.cell 1
  replace hBx_aB := hBx_aB.below hb_w_3 hBx_aB.lt
  replace hbc_aB_0 : w_3.cell? ⟨W.heap.size + 1, 0, none⟩ = some (.int .i64 p1) := hBx_aB.cell 0
  replace hbc_aB_1 : w_3.cell? ⟨W.heap.size + 1, 1, none⟩ = some (.slice A1 zs1.length c1) := hBx_aB.cell 1
  by_cases hz1 : ¬ ((zs1.length : Nat) : Int) ≤ 1048576 - (zs0.length : Nat)
  · rw [szv_neg hz1]
    go_wp2
    go_ret
    exact ⟨rfl, hbW⟩
  rw [Decidable.not_not] at hz1
  rw [szv_pos hz1]
  have hk1 : zs1.length ≤ 1048576 := by omega
  have HKC := Lib.hid (fun (w' : World) (h : Below w_3.heap.size w_3 w') => And.intro (cells_below h hbc_aA_0) ( And.intro (cells_below h hbc_aA_1) ( And.intro (cells_below h hbc_aB_0) (cells_below h hbc_aB_1))))
  have HDR := Lib.hid (show Below w_3.heap.size w_3 w_3.drew from below_drewN (Below.refl _ _) 1)
  have HDRA := Lib.hid (show Below w_3.heap.size w_3 (w_3.alloc (.cells #[.int .i64 0, .slice none 0 0] 29)).drew from below_drewN ((Below.refl _ _).alloc (Nat.le_refl _) _) 1)
  have HZ := Lib.hid (show Blk (w_3.alloc (.cells #[.int .i64 0, .slice none 0 0] 29)).drew w_3.heap.size 29 #[.int .i64 0, .slice none 0 0] from Blk.new _ _ _)
  have HTA := Lib.hid (fun (w' : World) (h : Below w_3.heap.size w_3 w') => lawSmy.to_any (p := p0) A0 c0 zs0 w' hk0 ((hr0.below hbW).below h))
  have HTB := Lib.hid (fun (w' : World) (h : Below w_3.heap.size w_3 w') => lawSmy.to_any (p := p1) A1 c1 zs1 w' hk1 ((hr1.below hbW).below h))
  have HSP := Lib.hid (fun (w' : World) (Aa : Option Addr) (ca : Nat) (Ab : Option Addr) (cb : Nat) ha hb => smyMg.spec_any (ca := p0) (cb := p1) Aa ca zs0 Ab cb zs1 w' hk0 ha hk1 hb)
  go_upto_region 8 with fail
  go_cut [6, 7] (fun s1 s2 wx => BoxR w_3 wx s1 (smyMg.resMN p0 p1 zs0 zs1) (smyMg.resM p0 p1 zs0 zs1) ∧ s2 = .bool (smyMg.okM p0 p1 zs0 zs1) ∧ Below w_3.heap.size w_3 wx)
  case first =>
    go_region_held3 (fun w' => w'.cell? ⟨W.heap.size, 0, none⟩ = some (.int .i64 p0) ∧ w'.cell? ⟨W.heap.size, 1, none⟩ = some (.slice A0 zs0.length c0) ∧ w'.cell? ⟨W.heap.size + 1, 0, none⟩ = some (.int .i64 p1) ∧ w'.cell? ⟨W.heap.size + 1, 1, none⟩ = some (.slice A1 zs1.length c1)) (first | exact HKC.out _ hq | exact HKC.out _ (hq.alloc hq.size _) | exact HKC.out _ ((hq.setCell (by first | exact Nat.le_refl _ | exact hq1.size | exact hq2.size) _).setCell (by first | exact Nat.le_refl _ | exact hq1.size | exact hq2.size) _) | go_keep) (first
      | (go_at_call 27; (with_reducible refine (HTA.out _ (by first | exact HDR.out | exact HDRA.out)).mono ?_); rintro e w3 ⟨va, rfl, ho_a, hb3⟩; obtain ⟨A_a, c_a, rfl, _, _, hr_a⟩ := own_form ho_a; have hq1 : Below w_3.heap.size w_3 w3 := (by first | exact below_step HDR.out hb3 | exact below_step HDRA.out hb3); have hq := hq1; try (have hz1 := HZ.out.below hb3 HZ.out.lt))
      | (go_at_call 27; (with_reducible refine (HTB.out _ (by first | exact hq1 | exact hq1.alloc hq1.size _)).mono ?_); rintro e w4 ⟨vb, rfl, ho_b, hb4⟩; obtain ⟨A_b, c_b, rfl, _, _, hr_b⟩ := own_form ho_b; have hq2 : Below w_3.heap.size w_3 w4 := (by first | exact below_step hq1 hb4 | exact below_step (hq1.alloc hq1.size _) hb4); have hq := hq2; have hr_a2 : Rd w4 3 A_a zs0.length (rkvs zs0) := (by first | exact hr_a.below hb4 | exact (hr_a.alloc (.cells #[.int .i64 0, .slice none 0 0] 29)).below hb4); first | (have hz2 := hz1.below hb4 hz1.lt) | (have hz2 := (Blk.new w3 29 #[.int .i64 0, .slice none 0 0]).below hb4 (by simp)) | skip)
      | (go_at_call 41; (with_reducible refine (HSP.out _ A_a c_a A_b c_b (by first | exact hr_a2 | exact hr_a2.alloc _) (by first | exact hr_b | exact hr_b.alloc _)).mono ?_); rintro e w5 ⟨v5, n5, rfl, hn5, ho5, hb5⟩; obtain ⟨A5, c5, hve5, _, _, _⟩ := own_form ho5.1; subst hve5; have hq3 : Below w_3.heap.size w_3 w5 := (by first | exact below_step hq2 hb5 | exact below_step (hq2.alloc hq2.size _) hb5); have hq := hq3; (first | (have hz3 := hz2.below hb5 hz2.lt; have f0 : w5.cell? ⟨_, 0, none⟩ = _ := hz3.cell 0; have f1 : w5.cell? ⟨_, 1, none⟩ = _ := hz3.cell 1; have f2 := hz3.thaw 0; have f3 := hz3.thaw 1) | (have hz3 := (Blk.new w4 29 #[.int .i64 0, .slice none 0 0]).below hb5 (by simp); have f0 : w5.cell? ⟨w4.heap.size, 0, none⟩ = some (.int .i64 0) := hz3.cell 0; have f1 : w5.cell? ⟨w4.heap.size, 1, none⟩ = some (.slice none 0 0) := hz3.cell 1; have f2 := hz3.thaw 0; have f3 := hz3.thaw 1) | skip)))
    all_goals (go_wp2_with fail; go_meet; subst hn5; first | exact ⟨BoxR.late ho5 hq2.size hb5.size, rfl, hq3.alloc hq3.size _⟩ | exact ⟨BoxR.early hz3 ho5 (by first | exact hz2.lt | simp) (by first | exact Nat.le_refl _ | exact hq1.size | exact hq2.size), rfl, (hq3.setCell (by first | exact Nat.le_refl _ | exact hq1.size | exact hq2.size) _).setCell (by first | exact Nat.le_refl _ | exact hq1.size | exact hq2.size) _⟩)
  obtain ⟨⟨g_w0, v_w0, b_w0, u_w0, rfl, hBx_w0, ho_w0, hk_w0, hl_w0, hg_w0, hcb_w0, hcg_w0, hcu_w0⟩, rfl, hb_w0⟩ := hcut
  obtain ⟨A_w0, c_w0, rfl, hnc_w0, hcm_w0, _⟩ := own_form ho_w0
  obtain ⟨n_w0, hn_w0⟩ : ∃ n : Int, n = smyMg.resMN p0 p1 zs0 zs1 := ⟨_, rfl⟩
  rw [← hn_w0] at hBx_w0
  clear HKC HDR HDRA HZ HTA HTB HSP
  obtain ⟨w_4, hwq⟩ : ∃ x : World, x = wc := ⟨_, rfl⟩
  subst hwq
  have hm_w0 := Nat.le_trans hnc_w0 hcm_w0
  have hlx_w0 := hBx_w0.lt
  have hs_w_4 := (hb_w0).size
  replace hbW := below_step hbW hb_w0
  replace hBx_aA := hBx_aA.below hb_w0 hBx_aA.lt
  replace hbc_aA_0 : w_4.cell? ⟨W.heap.size, 0, none⟩ = some (.int .i64 p0) := hBx_aA.cell 0
  replace hbc_aA_1 : w_4.cell? ⟨W.heap.size, 1, none⟩ = some (.slice A0 zs0.length c0) := hBx_aA.cell 1
  replace hBx_aB := hBx_aB.below hb_w0 hBx_aB.lt
  replace hbc_aB_0 : w_4.cell? ⟨W.heap.size + 1, 0, none⟩ = some (.int .i64 p1) := hBx_aB.cell 0
  replace hbc_aB_1 : w_4.cell? ⟨W.heap.size + 1, 1, none⟩ = some (.slice A1 zs1.length c1) := hBx_aB.cell 1
  have HN_w0 := Lib.hid hn_w0
  clear hn_w0
  have hbc_w0_0 : w_4.cell? ⟨g_w0, 0, none⟩ = some (.int .i64 n_w0) := hBx_w0.cell 0
  have hbc_w0_1 : w_4.cell? ⟨g_w0, 1, none⟩ = some (.slice A_w0 _ c_w0) := hBx_w0.cell 1
  go_wp2_with fail
  refine (lawSmy.to_any A0 c0 zs0 _ hk0 (hr0.below hbW)).mono ?_
  rintro e w_5 ⟨v_t1, rfl, ho_t1, hb_w_5⟩
  have hs_w_5 := (hb_w_5).size
  replace hbW := below_step hbW hb_w_5
  replace ho_w0 := own_below ho_w0 hb_w_5
  replace hBx_aA := hBx_aA.below hb_w_5 hBx_aA.lt
  replace hbc_aA_0 : w_5.cell? ⟨W.heap.size, 0, none⟩ = some (.int .i64 p0) := hBx_aA.cell 0
  replace hbc_aA_1 : w_5.cell? ⟨W.heap.size, 1, none⟩ = some (.slice A0 zs0.length c0) := hBx_aA.cell 1
  replace hBx_aB := hBx_aB.below hb_w_5 hBx_aB.lt
  replace hbc_aB_0 : w_5.cell? ⟨W.heap.size + 1, 0, none⟩ = some (.int .i64 p1) := hBx_aB.cell 0
  replace hbc_aB_1 : w_5.cell? ⟨W.heap.size + 1, 1, none⟩ = some (.slice A1 zs1.length c1) := hBx_aB.cell 1
  replace hBx_w0 := hBx_w0.below hb_w_5 hBx_w0.lt
  replace hbc_w0_0 : w_5.cell? ⟨g_w0, 0, none⟩ = some (.int .i64 n_w0) := hBx_w0.cell 0
  replace hbc_w0_1 : w_5.cell? ⟨g_w0, 1, none⟩ = some (.slice A_w0 _ c_w0) := hBx_w0.cell 1
  have hl_t1 := (ho_t1).lt
  obtain ⟨A_t1, c_t1, rfl, hnc_t1, hcm_t1, _⟩ := own_form ho_t1
  have hm_t1 : zs0.length ≤ maxLen := Nat.le_trans hnc_t1 hcm_t1
  have ho_x0 := ho_t1
  have hl_x0 := hl_t1
  have hm_x0 := hm_t1
  clear ho_t1 hl_t1 hm_t1
  have hbz_aA_0 := fun (o : Obj) => cells_below (w' := w_5.alloc o) ((Below.refl _ _).alloc (Nat.le_refl _) o) hbc_aA_0
  have hbz_aA_1 := fun (o : Obj) => cells_below (w' := w_5.alloc o) ((Below.refl _ _).alloc (Nat.le_refl _) o) hbc_aA_1
  have hbz_aB_0 := fun (o : Obj) => cells_below (w' := w_5.alloc o) ((Below.refl _ _).alloc (Nat.le_refl _) o) hbc_aB_0
  have hbz_aB_1 := fun (o : Obj) => cells_below (w' := w_5.alloc o) ((Below.refl _ _).alloc (Nat.le_refl _) o) hbc_aB_1
  have hbz_w0_0 := fun (o : Obj) => cells_below (w' := w_5.alloc o) ((Below.refl _ _).alloc (Nat.le_refl _) o) hbc_w0_0
  have hbz_w0_1 := fun (o : Obj) => cells_below (w' := w_5.alloc o) ((Below.refl _ _).alloc (Nat.le_refl _) o) hbc_w0_1
  go_wp2_with fail
  clear hbz_aA_0 hbz_aA_1 hbz_aB_0 hbz_aB_1 hbz_w0_0 hbz_w0_1
  obtain ⟨w_7, hwb⟩ : ∃ x : World, x = (w_5.alloc (.cells #[.int .i64 p0, .slice A_t1 zs0.length c_t1] 29)) := ⟨_, rfl⟩
  rw [← hwb]
  have hb_w_7 : Below w_5.heap.size w_5 w_7 := by rw [hwb]; exact (Below.refl _ _).alloc (Nat.le_refl _) _
  have hBx_x0 : Blk w_7 (w_5.heap.size) 29 #[.int .i64 p0, .slice A_t1 zs0.length c_t1] := by rw [hwb]; exact Blk.new _ _ _
  have hlx_x0 := hBx_x0.lt
  have hbc_x0_0 : w_7.cell? ⟨w_5.heap.size, 0, none⟩ = some (.int .i64 p0) := hBx_x0.cell 0
  have hbc_x0_1 : w_7.cell? ⟨w_5.heap.size, 1, none⟩ = some (.slice A_t1 zs0.length c_t1) := hBx_x0.cell 1
  clear hwb
  have hs_w_7 := (hb_w_7).size
  replace hbW := below_step hbW hb_w_7
  replace ho_w0 := own_below ho_w0 hb_w_7
  replace ho_x0 := own_below ho_x0 hb_w_7
  replace hBx_aA := hBx_aA.below hb_w_7 hBx_aA.lt
  replace hbc_aA_0 : w_7.cell? ⟨W.heap.size, 0, none⟩ = some (.int .i64 p0) := hBx_aA.cell 0
  replace hbc_aA_1 : w_7.cell? ⟨W.heap.size, 1, none⟩ = some (.slice A0 zs0.length c0) := hBx_aA.cell 1
  replace hBx_aB := hBx_aB.below hb_w_7 hBx_aB.lt
  replace hbc_aB_0 : w_7.cell? ⟨W.heap.size + 1, 0, none⟩ = some (.int .i64 p1) := hBx_aB.cell 0
  replace hbc_aB_1 : w_7.cell? ⟨W.heap.size + 1, 1, none⟩ = some (.slice A1 zs1.length c1) := hBx_aB.cell 1
  replace hBx_w0 := hBx_w0.below hb_w_7 hBx_w0.lt
  replace hbc_w0_0 : w_7.cell? ⟨g_w0, 0, none⟩ = some (.int .i64 n_w0) := hBx_w0.cell 0
  replace hbc_w0_1 : w_7.cell? ⟨g_w0, 1, none⟩ = some (.slice A_w0 _ c_w0) := hBx_w0.cell 1
  refine (lawSmy.to_any A1 c1 zs1 _ hk1 (hr1.below hbW)).mono ?_
  rintro e w_6 ⟨v_t2, rfl, ho_t2, hb_w_6⟩
  have hs_w_6 := (hb_w_6).size
  replace hbW := below_step hbW hb_w_6
  replace ho_w0 := own_below ho_w0 hb_w_6
  replace ho_x0 := own_below ho_x0 hb_w_6
  replace hBx_aA := hBx_aA.below hb_w_6 hBx_aA.lt
  replace hbc_aA_0 : w_6.cell? ⟨W.heap.size, 0, none⟩ = some (.int .i64 p0) := hBx_aA.cell 0
  replace hbc_aA_1 : w_6.cell? ⟨W.heap.size, 1, none⟩ = some (.slice A0 zs0.length c0) := hBx_aA.cell 1
  replace hBx_aB := hBx_aB.below hb_w_6 hBx_aB.lt
  replace hbc_aB_0 : w_6.cell? ⟨W.heap.size + 1, 0, none⟩ = some (.int .i64 p1) := hBx_aB.cell 0
  replace hbc_aB_1 : w_6.cell? ⟨W.heap.size + 1, 1, none⟩ = some (.slice A1 zs1.length c1) := hBx_aB.cell 1
  replace hBx_w0 := hBx_w0.below hb_w_6 hBx_w0.lt
  replace hbc_w0_0 : w_6.cell? ⟨g_w0, 0, none⟩ = some (.int .i64 n_w0) := hBx_w0.cell 0
  replace hbc_w0_1 : w_6.cell? ⟨g_w0, 1, none⟩ = some (.slice A_w0 _ c_w0) := hBx_w0.cell 1
  replace hBx_x0 := hBx_x0.below hb_w_6 hBx_x0.lt
  replace hbc_x0_0 : w_6.cell? ⟨w_5.heap.size, 0, none⟩ = some (.int .i64 p0) := hBx_x0.cell 0
  replace hbc_x0_1 : w_6.cell? ⟨w_5.heap.size, 1, none⟩ = some (.slice A_t1 zs0.length c_t1) := hBx_x0.cell 1
  have hl_t2 := (ho_t2).lt
  obtain ⟨A_t2, c_t2, rfl, hnc_t2, hcm_t2, _⟩ := own_form ho_t2
  have hm_t2 : zs1.length ≤ maxLen := Nat.le_trans hnc_t2 hcm_t2
  have ho_x1 := ho_t2
  have hl_x1 := hl_t2
  have hm_x1 := hm_t2
  clear ho_t2 hl_t2 hm_t2
  have hbz_aA_0 := fun (o : Obj) => cells_below (w' := w_6.alloc o) ((Below.refl _ _).alloc (Nat.le_refl _) o) hbc_aA_0
  have hbz_aA_1 := fun (o : Obj) => cells_below (w' := w_6.alloc o) ((Below.refl _ _).alloc (Nat.le_refl _) o) hbc_aA_1
  have hbz_aB_0 := fun (o : Obj) => cells_below (w' := w_6.alloc o) ((Below.refl _ _).alloc (Nat.le_refl _) o) hbc_aB_0
  have hbz_aB_1 := fun (o : Obj) => cells_below (w' := w_6.alloc o) ((Below.refl _ _).alloc (Nat.le_refl _) o) hbc_aB_1
  have hbz_w0_0 := fun (o : Obj) => cells_below (w' := w_6.alloc o) ((Below.refl _ _).alloc (Nat.le_refl _) o) hbc_w0_0
  have hbz_w0_1 := fun (o : Obj) => cells_below (w' := w_6.alloc o) ((Below.refl _ _).alloc (Nat.le_refl _) o) hbc_w0_1
  have hbz_x0_0 := fun (o : Obj) => cells_below (w' := w_6.alloc o) ((Below.refl _ _).alloc (Nat.le_refl _) o) hbc_x0_0
  have hbz_x0_1 := fun (o : Obj) => cells_below (w' := w_6.alloc o) ((Below.refl _ _).alloc (Nat.le_refl _) o) hbc_x0_1
  go_wp2_with fail
  clear hbz_aA_0 hbz_aA_1 hbz_aB_0 hbz_aB_1 hbz_w0_0 hbz_w0_1 hbz_x0_0 hbz_x0_1
  obtain ⟨w_8, hwb⟩ : ∃ x : World, x = (w_6.alloc (.cells #[.int .i64 p1, .slice A_t2 zs1.length c_t2] 29)) := ⟨_, rfl⟩
  rw [← hwb]
  have hb_w_8 : Below w_6.heap.size w_6 w_8 := by rw [hwb]; exact (Below.refl _ _).alloc (Nat.le_refl _) _
  have hBx_x1 : Blk w_8 (w_6.heap.size) 29 #[.int .i64 p1, .slice A_t2 zs1.length c_t2] := by rw [hwb]; exact Blk.new _ _ _
  have hlx_x1 := hBx_x1.lt
  have hbc_x1_0 : w_8.cell? ⟨w_6.heap.size, 0, none⟩ = some (.int .i64 p1) := hBx_x1.cell 0
  have hbc_x1_1 : w_8.cell? ⟨w_6.heap.size, 1, none⟩ = some (.slice A_t2 zs1.length c_t2) := hBx_x1.cell 1
  clear hwb
  have hs_w_8 := (hb_w_8).size
  replace hbW := below_step hbW hb_w_8
  replace ho_w0 := own_below ho_w0 hb_w_8
  replace ho_x0 := own_below ho_x0 hb_w_8
  replace ho_x1 := own_below ho_x1 hb_w_8
  replace hBx_aA := hBx_aA.below hb_w_8 hBx_aA.lt
  replace hbc_aA_0 : w_8.cell? ⟨W.heap.size, 0, none⟩ = some (.int .i64 p0) := hBx_aA.cell 0
  replace hbc_aA_1 : w_8.cell? ⟨W.heap.size, 1, none⟩ = some (.slice A0 zs0.length c0) := hBx_aA.cell 1
  replace hBx_aB := hBx_aB.below hb_w_8 hBx_aB.lt
  replace hbc_aB_0 : w_8.cell? ⟨W.heap.size + 1, 0, none⟩ = some (.int .i64 p1) := hBx_aB.cell 0
  replace hbc_aB_1 : w_8.cell? ⟨W.heap.size + 1, 1, none⟩ = some (.slice A1 zs1.length c1) := hBx_aB.cell 1
  replace hBx_w0 := hBx_w0.below hb_w_8 hBx_w0.lt
  replace hbc_w0_0 : w_8.cell? ⟨g_w0, 0, none⟩ = some (.int .i64 n_w0) := hBx_w0.cell 0
  replace hbc_w0_1 : w_8.cell? ⟨g_w0, 1, none⟩ = some (.slice A_w0 _ c_w0) := hBx_w0.cell 1
  replace hBx_x0 := hBx_x0.below hb_w_8 hBx_x0.lt
  replace hbc_x0_0 : w_8.cell? ⟨w_5.heap.size, 0, none⟩ = some (.int .i64 p0) := hBx_x0.cell 0
  replace hbc_x0_1 : w_8.cell? ⟨w_5.heap.size, 1, none⟩ = some (.slice A_t1 zs0.length c_t1) := hBx_x0.cell 1
  refine (smyMg.impl_any A_t1 c_t1 zs0 A_t2 c_t2 zs1 _ hk0 (own_rd ho_x0) hk1 (own_rd ho_x1)).mono ?_
  rintro e w_9 ⟨v_g0, n_g0, rfl, hn_g0, ⟨ho_g0, hk_g0⟩, hb_w_9⟩
  obtain rfl : n_w0 = n_g0 := HN_w0.out.trans hn_g0.symm
  clear hn_g0
  have hs_w_9 := (hb_w_9).size
  replace hbW := below_step hbW hb_w_9
  replace ho_w0 := own_below ho_w0 hb_w_9
  replace ho_x0 := own_below ho_x0 hb_w_9
  replace ho_x1 := own_below ho_x1 hb_w_9
  replace hBx_aA := hBx_aA.below hb_w_9 hBx_aA.lt
  replace hbc_aA_0 : w_9.cell? ⟨W.heap.size, 0, none⟩ = some (.int .i64 p0) := hBx_aA.cell 0
  replace hbc_aA_1 : w_9.cell? ⟨W.heap.size, 1, none⟩ = some (.slice A0 zs0.length c0) := hBx_aA.cell 1
  replace hBx_aB := hBx_aB.below hb_w_9 hBx_aB.lt
  replace hbc_aB_0 : w_9.cell? ⟨W.heap.size + 1, 0, none⟩ = some (.int .i64 p1) := hBx_aB.cell 0
  replace hbc_aB_1 : w_9.cell? ⟨W.heap.size + 1, 1, none⟩ = some (.slice A1 zs1.length c1) := hBx_aB.cell 1
  replace hBx_w0 := hBx_w0.below hb_w_9 hBx_w0.lt
  replace hbc_w0_0 : w_9.cell? ⟨g_w0, 0, none⟩ = some (.int .i64 n_w0) := hBx_w0.cell 0
  replace hbc_w0_1 : w_9.cell? ⟨g_w0, 1, none⟩ = some (.slice A_w0 _ c_w0) := hBx_w0.cell 1
  replace hBx_x0 := hBx_x0.below hb_w_9 hBx_x0.lt
  replace hbc_x0_0 : w_9.cell? ⟨w_5.heap.size, 0, none⟩ = some (.int .i64 p0) := hBx_x0.cell 0
  replace hbc_x0_1 : w_9.cell? ⟨w_5.heap.size, 1, none⟩ = some (.slice A_t1 zs0.length c_t1) := hBx_x0.cell 1
  replace hBx_x1 := hBx_x1.below hb_w_9 hBx_x1.lt
  replace hbc_x1_0 : w_9.cell? ⟨w_6.heap.size, 0, none⟩ = some (.int .i64 p1) := hBx_x1.cell 0
  replace hbc_x1_1 : w_9.cell? ⟨w_6.heap.size, 1, none⟩ = some (.slice A_t2 zs1.length c_t2) := hBx_x1.cell 1
  have hl_g0 := (ho_g0).lt
  obtain ⟨A_g0, c_g0, rfl, hnc_g0, hcm_g0, _⟩ := own_form ho_g0
  have hm_g0 := Nat.le_trans hnc_g0 hcm_g0
  have hbz_aA_0 := fun (o : Obj) => cells_below (w' := w_9.alloc o) ((Below.refl _ _).alloc (Nat.le_refl _) o) hbc_aA_0
  have hbz_aA_1 := fun (o : Obj) => cells_below (w' := w_9.alloc o) ((Below.refl _ _).alloc (Nat.le_refl _) o) hbc_aA_1
  have hbz_aB_0 := fun (o : Obj) => cells_below (w' := w_9.alloc o) ((Below.refl _ _).alloc (Nat.le_refl _) o) hbc_aB_0
  have hbz_aB_1 := fun (o : Obj) => cells_below (w' := w_9.alloc o) ((Below.refl _ _).alloc (Nat.le_refl _) o) hbc_aB_1
  have hbz_w0_0 := fun (o : Obj) => cells_below (w' := w_9.alloc o) ((Below.refl _ _).alloc (Nat.le_refl _) o) hbc_w0_0
  have hbz_w0_1 := fun (o : Obj) => cells_below (w' := w_9.alloc o) ((Below.refl _ _).alloc (Nat.le_refl _) o) hbc_w0_1
  have hbz_x0_0 := fun (o : Obj) => cells_below (w' := w_9.alloc o) ((Below.refl _ _).alloc (Nat.le_refl _) o) hbc_x0_0
  have hbz_x0_1 := fun (o : Obj) => cells_below (w' := w_9.alloc o) ((Below.refl _ _).alloc (Nat.le_refl _) o) hbc_x0_1
  have hbz_x1_0 := fun (o : Obj) => cells_below (w' := w_9.alloc o) ((Below.refl _ _).alloc (Nat.le_refl _) o) hbc_x1_0
  have hbz_x1_1 := fun (o : Obj) => cells_below (w' := w_9.alloc o) ((Below.refl _ _).alloc (Nat.le_refl _) o) hbc_x1_1
  go_wp2_with fail
  clear hbz_aA_0 hbz_aA_1 hbz_aB_0 hbz_aB_1 hbz_w0_0 hbz_w0_1 hbz_x0_0 hbz_x0_1 hbz_x1_0 hbz_x1_1
  obtain ⟨w_10, hwb, hBx_g0⟩ := box_of ho_g0 w_9 (.int .i64 n_w0) 29
  rw [← hwb]
  have hb_w_10 : Below w_9.heap.size w_9 w_10 := by rw [hwb]; exact (Below.refl _ _).alloc (Nat.le_refl _) _
  have hlx_g0 := hBx_g0.lt
  have hbc_g0_0 : w_10.cell? ⟨w_9.heap.size, 0, none⟩ = some (.int .i64 n_w0) := hBx_g0.cell 0
  have hbc_g0_1 : w_10.cell? ⟨w_9.heap.size, 1, none⟩ = some (.slice A_g0 _ c_g0) := hBx_g0.cell 1
  clear hwb
  have hs_w_10 := (hb_w_10).size
  replace hbW := below_step hbW hb_w_10
  replace ho_w0 := own_below ho_w0 hb_w_10
  replace ho_x0 := own_below ho_x0 hb_w_10
  replace ho_x1 := own_below ho_x1 hb_w_10
  replace ho_g0 := own_below ho_g0 hb_w_10
  replace hBx_aA := hBx_aA.below hb_w_10 hBx_aA.lt
  replace hbc_aA_0 : w_10.cell? ⟨W.heap.size, 0, none⟩ = some (.int .i64 p0) := hBx_aA.cell 0
  replace hbc_aA_1 : w_10.cell? ⟨W.heap.size, 1, none⟩ = some (.slice A0 zs0.length c0) := hBx_aA.cell 1
  replace hBx_aB := hBx_aB.below hb_w_10 hBx_aB.lt
  replace hbc_aB_0 : w_10.cell? ⟨W.heap.size + 1, 0, none⟩ = some (.int .i64 p1) := hBx_aB.cell 0
  replace hbc_aB_1 : w_10.cell? ⟨W.heap.size + 1, 1, none⟩ = some (.slice A1 zs1.length c1) := hBx_aB.cell 1
  replace hBx_w0 := hBx_w0.below hb_w_10 hBx_w0.lt
  replace hbc_w0_0 : w_10.cell? ⟨g_w0, 0, none⟩ = some (.int .i64 n_w0) := hBx_w0.cell 0
  replace hbc_w0_1 : w_10.cell? ⟨g_w0, 1, none⟩ = some (.slice A_w0 _ c_w0) := hBx_w0.cell 1
  replace hBx_x0 := hBx_x0.below hb_w_10 hBx_x0.lt
  replace hbc_x0_0 : w_10.cell? ⟨w_5.heap.size, 0, none⟩ = some (.int .i64 p0) := hBx_x0.cell 0
  replace hbc_x0_1 : w_10.cell? ⟨w_5.heap.size, 1, none⟩ = some (.slice A_t1 zs0.length c_t1) := hBx_x0.cell 1
  replace hBx_x1 := hBx_x1.below hb_w_10 hBx_x1.lt
  replace hbc_x1_0 : w_10.cell? ⟨w_6.heap.size, 0, none⟩ = some (.int .i64 p1) := hBx_x1.cell 0
  replace hbc_x1_1 : w_10.cell? ⟨w_6.heap.size, 1, none⟩ = some (.slice A_t2 zs1.length c_t2) := hBx_x1.cell 1
  refine (lawSmy.eqB _ _ _ _ _ _ _ hm_g0 hm_w0 (own_rd ho_g0) (own_rd ho_w0)).mono ?_
  rintro e w_11 ⟨rfl, hb_w_11⟩
  have hs_w_11 := (hb_w_11).size
  replace hbW := below_step hbW hb_w_11
  replace ho_w0 := own_below ho_w0 hb_w_11
  replace ho_x0 := own_below ho_x0 hb_w_11
  replace ho_x1 := own_below ho_x1 hb_w_11
  replace ho_g0 := own_below ho_g0 hb_w_11
  replace hBx_aA := hBx_aA.below hb_w_11 hBx_aA.lt
  replace hbc_aA_0 : w_11.cell? ⟨W.heap.size, 0, none⟩ = some (.int .i64 p0) := hBx_aA.cell 0
  replace hbc_aA_1 : w_11.cell? ⟨W.heap.size, 1, none⟩ = some (.slice A0 zs0.length c0) := hBx_aA.cell 1
  replace hBx_aB := hBx_aB.below hb_w_11 hBx_aB.lt
  replace hbc_aB_0 : w_11.cell? ⟨W.heap.size + 1, 0, none⟩ = some (.int .i64 p1) := hBx_aB.cell 0
  replace hbc_aB_1 : w_11.cell? ⟨W.heap.size + 1, 1, none⟩ = some (.slice A1 zs1.length c1) := hBx_aB.cell 1
  replace hBx_w0 := hBx_w0.below hb_w_11 hBx_w0.lt
  replace hbc_w0_0 : w_11.cell? ⟨g_w0, 0, none⟩ = some (.int .i64 n_w0) := hBx_w0.cell 0
  replace hbc_w0_1 : w_11.cell? ⟨g_w0, 1, none⟩ = some (.slice A_w0 _ c_w0) := hBx_w0.cell 1
  replace hBx_x0 := hBx_x0.below hb_w_11 hBx_x0.lt
  replace hbc_x0_0 : w_11.cell? ⟨w_5.heap.size, 0, none⟩ = some (.int .i64 p0) := hBx_x0.cell 0
  replace hbc_x0_1 : w_11.cell? ⟨w_5.heap.size, 1, none⟩ = some (.slice A_t1 zs0.length c_t1) := hBx_x0.cell 1
  replace hBx_x1 := hBx_x1.below hb_w_11 hBx_x1.lt
  replace hbc_x1_0 : w_11.cell? ⟨w_6.heap.size, 0, none⟩ = some (.int .i64 p1) := hBx_x1.cell 0
  replace hbc_x1_1 : w_11.cell? ⟨w_6.heap.size, 1, none⟩ = some (.slice A_t2 zs1.length c_t2) := hBx_x1.cell 1
  replace hBx_g0 := hBx_g0.below hb_w_11 hBx_g0.lt
  replace hbc_g0_0 : w_11.cell? ⟨w_9.heap.size, 0, none⟩ = some (.int .i64 n_w0) := hBx_g0.cell 0
  replace hbc_g0_1 : w_11.cell? ⟨w_9.heap.size, 1, none⟩ = some (.slice A_g0 _ c_g0) := hBx_g0.cell 1
  go_wp2_with fail
  have HKC := Lib.hid (fun (w' : World) (h : Below w_11.heap.size w_11 w') => And.intro (cells_below h hbc_aA_0) ( And.intro (cells_below h hbc_aA_1) ( And.intro (cells_below h hbc_x0_0) (cells_below h hbc_x0_1))))
  go_region_held3 (fun w' => w'.cell? ⟨W.heap.size, 0, none⟩ = some (.int .i64 p0) ∧ w'.cell? ⟨W.heap.size, 1, none⟩ = some (.slice A0 zs0.length c0) ∧ w'.cell? ⟨w_5.heap.size, 0, none⟩ = some (.int .i64 p0) ∧ w'.cell? ⟨w_5.heap.size, 1, none⟩ = some (.slice A_t1 zs0.length c_t1)) (first | exact HKC.out _ hq_b | exact HKC.out _ hq_a | go_keep) (first
    | (go_at_call 27; refine (lawSmy.to_any A0 c0 zs0 _ hk0 (by exact hr0.below (below_drewN hbW 1))).mono ?_; rintro e w_12 ⟨v_a, rfl, ho_a, hb_a⟩; obtain ⟨A_a, c_a, rfl, hnc_a, hcm_a, _⟩ := own_form ho_a; have hq_a : Below w_11.heap.size w_11 w_12 := ⟨hb_a.os, hb_a.tape, hb_a.output, hb_a.size, hb_a.block⟩)
    | (go_at_call 28; refine (lawSmy.eqB _ _ _ _ _ _ _ hm_x0 (Nat.le_trans hnc_a hcm_a) (by exact (own_rd ho_x0).below hq_a) (by exact own_rd ho_a)).mono ?_; rintro e w_13 ⟨rfl, hb_b⟩; have hq_b : Below w_11.heap.size w_11 w_13 := below_step hq_a hb_b))
  clear HKC
  have hs_w_13 := (hq_b).size
  replace hbW := below_step hbW hq_b
  replace ho_w0 := own_below ho_w0 hq_b
  replace ho_x0 := own_below ho_x0 hq_b
  replace ho_x1 := own_below ho_x1 hq_b
  replace ho_g0 := own_below ho_g0 hq_b
  replace hBx_aA := hBx_aA.below hq_b hBx_aA.lt
  replace hbc_aA_0 : w_13.cell? ⟨W.heap.size, 0, none⟩ = some (.int .i64 p0) := hBx_aA.cell 0
  replace hbc_aA_1 : w_13.cell? ⟨W.heap.size, 1, none⟩ = some (.slice A0 zs0.length c0) := hBx_aA.cell 1
  replace hBx_aB := hBx_aB.below hq_b hBx_aB.lt
  replace hbc_aB_0 : w_13.cell? ⟨W.heap.size + 1, 0, none⟩ = some (.int .i64 p1) := hBx_aB.cell 0
  replace hbc_aB_1 : w_13.cell? ⟨W.heap.size + 1, 1, none⟩ = some (.slice A1 zs1.length c1) := hBx_aB.cell 1
  replace hBx_w0 := hBx_w0.below hq_b hBx_w0.lt
  replace hbc_w0_0 : w_13.cell? ⟨g_w0, 0, none⟩ = some (.int .i64 n_w0) := hBx_w0.cell 0
  replace hbc_w0_1 : w_13.cell? ⟨g_w0, 1, none⟩ = some (.slice A_w0 _ c_w0) := hBx_w0.cell 1
  replace hBx_x0 := hBx_x0.below hq_b hBx_x0.lt
  replace hbc_x0_0 : w_13.cell? ⟨w_5.heap.size, 0, none⟩ = some (.int .i64 p0) := hBx_x0.cell 0
  replace hbc_x0_1 : w_13.cell? ⟨w_5.heap.size, 1, none⟩ = some (.slice A_t1 zs0.length c_t1) := hBx_x0.cell 1
  replace hBx_x1 := hBx_x1.below hq_b hBx_x1.lt
  replace hbc_x1_0 : w_13.cell? ⟨w_6.heap.size, 0, none⟩ = some (.int .i64 p1) := hBx_x1.cell 0
  replace hbc_x1_1 : w_13.cell? ⟨w_6.heap.size, 1, none⟩ = some (.slice A_t2 zs1.length c_t2) := hBx_x1.cell 1
  replace hBx_g0 := hBx_g0.below hq_b hBx_g0.lt
  replace hbc_g0_0 : w_13.cell? ⟨w_9.heap.size, 0, none⟩ = some (.int .i64 n_w0) := hBx_g0.cell 0
  replace hbc_g0_1 : w_13.cell? ⟨w_9.heap.size, 1, none⟩ = some (.slice A_g0 _ c_g0) := hBx_g0.cell 1
  go_wp2_with fail
  have HKC := Lib.hid (fun (w' : World) (h : Below w_13.heap.size w_13 w') => And.intro (cells_below h hbc_aB_0) ( And.intro (cells_below h hbc_aB_1) ( And.intro (cells_below h hbc_x1_0) (cells_below h hbc_x1_1))))
  go_region_held3 (fun w' => w'.cell? ⟨W.heap.size + 1, 0, none⟩ = some (.int .i64 p1) ∧ w'.cell? ⟨W.heap.size + 1, 1, none⟩ = some (.slice A1 zs1.length c1) ∧ w'.cell? ⟨w_6.heap.size, 0, none⟩ = some (.int .i64 p1) ∧ w'.cell? ⟨w_6.heap.size, 1, none⟩ = some (.slice A_t2 zs1.length c_t2)) (first | exact HKC.out _ hq_b | exact HKC.out _ hq_a | go_keep) (first
    | (go_at_call 27; refine (lawSmy.to_any A1 c1 zs1 _ hk1 (by exact hr1.below (below_drewN hbW 1))).mono ?_; rintro e w_14 ⟨v_a, rfl, ho_a, hb_a⟩; obtain ⟨A_a, c_a, rfl, hnc_a, hcm_a, _⟩ := own_form ho_a; have hq_a : Below w_13.heap.size w_13 w_14 := ⟨hb_a.os, hb_a.tape, hb_a.output, hb_a.size, hb_a.block⟩)
    | (go_at_call 28; refine (lawSmy.eqB _ _ _ _ _ _ _ hm_x1 (Nat.le_trans hnc_a hcm_a) (by exact (own_rd ho_x1).below hq_a) (by exact own_rd ho_a)).mono ?_; rintro e w_15 ⟨rfl, hb_b⟩; have hq_b : Below w_13.heap.size w_13 w_15 := below_step hq_a hb_b))
  clear HKC
  have hs_w_15 := (hq_b).size
  replace hbW := below_step hbW hq_b
  replace ho_w0 := own_below ho_w0 hq_b
  replace ho_x0 := own_below ho_x0 hq_b
  replace ho_x1 := own_below ho_x1 hq_b
  replace ho_g0 := own_below ho_g0 hq_b
  replace hBx_aA := hBx_aA.below hq_b hBx_aA.lt
  replace hbc_aA_0 : w_15.cell? ⟨W.heap.size, 0, none⟩ = some (.int .i64 p0) := hBx_aA.cell 0
  replace hbc_aA_1 : w_15.cell? ⟨W.heap.size, 1, none⟩ = some (.slice A0 zs0.length c0) := hBx_aA.cell 1
  replace hBx_aB := hBx_aB.below hq_b hBx_aB.lt
  replace hbc_aB_0 : w_15.cell? ⟨W.heap.size + 1, 0, none⟩ = some (.int .i64 p1) := hBx_aB.cell 0
  replace hbc_aB_1 : w_15.cell? ⟨W.heap.size + 1, 1, none⟩ = some (.slice A1 zs1.length c1) := hBx_aB.cell 1
  replace hBx_w0 := hBx_w0.below hq_b hBx_w0.lt
  replace hbc_w0_0 : w_15.cell? ⟨g_w0, 0, none⟩ = some (.int .i64 n_w0) := hBx_w0.cell 0
  replace hbc_w0_1 : w_15.cell? ⟨g_w0, 1, none⟩ = some (.slice A_w0 _ c_w0) := hBx_w0.cell 1
  replace hBx_x0 := hBx_x0.below hq_b hBx_x0.lt
  replace hbc_x0_0 : w_15.cell? ⟨w_5.heap.size, 0, none⟩ = some (.int .i64 p0) := hBx_x0.cell 0
  replace hbc_x0_1 : w_15.cell? ⟨w_5.heap.size, 1, none⟩ = some (.slice A_t1 zs0.length c_t1) := hBx_x0.cell 1
  replace hBx_x1 := hBx_x1.below hq_b hBx_x1.lt
  replace hbc_x1_0 : w_15.cell? ⟨w_6.heap.size, 0, none⟩ = some (.int .i64 p1) := hBx_x1.cell 0
  replace hbc_x1_1 : w_15.cell? ⟨w_6.heap.size, 1, none⟩ = some (.slice A_t2 zs1.length c_t2) := hBx_x1.cell 1
  replace hBx_g0 := hBx_g0.below hq_b hBx_g0.lt
  replace hbc_g0_0 : w_15.cell? ⟨w_9.heap.size, 0, none⟩ = some (.int .i64 n_w0) := hBx_g0.cell 0
  replace hbc_g0_1 : w_15.cell? ⟨w_9.heap.size, 1, none⟩ = some (.slice A_g0 _ c_g0) := hBx_g0.cell 1
  go_wp2_with fail
  refine (lawSmy.mark_any _ _ _ _ _ _ _ (by omega) (by omega) ho_x0).mono ?_
  rintro e w_16 ⟨rfl, hq_w_16, hg_w_16⟩
  have hs_w_16 := hg_w_16.size
  replace ho_w0 := ho_w0.kept hg_w_16 (sep hl_w0 hl_x0 (by omega))
  replace ho_x1 := ho_x1.kept hg_w_16 (sep hl_x1 hl_x0 (by omega))
  replace ho_g0 := ho_g0.kept hg_w_16 (sep hl_g0 hl_x0 (by omega))
  replace ho_x0 := hq_w_16
  clear hq_w_16
  replace hbW := below_grown hbW hbW.size hg_w_16 (fun k hk => by have := hl_x0 k hk; omega)
  replace hBx_aA := hBx_aA.grown hg_w_16 (fun e => by have := hl_x0 _ e.symm; omega)
  replace hbc_aA_0 : w_16.cell? ⟨W.heap.size, 0, none⟩ = some (.int .i64 p0) := hBx_aA.cell 0
  replace hbc_aA_1 : w_16.cell? ⟨W.heap.size, 1, none⟩ = some (.slice A0 zs0.length c0) := hBx_aA.cell 1
  replace hBx_aB := hBx_aB.grown hg_w_16 (fun e => by have := hl_x0 _ e.symm; omega)
  replace hbc_aB_0 : w_16.cell? ⟨W.heap.size + 1, 0, none⟩ = some (.int .i64 p1) := hBx_aB.cell 0
  replace hbc_aB_1 : w_16.cell? ⟨W.heap.size + 1, 1, none⟩ = some (.slice A1 zs1.length c1) := hBx_aB.cell 1
  replace hBx_w0 := hBx_w0.grown hg_w_16 (fun e => by have := hl_x0 _ e.symm; omega)
  replace hbc_w0_0 : w_16.cell? ⟨g_w0, 0, none⟩ = some (.int .i64 n_w0) := hBx_w0.cell 0
  replace hbc_w0_1 : w_16.cell? ⟨g_w0, 1, none⟩ = some (.slice A_w0 _ c_w0) := hBx_w0.cell 1
  replace hBx_x0 := hBx_x0.grown hg_w_16 (fun e => by have := hl_x0 _ e.symm; omega)
  replace hbc_x0_0 : w_16.cell? ⟨w_5.heap.size, 0, none⟩ = some (.int .i64 p0) := hBx_x0.cell 0
  replace hbc_x0_1 : w_16.cell? ⟨w_5.heap.size, 1, none⟩ = some (.slice A_t1 zs0.length c_t1) := hBx_x0.cell 1
  replace hBx_x1 := hBx_x1.grown hg_w_16 (fun e => by have := hl_x0 _ e.symm; omega)
  replace hbc_x1_0 : w_16.cell? ⟨w_6.heap.size, 0, none⟩ = some (.int .i64 p1) := hBx_x1.cell 0
  replace hbc_x1_1 : w_16.cell? ⟨w_6.heap.size, 1, none⟩ = some (.slice A_t2 zs1.length c_t2) := hBx_x1.cell 1
  replace hBx_g0 := hBx_g0.grown hg_w_16 (fun e => by have := hl_x0 _ e.symm; omega)
  replace hbc_g0_0 : w_16.cell? ⟨w_9.heap.size, 0, none⟩ = some (.int .i64 n_w0) := hBx_g0.cell 0
  replace hbc_g0_1 : w_16.cell? ⟨w_9.heap.size, 1, none⟩ = some (.slice A_g0 _ c_g0) := hBx_g0.cell 1
  go_wp2_with fail
  refine (lawSmy.mark_any _ _ _ _ _ _ _ (by omega) (by omega) ho_x1).mono ?_
  rintro e w_17 ⟨rfl, hq_w_17, hg_w_17⟩
  have hs_w_17 := hg_w_17.size
  replace ho_w0 := ho_w0.kept hg_w_17 (sep hl_w0 hl_x1 (by omega))
  replace ho_x0 := ho_x0.kept hg_w_17 (sep hl_x0 hl_x1 (by omega))
  replace ho_g0 := ho_g0.kept hg_w_17 (sep hl_g0 hl_x1 (by omega))
  replace ho_x1 := hq_w_17
  clear hq_w_17
  replace hbW := below_grown hbW hbW.size hg_w_17 (fun k hk => by have := hl_x1 k hk; omega)
  replace hBx_aA := hBx_aA.grown hg_w_17 (fun e => by have := hl_x1 _ e.symm; omega)
  replace hbc_aA_0 : w_17.cell? ⟨W.heap.size, 0, none⟩ = some (.int .i64 p0) := hBx_aA.cell 0
  replace hbc_aA_1 : w_17.cell? ⟨W.heap.size, 1, none⟩ = some (.slice A0 zs0.length c0) := hBx_aA.cell 1
  replace hBx_aB := hBx_aB.grown hg_w_17 (fun e => by have := hl_x1 _ e.symm; omega)
  replace hbc_aB_0 : w_17.cell? ⟨W.heap.size + 1, 0, none⟩ = some (.int .i64 p1) := hBx_aB.cell 0
  replace hbc_aB_1 : w_17.cell? ⟨W.heap.size + 1, 1, none⟩ = some (.slice A1 zs1.length c1) := hBx_aB.cell 1
  replace hBx_w0 := hBx_w0.grown hg_w_17 (fun e => by have := hl_x1 _ e.symm; omega)
  replace hbc_w0_0 : w_17.cell? ⟨g_w0, 0, none⟩ = some (.int .i64 n_w0) := hBx_w0.cell 0
  replace hbc_w0_1 : w_17.cell? ⟨g_w0, 1, none⟩ = some (.slice A_w0 _ c_w0) := hBx_w0.cell 1
  replace hBx_x0 := hBx_x0.grown hg_w_17 (fun e => by have := hl_x1 _ e.symm; omega)
  replace hbc_x0_0 : w_17.cell? ⟨w_5.heap.size, 0, none⟩ = some (.int .i64 p0) := hBx_x0.cell 0
  replace hbc_x0_1 : w_17.cell? ⟨w_5.heap.size, 1, none⟩ = some (.slice A_t1 zs0.length c_t1) := hBx_x0.cell 1
  replace hBx_x1 := hBx_x1.grown hg_w_17 (fun e => by have := hl_x1 _ e.symm; omega)
  replace hbc_x1_0 : w_17.cell? ⟨w_6.heap.size, 0, none⟩ = some (.int .i64 p1) := hBx_x1.cell 0
  replace hbc_x1_1 : w_17.cell? ⟨w_6.heap.size, 1, none⟩ = some (.slice A_t2 zs1.length c_t2) := hBx_x1.cell 1
  replace hBx_g0 := hBx_g0.grown hg_w_17 (fun e => by have := hl_x1 _ e.symm; omega)
  replace hbc_g0_0 : w_17.cell? ⟨w_9.heap.size, 0, none⟩ = some (.int .i64 n_w0) := hBx_g0.cell 0
  replace hbc_g0_1 : w_17.cell? ⟨w_9.heap.size, 1, none⟩ = some (.slice A_g0 _ c_g0) := hBx_g0.cell 1
  go_wp2_with fail
  refine (lawSmy.eqB _ _ _ _ _ _ _ hm_g0 hm_w0 (own_rd ho_g0) (own_rd ho_w0)).mono ?_
  rintro e w_18 ⟨rfl, hb_w_18⟩
  have hs_w_18 := (hb_w_18).size
  replace hbW := below_step hbW hb_w_18
  replace ho_w0 := own_below ho_w0 hb_w_18
  replace ho_x0 := own_below ho_x0 hb_w_18
  replace ho_x1 := own_below ho_x1 hb_w_18
  replace ho_g0 := own_below ho_g0 hb_w_18
  replace hBx_aA := hBx_aA.below hb_w_18 hBx_aA.lt
  replace hbc_aA_0 : w_18.cell? ⟨W.heap.size, 0, none⟩ = some (.int .i64 p0) := hBx_aA.cell 0
  replace hbc_aA_1 : w_18.cell? ⟨W.heap.size, 1, none⟩ = some (.slice A0 zs0.length c0) := hBx_aA.cell 1
  replace hBx_aB := hBx_aB.below hb_w_18 hBx_aB.lt
  replace hbc_aB_0 : w_18.cell? ⟨W.heap.size + 1, 0, none⟩ = some (.int .i64 p1) := hBx_aB.cell 0
  replace hbc_aB_1 : w_18.cell? ⟨W.heap.size + 1, 1, none⟩ = some (.slice A1 zs1.length c1) := hBx_aB.cell 1
  replace hBx_w0 := hBx_w0.below hb_w_18 hBx_w0.lt
  replace hbc_w0_0 : w_18.cell? ⟨g_w0, 0, none⟩ = some (.int .i64 n_w0) := hBx_w0.cell 0
  replace hbc_w0_1 : w_18.cell? ⟨g_w0, 1, none⟩ = some (.slice A_w0 _ c_w0) := hBx_w0.cell 1
  replace hBx_x0 := hBx_x0.below hb_w_18 hBx_x0.lt
  replace hbc_x0_0 : w_18.cell? ⟨w_5.heap.size, 0, none⟩ = some (.int .i64 p0) := hBx_x0.cell 0
  replace hbc_x0_1 : w_18.cell? ⟨w_5.heap.size, 1, none⟩ = some (.slice A_t1 zs0.length c_t1) := hBx_x0.cell 1
  replace hBx_x1 := hBx_x1.below hb_w_18 hBx_x1.lt
  replace hbc_x1_0 : w_18.cell? ⟨w_6.heap.size, 0, none⟩ = some (.int .i64 p1) := hBx_x1.cell 0
  replace hbc_x1_1 : w_18.cell? ⟨w_6.heap.size, 1, none⟩ = some (.slice A_t2 zs1.length c_t2) := hBx_x1.cell 1
  replace hBx_g0 := hBx_g0.below hb_w_18 hBx_g0.lt
  replace hbc_g0_0 : w_18.cell? ⟨w_9.heap.size, 0, none⟩ = some (.int .i64 n_w0) := hBx_g0.cell 0
  replace hbc_g0_1 : w_18.cell? ⟨w_9.heap.size, 1, none⟩ = some (.slice A_g0 _ c_g0) := hBx_g0.cell 1
  go_wp2_with fail
  refine (lawSmy.mark_any _ _ _ _ _ _ _ (by omega) (by omega) ho_g0).mono ?_
  rintro e w_19 ⟨rfl, hq_w_19, hg_w_19⟩
  have hs_w_19 := hg_w_19.size
  replace ho_w0 := ho_w0.kept hg_w_19 (sep hl_w0 hl_g0 (by omega))
  replace ho_x0 := ho_x0.kept hg_w_19 (sep hl_x0 hl_g0 (by omega))
  replace ho_x1 := ho_x1.kept hg_w_19 (sep hl_x1 hl_g0 (by omega))
  replace ho_g0 := hq_w_19
  clear hq_w_19
  replace hbW := below_grown hbW hbW.size hg_w_19 (fun k hk => by have := hl_g0 k hk; omega)
  replace hBx_aA := hBx_aA.grown hg_w_19 (fun e => by have := hl_g0 _ e.symm; omega)
  replace hbc_aA_0 : w_19.cell? ⟨W.heap.size, 0, none⟩ = some (.int .i64 p0) := hBx_aA.cell 0
  replace hbc_aA_1 : w_19.cell? ⟨W.heap.size, 1, none⟩ = some (.slice A0 zs0.length c0) := hBx_aA.cell 1
  replace hBx_aB := hBx_aB.grown hg_w_19 (fun e => by have := hl_g0 _ e.symm; omega)
  replace hbc_aB_0 : w_19.cell? ⟨W.heap.size + 1, 0, none⟩ = some (.int .i64 p1) := hBx_aB.cell 0
  replace hbc_aB_1 : w_19.cell? ⟨W.heap.size + 1, 1, none⟩ = some (.slice A1 zs1.length c1) := hBx_aB.cell 1
  replace hBx_w0 := hBx_w0.grown hg_w_19 (fun e => by have := hl_g0 _ e.symm; omega)
  replace hbc_w0_0 : w_19.cell? ⟨g_w0, 0, none⟩ = some (.int .i64 n_w0) := hBx_w0.cell 0
  replace hbc_w0_1 : w_19.cell? ⟨g_w0, 1, none⟩ = some (.slice A_w0 _ c_w0) := hBx_w0.cell 1
  replace hBx_x0 := hBx_x0.grown hg_w_19 (fun e => by have := hl_g0 _ e.symm; omega)
  replace hbc_x0_0 : w_19.cell? ⟨w_5.heap.size, 0, none⟩ = some (.int .i64 p0) := hBx_x0.cell 0
  replace hbc_x0_1 : w_19.cell? ⟨w_5.heap.size, 1, none⟩ = some (.slice A_t1 zs0.length c_t1) := hBx_x0.cell 1
  replace hBx_x1 := hBx_x1.grown hg_w_19 (fun e => by have := hl_g0 _ e.symm; omega)
  replace hbc_x1_0 : w_19.cell? ⟨w_6.heap.size, 0, none⟩ = some (.int .i64 p1) := hBx_x1.cell 0
  replace hbc_x1_1 : w_19.cell? ⟨w_6.heap.size, 1, none⟩ = some (.slice A_t2 zs1.length c_t2) := hBx_x1.cell 1
  replace hBx_g0 := hBx_g0.grown hg_w_19 (fun e => by have := hl_g0 _ e.symm; omega)
  replace hbc_g0_0 : w_19.cell? ⟨w_9.heap.size, 0, none⟩ = some (.int .i64 n_w0) := hBx_g0.cell 0
  replace hbc_g0_1 : w_19.cell? ⟨w_9.heap.size, 1, none⟩ = some (.slice A_g0 _ c_g0) := hBx_g0.cell 1
  go_wp2_with fail
  refine (lawSmy.held_any _ _ _ _ _ (by omega) (by omega) (own_rd ho_g0)).mono ?_
  rintro e w_20 ⟨rfl, hb_w_20⟩
  have hs_w_20 := (hb_w_20).size
  replace hbW := below_step hbW hb_w_20
  replace ho_w0 := own_below ho_w0 hb_w_20
  replace ho_x0 := own_below ho_x0 hb_w_20
  replace ho_x1 := own_below ho_x1 hb_w_20
  replace ho_g0 := own_below ho_g0 hb_w_20
  replace hBx_aA := hBx_aA.below hb_w_20 hBx_aA.lt
  replace hbc_aA_0 : w_20.cell? ⟨W.heap.size, 0, none⟩ = some (.int .i64 p0) := hBx_aA.cell 0
  replace hbc_aA_1 : w_20.cell? ⟨W.heap.size, 1, none⟩ = some (.slice A0 zs0.length c0) := hBx_aA.cell 1
  replace hBx_aB := hBx_aB.below hb_w_20 hBx_aB.lt
  replace hbc_aB_0 : w_20.cell? ⟨W.heap.size + 1, 0, none⟩ = some (.int .i64 p1) := hBx_aB.cell 0
  replace hbc_aB_1 : w_20.cell? ⟨W.heap.size + 1, 1, none⟩ = some (.slice A1 zs1.length c1) := hBx_aB.cell 1
  replace hBx_w0 := hBx_w0.below hb_w_20 hBx_w0.lt
  replace hbc_w0_0 : w_20.cell? ⟨g_w0, 0, none⟩ = some (.int .i64 n_w0) := hBx_w0.cell 0
  replace hbc_w0_1 : w_20.cell? ⟨g_w0, 1, none⟩ = some (.slice A_w0 _ c_w0) := hBx_w0.cell 1
  replace hBx_x0 := hBx_x0.below hb_w_20 hBx_x0.lt
  replace hbc_x0_0 : w_20.cell? ⟨w_5.heap.size, 0, none⟩ = some (.int .i64 p0) := hBx_x0.cell 0
  replace hbc_x0_1 : w_20.cell? ⟨w_5.heap.size, 1, none⟩ = some (.slice A_t1 zs0.length c_t1) := hBx_x0.cell 1
  replace hBx_x1 := hBx_x1.below hb_w_20 hBx_x1.lt
  replace hbc_x1_0 : w_20.cell? ⟨w_6.heap.size, 0, none⟩ = some (.int .i64 p1) := hBx_x1.cell 0
  replace hbc_x1_1 : w_20.cell? ⟨w_6.heap.size, 1, none⟩ = some (.slice A_t2 zs1.length c_t2) := hBx_x1.cell 1
  replace hBx_g0 := hBx_g0.below hb_w_20 hBx_g0.lt
  replace hbc_g0_0 : w_20.cell? ⟨w_9.heap.size, 0, none⟩ = some (.int .i64 n_w0) := hBx_g0.cell 0
  replace hbc_g0_1 : w_20.cell? ⟨w_9.heap.size, 1, none⟩ = some (.slice A_g0 _ c_g0) := hBx_g0.cell 1
  have HKC := Lib.hid (fun (w' : World) (h : Below w_20.heap.size w_20 w') => And.intro (cells_below h hbc_aA_0) ( And.intro (cells_below h hbc_aA_1) ( And.intro (cells_below h hbc_aB_0) (cells_below h hbc_aB_1))))
  have HDR := Lib.hid (show Below w_20.heap.size w_20 w_20.drew from below_drewN (Below.refl _ _) 1)
  have HDRA := Lib.hid (show Below w_20.heap.size w_20 (w_20.alloc (.cells #[.int .i64 0, .slice none 0 0] 29)).drew from below_drewN ((Below.refl _ _).alloc (Nat.le_refl _) _) 1)
  have HZ := Lib.hid (show Blk (w_20.alloc (.cells #[.int .i64 0, .slice none 0 0] 29)).drew w_20.heap.size 29 #[.int .i64 0, .slice none 0 0] from Blk.new _ _ _)
  have HTA := Lib.hid (fun (w' : World) (h : Below w_20.heap.size w_20 w') => lawSmy.to_any (p := p0) A0 c0 zs0 w' hk0 ((hr0.below hbW).below h))
  have HTB := Lib.hid (fun (w' : World) (h : Below w_20.heap.size w_20 w') => lawSmy.to_any (p := p1) A1 c1 zs1 w' hk1 ((hr1.below hbW).below h))
  have HSP := Lib.hid (fun (w' : World) (Aa : Option Addr) (ca : Nat) (Ab : Option Addr) (cb : Nat) ha hb => smyMg.impl_any (ca := p0) (cb := p1) Aa ca zs0 Ab cb zs1 w' hk0 ha hk1 hb)
  go_upto_region 31 with fail
  go_cut [15, 16] (fun s1 s2 wx => BoxR w_20 wx s1 (smyMg.resMN p0 p1 zs0 zs1) (smyMg.resM p0 p1 zs0 zs1) ∧ s2 = .bool (smyMg.okM p0 p1 zs0 zs1) ∧ Below w_20.heap.size w_20 wx)
  case first =>
    go_region_held3 (fun w' => w'.cell? ⟨W.heap.size, 0, none⟩ = some (.int .i64 p0) ∧ w'.cell? ⟨W.heap.size, 1, none⟩ = some (.slice A0 zs0.length c0) ∧ w'.cell? ⟨W.heap.size + 1, 0, none⟩ = some (.int .i64 p1) ∧ w'.cell? ⟨W.heap.size + 1, 1, none⟩ = some (.slice A1 zs1.length c1)) (first | exact HKC.out _ hq | exact HKC.out _ (hq.alloc hq.size _) | exact HKC.out _ ((hq.setCell (by first | exact Nat.le_refl _ | exact hq1.size | exact hq2.size) _).setCell (by first | exact Nat.le_refl _ | exact hq1.size | exact hq2.size) _) | go_keep) (first
      | (go_at_call 27; (with_reducible refine (HTA.out _ (by first | exact HDR.out | exact HDRA.out)).mono ?_); rintro e w3 ⟨va, rfl, ho_a, hb3⟩; obtain ⟨A_a, c_a, rfl, _, _, hr_a⟩ := own_form ho_a; have hq1 : Below w_20.heap.size w_20 w3 := (by first | exact below_step HDR.out hb3 | exact below_step HDRA.out hb3); have hq := hq1; try (have hz1 := HZ.out.below hb3 HZ.out.lt))
      | (go_at_call 27; (with_reducible refine (HTB.out _ (by first | exact hq1 | exact hq1.alloc hq1.size _)).mono ?_); rintro e w4 ⟨vb, rfl, ho_b, hb4⟩; obtain ⟨A_b, c_b, rfl, _, _, hr_b⟩ := own_form ho_b; have hq2 : Below w_20.heap.size w_20 w4 := (by first | exact below_step hq1 hb4 | exact below_step (hq1.alloc hq1.size _) hb4); have hq := hq2; have hr_a2 : Rd w4 3 A_a zs0.length (rkvs zs0) := (by first | exact hr_a.below hb4 | exact (hr_a.alloc (.cells #[.int .i64 0, .slice none 0 0] 29)).below hb4); first | (have hz2 := hz1.below hb4 hz1.lt) | (have hz2 := (Blk.new w3 29 #[.int .i64 0, .slice none 0 0]).below hb4 (by simp)) | skip)
      | (go_at_call 23; (with_reducible refine (HSP.out _ A_a c_a A_b c_b (by first | exact hr_a2 | exact hr_a2.alloc _) (by first | exact hr_b | exact hr_b.alloc _)).mono ?_); rintro e w5 ⟨v5, n5, rfl, hn5, ho5, hb5⟩; obtain ⟨A5, c5, hve5, _, _, _⟩ := own_form ho5.1; subst hve5; have hq3 : Below w_20.heap.size w_20 w5 := (by first | exact below_step hq2 hb5 | exact below_step (hq2.alloc hq2.size _) hb5); have hq := hq3; (first | (have hz3 := hz2.below hb5 hz2.lt; have f0 : w5.cell? ⟨_, 0, none⟩ = _ := hz3.cell 0; have f1 : w5.cell? ⟨_, 1, none⟩ = _ := hz3.cell 1; have f2 := hz3.thaw 0; have f3 := hz3.thaw 1) | (have hz3 := (Blk.new w4 29 #[.int .i64 0, .slice none 0 0]).below hb5 (by simp); have f0 : w5.cell? ⟨w4.heap.size, 0, none⟩ = some (.int .i64 0) := hz3.cell 0; have f1 : w5.cell? ⟨w4.heap.size, 1, none⟩ = some (.slice none 0 0) := hz3.cell 1; have f2 := hz3.thaw 0; have f3 := hz3.thaw 1) | skip)))
    all_goals (go_wp2_with fail; go_meet; subst hn5; first | exact ⟨BoxR.late ho5 hq2.size hb5.size, rfl, hq3.alloc hq3.size _⟩ | exact ⟨BoxR.early hz3 ho5 (by first | exact hz2.lt | simp) (by first | exact Nat.le_refl _ | exact hq1.size | exact hq2.size), rfl, (hq3.setCell (by first | exact Nat.le_refl _ | exact hq1.size | exact hq2.size) _).setCell (by first | exact Nat.le_refl _ | exact hq1.size | exact hq2.size) _⟩)
  obtain ⟨⟨g_h0, v_h0, b_h0, u_h0, rfl, hBx_h0, ho_h0, hk_h0, hl_h0, hg_h0, hcb_h0, hcg_h0, hcu_h0⟩, rfl, hb_h0⟩ := hcut
  obtain ⟨A_h0, c_h0, rfl, hnc_h0, hcm_h0, _⟩ := own_form ho_h0
  obtain ⟨n_h0, hn_h0⟩ : ∃ n : Int, n = smyMg.resMN p0 p1 zs0 zs1 := ⟨_, rfl⟩
  rw [← hn_h0] at hBx_h0
  clear HKC HDR HDRA HZ HTA HTB HSP
  obtain ⟨w_21, hwq⟩ : ∃ x : World, x = wc := ⟨_, rfl⟩
  subst hwq
  have hm_h0 := Nat.le_trans hnc_h0 hcm_h0
  have hlx_h0 := hBx_h0.lt
  have hs_w_21 := (hb_h0).size
  replace hbW := below_step hbW hb_h0
  replace ho_w0 := own_below ho_w0 hb_h0
  replace ho_x0 := own_below ho_x0 hb_h0
  replace ho_x1 := own_below ho_x1 hb_h0
  replace ho_g0 := own_below ho_g0 hb_h0
  replace hBx_aA := hBx_aA.below hb_h0 hBx_aA.lt
  replace hbc_aA_0 : w_21.cell? ⟨W.heap.size, 0, none⟩ = some (.int .i64 p0) := hBx_aA.cell 0
  replace hbc_aA_1 : w_21.cell? ⟨W.heap.size, 1, none⟩ = some (.slice A0 zs0.length c0) := hBx_aA.cell 1
  replace hBx_aB := hBx_aB.below hb_h0 hBx_aB.lt
  replace hbc_aB_0 : w_21.cell? ⟨W.heap.size + 1, 0, none⟩ = some (.int .i64 p1) := hBx_aB.cell 0
  replace hbc_aB_1 : w_21.cell? ⟨W.heap.size + 1, 1, none⟩ = some (.slice A1 zs1.length c1) := hBx_aB.cell 1
  replace hBx_w0 := hBx_w0.below hb_h0 hBx_w0.lt
  replace hbc_w0_0 : w_21.cell? ⟨g_w0, 0, none⟩ = some (.int .i64 n_w0) := hBx_w0.cell 0
  replace hbc_w0_1 : w_21.cell? ⟨g_w0, 1, none⟩ = some (.slice A_w0 _ c_w0) := hBx_w0.cell 1
  replace hBx_x0 := hBx_x0.below hb_h0 hBx_x0.lt
  replace hbc_x0_0 : w_21.cell? ⟨w_5.heap.size, 0, none⟩ = some (.int .i64 p0) := hBx_x0.cell 0
  replace hbc_x0_1 : w_21.cell? ⟨w_5.heap.size, 1, none⟩ = some (.slice A_t1 zs0.length c_t1) := hBx_x0.cell 1
  replace hBx_x1 := hBx_x1.below hb_h0 hBx_x1.lt
  replace hbc_x1_0 : w_21.cell? ⟨w_6.heap.size, 0, none⟩ = some (.int .i64 p1) := hBx_x1.cell 0
  replace hbc_x1_1 : w_21.cell? ⟨w_6.heap.size, 1, none⟩ = some (.slice A_t2 zs1.length c_t2) := hBx_x1.cell 1
  replace hBx_g0 := hBx_g0.below hb_h0 hBx_g0.lt
  replace hbc_g0_0 : w_21.cell? ⟨w_9.heap.size, 0, none⟩ = some (.int .i64 n_w0) := hBx_g0.cell 0
  replace hbc_g0_1 : w_21.cell? ⟨w_9.heap.size, 1, none⟩ = some (.slice A_g0 _ c_g0) := hBx_g0.cell 1
  obtain rfl : n_w0 = n_h0 := HN_w0.out.trans hn_h0.symm
  clear hn_h0
  have hbc_h0_0 : w_21.cell? ⟨g_h0, 0, none⟩ = some (.int .i64 n_w0) := hBx_h0.cell 0
  have hbc_h0_1 : w_21.cell? ⟨g_h0, 1, none⟩ = some (.slice A_h0 _ c_h0) := hBx_h0.cell 1
  go_wp2_with fail
  refine (lawSmy.eqB _ _ _ _ _ _ _ hm_h0 hm_w0 (own_rd ho_h0) (own_rd ho_w0)).mono ?_
  rintro e w_22 ⟨rfl, hb_w_22⟩
  have hs_w_22 := (hb_w_22).size
  replace hbW := below_step hbW hb_w_22
  replace ho_w0 := own_below ho_w0 hb_w_22
  replace ho_x0 := own_below ho_x0 hb_w_22
  replace ho_x1 := own_below ho_x1 hb_w_22
  replace ho_g0 := own_below ho_g0 hb_w_22
  replace ho_h0 := own_below ho_h0 hb_w_22
  replace hBx_aA := hBx_aA.below hb_w_22 hBx_aA.lt
  replace hbc_aA_0 : w_22.cell? ⟨W.heap.size, 0, none⟩ = some (.int .i64 p0) := hBx_aA.cell 0
  replace hbc_aA_1 : w_22.cell? ⟨W.heap.size, 1, none⟩ = some (.slice A0 zs0.length c0) := hBx_aA.cell 1
  replace hBx_aB := hBx_aB.below hb_w_22 hBx_aB.lt
  replace hbc_aB_0 : w_22.cell? ⟨W.heap.size + 1, 0, none⟩ = some (.int .i64 p1) := hBx_aB.cell 0
  replace hbc_aB_1 : w_22.cell? ⟨W.heap.size + 1, 1, none⟩ = some (.slice A1 zs1.length c1) := hBx_aB.cell 1
  replace hBx_w0 := hBx_w0.below hb_w_22 hBx_w0.lt
  replace hbc_w0_0 : w_22.cell? ⟨g_w0, 0, none⟩ = some (.int .i64 n_w0) := hBx_w0.cell 0
  replace hbc_w0_1 : w_22.cell? ⟨g_w0, 1, none⟩ = some (.slice A_w0 _ c_w0) := hBx_w0.cell 1
  replace hBx_x0 := hBx_x0.below hb_w_22 hBx_x0.lt
  replace hbc_x0_0 : w_22.cell? ⟨w_5.heap.size, 0, none⟩ = some (.int .i64 p0) := hBx_x0.cell 0
  replace hbc_x0_1 : w_22.cell? ⟨w_5.heap.size, 1, none⟩ = some (.slice A_t1 zs0.length c_t1) := hBx_x0.cell 1
  replace hBx_x1 := hBx_x1.below hb_w_22 hBx_x1.lt
  replace hbc_x1_0 : w_22.cell? ⟨w_6.heap.size, 0, none⟩ = some (.int .i64 p1) := hBx_x1.cell 0
  replace hbc_x1_1 : w_22.cell? ⟨w_6.heap.size, 1, none⟩ = some (.slice A_t2 zs1.length c_t2) := hBx_x1.cell 1
  replace hBx_g0 := hBx_g0.below hb_w_22 hBx_g0.lt
  replace hbc_g0_0 : w_22.cell? ⟨w_9.heap.size, 0, none⟩ = some (.int .i64 n_w0) := hBx_g0.cell 0
  replace hbc_g0_1 : w_22.cell? ⟨w_9.heap.size, 1, none⟩ = some (.slice A_g0 _ c_g0) := hBx_g0.cell 1
  replace hBx_h0 := hBx_h0.below hb_w_22 hBx_h0.lt
  replace hbc_h0_0 : w_22.cell? ⟨g_h0, 0, none⟩ = some (.int .i64 n_w0) := hBx_h0.cell 0
  replace hbc_h0_1 : w_22.cell? ⟨g_h0, 1, none⟩ = some (.slice A_h0 _ c_h0) := hBx_h0.cell 1
  go_wp2_with fail
  refine (lawSmy.held_any _ _ _ _ _ (by omega) (by omega) (own_rd ho_g0)).mono ?_
  rintro e w_23 ⟨rfl, hb_w_23⟩
  have hs_w_23 := (hb_w_23).size
  replace hbW := below_step hbW hb_w_23
  replace ho_w0 := own_below ho_w0 hb_w_23
  replace ho_x0 := own_below ho_x0 hb_w_23
  replace ho_x1 := own_below ho_x1 hb_w_23
  replace ho_g0 := own_below ho_g0 hb_w_23
  replace ho_h0 := own_below ho_h0 hb_w_23
  replace hBx_aA := hBx_aA.below hb_w_23 hBx_aA.lt
  replace hbc_aA_0 : w_23.cell? ⟨W.heap.size, 0, none⟩ = some (.int .i64 p0) := hBx_aA.cell 0
  replace hbc_aA_1 : w_23.cell? ⟨W.heap.size, 1, none⟩ = some (.slice A0 zs0.length c0) := hBx_aA.cell 1
  replace hBx_aB := hBx_aB.below hb_w_23 hBx_aB.lt
  replace hbc_aB_0 : w_23.cell? ⟨W.heap.size + 1, 0, none⟩ = some (.int .i64 p1) := hBx_aB.cell 0
  replace hbc_aB_1 : w_23.cell? ⟨W.heap.size + 1, 1, none⟩ = some (.slice A1 zs1.length c1) := hBx_aB.cell 1
  replace hBx_w0 := hBx_w0.below hb_w_23 hBx_w0.lt
  replace hbc_w0_0 : w_23.cell? ⟨g_w0, 0, none⟩ = some (.int .i64 n_w0) := hBx_w0.cell 0
  replace hbc_w0_1 : w_23.cell? ⟨g_w0, 1, none⟩ = some (.slice A_w0 _ c_w0) := hBx_w0.cell 1
  replace hBx_x0 := hBx_x0.below hb_w_23 hBx_x0.lt
  replace hbc_x0_0 : w_23.cell? ⟨w_5.heap.size, 0, none⟩ = some (.int .i64 p0) := hBx_x0.cell 0
  replace hbc_x0_1 : w_23.cell? ⟨w_5.heap.size, 1, none⟩ = some (.slice A_t1 zs0.length c_t1) := hBx_x0.cell 1
  replace hBx_x1 := hBx_x1.below hb_w_23 hBx_x1.lt
  replace hbc_x1_0 : w_23.cell? ⟨w_6.heap.size, 0, none⟩ = some (.int .i64 p1) := hBx_x1.cell 0
  replace hbc_x1_1 : w_23.cell? ⟨w_6.heap.size, 1, none⟩ = some (.slice A_t2 zs1.length c_t2) := hBx_x1.cell 1
  replace hBx_g0 := hBx_g0.below hb_w_23 hBx_g0.lt
  replace hbc_g0_0 : w_23.cell? ⟨w_9.heap.size, 0, none⟩ = some (.int .i64 n_w0) := hBx_g0.cell 0
  replace hbc_g0_1 : w_23.cell? ⟨w_9.heap.size, 1, none⟩ = some (.slice A_g0 _ c_g0) := hBx_g0.cell 1
  replace hBx_h0 := hBx_h0.below hb_w_23 hBx_h0.lt
  replace hbc_h0_0 : w_23.cell? ⟨g_h0, 0, none⟩ = some (.int .i64 n_w0) := hBx_h0.cell 0
  replace hbc_h0_1 : w_23.cell? ⟨g_h0, 1, none⟩ = some (.slice A_h0 _ c_h0) := hBx_h0.cell 1
  go_wp2
  go_ret
  exact ⟨rfl, hbW⟩

theorem own : ownKnob Try.prog.godebug = none := by kernel_rfl
theorem laidOut : laidOutB Try.prog = true := by kernel_rfl
set_option maxRecDepth 100000 in
theorem lifted (os : Os) (started : os.Started) (H : Type) (enc : TypeId × Value → H) :
    ReturnsInHanded {} Try.checked os 10 .any (Rows.fnExactMergeSummariesSpec.pre6 enc Try.prog Try.f10 Rows.fnExactMergeSummariesRow.domain false) (Rows.fnExactMergeSummariesSpec.post enc Try.prog Try.f10 false true false false) := by
  refine returnsInHanded_of_change (C := Try.checked) own started (by kernel_rfl) Try.func10
    (ChangeSpec.witness6 (enc := enc) (C := Try.checked) false ⟨#[], #[.agg #[.int .i64 0, .slice none 0 0], .agg #[.int .i64 0, .slice none 0 0]], []⟩ 8 (by kernel_rfl) (by kernel_rfl) (by kernel_rfl) (by kernel_rfl)) ?_
  intro W base args ds gs before hval0 hW hcnd _
  have hval : ∀ (j : Nat) t v, Try.f10.params[j]? = some t → args[j]? = some v → Value.okWide Try.prog W .any base t v := hval0
  have hW' := hW
  have hlt : ∀ x ∈ before, x.block < W.heap.size := fun x hx => by simpa using hW.lt x hx
  obtain ⟨p, q, hA0, hV, rfl, hfz, hnd⟩ := hW
  have hA : DataW.TrodAll enc Try.prog W 0 (fun _ => true) true Try.f10.params.toList args.toList ds p := hA0
  rw [Try.params10] at hA hval
  obtain ⟨v0, vs0, d0, ds0, p0, q0, hargs, rfl, rfl, h0, r0⟩ := trodAll_cons hA
  obtain ⟨v1, vs1, d1, ds1, p1, q1, rfl, rfl, rfl, h1, r1⟩ := trodAll_cons r0
  obtain ⟨rfl, rfl, rfl⟩ := trodAll_nil r1
  obtain rfl : args = #[v0, v1] := by cases args; simp_all
  obtain ⟨p0, A0, n0, c0, zs0, rfl, w0⟩ := mem.open_summary Try.underlying41 (by kernel_rfl) (by kernel_rfl) Try.underlying3 Try.underlying39 Try.underlying100 (by kernel_rfl) (fun j hj => match j, hj with | 0, _ => ⟨_, rfl, rfl, Try.underlying3, by kernel_rfl⟩ | 1, _ => ⟨_, rfl, rfl, Try.underlying3, by kernel_rfl⟩ | 2, _ => ⟨_, rfl, rfl, Try.underlying3, by kernel_rfl⟩ | _ + 3, h => absurd h (by omega)) (hval 0 41 v0 rfl rfl) h0
  obtain ⟨p1, A1, n1, c1, zs1, rfl, w1⟩ := mem.open_summary Try.underlying41 (by kernel_rfl) (by kernel_rfl) Try.underlying3 Try.underlying39 Try.underlying100 (by kernel_rfl) (fun j hj => match j, hj with | 0, _ => ⟨_, rfl, rfl, Try.underlying3, by kernel_rfl⟩ | 1, _ => ⟨_, rfl, rfl, Try.underlying3, by kernel_rfl⟩ | 2, _ => ⟨_, rfl, rfl, Try.underlying3, by kernel_rfl⟩ | _ + 3, h => absurd h (by omega)) (hval 1 41 v1 rfl rfl) h1
  refine (walk p0 A0 n0 c0 zs0 p1 A1 n1 c1 zs1 W w0 w1).mono fun e W' ⟨he, hg⟩ => ?_
  subst he
  exact ⟨_, rfl, frame.post_true laidOut hW' rfl (of_decide_eq_true (by kernel_rfl)) (by kernel_rfl) Try.underlying4 rfl rfl rfl hg⟩
theorem over : Rows.fnExactMergeSummariesRow.holds Try.pinned (OpenSpec.ofChange Rows.fnExactMergeSummariesSpec) :=
  OpenClaim.holds_of_wide 10 Try.f10 rfl rfl rfl rfl rfl rfl rfl ⟨rfl, rfl, rfl, rfl, rfl⟩ rfl rfl rfl rfl rfl (by kernel_rfl) Try.func10 (by kernel_rfl)
    (of_decide_eq_true (by kernel_rfl)) (by unfold Func.isWrapper; first | (rw [if_pos (by decide +kernel)]; kernel_rfl) | (rw [if_neg (by decide +kernel)]; exact ⟨rfl, rfl⟩))
    (fun os started H enc _ => lifted os started H enc)
/-- The statement. -/
theorem proved : Rows.FnExactMergeSummariesSaid :=
  over
end Go.Proofs.Ytlckeefjhafloaa.fnExactMergeSummaries
