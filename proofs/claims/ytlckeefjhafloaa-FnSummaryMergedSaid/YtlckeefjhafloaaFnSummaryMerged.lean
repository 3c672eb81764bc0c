/- FnSummaryMerged: merging any two valid summaries keeps the gap within the sum of both gaps. No condition. -/
import Derived.Test.YtlckeefjhafloaaFrame
import Derived.Test.YtlckeefjhafloaaCode
import Derived.Test.YtlckeefjhafloaaDrwMrg
import Derived.Test.YtlckeefjhafloaaFitLaw
import Derived.Deep.QuietTactic
import Derived.Lib.QuietBelow
set_option linter.unusedVariables false
set_option linter.unusedSimpArgs false
namespace Go.Proofs.Ytlckeefjhafloaa.fnSummaryMerged
open Go.ChangeShapes Go.WideShapes Go.ChangeAt Go.RowKit Go.Proofs.Ytlckeefjhafloaa.mem Go.Proofs.Ytlckeefjhafloaa.smy Go.Proofs.Ytlckeefjhafloaa.fitLaw
open Go.Proofs.Ytlckeefjhafloaa.smyMg (okM resM resMN)

set_option maxRecDepth 100000 in
set_option maxHeartbeats 8000000 in
theorem walk (A : Option Addr) (n c : Nat) (zs : List Int) (W : World) (h0 : n = zs.length ∧ n ≤ c ∧ c ≤ maxLen ∧ Rd W 1 A n (u8s zs) ∧ (∀ z ∈ zs, 0 ≤ z ∧ z ≤ 255)) :
    Calls Try.prog 11 #[.slice A n c] W fun e w' => e = .returned (.bool true) ∧ Below W.heap.size W w' := by
  obtain ⟨rfl, hnc, hcm, hr, hz⟩ := h0
  have HZ := Lib.hid hz
  clear hz
  have hn : zs.length ≤ maxLen := Nat.le_trans hnc hcm
  go_enter Try.func11, Try.ntmps11
  go_wp2_with fail
  refine (codes.big_any A _ c W hn).mono ?_
  rintro e w1 ⟨rfl, rfl⟩
  by_cases hbig : 65536 < zs.length
  · go_wp2
    go_ret
    exact ⟨rfl, Below.refl _ _⟩
  have hsm : zs.length ≤ 1048576 := by omega
  have hd : decide (65536 < zs.length) = false := by simpa using hbig
  rw [hd]
  clear hd hbig
  have HD := Lib.hid (drw.mrg_any A c zs W hsm HZ.out hr)
  go_wp2_with fail
  with_reducible refine HD.out.mono ?_
  rintro e w1 ⟨ca, A1, la, c1, cb, A2, lb, c2, rfl, htw⟩
  have HT := Lib.hid htw
  have hla := htw.2.2.1
  have hlb := htw.2.2.2.1
  have HBX := Lib.hid (box2 w1 29 29 #[.int .i64 ca, .slice A1 la.length c1] #[.int .i64 cb, .slice A2 lb.length c2])
  have HM := Lib.hid (fun W' (h : Below w1.heap.size w1 W') => smyMg.impl_any (ca := ca) (cb := cb) A1 c1 la A2 c2 lb W' hla (htw.1.below h) hlb (htw.2.1.below h))
  clear htw HD
  have HC2 := HBX.out
  obtain ⟨k1, k2, k3⟩ := HC2
  have a0 := k1.cell 0
  have a1 := k1.cell 1
  have b0 := k2.cell 0
  have b1 := k2.cell 1
  go_wp2_with fail
  obtain ⟨w2, hw2⟩ : ∃ W2 : World, W2 = ((w1.alloc (.cells #[.int .i64 ca, .slice A1 la.length c1] 29)).alloc (.cells #[.int .i64 cb, .slice A2 lb.length c2] 29)) := ⟨_, rfl⟩
  rw [← hw2] at k1 k2 k3 ⊢
  have HM2 := Lib.hid (HM.out w2 k3)
  clear a0 a1 b0 b1 HM
  with_reducible refine HM2.out.mono ?_
  rintro e w3 ⟨v3, n3, rfl, hn3, ⟨ho3, hs3⟩, hb3⟩
  obtain ⟨A3, c3, rfl, _, _, rd3⟩ := own_form ho3
  have HOKM := Lib.hid (show okM ca cb la lb = (vsmy ca la && (vsmy cb lb && vsmy (ca + cb) (mgLaw.union ca cb la lb))) from rfl)
  have HRM := Lib.hid (fun h : okM ca cb la lb = true => show resM ca cb la lb = mgLaw.union ca cb la lb ∧ n3 = ca + cb by rw [hn3, resM, resMN, if_pos h, if_pos h]; exact ⟨rfl, rfl⟩)
  have HRN := Lib.hid (fun h : okM ca cb la lb = false => show n3 = 0 by rw [hn3, resMN, h]; rfl)
  have HBW := Lib.hid (below_step HT.out.2.2.2.2 k3)
  have HK := Lib.hid (And.intro k1 (And.intro k2 (And.intro (HT.out.1.below k3) (HT.out.2.1.below k3))))
  clear hn3 HM2 k1 k2 k3 ho3
  generalize resM ca cb la lb = lm at *
  have HRD3 := Lib.hid rd3
  have HB3 := Lib.hid hb3
  clear rd3 hb3
  go_upto_region 5 with fail
  have hsz3 := HB3.out.size
  have hM := Blk.new w3 29 #[.int .i64 n3, .slice A3 lm.length c3]
  have hbM := (Below.refl w3.heap.size w3).alloc (Nat.le_refl _) (.cells #[.int .i64 n3, .slice A3 lm.length c3] 29)
  obtain ⟨wm, hwm⟩ : ∃ Wm : World, Wm = w3.alloc (.cells #[.int .i64 n3, .slice A3 lm.length c3] 29) := ⟨_, rfl⟩
  rw [← hwm] at hM hbM ⊢
  have HF := Lib.hid (fun W' (h : Below wm.heap.size wm W') => And.intro (hM.below h hM.lt) (And.intro (HRD3.out.below (below_step hbM h)) (And.intro (HK.out.1.below (below_step HB3.out (below_step hbM h)) HK.out.1.lt) (And.intro (HK.out.2.1.below (below_step HB3.out (below_step hbM h)) HK.out.2.1.lt) (And.intro (HK.out.2.2.1.below (below_step HB3.out (below_step hbM h))) (HK.out.2.2.2.below (below_step HB3.out (below_step hbM h))))))))
  have HBm := Lib.hid (below_step HBW.out (below_step HB3.out hbM))
  clear hwm hM hbM hsz3
  have hF0 := HF.out wm (Below.refl _ _)
  have m0 : wm.cell? ⟨w3.heap.size, 0, none⟩ = some (.int .i64 n3) := hF0.1.cell 0
  have m1 : wm.cell? ⟨w3.heap.size, 1, none⟩ = some (.slice A3 lm.length c3) := hF0.1.cell 1
  have a0 : wm.cell? ⟨w1.heap.size, 0, none⟩ = some (.int .i64 ca) := hF0.2.2.1.cell 0
  have a1 : wm.cell? ⟨w1.heap.size, 1, none⟩ = some (.slice A1 la.length c1) := hF0.2.2.1.cell 1
  cases hok : okM ca cb la lb with
  | false =>
    have hn0 := HRN.out hok
    subst hn0
    have HI1 := Lib.hid (fun W' (h : Below wm.heap.size wm W') => smy.impl_any (cnt := ca) A1 c1 la W' hla (HF.out W' h).2.2.2.2.1)
    have HI2 := Lib.hid (fun W' (h : Below wm.heap.size wm W') => smy.spec_any (cnt := ca) A1 c1 la W' hla (HF.out W' h).2.2.2.2.1)
    generalize vsmy ca la = va at HI1 HI2
    have z0 := fun d os => cell_regrown m0 d os
    have z2 := fun d os => cell_regrown a0 d os
    have z3 := fun d os => cell_regrown a1 d os
    clear hok hF0 HOKM HRM HRN
    go_wp2_with fail
    cases va
    all_goals
      (refine wp_region_quiet_below (by kernel_rfl) (by kernel_rfl) ?_; (repeat (quiet_step (first | exact Calls.regrown_of (HI1.out _ (below_regrown _ _ _)) | exact Calls.regrown_of (HI2.out _ (below_regrown _ _ _))))); refine wpQuiet_nil ?_; intro _ hw'; obtain ⟨⟨dq, osq⟩, hw''⟩ := hw'; subst hw'')
      have hbq := below_step HBm.out (below_regrown wm dq osq)
      go_wp2
      go_ret
      exact ⟨rfl, hbq⟩
  | true =>
    have hr := HRM.out hok
    obtain ⟨hr1, hr2⟩ := hr
    rw [HOKM.out, Bool.and_eq_true, Bool.and_eq_true] at hok
    have HV := Lib.hid hok
    have HVM := Lib.hid (show vsmy (ca + cb) lm = true by rw [hr1]; exact hok.2.2)
    have HGAP := Lib.hid (show smyGap.res (ca + cb) lm ≤ smyGap.res ca la + smyGap.res cb lb + 1 by
      rw [smyGap.res, smyGap.res, smyGap.res, if_pos HVM.out, if_pos hok.1, if_pos hok.2.1, hr1]
      exact gap_union hok.1 hok.2.1)
    have HLN := Lib.hid (show lm.length = la.length + lb.length by rw [hr1, union_length])
    have HGB := Lib.hid (show ∀ (cnt : Int) (l : List Rkv), vsmy cnt l = true → 0 ≤ smyGap.res cnt l ∧ smyGap.res cnt l ≤ 1000 from fun cnt l h => by
      rw [smyGap.res, if_pos h]
      by_cases h0 : l.length = 0
      · rw [h0]; simp [smyGap.g]
      · exact smyGap.g_bd h _ (by omega))
    have hga := HGB.out _ _ hok.1
    have hgb := HGB.out _ _ hok.2.1
    have hgm := HGB.out _ _ HVM.out
    have hca := vsmy_cnt hok.1
    have hcb := vsmy_cnt hok.2.1
    have hcl : 0 ≤ ca ∧ ca ≤ 1000 ∧ 0 ≤ cb ∧ cb ≤ 1000 ∧ la.length ≤ 64 ∧ lb.length ≤ 64 := ⟨hca.1, hca.2.1, hcb.1, hcb.2.1, hca.2.2.1, hcb.2.2.1⟩
    clear hr1 hok hca hcb HGB HOKM HRM HRN
    subst hr2
    obtain ⟨ga, hga0⟩ : ∃ g, g = smyGap.res ca la := ⟨_, rfl⟩
    obtain ⟨gb, hgb0⟩ : ∃ g, g = smyGap.res cb lb := ⟨_, rfl⟩
    obtain ⟨gm, hgm0⟩ : ∃ g, g = smyGap.res (ca + cb) lm := ⟨_, rfl⟩
    rw [← hga0, ← hgb0, ← hgm0] at HGAP
    rw [← hga0] at hga
    rw [← hgb0] at hgb
    rw [← hgm0] at hgm
    have HG1 := smyGap.impl_any (cnt := ca + cb) A3 c3 lm wm hs3 hF0.2.1
    rw [← hgm0, show smyGap.ok (ca + cb) lm = true from HVM.out] at HG1
    have HG2 := Lib.hid (fun W' (h : Below wm.heap.size wm W') => show Calls Try.prog 24 #[.agg #[.int .i64 ca, .slice A1 la.length c1]] W' fun e w' => e = .returned (.tuple #[.int .i64 ga, .bool (smyGap.ok ca la)]) ∧ Below W'.heap.size W' w' by
      rw [hga0]; exact smyGap.impl_any (cnt := ca) A1 c1 la W' hla (HF.out W' h).2.2.2.2.1)
    have HG3 := Lib.hid (fun W' (h : Below wm.heap.size wm W') => show Calls Try.prog 24 #[.agg #[.int .i64 cb, .slice A2 lb.length c2]] W' fun e w' => e = .returned (.tuple #[.int .i64 gb, .bool (smyGap.ok cb lb)]) ∧ Below W'.heap.size W' w' by
      rw [hgb0]; exact smyGap.impl_any (cnt := cb) A2 c2 lb W' hlb (HF.out W' h).2.2.2.2.2)
    have HG1h := Lib.hid HG1
    clear HG1 hga0 hgb0 hgm0 hF0
    go_wp2_with fail
    with_reducible refine HG1h.out.mono ?_
    rintro e w4 ⟨rfl, hb4⟩
    have hF4 := HF.out w4 hb4
    have x0 : w4.cell? ⟨w1.heap.size, 0, none⟩ = some (.int .i64 ca) := hF4.2.2.1.cell 0
    have x1 : w4.cell? ⟨w1.heap.size, 1, none⟩ = some (.slice A1 la.length c1) := hF4.2.2.1.cell 1
    have HG2h := Lib.hid (HG2.out w4 hb4)
    clear m0 m1 a0 a1 hF4 HG1h
    go_wp2_with fail
    with_reducible refine HG2h.out.mono ?_
    rintro e w5 ⟨rfl, hb5⟩
    have hb45 := below_step hb4 hb5
    have hF5 := HF.out w5 hb45
    have y0 : w5.cell? ⟨w1.heap.size + 1, 0, none⟩ = some (.int .i64 cb) := hF5.2.2.2.1.cell 0
    have y1 : w5.cell? ⟨w1.heap.size + 1, 1, none⟩ = some (.slice A2 lb.length c2) := hF5.2.2.2.1.cell 1
    have HG3h := Lib.hid (HG3.out w5 hb45)
    clear x0 x1 hF5 HG2h hb4 hb5
    go_wp2_with fail
    with_reducible refine HG3h.out.mono ?_
    rintro e w6 ⟨rfl, hb6⟩
    have hb46 := below_step hb45 hb6
    have hF6 := HF.out w6 hb46
    have m0 : w6.cell? ⟨w3.heap.size, 0, none⟩ = some (.int .i64 (ca + cb)) := hF6.1.cell 0
    have m1 : w6.cell? ⟨w3.heap.size, 1, none⟩ = some (.slice A3 lm.length c3) := hF6.1.cell 1
    have HI := smy.impl_any (cnt := ca + cb) A3 c3 lm w6 hs3 hF6.2.1
    rw [HVM.out] at HI
    have HIh := Lib.hid HI
    clear y0 y1 hF6 HG3h HI hb45 hb6
    go_wp2_with fail
    with_reducible refine HIh.out.mono ?_
    rintro e w7 ⟨rfl, hb7⟩
    have hb47 := below_step hb46 hb7
    have hF7 := HF.out w7 hb47
    have p0 : w7.cell? ⟨w3.heap.size, 0, none⟩ = some (.int .i64 (ca + cb)) := hF7.1.cell 0
    have p1 : w7.cell? ⟨w3.heap.size, 1, none⟩ = some (.slice A3 lm.length c3) := hF7.1.cell 1
    have x0 : w7.cell? ⟨w1.heap.size, 0, none⟩ = some (.int .i64 ca) := hF7.2.2.1.cell 0
    have x1 : w7.cell? ⟨w1.heap.size, 1, none⟩ = some (.slice A1 la.length c1) := hF7.2.2.1.cell 1
    have y0 : w7.cell? ⟨w1.heap.size + 1, 0, none⟩ = some (.int .i64 cb) := hF7.2.2.2.1.cell 0
    have y1 : w7.cell? ⟨w1.heap.size + 1, 1, none⟩ = some (.slice A2 lb.length c2) := hF7.2.2.2.1.cell 1
    have HEND := Lib.hid (below_step HBm.out hb47)
    have r1 : IntKind.i64.wrap (ga + gb) = ga + gb := IntWalk.i64_in _ (by omega)
    have r2 : IntKind.i64.wrap (ga + gb + 1) = ga + gb + 1 := IntWalk.i64_in _ (by omega)
    have r3 := HGAP.out
    have r4 : ((lm.length : Nat) : Int) = (la.length : Int) + (lb.length : Int) := by rw [HLN.out]; omega
    have r5 : IntKind.i64.wrap (ca + cb) = ca + cb := IntWalk.i64_in _ (by omega)
    have r6 : IntKind.i64.wrap ((la.length : Int) + (lb.length : Int)) = (la.length : Int) + (lb.length : Int) := IntWalk.i64_in _ (by omega)
    clear hF7 HIh hb46 hb47 hb7 m0 m1
    go_wp2
    go_ret
    exact ⟨rfl, HEND.out⟩

theorem own : ownKnob Try.prog.godebug = none := by kernel_rfl
theorem laidOut : laidOutB Try.prog = true := by kernel_rfl
set_option maxRecDepth 100000 in
theorem lifted (os : Os) (started : os.Started) (H : Type) (enc : TypeId × Value → H) :
    ReturnsInHanded {} Try.checked os 11 .any (Rows.fnSummaryMergedSpec.pre6 enc Try.prog Try.f11 Rows.fnSummaryMergedRow.domain false) (Rows.fnSummaryMergedSpec.post enc Try.prog Try.f11 false true false false) := by
  refine returnsInHanded_of_change (C := Try.checked) own started (by kernel_rfl) Try.func11
    (ChangeSpec.witness6 (enc := enc) (C := Try.checked) false ⟨#[], #[.slice none 0 0], []⟩ 8 (by kernel_rfl) (by kernel_rfl) (by kernel_rfl) (by kernel_rfl)) ?_
  intro W base args ds gs before hval0 hW hcnd _
  have hval : ∀ (j : Nat) t v, Try.f11.params[j]? = some t → args[j]? = some v → Value.okWide Try.prog W .any base t v := hval0
  have hW' := hW
  have hlt : ∀ x ∈ before, x.block < W.heap.size := fun x hx => by simpa using hW.lt x hx
  obtain ⟨p, q, hA0, hV, rfl, hfz, hnd⟩ := hW
  have hA : DataW.TrodAll enc Try.prog W 0 (fun _ => true) true Try.f11.params.toList args.toList ds p := hA0
  rw [Try.params11] at hA hval
  obtain ⟨v0, vs0, d0, ds0, p0, q0, hargs, rfl, rfl, h0, r0⟩ := trodAll_cons hA
  obtain ⟨rfl, rfl, rfl⟩ := trodAll_nil r0
  obtain rfl : args = #[v0] := by cases args; simp_all
  obtain ⟨A0, n0, c0, zs0, rfl, w0⟩ := mem.open_rd_bytes Try.underlying22 Try.underlying5 (by kernel_rfl) (hval 0 22 v0 rfl rfl) h0
  refine (walk A0 n0 c0 zs0 W w0).mono fun e W' ⟨he, hg⟩ => ?_
  subst he
  exact ⟨_, rfl, frame.post_true laidOut hW' rfl (of_decide_eq_true (by kernel_rfl)) (by kernel_rfl) Try.underlying4 rfl rfl rfl hg⟩
theorem over : Rows.fnSummaryMergedRow.holds Try.pinned (OpenSpec.ofChange Rows.fnSummaryMergedSpec) :=
  OpenClaim.holds_of_wide 11 Try.f11 rfl rfl rfl rfl rfl rfl rfl ⟨rfl, rfl, rfl, rfl, rfl⟩ rfl rfl rfl rfl rfl (by kernel_rfl) Try.func11 (by kernel_rfl)
    (of_decide_eq_true (by kernel_rfl)) (by unfold Func.isWrapper; first | (rw [if_pos (by decide +kernel)]; kernel_rfl) | (rw [if_neg (by decide +kernel)]; exact ⟨rfl, rfl⟩))
    (fun os started H enc _ => lifted os started H enc)
/-- The statement. -/
theorem proved : Rows.FnSummaryMergedSaid :=
  over
end Go.Proofs.Ytlckeefjhafloaa.fnSummaryMerged
