/- FnPrunedSummary: a pruned summary has few entries and describes every list that the original one describes. No condition. -/
import Derived.Test.YtlckeefjhafloaaFrame
import Derived.Test.YtlckeefjhafloaaCode
import Derived.Test.YtlckeefjhafloaaDrwFits
import Derived.Test.YtlckeefjhafloaaFitMore
import Derived.Test.YtlckeefjhafloaaSmyFitS
import Derived.Test.YtlckeefjhafloaaSmyPrS
import Derived.Deep.QuietTactic
import Derived.Lib.QuietBelow
set_option linter.unusedVariables false
set_option linter.unusedSimpArgs false
namespace Go.Proofs.Ytlckeefjhafloaa.fnPrunedSummary
open Go.ChangeShapes Go.WideShapes Go.ChangeAt Go.RowKit Go.Proofs.Ytlckeefjhafloaa.mem Go.Proofs.Ytlckeefjhafloaa.smy Go.Proofs.Ytlckeefjhafloaa.fitLaw
open Go.Proofs.Ytlckeefjhafloaa.smyFit (okF resF fitsv)
open Go.Proofs.Ytlckeefjhafloaa.srt (srt)
open Go.Proofs.Ytlckeefjhafloaa.lists (vlist)

set_option maxRecDepth 100000 in
set_option maxHeartbeats 8000000 in
theorem walk (A : Option Addr) (n c : Nat) (zs : List Int) (W : World) (h0 : n = zs.length ∧ n ≤ c ∧ c ≤ maxLen ∧ Rd W 1 A n (u8s zs) ∧ (∀ z ∈ zs, 0 ≤ z ∧ z ≤ 255)) :
    Calls Try.prog 14 #[.slice A n c] W fun e w' => e = .returned (.bool true) ∧ Below W.heap.size W w' := by
  obtain ⟨rfl, hnc, hcm, hr, hz⟩ := h0
  have HZ := Lib.hid hz
  clear hz
  have hn : zs.length ≤ maxLen := Nat.le_trans hnc hcm
  go_enter Try.func14, Try.ntmps14
  go_wp2_with fail
  refine (codes.big_any A _ c W hn).mono ?_
  rintro e w1 ⟨rfl, rfl⟩
  by_cases hbig : 65536 < zs.length
  · go_wp2
    go_ret
    exact ⟨rfl, Below.refl _ _⟩
  have hsm : zs.length ≤ 1048576 := by omega
  have hs65 : zs.length ≤ 65536 := by omega
  have hd : decide (65536 < zs.length) = false := by simpa using hbig
  rw [hd]
  clear hd hbig
  have HD := Lib.hid (drw.fits_any A c zs W hsm HZ.out hr)
  go_wp2_with fail
  with_reducible refine HD.out.mono ?_
  rintro e w1 ⟨cnt, A1, l, c1, A2, ll, c2, rfl, htw⟩
  have hr1 := hr.below htw.2.2.2.2
  have HT := Lib.hid htw
  have hll := htw.2.2.2.1
  have hls := htw.2.2.1
  have hS := Blk.new w1 29 #[.int .i64 cnt, .slice A1 l.length c1]
  have hbS := (Below.refl w1.heap.size w1).alloc (Nat.le_refl _) (.cells #[.int .i64 cnt, .slice A1 l.length c1] 29)
  have HA := Lib.hid (codes.at_any A c zs 3 _ hs65 (by omega) HZ.out (hr1.below hbS))
  clear htw HD hr1
  go_wp2_with fail
  refine HA.out.mono ?_
  rintro e w2 ⟨x, hx, rfl, hw2⟩
  rw [hw2] at hS hbS
  clear hw2 HA
  obtain ⟨y, hy⟩ : ∃ y : Nat, y = x % 9 := ⟨_, rfl⟩
  have r1 : (x : Int).tmod 9 = (y : Int) := by rw [Int.tmod_eq_emod_of_nonneg (by omega)]; omega
  have r2 : (x : Int) % 9 = (y : Int) := by omega
  have r3 : IntKind.i64.wrap (1 + (y : Int)) = 1 + (y : Int) := IntWalk.i64_in _ (by omega)
  have hy9 : y ≤ 8 := by omega
  obtain ⟨gs, hgs⟩ : ∃ gs, gs = w1.heap.size := ⟨_, rfl⟩
  rw [← hgs] at hS
  have HS := Lib.hid (And.intro hS hbS)
  have HX := Lib.hid hy
  clear hy hS hbS
  have HRD := Lib.hid (fun W' (h : Below w2.heap.size w2 W') => And.intro (HS.out.1.below h HS.out.1.lt) (And.intro (HT.out.1.below (below_step HS.out.2 h)) (HT.out.2.1.below (below_step HS.out.2 h))))
  have HBW := Lib.hid (below_step HT.out.2.2.2.2 HS.out.2)
  have hF0 := HRD.out w2 (Below.refl _ _)
  have s0 : w2.cell? ⟨gs, 0, none⟩ = some (.int .i64 cnt) := hF0.1.cell 0
  have s1 : w2.cell? ⟨gs, 1, none⟩ = some (.slice A1 l.length c1) := hF0.1.cell 1
  have HPR := Lib.hid (smyPr.impl_any (cnt := cnt) A1 c1 l (1 + (y : Int)) w2 hls hF0.2.1)
  have HIN := Lib.hid (show Go.Proofs.Ytlckeefjhafloaa.ins.inB (1 + (y : Int)) 1 63 = true from Go.Proofs.Ytlckeefjhafloaa.ins.inB_iff.2 ⟨by omega, by omega⟩)
  have HOK := Lib.hid (show smyPr.ok cnt l (1 + (y : Int)) = (vsmy cnt l && (!decide (cnt = 0) && Go.Proofs.Ytlckeefjhafloaa.ins.inB (1 + (y : Int)) 1 63)) from rfl)
  clear hF0 HS HT
  rw [← hgs]
  clear hgs
  go_wp2_with fail
  with_reducible refine HPR.out.mono ?_
  rintro e w3 ⟨v3, n3, rfl, hn3, ⟨ho3, hs3⟩, hb3⟩
  have HRS := Lib.hid (fun h : smyPr.ok cnt l (1 + (y : Int)) = true => show smyPr.res cnt l (1 + (y : Int)) = prLaw.pick cnt l (1 + (y : Int)) ((1 + (y : Int)).toNat + 1) l.length ∧ n3 = cnt by rw [hn3, smyPr.res, smyPr.resN, if_pos h, if_pos h]; exact ⟨rfl, rfl⟩)
  clear hn3
  generalize smyPr.res cnt l (1 + (y : Int)) = lp at ho3 hs3 HRS
  obtain ⟨A3, c3, rfl, _, _, rd3⟩ := own_form ho3
  have HRD3 := Lib.hid rd3
  have HB3 := Lib.hid hb3
  clear rd3 hb3 ho3 s0 s1
  have hsz3 := HB3.out.size
  have hM := Blk.new w3 29 #[.int .i64 n3, .slice A3 lp.length c3]
  have hbM := (Below.refl w3.heap.size w3).alloc (Nat.le_refl _) (.cells #[.int .i64 n3, .slice A3 lp.length c3] 29)
  go_upto_region 6 with fail
  obtain ⟨wm, hwm⟩ : ∃ Wm : World, Wm = w3.alloc (.cells #[.int .i64 n3, .slice A3 lp.length c3] 29) := ⟨_, rfl⟩
  obtain ⟨gp, hgp⟩ : ∃ gp, gp = w3.heap.size := ⟨_, rfl⟩
  rw [← hwm] at hM hbM ⊢
  rw [← hgp] at hM ⊢
  have HF := Lib.hid (fun W' (h : Below wm.heap.size wm W') => And.intro (hM.below h hM.lt) (And.intro (HRD3.out.below (below_step hbM h)) (HRD.out W' (below_step HB3.out (below_step hbM h)))))
  have HBm := Lib.hid (below_step HBW.out (below_step HB3.out hbM))
  clear hwm hgp hM hbM hsz3 HRD HBW HPR
  have hF0 := HF.out wm (Below.refl _ _)
  have m0 : wm.cell? ⟨gp, 0, none⟩ = some (.int .i64 n3) := hF0.1.cell 0
  have m1 : wm.cell? ⟨gp, 1, none⟩ = some (.slice A3 lp.length c3) := hF0.1.cell 1
  have a0 : wm.cell? ⟨gs, 0, none⟩ = some (.int .i64 cnt) := hF0.2.2.1.cell 0
  have a1 : wm.cell? ⟨gs, 1, none⟩ = some (.slice A1 l.length c1) := hF0.2.2.1.cell 1
  have HI1 := Lib.hid (fun W' (h : Below wm.heap.size wm W') => smy.impl_any (cnt := cnt) A1 c1 l W' hls (HF.out W' h).2.2.2.1)
  have HI2 := Lib.hid (fun W' (h : Below wm.heap.size wm W') => smy.spec_any (cnt := cnt) A1 c1 l W' hls (HF.out W' h).2.2.2.1)
  clear hF0
  cases hv : vsmy cnt l with
  | false =>
    have HO0 := Lib.hid (show smyPr.ok cnt l (1 + (y : Int)) = false by rw [HOK.out, hv]; rfl)
    rw [hv] at HI1 HI2
    rw [HO0.out]
    clear hv HOK HRS
    go_wp2_with fail
    with_reducible refine (HI1.out wm (Below.refl _ _)).mono ?_
    rintro e w5 ⟨rfl, hb5⟩
    have hF5 := HF.out w5 hb5
    have b0 : w5.cell? ⟨gs, 0, none⟩ = some (.int .i64 cnt) := hF5.2.2.1.cell 0
    have b1 : w5.cell? ⟨gs, 1, none⟩ = some (.slice A1 l.length c1) := hF5.2.2.1.cell 1
    have z2 := fun d os => cell_regrown b0 d os
    have z3 := fun d os => cell_regrown b1 d os
    have HBE := Lib.hid (below_step HBm.out hb5)
    have HB5 := Lib.hid hb5
    clear hF5 hb5 m0 m1 a0 a1
    go_wp2_with fail
    (refine wp_region_quiet_below (by kernel_rfl) (by kernel_rfl) ?_; (repeat (quiet_step (first | exact Calls.regrown_of (HI1.out _ (below_step HB5.out (below_regrown _ _ _))) | exact Calls.regrown_of (HI2.out _ (below_step HB5.out (below_regrown _ _ _)))))); refine wpQuiet_nil ?_; intro _ hw'; obtain ⟨⟨dq, osq⟩, hw''⟩ := hw'; subst hw'')
    have hbq := below_step HBE.out (below_regrown w5 dq osq)
    go_wp2
    go_ret
    exact ⟨rfl, hbq⟩
  | true =>
    rw [hv] at HI1 HI2
    by_cases hc0 : cnt = 0
    · have HO0 := Lib.hid (show smyPr.ok cnt l (1 + (y : Int)) = false by rw [HOK.out, hc0]; simp)
      rw [HO0.out]
      subst hc0
      clear hv HOK HRS
      go_wp2_with fail
      with_reducible refine (HI1.out wm (Below.refl _ _)).mono ?_
      rintro e w5 ⟨rfl, hb5⟩
      have hF5 := HF.out w5 hb5
      have b0 : w5.cell? ⟨gs, 0, none⟩ = some (.int .i64 0) := hF5.2.2.1.cell 0
      have b1 : w5.cell? ⟨gs, 1, none⟩ = some (.slice A1 l.length c1) := hF5.2.2.1.cell 1
      have z2 := fun d os => cell_regrown b0 d os
      have z3 := fun d os => cell_regrown b1 d os
      have HBE := Lib.hid (below_step HBm.out hb5)
      have HB5 := Lib.hid hb5
      clear hF5 hb5 m0 m1 a0 a1
      go_wp2_with fail
      (refine wp_region_quiet_below (by kernel_rfl) (by kernel_rfl) ?_; (repeat (quiet_step (first | exact Calls.regrown_of (HI1.out _ (below_step HB5.out (below_regrown _ _ _))) | exact Calls.regrown_of (HI2.out _ (below_step HB5.out (below_regrown _ _ _)))))); refine wpQuiet_nil ?_; intro _ hw'; obtain ⟨⟨dq, osq⟩, hw''⟩ := hw'; subst hw'')
      have hbq := below_step HBE.out (below_regrown w5 dq osq)
      go_wp2
      go_ret
      exact ⟨rfl, hbq⟩
    · have HO1 := Lib.hid (show smyPr.ok cnt l (1 + (y : Int)) = true by rw [HOK.out, hv, HIN.out]; simp [hc0])
      have hr := HRS.out HO1.out
      have hpr := pruned (size := 1 + (y : Int)) hv hc0 (by omega)
      have HFP := Lib.hid (fun h : fitsv cnt (srt ll) l = true => fits_pruned (size := 1 + (y : Int)) hv hc0 (by omega) h)
      rw [← hr.1] at hpr HFP
      have hr2 := hr.2
      clear hr
      subst hr2
      have hpl := hpr.2
      have HVP := Lib.hid hpr.1
      have HOF := Lib.hid (show okF n3 l ll = vlist ll ∧ okF n3 lp ll = vlist ll ∧ resF n3 l ll = (vlist ll && fitsv n3 (srt ll) l) ∧ resF n3 lp ll = (vlist ll && fitsv n3 (srt ll) lp) by
        simp [okF, resF, hv, HVP.out])
      rw [HO1.out]
      have hcz : (n3 == 0) = false := by simpa using hc0
      have HF1 := Lib.hid (fun W' (h : Below wm.heap.size wm W') => show Calls Try.prog 21 #[.agg #[.int .i64 n3, .slice A1 l.length c1], .slice A2 ll.length c2] W' fun e w' => e = .returned (.tuple #[.bool (vlist ll && fitsv n3 (srt ll) l), .bool (vlist ll)]) ∧ Below W'.heap.size W' w' by
        have := smyFit.impl_any (cnt := n3) A1 c1 l A2 c2 ll W' hls (HF.out W' h).2.2.2.1 (by omega) (HF.out W' h).2.2.2.2
        rw [HOF.out.2.2.1, HOF.out.1] at this; exact this)
      have HF2 := Lib.hid (fun W' (h : Below wm.heap.size wm W') => show Calls Try.prog 21 #[.agg #[.int .i64 n3, .slice A3 lp.length c3], .slice A2 ll.length c2] W' fun e w' => e = .returned (.tuple #[.bool (vlist ll && fitsv n3 (srt ll) lp), .bool (vlist ll)]) ∧ Below W'.heap.size W' w' by
        have := smyFit.impl_any (cnt := n3) A3 c3 lp A2 c2 ll W' hs3 (HF.out W' h).2.1 (by omega) (HF.out W' h).2.2.2.2
        rw [HOF.out.2.2.2, HOF.out.2.1] at this; exact this)
      have HI3 := Lib.hid (fun W' (h : Below wm.heap.size wm W') => show Calls Try.prog 22 #[.agg #[.int .i64 n3, .slice A3 lp.length c3]] W' fun e w' => e = .returned (.bool true) ∧ Below W'.heap.size W' w' by
        have := smy.impl_any (cnt := n3) A3 c3 lp W' hs3 (HF.out W' h).2.1
        rw [HVP.out] at this; exact this)
      clear hv hc0 HOK HRS hpr HOF HO1 HIN
      go_wp2_with fail
      with_reducible refine (HI1.out wm (Below.refl _ _)).mono ?_
      rintro e w5 ⟨rfl, hb5⟩
      have hF5 := HF.out w5 hb5
      have b0 : w5.cell? ⟨gs, 0, none⟩ = some (.int .i64 n3) := hF5.2.2.1.cell 0
      have b1 : w5.cell? ⟨gs, 1, none⟩ = some (.slice A1 l.length c1) := hF5.2.2.1.cell 1
      have HF1h := Lib.hid (HF1.out w5 hb5)
      clear hF5 m0 m1 a0 a1
      obtain ⟨vv, hvv⟩ : ∃ vv, vv = vlist ll := ⟨_, rfl⟩
      obtain ⟨f1, hf1⟩ : ∃ f1, f1 = fitsv n3 (srt ll) l := ⟨_, rfl⟩
      obtain ⟨f2, hf2⟩ : ∃ f2, f2 = fitsv n3 (srt ll) lp := ⟨_, rfl⟩
      rw [← hvv, ← hf1] at HF1h
      rw [← hvv, ← hf2] at HF2
      rw [← hf1, ← hf2] at HFP
      clear hvv hf1 hf2 HF1
      have hcase : (vv = false) ∨ (vv = true ∧ f1 = false) ∨ (vv = true ∧ f1 = true ∧ f2 = true) := by
        cases vv with
        | false => exact Or.inl rfl
        | true =>
          cases f1 with
          | false => exact Or.inr (Or.inl ⟨rfl, rfl⟩)
          | true => exact Or.inr (Or.inr ⟨rfl, rfl, HFP.out rfl⟩)
      clear HFP
      have q1 : (lp.length : Int) ≤ 1 + (y : Int) + 1 := by omega
      have q2 : IntKind.i64.wrap (1 + (y : Int) + 1) = 1 + (y : Int) + 1 := IntWalk.i64_in _ (by omega)
      have HBL := Lib.hid hb5
      clear hb5 hpl
      rcases hcase with rfl | ⟨rfl, rfl⟩ | ⟨rfl, rfl, rfl⟩
      all_goals
        simp only [Bool.false_and, Bool.true_and] at HF1h HF2
        go_wp2_with fail
        with_reducible refine HF1h.out.mono ?_
        rintro e w6 ⟨rfl, hb6⟩
        have hb56 := below_step HBL.out hb6
        have hF6 := HF.out w6 hb56
        have m0 : w6.cell? ⟨gp, 0, none⟩ = some (.int .i64 n3) := hF6.1.cell 0
        have m1 : w6.cell? ⟨gp, 1, none⟩ = some (.slice A3 lp.length c3) := hF6.1.cell 1
        have HF2h := Lib.hid (HF2.out w6 hb56)
        clear b0 b1 hF6 hb6
        go_wp2_with fail
        with_reducible refine HF2h.out.mono ?_
        rintro e w7 ⟨rfl, hb7⟩
        have hb57 := below_step hb56 hb7
        have hF7 := HF.out w7 hb57
        have k0 : w7.cell? ⟨gp, 0, none⟩ = some (.int .i64 n3) := hF7.1.cell 0
        have k1 : w7.cell? ⟨gp, 1, none⟩ = some (.slice A3 lp.length c3) := hF7.1.cell 1
        have HI3h := Lib.hid (HI3.out w7 hb57)
        clear m0 m1 hF7 hb7 hb56
        go_wp2_with fail
        with_reducible refine HI3h.out.mono ?_
        rintro e w8 ⟨rfl, hb8⟩
        have hb58 := below_step hb57 hb8
        have hF8 := HF.out w8 hb58
        have j0 : w8.cell? ⟨gp, 0, none⟩ = some (.int .i64 n3) := hF8.1.cell 0
        have j1 : w8.cell? ⟨gp, 1, none⟩ = some (.slice A3 lp.length c3) := hF8.1.cell 1
        have HEND := Lib.hid (below_step HBm.out hb58)
        clear k0 k1 hF8 hb57 hb8 hb58
        go_wp2
        go_ret
        exact ⟨rfl, HEND.out⟩

theorem own : ownKnob Try.prog.godebug = none := by kernel_rfl
theorem laidOut : laidOutB Try.prog = true := by kernel_rfl
set_option maxRecDepth 100000 in
theorem lifted (os : Os) (started : os.Started) (H : Type) (enc : TypeId × Value → H) :
    ReturnsInHanded {} Try.checked os 14 .any (Rows.fnPrunedSummarySpec.pre6 enc Try.prog Try.f14 Rows.fnPrunedSummaryRow.domain false) (Rows.fnPrunedSummarySpec.post enc Try.prog Try.f14 false true false false) := by
  refine returnsInHanded_of_change (C := Try.checked) own started (by kernel_rfl) Try.func14
    (ChangeSpec.witness6 (enc := enc) (C := Try.checked) false ⟨#[], #[.slice none 0 0], []⟩ 8 (by kernel_rfl) (by kernel_rfl) (by kernel_rfl) (by kernel_rfl)) ?_
  intro W base args ds gs before hval0 hW hcnd _
  have hval : ∀ (j : Nat) t v, Try.f14.params[j]? = some t → args[j]? = some v → Value.okWide Try.prog W .any base t v := hval0
  have hW' := hW
  have hlt : ∀ x ∈ before, x.block < W.heap.size := fun x hx => by simpa using hW.lt x hx
  obtain ⟨p, q, hA0, hV, rfl, hfz, hnd⟩ := hW
  have hA : DataW.TrodAll enc Try.prog W 0 (fun _ => true) true Try.f14.params.toList args.toList ds p := hA0
  rw [Try.params14] at hA hval
  obtain ⟨v0, vs0, d0, ds0, p0, q0, hargs, rfl, rfl, h0, r0⟩ := trodAll_cons hA
  obtain ⟨rfl, rfl, rfl⟩ := trodAll_nil r0
  obtain rfl : args = #[v0] := by cases args; simp_all
  obtain ⟨A0, n0, c0, zs0, rfl, w0⟩ := mem.open_rd_bytes Try.underlying22 Try.underlying5 (by kernel_rfl) (hval 0 22 v0 rfl rfl) h0
  refine (walk A0 n0 c0 zs0 W w0).mono fun e W' ⟨he, hg⟩ => ?_
  subst he
  exact ⟨_, rfl, frame.post_true laidOut hW' rfl (of_decide_eq_true (by kernel_rfl)) (by kernel_rfl) Try.underlying4 rfl rfl rfl hg⟩
theorem over : Rows.fnPrunedSummaryRow.holds Try.pinned (OpenSpec.ofChange Rows.fnPrunedSummarySpec) :=
  OpenClaim.holds_of_wide 14 Try.f14 rfl rfl rfl rfl rfl rfl rfl ⟨rfl, rfl, rfl, rfl, rfl⟩ rfl rfl rfl rfl rfl (by kernel_rfl) Try.func14 (by kernel_rfl)
    (of_decide_eq_true (by kernel_rfl)) (by unfold Func.isWrapper; first | (rw [if_pos (by decide +kernel)]; kernel_rfl) | (rw [if_neg (by decide +kernel)]; exact ⟨rfl, rfl⟩))
    (fun os started H enc _ => lifted os started H enc)
/-- The statement. -/
theorem proved : Rows.FnPrunedSummarySaid :=
  over
end Go.Proofs.Ytlckeefjhafloaa.fnPrunedSummary
