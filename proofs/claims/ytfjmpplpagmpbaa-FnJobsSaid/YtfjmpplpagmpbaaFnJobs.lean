/- FnJobs: the loads of a schedule add up to the total time, and the largest one is at most the average load and the longest time together. No condition. -/
import Derived.Test.YtfjmpplpagmpbaaFrame
import Derived.Test.YtfjmpplpagmpbaaCode
import Derived.Test.YtfjmpplpagmpbaaDrwJob
import Derived.Test.YtfjmpplpagmpbaaJobW
import Derived.Test.YtfjmpplpagmpbaaJobS
import Derived.Test.YtfjmpplpagmpbaaVInts
import Derived.Test.YtfjmpplpagmpbaaRSum
set_option linter.unusedVariables false
set_option linter.unusedSimpArgs false
namespace Go.Proofs.Ytfjmpplpagmpbaa.fnJobs
open Go.ChangeShapes Go.WideShapes Go.ChangeAt Go.RowKit Go.Proofs.Ytfjmpplpagmpbaa.mem Go.Proofs.Ytfjmpplpagmpbaa.jobLaw

set_option maxRecDepth 100000 in
set_option maxHeartbeats 8000000 in
theorem walk (A : Option Addr) (n c : Nat) (zs : List Int) (W : World) (h0 : n = zs.length ∧ n ≤ c ∧ c ≤ maxLen ∧ Rd W 1 A n (u8s zs) ∧ (∀ z ∈ zs, 0 ≤ z ∧ z ≤ 255)) :
    Calls Try.prog 9 #[.slice A n c] W fun e w' => e = .returned (.bool true) ∧ Below W.heap.size W w' := by
  obtain ⟨rfl, hnc, hcm, hr, hz⟩ := h0
  have HZ := Lib.hid hz
  clear hz
  have hn : zs.length ≤ maxLen := Nat.le_trans hnc hcm
  go_enter Try.func9, Try.ntmps9
  go_wp2_with fail
  refine (codes.big_any A _ c W hn).mono ?_
  rintro e w1 ⟨rfl, rfl⟩
  by_cases hbig : 65536 < zs.length
  · go_wp2
    go_ret
    exact ⟨rfl, Below.refl _ _⟩
  have hsm : zs.length ≤ 1048576 := by omega
  have hd : decide (65536 < zs.length) = false := by simpa using hbig
  rw [hd]
  clear hd hbig
  go_wp2_with fail
  refine (drw.jobs_any A c zs W hsm HZ.out hr).mono ?_
  rintro e w1 ⟨v, ts, k, rfl, hol, hll, hk1, hk2, hb1⟩
  obtain ⟨Al, cl, rfl, _, _, hrl⟩ := own_form hol
  clear hol
  go_wp2_with fail
  refine (jobLaw.impl_any Al cl ts k w1 hll hrl).mono ?_
  rintro e w2 ⟨v2, rfl, ⟨ho2, hk2⟩, hb2⟩
  obtain ⟨A2, c2, rfl, _, hc2m, _⟩ := own_form ho2
  have hrl2 := hrl.below hb2
  go_wp2_with fail
  refine (jobLaw.spec_any Al cl ts k w2 hll hrl2).mono ?_
  rintro e w3 ⟨v3, rfl, ⟨ho3, hk3⟩, hb3⟩
  obtain ⟨A3, c3, rfl, _, hc3m, rd3⟩ := own_form ho3
  have rd2 := (own_rd ho2).below hb3
  have hrl3 := hrl2.below hb3
  have hbW := below_step (below_step hb1 hb2) hb3
  clear hrl2 hrl hb1 hb2 hb3 ho2 ho3
  have hk2m : (outJ ts k).length ≤ maxLen := by unfold maxLen; omega
  have HV := Lib.hid (vints.eq_any A2 A3 c2 c3 (outJ ts k) (outJ ts k) w3 hk2m hk2m rd2 rd3)
  rw [show decide (outJ ts k = outJ ts k) = true by simp] at HV
  clear rd3
  cases hok : okJ ts k with
  | false =>
    have HR := Lib.hid (show outJ ts k = [] ∧ spanJ ts k = 0 by simp [outJ, spanJ, hok])
    have hlen : (outJ ts k).length = 0 := by rw [HR.out.1]; rfl
    rw [HR.out.2]
    rw [hlen] at HV
    clear hok
    go_wp2_with fail
    with_reducible refine HV.out.mono ?_
    rintro e w4 ⟨rfl, m, rfl⟩
    have hbW2 := below_drewN hbW m
    go_wp2
    go_ret
    exact ⟨rfl, hbW2⟩
  | true =>
    obtain ⟨h64, htm, hq1, hq2⟩ := okJ_iff.1 hok
    obtain ⟨q, rfl⟩ : ∃ q : Nat, k = (q : Int) := ⟨k.toNat, by omega⟩
    have HR := Lib.hid (show outJ ts (q : Int) = (stt ts q ts.length).1 ∧ spanJ ts (q : Int) = mx (stt ts q ts.length).2 by simp [outJ, spanJ, hok])
    have hq0 : 0 < q := by omega
    have HTM := Lib.hid htm
    clear hok htm
    go_wp2_with fail
    with_reducible refine HV.out.mono ?_
    rintro e w4 ⟨rfl, m, rfl⟩
    have hbW2 := below_drewN hbW m
    have rdG := rd2.drewN m
    have rdT := hrl3.drewN m
    rw [HR.out.1] at rdG
    obtain ⟨w4, hw4⟩ : ∃ w4 : World, w4 = w3.drewN m := ⟨_, rfl⟩
    rw [← hw4] at hbW2 rdG rdT
    rw [← hw4]
    clear hw4 hbW rd2 hrl3 HV
    rw [HR.out.1, HR.out.2]
    have hmk : ∀ W : World, (Instr.makeSlice 22 (.int .i64 (q : Int)) (.int .i64 (q : Int))).run Try.prog W = .ok (.slice (some ⟨W.heap.size, 0, none⟩) q q) (W.alloc (.cells (rep q (.int .i64 0)) 3)) :=
      make_rep (P := Try.prog) 22 3 _ _ Try.underlying22 info_int rfl q (by omega) (by unfold maxLen; omega)
    have HLEN := Lib.hid (stt_len ts q ts.length (Nat.le_refl _))
    have HGI := Lib.hid (fun (i : Nat) (h : i < ts.length) => given_in ts hq0 h)
    have HLE := Lib.hid (ld_eq (ts := ts) hq0)
    have HSG := Lib.hid (fun (i : Nat) (h : i < ts.length) => span_ge HTM.out hq0 h)
    have HST := Lib.hid (span_total HTM.out hq0)
    have HSS := Lib.hid (fun (lg : Int) (h : ∀ i, i < ts.length → tm ts i ≤ lg) (h0 : 0 ≤ lg) => span_short HTM.out hq0 h h0 ts.length (Nat.le_refl _))
    have HPOS := Lib.hid (stt_pos HTM.out q ts.length (Nat.le_refl _))
    have HBK := Lib.hid (show Blk (w4.alloc (.cells (rep q (.int .i64 0)) 3)) w4.heap.size 3 (ints (ld (fun i => (stt ts q ts.length).1.getD i 0) ts q 0)).toArray by
      have e : ld (fun i => (stt ts q ts.length).1.getD i 0) ts q 0 = List.replicate q 0 := rfl
      rw [e, ← blk_rep]
      exact Blk.new w4 3 (rep q (.int .i64 0)))
    have HAB := Lib.hid ((Below.refl w4.heap.size w4).alloc (Nat.le_refl _) (.cells (rep q (.int .i64 0)) 3))
    obtain ⟨G, hG⟩ : ∃ G, G = (stt ts q ts.length).1 := ⟨_, rfl⟩
    obtain ⟨Y, hY⟩ : ∃ Y, Y = (stt ts q ts.length).2 := ⟨_, rfl⟩
    rw [← hG] at rdG HLEN HGI HLE HBK
    rw [← hY] at HLEN HLE HSG HST HSS HPOS
    rw [← hG, ← hY]
    clear hG hY HR
    obtain ⟨sp, hsp⟩ : ∃ sp, sp = mx Y := ⟨_, rfl⟩
    rw [← hsp] at HSG HST HSS
    rw [← hsp]
    have HSPE := Lib.hid hsp
    clear hsp
    obtain ⟨gf, hgf⟩ : ∃ gf : Nat → Int, gf = fun i => G.getD i 0 := ⟨_, rfl⟩
    rw [← hgf] at HLE HBK
    have HGF := Lib.hid hgf
    clear hgf
    have HSPB := Lib.hid (show 0 ≤ sp ∧ sp ≤ 6400000 by
      rw [HSPE.out]
      exact ⟨mx_nonneg Y, mx_le Y (by omega) (fun y hy => by have := HPOS.out y hy; omega)⟩)
    have HWF := Lib.hid (fun (W' : World) (hb : Below w4.heap.size w4 W') => And.intro (rdG.below hb) (rdT.below hb))
    clear rdG rdT
    go_wp2
    go_loopg [12, 13] (ts.length + 1) (fun f lg i wr => ∃ (k : Nat) (x : Int), ts.length < k + f ∧ k ≤ ts.length ∧ i = .int .i64 (k : Int) ∧ lg = .int .i64 x ∧ 0 ≤ x ∧ x ≤ 100000 ∧ (∀ j, j < k → tm ts j ≤ x) ∧ (x = 0 ∨ ∃ j, j < ts.length ∧ tm ts j = x) ∧
      (∀ z ∈ ld gf ts q k, 0 ≤ z ∧ z ≤ 100000 * (k : Int)) ∧ Blk wr w4.heap.size 3 (ints (ld gf ts q k)).toArray ∧ Below w4.heap.size w4 wr)
    case atStart => exact ⟨0, 0, by omega, by omega, rfl, rfl, by omega, by omega, fun j h => absurd h (by omega), Or.inl rfl, fun z hz => by have := (List.mem_replicate.1 (show z ∈ List.replicate q 0 from hz)).2; omega, HBK.out, HAB.out⟩
    case round =>
      obtain ⟨k, x, hkf, hk, rfl, rfl, hx0, hx1, hxa, hxe, hlb, hblk, hb⟩ := hrel
      have HX := Lib.hid (And.intro hxa hxe)
      clear hxa hxe
      have hldl := ld_len gf ts q k
      by_cases hlt : k < ts.length
      · have q1 : (k : Int) < (ts.length : Int) := by omega
        obtain ⟨a, ha, haq⟩ := HGI.out k hlt
        have HGK := Lib.hid (show gf k = (a : Int) by rw [HGF.out]; exact ha)
        have hkG : k < G.length := by rw [HLEN.out.1]; exact hlt
        have hGk : G[k] = (a : Int) := by
          rw [← ha, List.getD_eq_getElem?_getD, List.getElem?_eq_getElem hkG]; rfl
        have HLG := Lib.hid HLEN.out.1
        have HLD := Lib.hid (show ld gf ts q (k + 1) = (ld gf ts q k).set a ((ld gf ts q k).getD a 0 + tm ts k) by rw [ld, HGK.out, Int.toNat_natCast])
        have htk := tm_bd HTM.out hlt
        have HTK := Lib.hid (show tm ts k = ts[k]'hlt by rw [tm, List.getD_eq_getElem?_getD, List.getElem?_eq_getElem hlt]; rfl)
        obtain ⟨bG, oG, rfl, cG⟩ := (HWF.out _ hb).1.int hkG
        obtain ⟨bT, oT, rfl, cT⟩ := (HWF.out _ hb).2.int hlt
        rw [hGk] at cG
        rw [← HTK.out] at cT
        have q1G : (k : Int) < (G.length : Int) := by omega
        have c1 := blk_int hblk (i := a) (by omega)
        have f1 := hblk.thaw a
        have hyb := hlb ((ld gf ts q k).getD a 0) (by rw [List.getD_eq_getElem?_getD, List.getElem?_eq_getElem (by omega)]; exact List.getElem_mem _)
        have hbl2 := blk_set hblk a ((ld gf ts q k).getD a 0 + tm ts k)
        rw [← HLD.out] at hbl2
        have HLB := Lib.hid (show ∀ z ∈ ld gf ts q (k + 1), 0 ≤ z ∧ z ≤ 100000 * ((k + 1 : Nat) : Int) from fun z hz => by
          rw [HLD.out] at hz
          rcases List.mem_or_eq_of_mem_set hz with h | h
          · have := hlb z h; omega
          · omega)
        have hb2 := hb.setCell (p := ⟨w4.heap.size, a, none⟩) (Nat.le_refl _) (.int .i64 ((ld gf ts q k).getD a 0 + tm ts k))
        have HCT := Lib.hid ((HWF.out _ hb2).2.int_at hlt)
        rw [← HTK.out] at HCT
        have cT2 := HCT.out
        have HXN := Lib.hid (show ∀ y, (∀ j, j < k → tm ts j ≤ y) → tm ts k ≤ y → ∀ j, j < k + 1 → tm ts j ≤ y from fun y h h2 j hj => by
          by_cases e : j = k
          · subst e; exact h2
          · exact h j (by omega))
        have HXK := Lib.hid (show ∃ j, j < ts.length ∧ tm ts j = tm ts k from ⟨k, hlt, rfl⟩)
        generalize (ld gf ts q k).getD a 0 = y at c1 hyb hbl2 hb2 cT2
        generalize tm ts k = tk at cT htk hbl2 hb2 cT2 HXN HXK
        have q2 : ¬ (a : Int) < 0 := by omega
        have q2b : decide ((a : Int) < 0) = false := decide_eq_false q2
        have q3 : ¬ (q : Int) ≤ (a : Int) := by omega
        have q3b : decide ((q : Int) ≤ (a : Int)) = false := decide_eq_false q3
        have q4 : (a : Int) < (q : Int) := by omega
        have hwr : IntKind.i64.wrap (y + tk) = y + tk := IntWalk.i64_in _ (by omega)
        have HFB := Lib.hid (And.intro hbl2 hb2)
        clear hblk hbl2 hb2 hlb
        by_cases hgt : x < tk
        · go_wp2_with fail
          go_region
          all_goals
            go_wp2
            go_roundg (gk - 1)
            case measure => omega
            case rel => exact ⟨k + 1, tk, by omega, by omega, by go_num, rfl, by omega, by omega, HXN.out tk (fun j hj => by have := HX.out.1 j hj; omega) (Int.le_refl _), Or.inr HXK.out, HLB.out, HFB.out.1, ⟨HFB.out.2.os, HFB.out.2.tape, HFB.out.2.output, HFB.out.2.size, HFB.out.2.block⟩⟩
        · go_wp2_with fail
          go_region
          all_goals
            go_wp2
            go_roundg (gk - 1)
            case measure => omega
            case rel => exact ⟨k + 1, x, by omega, by omega, by go_num, rfl, by omega, by omega, HXN.out x HX.out.1 (by omega), HX.out.2, HLB.out, HFB.out.1, ⟨HFB.out.2.os, HFB.out.2.tape, HFB.out.2.output, HFB.out.2.size, HFB.out.2.block⟩⟩
      · have hkn : k = ts.length := by omega
        have hbY : Blk wr w4.heap.size 3 (ints Y).toArray := by rw [hkn, HLE.out] at hblk; exact hblk
        have HXS := Lib.hid (show x ≤ sp by
          rcases HX.out.2 with h | ⟨j, hj, h⟩
          · have := HSPB.out; omega
          · have := HSG.out j hj; omega)
        have HXL := Lib.hid (HSS.out x (fun j hj => HX.out.1 j (by omega)) hx0)
        have q1 : ¬ (k : Int) < (ts.length : Int) := by omega
        have hYq : Y.length = q := HLEN.out.2
        have hrT := (HWF.out _ hb).2
        have hbF := below_at hbW2 hbW2.size hb
        have HYQ := Lib.hid hYq
        clear hblk hlb hkn hYq hldl
        obtain ⟨w5, hw5⟩ : ∃ w5 : World, w5 = wr := ⟨_, rfl⟩
        rw [← hw5] at hbY hrT hbF
        rw [← hw5]
        clear hw5 hb
        go_wp2
        go_loopg [14, 15] (q + 1) (fun f mo i wr => ∃ j : Nat, q < j + f ∧ j ≤ q ∧ i = .int .i64 (j : Int) ∧ mo = .int .i64 (mx (Y.take j)) ∧ w5 = wr)
        case atStart => exact ⟨0, by omega, by omega, rfl, rfl, rfl⟩
        case round =>
          obtain ⟨j, hjf, hj, rfl, rfl, rfl⟩ := hrel
          by_cases hlt2 : j < q
          · have hjY : j < Y.length := by rw [HYQ.out]; exact hlt2
            have c1 := blk_int hbY hjY
            have hg : Y.getD j 0 = Y[j] := by rw [List.getD_eq_getElem?_getD, List.getElem?_eq_getElem hjY]; rfl
            rw [hg] at c1
            have HMT := Lib.hid (mx_take Y hjY)
            generalize Y[j] = y at c1 HMT
            obtain ⟨m0, hm0⟩ : ∃ m0, m0 = mx (Y.take j) := ⟨_, rfl⟩
            rw [← hm0] at HMT
            rw [← hm0]
            clear hm0 hg
            have q2 : (j : Int) < (q : Int) := by omega
            by_cases hgt : m0 < y
            · have HM2 := Lib.hid (show y = mx (Y.take (j + 1)) by rw [HMT.out]; omega)
              go_wp2
              go_roundg (gk - 1)
              case measure => omega
              case rel => exact ⟨j + 1, by omega, by omega, by go_num, by rw [← HM2.out], rfl⟩
            · have HM2 := Lib.hid (show m0 = mx (Y.take (j + 1)) by rw [HMT.out]; omega)
              go_wp2
              go_roundg (gk - 1)
              case measure => omega
              case rel => exact ⟨j + 1, by omega, by omega, by go_num, by rw [← HM2.out], rfl⟩
          · have HMF := Lib.hid (show mx (Y.take j) = sp by rw [HSPE.out, show j = Y.length by rw [HYQ.out]; omega, List.take_length])
            have q2 : ¬ (j : Int) < (q : Int) := by omega
            rw [HMF.out]
            have hs1 := HSPB.out
            have hs2 := HXS.out
            have hq16 : (q : Int) ≤ 16 := hq2
            have hm1 : (q : Int) * sp ≤ 16 * sp := Int.mul_le_mul_of_nonneg_right hq16 hs1.1
            have hm2 : 0 ≤ (q : Int) * sp := Int.mul_nonneg (by omega) hs1.1
            have hm3 : (q : Int) * (sp - x) ≤ 16 * (sp - x) := Int.mul_le_mul_of_nonneg_right hq16 (by omega)
            have hm4 : 0 ≤ (q : Int) * (sp - x) := Int.mul_nonneg (by omega) (by omega)
            have r1 : IntKind.i64.wrap ((q : Int) * sp) = (q : Int) * sp := IntWalk.i64_in _ (by omega)
            have r2 : IntKind.i64.wrap (sp - x) = sp - x := IntWalk.i64_in _ (by omega)
            have r3 : IntKind.i64.wrap ((q : Int) * (sp - x)) = (q : Int) * (sp - x) := IntWalk.i64_in _ (by omega)
            have hst := HST.out
            have hxl := HXL.out
            have HRS := Lib.hid (rsum.any Al cl ts w5 hll (fun z hz => by have := HTM.out z hz; omega) hrT)
            generalize ts.sum = tsum at hst hxl HRS
            have r4 : wrap64 ((q : Int) * (sp - x)) = (q : Int) * (sp - x) := by unfold wrap64; omega
            have r5 : wrap64 ((q : Int) * sp) = (q : Int) * sp := by unfold wrap64; omega
            have d1 : decide ((q : Int) * (sp - x) ≤ tsum) = true := decide_eq_true hxl
            have d2 : decide (tsum ≤ (q : Int) * sp) = true := decide_eq_true hst
            go_wp2_with fail
            with_reducible refine HRS.out.mono ?_
            rintro e w6 ⟨rfl, rfl⟩
            go_wp2_with fail
            with_reducible refine HRS.out.mono ?_
            rintro e w6 ⟨rfl, rfl⟩
            go_wp2
            go_ret
            exact ⟨rfl, hbF⟩

theorem own : ownKnob Try.prog.godebug = none := by kernel_rfl
theorem laidOut : laidOutB Try.prog = true := by kernel_rfl
set_option maxRecDepth 100000 in
theorem lifted (os : Os) (started : os.Started) (H : Type) (enc : TypeId × Value → H) :
    ReturnsInHanded {} Try.checked os 9 .any (Rows.fnJobsSpec.pre6 enc Try.prog Try.f9 Rows.fnJobsRow.domain false) (Rows.fnJobsSpec.post enc Try.prog Try.f9 false true false false) := by
  refine returnsInHanded_of_change (C := Try.checked) own started (by kernel_rfl) Try.func9
    (ChangeSpec.witness6 (enc := enc) (C := Try.checked) false ⟨#[], #[.slice none 0 0], []⟩ 8 (by kernel_rfl) (by kernel_rfl) (by kernel_rfl) (by kernel_rfl)) ?_
  intro W base args ds gs before hval0 hW hcnd _
  have hval : ∀ (j : Nat) t v, Try.f9.params[j]? = some t → args[j]? = some v → Value.okWide Try.prog W .any base t v := hval0
  have hW' := hW
  have hlt : ∀ x ∈ before, x.block < W.heap.size := fun x hx => by simpa using hW.lt x hx
  obtain ⟨p, q, hA0, hV, rfl, hfz, hnd⟩ := hW
  have hA : DataW.TrodAll enc Try.prog W 0 (fun _ => true) true Try.f9.params.toList args.toList ds p := hA0
  rw [Try.params9] at hA hval
  obtain ⟨v0, vs0, d0, ds0, p0, q0, hargs, rfl, rfl, h0, r0⟩ := trodAll_cons hA
  obtain ⟨rfl, rfl, rfl⟩ := trodAll_nil r0
  obtain rfl : args = #[v0] := by cases args; simp_all
  obtain ⟨A0, n0, c0, zs0, rfl, w0⟩ := mem.open_rd_bytes Try.underlying28 Try.underlying5 (by kernel_rfl) (hval 0 28 v0 rfl rfl) h0
  refine (walk A0 n0 c0 zs0 W w0).mono fun e W' ⟨he, hg⟩ => ?_
  subst he
  exact ⟨_, rfl, frame.post_true laidOut hW' rfl (of_decide_eq_true (by kernel_rfl)) (by kernel_rfl) Try.underlying4 rfl rfl rfl hg⟩
theorem over : Rows.fnJobsRow.holds Try.pinned (OpenSpec.ofChange Rows.fnJobsSpec) :=
  OpenClaim.holds_of_wide 9 Try.f9 rfl rfl rfl rfl rfl rfl rfl ⟨rfl, rfl, rfl, rfl, rfl⟩ rfl rfl rfl rfl rfl (by kernel_rfl) Try.func9 (by kernel_rfl)
    (of_decide_eq_true (by kernel_rfl)) (by unfold Func.isWrapper; first | (rw [if_pos (by decide +kernel)]; kernel_rfl) | (rw [if_neg (by decide +kernel)]; exact ⟨rfl, rfl⟩))
    (fun os started H enc _ => lifted os started H enc)
/-- The statement. -/
theorem proved : Rows.FnJobsSaid :=
  over
end Go.Proofs.Ytfjmpplpagmpbaa.fnJobs
