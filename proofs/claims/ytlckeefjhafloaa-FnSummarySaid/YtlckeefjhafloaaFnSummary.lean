/- FnSummary: an exact summary describes its list; a merged summary describes the concatenation, and its gap is at most the sum of both gaps. No condition. -/
import Derived.Test.YtlckeefjhafloaaFrame
import Derived.Test.YtlckeefjhafloaaCode
import Derived.Test.YtlckeefjhafloaaCutB
import Derived.Test.YtlckeefjhafloaaDrwList
import Derived.Test.YtlckeefjhafloaaFitLaw
import Derived.Test.YtlckeefjhafloaaSmyFitS
import Derived.Deep.QuietTactic
set_option linter.unusedVariables false
set_option linter.unusedSimpArgs false
namespace Go.Proofs.Ytlckeefjhafloaa.fnSummary
open Go.ChangeShapes Go.WideShapes Go.ChangeAt Go.RowKit Go.Proofs.Ytlckeefjhafloaa.mem Go.Proofs.Ytlckeefjhafloaa.srt Go.Proofs.Ytlckeefjhafloaa.smy Go.Proofs.Ytlckeefjhafloaa.fitLaw
open Go.Proofs.Ytlckeefjhafloaa.smyOf (okS resS resSN exk exk_len)
open Go.Proofs.Ytlckeefjhafloaa.smyMg (okM resM resMN)
open Go.Proofs.Ytlckeefjhafloaa.smyFit (okF resF)
open Go.Proofs.Ytlckeefjhafloaa.lists (vlist vlist_len vlist_key)

set_option maxRecDepth 100000 in
set_option maxHeartbeats 400000 in
theorem isv_any (A : Option Addr) (c : Nat) (zs : List Int) (w : World) (hn : zs.length ≤ 1048576) (hr : Rd w 1 A zs.length (ints zs)) :
    Calls Try.prog 20 #[.slice A zs.length c] w fun e w' => e = .returned (.bool (vlist zs)) ∧ w = w' := by
  go_enter Try.func20, Try.ntmps20
  go_wp2_with fail
  refine (lists.spec_any A c zs w hn hr).mono ?_
  rintro e w1 ⟨rfl, rfl⟩
  go_wp2
  go_ret
  exact ⟨rfl, rfl⟩

set_option maxRecDepth 100000 in
set_option maxHeartbeats 8000000 in
theorem walk (A : Option Addr) (n c : Nat) (zs : List Int) (W : World) (h0 : n = zs.length ∧ n ≤ c ∧ c ≤ maxLen ∧ Rd W 1 A n (u8s zs) ∧ (∀ z ∈ zs, 0 ≤ z ∧ z ≤ 255)) :
    Calls Try.prog 3 #[.slice A n c] W fun e w' => e = .returned (.bool true) ∧ Below W.heap.size W w' := by
  obtain ⟨rfl, hnc, hcm, hr, hz⟩ := h0
  have HZ := Lib.hid hz
  clear hz
  have hn : zs.length ≤ maxLen := Nat.le_trans hnc hcm
  go_enter Try.func3, Try.ntmps3
  go_wp2_with fail
  refine (codes.big_any A _ c W hn).mono ?_
  rintro e w1 ⟨rfl, rfl⟩
  by_cases hbig : 65536 < zs.length
  · go_wp2
    go_ret
    exact ⟨rfl, Below.refl _ _⟩
  have hsm : zs.length ≤ 1048576 := by omega
  have hs65 : zs.length ≤ 65536 := by omega
  have hd : decide (65536 < zs.length) = false := by simpa using hbig
  rw [hd]
  clear hd hbig
  have HD := Lib.hid (drw.list_any A c zs W hsm HZ.out hr)
  go_wp2_with fail
  with_reducible refine HD.out.mono ?_
  rintro e w1 ⟨va, a, rfl, hoa, hla, hb1⟩
  obtain ⟨Aa, ca, rfl, hac, hcam, rda⟩ := own_form hoa
  have hr1 := hr.below hb1
  clear hoa
  have HC := Lib.hid (cutB.cut_any A c 9 zs w1 hsm hnc (by omega) HZ.out hr1)
  rw [show ((9 : Nat) : Int) = 9 from rfl] at HC
  go_wp2_with fail
  with_reducible refine HC.out.mono ?_
  rintro e w2 ⟨vc, ys, rfl, hoc, hyz, hyl, hb2⟩
  obtain ⟨Ac, cc, rfl, _, _, rdc⟩ := own_form hoc
  have rda2 := rda.below hb2
  have hym : ys.length ≤ 1048576 := by omega
  have HD2 := Lib.hid (drw.list_any Ac cc ys w2 hym hyz rdc)
  go_wp2_with fail
  with_reducible refine HD2.out.mono ?_
  rintro e w3 ⟨vb, b, rfl, hob, hlb, hb3⟩
  obtain ⟨Ab, cb, rfl, hbc, hcbm, rdb⟩ := own_form hob
  have rda3 := rda2.below hb3
  have hbW := below_step (below_step hb1 hb2) hb3
  clear hob hoc hb1 hb2 hb3 rda rda2 rdc hr1 HD HC HD2 hym hyl hyz
  have HS1 := smyOf.impl_any Aa ca a w3 (by omega) rda3
  rw [show okS a = vlist a from rfl] at HS1
  have HS1h := Lib.hid HS1
  clear HS1
  go_wp2_with fail
  with_reducible refine HS1h.out.mono ?_
  rintro e w4 ⟨v1, n1, rfl, hn1, ⟨ho1, hs1⟩, hb4⟩
  have HN1 := Lib.hid hn1
  have HR1 := Lib.hid (fun h : vlist a = true => show resS a = exk (srt a) a.length ∧ resSN a = (a.length : Int) by simp [resS, resSN, okS, h])
  have HZ1 := Lib.hid (fun h : vlist a = false => show resSN a = 0 by simp [resSN, okS, h])
  clear hn1
  generalize resS a = xa at ho1 hs1 HR1
  obtain ⟨A1, c1, rfl, _, _, rd1⟩ := own_form ho1
  have rda4 := rda3.below hb4
  have rdb4 := rdb.below hb4
  have hbW4 := below_step hbW hb4
  clear HS1h rda3 rdb hbW hb4 ho1
  have HX := Lib.hid (Blk.new w4 29 #[.int .i64 n1, .slice A1 xa.length c1])
  have HBX := Lib.hid ((Below.refl w4.heap.size w4).alloc (Nat.le_refl _) (.cells #[.int .i64 n1, .slice A1 xa.length c1] 29))
  have HS2 := smyOf.impl_any Ab cb b _ (by omega) (rdb4.below HBX.out)
  rw [show okS b = vlist b from rfl] at HS2
  have HS2h := Lib.hid HS2
  clear HS2
  go_wp2_with fail
  with_reducible refine HS2h.out.mono ?_
  rintro e w5 ⟨v2, n2, rfl, hn2, ⟨ho2, hs2⟩, hb5⟩
  have HN2 := Lib.hid hn2
  have HR2 := Lib.hid (fun h : vlist b = true => show resS b = exk (srt b) b.length ∧ resSN b = (b.length : Int) by simp [resS, resSN, okS, h])
  have HZ2 := Lib.hid (fun h : vlist b = false => show resSN b = 0 by simp [resSN, okS, h])
  clear hn2
  generalize resS b = xb at ho2 hs2 HR2
  obtain ⟨A2, c2, rfl, _, _, rd2⟩ := own_form ho2
  obtain ⟨gx, hgx⟩ : ∃ g, g = w4.heap.size := ⟨_, rfl⟩
  have hX5 := HX.out.below hb5 (by simp)
  have hbX5 := below_step HBX.out hb5
  have hbW5 := below_step hbW4 hbX5
  rw [← hgx] at hX5 ⊢
  have rd1b := rd1.below hbX5
  have rda5 := rda4.below hbX5
  have rdb5 := rdb4.below hbX5
  clear HS2h HX HBX hbX5 hb5 rda4 rdb4 rd1 hbW4 ho2 hgx
  have hY := Blk.new w5 29 #[.int .i64 n2, .slice A2 xb.length c2]
  have hX6 := hX5.alloc (.cells #[.int .i64 n2, .slice A2 xb.length c2] 29)
  have hbY := (Below.refl w5.heap.size w5).alloc (Nat.le_refl _) (.cells #[.int .i64 n2, .slice A2 xb.length c2] 29)
  have HB6 := Lib.hid (below_step hbW5 hbY)
  have HV := Lib.hid (fun W (h : Below w5.heap.size w5 W) => And.intro (rd1b.below h) (And.intro (rda5.below h) (And.intro (rdb5.below h) (rd2.below h))))
  have HV0 := HV.out _ hbY
  have HI1 := Lib.hid (isv_any Aa ca a _ (by omega) HV0.2.1)
  have HI2 := Lib.hid (isv_any Ab cb b _ (by omega) HV0.2.2.1)
  clear hbW5 rd1b rda5 rdb5 rd2
  have x0 : (w5.alloc (.cells #[.int .i64 n2, .slice A2 xb.length c2] 29)).cell? ⟨gx, 0, none⟩ = some (.int .i64 n1) := hX6.cell 0
  have x1 : (w5.alloc (.cells #[.int .i64 n2, .slice A2 xb.length c2] 29)).cell? ⟨gx, 1, none⟩ = some (.slice A1 xa.length c1) := hX6.cell 1
  cases hva : vlist a with
  | false =>
    rw [hva] at HI1
    have hz1 := HN1.out.trans (HZ1.out hva)
    subst hz1
    clear hva
    cases hvb : vlist b
    all_goals
      rw [hvb] at HI2
      clear hvb
      go_wp2_with fail
      with_reducible refine HI1.out.mono ?_
      rintro e w6 ⟨rfl, rfl⟩
      go_wp2_with fail
      with_reducible refine HI2.out.mono ?_
      rintro e w6 ⟨rfl, rfl⟩
      go_wp2
      go_ret
      exact ⟨rfl, HB6.out⟩
  | true =>
    rw [hva] at HI1
    cases hvb : vlist b with
    | false =>
      rw [hvb] at HI2
      have hz2 := HN2.out.trans (HZ2.out hvb)
      subst hz2
      have y0 : (w5.alloc (.cells #[.int .i64 0, .slice A2 xb.length c2] 29)).cell? ⟨w5.heap.size, 0, none⟩ = some (.int .i64 0) := hY.cell 0
      clear hvb hva
      go_wp2_with fail
      with_reducible refine HI1.out.mono ?_
      rintro e w6 ⟨rfl, rfl⟩
      go_wp2_with fail
      with_reducible refine HI2.out.mono ?_
      rintro e w6 ⟨rfl, rfl⟩
      have HC := Lib.hid (show n1 = 0 ∨ ¬ n1 = 0 by omega)
      rcases HC.out with hc | hc
      · subst hc
        go_wp2
        go_ret
        exact ⟨rfl, HB6.out⟩
      · have hc2 : (n1 == 0) = false := by simpa using hc
        go_wp2
        go_ret
        exact ⟨rfl, HB6.out⟩
    | true =>
      rw [hvb] at HI2
      have hz1 := HN1.out.trans (HR1.out hva).2
      have hz2 := HN2.out.trans (HR2.out hvb).2
      have HXA := Lib.hid (show vsmy (a.length : Int) xa = true ∧ smyFit.fitsv (a.length : Int) (srt a) xa = true ∧ xa.length = a.length by
        rw [(HR1.out hva).1]; exact ⟨vsmy_exact hva, fits_exact hva, exk_len _ _⟩)
      have HXB := Lib.hid (show vsmy (b.length : Int) xb = true ∧ smyFit.fitsv (b.length : Int) (srt b) xb = true ∧ xb.length = b.length by
        rw [(HR2.out hvb).1]; exact ⟨vsmy_exact hvb, fits_exact hvb, exk_len _ _⟩)
      subst hz1
      subst hz2
      have HVV := Lib.hid (And.intro hva hvb)
      have HOF := Lib.hid (show okF (a.length : Int) xa a = true ∧ resF (a.length : Int) xa a = true by simp [okF, resF, HXA.out.1, HXA.out.2.1, hva])
      clear hva hvb HN1 HN2 HR1 HR2 HZ1 HZ2
      go_wp2_with fail
      obtain ⟨gy, hgy⟩ : ∃ g, g = w5.heap.size := ⟨_, rfl⟩
      obtain ⟨w6, hw6⟩ : ∃ W : World, W = w5.alloc (.cells #[.int .i64 (b.length : Int), .slice A2 xb.length c2] 29) := ⟨_, rfl⟩
      rw [← hgy] at hY ⊢
      rw [← hw6] at hY hX6 HV0 HI1 HI2 HB6 x0 x1 ⊢
      have HW := Lib.hid (fun W (h : Below w6.heap.size w6 W) => And.intro (hX6.below h hX6.lt) (And.intro (hY.below h hY.lt) (And.intro (HV0.1.below h) (And.intro (HV0.2.1.below h) (And.intro (HV0.2.2.1.below h) (HV0.2.2.2.below h))))))
      have HL := Lib.hid (And.intro hX6.lt hY.lt)
      clear hw6 hgy hY hX6 HV0 HV hX5 hbY
      with_reducible refine HI1.out.mono ?_
      rintro e w7 ⟨rfl, rfl⟩
      go_wp2_with fail
      with_reducible refine HI2.out.mono ?_
      rintro e w7 ⟨rfl, rfl⟩
      have HF1 := Lib.hid (smyFit.impl_any (cnt := (a.length : Int)) A1 c1 xa Aa ca a w6 hs1 (HW.out _ (Below.refl _ _)).2.2.1 (by omega) (HW.out _ (Below.refl _ _)).2.2.2.1)
      rw [HOF.out.1, HOF.out.2] at HF1
      go_wp2_with fail
      with_reducible refine HF1.out.mono ?_
      rintro e w7 ⟨rfl, hb7⟩
      have hW7 := HW.out _ hb7
      have y0 : w7.cell? ⟨gx, 0, none⟩ = some (.int .i64 (a.length : Int)) := hW7.1.cell 0
      have y1 : w7.cell? ⟨gx, 1, none⟩ = some (.slice A1 xa.length c1) := hW7.1.cell 1
      have HI3 := smy.impl_any (cnt := (a.length : Int)) A1 c1 xa w7 hs1 hW7.2.2.1
      rw [HXA.out.1] at HI3
      have HI3h := Lib.hid HI3
      clear x0 x1 HI1 HI2 HF1 HI3 hW7
      go_wp2_with fail
      with_reducible refine HI3h.out.mono ?_
      rintro e w8 ⟨rfl, hb8⟩
      have hb78 := below_step hb7 hb8
      have hW8 := HW.out _ hb78
      have x0 : w8.cell? ⟨gx, 0, none⟩ = some (.int .i64 (a.length : Int)) := hW8.1.cell 0
      have x1 : w8.cell? ⟨gx, 1, none⟩ = some (.slice A1 xa.length c1) := hW8.1.cell 1
      have v0 : w8.cell? ⟨gy, 0, none⟩ = some (.int .i64 (b.length : Int)) := hW8.2.1.cell 0
      have v1 : w8.cell? ⟨gy, 1, none⟩ = some (.slice A2 xb.length c2) := hW8.2.1.cell 1
      have HM := Lib.hid (smyMg.impl_any (ca := (a.length : Int)) (cb := (b.length : Int)) A1 c1 xa A2 c2 xb w8 hs1 hW8.2.2.1 hs2 hW8.2.2.2.2.2)
      clear y0 y1 hb7 hb8 hW8 HI3h
      go_wp2_with fail
      with_reducible refine HM.out.mono ?_
      rintro e w9 ⟨v3, n3, rfl, hn3, ⟨ho3, hs3⟩, hb9⟩
      have hb69 := below_step hb78 hb9
      have hW9 := HW.out _ hb69
      clear x0 x1 v0 v1 HM hb78
      have HW9 := Lib.hid hW9
      have HB69 := Lib.hid hb69
      clear hW9 hb69
      obtain ⟨A3, c3, rfl, _, _, rd3⟩ := own_form ho3
      have hM := Blk.new w9 29 #[.int .i64 n3, .slice A3 (smyMg.resM (a.length : Int) (b.length : Int) xa xb).length c3]
      have hbM := (Below.refl w9.heap.size w9).alloc (Nat.le_refl _) (.cells #[.int .i64 n3, .slice A3 (smyMg.resM (a.length : Int) (b.length : Int) xa xb).length c3] 29)
      have HBM := Lib.hid hbM
      have hla' := hla
      have hlb' := hlb
      by_cases h64 : a.length + b.length ≤ 64
      · have HOKM := Lib.hid (show okM (a.length : Int) (b.length : Int) xa xb = true by
          rw [okM, HXA.out.1, HXB.out.1, vsmy_union HXA.out.1 HXB.out.1 (by rw [HXA.out.2.2, HXB.out.2.2]; exact h64) (by omega)]; rfl)
        have HRM := Lib.hid (show resM (a.length : Int) (b.length : Int) xa xb = mgLaw.union (a.length : Int) (b.length : Int) xa xb ∧ n3 = (a.length : Int) + (b.length : Int) by
          rw [hn3, resM, resMN, if_pos HOKM.out, if_pos HOKM.out]; exact ⟨rfl, rfl⟩)
        have HVM := Lib.hid (vsmy_union HXA.out.1 HXB.out.1 (by rw [HXA.out.2.2, HXB.out.2.2]; exact h64) (by omega))
        have HGAP := Lib.hid (show smyGap.res ((a.length : Int) + (b.length : Int)) (mgLaw.union (a.length : Int) (b.length : Int) xa xb) ≤ smyGap.res (a.length : Int) xa + smyGap.res (b.length : Int) xb + 1 by
          rw [smyGap.res, smyGap.res, smyGap.res, if_pos HVM.out, if_pos HXA.out.1, if_pos HXB.out.1]
          exact gap_union HXA.out.1 HXB.out.1)
        have HOF3 := Lib.hid (show okF ((a.length : Int) + (b.length : Int)) (mgLaw.union (a.length : Int) (b.length : Int) xa xb) (a ++ b) = true ∧ resF ((a.length : Int) + (b.length : Int)) (mgLaw.union (a.length : Int) (b.length : Int) xa xb) (a ++ b) = true by
          have e := vlist_app HVV.out.1 HVV.out.2 h64
          have e2 := fits_union HXA.out.1 HXB.out.1 HVM.out HXA.out.2.1 HXB.out.2.1
          simp [okF, resF, HVM.out, e, e2])
        have HGB := Lib.hid (show ∀ (cnt : Int) (l : List Rkv), vsmy cnt l = true → 0 ≤ smyGap.res cnt l ∧ smyGap.res cnt l ≤ 1000 from fun cnt l h => by
          rw [smyGap.res, if_pos h]
          by_cases h0 : l.length = 0
          · rw [h0]; simp [smyGap.g]
          · exact smyGap.g_bd h _ (by omega))
        have hga := HGB.out _ _ HXA.out.1
        have hgb := HGB.out _ _ HXB.out.1
        have hgm := HGB.out _ _ HVM.out
        have hrm := HRM.out.1
        have hnn := HRM.out.2
        clear hn3 HRM HGB
        subst hnn
        rw [hrm] at hM hbM HBM ho3 rd3 hs3 ⊢
        rw [HOKM.out]
        generalize mgLaw.union (a.length : Int) (b.length : Int) xa xb = xm at hM hbM HBM ho3 rd3 hs3 HVM HGAP HOF3 hgm ⊢
        clear hrm HOKM ho3
        have q1 : ¬ (64 : Int) < (a.length : Int) + (b.length : Int) := by omega
        have q2 : IntKind.i64.wrap ((a.length : Int) + (b.length : Int)) = (a.length : Int) + (b.length : Int) := IntWalk.i64_in _ (by omega)
        obtain ⟨ga, hga0⟩ : ∃ g, g = smyGap.res (a.length : Int) xa := ⟨_, rfl⟩
        obtain ⟨gb, hgb0⟩ : ∃ g, g = smyGap.res (b.length : Int) xb := ⟨_, rfl⟩
        obtain ⟨g3, hgm0⟩ : ∃ g, g = smyGap.res ((a.length : Int) + (b.length : Int)) xm := ⟨_, rfl⟩
        rw [← hga0, ← hgb0, ← hgm0] at HGAP
        rw [← hga0] at hga
        rw [← hgb0] at hgb
        rw [← hgm0] at hgm
        have HG0 := Lib.hid (And.intro hga0 (And.intro hgb0 hgm0))
        clear hga0 hgb0 hgm0
        -- the concatenation
        have hsx := HB69.out.size
        obtain ⟨wm, hwm⟩ : ∃ W : World, W = w9.alloc (.cells #[.int .i64 ((a.length : Int) + (b.length : Int)), .slice A3 xm.length c3] 29) := ⟨_, rfl⟩
        have HMB := Lib.hid (fun W (h : Below wm.heap.size wm W) => And.intro ((hwm ▸ hM).below h (by rw [hwm]; simp)) (And.intro ((rd3.below hbM).below (hwm ▸ h)) (HW.out W (below_step HB69.out (below_step hbM (hwm ▸ h))))))
        have HBW := Lib.hid (below_step HB6.out (below_step HB69.out (hwm ▸ hbM)))
        clear hM hbM HBM rd3 hsx
        go_upto_region 16 with fail
        rw [← hwm]
        clear hwm
        have h0 := World.ownsRow_made (e := 3) (size := 1) wm #[] 0 (Nat.le_refl _) (Nat.zero_le _) (by simp)
        have hb0 : Below wm.heap.size wm (wm.alloc (.cells #[] 3)) := (Below.refl _ _).alloc (Nat.le_refl _) _
        have hs0 := hb0.size
        have ra := (HMB.out _ hb0).2.2.2.2.2.1
        have hha : 0 + a.length ≤ 1099511627776 := by omega
        have hhb : a.length + b.length ≤ 1099511627776 := by omega
        have HEA := Lib.hid (fun (v : Value) (w1 : World) (ho : w1.ownsRow wm.heap.size 3 1 v (0 + a.length) ([] ++ ints a)) => show w1.ownsRow wm.heap.size 3 1 v a.length (ints a) by simpa using ho)
        obtain ⟨ab, hab⟩ : ∃ ab, ab = a ++ b := ⟨_, rfl⟩
        rw [← hab] at HOF3
        have HAB := Lib.hid (show ab.length = a.length + b.length by rw [hab, List.length_append])
        have HEB := Lib.hid (fun (v : Value) (w1 : World) (ho : w1.ownsRow wm.heap.size 3 1 v (a.length + b.length) (ints a ++ ints b)) => show w1.ownsRow wm.heap.size 3 1 v ab.length (ints ab) by rw [HAB.out, hab, ints_app]; exact ho)
        clear hab
        go_wp2_with (first | (at_builtin; refine mem.extend _ rfl _ _ 24 rfl wm.heap.size 3 _ 1 8 Try.underlying24 mem.info_int rfl Nat.one_pos _ _ _ rfl h0 _ _ _ _ rfl ra (mem.ints_one _) hha (by decide) hs0 ?_; intro v' w' ho' hg'; have hbA := below_push hb0 hs0 hg' h0; have hsA := Nat.le_trans hs0 hg'.size; have ho2 := HEA.out _ _ ho'; have rb2 := (HMB.out _ hbA).2.2.2.2.2.2.1; clear ho' hg') | (at_builtin; refine mem.extend _ rfl _ _ 24 rfl wm.heap.size 3 _ 1 8 Try.underlying24 mem.info_int rfl Nat.one_pos _ _ _ rfl ho2 _ _ _ _ rfl rb2 (mem.ints_one _) hhb (by decide) hsA ?_; intro v3 wz ho3 hg3; have hbB := below_push hbA hsA hg3 ho2; have ho4 := HEB.out _ _ ho3; have hMF := HMB.out _ hbB; have m0 : wz.cell? ⟨w9.heap.size, 0, none⟩ = some (.int .i64 ((a.length : Int) + (b.length : Int))) := hMF.1.cell 0; have m1 : wz.cell? ⟨w9.heap.size, 1, none⟩ = some (.slice A3 xm.length c3) := hMF.1.cell 1; obtain ⟨A4, c4, rfl, _, _, rd4⟩ := own_form ho4; clear ho3 hg3 ho2 rb2 ho4))
        have HF3 := Lib.hid (smyFit.impl_any (cnt := (a.length : Int) + (b.length : Int)) A3 c3 xm A4 c4 ab wz hs3 hMF.2.1 (by rw [HAB.out]; omega) rd4)
        rw [HOF3.out.1, HOF3.out.2] at HF3
        with_reducible refine HF3.out.mono ?_
        rintro e wa ⟨rfl, hba⟩
        have hbA1 := below_step hbB hba
        have hMF2 := HMB.out _ hbA1
        have n0 : wa.cell? ⟨w9.heap.size, 0, none⟩ = some (.int .i64 ((a.length : Int) + (b.length : Int))) := hMF2.1.cell 0
        have n1 : wa.cell? ⟨w9.heap.size, 1, none⟩ = some (.slice A3 xm.length c3) := hMF2.1.cell 1
        have HG3 := Lib.hid (smyGap.impl_any (cnt := (a.length : Int) + (b.length : Int)) A3 c3 xm wa hs3 hMF2.2.1)
        rw [← HG0.out.2.2] at HG3
        clear m0 m1 hMF HF3 hba hbB hMF2 hbA hsA h0 hb0 hs0 ra
        go_wp2_with fail
        with_reducible refine HG3.out.mono ?_
        rintro e wb ⟨rfl, hbb⟩
        have hbB1 := below_step hbA1 hbb
        have hMF3 := HMB.out _ hbB1
        have x0 : wb.cell? ⟨gx, 0, none⟩ = some (.int .i64 (a.length : Int)) := hMF3.2.2.1.cell 0
        have x1 : wb.cell? ⟨gx, 1, none⟩ = some (.slice A1 xa.length c1) := hMF3.2.2.1.cell 1
        have HG1 := Lib.hid (smyGap.impl_any (cnt := (a.length : Int)) A1 c1 xa wb hs1 hMF3.2.2.2.2.1)
        rw [← HG0.out.1] at HG1
        clear n0 n1 hMF3 HG3 hbb hbA1
        go_wp2_with fail
        with_reducible refine HG1.out.mono ?_
        rintro e wc ⟨rfl, hbc⟩
        have hbC1 := below_step hbB1 hbc
        have hMF4 := HMB.out _ hbC1
        have y0 : wc.cell? ⟨gy, 0, none⟩ = some (.int .i64 (b.length : Int)) := hMF4.2.2.2.1.cell 0
        have y1 : wc.cell? ⟨gy, 1, none⟩ = some (.slice A2 xb.length c2) := hMF4.2.2.2.1.cell 1
        have HG2 := Lib.hid (smyGap.impl_any (cnt := (b.length : Int)) A2 c2 xb wc hs2 hMF4.2.2.2.2.2.2.2)
        rw [← HG0.out.2.1] at HG2
        clear x0 x1 hMF4 HG1 hbc hbB1
        go_wp2_with fail
        with_reducible refine HG2.out.mono ?_
        rintro e wd ⟨rfl, hbd⟩
        have hbD1 := below_step hbC1 hbd
        have hMF5 := HMB.out _ hbD1
        have z0 : wd.cell? ⟨w9.heap.size, 0, none⟩ = some (.int .i64 ((a.length : Int) + (b.length : Int))) := hMF5.1.cell 0
        have HEND := Lib.hid (below_step HBW.out hbD1)
        have r1 : IntKind.i64.wrap (ga + gb) = ga + gb := IntWalk.i64_in _ (by omega)
        have r2 : IntKind.i64.wrap (ga + gb + 1) = ga + gb + 1 := IntWalk.i64_in _ (by omega)
        have r3 := HGAP.out
        have r4 : ((ab.length : Nat) : Int) = (a.length : Int) + (b.length : Int) := by rw [HAB.out]; omega
        clear hMF5 HG2 hbd hbC1 hbD1
        go_wp2
        go_ret
        exact ⟨rfl, HEND.out⟩
      · have HOKM := Lib.hid (show okM (a.length : Int) (b.length : Int) xa xb = false by
          rw [okM, HXA.out.1, HXB.out.1, long_union (by rw [HXA.out.2.2, HXB.out.2.2]; exact h64)]; rfl)
        have HEND := Lib.hid (below_step HB6.out (below_step HB69.out hbM))
        have q1 : (64 : Int) < (a.length : Int) + (b.length : Int) := by omega
        have q2 : IntKind.i64.wrap ((a.length : Int) + (b.length : Int)) = (a.length : Int) + (b.length : Int) := IntWalk.i64_in _ (by omega)
        rw [HOKM.out]
        clear hn3 ho3 rd3 hM hbM
        go_wp2
        go_ret
        exact ⟨rfl, HEND.out⟩

theorem own : ownKnob Try.prog.godebug = none := by kernel_rfl
theorem laidOut : laidOutB Try.prog = true := by kernel_rfl
set_option maxRecDepth 100000 in
theorem lifted (os : Os) (started : os.Started) (H : Type) (enc : TypeId × Value → H) :
    ReturnsInHanded {} Try.checked os 3 .any (Rows.fnSummarySpec.pre6 enc Try.prog Try.f3 Rows.fnSummaryRow.domain false) (Rows.fnSummarySpec.post enc Try.prog Try.f3 false true false false) := by
  refine returnsInHanded_of_change (C := Try.checked) own started (by kernel_rfl) Try.func3
    (ChangeSpec.witness6 (enc := enc) (C := Try.checked) false ⟨#[], #[.slice none 0 0], []⟩ 8 (by kernel_rfl) (by kernel_rfl) (by kernel_rfl) (by kernel_rfl)) ?_
  intro W base args ds gs before hval0 hW hcnd _
  have hval : ∀ (j : Nat) t v, Try.f3.params[j]? = some t → args[j]? = some v → Value.okWide Try.prog W .any base t v := hval0
  have hW' := hW
  have hlt : ∀ x ∈ before, x.block < W.heap.size := fun x hx => by simpa using hW.lt x hx
  obtain ⟨p, q, hA0, hV, rfl, hfz, hnd⟩ := hW
  have hA : DataW.TrodAll enc Try.prog W 0 (fun _ => true) true Try.f3.params.toList args.toList ds p := hA0
  rw [Try.params3] at hA hval
  obtain ⟨v0, vs0, d0, ds0, p0, q0, hargs, rfl, rfl, h0, r0⟩ := trodAll_cons hA
  obtain ⟨rfl, rfl, rfl⟩ := trodAll_nil r0
  obtain rfl : args = #[v0] := by cases args; simp_all
  obtain ⟨A0, n0, c0, zs0, rfl, w0⟩ := mem.open_rd_bytes Try.underlying22 Try.underlying5 (by kernel_rfl) (hval 0 22 v0 rfl rfl) h0
  refine (walk A0 n0 c0 zs0 W w0).mono fun e W' ⟨he, hg⟩ => ?_
  subst he
  exact ⟨_, rfl, frame.post_true laidOut hW' rfl (of_decide_eq_true (by kernel_rfl)) (by kernel_rfl) Try.underlying4 rfl rfl rfl hg⟩
theorem over : Rows.fnSummaryRow.holds Try.pinned (OpenSpec.ofChange Rows.fnSummarySpec) :=
  OpenClaim.holds_of_wide 3 Try.f3 rfl rfl rfl rfl rfl rfl rfl ⟨rfl, rfl, rfl, rfl, rfl⟩ rfl rfl rfl rfl rfl (by kernel_rfl) Try.func3 (by kernel_rfl)
    (of_decide_eq_true (by kernel_rfl)) (by unfold Func.isWrapper; first | (rw [if_pos (by decide +kernel)]; kernel_rfl) | (rw [if_neg (by decide +kernel)]; exact ⟨rfl, rfl⟩))
    (fun os started H enc _ => lifted os started H enc)
/-- The statement. -/
theorem proved : Rows.FnSummarySaid :=
  over
end Go.Proofs.Ytlckeefjhafloaa.fnSummary
