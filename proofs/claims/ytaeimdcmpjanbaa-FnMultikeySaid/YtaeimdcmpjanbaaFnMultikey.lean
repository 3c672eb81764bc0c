/- FnMultikey: multikey quicksort sorts, inspects at least the distinguishing prefixes, and front coding is inverted by decoding. No condition. -/
import Derived.Test.YtaeimdcmpjanbaaFrame
import Derived.Test.YtaeimdcmpjanbaaCode
import Derived.Test.YtaeimdcmpjanbaaDrwStr
import Derived.Test.YtaeimdcmpjanbaaMkSort
import Derived.Test.YtaeimdcmpjanbaaSrtStr
import Derived.Test.YtaeimdcmpjanbaaDisPre
import Derived.Test.YtaeimdcmpjanbaaPfxLen
import Derived.Test.YtaeimdcmpjanbaaFrontD
import Derived.Test.YtaeimdcmpjanbaaFdLaw
import Derived.Test.YtaeimdcmpjanbaaVWords
import Derived.Deep.QuietTactic
import Derived.Lib.QuietBelow
set_option linter.unusedVariables false
set_option linter.unusedSimpArgs false
namespace Go.Proofs.Ytaeimdcmpjanbaa.fnMultikey
open Go.ChangeShapes Go.WideShapes Go.ChangeAt Go.RowKit Go.Proofs.Ytaeimdcmpjanbaa.mem Go.Proofs.Ytaeimdcmpjanbaa.ssLaw Go.Proofs.Ytaeimdcmpjanbaa.mkMore Go.Proofs.Ytaeimdcmpjanbaa.fdLaw
open Go.Proofs.Ytaeimdcmpjanbaa.validStr (vstr vstr_len vstr_size)
open Go.Proofs.Ytaeimdcmpjanbaa.front (okF resF fcode)
open Go.Proofs.Ytaeimdcmpjanbaa.frontD (okD resD)
open Go.Proofs.Ytaeimdcmpjanbaa.ascStr (lt dn sasc e0 getD_s)
open Go.Proofs.Ytaeimdcmpjanbaa.pfxs (pv pfx pfx_len pfx_at pv_succ)
open Go.Proofs.Ytaeimdcmpjanbaa.prefixes (cpl)

/-- the answer, in each case -/
theorem facts (l : List ByteArray) : ∃ S : List ByteArray, mkSort.res l = S ∧ srtStr.res l = S ∧ ¬ mkSort.cnt l < disPre.dp l ∧ S.length ≤ 40 ∧ (∀ s ∈ S, s.size ≤ 30) ∧ okF S = true ∧ pfxLen.ok S = true ∧ (∀ i, i + 1 < S.length → dn S i = false) ∧ (vstr l = false → S.length = 0) := by
  cases hv : vstr l with
  | false =>
    refine ⟨[], by simp [mkSort.res, hv], by simp [srtStr.res, hv], ?_, by simp, by simp, by simp [okF, sasc, vstr], by simp [pfxLen.ok, sasc, vstr], by simp, fun _ => rfl⟩
    simp [mkSort.cnt, disPre.dp, hv]
  | true =>
    have h1 := vstr_len hv
    have h2 := vstr_size hv
    have h3 : ∀ s ∈ ss l, s.size ≤ 30 := fun s hs => h2 s (ss_mem.1 hs)
    have h4 : vstr (ss l) = true := by
      simp only [vstr, Bool.and_eq_true, decide_eq_true_eq, List.all_eq_true, validStr.short]
      exact ⟨by rw [ss_len]; exact h1, fun s hs => by simpa using h3 s hs⟩
    have h5 : okF (ss l) = true := by rw [okF, h4, ss_sasc]; rfl
    refine ⟨ss l, by rw [mkSort.res, if_pos hv, mk_ss], by rw [srtStr.res, if_pos hv], ?_, by rw [ss_len]; exact h1, h3, h5, h5, fun i h => ss_dn l h, fun h => by cases h⟩
    rw [mkSort.cnt, if_pos hv]
    by_cases hl : l.length < 2
    · rw [disPre.dp_few hl]; omega
    · rw [disPre.dp_yes hv hl]
      have := inspects l (by omega)
      omega
set_option maxRecDepth 100000 in
set_option maxHeartbeats 8000000 in
theorem walk (A : Option Addr) (n c : Nat) (zs : List Int) (W : World) (h0 : n = zs.length ∧ n ≤ c ∧ c ≤ maxLen ∧ Rd W 1 A n (u8s zs) ∧ (∀ z ∈ zs, 0 ≤ z ∧ z ≤ 255)) :
    Calls Try.prog 3 #[.slice A n c] W fun e w' => e = .returned (.bool true) ∧ Below W.heap.size W w' := by
  obtain ⟨rfl, hnc, hcm, hr, hz⟩ := h0
  have HZ := Lib.hid hz
  clear hz
  have hn : zs.length ≤ maxLen := Nat.le_trans hnc hcm
  go_enter Try.func3, Try.ntmps3
  go_wp2_with fail
  refine (codes.big_any A _ c W hn).mono ?_
  rintro e w1 ⟨rfl, rfl⟩
  by_cases hbig : 65536 < zs.length
  · go_wp2
    go_ret
    exact ⟨rfl, Below.refl _ _⟩
  have hsm : zs.length ≤ 1048576 := by omega
  have hd : decide (65536 < zs.length) = false := by simpa using hbig
  rw [hd]
  clear hd hbig
  have HD := Lib.hid (drw.mkstrs_any A c zs W hsm HZ.out hr)
  go_wp2_with fail
  with_reducible refine HD.out.mono ?_
  rintro e w1 ⟨vl, l, rfl, hol, hl50, hsz, hb1⟩
  obtain ⟨Al, cl, rfl, _, _, rdl⟩ := own_form hol
  obtain ⟨S, e1, e2, e3, e4, e5, e6, e7, e8, e9⟩ := facts l
  have HSL := Lib.hid e5
  have HDN := Lib.hid e8
  have HL0 := Lib.hid e9
  have HOK7 := Lib.hid e7
  have HSZ := Lib.hid (fun s h => show ByteArray.size s ≤ 1048576 by have := hsz s h; omega)
  have HB1 := Lib.hid hb1
  have HM := mkSort.impl_any Al cl l w1 (by omega) HSZ.out rdl
  rw [e1] at HM
  have HMh := Lib.hid HM
  have HSS := Lib.hid (fun W' (h : Below w1.heap.size w1 W') => show Calls Try.prog 13 #[.slice Al l.length cl] W' fun e w' => ∃ v, e = .returned (.tuple #[v, .bool (vstr l)]) ∧ OwnS W' w' v S ∧ Below W'.heap.size W' w' by
    have := srtStr.impl_any Al cl l W' (by omega) HSZ.out (rdl.below h)
    rw [e2] at this; exact this)
  have HDP := Lib.hid (fun W' (h : Below w1.heap.size w1 W') => disPre.impl_any Al cl l W' (by omega) HSZ.out (rdl.below h))
  have HIV := Lib.hid (fun W' (h : Below w1.heap.size w1 W') => show Calls Try.prog 15 #[.slice Al l.length cl] W' fun e w' => e = .returned (.bool (vstr l)) ∧ W' = w' from validStr.spec_any Al cl l W' (by unfold maxLen; omega) (fun s h => Nat.le_trans (HSZ.out s h) (by decide)) (rdl.below h))
  have HBK := back e4 e5 e6
  have HBKh := Lib.hid HBK
  have HRF := Lib.hid (show resF S = fcode S by rw [resF, if_pos e6])
  have HOKF := Lib.hid e6
  generalize mkSort.cnt l = nn at HMh e3
  generalize disPre.dp l = dd at HDP e3
  have q0 : decide (nn < dd) = false := decide_eq_false e3
  rw [show mkSort.ok l = vstr l from rfl] at HMh
  have HVA := Lib.hid (show vstr l = false → S.length = 0 from e9)
  clear hsz hb1 HM HBK e1 e2 e5 e6 e7 e8 e9 hol HD
  generalize vstr l = va at HMh HSS HDP HIV HVA
  go_wp2_with fail
  with_reducible refine HMh.out.mono ?_
  rintro e w2 ⟨v2, rfl, ho2, hb2⟩
  have HB2 := Lib.hid hb2
  obtain ⟨A2, c2, rfl, _, _, rd2⟩ := own_form ho2.1
  have HSSh := Lib.hid (HSS.out w2 hb2)
  have HR2 := Lib.hid rd2
  clear hb2 ho2 rd2 HMh
  go_wp2_with fail
  with_reducible refine HSSh.out.mono ?_
  rintro e w3 ⟨v3, rfl, ho3, hb3⟩
  obtain ⟨A3, c3, rfl, _, _, rd3⟩ := own_form ho3.1
  have HB3 := Lib.hid hb3
  have HB13 := Lib.hid (below_step HB2.out hb3)
  have HDPh := Lib.hid (HDP.out w3 HB13.out)
  have HR3 := Lib.hid rd3
  clear hb3 ho3 rd3 HSSh
  go_wp2_with fail
  with_reducible refine HDPh.out.mono ?_
  rintro e w4 ⟨rfl, hb4⟩
  have HB4 := Lib.hid hb4
  have HB14 := Lib.hid (below_step HB13.out hb4)
  have HIVh := Lib.hid (HIV.out w4 HB14.out)
  have HVW := vwords.words_any A2 A3 c2 c3 S S w4 (by unfold maxLen; omega) (by unfold maxLen; omega) (HR2.out.below (below_step HB3.out hb4)) (HR3.out.below hb4)
  rw [show decide (S = S) = true by simp] at HVW
  have HVWh := Lib.hid HVW
  have HRS := Lib.hid (fun W' (h : Below w4.heap.size w4 W') => (HR2.out.below (below_step HB3.out HB4.out)).below h)
  have HBW := Lib.hid (below_step HB1.out HB14.out)
  clear hb4 HDPh HVW HSS HDP
  have HS48 := Lib.hid (fun s h => show ByteArray.size s ≤ 1048576 by have := HSL.out s h; omega)
  have HFC := fun W' (h : Below w4.heap.size w4 W') => front.impl_any A2 c2 S W' (by omega) HS48.out (HRS.out W' h)
  rw [HRF.out, HOKF.out] at HFC
  have HFCh := Lib.hid HFC
  have HPL := fun W' (h : Below w4.heap.size w4 W') => pfxLen.impl_any A2 c2 S W' (by omega) HS48.out (HRS.out W' h)
  rw [HOK7.out, show pfxLen.res S = pfx S by rw [pfxLen.res, if_pos HOK7.out]] at HPL
  have HPLh := Lib.hid HPL
  have HFL := Lib.hid (fcode_len S)
  clear HFC HPL e3
  cases va
  all_goals
    go_wp2_with fail
    with_reducible refine HIVh.out.mono ?_
    rintro e w5 ⟨rfl, rfl⟩
    go_wp2_with fail
    with_reducible refine HVWh.out.mono ?_
    rintro e w5 ⟨rfl, k5, hw5⟩
    have hb5 : Below w4.heap.size w4 w5 := by rw [hw5]; exact below_drewN (Below.refl _ _) k5
    clear hw5
    have HFC5 := Lib.hid (HFCh.out w5 hb5)
    have HB5 := Lib.hid hb5
    clear hb5 HIVh HVWh
    go_wp2_with fail
    with_reducible refine HFC5.out.mono ?_
    rintro e w6 ⟨v6, rfl, ho6, hb6⟩
    obtain ⟨A6, c6, rfl, _, _, rd6⟩ := own_form ho6.1
    have HFD := frontD.impl_any A6 c6 (fcode S) w6 (by rw [HFL.out]; omega) (fun g hg => by
      obtain ⟨i, hi, rfl⟩ := List.mem_map.1 hg
      have hi2 := List.mem_range.1 hi
      have := HSL.out S[i] (List.getElem_mem hi2)
      simp only [front.fc, front.cutS, getD_s S hi2, ByteArray.size_extract]
      omega) rd6
    rw [HBKh.out.1, HBKh.out.2] at HFD
    have HFDh := Lib.hid HFD
    have HB6 := Lib.hid (below_step HB5.out hb6)
    clear HFD HFC5 ho6 hb6 rd6
    generalize (fcode S).length = fl at HFDh ⊢
    go_wp2_with fail
    with_reducible refine HFDh.out.mono ?_
    rintro e w7 ⟨v7, rfl, ho7, hb7⟩
    obtain ⟨A7, c7, rfl, _, _, rd7⟩ := own_form ho7.1
    have HB7 := Lib.hid (below_step HB6.out hb7)
    have HR7 := Lib.hid rd7
    have HPL7 := Lib.hid (HPLh.out w7 HB7.out)
    clear ho7 hb7 rd7 HFDh
    go_wp2_with fail
    with_reducible refine HPL7.out.mono ?_
    rintro e w8 ⟨v8, rfl, ho8, hb8⟩
    obtain ⟨A8, c8, rfl, _, _, rd8⟩ := own_form ho8.1
    have HB78 := Lib.hid hb8
    have HB8 := Lib.hid (below_step HB7.out hb8)
    have HR8 := Lib.hid rd8
    have HEND := Lib.hid (below_step HBW.out HB8.out)
    have HPN := Lib.hid (pfx_len S)
    clear ho8 hb8 rd8 HPL7
  · have h0 := HVA.out (by trivial)
    have q1 : ((S.length : Int) == 0) = true := by rw [beq_iff_eq]; omega
    have q2 : (S.length == 0) = true := by rw [beq_iff_eq]; omega
    have HX := Lib.hid h0
    clear h0
    go_wp2
    go_ret
    exact ⟨(by first | rfl | (rw [HX.out]; rfl)), HEND.out⟩
  · go_wp2
    go_loopg [17] (S.length + 2) (fun f i wr => ∃ k : Nat, S.length < k + f ∧ 1 ≤ k ∧ i = .int .i64 (k : Int) ∧ Below w8.heap.size w8 wr)
    case atStart => exact ⟨1, by omega, by omega, rfl, Below.refl _ _⟩
    case round =>
      obtain ⟨k, hkf, hk1, rfl, hb⟩ := hrel
      have HB := Lib.hid hb
      clear hb
      by_cases hlt : k < S.length
      · obtain ⟨t, rfl⟩ : ∃ t, k = t + 1 := ⟨k - 1, by omega⟩
        have htl : t < S.length := by omega
        have q1 : ((t + 1 : Nat) : Int) < (S.length : Int) := by omega
        have q1b : (t : Int) + 1 < (S.length : Int) := by omega
        have q2 : IntKind.i64.wrap (((t + 1 : Nat) : Int) - 1) = (t : Int) := by rw [IntWalk.i64_in _ (by omega)]; omega
        have q4 : (t : Int) < (S.length : Int) := by omega
        have q6 : ((t : Int) + 1).toNat = t + 1 := by omega
        have q7 : (0 : Int) ≤ (t : Int) + 1 := by omega
        have q8 : IntKind.i64.wrap (t : Int) = (t : Int) := IntWalk.i64_in _ (by omega)
        have q9 : IntKind.i64.wrap ((t : Int) + 1 - 1) = (t : Int) := by rw [IntWalk.i64_in _ (by omega)]; omega
        have hpl : t + 1 < (pfx S).length := by rw [HPN.out]; exact hlt
        have q5 : ((t + 1 : Nat) : Int) < ((pfx S).length : Int) := by omega
        have q5b : (t : Int) + 1 < ((pfx S).length : Int) := by omega
        have rdS := HRS.out _ (below_step HB8.out HB.out)
        obtain ⟨b, off, rfl, cY⟩ := rdS.str hlt
        have cX := rdS.str_at htl
        obtain ⟨b2, off2, rfl, cP⟩ := (HR8.out.below HB.out).int hpl
        have HLT := Lib.hid (fun W => show Calls Try.prog 20 #[.string S[t + 1], .string S[t]] W fun e w' => e = .returned (.bool false) ∧ Below W.heap.size W w' by
          have h1 := vwords.less_any S[t + 1] S[t] W
          have h2 := HDN.out t hlt
          rw [dn, getD_s S hlt, getD_s S htl] at h2
          rw [h2] at h1; exact h1)
        have hz : (pfx S)[t + 1] = ((cpl S[t].data.toList S[t + 1].data.toList : Nat) : Int) := by
          have : (pfx S)[t + 1] = pv S (t + 1) := by simp [pfx]
          rw [this, pv_succ, getD_s S htl, getD_s S hlt]
        have HCP := Lib.hid (fun W => show Calls Try.prog 21 #[.string S[t], .string S[t + 1]] W fun e w' => e = .returned (.int .i64 (pfx S)[t + 1]) ∧ Below W.heap.size W w' by
          have h1 := HSL.out S[t] (List.getElem_mem htl)
          have h2 := HSL.out S[t + 1] (List.getElem_mem hlt)
          rw [hz]
          exact prefixes.impl_any S[t] S[t + 1] W (by unfold maxLen; omega) (by unfold maxLen; omega))
        clear hz rdS
        generalize (pfx S)[t + 1] = z at cP HCP
        generalize S[t] = x at cX HLT HCP
        generalize S[t + 1] = y at cY HLT HCP
        have z1 := fun d os => cell_regrown cX d os
        have z2 := fun d os => cell_regrown cY d os
        have z3 := fun d os => cell_regrown cP d os
        go_wp2_with fail
        (refine wp_region_quiet_below (by kernel_rfl) (by kernel_rfl) ?_; (repeat (quiet_step (first | exact Calls.regrown_of (HLT.out _) | exact Calls.regrown_of (HCP.out _)))); refine wpQuiet_nil ?_; intro _ hw'; obtain ⟨⟨dq, osq⟩, hw''⟩ := hw'; subst hw'')
        have HBQ := Lib.hid (below_step HB.out (below_regrown wr dq osq))
        go_wp2
        go_roundg (gk - 1)
        case measure => omega
        case rel => exact ⟨t + 1 + 1, by omega, by omega, by go_num, HBQ.out⟩
      · have q1 : ¬ (k : Int) < (S.length : Int) := by omega
        have HVW2 := vwords.words_any A7 A2 c7 c2 S S wr (by unfold maxLen; omega) (by unfold maxLen; omega) (HR7.out.below (below_step HB78.out HB.out)) (HRS.out _ (below_step HB8.out HB.out))
        rw [show decide (S = S) = true by simp] at HVW2
        have HVWh2 := Lib.hid HVW2
        have HE2 := Lib.hid (below_step HEND.out HB.out)
        clear HVW2
        go_wp2_with fail
        with_reducible refine HVWh2.out.mono ?_
        rintro e w9 ⟨rfl, k9, rfl⟩
        go_wp2
        go_ret
        exact ⟨rfl, below_drewN HE2.out k9⟩

theorem own : ownKnob Try.prog.godebug = none := by kernel_rfl
theorem laidOut : laidOutB Try.prog = true := by kernel_rfl
set_option maxRecDepth 100000 in
theorem lifted (os : Os) (started : os.Started) (H : Type) (enc : TypeId × Value → H) :
    ReturnsInHanded {} Try.checked os 3 .any (Rows.fnMultikeySpec.pre6 enc Try.prog Try.f3 Rows.fnMultikeyRow.domain false) (Rows.fnMultikeySpec.post enc Try.prog Try.f3 false true false false) := by
  refine returnsInHanded_of_change (C := Try.checked) own started (by kernel_rfl) Try.func3
    (ChangeSpec.witness6 (enc := enc) (C := Try.checked) false ⟨#[], #[.slice none 0 0], []⟩ 8 (by kernel_rfl) (by kernel_rfl) (by kernel_rfl) (by kernel_rfl)) ?_
  intro W base args ds gs before hval0 hW hcnd _
  have hval : ∀ (j : Nat) t v, Try.f3.params[j]? = some t → args[j]? = some v → Value.okWide Try.prog W .any base t v := hval0
  have hW' := hW
  have hlt : ∀ x ∈ before, x.block < W.heap.size := fun x hx => by simpa using hW.lt x hx
  obtain ⟨p, q, hA0, hV, rfl, hfz, hnd⟩ := hW
  have hA : DataW.TrodAll enc Try.prog W 0 (fun _ => true) true Try.f3.params.toList args.toList ds p := hA0
  rw [Try.params3] at hA hval
  obtain ⟨v0, vs0, d0, ds0, p0, q0, hargs, rfl, rfl, h0, r0⟩ := trodAll_cons hA
  obtain ⟨rfl, rfl, rfl⟩ := trodAll_nil r0
  obtain rfl : args = #[v0] := by cases args; simp_all
  obtain ⟨A0, n0, c0, zs0, rfl, w0⟩ := mem.open_rd_bytes Try.underlying22 Try.underlying5 (by kernel_rfl) (hval 0 22 v0 rfl rfl) h0
  refine (walk A0 n0 c0 zs0 W w0).mono fun e W' ⟨he, hg⟩ => ?_
  subst he
  exact ⟨_, rfl, frame.post_true laidOut hW' rfl (of_decide_eq_true (by kernel_rfl)) (by kernel_rfl) Try.underlying4 rfl rfl rfl hg⟩
theorem over : Rows.fnMultikeyRow.holds Try.pinned (OpenSpec.ofChange Rows.fnMultikeySpec) :=
  OpenClaim.holds_of_wide 3 Try.f3 rfl rfl rfl rfl rfl rfl rfl ⟨rfl, rfl, rfl, rfl, rfl⟩ rfl rfl rfl rfl rfl (by kernel_rfl) Try.func3 (by kernel_rfl)
    (of_decide_eq_true (by kernel_rfl)) (by unfold Func.isWrapper; first | (rw [if_pos (by decide +kernel)]; kernel_rfl) | (rw [if_neg (by decide +kernel)]; exact ⟨rfl, rfl⟩))
    (fun os started H enc _ => lifted os started H enc)
/-- The statement. -/
theorem proved : Rows.FnMultikeySaid :=
  over
end Go.Proofs.Ytaeimdcmpjanbaa.fnMultikey
