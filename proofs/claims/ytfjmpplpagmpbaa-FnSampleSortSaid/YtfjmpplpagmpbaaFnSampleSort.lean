/- FnSampleSort: sample sort sorts, its buckets are separated by the splitters, and their sizes add up to the length. No condition. -/
import Derived.Test.YtfjmpplpagmpbaaFrame
import Derived.Test.YtfjmpplpagmpbaaCode
import Derived.Test.YtfjmpplpagmpbaaSmpMore
import Derived.Test.YtfjmpplpagmpbaaSampS
import Derived.Test.YtfjmpplpagmpbaaVOrd
import Derived.Test.YtfjmpplpagmpbaaVInts
import Derived.Test.YtfjmpplpagmpbaaRSum
import Derived.Test.YtfjmpplpagmpbaaRCnt
import Derived.Deep.QuietTactic
set_option linter.unusedVariables false
set_option linter.unusedSimpArgs false
namespace Go.Proofs.Ytfjmpplpagmpbaa.fnSampleSort
open Go.ChangeShapes Go.WideShapes Go.ChangeAt Go.RowKit Go.Proofs.Ytfjmpplpagmpbaa.mem Go.Proofs.Ytfjmpplpagmpbaa.srt Go.Proofs.Ytfjmpplpagmpbaa.samp Go.Proofs.Ytfjmpplpagmpbaa.smpMore
open Go.Proofs.Ytfjmpplpagmpbaa.lists (vlist vlist_len vlist_key)

set_option maxRecDepth 100000 in
set_option maxHeartbeats 8000000 in
theorem walk (A : Option Addr) (n c : Nat) (zs : List Int) (W : World) (h0 : n = zs.length ∧ n ≤ c ∧ c ≤ maxLen ∧ Rd W 1 A n (u8s zs) ∧ (∀ z ∈ zs, 0 ≤ z ∧ z ≤ 255)) :
    Calls Try.prog 13 #[.slice A n c] W fun e w' => e = .returned (.bool true) ∧ Below W.heap.size W w' := by
  obtain ⟨rfl, hnc, hcm, hr, hz⟩ := h0
  have HZ := Lib.hid hz
  clear hz
  have hn : zs.length ≤ maxLen := Nat.le_trans hnc hcm
  go_enter Try.func13, Try.ntmps13
  go_wp2_with fail
  refine (codes.big_any A _ c W hn).mono ?_
  rintro e w1 ⟨rfl, rfl⟩
  by_cases hbig : 65536 < zs.length
  · go_wp2
    go_ret
    exact ⟨rfl, Below.refl _ _⟩
  have hsm : zs.length ≤ 1048576 := by omega
  have hd : decide (65536 < zs.length) = false := by simpa using hbig
  rw [hd]
  clear hd hbig
  go_wp2_with fail
  refine (rcnt.smp_any A c zs W hsm HZ.out hr).mono ?_
  rintro e w1 ⟨v, l, p, rfl, hol, hll, hk1, hk2, hb1⟩
  obtain ⟨Al, cl, rfl, hlc, _, hrl⟩ := own_form hol
  clear hol
  go_wp2_with fail
  refine (samp.sort_impl Al cl l p w1 (by omega) hlc hrl).mono ?_
  rintro e w2 ⟨v1, v2, rfl, ⟨ho1, hs1⟩, ⟨ho2, hs2⟩, _, hb2⟩
  obtain ⟨A1, c1, rfl, _, _, rd1⟩ := own_form ho1
  obtain ⟨A2, c2, rfl, _, _, rd2⟩ := own_form ho2
  have hrl2 := hrl.below hb2
  go_wp2_with fail
  refine (samp.sort_spec Al cl l p w2 (by omega) hlc hrl2).mono ?_
  rintro e w3 ⟨v3, v4, rfl, _, _, _, hb3⟩
  have rd1b := rd1.below hb3
  have rd2b := rd2.below hb3
  have hrl3 := hrl2.below hb3
  have hbW := below_step (below_step hb1 hb2) hb3
  clear hrl2 hrl hb1 hb2 hb3 ho1 ho2 rd1 rd2
  cases hok : okR l p with
  | false =>
    have HR := Lib.hid (show (resA l p).length = 0 ∧ (resB l p).length = 0 by simp [resA, resB, hok])
    have h1 := HR.out.1
    have h2 := HR.out.2
    clear hok
    go_wp2
    go_ret
    exact ⟨rfl, hbW⟩
  | true =>
    have hv : vlist l = true := by
      simp only [okR, Bool.and_eq_true] at hok; exact hok.1
    have hpi : Go.Proofs.Ytfjmpplpagmpbaa.ins.inB p 1 16 = true := by
      simp only [okR, Bool.and_eq_true] at hok; exact hok.2
    obtain ⟨q, rfl, hq1, hq2⟩ := parts_of hpi
    have HOK := Lib.hid hok
    have HR := Lib.hid (show resA l (q : Int) = srt l ∧ resB l (q : Int) = bucketing.buckets l (sample l q) ∧ resR l (q : Int) = sample l q by
      simp [resA, resB, resR, hok])
    have h64 := vlist_len hv
    have HBO := Lib.hid (show bucketing.ok (srt l) (sample l q) = true by
      have h3 := sample_len l q
      rw [bucketing.ok, vlist_srt hv, vlist_smp hv hq2, asc_of (sample_sorted l q)]
      simp; omega)
    have HBR := Lib.hid (show bucketing.res (srt l) (sample l q) = bucketing.buckets l (sample l q) by
      rw [bucketing.res, if_pos HBO.out, buckets_perm (srt_perm l)])
    rw [HR.out.1] at rd1b
    rw [HR.out.2.1] at rd2b
    rw [HR.out.1, HR.out.2.1]
    clear hok hpi
    go_wp2_with fail
    refine (samp.impl_any Al cl l (q : Int) w3 (by omega) hlc hrl3).mono ?_
    rintro e w4 ⟨v5, rfl, ⟨ho5, hs5⟩, hb4⟩
    rw [HR.out.2.2] at ho5 hs5
    rw [HOK.out]
    obtain ⟨A5, c5, rfl, _, _, rd5⟩ := own_form ho5
    have rd1c := rd1b.below hb4
    have rd2c := rd2b.below hb4
    have hrl4 := hrl3.below hb4
    have hbW2 := below_step hbW hb4
    clear ho5 rd1b rd2b hrl3 hbW hb4
    have HSP := Lib.hid (sample_len l q)
    go_wp2_with fail
    with_reducible refine (bucketing.impl_sizes A1 c1 (srt l) A5 c5 (sample l q) w4 (by rw [srt_len]; omega) rd1c (by have := HSP.out; omega) rd5).mono ?_
    rintro e w5 ⟨v6, rfl, ⟨ho6, hs6⟩, hb5⟩
    rw [HBR.out] at ho6 hs6
    rw [HBO.out]
    obtain ⟨A6, c6, rfl, _, _, rd6⟩ := own_form ho6
    have rd1d := rd1c.below hb5
    have rd2d := rd2c.below hb5
    have rd5d := rd5.below hb5
    have hrl5 := hrl4.below hb5
    have hbW3 := below_step hbW2 hb5
    clear ho6 rd1c rd2c rd5 hrl4 hbW2 hb5
    go_wp2_with fail
    refine (vord.ord_any Al cl l w5 (by omega) hrl5).mono ?_
    rintro e w6 ⟨v7, rfl, ho7, hb6⟩
    rw [← srt_len l] at ho7
    obtain ⟨A7, c7, rfl, _, _, rd7⟩ := own_form ho7
    have rd1e := rd1d.below hb6
    have rd2e := rd2d.below hb6
    have rd5e := rd5d.below hb6
    have rd6e := rd6.below hb6
    have hrl6 := hrl5.below hb6
    have hbW4 := below_step hbW3 hb6
    have HM := Lib.hid (show (srt l).length ≤ maxLen by rw [srt_len]; unfold maxLen; omega)
    have HBL := Lib.hid (bucketing.buckets_len l (sample l q))
    have HBM := Lib.hid (show (bucketing.buckets l (sample l q)).length ≤ maxLen by have := HSP.out; rw [HBL.out]; unfold maxLen; omega)
    have HSUM := Lib.hid (buckets_sum l (sample l q))
    have HPOS := Lib.hid (buckets_pos l (sample l q))
    have HMEM := Lib.hid (fun (i : Nat) (h : i < (sample l q).length) => List.count_pos_iff.2 (sample_mem (List.getElem_mem h)))
    have HAT := Lib.hid (fun (k : Nat) (h : k < (sample l q).length + 1) => at_succ l (sample l q) h)
    have HAI := Lib.hid (fun (k i : Nat) (h1 : at_ l (sample l q) k ≤ i) (h2 : i < at_ l (sample l q) (k + 1)) => at_in l (sample l q) h1 h2)
    have HAL := Lib.hid (at_le l (sample l q))
    have HA0 := Lib.hid (show at_ l (sample l q) 0 = 0 from cn_zero _)
    have HSL := Lib.hid (srt_len l)
    clear hbW3 hb6 rd1d rd2d rd5d rd6 hrl5 ho7 hs5 hs6 hs1 hs2 HOK HR HBO HBR
    generalize at_ l (sample l q) = a at HAT HAI HAL HA0
    generalize bucketing.buckets l (sample l q) = B at *
    generalize srt l = S at *
    generalize sample l q = P at *
    have HV1 := Lib.hid (vints.eq_any A1 A7 c1 c7 S S w6 HM.out HM.out rd1e rd7)
    rw [show decide (S = S) = true by simp] at HV1
    go_wp2_with fail
    with_reducible refine HV1.out.mono ?_
    rintro e w7 ⟨rfl, m, rfl⟩
    have HV2 := Lib.hid (vints.eq_any A2 A6 c2 c6 B B (w6.drewN m) HBM.out HBM.out (rd2e.drewN m) (rd6e.drewN m))
    rw [show decide (B = B) = true by simp] at HV2
    go_wp2_with fail
    with_reducible refine HV2.out.mono ?_
    rintro e w8 ⟨rfl, m2, rfl⟩
    have hbW5 := below_drewN (below_drewN hbW4 m) m2
    have rdS := (rd1e.drewN m).drewN m2
    have rdB := (rd2e.drewN m).drewN m2
    have rdP := (rd5e.drewN m).drewN m2
    have rdL := (hrl6.drewN m).drewN m2
    obtain ⟨w9, hw9⟩ : ∃ w9, w9 = (w6.drewN m).drewN m2 := ⟨_, rfl⟩
    rw [← hw9] at hbW5 rdS rdB rdP rdL
    rw [← hw9]
    clear hw9 HV1 HV2 rd1e rd2e rd5e rd6e hrl6 hbW4 rd7
    have HRS := Lib.hid (rsum.any A2 c2 B w9 (by have := HBL.out; have := HSP.out; omega) (fun z hz => by have := HPOS.out z hz; omega) rdB)
    rw [HSUM.out] at HRS
    have hP := HSP.out
    have hB : (B.length : Int) = (P.length : Int) + 1 := by have := HBL.out; omega
    have hP2 : ¬ (q : Int) ≤ (P.length : Int) := by omega
    go_wp2_with fail
    with_reducible refine HRS.out.mono ?_
    rintro e w10 ⟨rfl, rfl⟩
    have HWF := Lib.hid (fun (W' : World) (hb : Below w9.heap.size w9 W') => And.intro (rdS.below hb) (And.intro (rdP.below hb) (And.intro (rdB.below hb) (rdL.below hb))))
    have hl64 := h64
    have HBLH := Lib.hid hB
    clear rdS rdP rdB rdL hP2 HRS hB
    go_wp2
    go_loopg [15, 16] (B.length + 1) (fun f u i wr => ∃ k : Nat, B.length < k + f ∧ k ≤ B.length ∧ i = .int .i64 (k : Int) ∧ u = .int .i64 (a k : Int) ∧ Below w9.heap.size w9 wr)
    case atStart => exact ⟨0, by omega, by omega, rfl, by rw [HA0.out]; rfl, Below.refl _ _⟩
    case round =>
      obtain ⟨k, hkf, hk, rfl, rfl, hb⟩ := hrel
      by_cases hlt : k < B.length
      · have q1 : (k : Int) < (B.length : Int) := by omega
        have hkP : k < P.length + 1 := by have := HBLH.out; omega
        have q1P : (k : Int) < (P.length : Int) + 1 := by omega
        have hat := HAT.out k hkP
        have ha1 := HAL.out k
        have ha2 := HAL.out (k + 1)
        have hg : B.getD k 0 = B[k] := getD_in B hlt
        rw [hg] at hat
        have hy0 := HPOS.out B[k] (List.getElem_mem hlt)
        have HK := Lib.hid (HAI.out k)
        obtain ⟨bB, oB, rfl, cB⟩ := (HWF.out _ hb).2.2.1.int hlt
        have HY := Lib.hid (show B[k] = (a (k + 1) : Int) - (a k : Int) by omega)
        have hle : a k ≤ a (k + 1) := by omega
        rw [HY.out] at cB
        clear hg hat hy0
        have hA1 := (show IntKind.i64.wrap ((a k : Int) + ((a (k + 1) : Int) - (a k : Int))) = (a (k + 1) : Int) by rw [IntKind.wrap_i64]; omega)
        obtain ⟨gO, hgO⟩ : ∃ g, g = gk := ⟨_, rfl⟩
        have HKF := Lib.hid (And.intro hkf hgO)
        obtain ⟨a1, ha1⟩ : ∃ a1, a1 = a (k + 1) := ⟨_, rfl⟩
        rw [← ha1] at HY HK hA1 hle ha2 cB
        have HA1 := Lib.hid ha1
        clear ha1 hgO
        generalize a k = a0 at *
        have HB := Lib.hid hb
        go_wp2
        go_loopg [17] (a1 + 1) (fun f i wr => ∃ t : Nat, a1 < t + f ∧ a0 ≤ t ∧ t ≤ a1 ∧ i = .int .i64 (t : Int) ∧ Below w9.heap.size w9 wr)
        case atStart => exact ⟨a0, by omega, by omega, by omega, rfl, HB.out⟩
        case round =>
          obtain ⟨t, htf, ht0, ht1, rfl, hb2⟩ := hrel
          clear cB
          have cB := (HWF.out _ hb2).2.2.1.int_at hlt
          rw [HY.out] at cB
          have HB2 := Lib.hid hb2
          by_cases hlt2 : t < a1
          · obtain ⟨hti, hL, hR⟩ := HK.out t ht0 hlt2
            obtain ⟨bS, oS, rfl, cS⟩ := (HWF.out _ hb2).1.int hti
            rw [getD_in S hti] at hL hR
            generalize S[t] = y at cS hL hR
            have q2 : (t : Int) < (a1 : Int) := by omega
            have q2S : (t : Int) < (S.length : Int) := by omega
            by_cases hk0 : k = 0
            · have q3 : ¬ (0 : Int) < (k : Int) := by omega
              have q3d : decide ((0 : Int) < (k : Int)) = false := decide_eq_false q3
              have q3n : decide (0 < k) = false := decide_eq_false (by omega)
              by_cases hkp : k < P.length
              · obtain ⟨bP, oP, rfl, cP⟩ := (HWF.out _ hb2).2.1.int hkp
                have hR2 := hR hkp
                rw [getD_in P hkp] at hR2
                generalize P[k] = z at cP hR2
                have q4 : (k : Int) < (P.length : Int) := by omega
                have q5 : ¬ z < y := by omega
                have q5d : decide (z < y) = false := decide_eq_false q5
                have hkp' := hkp
                clear hk0
                go_wp2_with fail
                go_quiet (fail)
                go_wp2
                go_roundg (gk - 1)
                case measure => omega
                case rel => exact ⟨t + 1, by omega, by omega, by omega, by go_num, below_drewN HB2.out _⟩
              · have q4 : ¬ (k : Int) < (P.length : Int) := by omega
                have q4d : decide ((k : Int) < (P.length : Int)) = false := decide_eq_false q4
                have q4n : decide (k < P.length) = false := decide_eq_false hkp
                have hkp' := hkp
                clear hk0
                go_wp2_with fail
                go_quiet (fail)
                go_wp2
                go_roundg (gk - 1)
                case measure => omega
                case rel => exact ⟨t + 1, by omega, by omega, by omega, by go_num, below_drewN HB2.out _⟩
            · obtain ⟨j, hjk⟩ : ∃ j, j + 1 = k := ⟨k - 1, by omega⟩
              have hj : j < P.length := by omega
              obtain ⟨bP, oP, rfl, cP⟩ := (HWF.out _ hb2).2.1.int hj
              have hL2 := hL (by omega)
              rw [show k - 1 = j by omega, getD_in P hj] at hL2
              generalize P[j] = z at cP hL2
              have q3 : (0 : Int) < (k : Int) := by omega
              have q3n : 0 < k := by omega
              have q3b : ((k : Int) - 1).toNat = j := by omega
              have q3c : (0 : Int) ≤ (k : Int) - 1 := by omega
              have q3d : (k : Int) - 1 < (P.length : Int) := by omega
              have q5 : ¬ y ≤ z := by omega
              have q5d : decide (y ≤ z) = false := decide_eq_false q5
              clear hjk
              by_cases hkp : k < P.length
              · have cP2 := (HWF.out _ hb2).2.1.int_at hkp
                have hR2 := hR hkp
                rw [getD_in P hkp] at hR2
                generalize P[k] = z2 at cP2 hR2
                have q4 : (k : Int) < (P.length : Int) := by omega
                have q6 : ¬ z2 < y := by omega
                have q6d : decide (z2 < y) = false := decide_eq_false q6
                go_wp2_with fail
                go_quiet (fail)
                go_wp2
                go_roundg (gk - 1)
                case measure => omega
                case rel => exact ⟨t + 1, by omega, by omega, by omega, by go_num, below_drewN HB2.out _⟩
              · have q4 : ¬ (k : Int) < (P.length : Int) := by omega
                have q4d : decide ((k : Int) < (P.length : Int)) = false := decide_eq_false q4
                have q4n : decide (k < P.length) = false := decide_eq_false hkp
                go_wp2_with fail
                go_quiet (fail)
                go_wp2
                go_roundg (gk - 1)
                case measure => omega
                case rel => exact ⟨t + 1, by omega, by omega, by omega, by go_num, below_drewN HB2.out _⟩
          · have q2 : t = a1 := by omega
            have HX := Lib.hid (q2.trans HA1.out)
            subst q2
            have q3 : ¬ (t : Int) < (t : Int) := by omega
            go_wp2
            go_roundg (gO - 1)
            case measure => have := HKF.out; omega
            case rel => exact ⟨k + 1, by have := HKF.out; omega, by omega, by go_num, by rw [HX.out], HB2.out⟩
      · have HB := Lib.hid hb
        have q1 : ¬ (k : Int) < (B.length : Int) := by omega
        have q1P : ¬ (k : Int) < (P.length : Int) + 1 := by have := HBLH.out; omega
        have q1d : decide ((k : Int) < (P.length : Int) + 1) = false := decide_eq_false q1P
        go_wp2
        go_loopg [18] (P.length + 1) (fun f i wr => ∃ j : Nat, P.length < j + f ∧ j ≤ P.length ∧ i = .int .i64 (j : Int) ∧ Below w9.heap.size w9 wr)
        case atStart => exact ⟨0, by omega, by omega, rfl, HB.out⟩
        case round =>
          obtain ⟨j, hjf, hj, rfl, hb2⟩ := hrel
          have HB2 := Lib.hid hb2
          by_cases hlt2 : j < P.length
          · have q2 : (j : Int) < (P.length : Int) := by omega
            obtain ⟨bP, oP, rfl, cP⟩ := (HWF.out _ hb2).2.1.int hlt2
            have hc := HMEM.out j hlt2
            have HR := Lib.hid (rcnt.any Al cl l P[j] wr (by omega) (HWF.out _ hb2).2.2.2)
            have hcp : ¬ (l.count P[j] : Int) = 0 := by omega
            have hcl : (l.count P[j] : Int) ≤ 64 := by have := List.count_le_length (a := P[j]) (l := l); omega
            generalize (l.count P[j] : Int) = z at HR hcp hcl
            generalize P[j] = y at cP HR
            have q5 : (z == 0) = false := by simpa using hcp
            clear hc
            go_wp2_with fail
            with_reducible refine HR.out.mono ?_
            rintro e w' ⟨rfl, rfl⟩
            go_wp2
            go_roundg (gk - 1)
            case measure => omega
            case rel => exact ⟨j + 1, by omega, by omega, by go_num, HB2.out⟩
          · have q2 : ¬ (j : Int) < (P.length : Int) := by omega
            go_wp2
            go_ret
            exact ⟨rfl, below_at hbW5 hbW5.size HB2.out⟩

theorem own : ownKnob Try.prog.godebug = none := by kernel_rfl
theorem laidOut : laidOutB Try.prog = true := by kernel_rfl
set_option maxRecDepth 100000 in
theorem lifted (os : Os) (started : os.Started) (H : Type) (enc : TypeId × Value → H) :
    ReturnsInHanded {} Try.checked os 13 .any (Rows.fnSampleSortSpec.pre6 enc Try.prog Try.f13 Rows.fnSampleSortRow.domain false) (Rows.fnSampleSortSpec.post enc Try.prog Try.f13 false true false false) := by
  refine returnsInHanded_of_change (C := Try.checked) own started (by kernel_rfl) Try.func13
    (ChangeSpec.witness6 (enc := enc) (C := Try.checked) false ⟨#[], #[.slice none 0 0], []⟩ 8 (by kernel_rfl) (by kernel_rfl) (by kernel_rfl) (by kernel_rfl)) ?_
  intro W base args ds gs before hval0 hW hcnd _
  have hval : ∀ (j : Nat) t v, Try.f13.params[j]? = some t → args[j]? = some v → Value.okWide Try.prog W .any base t v := hval0
  have hW' := hW
  have hlt : ∀ x ∈ before, x.block < W.heap.size := fun x hx => by simpa using hW.lt x hx
  obtain ⟨p, q, hA0, hV, rfl, hfz, hnd⟩ := hW
  have hA : DataW.TrodAll enc Try.prog W 0 (fun _ => true) true Try.f13.params.toList args.toList ds p := hA0
  rw [Try.params13] at hA hval
  obtain ⟨v0, vs0, d0, ds0, p0, q0, hargs, rfl, rfl, h0, r0⟩ := trodAll_cons hA
  obtain ⟨rfl, rfl, rfl⟩ := trodAll_nil r0
  obtain rfl : args = #[v0] := by cases args; simp_all
  obtain ⟨A0, n0, c0, zs0, rfl, w0⟩ := mem.open_rd_bytes Try.underlying28 Try.underlying5 (by kernel_rfl) (hval 0 28 v0 rfl rfl) h0
  refine (walk A0 n0 c0 zs0 W w0).mono fun e W' ⟨he, hg⟩ => ?_
  subst he
  exact ⟨_, rfl, frame.post_true laidOut hW' rfl (of_decide_eq_true (by kernel_rfl)) (by kernel_rfl) Try.underlying4 rfl rfl rfl hg⟩
theorem over : Rows.fnSampleSortRow.holds Try.pinned (OpenSpec.ofChange Rows.fnSampleSortSpec) :=
  OpenClaim.holds_of_wide 13 Try.f13 rfl rfl rfl rfl rfl rfl rfl ⟨rfl, rfl, rfl, rfl, rfl⟩ rfl rfl rfl rfl rfl (by kernel_rfl) Try.func13 (by kernel_rfl)
    (of_decide_eq_true (by kernel_rfl)) (by unfold Func.isWrapper; first | (rw [if_pos (by decide +kernel)]; kernel_rfl) | (rw [if_neg (by decide +kernel)]; exact ⟨rfl, rfl⟩))
    (fun os started H enc _ => lifted os started H enc)
/-- The statement. -/
theorem proved : Rows.FnSampleSortSaid :=
  over
end Go.Proofs.Ytfjmpplpagmpbaa.fnSampleSort
