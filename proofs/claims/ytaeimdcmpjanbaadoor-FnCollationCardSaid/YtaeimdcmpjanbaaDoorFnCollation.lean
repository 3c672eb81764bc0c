/- FnCollation: collation sorting orders the keys, is a rearrangement, and is repeatable. No condition; what the row lists of package variables is laid and not read. -/
import Derived.Test.YtaeimdcmpjanbaaDoorFrame
import Derived.Test.YtaeimdcmpjanbaaDoorCode
import Derived.Test.YtaeimdcmpjanbaaDoorDrwCol
import Derived.Test.YtaeimdcmpjanbaaDoorColFn
import Derived.Test.YtaeimdcmpjanbaaDoorVWords
import Derived.Test.YtaeimdcmpjanbaaDoorCards
import Derived.Test.YtaeimdcmpjanbaaDoorTie
import Derived.LaidMore
import Derived.Lay
import Derived.SevenTiedAt
import Derived.Stop.Joined
set_option linter.unusedVariables false
set_option linter.unusedSimpArgs false
namespace Go.Proofs.YtaeimdcmpjanbaaDoor.fnCollation
open Go.ChangeShapes Go.WideShapes Go.ChangeAt Go.RowKit Go.Proofs.YtaeimdcmpjanbaaDoor.mem Go.Proofs.YtaeimdcmpjanbaaDoor.colS Go.Proofs.YtaeimdcmpjanbaaDoor.col
open Go.Proofs.YtaeimdcmpjanbaaDoor.validStr (vstr vstr_len vstr_size)

theorem less_any (x y : ByteArray) (w : World) : Calls Tryd.prog 17 #[.string x, .string y] w fun e w' => e = .returned (.bool (Op.bytesLess x.toList y.toList)) ∧ w = w' := by
  go_enter Tryd.func17, Tryd.ntmps17
  go_wp2
  go_ret
  exact ⟨rfl, rfl⟩
set_option maxRecDepth 100000 in
set_option maxHeartbeats 8000000 in
theorem walk (A : Option Addr) (n c : Nat) (zs : List Int) (W : World) (h0 : n = zs.length ∧ n ≤ c ∧ c ≤ maxLen ∧ Rd W 1 A n (u8s zs) ∧ (∀ z ∈ zs, 0 ≤ z ∧ z ≤ 255)) :
    Calls Tryd.prog 5 #[.slice A n c] W fun e w' => e = .returned (.bool true) ∧ Below W.heap.size W w' := by
  obtain ⟨rfl, hnc, hcm, hr, hz⟩ := h0
  have HZ := Lib.hid hz
  clear hz
  have hn : zs.length ≤ maxLen := Nat.le_trans hnc hcm
  go_enter Tryd.func5, Tryd.ntmps5
  go_wp2_with fail
  refine (codes.big_any A _ c W hn).mono ?_
  rintro e w1 ⟨rfl, rfl⟩
  by_cases hbig : 65536 < zs.length
  · go_wp2
    go_ret
    exact ⟨rfl, Below.refl _ _⟩
  have hsm : zs.length ≤ 1048576 := by omega
  have hd : decide (65536 < zs.length) = false := by simpa using hbig
  rw [hd]
  clear hd hbig
  have HD := Lib.hid (drw.colstrs_any A c zs W hsm HZ.out hr)
  go_wp2_with fail
  with_reducible refine HD.out.mono ?_
  rintro e w1 ⟨vl, l, fo, nu, rfl, hol, hl60, hsz, hb1⟩
  obtain ⟨Al, cl, rfl, _, _, rdl⟩ := own_form hol
  have HSZ := Lib.hid (fun s h => show ByteArray.size s ≤ 1048576 by have := hsz s h; omega)
  have HB1 := Lib.hid hb1
  have HRL := Lib.hid (fun W' (h : Below w1.heap.size w1 W') => rdl.below h)
  have HM := Lib.hid (cs_impl Al cl l fo nu w1 (by omega) HSZ.out rdl)
  have HN := Lib.hid (fun W' (h : Below w1.heap.size w1 W') => cs_spec Al cl l fo nu W' (by omega) HSZ.out (HRL.out W' h))
  have HSS := Lib.hid (fun W' (h : Below w1.heap.size w1 W') => srtStr.impl_any Al cl l W' (by omega) HSZ.out (HRL.out W' h))
  clear hsz hb1 hol rdl HD hl60
  cases hok : okC fo nu l with
  | false =>
    have hre := answer_not hok
    rw [hok, hre] at HM
    rw [hok] at HN
    clear hok hre
    go_wp2_with fail
    with_reducible refine HM.out.mono ?_
    rintro e w2 ⟨v2, rfl, ho2, hb2⟩
    obtain ⟨A2, c2, rfl, _, _, rd2⟩ := own_form ho2.1
    have HNh := Lib.hid (HN.out w2 hb2)
    have HB2 := Lib.hid (below_step HB1.out hb2)
    clear hb2 ho2 rd2 HM
    go_wp2_with fail
    with_reducible refine HNh.out.mono ?_
    rintro e w3 ⟨v3, rfl, ho3, hb3⟩
    have hbw := below_step HB2.out hb3
    go_wp2
    go_ret
    exact ⟨rfl, hbw⟩
  | true =>
    have HA := Lib.hid (answer hok)
    rw [hok] at HM HN
    clear hok
    generalize resC fo nu l = S at HA HM
    have hS40 := HA.out.len
    go_wp2_with fail
    with_reducible refine HM.out.mono ?_
    rintro e w2 ⟨v2, rfl, ho2, hb2⟩
    obtain ⟨A2, c2, rfl, _, _, rd2⟩ := own_form ho2.1
    have HNh := Lib.hid (HN.out w2 hb2)
    have HB2 := Lib.hid (below_step HB1.out hb2)
    have HB12 := Lib.hid hb2
    have HR2 := Lib.hid rd2
    clear hb2 ho2 rd2 HM
    go_wp2_with fail
    with_reducible refine HNh.out.mono ?_
    rintro e w3 ⟨v3, rfl, ho3, hb3⟩
    have HB3 := Lib.hid (below_step HB2.out hb3)
    have HB13 := Lib.hid (below_step HB12.out hb3)
    have HR3 := Lib.hid (HR2.out.below hb3)
    clear hb3 ho3 HNh HN
    go_wp2
    go_loopw [10, 11] (fun last i wr => ∃ (k : Nat) (y : ByteArray), k ≤ S.length ∧ i = .int .i64 (k : Int) ∧ last = .string y ∧ (∀ j (h : j < S.length), k = j + 1 → y = resS fo nu S[j]) ∧ Below w3.heap.size w3 wr) (fun _ i _ => S.length - (intOf i).toNat)
    case atStart => exact ⟨0, ⟨#[]⟩, Nat.zero_le _, rfl, rfl, fun j _ h => absurd h (by omega), Below.refl _ _⟩
    case round =>
      obtain ⟨k, y, hk1, rfl, rfl, hy, hb⟩ := hrel
      have HY := Lib.hid hy
      have HB := Lib.hid hb
      clear hy
      by_cases hlt : k < S.length
      · obtain ⟨b, off, rfl, hc0⟩ := (HR3.out.below hb).str hlt
        have hx30 := HA.out.sz _ (List.getElem_mem hlt)
        have hrb := HA.out.all k hlt
        have HLE := Lib.hid (fun (t : Nat) (e : k = t + 1) => show Op.bytesLess (resS fo nu S[k]).toList y.toList = false by
          subst e
          rw [HY.out t (by omega) rfl]
          exact HA.out.asc t hlt)
        have HNX := Lib.hid (fun j (h : j < S.length) (e : k + 1 = j + 1) => show resS fo nu S[k] = resS fo nu S[j] by
          have e2 : k = j := by omega
          subst e2; rfl)
        have HK := Lib.hid (fun W' => colI_any S[k] fo nu W' (by omega))
        rw [hrb] at HK
        generalize S[k] = x at hc0 HLE HNX HK hx30 hrb
        clear hrb hb
        generalize resS fo nu x = K at HLE HNX HK
        have q1 : (k : Int) < (S.length : Int) := by omega
        go_wp2_with fail
        with_reducible refine (HK.out _).mono ?_
        rintro e w4 ⟨rfl, hb4⟩
        have hb5 := below_step HB.out hb4
        have HL := Lib.hid (fun W' => less_any K y W')
        by_cases hk0 : k = 0
        · have q2 : decide (0 < k) = false := by simp [hk0]
          have q3 : ¬ (0 : Int) < (k : Int) := by omega
          clear hk0
          go_wp2
          go_roundw
          case rel => exact ⟨k + 1, K, by omega, by go_num, rfl, HNX.out, hb5⟩
          case measure => simp [intOf]; omega
        · have hlf := HLE.out (k - 1) (by omega)
          rw [hlf] at HL
          have q2 : decide (0 < k) = true := by simp; omega
          have q3 : (0 : Int) < (k : Int) := by omega
          clear hk0 hlf
          go_wp2_with fail
          with_reducible refine (HL.out _).mono ?_
          rintro e w5 ⟨rfl, rfl⟩
          go_wp2
          go_roundw
          case rel => exact ⟨k + 1, K, by omega, by go_num, rfl, HNX.out, hb5⟩
          case measure => simp [intOf]; omega
      · have q1 : ¬ (k : Int) < (S.length : Int) := by omega
        have HS48 := Lib.hid (fun s h => show ByteArray.size s ≤ 1048576 by have := HA.out.sz s h; omega)
        have H1 := cs_impl A2 c2 S fo nu wr (by omega) HS48.out (HR3.out.below hb)
        rw [HA.out.ok, HA.out.same] at H1
        have H1h := Lib.hid H1
        clear H1
        go_wp2_with fail
        with_reducible refine H1h.out.mono ?_
        rintro e w4 ⟨v4, rfl, ho4, hb4⟩
        obtain ⟨A4, c4, rfl, _, _, rd4⟩ := own_form ho4.1
        have hb34 := below_step HB.out hb4
        have HB4 := Lib.hid hb34
        have HR4 := Lib.hid rd4
        have H2 := srtStr.impl_any A2 c2 S w4 (by omega) HS48.out (HR3.out.below hb34)
        rw [HA.out.vs] at H2
        have H2h := Lib.hid H2
        clear H2 ho4 rd4 hb34
        go_wp2_with fail
        with_reducible refine H2h.out.mono ?_
        rintro e w5 ⟨v5, rfl, ho5, hb5⟩
        obtain ⟨A5, c5, rfl, _, _, rd5⟩ := own_form ho5.1
        have HB5 := Lib.hid (below_step HB4.out hb5)
        have HB45 := Lib.hid hb5
        have HR5 := Lib.hid rd5
        have HL5 := Lib.hid ho5.2
        have H3 := HSS.out w5 (below_step HB13.out HB5.out)
        rw [HA.out.vl, ← HA.out.srt] at H3
        have H3h := Lib.hid H3
        clear H3 ho5 rd5 hb5
        go_wp2_with fail
        with_reducible refine H3h.out.mono ?_
        rintro e w6 ⟨v6, rfl, ho6, hb6⟩
        obtain ⟨A6, c6, rfl, _, _, rd6⟩ := own_form ho6.1
        have HV1 := vwords.words_any A4 A2 c4 c2 S S w6 (by unfold maxLen; omega) (by unfold maxLen; omega) (HR4.out.below (below_step HB45.out hb6)) (HR3.out.below (below_step HB5.out hb6))
        rw [show decide (S = S) = true by simp] at HV1
        have HV1h := Lib.hid HV1
        have HR6 := Lib.hid rd6
        have HR56 := Lib.hid (HR5.out.below hb6)
        have HV2h := Lib.hid (fun d => show Calls Tryd.prog 19 #[.slice A5 (srtStr.res S).length c5, .slice A6 (srtStr.res S).length c6] (w6.drewN d) fun e w' => e = .returned (.bool true) ∧ ∃ n, w' = (w6.drewN d).drewN n by
          have HV2 := vwords.words_any A5 A6 c5 c6 (srtStr.res S) (srtStr.res S) (w6.drewN d) (by have := HL5.out; unfold maxLen; omega) (by have := HL5.out; unfold maxLen; omega) (HR56.out.below (below_drewN (Below.refl _ _) d)) (HR6.out.below (below_drewN (Below.refl _ _) d))
          rw [show decide (srtStr.res S = srtStr.res S) = true by simp] at HV2
          exact HV2)
        have HBW := Lib.hid (below_step HB3.out (below_step HB5.out hb6))
        clear HV1 ho6 rd6 hb6
        go_wp2_with fail
        with_reducible refine HV1h.out.mono ?_
        rintro e w7 ⟨rfl, d1, rfl⟩
        go_wp2_with fail
        with_reducible refine (HV2h.out _).mono ?_
        rintro e w8 ⟨rfl, d2, rfl⟩
        go_wp2
        go_ret
        exact ⟨rfl, below_drewN HBW.out (d1 + d2)⟩
theorem own : ownKnob Tryd.prog.godebug = none := by kernel_rfl
theorem laidOut : laidOutB Tryd.prog = true := by kernel_rfl
set_option maxRecDepth 100000 in
theorem lifted (os : Os) (started : os.Started) (H : Type) (enc : TypeId × Value → H) :
    ReturnsInHanded {} Tryd.checked os 5 .any (fun w args => (Rows.fnCollationSpec.pre enc Tryd.prog Tryd.f5 Rows.fnCollationRow.domain false w args ∧ laidMetH Tryd.prog Rows.fnCollationRow.laid w) ∧ sizedMet enc Tryd.prog Tryd.f5 (OpenSpec.ofChange Rows.fnCollationSpec) false w args) (Rows.fnCollationSpec.post enc Tryd.prog Tryd.f5 false true false false) := by
  refine returnsInHanded_of_change_and (C := Tryd.checked) (X := fun w _ => laidMetH Tryd.prog Rows.fnCollationRow.laid w) (fun _ _ _ hh h => h.of_heap hh) own started (by kernel_rfl) Tryd.func5
    (ChangeSpec.witness_shaped (enc := enc) (C := Tryd.checked) (os := os) (X := fun w _ => laidMetH Tryd.prog Rows.fnCollationRow.laid w) false (World.laidAll Tryd.prog os Rows.fnCollationRow.laid) #[.slice none 0 0] 8 (World.laidAll_os _ _ _)
      (World.shaped_of_ZipB (by kernel_rfl) (by kernel_rfl)) (by kernel_rfl) (by kernel_rfl) (by kernel_rfl)
      (by rw [MakeChecks.laidMetH_plain _ _ _ (by kernel_rfl)]; exact laidMet_laidAll _ (by kernel_rfl) (by kernel_rfl))) ?_
  intro W base args ds gs before hval0 hW hc _ hL _
  have hval : ∀ (j : Nat) t v, Tryd.f5.params[j]? = some t → args[j]? = some v → Value.okWide Tryd.prog W .any base t v := hval0
  have hW' := hW
  obtain ⟨p, q, hA0, hV, rfl, hfz, hnd⟩ := hW
  have hA : DataW.TrodAll enc Tryd.prog W 0 (fun _ => true) true Tryd.f5.params.toList args.toList ds p := hA0
  rw [Tryd.params5] at hA hval
  obtain ⟨v0, vs0, d0, ds0, p0, q0, hargs, rfl, rfl, h0, r0⟩ := trodAll_cons hA
  obtain ⟨rfl, rfl, rfl⟩ := trodAll_nil r0
  obtain rfl : args = #[v0] := by cases args; simp_all
  obtain ⟨A0, n0, c0, zs0, rfl, w0⟩ := mem.open_rd_bytes Tryd.underlying32 Tryd.underlying5 (by kernel_rfl) (hval 0 32 v0 rfl rfl) h0
  refine (walk A0 n0 c0 zs0 W w0).mono fun e W' ⟨he, hg⟩ => ?_
  subst he
  exact ⟨_, rfl, frame.post_true laidOut hW' rfl (of_decide_eq_true (by kernel_rfl)) (by kernel_rfl) Tryd.underlying4 rfl rfl rfl hg⟩
theorem over : Rows.fnCollationRow.holds Tryd.pinned (OpenSpec.ofChange Rows.fnCollationSpec) :=
  OpenClaim.holds_of_wide 5 Tryd.f5 rfl rfl rfl rfl rfl rfl rfl ⟨rfl, rfl, rfl, rfl, rfl⟩ rfl rfl rfl rfl rfl (by kernel_rfl) Tryd.func5 (by kernel_rfl)
    (of_decide_eq_true (by kernel_rfl)) (by unfold Func.isWrapper; first | (rw [if_pos (by decide +kernel)]; kernel_rfl) | (rw [if_neg (by decide +kernel)]; exact ⟨rfl, rfl⟩))
    (fun os started H enc _ => lifted os started H enc)
/-- The statement: the tied card. -/
theorem proved : Rows.FnCollationCardSaid :=
  Claim7.holds_tied_plain_at .later [] [.data, .pinned] true (true, "07edee5e029a0688c922edc22bb40a9e632f266c0c8bdbc3ab082cabbfdf1916") false over (fun _ h => by cases h) (by kernel_rfl) (fun _ h => by cases h) fnCollation_row_tie rfl ⟨rfl, rfl⟩ (by kernel_rfl) rfl
    (fun f fn hf hfn => by
      obtain rfl : f = 5 := Option.some.inj ((show Tryd.prog.funcNamed "loop.example/g00907/laws.FnCollation" = some 5 by kernel_rfl).symm.trans hf) |>.symm
      obtain rfl : fn = Tryd.f5 := (Option.some.inj (Tryd.func5.symm.trans hfn)).symm
      exact ⟨by kernel_rfl, fun j t ht => by
        rw [Tryd.params5] at ht
        have hm : t ∈ [32] := by simpa using Array.mem_of_getElem? ht
        have hall : ([32].all fun u => !Tryd.prog.wantsStandIn u) = true := by kernel_rfl
        exact (show Tryd.prog.wantsStandIn t = false by simpa using List.all_eq_true.1 hall t hm)⟩)
    (by kernel_rfl)
end Go.Proofs.YtaeimdcmpjanbaaDoor.fnCollation
