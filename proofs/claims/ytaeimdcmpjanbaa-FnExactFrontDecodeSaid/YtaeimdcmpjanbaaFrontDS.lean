/- Decoding a front coding, the reference's. Condition: at most 2^20 elements of at most 2^20 bytes. -/
import Derived.Test.YtaeimdcmpjanbaaFrontD
import Derived.Test.YtaeimdcmpjanbaaFrontS
set_option linter.unusedVariables false
set_option linter.unusedSimpArgs false
namespace Go.Proofs.Ytaeimdcmpjanbaa.frontD
open Go.RowKit Go.Proofs.Ytaeimdcmpjanbaa.mem Go.Proofs.Ytaeimdcmpjanbaa.front
open Go.Proofs.Ytaeimdcmpjanbaa.ins (inB inB_true inB_false inB_iff)

set_option maxRecDepth 100000 in
set_option maxHeartbeats 4000000 in
theorem spec_any (A : Option Addr) (c : Nat) (gs : List Cod) (w : World) (hn : gs.length ≤ 1048576) (hs : ∀ g ∈ gs, g.rest.size ≤ 1048576) (hr : Rd w 2 A gs.length (cods gs)) :
    Calls Try.prog 37 #[.slice A gs.length c] w fun e w' => ∃ v, e = .returned (.tuple #[v, .bool (okD gs)]) ∧ (w'.ownsRow w.heap.size 9 1 v (resD gs).length (strs (resD gs)) ∧ (resD gs).length ≤ 1048576) ∧ Below w.heap.size w w' := by
  have HNO := Lib.hid (fun (h : okD gs = false) (W : World) (hb : Below w.heap.size w W) => show ((W.alloc (.cells #[] 9)).ownsRow w.heap.size 9 1 (.slice (some ⟨W.heap.size, 0, none⟩) 0 0) (resD gs).length (strs (resD gs)) ∧ (resD gs).length ≤ 1048576) ∧ Below w.heap.size w (W.alloc (.cells #[] 9)) by
    rw [no gs h]; exact ⟨⟨World.ownsRow_made (base := w.heap.size) (e := 9) (size := 1) W #[] 0 hb.size (Nat.zero_le _) (by simp), by simp⟩, hb.alloc hb.size _⟩)
  have HSZ := Lib.hid hs
  clear hs
  have h0 := World.ownsRow_made (e := 9) (size := 1) w #[] 0 (Nat.le_refl _) (Nat.zero_le _) (by simp)
  have hb0 : Below w.heap.size w (w.alloc (.cells #[] 9)) := (Below.refl _ _).alloc (Nat.le_refl _) _
  have H0 := Lib.hid (And.intro h0 hb0)
  clear h0 hb0
  by_cases h40 : 40 < gs.length
  · have HN := Lib.hid (show okD gs = false by rw [okD, decide_eq_false (by omega)]; rfl)
    have q1 : (40 : Int) < (gs.length : Int) := by omega
    go_enter Try.func37, Try.ntmps37
    go_wp2
    go_ret2
    exact ⟨_, ret2 HN.out.symm, by rw [no gs HN.out]; exact ⟨H0.out.1, by simp⟩, H0.out.2⟩
  · have q1 : ¬ (40 : Int) < (gs.length : Int) := by omega
    go_enter Try.func37, Try.ntmps37
    go_wp2
    go_loopg [4, 5, 6] (gs.length + 1) (fun f o s i wr => ∃ k : Nat, gs.length < k + f ∧ k ≤ gs.length ∧ i = .int .i64 (k : Int) ∧ s = .string (lastv gs k) ∧ okU gs k = true ∧ wr.ownsRow w.heap.size 9 1 o (outs gs k).length (strs (outs gs k)) ∧ Below w.heap.size w wr)
    case atStart => exact ⟨0, by omega, by omega, rfl, rfl, rfl, H0.out.1, H0.out.2⟩
    case round =>
      obtain ⟨k, hkf, hk, rfl, rfl, hok, ho, hb⟩ := hrel
      have HO := Lib.hid ho
      have HB := Lib.hid hb
      have HU := Lib.hid hok
      clear ho hb hok
      by_cases hlt : k < gs.length
      · have q2 : (k : Int) < (gs.length : Int) := by omega
        obtain ⟨b, off, rfl, hc0, hc1⟩ := (hr.below HB.out).cod hlt
        have HOC := Lib.hid (show okc gs k = (inB gs[k].shared 0 ((lastv gs k).size : Int) && decide (gs[k].rest.size ≤ 30)) by rw [okc, getD_c gs hlt])
        have HLS := Lib.hid (show lastv gs (k + 1) = (lastv gs k).extract 0 gs[k].shared.toNat ++ gs[k].rest by rw [lastv, getD_c gs hlt])
        have hsz := last_size gs k HU.out
        have hrz := HSZ.out gs[k] (List.getElem_mem hlt)
        have HBAD := Lib.hid (fun h : okc gs k = false => show okD gs = false by rw [okD, okU_bad hlt h]; simp)
        have HGO := Lib.hid (fun h : okc gs k = true => show okU gs (k + 1) = true by rw [okU, HU.out, h]; rfl)
        have HST := Lib.hid (outs_step gs k)
        have HOL := Lib.hid (outs_len gs k)
        generalize gs[k] = g at hc0 hc1 HOC HLS hrz
        generalize lastv gs k = s at HOC HLS hsz
        obtain ⟨sh, rs⟩ := g
        simp only at hc0 hc1 HOC HLS hrz
        have HIN := Lib.hid (fun W => ins.spec_any sh 0 (s.size : Int) W)
        cases hin : inB sh 0 (s.size : Int) with
        | false =>
          have HN := Lib.hid (HBAD.out (by rw [HOC.out, hin]; rfl))
          rw [hin] at HIN
          clear hin
          go_wp2_with fail
          refine (HIN.out _).mono ?_
          rintro e w1 ⟨rfl, rfl⟩
          go_wp2
          go_ret2
          exact ⟨_, ret2 HN.out.symm, (HNO.out HN.out _ HB.out).1, (HNO.out HN.out _ HB.out).2⟩
        | true =>
          have hb := inB_iff.1 hin
          by_cases hr30 : rs.size ≤ 30
          · have HG := Lib.hid (HGO.out (by rw [HOC.out, hin, decide_eq_true hr30]; rfl))
            have hr30i : ¬ (30 : Int) < (rs.size : Int) := by omega
            rw [hin] at HIN
            clear hin
            go_wp2_with fail
            refine (HIN.out _).mono ?_
            rintro e w1 ⟨rfl, rfl⟩
            obtain ⟨n, rfl⟩ : ∃ n : Nat, sh = (n : Int) := ⟨sh.toNat, by omega⟩
            rw [Int.toNat_natCast] at HLS
            have hn1 : (n : Int) ≤ (s.size : Int) := hb.2
            have hn0 : (0 : Int) ≤ (n : Int) := by omega
            have hnn : n ≤ s.size := by omega
            clear hb
            go_wp2_with fail
            go_quiet (fail)
            have hox := own_drewN HO.out nq
            have hbx := below_drewN HB.out nq
            obtain ⟨wx, hwx⟩ : ∃ W : World, W = wr.drewN nq := ⟨_, rfl⟩
            rw [← hwx] at hox hbx ⊢
            clear hwx
            have hbs := hbx.size
            have hkb : (outs gs k).length ≤ 1099511627776 := by rw [HOL.out]; omega
            go_wp2_with (at_builtin; refine mem.push _ rfl _ _ 24 rfl w.heap.size 9 _ 1 16 Try.underlying24 mem.info_str rfl Nat.one_pos _ _ _ rfl hox (strs [(s.extract 0 n ++ rs)]) _ rfl (mem.strs_one [(s.extract 0 n ++ rs)]) rfl hkb (by decide) hbs ?_; intro v' w' ho' hg')
            have HN := Lib.hid (below_push hbx hbs hg' hox)
            have HOO := Lib.hid (show w'.ownsRow w.heap.size 9 1 v' (outs gs (k + 1)).length (strs (outs gs (k + 1))) by
              rw [HST.out, HLS.out, List.length_append, List.length_singleton, strs_app]; exact ho')
            clear ho' hg' hox hbx
            go_wp2
            go_roundg (gk - 1)
            case measure => omega
            case rel => exact ⟨k + 1, by omega, by omega, by go_num, by rw [HLS.out], HG.out, HOO.out, HN.out⟩
          · have HN := Lib.hid (HBAD.out (by rw [HOC.out, hin, decide_eq_false hr30]; rfl))
            have hr30i : (30 : Int) < (rs.size : Int) := by omega
            rw [hin] at HIN
            clear hin
            go_wp2_with fail
            refine (HIN.out _).mono ?_
            rintro e w1 ⟨rfl, rfl⟩
            go_wp2
            go_ret2
            exact ⟨_, ret2 HN.out.symm, (HNO.out HN.out _ HB.out).1, (HNO.out HN.out _ HB.out).2⟩
      · obtain rfl : k = gs.length := by omega
        have q2 : ¬ (gs.length : Int) < (gs.length : Int) := by omega
        have hz := outs_size gs HU.out (by omega)
        have HOD := Lib.hid (show okD gs = (okF (outs gs gs.length) && decide (resF (outs gs gs.length) = gs)) by
          rw [okD, decide_eq_true (by omega), HU.out]; rfl)
        have HRD := Lib.hid (fun h : okD gs = true => show resD gs = outs gs gs.length by rw [resD, if_pos h])
        have HLN := Lib.hid (outs_len gs gs.length)
        generalize outs gs gs.length = ss at HO HOD HRD HLN hz
        obtain ⟨Ao, co, rfl, _, _, hro⟩ := own_form HO.out
        have HFC := Lib.hid (front.spec_any Ao co ss wr (by rw [HLN.out]; exact hn) (fun s h => by have := hz s h; omega) hro)
        clear hz hro
        go_wp2_with fail
        with_reducible refine HFC.out.mono ?_
        rintro e w1 ⟨v1, rfl, ho1, hb1⟩
        have HB1 := Lib.hid (below_step HB.out hb1)
        have HO1 := Lib.hid (own_below HO.out hb1)
        obtain ⟨A1, c1, rfl, hc1, hc1m, rd1⟩ := own_form ho1.1
        cases hok : okF ss with
        | false =>
          have HN := Lib.hid (show okD gs = false by rw [HOD.out, hok]; rfl)
          clear hok
          go_wp2
          go_ret2
          exact ⟨_, ret2 HN.out.symm, (HNO.out HN.out _ HB1.out).1, (HNO.out HN.out _ HB1.out).2⟩
        | true =>
          have HRL := Lib.hid (show (resF ss).length = ss.length by simp [resF, hok, fcode])
          have HOD2 := Lib.hid (show okD gs = decide (resF ss = gs) by rw [HOD.out, hok]; rfl)
          clear hok
          generalize resF ss = xs at rd1 hc1 ho1 HRL HOD2 ⊢
          have hxl : xs.length = gs.length := by rw [HRL.out, HLN.out]
          have HXL := Lib.hid hxl
          have hle : xs.length ≤ gs.length := by omega
          have hrg := hr.below HB1.out
          clear hxl ho1 hb1
          go_wp2
          go_loopg [9] (xs.length + 1) (fun f i wr => ∃ k : Nat, xs.length < k + f ∧ k ≤ xs.length ∧ i = .int .i64 k ∧ upTo xs gs k ∧ ∃ n, wr = w1.drewN n)
          case atStart => exact ⟨0, by omega, by omega, rfl, rfl, 0, rfl⟩
          case round =>
            obtain ⟨k, hkf, hk, rfl, hu, n, rfl⟩ := hrel
            by_cases hlt : k < xs.length
            · have hlt2 : k < gs.length := by omega
              obtain ⟨b, off, rfl, hc0, hc1⟩ := rd1.cod hlt
              obtain ⟨b2, off2, rfl, hd0, hd1⟩ := hrg.cod hlt2
              have q1 : (k : Int) < (xs.length : Int) := by omega
              have q2 : (k : Int) < (gs.length : Int) := by omega
              have HU := Lib.hid hu
              clear hu
              by_cases he : xs[k] = gs[k]
              · have HU2 := Lib.hid (upTo_step HU.out hlt hlt2 he)
                have hd : decide (xs[k] ≠ gs[k]) = false := by simp [he]
                have hrn := fun W : World => hd ▸ run_ne xs[k] gs[k] W
                have hgd := run_gd
                clear he hd
                generalize xs[k] = x at hc0 hc1 hrn
                generalize gs[k] = y at hd0 hd1 hrn
                go_wp2_with fail
                go_quiet (fail)
                go_wp2
                go_roundg (gk - 1)
                case measure => omega
                case rel => exact ⟨k + 1, by omega, by omega, by go_num, HU2.out, n + nq, rfl⟩
              · have HN := Lib.hid (show okD gs = false by
                  rw [HOD2.out, decide_eq_false_iff_not]; intro e
                  exact he (by simp only [e]))
                have hd : decide (xs[k] ≠ gs[k]) = true := by simp [he]
                have hrn := fun W : World => hd ▸ run_ne xs[k] gs[k] W
                have hgd := run_gd
                clear he hd
                generalize xs[k] = x at hc0 hc1 hrn
                generalize gs[k] = y at hd0 hd1 hrn
                go_wp2_with fail
                go_quiet (fail)
                obtain ⟨wx, hwx⟩ : ∃ W : World, W = (w1.drewN n).drewN nq := ⟨_, rfl⟩
                have HBX := Lib.hid (show Below w.heap.size w wx by rw [hwx]; exact below_drewN (below_drewN HB1.out n) nq)
                rw [← hwx]
                clear hwx
                go_wp2
                go_ret2
                exact ⟨_, ret2 HN.out.symm, (HNO.out HN.out _ HBX.out).1, (HNO.out HN.out _ HBX.out).2⟩
            · have HY := Lib.hid (show okD gs = true by
                rw [HOD2.out, decide_eq_true_iff]
                unfold upTo at hu
                have := HXL.out
                rwa [List.take_of_length_le (by omega), List.take_of_length_le (by omega)] at hu)
              have q1 : ¬ (k : Int) < (xs.length : Int) := by omega
              clear hu
              go_wp2
              go_ret2
              exact ⟨_, ret2 HY.out.symm, ⟨by rw [HRD.out HY.out]; exact own_drewN HO1.out n, by rw [HRD.out HY.out, HLN.out]; exact hn⟩, below_drewN HB1.out n⟩
end Go.Proofs.Ytaeimdcmpjanbaa.frontD
