/- One merging pass, the reference's: l17Pass, MergePass. Condition: at most 2^20 runs, of at most 2^20 records each. -/
import Derived.Test.YtgffabjajbgbjaaTnMs
import Derived.Test.YtgffabjajbgbjaaPasI
set_option linter.unusedVariables false
set_option linter.unusedSimpArgs false
namespace Go.Proofs.Ytgffabjajbgbjaa.pas
open Go.RowKit Go.Proofs.Ytgffabjajbgbjaa.mem Go.Proofs.Ytgffabjajbgbjaa.nest Go.Proofs.Ytgffabjajbgbjaa.tn Go.Proofs.Ytgffabjajbgbjaa.ascr
open Go.Proofs.Ytgffabjajbgbjaa.ins (inB inB_iff)
open Go.Proofs.Ytgffabjajbgbjaa.vrecs (vrec vrec_len)

theorem left_one {W : Nat} {rs : List (List Rec)} {i : Nat} {done : List (List Rec)} {cmp : Nat} {l : List Rec} (h0 : 0 < W) (h : Left W rs i done cmp) (hi : i < rs.length) (hl : (rs.drop i).take W = [l]) : Left W rs (i + W) (done ++ [l]) cmp := by
  have := left_step h0 h hi
  rw [hl, show tot [l] = l.length by simp [tot], km_one l l.length (Nat.le_refl _)] at this
  simpa using this
theorem least_any (a b h : Int) (w : World) (hh : (if b < a then b else a) = h) : Calls Try.prog 90 #[.int .i64 a, .int .i64 b] w fun e w' => e = .returned (.int .i64 h) ∧ w = w' := by
  by_cases hab : a < b
  · have HE := Lib.hid (show h = a by rw [← hh, if_neg (by omega)])
    clear hh
    go_enter Try.func90, Try.ntmps90
    go_wp2
    go_ret
    exact ⟨ret_int HE.out.symm, rfl⟩
  · have HE := Lib.hid (show h = b by
      rw [← hh]
      by_cases e : b < a
      · rw [if_pos e]
      · rw [if_neg e]; omega)
    clear hh
    go_enter Try.func90, Try.ntmps90
    go_wp2
    go_ret
    exact ⟨ret_int HE.out.symm, rfl⟩
set_option maxRecDepth 100000 in
set_option maxHeartbeats 2000000 in
theorem passS_any (A : Option Addr) (c : Nat) (vs : List Value) (rs : List (List Rec)) (W : Nat) (w : World) (hW2 : 2 ≤ W) (hW16 : W ≤ 16) (hn : rs.length ≤ 1048576) (htot : tot rs ≤ 1048576) (hnc : rs.length ≤ c) (hcm : c ≤ maxLen) (hr : RdL_rec w A vs rs) :
    Calls Try.prog 76 #[.slice A rs.length c, .int .i64 (W : Int)] w fun e w' => ∃ v, e = .returned (.tuple #[v, .int .i64 ((mp W rs.length rs).2 : Nat)]) ∧ OwnT w w' v (mp W rs.length rs).1 ∧ Below w.heap.size w w' := by
  have HO1 := Lib.hid (World.ownsRow_made (base := w.heap.size) (e := 54) (size := 1) w #[] 0 (Nat.le_refl _) (Nat.zero_le _) (by simp))
  have HB1 := Lib.hid ((Below.refl w.heap.size w).alloc (Nat.le_refl _) (.cells #[] 54))
  unfold maxLen at hcm
  go_enter Try.func76, Try.ntmps76
  go_wp2
  go_loopg [6, 7, 8] (rs.length + 1) (fun f o x y wr => ∃ (i cmp : Nat) (vo : List Value) (done : List (List Rec)), rs.length < i + f ∧ i ≤ rs.length + 16 ∧ y = .int .i64 (i : Int) ∧ x = .int .i64 (cmp : Int) ∧ Left W rs i done cmp ∧ NL_rec wr w.heap.size o vo done ∧ Below w.heap.size w wr)
  case atStart => exact ⟨0, 0, [], [], by omega, by omega, rfl, rfl, left_start W rs, nl_made_rec HO1.out, HB1.out⟩
  case round =>
    obtain ⟨i, cmp, vo, done, hif, hi, rfl, rfl, hl, ho, hb⟩ := hrel
    have hbd := left_bd (by omega) hW16 hl hn htot
    have HL := Lib.hid hl
    have HO := Lib.hid ho
    clear hl ho
    by_cases hlt : i < rs.length
    · have q1 : (i : Int) < (rs.length : Int) := by omega
      have HST := Lib.hid (left_step (by omega) HL.out hlt)
      have HS1 := Lib.hid (fun l => left_one (l := l) (by omega) HL.out hlt)
      have hgl : ((rs.drop i).take W).length ≤ 16 ∧ 0 < ((rs.drop i).take W).length := by rw [List.length_take, List.length_drop]; omega
      have htp := tot_part rs i W
      have hcost := km_cost (tot ((rs.drop i).take W)) ((rs.drop i).take W) hgl.2 (by omega)
      have hkl := km_len (tot ((rs.drop i).take W)) ((rs.drop i).take W)
      have htc := Nat.mul_le_mul_right 1024 (Nat.le_trans htp htot)
      have HKW : ∃ (m hi : Nat), i + m = hi ∧ hi ≤ rs.length ∧ (rs.drop i).take m = (rs.drop i).take W ∧ ((rs.drop i).take W).length = m ∧ ((if (rs.length : Int) < (i : Int) + (W : Int) then (rs.length : Int) else (i : Int) + (W : Int)) = (hi : Int)) := by
        by_cases h : rs.length < i + W
        · exact ⟨rs.length - i, rs.length, by omega, by omega, take_cut h (by omega), by rw [List.length_take, List.length_drop]; omega, by rw [if_pos (by omega)]⟩
        · exact ⟨W, i + W, rfl, by omega, rfl, by rw [List.length_take, List.length_drop]; omega, by rw [if_neg (by omega)]; omega⟩
      obtain ⟨m, hiN, hm1, hm2, hm3, hm4, hm5⟩ := HKW
      have HLE := Lib.hid (fun X : World => least_any ((i : Int) + (W : Int)) (rs.length : Int) (hiN : Int) X hm5)
      have hrg := rdl_cut (hr.below hb) (k := i) (m := m) (cap := c) (by omega) hnc
      rw [hm3] at hrg
      have HRG := Lib.hid hrg
      have HK := Lib.hid (show Calls Try.prog 91 #[.slice (cutA A c i 1) m (c - i)] wr fun e w' => ∃ v, e = .returned (.tuple #[v, .int .i64 ((((rs.drop i).take W).length - 1 + (km (tot ((rs.drop i).take W)) ((rs.drop i).take W)).2 : Nat) : Int)]) ∧ OwnRec wr w' v (km (tot ((rs.drop i).take W)) ((rs.drop i).take W)).1 ∧ Below wr.heap.size wr w' from by
        have h := merge_any (cutA A c i 1) (c - i) ((vs.drop i).take m) ((rs.drop i).take W) wr hgl.2 (by omega) (by omega) hrg
        rw [hm4] at h ⊢
        exact h)
      have hsl : ∀ X : World, (Instr.slice 47 (.slice A rs.length c) (some (.int .i64 (i : Int))) (some (.int .i64 (hiN : Int))) none).run Try.prog X = .ok (.slice (cutA A c i 1) m (c - i)) X := fun X => by
        have h := run_cut (P := Try.prog) 47 54 _ 1 24 Try.underlying47 info_recS A rs.length c i hiN (i : Int) (hiN : Int) rfl rfl (by omega) (by omega) X
        rw [show hiN - i = m by omega] at h
        exact h
      have hadd : IntKind.i64.wrap ((i : Int) + (W : Int)) = (i : Int) + (W : Int) := IntWalk.i64_in _ (by omega)
      have hcn : ((rs.drop i).take W).length - 1 + (km (tot ((rs.drop i).take W)) ((rs.drop i).take W)).2 ≤ 1073741840 := by omega
      have hnl : done.length ≤ 1099511627776 := by omega
      have hm0 : 0 < m := by omega
      have HGL := Lib.hid (And.intro hm4 htp)
      obtain ⟨grp, hgrp⟩ : ∃ grp, grp = (rs.drop i).take W := ⟨_, rfl⟩
      rw [← hgrp] at HST HS1 HRG HK hcn HGL hkl
      by_cases hm : m = 1
      · obtain ⟨l, hl⟩ : ∃ l, grp = [l] := List.length_eq_one_iff.1 (by rw [hgrp, hm4]; exact hm)
        have HST1 := Lib.hid (HS1.out l hl)
        have hc0 := HRG.out.cell (i := 0) (by rw [hl]; simp)
        simp only [hl, List.getElem_cons_zero] at hc0
        obtain ⟨b', off', hcA, B, cl, hcell, hlc, hlm, hrl⟩ := hc0
        have hll : l.length ≤ 1048576 := by
          have h1 := HGL.out.2
          rw [hl, show tot [l] = l.length by simp [tot]] at h1; omega
        have hba := (Below.refl wr.heap.size wr).alloc (Nat.le_refl _) (.cells #[] 87)
        have hr0 : Rd (wr.alloc (.cells #[] 87)) 2 B l.length (recs l) := hrl.below hba
        have h0 := World.ownsRow_made (e := 87) (size := 2) wr #[] 0 (Nat.le_refl _) (Nat.zero_le _) (by simp)
        have hs0 := hba.size
        have hh : 0 + l.length ≤ 1099511627776 := by omega
        have hca : (wr.alloc (.cells #[] 87)).cell? ⟨b', off', none⟩ = some (.slice B l.length cl) := cells_below hba (by simpa using hcell)
        rw [hcA] at hsl
        subst hm
        have hbz := hb.size
        clear hm1 hm2 hm3 hm4 hm5 hgl htp hcost hkl htc hrg hgrp hl hcA hcell hrl HK HS1 HST HRG HGL
        go_wp2_with fail
        (with_reducible refine (HLE.out _).mono ?_)
        rintro e w2 ⟨rfl, rfl⟩
        go_wp2_with (first
          | (at_builtin; refine mem.extend_at (wr.alloc (.cells #[] 87)) rfl (.tmp 33) (.tmp 36) 54 rfl wr.heap.size 87 _ 2 16 Try.underlying54 info_rec rfl (by decide) (.slice (some ⟨wr.heap.size, 0, none⟩) 0 0) 0 [] (by simp [Act.eval, Act.put]) h0 B l.length cl (recs l) (by simp [Act.eval, Act.put]) hr0 (recs_one l) hh (by decide) hs0 ?_; intro v3 w3 ho3 hg3 hn3; simp only [Nat.zero_add, List.nil_append] at ho3; have hb3 := below_push hba hs0 hg3 h0; have hapt := nl_apart_rec HO.out (own_ge ho3); have hO3 := nl_below_rec HO.out hb3; obtain ⟨A3, c3, rfl, _, _, _⟩ := own_form ho3; have hX3 := own_base ho3 hbz; have hbr := below_at hb hbz hb3; have hbs := hbr.size; have htop := hO3.top)
          | (at_builtin; refine mem.push_at w3 rfl (.tmp 32) (.tmp 38) 47 rfl w.heap.size 54 _ 1 24 Try.underlying47 info_recS rfl Nat.one_pos u6 done.length vo (by simp [Act.eval, Act.put]) htop [.slice A3 l.length c3] 1 rfl (one_row _ _ _) (by simp [Act.eval, Act.put]) hnl (by decide) hbs ?_; intro v' w' ho' hg' hnw'; have HN := Lib.hid (nl_push_rec hO3 hX3 hapt.1 hapt.2 ho' hg' hnw'); have hb4 := below_push hbr hbs hg' htop; clear ho' hg' hnw' htop hapt hO3 hX3 ho3 hg3 hn3))
        go_roundg (gk - 1)
        case measure => omega
        case rel => exact ⟨i + W, cmp, _, done ++ [l], by omega, by omega, by go_num, rfl, HST1.out, HN, hb4⟩
      · have q2 : ((m : Int) == 1) = false := by rw [beq_eq_false_iff_ne]; omega
        generalize grp.length - 1 + (km (tot grp) grp).2 = cn at HST HK hcn
        generalize (km (tot grp) grp).1 = G at HST HK hkl
        clear hm1 hm2 hm3 hm4 hm5 hgl htp hcost hkl htc hrg hgrp HS1 HRG HGL hm hm0
        go_wp2_with fail
        (with_reducible refine (HLE.out _).mono ?_)
        rintro e w2 ⟨rfl, rfl⟩
        go_wp2_with fail
        (with_reducible refine HK.out.mono ?_)
        rintro e w2 ⟨v2, rfl, ⟨ho2, hG⟩, hb2⟩
        have hapt := nl_apart_rec HO.out (own_ge ho2)
        have HXA := Lib.hid hapt
        have HO2 := Lib.hid (nl_below_rec HO.out hb2)
        obtain ⟨A2, c2, rfl, _, _, _⟩ := own_form ho2
        have HX := Lib.hid (own_base ho2 hb.size)
        have hbr : Below w.heap.size w w2 := below_at hb hb.size hb2
        have hbs := hbr.size
        have htop := HO2.out.top
        clear hapt ho2 hb2
        go_wp2_with (at_builtin; refine mem.push_at _ rfl _ _ 47 rfl w.heap.size 54 _ 1 24 Try.underlying47 info_recS rfl Nat.one_pos _ _ _ rfl htop [.slice A2 G.length c2] _ rfl (one_row _ _ _) rfl hnl (by decide) hbs ?_; intro v' w' ho' hg' hnw')
        have HN := Lib.hid (nl_push_rec HO2.out HX.out HXA.out.1 HXA.out.2 ho' hg' hnw')
        have hb4 := below_push hbr hbs hg' htop
        clear ho' hg' hnw' htop
        go_wp2
        go_roundg (gk - 1)
        case measure => omega
        case rel => exact ⟨i + W, cmp + cn, _, done ++ [G], by omega, by omega, by go_num, by go_num, HST.out, HN.out, hb4⟩
    · have HE := Lib.hid (left_end HL.out (by omega))
      go_wp2
      go_ret2
      refine ⟨_, by rw [HE.out.2]; rfl, ⟨⟨vo, by rw [← HE.out.1]; exact HO.out⟩, by rw [← HE.out.1]; exact hbd.2, Nat.le_trans (mp_tot W _ _) htot⟩, hb⟩
theorem own_made (w w' : World) (hb : Below w.heap.size w w') : OwnT w (w'.alloc (.cells #[] 54)) (.slice (some ⟨w'.heap.size, 0, none⟩) 0 0) [] :=
  ⟨⟨[], nl_made_rec (World.ownsRow_made (base := w.heap.size) (e := 54) (size := 1) w' #[] 0 hb.size (Nat.zero_le _) (by simp))⟩, by simp, by simp [tot]⟩
set_option maxRecDepth 100000 in
set_option maxHeartbeats 2000000 in
theorem merge_spec (A : Option Addr) (c : Nat) (vs : List Value) (rs : List (List Rec)) (ways : Int) (w : World) (hk : rs.length + tot rs ≤ 1048576) (hnc : rs.length ≤ c) (hcm : c ≤ maxLen) (hr : RdL_rec w A vs rs) :
    Calls Try.prog 39 #[.slice A rs.length c, .int .i64 ways] w fun e w' => ∃ v, e = .returned (.tuple #[v, .int .i64 (cmpP rs ways), .bool (okP rs ways)]) ∧ OwnT w w' v (resP rs ways) ∧ Below w.heap.size w w' := by
  have HNO := Lib.hid (fun (h : okP rs ways = false) => show okP rs ways = false ∧ resP rs ways = [] ∧ cmpP rs ways = 0 from ⟨h, by simp [resP, h], by simp [cmpP, h]⟩)
  have hrl : ∀ r ∈ rs, r.length ≤ 1048576 := fun r h => by have := mem_tot h; omega
  have HMADE := Lib.hid (fun (w' : World) (h : Below w.heap.size w w') => own_made w w' h)
  have hn : rs.length ≤ 1048576 := by omega
  have HIN := Lib.hid (fun W => ins.spec_any ways 2 16 W)
  have HCM := Lib.hid hcm
  clear hcm
  go_enter Try.func39, Try.ntmps39
  go_wp2
  go_loopg [7, 8] (rs.length + 1) (fun f t x wr => ∃ (i : Nat) (s : Nat), rs.length < i + f ∧ i ≤ rs.length ∧ x = .int .i64 (i : Int) ∧ t = .int .i64 (s : Int) ∧ s = tot (rs.take i) ∧ (∀ r ∈ rs.take i, okR r = true) ∧ Below w.heap.size w wr)
  case atStart => exact ⟨0, 0, by omega, Nat.zero_le _, rfl, rfl, by simp [tot], by simp, Below.refl _ _⟩
  case round =>
    obtain ⟨i, s, hif, hi, rfl, rfl, hs, hok, hb⟩ := hrel
    have HS := Lib.hid hs
    have HOK := Lib.hid hok
    have hsb : s ≤ 67108864 := by
      have h1 := tot_small (rs := rs.take i) fun r hr => okR_len (hok r hr)
      rw [List.length_take] at h1
      have h2 : min i rs.length * 64 ≤ 1048576 * 64 := Nat.mul_le_mul_right _ (by omega)
      omega
    clear hs hok
    by_cases hlt : i < rs.length
    · have q1 : (i : Int) < (rs.length : Int) := by omega
      obtain ⟨b, off, rfl, Ar, cr, hcell, hrc, hcm, hrr⟩ := (hr.below hb).cell (i := i) hlt
      have HT := Lib.hid (tot_take_succ rs hlt)
      have HM := Lib.hid (List.take_succ_eq_append_getElem hlt)
      have HN := Lib.hid (fun h => HNO.out (show okP rs ways = false by rw [okP, okRs_not hlt h, Bool.and_false]))
      have hlen := hrl _ (List.getElem_mem hlt)
      have HV := Lib.hid (vrecs.spec_any Ar cr rs[i] wr hlen hrr)
      have HA := Lib.hid (asc_spec Ar cr rs[i] wr hlen hrr)
      have HO := Lib.hid (show okR rs[i] = (vrec rs[i] && ascB rs[i]) from rfl)
      generalize rs[i] = r at hcell hrc hrr HT HM HN hlen HA HV HO
      unfold maxLen at hcm
      cases hv : vrec r with
      | false =>
        have HR := Lib.hid (HN.out (by rw [HO.out, hv]; rfl))
        rw [hv] at HV
        clear hv
        go_wp2_with fail
        (with_reducible refine HV.out.mono ?_)
        rintro e w1 ⟨rfl, rfl⟩
        have HMD := Lib.hid (HMADE.out _ hb)
        have hb2 := hb.alloc hb.size (.cells #[] 54)
        go_wp2
        go_ret3
        exact ⟨_, by rw [HR.out.1, HR.out.2.2]; rfl, by rw [HR.out.2.1]; exact HMD.out, hb2⟩
      | true =>
        cases ha : ascB r with
        | false =>
          have HR := Lib.hid (HN.out (by rw [HO.out, hv, ha]; rfl))
          rw [hv] at HV
          rw [ha] at HA
          clear hv ha
          go_wp2_with fail
          (with_reducible refine HV.out.mono ?_)
          rintro e w1 ⟨rfl, rfl⟩
          go_wp2_with fail
          (with_reducible refine HA.out.mono ?_)
          rintro e w1 ⟨rfl, d1, rfl⟩
          have hbd := below_drewN hb d1
          have HMD := Lib.hid (HMADE.out _ hbd)
          have hb2 := hbd.alloc hbd.size (.cells #[] 54)
          go_wp2
          go_ret3
          exact ⟨_, by rw [HR.out.1, HR.out.2.2]; rfl, by rw [HR.out.2.1]; exact HMD.out, hb2⟩
        | true =>
          have HR := Lib.hid (show okR r = true by rw [HO.out, hv, ha]; rfl)
          have hr64 := okR_len HR.out
          rw [hv] at HV
          rw [ha] at HA
          clear hv ha
          go_wp2_with fail
          (with_reducible refine HV.out.mono ?_)
          rintro e w1 ⟨rfl, rfl⟩
          go_wp2_with fail
          (with_reducible refine HA.out.mono ?_)
          rintro e w1 ⟨rfl, d1, rfl⟩
          have hbd := below_drewN hb d1
          go_wp2
          go_roundg (gk - 1)
          case measure => omega
          case rel => exact ⟨i + 1, s + r.length, by omega, by omega, by go_num, by go_num, by rw [HT.out, HS.out], fun r' hr' => by
            rw [HM.out] at hr'
            rcases List.mem_append.1 hr' with h | h
            · exact HOK.out r' h
            · obtain rfl := List.mem_singleton.1 h
              exact HR.out, hbd⟩
    · have HR := Lib.hid (show okRs rs = decide (s ≤ 64) from by
        have e : rs.take i = rs := List.take_of_length_le (by omega)
        have h1 := HS.out
        have h2 := HOK.out
        rw [e] at h1 h2
        have h3 : rs.all okR = true := List.all_eq_true.2 h2
        rw [okRs, h3, Bool.true_and, h1])
      have HOP := Lib.hid (show okP rs ways = (inB ways 2 16 && decide (s ≤ 64)) by rw [okP, HR.out])
      have HMD := Lib.hid (HMADE.out _ hb)
      have hb2 := hb.alloc hb.size (.cells #[] 54)
      cases hi : inB ways 2 16 with
      | false =>
        have HX := Lib.hid (HNO.out (by rw [HOP.out, hi]; rfl))
        rw [hi] at HIN
        clear hi
        go_wp2_with fail
        (with_reducible refine (HIN.out _).mono ?_)
        rintro e w1 ⟨rfl, rfl⟩
        go_wp2
        go_ret3
        exact ⟨_, by rw [HX.out.1, HX.out.2.2]; rfl, by rw [HX.out.2.1]; exact HMD.out, hb2⟩
      | true =>
        have hw := inB_iff.1 hi
        by_cases h64 : s ≤ 64
        · have HX := Lib.hid (show okP rs ways = true ∧ resP rs ways = (mp ways.toNat rs.length rs).1 ∧ cmpP rs ways = ((mp ways.toNat rs.length rs).2 : Nat) from by
            have e : okP rs ways = true := by rw [HOP.out, hi, decide_eq_true h64]; rfl
            exact ⟨e, by simp [resP, e], by simp [cmpP, e]⟩)
          rw [hi] at HIN
          clear hi HOP
          obtain ⟨W, rfl⟩ : ∃ W : Nat, ways = (W : Int) := ⟨ways.toNat, by omega⟩
          have HPS := Lib.hid (passS_any A c vs rs W wr (by omega) (by omega) hn (by omega) hnc HCM.out (hr.below hb))
          go_wp2_with fail
          (with_reducible refine (HIN.out _).mono ?_)
          rintro e w1 ⟨rfl, rfl⟩
          go_wp2_with fail
          (with_reducible refine HPS.out.mono ?_)
          rintro e w2 ⟨v2, rfl, ⟨⟨vs2, ho2⟩, ht2, ht3⟩, hb3⟩
          have hb4 := below_at hb hb.size hb3
          have HF := Lib.hid (show OwnT w w2 v2 (mp W rs.length rs).1 from ⟨⟨vs2, nl_base_rec ho2 hb.size⟩, ht2, ht3⟩)
          clear ho2 ht2 ht3
          go_wp2
          go_ret3
          exact ⟨_, by rw [HX.out.1, HX.out.2.2]; rfl, by rw [HX.out.2.1]; exact HF.out, hb4⟩
        · have HX := Lib.hid (HNO.out (by rw [HOP.out, hi, decide_eq_false h64]; rfl))
          have q64 : (64 : Int) < (s : Int) := by omega
          rw [hi] at HIN
          clear hi
          go_wp2_with fail
          (with_reducible refine (HIN.out _).mono ?_)
          rintro e w1 ⟨rfl, rfl⟩
          go_wp2
          go_ret3
          exact ⟨_, by rw [HX.out.1, HX.out.2.2]; rfl, by rw [HX.out.2.1]; exact HMD.out, hb2⟩
end Go.Proofs.Ytgffabjajbgbjaa.pas
