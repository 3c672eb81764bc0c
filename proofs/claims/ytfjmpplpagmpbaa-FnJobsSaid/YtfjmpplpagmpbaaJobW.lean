/- ScheduleJobs, the program's: the walk. Condition: at most 2^20 times. -/
import Derived.Test.YtfjmpplpagmpbaaJobI
set_option linter.unusedVariables false
set_option linter.unusedSimpArgs false
namespace Go.Proofs.Ytfjmpplpagmpbaa.jobLaw
open Go.RowKit Go.Proofs.Ytfjmpplpagmpbaa.mem Go.Proofs.Ytfjmpplpagmpbaa.stb Go.Proofs.Ytfjmpplpagmpbaa.cmpI
open Go.Proofs.Ytfjmpplpagmpbaa.ins (inB inB_iff)

theorem ret3 {a b : Int} {p q : Bool} {v : Value} (h1 : a = b) (h2 : p = q) : Ending.returned (.tuple #[v, .int .i64 a, .bool p]) = .returned (.tuple #[v, .int .i64 b, .bool q]) := by rw [h1, h2]
theorem nats_take (n : Nat) {k : Nat} (h : k < n) : nats (List.range (k + 1)) = nats (List.range k) ++ [(k : Int)] := by simp [nats, List.range_succ]
theorem nats_at (l : List Nat) {i : Nat} (h : i < l.length) : (ints (nats l))[i]? = some (.int .i64 (l[i] : Int)) := by simp [ints, nats, h]
set_option maxRecDepth 100000 in
set_option maxHeartbeats 4000000 in
theorem impl_any (A : Option Addr) (c : Nat) (ts : List Int) (k : Int) (w : World) (hn : ts.length ≤ 1048576) (hr : Rd w 1 A ts.length (ints ts)) :
    Calls Try.prog 34 #[.slice A ts.length c, .int .i64 k] w fun e w' => ∃ v, e = .returned (.tuple #[v, .int .i64 (spanJ ts k), .bool (okJ ts k)]) ∧ OwnI w w' v (outJ ts k) ∧ Below w.heap.size w w' := by
  have HB0 := Lib.hid ((Below.refl w.heap.size w).alloc (Nat.le_refl _) (.cells #[.slice A ts.length c] 22))
  by_cases h64 : ts.length ≤ 64
  · have HV := Lib.hid (fun (W : World) h => allInt.all_any A c ts 67 (fun x => inB x 1 100000) W (by unfold maxLen; omega) h ⟨fun _ _ => rfl, fun s _ W _ => time_clo s W⟩)
    have q64 : ¬ (64 : Int) < (ts.length : Int) := by omega
    cases ha : ts.all (fun t => inB t 1 100000) with
    | false =>
      rw [ha] at HV
      have HR := Lib.hid (show okJ ts k = false ∧ outJ ts k = [] ∧ spanJ ts k = 0 by
        have : okJ ts k = false := by rw [okJ_form, ha]; simp
        simp [outJ, spanJ, this])
      clear ha
      go_enter Try.func34, Try.ntmps34
      go_wp2_with fail
      refine (HV.out _ (hr.alloc _)).mono ?_
      rintro e w1 ⟨rfl, hb1⟩
      have hb2 := below_step HB0.out hb1
      go_wp2
      go_ret3
      exact ⟨_, ret3 HR.out.2.2.symm HR.out.1.symm, ⟨by rw [HR.out.2.1]; exact World.ownsRow_nil _ _ _ _, by rw [HR.out.2.1]; simp⟩, hb2⟩
    | true =>
      rw [ha] at HV
      by_cases h2 : inB k 1 16 = true
      · have hok : okJ ts k = true := by rw [okJ_form, ha, h2]; simp [h64]
        obtain ⟨hk1, hk2⟩ := inB_iff.1 h2
        obtain ⟨q, rfl⟩ : ∃ q : Nat, k = (q : Int) := ⟨k.toNat, by omega⟩
        have HR := Lib.hid (show okJ ts (q : Int) = true ∧ outJ ts (q : Int) = (stt ts q ts.length).1 ∧ spanJ ts (q : Int) = mx (stt ts q ts.length).2 by
          simp [outJ, spanJ, hok])
        have HTS := Lib.hid ((okJ_iff.1 hok).2.1)
        have H2 := Lib.hid h2
        clear ha hok h2
        go_enter Try.func34, Try.ntmps34
        go_wp2_with fail
        refine (HV.out _ (hr.alloc _)).mono ?_
        rintro e w1 ⟨rfl, hb1⟩
        have hb2 := below_step HB0.out hb1
        have hg0 : w1.cell? ⟨w.heap.size, 0, none⟩ = some (.slice A ts.length c) := by
          rw [hb1.cell (by simp), World.cell?_alloc_at _ _ _ _ rfl]; rfl
        have hgl : w.heap.size < w1.heap.size := by have := hb1.size; simp at this; omega
        clear HV hb1
        go_wp2_with (first | (go_at_call 57; refine (ins.impl_any _ _ _ _).mono ?_; rintro e w' ⟨rfl, rfl⟩; rw [H2.out]) | go_in)
        have HM1 := Lib.hid (World.ownsRow_made (base := w1.heap.size) (e := 3) (size := 1) w1 #[] 0 (Nat.le_refl _) (Nat.zero_le _) (by simp))
        have HMB := Lib.hid ((Below.refl w1.heap.size w1).alloc (Nat.le_refl _) (.cells #[] 3))
        have hg1 := fun (o : Obj) => (World.cell?_alloc_lt w1 o _ hgl).trans hg0
        go_wp2
        go_loopg [7, 32] (ts.length + 1) (fun f o i wr => ∃ k : Nat, ts.length < k + f ∧ k ≤ ts.length ∧ i = .int .i64 (k : Int) ∧ wr.ownsRow w1.heap.size 3 1 o k (ints (nats (List.range k))) ∧ Below w1.heap.size w1 wr)
        case atStart => exact ⟨0, by omega, by omega, rfl, HM1.out, HMB.out⟩
        case round =>
          obtain ⟨k, hkf, hk, rfl, ho, hb⟩ := hrel
          by_cases hlt : k < ts.length
          · have q1 : (k : Int) < (ts.length : Int) := by omega
            have hkb : k ≤ 1099511627776 := by omega
            have hbs := hb.size
            have HP := Lib.hid (show ints (nats (List.range k)) ++ [.int .i64 (k : Int)] = ints (nats (List.range (k + 1))) by rw [nats_take ts.length hlt, ints_app]; rfl)
            go_wp2_with (at_builtin; refine mem.push _ rfl _ _ 22 rfl w1.heap.size 3 _ 1 8 Try.underlying22 mem.info_int rfl Nat.one_pos _ _ _ rfl ho [.int .i64 ((k : Int))] _ rfl (mem.ints_one [(k : Int)]) rfl hkb (by decide) hbs ?_; intro v' w' ho' hg')
            have hb3 := below_push hb hbs hg' ho
            rw [HP.out] at ho'
            go_wp2
            go_roundg (gk - 1)
            case measure => omega
            case rel => exact ⟨k + 1, by omega, by omega, by go_num, ho', hb3⟩
          · obtain rfl : k = ts.length := by omega
            have q1 : ¬ (ts.length : Int) < (ts.length : Int) := by omega
            have HOX := Lib.hid (show wr.ownsRow w1.heap.size 3 1 u7 (ixl ts.length).length (ixs (ixl ts.length)) by rw [ixs_ixl, ixl_len]; exact ho)
            have hgr : wr.cell? ⟨w.heap.size, 0, none⟩ = some (.slice A ts.length c) := cells_below hb hg0
            have HC := Lib.hid (show ∀ g, u7.ownBlock = some g → Cmp_ix (IXN := ts.length) 69 #[.pointer (some ⟨w.heap.size, 0, none⟩)] (cfX ts) wr g from fun g hg => ⟨fun _ _ => rfl, fun x y W hW => by
              have hgw := (ho.lt g hg).1
              have hbW : Below w1.heap.size w1 W := below_grown hb hb.size hW (fun g' e => by injection e with e; omega)
              exact cmp_clo ts A c w.heap.size x y W hn (cells_below hbW hg0) (hr.below (below_at hb2 hb2.size hbW))⟩)
            have HS := Lib.hid (sortStable_ix w1.heap.size u7 69 #[.pointer (some ⟨w.heap.size, 0, none⟩)] (cfX ts) (ltX ts) (cfX_neg ts) (weakX ts ts.length) (ixl ts.length) wr HC.out (by rw [ixl_len]; exact hn) HOX.out)
            have HBR := Lib.hid hb
            have hmf : ∀ (fn : Fn) (first cap : Array Value) (w : World), (Instr.makeFunc fn first cap).run Try.prog w = .ok (.func fn first cap) w := fun _ _ _ _ => rfl
            have HBG := Lib.hid (fun (W : World) (h : wr.grownBy W u7.ownBlock) => below_push hb hb.size h ho)
            clear HOX HC ho hb
            go_wp2_with fail
            refine HS.out.mono ?_
            rintro e w4 ⟨rfl, ho4, hg4⟩
            have hb4 := HBG.out _ hg4
            rw [ixs_ord, ixl_len] at ho4
            obtain ⟨AO, cO, rfl, _, _, hro⟩ := own_form ho4
            have hc4 : w4.cell? ⟨w.heap.size, 0, none⟩ = some (.slice A ts.length c) := cells_below hb4 hg0
            have hb5 := below_at hb2 hb2.size hb4
            have hr4 := hr.below hb5
            have hmk1 : ∀ W : World, (Instr.makeSlice 22 (.int .i64 (ts.length : Int)) (.int .i64 (ts.length : Int))).run Try.prog W = .ok (.slice (some ⟨W.heap.size, 0, none⟩) ts.length ts.length) (W.alloc (.cells (rep ts.length (.int .i64 0)) 3)) :=
              make_rep (P := Try.prog) 22 3 _ _ Try.underlying22 info_int rfl ts.length (by omega) (by unfold maxLen; omega)
            have hmk2 : ∀ W : World, (Instr.makeSlice 22 (.int .i64 (q : Int)) (.int .i64 (q : Int))).run Try.prog W = .ok (.slice (some ⟨W.heap.size, 0, none⟩) q q) (W.alloc (.cells (rep q (.int .i64 0)) 3)) :=
              make_rep (P := Try.prog) 22 3 _ _ Try.underlying22 info_int rfl q (by omega) (by unfold maxLen; omega)
            have HTA := Lib.hid (two_a w4 ts.length q)
            have HTB := Lib.hid (two_b w4 ts.length q)
            have HB5 := Lib.hid hb5
            have hc4a := cells_below ((Below.refl w4.heap.size w4).alloc (Nat.le_refl _) (.cells (rep q (.int .i64 0)) 3)) hc4
            have HGL4 := Lib.hid (show w.heap.size < w4.heap.size by have := hb4.size; omega)
            clear HS HBG ho4 hg4 HBR hb2 hg0 hg1 hgr hb4 HM1 HMB
            go_upto_region 10 with fail
            go_cut [9, 10] (fun o l wx => Two w4 wx ts.length q o l)
            case first =>
              go_region
              all_goals
                go_wp2_with fail
                go_meet
                first | exact HTA.out | exact HTB.out
            case rest =>
              obtain ⟨go, gl, rfl, rfl, hne, hgo, hgl2, hgo3, hgl3, bo, bl, hb6⟩ := hcut
              obtain ⟨wq, hwq⟩ : ∃ W : World, W = wc := ⟨_, rfl⟩
              rw [← hwq] at bo bl hb6
              rw [← hwq]
              clear hwq hgo3 hgl3 hc4a hmk1 hmk2
              have HHG := Lib.hid (And.intro hne (And.intro hgo hgl2))
              clear hne hgo hgl2
              go_wp2
              go_loopg [50] (ts.length + 1) (fun f i wr => ∃ t : Nat, ts.length < t + f ∧ t ≤ ts.length ∧ i = .int .i64 (t : Int) ∧ Blk wr go 3 (ints (stt ts q t).1).toArray ∧ Blk wr gl 3 (ints (stt ts q t).2).toArray ∧ Below w4.heap.size w4 wr)
              case atStart => exact ⟨0, by omega, by omega, rfl, bo, bl, hb6⟩
              case round =>
                obtain ⟨t, htf, ht, rfl, bo, bl, hb⟩ := hrel
                have hlen := stt_len ts q t ht
                have hpos := stt_pos HTS.out q t ht
                by_cases hlt : t < ts.length
                · have hm : t < (ord ts).length := by rw [ord_len]; exact hlt
                  have hI := (ord_mem ts).1 (List.getElem_mem hm)
                  have HST := Lib.hid (stt_step ts q hm)
                  obtain ⟨b, off, rfl, hcells⟩ := (hro.below hb).cells (by omega)
                  have hco := hcells t _ (nats_at (ord ts) hm)
                  have hti := tm_bd HTS.out hI
                  have HCT := Lib.hid (fun (W : World) (h : Below w4.heap.size w4 W) => (hr4.below h).int hI)
                  have HTM := Lib.hid (show tm ts (ord ts)[t] = ts[(ord ts)[t]]'hI by rw [tm, List.getD_eq_getElem?_getD, List.getElem?_eq_getElem hI]; rfl)
                  clear hcells
                  generalize (ord ts)[t] = I at hco hI HST hti HCT HTM
                  obtain ⟨X, hX⟩ : ∃ X, X = (stt ts q t).1 := ⟨_, rfl⟩
                  obtain ⟨Y, hY⟩ : ∃ Y, Y = (stt ts q t).2 := ⟨_, rfl⟩
                  have HST2 := Lib.hid (show stt ts q (t + 1) = (X.set I ((am Y q : Nat) : Int), Y.set (am Y q) (Y.getD (am Y q) 0 + tm ts I)) by
                    rw [HST.out]; simp only [jst]; rw [← hX, ← hY, show Y.length = q by rw [hY]; exact hlen.2])
                  rw [← hX] at bo hlen
                  rw [← hY] at bl hlen hpos
                  have HLN := Lib.hid hlen
                  have HPS := Lib.hid hpos
                  clear hX hY hlen hpos HST
                  have q1 : (t : Int) < (ts.length : Int) := by omega
                  have hIn : (I : Int) < (ts.length : Int) := by omega
                  obtain ⟨wo, hwo⟩ : ∃ wo : World, wo = wr := ⟨_, rfl⟩
                  rw [← hwo] at bo bl hb hco
                  rw [← hwo]
                  clear hwo
                  go_wp2
                  go_loopg [13, 56] (q + 1) (fun f bb x wi => ∃ kk m : Nat, q < kk + f ∧ kk ≤ q ∧ x = .int .i64 (kk : Int) ∧ bb = .int .i64 (m : Int) ∧ m = am Y kk ∧ m < q ∧ wo = wi)
                  case atStart => exact ⟨0, 0, by omega, by omega, rfl, rfl, rfl, by omega, rfl⟩
                  case round =>
                    obtain ⟨kk, m, hkf, hkk, rfl, rfl, hma, hmq, rfl⟩ := hrel
                    have HMA := Lib.hid hma
                    clear hma
                    have hmY : m < Y.length := by have := HLN.out; omega
                    have q3 : (m : Int) < (q : Int) := by omega
                    by_cases hlt2 : kk < q
                    · have hkY : kk < Y.length := by have := HLN.out; omega
                      have c1 := blk_int bl hkY
                      have c2 := blk_int bl hmY
                      have HAS := Lib.hid (am_step Y kk)
                      rw [← HMA.out] at HAS
                      generalize Y.getD kk 0 = y at c1 HAS
                      generalize Y.getD m 0 = z at c2 HAS
                      have q2 : (kk : Int) < (q : Int) := by omega
                      by_cases hyz : y < z
                      · have HA2 := Lib.hid (show kk = am Y (kk + 1) by rw [HAS.out, if_pos hyz])
                        go_wp2
                        go_roundg (gk - 1)
                        case measure => omega
                        case rel => exact ⟨kk + 1, kk, by omega, by omega, by go_num, rfl, HA2.out, hlt2, rfl⟩
                      · have HA2 := Lib.hid (show m = am Y (kk + 1) by rw [HAS.out, if_neg hyz])
                        go_wp2
                        go_roundg (gk - 1)
                        case measure => omega
                        case rel => exact ⟨kk + 1, m, by omega, by omega, by go_num, rfl, HA2.out, hmq, rfl⟩
                    · have HAM := Lib.hid (show am Y q = m by rw [HMA.out, show kk = q by omega])
                      have q2 : ¬ (kk : Int) < (q : Int) := by omega
                      have hIX : I < X.length := by have := HLN.out; omega
                      have c1 := blk_int bo hIX
                      have f1 := bo.thaw I
                      have bo2 := blk_set bo I (m : Int)
                      have bl2 := bl.far (p := ⟨go, I, none⟩) (fun e => HHG.out.1 e.symm) (.int .i64 (m : Int))
                      have hbx := hb.setCell (p := ⟨go, I, none⟩) HHG.out.2.1 (.int .i64 (m : Int))
                      clear bo bl hco
                      go_wp2_with fail
                      obtain ⟨wx, hwx⟩ : ∃ W : World, W = wo.setCell ⟨go, I, none⟩ (.int .i64 (m : Int)) := ⟨_, rfl⟩
                      rw [← hwx] at bo2 bl2 hbx
                      rw [← hwx]
                      clear hwx c1 f1 hb
                      have c2 := blk_int bl2 hmY
                      have f2 := bl2.thaw m
                      have c3 := cells_below hbx hc4
                      obtain ⟨b2, off2, rfl, c4⟩ := HCT.out _ hbx
                      rw [← HTM.out] at c4
                      have hyb := HPS.out (Y.getD m 0) (by rw [List.getD_eq_getElem?_getD, List.getElem?_eq_getElem hmY]; exact List.getElem_mem hmY)
                      generalize hTI : tm ts I = ti at c4 hti
                      generalize hYM : Y.getD m 0 = ym at c2 hyb
                      have HS3 := Lib.hid (show stt ts q (t + 1) = (X.set I (m : Int), Y.set m (ym + ti)) by rw [HST2.out, HAM.out, hTI, hYM])
                      have bl3 := blk_set bl2 m (ym + ti)
                      have bo3 := bo2.far (p := ⟨gl, m, none⟩) HHG.out.1 (.int .i64 (ym + ti))
                      have hb3 := hbx.setCell (p := ⟨gl, m, none⟩) HHG.out.2.2 (.int .i64 (ym + ti))
                      have hwr : IntKind.i64.wrap (ym + ti) = ym + ti := IntWalk.i64_in _ (by omega)
                      have HF := Lib.hid (show Blk (wx.setCell ⟨gl, m, none⟩ (.int .i64 (ym + ti))) go 3 (ints (stt ts q (t + 1)).1).toArray ∧ Blk (wx.setCell ⟨gl, m, none⟩ (.int .i64 (ym + ti))) gl 3 (ints (stt ts q (t + 1)).2).toArray ∧ Below w4.heap.size w4 (wx.setCell ⟨gl, m, none⟩ (.int .i64 (ym + ti))) by
                        rw [HS3.out]; exact ⟨bo3, bl3, hb3⟩)
                      clear bo2 bl2 hbx bl3 bo3 hb3 hTI hYM
                      go_region
                      all_goals
                        go_wp2
                        go_roundg (ts.length - t)
                        case measure => omega
                        case rel => exact ⟨t + 1, by omega, by omega, by go_num, HF.out.1, HF.out.2.1, ⟨HF.out.2.2.os, HF.out.2.2.tape, HF.out.2.2.output, HF.out.2.2.size, HF.out.2.2.block⟩⟩
                · obtain rfl : t = ts.length := by omega
                  have q1 : ¬ (ts.length : Int) < (ts.length : Int) := by omega
                  have hown := blk_own bl (base := w.heap.size) (n := q) (by have := HHG.out; have := HGL4.out; omega) hlen.2 (by unfold maxLen; omega)
                  have hownX := blk_own bo (base := w.heap.size) (n := ts.length) (by have := HHG.out; have := HGL4.out; omega) hlen.1 (by unfold maxLen; omega)
                  have HMX := Lib.hid (max_any (some ⟨gl, 0, none⟩) q (stt ts q ts.length).2 wr (fun z hz => (hpos z hz).1) (by omega) (by omega) (by rw [hlen.2]; exact own_rd hown))
                  rw [hlen.2] at HMX
                  have HOX := Lib.hid (show wr.ownsRow w.heap.size 3 1 (.slice (some ⟨go, 0, none⟩) ts.length ts.length) (outJ ts (q : Int)).length (ints (outJ ts (q : Int))) ∧ (outJ ts (q : Int)).length ≤ 1048576 by
                    rw [HR.out.2.1, hlen.1]; exact ⟨hownX, hn⟩)
                  have hbw := below_at HB5.out HB5.out.size hb
                  clear hown hownX bo bl hlen hpos
                  go_wp2_with fail
                  refine HMX.out.mono ?_
                  rintro e w9 ⟨rfl, rfl⟩
                  go_wp2
                  go_ret3
                  exact ⟨_, ret3 HR.out.2.2.symm HR.out.1.symm, HOX.out, hbw⟩
      · have h2' : inB k 1 16 = false := by simpa using h2
        have HR := Lib.hid (show okJ ts k = false ∧ outJ ts k = [] ∧ spanJ ts k = 0 by
          have : okJ ts k = false := by rw [okJ_form, ha, h2']; simp
          simp [outJ, spanJ, this])
        have H2 := Lib.hid h2'
        clear ha h2 h2'
        go_enter Try.func34, Try.ntmps34
        go_wp2_with fail
        refine (HV.out _ (hr.alloc _)).mono ?_
        rintro e w1 ⟨rfl, hb1⟩
        have hb2 := below_step HB0.out hb1
        go_wp2_with (first | (go_at_call 57; refine (ins.impl_any _ _ _ _).mono ?_; rintro e w' ⟨rfl, rfl⟩; rw [H2.out]) | go_in)
        go_ret3
        exact ⟨_, ret3 HR.out.2.2.symm HR.out.1.symm, ⟨by rw [HR.out.2.1]; exact World.ownsRow_nil _ _ _ _, by rw [HR.out.2.1]; simp⟩, hb2⟩
  · have HR := Lib.hid (show okJ ts k = false ∧ outJ ts k = [] ∧ spanJ ts k = 0 by
      have : okJ ts k = false := by rw [okJ_form]; simp [h64]
      simp [outJ, spanJ, this])
    have q64 : (64 : Int) < (ts.length : Int) := by omega
    go_enter Try.func34, Try.ntmps34
    go_wp2
    go_ret3
    exact ⟨_, ret3 HR.out.2.2.symm HR.out.1.symm, ⟨by rw [HR.out.2.1]; exact World.ownsRow_nil _ _ _ _, by rw [HR.out.2.1]; simp⟩, HB0.out⟩
end Go.Proofs.Ytfjmpplpagmpbaa.jobLaw
