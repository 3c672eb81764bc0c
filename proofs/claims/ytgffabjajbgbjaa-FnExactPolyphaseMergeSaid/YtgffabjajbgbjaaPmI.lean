/- PolyphaseMerge, the program's. Condition: at most 2^20 runs, of at most 2^20 records each. -/
import Derived.Test.YtgffabjajbgbjaaPmA
import Derived.Test.YtgffabjajbgbjaaDummies
import Derived.Test.YtgffabjajbgbjaaPasI
import Derived.Test.YtgffabjajbgbjaaCopy
set_option linter.unusedVariables false
set_option linter.unusedSimpArgs false
namespace Go.Proofs.Ytgffabjajbgbjaa.pm
open Go.RowKit Go.Proofs.Ytgffabjajbgbjaa.mem Go.Proofs.Ytgffabjajbgbjaa.nest Go.Proofs.Ytgffabjajbgbjaa.tape Go.Proofs.Ytgffabjajbgbjaa.qlaw Go.Proofs.Ytgffabjajbgbjaa.ply Go.Proofs.Ytgffabjajbgbjaa.stb Go.Proofs.Ytgffabjajbgbjaa.level Go.Proofs.Ytgffabjajbgbjaa.dummies Go.Proofs.Ytgffabjajbgbjaa.phs Go.Proofs.Ytgffabjajbgbjaa.dists
open Go.Proofs.Ytgffabjajbgbjaa.vol (rl dl sum_le2 lens)
open Go.Proofs.Ytgffabjajbgbjaa.ins (inB inB_iff)
open Go.Proofs.Ytgffabjajbgbjaa.tn (KAsc)

theorem info_rss : (Try.prog.info? 47).map (fun i => (i.zero, i.size, i.bytes)) = some (some (.slice none 0 0), 1, 24) := by kernel_rfl
theorem rws_rep (n : Nat) : rws ((List.replicate n zr).map Prod.fst) = List.replicate n nil1 := by
  simp [rws, zr, Row.val, nil1]
/-- the last run -/
def lastR (u : Nat) (rs : List LR) : LR := (phn mg wt (qm u rs, (0 : Int)) (lev u rs.length)).1.flatten.headD []
def movedR (u : Nat) (rs : List LR) : Int := (phn mg wt (qm u rs, (0 : Int)) (lev u rs.length)).2
theorem tot_flat : ∀ Q : QS Int, vol.tot Q = Q.flatten.sum
  | [] => rfl
  | q :: Q => by
    have ih := tot_flat Q
    unfold vol.tot at ih ⊢
    rw [List.map_cons, List.sum_cons, ih, List.flatten_cons, List.sum_append]
theorem last_len {u T L : Nat} {S : QS LR × Int} {b : LR} (hu : 2 ≤ u) (hL : L ≤ 15) (hT : T ≤ 1000) (hG : vol.Good T (proj ln S.1)) (h0 : cnt S.1 = st u L 0) (hf : (phn mg wt S L).1.flatten = [b]) : b.length = T := by
  have h1 := (hG.phn (S := (proj ln S.1, S.2)) hu hL hT (by rw [proj_cnt]; exact h0) L (Nat.le_refl _)).1
  have h2 := phn_proj S L
  rw [← h2] at h1
  have h3 := h1.tt
  simp only at h3
  rw [tot_flat, flat_proj, hf] at h3
  simp [ln] at h3
  omega
theorem grown_any {w w' : World} (hb : Below w.heap.size w w') (row : Option Nat) : w.grownBy w' row := ⟨hb.os, hb.tape, hb.output, hb.size, fun k hk _ => hb.block k hk⟩
/-- the queue's row behind the making of its dummies -/
theorem load_dum {w1 wr : World} {u k D c0 : Nat} {A0 : Option Addr} {vs : List Value} {Q : QS Pr} (hat : At_row w1 wr w1.heap.size (w1.heap.size + 2) w1.heap.size (w1.heap.size + 1) (u + 1) u (DenR w1.heap.size (w1.heap.size + 1) (w1.heap.size + 2)) vs Q 0) (hk : k < u + 1) (hv : vs[k]? = some (.slice A0 0 c0)) (hD : D ≤ 1048576) :
    At_row w1 ((wr.alloc (.cells (rep D nil1) 54)).setCell ⟨w1.heap.size, k, none⟩ (.slice (some ⟨wr.heap.size, 0, none⟩) D D)) w1.heap.size (w1.heap.size + 2) w1.heap.size (w1.heap.size + 1) (u + 1) u (DenR w1.heap.size (w1.heap.size + 1) (w1.heap.size + 2)) (vs.set k (.slice (some ⟨wr.heap.size, 0, none⟩) D D)) (Q.set k (List.replicate D zr)) 0
    ∧ ((wr.alloc (.cells (rep D nil1) 54)).setCell ⟨w1.heap.size, k, none⟩ (.slice (some ⟨wr.heap.size, 0, none⟩) D D)).ownsRow (w1.heap.size + 2) 54 1 (.slice (some ⟨wr.heap.size, 0, none⟩) D D) D (rws ((List.replicate D zr).map Prod.fst))
    ∧ ((wr.alloc (.cells (rep D nil1) 54)).setCell ⟨w1.heap.size, k, none⟩ (.slice (some ⟨wr.heap.size, 0, none⟩) D D)).cell? ⟨w1.heap.size, k, none⟩ = some (.slice (some ⟨wr.heap.size, 0, none⟩) D D)
    ∧ (wr.alloc (.cells (rep D nil1) 54)).frozen? ⟨w1.heap.size, k, none⟩ = false ∧ ∃ u0, (wr.alloc (.cells (rep D nil1) 54)).cell? ⟨w1.heap.size, k, none⟩ = some u0 := by
  have hbw : w1.heap.size + 2 ≤ wr.heap.size := by have := hat.box.lt; omega
  have ho : (wr.alloc (.cells (rep D nil1) 54)).ownsRow (w1.heap.size + 2) 54 1 (.slice (some ⟨wr.heap.size, 0, none⟩) D D) D (rws ((List.replicate D zr).map Prod.fst)) := by
    have := Blk.own (base := w1.heap.size + 2) (size := 1) (n := D) (c := D) (Blk.new wr 54 (rep D nil1)) hbw (Nat.le_refl _) (by unfold maxLen; omega) (by simp [rep])
    rw [rws_rep]
    simpa [rep] using this
  have hkv : k < vs.length := (List.getElem?_eq_some_iff.1 hv).1
  have hN := fill hat (xv := .slice A0 0 c0) (x' := .slice (some ⟨wr.heap.size, 0, none⟩) D D) (q := List.replicate D zr) (by omega) (by omega) (by omega) (Nat.le_refl _) (by omega) hk hv (Tp.of_own ho) (grown_any ((Below.refl _ _).alloc (Nat.le_refl _) _) _) (fun g hg => Or.inr (by simp [Value.ownBlock] at hg; omega)) (fun y hy => by
    obtain rfl := List.eq_of_mem_replicate hy
    exact DenR.nil _ _ _ _)
  have htk := own_below hat.top ((Below.refl wr.heap.size wr).alloc (Nat.le_refl _) (.cells (rep D nil1) 54))
  exact ⟨hN, own_far ho (p := ⟨w1.heap.size, k, none⟩) (by simp [Value.ownBlock]; omega) _, own_cell hN.top (by simp [hkv]), own_thaw htk k, _, own_cell htk hv⟩
set_option maxRecDepth 100000 in
set_option maxHeartbeats 8000000 in
theorem pm_ok (u : Nat) (A : Option Addr) (c : Nat) (Z : List Pr) (w : World) (hu : 2 ≤ u) (hu2 : u ≤ 7) (hn1 : 1 ≤ Z.length) (hn2 : Z.length ≤ 40) (hnc : Z.length ≤ c) (hcm : c ≤ maxLen)
    (hT : tn.tot (Z.map Prod.snd) ≤ 64) (hasc : ∀ r ∈ Z.map Prod.snd, KAsc r) (hrd : Rd w 1 A Z.length (rws (Z.map Prod.fst))) (hz : ∀ p ∈ Z, DenA w p.1 p.2)
    (hcan : ∀ W, Calls Try.prog 52 #[.int .i64 ((u : Int) + 1)] W fun e w' => e = .returned (.bool true) ∧ W = w')
    (hin : ∀ W, Calls Try.prog 53 #[.int .i64 (Z.length : Int), .int .i64 1, .int .i64 40] W fun e w' => e = .returned (.bool true) ∧ W = w')
    (hli : Calls Try.prog 78 #[.slice A Z.length c] w fun e w' => e = .returned (.bool true) ∧ Below w.heap.size w w') :
    Calls Try.prog 46 #[.slice A Z.length c, .int .i64 ((u : Int) + 1)] w fun e w' => ∃ v, e = .returned (.tuple #[v, .int .i64 (movedR u (Z.map Prod.snd)), .bool true]) ∧ w'.ownsRow w.heap.size 87 2 v (lastR u (Z.map Prod.snd)).length (recs (lastR u (Z.map Prod.snd))) ∧ Below w.heap.size w w' := by
  have hL : (Z.map Prod.snd).length = Z.length := List.length_map _
  obtain ⟨n, hn⟩ : ∃ n, n = Z.length := ⟨_, rfl⟩
  have HN := Lib.hid hn
  rw [← hn] at hn1 hn2 hnc hrd hin hli ⊢
  clear hn
  unfold maxLen at hcm
  have HRES := Lib.hid (show movedR u (Z.map Prod.snd) = (phn mg wt (qm u (Z.map Prod.snd), (0 : Int)) (lev u n)).2 ∧ lastR u (Z.map Prod.snd) = (phn mg wt (qm u (Z.map Prod.snd), (0 : Int)) (lev u n)).1.flatten.headD [] by rw [movedR, lastR, hL, ← HN.out]; exact ⟨rfl, rfl⟩)
  have HCAN := Lib.hid hcan
  have HIN := Lib.hid hin
  have HLI := Lib.hid hli
  have HD := Lib.hid (fun W => dummies.impl_dum u n W hu hu2 (by omega))
  have HLV := Lib.hid (dumLaw.exists_lev (r := n) hu hu2 (by omega))
  have HDL := Lib.hid (dum_len (r := n) hu)
  have HRD := Lib.hid hrd
  have HZ := Lib.hid hz
  have hmk : ∀ W : World, (Instr.makeSlice 79 (.int .i64 ((u : Int) + 1)) (.int .i64 ((u : Int) + 1))).run Try.prog W = .ok (.slice (some ⟨W.heap.size, 0, none⟩) (u + 1) (u + 1)) (W.alloc (.cells (rep (u + 1) nil1) 47)) := fun W => by
    have := make_rep (P := Try.prog) 79 47 nil1 24 Try.underlying79 info_rss rfl (u + 1) (by omega) (by unfold maxLen; omega) W
    rwa [show ((u + 1 : Nat) : Int) = (u : Int) + 1 by omega] at this
  clear hcan hin hli hrd hz
  go_enter Try.func46, Try.ntmps46
  go_wp2_with fail
  (with_reducible refine (HCAN.out _).mono ?_)
  rintro e w0 ⟨rfl, rfl⟩
  go_wp2_with fail
  (with_reducible refine (HIN.out _).mono ?_)
  rintro e w0 ⟨rfl, rfl⟩
  go_wp2_with fail
  (with_reducible refine HLI.out.mono ?_)
  rintro e w0 ⟨rfl, hb0⟩
  go_wp2_with fail
  (with_reducible refine (HD.out _).mono ?_)
  rintro e w1 ⟨v, x, rfl, hov, hox, _, hb1⟩
  obtain ⟨AR, cR, rfl, _, _, hrR⟩ := own_form hov
  obtain ⟨AD, cD, rfl, _, _, hrD⟩ := own_form hox
  have HRR := Lib.hid (show Rd w1 1 AR (dum u n).1.length (ints (dum u n).1) by rw [HDL.out.1]; exact hrR)
  have HRD2 := Lib.hid (show Rd w1 1 AD (dum u n).2.length (ints (dum u n).2) by rw [HDL.out.2]; exact hrD)
  have hbb := below_step hb0 hb1
  have HARG := Lib.hid (show Rd w1 1 A n (rws (Z.map Prod.fst)) from HRD.out.below hbb)
  have HZ1 := Lib.hid (fun (W : World) (hb : Below w1.heap.size w1 W) (p : Pr) (hp : p ∈ Z) => den_arg ((HZ.out p hp).below hbb) hb)
  have HB1 := Lib.hid hbb
  clear hov hox hrR hrD hb0 hb1 hbb
  have HAZ := Lib.hid (at_zero w1 u Z hu2)
  have hcm0 := (box2 w1 47 3 (rep (u + 1) nil1) #[.int .i64 0]).2.1.cell 0
  have hfm := (box2 w1 47 3 (rep (u + 1) nil1) #[.int .i64 0]).2.1.thaw 0
  go_wp2
  clear hcm0 hfm
  go_loopg [0, 39] (u + 1) (fun f a i wr => ∃ (k : Nat) (vs : List Value) (A' : Option Addr) (c' : Nat), u < k + f ∧ k ≤ u ∧ i = .int .i64 (k : Int) ∧ a = .slice A' (n - off u n k) c' ∧ n - off u n k ≤ c' ∧ c' ≤ maxLen ∧ Rd w1 1 A' (n - off u n k) (rws ((Z.drop (off u n k)).map Prod.fst)) ∧ At_row w1 wr w1.heap.size (w1.heap.size + 2) w1.heap.size (w1.heap.size + 1) (u + 1) u (DenR w1.heap.size (w1.heap.size + 1) (w1.heap.size + 2)) vs (filZ u Z k) 0)
  case atStart => exact ⟨0, _, A, c, by omega, by omega, rfl, rfl, by omega, by unfold maxLen; omega, HARG.out, HAZ.out⟩
  case round =>
    obtain ⟨k, vs, A', c', hkf, hk, rfl, rfl, hc1, hc2, hra, hat⟩ := hrel
    by_cases hlt : k < u
    · have q1 : (k : Int) < (u : Int) := by omega
      have q9 : (k : Int) < (u : Int) + 1 := by omega
      have hkd : k < (dum u n).2.length := by rw [HDL.out.2]; exact hlt
      have hkr : k < (dum u n).1.length := by rw [HDL.out.1]; exact hlt
      have HLN := Lib.hid (lens hu hu2 (show n ≤ 1000 by omega) k)
      obtain ⟨bD, oD, rfl, cD0⟩ := HRD2.out.int hkd
      obtain ⟨bR, oR, rfl, cR0⟩ := HRR.out.int hkr
      rw [← getD_in _ hkd, ← HLN.out.1] at cD0
      rw [← getD_in _ hkr, ← HLN.out.2.1] at cR0
      have hbd := (sum_le2 hu hu2 (show n ≤ 1000 by omega) k)
      have hof := off_le hu hu2 (show n ≤ 1000 by omega) hlt
      have HOF := Lib.hid (show off u n (k + 1) = off u n k + rl u n k from rfl)
      have HCZ := Lib.hid (show colZ u Z k = List.replicate (dl u n k) zr ++ (Z.drop (off u n k)).take (rl u n k) by rw [colZ, ← HN.out])
      have HSC := Lib.hid (fun q => filZ_step u Z (i := k) (by omega) q)
      obtain ⟨A0, c0, hvk, _, _, _, hcell⟩ := hat.at (show k < u + 1 by omega)
      rw [filZ_at u Z k (by omega), if_neg (by omega)] at hvk hcell
      generalize off u n k = o at hc1 hra hof HCZ HOF ⊢
      generalize dl u n k = D at cD0 HLN HCZ hbd
      generalize rl u n k = R at cR0 HLN HCZ hbd hof HOF
      have cD1 := cells_below hat.bel cD0
      have HCR := Lib.hid cR0
      obtain ⟨h8, ho8, hc8, hf8, u0, hu8⟩ := load_dum hat (show k < u + 1 by omega) hvk (show D ≤ 1048576 by omega)
      have cR8 := cells_below h8.bel cR0
      have hmk2 : ∀ W : World, (Instr.makeSlice 47 (.int .i64 (D : Int)) (.int .i64 (D : Int))).run Try.prog W = .ok (.slice (some ⟨W.heap.size, 0, none⟩) D D) (W.alloc (.cells (rep D nil1) 54)) := fun W => make_rep (P := Try.prog) 47 54 nil1 24 Try.underlying47 info_row rfl D (by omega) (by unfold maxLen; omega) W
      have hru := fun W => run_upto (P := Try.prog) 47 54 _ 1 24 Try.underlying47 info_row A' (n - o) c' R (R : Int) rfl (by omega) W
      rw [cutA_zero] at hru
      have hrf := fun W => run_from (P := Try.prog) 47 54 _ 1 24 Try.underlying47 info_row A' (n - o) c' R (R : Int) rfl (by omega) W
      have HRA := Lib.hid hra
      have H8 := Lib.hid h8
      have HO8 := Lib.hid ho8
      have HBW := Lib.hid (show w1.heap.size + 2 ≤ wr.heap.size by have := hat.box.lt; omega)
      clear hat hra h8 ho8 cR0 cD0 hkd hkr hcell
      have HRX := Lib.hid (show ∀ W, Below w1.heap.size w1 W → Rd W 1 A' R (rws (((Z.drop o).take R).map Prod.fst)) from fun W hb => by
        have h1 := (HRA.out.below hb).cut_at (k := 0) (m := R) (cap := c') (by omega) hc1
        rw [cutA_zero] at h1
        simpa [rws, List.map_take, Nat.mul_one] using h1)
      have hh1 : D + R ≤ 1099511627776 := by omega
      obtain ⟨W8, hW8⟩ : ∃ W8, W8 = (wr.alloc (.cells (rep D nil1) 54)).setCell ⟨w1.heap.size, k, none⟩ (.slice (some ⟨wr.heap.size, 0, none⟩) D D) := ⟨_, rfl⟩
      rw [← hW8] at hc8 cR8 H8 HO8
      have HBW8 := Lib.hid (show w1.heap.size + 2 ≤ W8.heap.size by rw [hW8]; simp [World.setCell]; have := HBW.out; omega)
      have hrx := HRX.out W8 H8.out.bel
      have hkv : k < vs.length := (List.getElem?_eq_some_iff.1 hvk).1
      have HKV := Lib.hid (show (vs.set k (.slice (some ⟨wr.heap.size, 0, none⟩) D D))[k]? = some (.slice (some ⟨wr.heap.size, 0, none⟩) D D) by simp [hkv])
      go_upto_region 9 with fail
      rw [← hW8]
      clear hW8 hf8 hu8 hmk2 hmk cD1
      go_wp2_with fail
      go_region_law ((refine mem.step_extend_at W8.drew rfl (.tmp 55) (.tmp 61) 47 rfl (w1.heap.size + 2) 54 nil1 1 24 Try.underlying47 info_row rfl Nat.one_pos (.slice (some ⟨wr.heap.size, 0, none⟩) D D) D (rws ((List.replicate D zr).map Prod.fst)) (by simp [Act.eval, Act.put]) HO8.out A' R c' _ (by simp [Act.eval, Act.put]) hrx (rws_one _) hh1 (by decide) HBW8.out ?_; intro v' w' ho' hg' hnw'; have htk := (show W8.drew.ownsRow _ _ 1 _ _ _ from H8.out.top).kept hg' (H8.out.tl.apt _ (List.mem_of_getElem? HKV.out)); have hcw := own_cell htk HKV.out; have hfw := own_thaw htk k; obtain ⟨A9, c9, rfl, _, _, _⟩ := own_form ho'))
      all_goals
        have h9 := fill (H8.out.below (mrg (w1.heap.size + 1) w1.heap.size (w1.heap.size + 2) (by omega)) (by have := HBW8.out; omega) (show Below W8.heap.size W8 W8.drew from below_drewN (Below.refl _ _) 1)) (by omega) (by omega) (by omega) (Nat.le_refl _) (by have := HBW8.out; show w1.heap.size ≤ W8.heap.size; omega) (show k < u + 1 by omega) (q := colZ u Z k) HKV.out (by rw [HCZ.out, List.map_append, rws_app]; exact Tp.of_own ho') hg' hnw' (by
          intro y hy
          rw [HCZ.out] at hy
          rcases List.mem_append.1 hy with h | h
          · obtain rfl := List.eq_of_mem_replicate h
            exact DenR.nil _ _ _ _
          · exact HZ1.out _ (below_drewN H8.out.bel 1) y (List.mem_of_mem_drop (List.mem_of_mem_take h)))
        rw [HSC.out] at h9
        have cR9 := cells_below h9.bel HCR.out
        have HN9 := Lib.hid h9
        clear h9 ho' hg' hnw' htk hcw hfw hc8 cR8 hrx
        go_wp2
        go_roundg (gk - 1)
        case measure => omega
        case rel =>
          have h1 := (HRA.out).cut_at (k := R) (m := n - o - R) (cap := c') (by omega) hc1
          refine ⟨k + 1, _, cutA A' c' R 1, c' - R, by omega, by omega, by go_num, ?_, ?_, by omega, ?_, HN9.out⟩
          · rw [HOF.out]; congr 1; omega
          · rw [HOF.out]; omega
          · rw [HOF.out, show n - (o + R) = n - o - R by omega]
            have e : ((rws ((Z.drop o).map Prod.fst)).drop (R * 1)).take ((n - o - R) * 1) = rws ((Z.drop (o + R)).map Prod.fst) := by
              rw [Nat.mul_one, Nat.mul_one, List.take_of_length_le (by rw [List.length_drop, len_rws, List.length_map, List.length_drop, ← HN.out]; omega), ← List.drop_drop]
              simp [rws, List.map_drop]
            rw [e] at h1
            exact h1
    · obtain rfl : k = u := by omega
      have q1 : ¬ (k : Int) < (k : Int) := by omega
      have HCQ := Lib.hid (show cnt (qm k (Z.map Prod.snd)) = st k (lev k n) 0 by have := qm_cnt (u := k) (rs := Z.map Prod.snd) hu hu2 (by rw [hL, ← HN.out]; omega); rwa [hL, ← HN.out] at this)
      have hG := qm_good (u := k) (rs := Z.map Prod.snd) hu hu2 (by rw [hL, ← HN.out]; omega)
      have hA := qm_asc (u := k) hasc
      have hb0 : w1.heap.size + 2 ≤ wr.heap.size := by have := hat.box.lt; omega
      have HAA := Lib.hid (show At_row wr wr w1.heap.size (w1.heap.size + 2) w1.heap.size (w1.heap.size + 1) (k + 1) k (DenR w1.heap.size (w1.heap.size + 1) (w1.heap.size + 2)) vs (filZ k Z k) 0 from ⟨hat.tl, hat.den, hat.box, Below.refl _ _, Nat.le_refl _, hat.len⟩)
      have HPP := Lib.hid (poly_row (mrg (w1.heap.size + 1) w1.heap.size (w1.heap.size + 2) (by omega)) (qm k (Z.map Prod.snd), (0 : Int)) (filZ k Z k) vs (k + 1) k (lev k n) wr w1.heap.size hu hu2 HLV.out.2 HCQ.out (filZ_all k Z) (by omega) (by omega) (by omega) hb0 HAA.out (fun i hi j hj => by
        obtain ⟨h1, h2, h3, _⟩ := ok_stt (S := (qm k (Z.map Prod.snd), (0 : Int))) hu HLV.out.2 hT hA hG HCQ.out rfl hi hj
        exact ⟨h1, by omega, by omega⟩))
      have hmf : ∀ (fn : Fn) (first cap : Array Value) (w : World), (Instr.makeFunc fn first cap).run Try.prog w = .ok (.func fn first cap) w := fun _ _ _ _ => rfl
      have HBW := Lib.hid (below_step HB1.out hat.bel)
      have hs1 := HB1.out.size
      clear hat hra
      go_wp2_with fail
      (with_reducible refine HPP.out.mono ?_)
      rintro e w3 ⟨d, b, rfl, hdr, hfl, hbx, hb3⟩
      have hcm := hbx.cell 0
      have hb4 := HBW.out.trans (hb3.mono HB1.out.size)
      have hs4 := hb4.size
      have hLR : lastR k (Z.map Prod.snd) = b := by rw [HRES.out.2, hfl]; rfl
      have HF := Lib.hid (And.intro hLR HRES.out.1)
      clear hLR
      have hbl : b.length ≤ 1048576 := by
        have := last_len hu HLV.out.2 (show tn.tot (Z.map Prod.snd) ≤ 1000 by omega) hG HCQ.out hfl
        omega
      obtain ⟨d1, d2, d3⟩ := d
      have hd2 : d2 = b.length := hdr.len
      have HCP := Lib.hid (fun (W : World) (hb : Below w3.heap.size w3 W) => show Calls Try.prog 85 #[.slice d1 d2 d3] W fun e w' => ∃ v, e = .returned v ∧ w'.ownsRow W.heap.size 87 2 v b.length (recs b) ∧ Below W.heap.size W w' by
        rw [hd2]; exact copies.rec_any d1 d3 b W hbl (hdr.rd.below hb))
      have HBX := Lib.hid hbx
      have HB4 := Lib.hid hb4
      clear hdr hb3 hb4 hbx
      go_wp2_with fail
      go_region_law (first
        | (refine step_call rfl 85 _ _ rfl (fun _ _ => rfl) (by simp [Act.eval, Act.put, hd2]) (HCP.out w3.drew (below_drewN (Below.refl _ _) 1)) ?_; rintro e w4 ⟨v4, rfl, ho4, hb5⟩; have hc4 := (HBX.out.below (below_drewN (Below.refl _ _) 1 |>.trans hb5) HBX.out.lt).cell 0; refine ⟨_, rfl, ?_⟩))
      all_goals
        have hb6 := HB4.out.trans ((show Below w3.heap.size w3 w4 from (below_drewN (Below.refl _ _) 1).trans hb5).mono hs4)
        have HO4 := Lib.hid (own_base ho4 (show w.heap.size ≤ w3.drew.heap.size from hs4))
        clear ho4 hb5
        go_wp2
        go_ret3
        exact ⟨v4, by rw [HF.out.2]; rfl, by rw [HF.out.1]; exact HO4.out, hb6⟩
def okPM (rs : List LR) (t : Int) : Bool := inB t 3 8 && (inB (rs.length : Int) 1 40 && pas.okRs rs)
def resL (rs : List LR) (t : Int) : LR := if okPM rs t = true then lastR (t.toNat - 1) rs else []
def resM (rs : List LR) (t : Int) : Int := if okPM rs t = true then movedR (t.toNat - 1) rs else 0
theorem pm_neg {rs : List LR} {t : Int} (h : okPM rs t = false) : resL rs t = [] ∧ resM rs t = 0 := by simp [resL, resM, h]
theorem pm_nat {rs : List LR} {t : Int} (h : okPM rs t = true) : ∃ u : Nat, (2 ≤ u ∧ u ≤ 7) ∧ (1 ≤ rs.length ∧ rs.length ≤ 40) ∧ pas.okRs rs = true ∧ t = (u : Int) + 1 ∧ resL rs t = lastR u rs ∧ resM rs t = movedR u rs := by
  have h2 := h
  simp only [okPM, Bool.and_eq_true, inB_iff] at h2
  obtain ⟨⟨h3, h4⟩, ⟨h5, h6⟩, h7⟩ := h2
  have e : t.toNat - 1 + 1 = t.toNat := by omega
  refine ⟨t.toNat - 1, by omega, by omega, h7, by omega, ?_, ?_⟩
  · rw [resL, if_pos h]
  · rw [resM, if_pos h]
theorem okRs_asc {rs : List LR} (h : pas.okRs rs = true) : ∀ r ∈ rs, KAsc r := fun r hr => by
  have := pas.okRs_mem h r hr
  simp only [ascr.okR, Bool.and_eq_true] at this
  exact ascr.asc_pair this.2
/-- the last run: its length is the runs' total -/
theorem phn_last {u : Nat} {rs : List LR} (hu : 2 ≤ u) (hu2 : u ≤ 7) (hn1 : 1 ≤ rs.length) (hn2 : rs.length ≤ 40) : (phn mg wt (qm u rs, (0 : Int)) (lev u rs.length)).1.flatten = [lastR u rs] ∧ cnt (phn mg wt (qm u rs, (0 : Int)) (lev u rs.length)).1 = st u (lev u rs.length) (lev u rs.length) := by
  have hL := dumLaw.exists_lev (r := rs.length) hu hu2 (by omega)
  have hC := qm_cnt (u := u) (rs := rs) hu hu2 (by omega)
  have h1 := phn_cnt mg wt hu hL.2 (S := (qm u rs, (0 : Int))) hC (lev u rs.length) (Nat.le_refl _)
  refine ⟨?_, h1⟩
  have h2 : (st u (lev u rs.length) (lev u rs.length)).sum = 1 := by rw [st_sum hu hL.2 (Nat.le_refl _), Nat.sub_self, sum_zero]
  have h3 : ∀ Q : QS LR, (cnt Q).sum = ((Q.flatten.length : Nat) : Int) := by
    intro Q
    induction Q with
    | nil => rfl
    | cons q Q ih =>
      unfold cnt at ih ⊢
      rw [List.map_cons, List.sum_cons, ih, List.flatten_cons, List.length_append]
      omega
  have h4 := h3 (phn mg wt (qm u rs, (0 : Int)) (lev u rs.length)).1
  rw [h1, h2] at h4
  unfold lastR
  cases hc : (phn mg wt (qm u rs, (0 : Int)) (lev u rs.length)).1.flatten with
  | nil => rw [hc] at h4; simp at h4
  | cons x q =>
    rw [hc] at h4
    cases q with
    | nil => rfl
    | cons y q => simp only [List.length_cons] at h4; omega
theorem lastR_len {u : Nat} {rs : List LR} (hu : 2 ≤ u) (hu2 : u ≤ 7) (hn1 : 1 ≤ rs.length) (hn2 : rs.length ≤ 40) (hT : tn.tot rs ≤ 64) : (lastR u rs).length = tn.tot rs :=
  last_len (S := (qm u rs, (0 : Int))) hu (dumLaw.exists_lev (r := rs.length) hu hu2 (by omega)).2 (by omega) (qm_good hu hu2 (by omega)) (qm_cnt hu hu2 (by omega)) (phn_last hu hu2 hn1 hn2).1
theorem resL_len (rs : List LR) (t : Int) : (resL rs t).length ≤ 64 := by
  cases h : okPM rs t with
  | false => rw [(pm_neg h).1]; simp
  | true =>
    obtain ⟨u, ⟨h1, h2⟩, ⟨h3, h4⟩, h5, _, h6, _⟩ := pm_nat h
    have hT := pas.okRs_tot h5
    rw [h6, lastR_len h1 h2 h3 h4 hT]; exact hT
set_option maxHeartbeats 400000 in
theorem isTapes_any (t : Int) (w : World) : Calls Try.prog 52 #[.int .i64 t] w fun e w' => e = .returned (.bool (inB t 3 8)) ∧ w = w' := by
  go_enter Try.func52, Try.ntmps52
  go_wp2_with (first | (go_at_call 53; refine (ins.impl_any _ _ _ _).mono ?_; rintro e w' ⟨rfl, rfl⟩) | go_in)
  go_ret
  exact ⟨rfl, rfl⟩
set_option maxRecDepth 100000 in
set_option maxHeartbeats 2000000 in
theorem pm_impl (A : Option Addr) (c : Nat) (vs : List Value) (rs : List LR) (t : Int) (w : World) (hk : rs.length + tn.tot rs ≤ 1048576) (hnc : rs.length ≤ c) (hcm : c ≤ maxLen) (hr : RdL_rec w A vs rs) :
    Calls Try.prog 46 #[.slice A rs.length c, .int .i64 t] w fun e w' => ∃ v, e = .returned (.tuple #[v, .int .i64 (resM rs t), .bool (okPM rs t)]) ∧ w'.ownsRow w.heap.size 87 2 v (resL rs t).length (recs (resL rs t)) ∧ Below w.heap.size w w' := by
  have HL := Lib.hid (pas.lists_any A c vs rs w (by omega) (fun r h => by have := tn.mem_tot h; omega) hr)
  have HT := Lib.hid (fun W => isTapes_any t W)
  have HI := Lib.hid (fun W => ins.impl_any (rs.length : Int) 1 40 W)
  cases ht : inB t 3 8 with
  | false =>
    have hok : okPM rs t = false := by rw [okPM, ht, Bool.false_and]
    have HR := Lib.hid (And.intro hok (pm_neg hok))
    rw [ht] at HT
    clear ht hok
    go_enter Try.func46, Try.ntmps46
    go_wp2_with fail
    (with_reducible refine (HT.out _).mono ?_)
    rintro e w1 ⟨rfl, rfl⟩
    go_wp2
    go_ret3
    exact ⟨_, by rw [HR.out.1, HR.out.2.2]; rfl, by rw [HR.out.2.1]; exact World.ownsRow_nil _ _ _ _, Below.refl _ _⟩
  | true =>
    cases hi : inB (rs.length : Int) 1 40 with
    | false =>
      have hok : okPM rs t = false := by rw [okPM, hi, Bool.false_and, Bool.and_false]
      have HR := Lib.hid (And.intro hok (pm_neg hok))
      rw [ht] at HT
      rw [hi] at HI
      clear ht hi hok
      go_enter Try.func46, Try.ntmps46
      go_wp2_with fail
      (with_reducible refine (HT.out _).mono ?_)
      rintro e w1 ⟨rfl, rfl⟩
      go_wp2_with fail
      (with_reducible refine (HI.out _).mono ?_)
      rintro e w1 ⟨rfl, rfl⟩
      go_wp2
      go_ret3
      exact ⟨_, by rw [HR.out.1, HR.out.2.2]; rfl, by rw [HR.out.2.1]; exact World.ownsRow_nil _ _ _ _, Below.refl _ _⟩
    | true =>
      cases hv : pas.okRs rs with
      | false =>
        have hok : okPM rs t = false := by rw [okPM, hv, Bool.and_false, Bool.and_false]
        have HR := Lib.hid (And.intro hok (pm_neg hok))
        rw [ht] at HT
        rw [hi] at HI
        rw [hv] at HL
        clear ht hi hok hv
        go_enter Try.func46, Try.ntmps46
        go_wp2_with fail
        (with_reducible refine (HT.out _).mono ?_)
        rintro e w1 ⟨rfl, rfl⟩
        go_wp2_with fail
        (with_reducible refine (HI.out _).mono ?_)
        rintro e w1 ⟨rfl, rfl⟩
        go_wp2_with fail
        (with_reducible refine HL.out.mono ?_)
        rintro e w1 ⟨rfl, hb1⟩
        go_wp2
        go_ret3
        exact ⟨_, by rw [HR.out.1, HR.out.2.2]; rfl, by rw [HR.out.2.1]; exact World.ownsRow_nil _ _ _ _, hb1⟩
      | true =>
        have hok : okPM rs t = true := by rw [okPM, ht, hi, hv]; rfl
        obtain ⟨u, ⟨hu, hu2⟩, ⟨hn1, hn2⟩, _, rfl, e1, e2⟩ := pm_nat hok
        have hT := pas.okRs_tot hv
        have hA := okRs_asc hv
        rw [hok, e1, e2]
        rw [ht] at HT
        rw [hi] at HI
        rw [hv] at HL
        obtain ⟨Z, rfl, rfl, hz⟩ := get_rows hr
        have hl : (Z.map Prod.snd).length = Z.length := List.length_map _
        rw [hl] at hn1 hn2 hnc HL HI ⊢
        exact pm_ok u A c Z w hu hu2 hn1 hn2 hnc hcm hT hA (by have := hr.1; rwa [hl] at this) hz HT.out HI.out HL.out
end Go.Proofs.Ytgffabjajbgbjaa.pm
