/- PolyphaseVolume, the reference's. No condition. -/
import Derived.Test.YtgffabjajbgbjaaVolI
import Derived.Deep.DeepCutAuto
import Derived.Deep.CutBlock
set_option linter.unusedVariables false
set_option linter.unusedSimpArgs false
namespace Go.Proofs.Ytgffabjajbgbjaa.vol
open Go.RowKit Go.Proofs.Ytgffabjajbgbjaa.mem Go.Proofs.Ytgffabjajbgbjaa.nest Go.Proofs.Ytgffabjajbgbjaa.tape Go.Proofs.Ytgffabjajbgbjaa.qlaw Go.Proofs.Ytgffabjajbgbjaa.ply Go.Proofs.Ytgffabjajbgbjaa.level Go.Proofs.Ytgffabjajbgbjaa.dummies Go.Proofs.Ytgffabjajbgbjaa.phs Go.Proofs.Ytgffabjajbgbjaa.dists Go.Proofs.Ytgffabjajbgbjaa.phases

theorem one_sl (A : Option Addr) (n c : Nat) : ∀ u ∈ [Value.slice A n c], u.oneCell' = true := by
  intro u hu; obtain rfl := List.mem_singleton.1 hu; rfl
/-- the state between two merges -/
structure Qs (w W : World) (b0 go co u : Nat) (vs : List Value) (Q : QS Int) : Prop where
  tl : TL W b0 b0 3 22 (.slice (some ⟨go, 0, none⟩) (u + 1) co) vs (Q.map ints)
  bel : Below b0 w W
  sz : w.heap.size ≤ W.heap.size
  len : Q.length = u + 1
section
variable {w W W' : World} {b0 go co u : Nat} {vs : List Value} {Q : QS Int}
theorem Qs.below (h : Qs w W b0 go co u vs Q) (hw : b0 ≤ W.heap.size) (hb : Below W.heap.size W W') : Qs w W' b0 go co u vs Q :=
  ⟨h.tl.below hb, below_at h.bel hw hb, Nat.le_trans h.sz hb.size, h.len⟩
theorem Qs.vl (h : Qs w W b0 go co u vs Q) : vs.length = u + 1 := by rw [h.tl.len, List.length_map, h.len]
theorem Qs.top (h : Qs w W b0 go co u vs Q) : W.ownsRow b0 22 1 (.slice (some ⟨go, 0, none⟩) (u + 1) co) (u + 1) vs := by
  have ht := h.tl.top
  rwa [h.vl] at ht
theorem Qs.dat (h : Qs w W b0 go co u vs Q) {i : Nat} (hi : i < u + 1) : (Q.map ints)[i]? = some (ints (Q.getD i [])) := by
  have hi2 : i < Q.length := by rw [h.len]; exact hi
  rw [List.getElem?_map, List.getElem?_eq_getElem hi2, getD_getElem Q hi2]; rfl
theorem Qs.at (h : Qs w W b0 go co u vs Q) {i : Nat} (hi : i < u + 1) : ∃ A c, vs[i]? = some (.slice A (Q.getD i []).length c) ∧ (Q.getD i []).length ≤ c ∧ c ≤ maxLen ∧ Tp W b0 3 (.slice A (Q.getD i []).length c) (ints (Q.getD i [])) ∧ W.cell? ⟨go, i, none⟩ = some (.slice A (Q.getD i []).length c) := by
  have hi2 : i < Q.length := by rw [h.len]; exact hi
  have hd := h.dat hi
  have hi3 : i < (Q.map ints).length := by rw [List.length_map]; exact hi2
  obtain ⟨A, c, h1, h2, h3, h4⟩ := h.tl.at hi3
  have he : (Q.map ints)[i] = ints (Q.getD i []) := by
    rw [List.getElem?_eq_getElem hi3] at hd; exact Option.some.inj hd
  have hl : ((Q.map ints)[i]).length = (Q.getD i []).length := by rw [he, len_ints]
  rw [he, len_ints] at h4
  rw [hl] at h1 h2
  exact ⟨A, c, h1, h2, h3, h4, own_cell h.top h1⟩
theorem Qs.tail (h : Qs w W b0 go co u vs Q) (hb0 : b0 ≤ go) {i : Nat} (hi : i < u + 1) {A : Option Addr} {d : Nat} {x : Int} {q : List Int} (hx : vs[i]? = some (.slice A (q.length + 1) d)) (hq : Q.getD i [] = x :: q) :
    Qs w (W.setCell ⟨go, i, none⟩ (.slice (cutA A d 1 1) q.length (d - 1))) b0 go co u (vs.set i (.slice (cutA A d 1 1) q.length (d - 1))) (Q.set i q) := by
  have hd := h.dat hi
  rw [hq] at hd
  refine ⟨?_, h.bel.setCell (p := ⟨go, i, none⟩) hb0 _, by simpa [World.setCell] using h.sz, by rw [List.length_set]; exact h.len⟩
  rw [List.map_set]
  have := h.tl.tail (q := ints q) hx hd
  exact this
theorem Qs.push (h : Qs w W b0 go co u vs Q) (hb0 : b0 ≤ go) (hw : b0 ≤ W.heap.size) {i : Nat} (hi : i < u + 1) {xv x' : Value} {z : Int} (hx : vs[i]? = some xv)
    (ho : Tp W' b0 3 x' (ints (Q.getD i []) ++ ints [z])) (hg : W.grownBy W' xv.ownBlock) (hn : NewAt W xv x') :
    Qs w (W'.setCell ⟨go, i, none⟩ x') b0 go co u (vs.set i x') (Q.set i (Q.getD i [] ++ [z])) := by
  have hi3 : i < (Q.map ints).length := by rw [List.length_map, h.len]; exact hi
  have hlow : ∀ k, xv.ownBlock = some k → b0 ≤ k := fun k hk => (h.tl.lt.2 xv (List.mem_of_getElem? hx) k hk).1
  refine ⟨?_, (below_grown h.bel hw hg hlow).setCell (p := ⟨go, i, none⟩) hb0 _, Nat.le_trans h.sz (by have := hg.size; simpa [World.setCell] using this), by rw [List.length_set]; exact h.len⟩
  rw [List.map_set, ints_app]
  exact h.tl.put hx hi3 ho hg hn
end
theorem cols_step (u r k : Nat) : ((List.range (k + 1)).map fun i => ints (col u r i)) = ((List.range k).map fun i => ints (col u r i)) ++ [ints (col u r k)] := by
  rw [List.range_succ, List.map_append]; rfl
theorem cols_all (u r : Nat) : ((List.range u).map fun i => ints (col u r i)) ++ [[]] = (q0 u r).map ints := by
  rw [q0, List.map_append, List.map_map]; rfl
theorem heads_le {r : Nat} {Q : QS Int} (h : Good r Q) (te : Nat) {i : Nat} (hi : i ≤ Q.length) : 0 ≤ (hds te Q i).sum ∧ (hds te Q i).sum ≤ r := by
  have h1 := h.nn.hds te i
  have h2 := sum_nn h1
  have h3 := tot_nn (h.nn.tls te i)
  have h4 := tot_tls te Q i hi
  have h5 := h.tt
  omega
set_option maxRecDepth 100000 in
set_option maxHeartbeats 8000000 in
theorem vol_spec (t r : Int) (w : World) : Calls Try.prog 37 #[.int .i64 t, .int .i64 r] w fun e w' => e = .returned (.tuple #[.int .i64 (resP t r), .int .i64 (resM t r), .bool (can t r)]) ∧ Below w.heap.size w w' := by
  cases hc : can t r with
  | false =>
    have HR := Lib.hid (show resP t r = 0 ∧ resM t r = 0 by simp [resP, resM, hc])
    have HC := Lib.hid (level.spec_can t r w)
    rw [hc] at HC
    clear hc
    go_enter Try.func37, Try.ntmps37
    go_wp2_with fail
    refine HC.out.mono ?_
    rintro e w1 ⟨rfl, rfl⟩
    go_wp2
    go_ret3
    exact ⟨by rw [HR.out.1, HR.out.2]; rfl, Below.refl _ _⟩
  | true =>
    have HCAN := Lib.hid (level.spec_can t r w)
    rw [hc] at HCAN
    obtain ⟨u, n, ⟨hu, hu2⟩, ⟨hn1, hn2⟩, rfl, rfl⟩ := level.can_nat hc
    have HR := Lib.hid (show resP ((u : Int) + 1) (n : Int) = (lev u n : Int) ∧ resM ((u : Int) + 1) (n : Int) = (phn List.sum List.sum (q0 u n, (0 : Int)) (lev u n)).2 by
      rw [resP, resM, if_pos hc, if_pos hc, show ((u : Int) + 1).toNat - 1 = u by omega, Int.toNat_natCast]; exact ⟨rfl, rfl⟩)
    have HD := Lib.hid (dummies.spec_dum u n w hu hu2 hn2)
    have HLV := Lib.hid (dumLaw.exists_lev hu hu2 hn2)
    have HDL := Lib.hid (dum_len (r := n) hu)
    clear hc
    go_enter Try.func37, Try.ntmps37
    go_wp2_with fail
    refine HCAN.out.mono ?_
    rintro e w1 ⟨rfl, rfl⟩
    go_wp2_with fail
    (with_reducible refine HD.out.mono ?_)
    rintro e w1 ⟨v, x, rfl, hov, hox, _, hb1⟩
    obtain ⟨AR, cR, rfl, _, _, hrR⟩ := own_form hov
    obtain ⟨AD, cD, rfl, _, _, hrD⟩ := own_form hox
    have HRR := Lib.hid (show Rd w1 1 AR (dum u n).1.length (ints (dum u n).1) by rw [HDL.out.1]; exact hrR)
    have HRD := Lib.hid (show Rd w1 1 AD (dum u n).2.length (ints (dum u n).2) by rw [HDL.out.2]; exact hrD)
    clear hov hox HD hrR hrD
    have HT0 := Lib.hid (show TL (w1.alloc (.cells #[] 22)) w1.heap.size w1.heap.size 3 22 (.slice (some ⟨w1.heap.size, 0, none⟩) 0 0) [] ((List.range 0).map fun i => ints (col u n i)) from
      ⟨World.ownsRow_made (base := w1.heap.size) (e := 22) (size := 1) w1 #[] 0 (Nat.le_refl _) (Nat.zero_le _) (by simp), rfl, fun i x q hx => by simp at hx, fun i j v u _ hv => by simp at hv, fun u hu => by simp at hu⟩)
    have HM0 := Lib.hid ((Below.refl w1.heap.size w1).alloc (Nat.le_refl _) (.cells #[] 22))
    have HB1 := Lib.hid hb1
    clear hb1
    go_wp2
    go_loopg [9, 10] (u + 1) (fun f v i wr => ∃ (k : Nat) (vs : List Value), u < k + f ∧ k ≤ u ∧ i = .int .i64 (k : Int) ∧ TL wr w1.heap.size w1.heap.size 3 22 v vs ((List.range k).map fun i => ints (col u n i)) ∧ Below w1.heap.size w1 wr)
    case atStart => exact ⟨0, _, by omega, by omega, rfl, HT0.out, HM0.out⟩
    case round =>
      obtain ⟨k, vs, hkf, hk, rfl, htl, hb⟩ := hrel
      have hvl : vs.length = k := by rw [htl.len]; simp
      by_cases hlt : k < u
      · have q1 : (k : Int) < (u : Int) := by omega
        have hkd : k < (dum u n).2.length := by rw [HDL.out.2]; exact hlt
        have hkr : k < (dum u n).1.length := by rw [HDL.out.1]; exact hlt
        have HLN := Lib.hid (lens hu hu2 hn2 k)
        obtain ⟨bD, oD, rfl, cD0⟩ := HRD.out.int hkd
        obtain ⟨bR, oR, rfl, cR0⟩ := HRR.out.int hkr
        rw [← getD_in _ hkd, ← HLN.out.1] at cD0
        rw [← getD_in _ hkr, ← HLN.out.2.1] at cR0
        have hbd := (sum_le2 hu hu2 hn2 k)
        have HCD := Lib.hid (cells_below hb cD0)
        have HCR := Lib.hid (cells_below hb cR0)
        clear cD0 cR0 hkd hkr
        obtain ⟨gO, hgO⟩ : ∃ gO, gO = gk := ⟨_, rfl⟩
        have HGO := Lib.hid (And.intro hkf hgO)
        have HCS := Lib.hid (cols_step u n k)
        have HCL := Lib.hid (show col u n k = List.replicate (dl u n k) 0 ++ List.replicate (rl u n k) 1 from rfl)
        have HVL := Lib.hid hvl
        have HTL := Lib.hid htl
        have HB := Lib.hid hb
        have HQ0 := Lib.hid (show (wr.alloc (.cells #[] 3)).ownsRow wr.heap.size 3 1 (.slice (some ⟨wr.heap.size, 0, none⟩) 0 0) 0 (ints (List.replicate 0 0)) from World.ownsRow_made (e := 3) (size := 1) wr #[] 0 (Nat.le_refl _) (Nat.zero_le _) (by simp))
        have HQB := Lib.hid ((Below.refl wr.heap.size wr).alloc (Nat.le_refl _) (.cells #[] 3))
        generalize dl u n k = D at HCD HLN HCL hbd
        generalize rl u n k = R at HCR HLN HCL hbd
        clear hkf hgO hvl htl hb
        obtain ⟨wa, hwa⟩ : ∃ wa : World, wa = wr := ⟨_, rfl⟩
        rw [← hwa] at HCD HCR HTL HB HQ0 HQB ⊢
        clear hwa
        go_wp2
        go_loopg [11, 12] (D + 1) (fun f q j wr => ∃ jj : Nat, D < jj + f ∧ jj ≤ D ∧ j = .int .i64 (jj : Int) ∧ wr.ownsRow wa.heap.size 3 1 q jj (ints (List.replicate jj 0)) ∧ Below wa.heap.size wa wr)
        case atStart => exact ⟨0, by omega, by omega, rfl, HQ0.out, HQB.out⟩
        case round =>
          obtain ⟨jj, hjf, hj, rfl, hq, hb⟩ := hrel
          have cD1 := cells_below hb HCD.out
          by_cases hjl : jj < D
          · have q2 : (jj : Int) < (D : Int) := by omega
            obtain ⟨A, c, rfl, _, _, _⟩ := own_form hq
            have hh : jj ≤ 1099511627776 := by omega
            have hbw := hb.size
            go_wp2_with (at_builtin; refine mem.push_at _ rfl _ _ 22 rfl wa.heap.size 3 _ 1 8 Try.underlying22 mem.info_int rfl Nat.one_pos (.slice A jj c) _ _ rfl hq (ints [(0 : Int)]) _ rfl (mem.ints_one [(0 : Int)]) rfl hh (by decide) hbw ?_; intro v' w' ho' hg' hnw')
            have hb2 := below_push hb hbw hg' hq
            clear hq hb hg' hnw' cD1
            go_wp2
            go_roundg (gk - 1)
            case measure => omega
            case rel => exact ⟨jj + 1, by omega, by omega, by go_num, by rw [List.replicate_succ', ints_app]; exact ho', hb2⟩
          · obtain rfl : jj = D := by omega
            have q2 : ¬ (jj : Int) < (jj : Int) := by omega
            have HQ1 := Lib.hid (show wr.ownsRow wa.heap.size 3 1 _ (jj + 0) (ints (List.replicate jj 0 ++ List.replicate 0 1)) by rw [List.replicate_zero, List.append_nil]; exact hq)
            have HB2 := Lib.hid hb
            clear hq hb
            go_wp2
            go_loopg [11, 13] (R + 1) (fun f q j wr => ∃ m : Nat, R < m + f ∧ m ≤ R ∧ j = .int .i64 (m : Int) ∧ wr.ownsRow wa.heap.size 3 1 q (jj + m) (ints (List.replicate jj 0 ++ List.replicate m 1)) ∧ Below wa.heap.size wa wr)
            case atStart => exact ⟨0, by omega, by omega, rfl, HQ1.out, HB2.out⟩
            case round =>
              obtain ⟨m, hmf, hm, rfl, hq, hb⟩ := hrel
              have cR1 := cells_below hb HCR.out
              have hbw := hb.size
              by_cases hml : m < R
              · have q2 : (m : Int) < (R : Int) := by omega
                obtain ⟨A, c, rfl, _, _, _⟩ := own_form hq
                have hh : jj + m ≤ 1099511627776 := by omega
                go_wp2_with (at_builtin; refine mem.push_at _ rfl _ _ 22 rfl wa.heap.size 3 _ 1 8 Try.underlying22 mem.info_int rfl Nat.one_pos (.slice A (jj + m) c) _ _ rfl hq (ints [(1 : Int)]) _ rfl (mem.ints_one [(1 : Int)]) rfl hh (by decide) hbw ?_; intro v' w' ho' hg' hnw')
                have hb2 := below_push hb hbw hg' hq
                clear hq hb hg' hnw' cR1
                go_wp2
                go_roundg (gk - 1)
                case measure => omega
                case rel => exact ⟨m + 1, by omega, by omega, by go_num, by rw [List.replicate_succ', ← List.append_assoc, ints_app (_ ++ _)]; exact ho', hb2⟩
              · obtain rfl : m = R := by omega
                have q2 : ¬ (m : Int) < (m : Int) := by omega
                rw [← HCL.out] at hq
                obtain ⟨A, c, rfl, _, _, _⟩ := own_form hq
                have htl := HTL.out.below hb
                have htop := htl.top
                rw [HVL.out] at htop
                have hbb := HB.out.size
                have HTP := Lib.hid (Tp.of_own (own_base hq hbb))
                have HAP := Lib.hid (show Apt _ (.slice A (jj + m) c) ∧ ∀ x ∈ vs, Apt (.slice A (jj + m) c) x from ⟨apt_symm (apt_above (own_ge hq) (fun g hg => (HTL.out.lt.1 g hg).2)), fun x hx => apt_above (own_ge hq) (fun g hg => (HTL.out.lt.2 x hx g hg).2)⟩)
                have hb3 := HB.out.trans (hb.mono hbb)
                have hs3 : w1.heap.size ≤ wr.heap.size := Nat.le_trans hbb hbw
                have hk9 : k ≤ 1099511627776 := by omega
                clear hq hb
                go_wp2_with (at_builtin; refine mem.push_at _ rfl _ _ 36 rfl w1.heap.size 22 _ 1 24 Try.underlying36 info_row2 rfl Nat.one_pos _ _ _ rfl htop [.slice A (jj + m) c] _ rfl (one_sl _ _ _) rfl hk9 (by decide) hs3 ?_; intro v' w' ho' hg' hnw')
                have HN := Lib.hid (htl.push HTP.out HAP.out.1 HAP.out.2 (by rw [HVL.out]; exact ho') hg' hnw')
                have HBN := Lib.hid (below_grown hb3 hs3 hg' (fun g hg => (htl.lt.1 g hg).1))
                clear ho' hg' hnw' htl htop cR1 hb3
                go_wp2
                go_roundg (gO - 1)
                case measure => have := HGO.out; omega
                case rel => exact ⟨k + 1, _, by have := HGO.out; omega, by omega, by go_num, by rw [HCS.out]; exact HN.out, HBN.out⟩
      · obtain rfl : k = u := by omega
        have q1 : ¬ (k : Int) < (k : Int) := by omega
        have HTL := Lib.hid htl
        have hsz := hb.size
        have HVL := Lib.hid hvl
        have htl2 := htl.alloc (.cells #[] 3)
        have htop := htl2.top
        rw [hvl] at htop
        have HB := Lib.hid (hb.alloc hsz (.cells #[] 3))
        have HX := Lib.hid (show Tp (wr.alloc (.cells #[] 3)) w1.heap.size 3 (.slice (some ⟨wr.heap.size, 0, none⟩) 0 0) [] from Tp.of_own (own_base (World.ownsRow_made (base := wr.heap.size) (e := 3) (size := 1) wr #[] 0 (Nat.le_refl _) (Nat.zero_le _) (by simp)) hsz))
        have hge : ∀ g, (Value.slice (some ⟨wr.heap.size, 0, none⟩) 0 0).ownBlock = some g → wr.heap.size ≤ g := fun g hg => by simp [Value.ownBlock] at hg; omega
        have HAP := Lib.hid (show Apt _ (.slice (some ⟨wr.heap.size, 0, none⟩) 0 0) ∧ ∀ x ∈ vs, Apt (.slice (some ⟨wr.heap.size, 0, none⟩) 0 0) x from ⟨apt_symm (apt_above hge (fun g hg => (htl.lt.1 g hg).2)), fun x hx => apt_above hge (fun g hg => (htl.lt.2 x hx g hg).2)⟩)
        have HSZ := Lib.hid (show (wr.alloc (.cells #[] 3)).heap.size = wr.heap.size + 1 by simp)
        have hs3 := HB.out.size
        have hk9 : k ≤ 1099511627776 := by omega
        clear htl hvl hb hge
        go_upto_region 20 with (at_builtin; rw [← HSZ.out]; refine mem.push_at _ rfl _ _ 36 rfl w1.heap.size 22 _ 1 24 Try.underlying36 info_row2 rfl Nat.one_pos _ _ _ rfl htop [.slice (some ⟨wr.heap.size, 0, none⟩) 0 0] _ rfl (one_sl _ _ _) rfl hk9 (by decide) hs3 ?_; intro v' w' ho' hg' hnw')
        have htl3 := htl2.push HX.out HAP.out.1 HAP.out.2 (by rw [HVL.out]; exact ho') hg' hnw'
        rw [cols_all] at htl3
        obtain ⟨A9, c9, hv9, _, _, _⟩ := own_form (show w'.ownsRow w1.heap.size 22 1 v' (k + 1) _ from ho')
        subst hv9
        obtain ⟨go, rfl, hgo1, hgo2⟩ := own_addr (show w'.ownsRow w1.heap.size 22 1 (.slice A9 (k + 1) c9) (k + 1) _ from ho') (by omega)
        have HQ0 := Lib.hid (show Qs w1 w' w1.heap.size go c9 k (vs ++ [.slice (some ⟨wr.heap.size, 0, none⟩) 0 0]) (q0 k n) from ⟨htl3, below_grown HB.out hs3 hg' (fun g hg => (htl2.lt.1 g hg).1), Nat.le_trans hs3 hg'.size, q0_len k n⟩)
        have HGD := Lib.hid (q0_good hu hu2 hn2)
        have HC0 := Lib.hid (q0_cnt hu hu2 hn2)
        have hL := HLV.out.2
        generalize lev k n = L at HLV HR HC0 hL
        clear htl3 ho' hg' hnw' htl2 htop hs3 HX HAP HTL HB HSZ
        go_loopg [14, 15] (L + 1) (fun f ph mv wr => ∃ (q : Nat) (vs : List Value), L < q + f ∧ q ≤ L ∧ ph = .int .i64 (q : Int) ∧ mv = .int .i64 (phn List.sum List.sum (q0 k n, (0 : Int)) q).2 ∧ Qs w1 wr w1.heap.size go c9 k vs (phn List.sum List.sum (q0 k n, (0 : Int)) q).1)
        case atStart => exact ⟨0, _, by omega, by omega, rfl, rfl, HQ0.out⟩
        case round =>
          obtain ⟨q, vs, hqf, hq, rfl, rfl, hat⟩ := hrel
          have HAT := Lib.hid hat
          have HCQ := Lib.hid (phn_cnt List.sum List.sum (S := (q0 k n, (0 : Int))) hu hL HC0.out q hq)
          have HGQ := Lib.hid (HGD.out.phn (S := (q0 k n, (0 : Int))) hu hL hn2 HC0.out q hq)
          have hsz := hat.sz
          have hQl := hat.len
          obtain ⟨gO, hgO⟩ : ∃ gO, gO = gk := ⟨_, rfl⟩
          have HGO := Lib.hid (And.intro hqf hgO)
          have HK0 := Lib.hid (World.ownsRow_made (e := 3) (size := 1) wr #[] 0 (Nat.le_refl _) (Nat.zero_le _) (by simp))
          have HKB := Lib.hid ((Below.refl wr.heap.size wr).alloc (Nat.le_refl _) (.cells #[] 3))
          have HQE := Lib.hid (show stt List.sum List.sum k L (q0 k n, (0 : Int)) q 0 = phn List.sum List.sum (q0 k n, (0 : Int)) q from rfl)
          clear hqf hgO hat
          obtain ⟨wa, hwa⟩ : ∃ wa : World, wa = wr := ⟨_, rfl⟩
          rw [← hwa] at HK0 HKB HAT hsz ⊢
          clear hwa
          obtain ⟨mv, hmv⟩ : ∃ mv, mv = (phn List.sum List.sum (q0 k n, (0 : Int)) q).2 := ⟨_, rfl⟩
          rw [← hmv] at HGQ ⊢
          have HMV := Lib.hid hmv
          clear hmv
          go_wp2
          go_loopg [16, 17] (k + 2) (fun f v i wr => ∃ i' : Nat, k + 1 < i' + f ∧ i' ≤ k + 1 ∧ i = .int .i64 (i' : Int) ∧ wr.ownsRow wa.heap.size 3 1 v i' (ints ((cnt (phn List.sum List.sum (q0 k n, (0 : Int)) q).1).take i')) ∧ Below wa.heap.size wa wr)
          case atStart => exact ⟨0, by omega, by omega, rfl, HK0.out, HKB.out⟩
          case round =>
            obtain ⟨i, hif, hi, rfl, hov, hb⟩ := hrel
            have hbs := hb.size
            by_cases hlt : i < k + 1
            · have q1 : (i : Int) < (k : Int) + 1 := by omega
              obtain ⟨A, c, _, hc1, hc2, _, hcell⟩ := (HAT.out.below (by omega) hb).at hlt
              have HCT := Lib.hid (cnt_take (phn List.sum List.sum (q0 k n, (0 : Int)) q).1 (i := i) (by omega))
              have hlen : ((phn List.sum List.sum (q0 k n, (0 : Int)) q).1.getD i []).length ≤ 32768 := by
                have h1 := cnt_at (phn List.sum List.sum (q0 k n, (0 : Int)) q).1 i
                rw [HCQ.out] at h1
                have h2 := st_bd hu hL hq i
                omega
              generalize ((phn List.sum List.sum (q0 k n, (0 : Int)) q).1.getD i []).length = l at hcell hc1 HCT hlen
              obtain ⟨A1, c1, rfl, hc3, hc4, _⟩ := own_form hov
              have hh : i ≤ 1099511627776 := by omega
              go_wp2_with (at_builtin; refine mem.push_at _ rfl _ _ 22 rfl wa.heap.size 3 _ 1 8 Try.underlying22 mem.info_int rfl Nat.one_pos (.slice A1 i c1) _ _ rfl hov (ints [(l : Int)]) _ rfl (mem.ints_one [(l : Int)]) rfl hh (by decide) hbs ?_; intro v' w' ho' hg' hnw')
              have hb2 := below_push hb hbs hg' hov
              go_wp2
              go_roundg (gk - 1)
              case measure => omega
              case rel => exact ⟨i + 1, by omega, by omega, by go_num, by rw [HCT.out, ints_app]; exact ho', hb2⟩
            · obtain rfl : i = k + 1 := by omega
              have hcl : (st k L q).length = k + 1 := st_len hu hL hq
              have hcq : (cnt (phn List.sum List.sum (q0 k n, (0 : Int)) q).1).take (k + 1) = st k L q := by rw [HCQ.out]; exact List.take_of_length_le (by omega)
              rw [hcq] at hov
              have HA1 := Lib.hid (HAT.out.below (by omega) hb)
              obtain ⟨A7, c7, rfl, _, _, hr7⟩ := own_form hov
              have hr7' := hr7
              rw [← hcl] at hr7'
              have HTD := Lib.hid (st_tidy hu hL hq)
              have HSUM := Lib.hid (sums.spec_any A7 c7 (st k L q) wr (by omega) (perfect.small_of HTD.out) hr7')
              have HEM := Lib.hid (fun W (h : Rd W 1 A7 (st k L q).length (ints (st k L q))) => spec_empty A7 c7 (st k L q) W (by omega) h)
              have HPH := Lib.hid (fun (ha : able (st k L q) = true) => spec_phase A7 c7 (st k L q) wr (by omega) HTD.out ha hr7')
              have HEM1 := Lib.hid (HEM.out wr hr7')
              rw [hcl] at HSUM HPH HEM1
              have HMO := Lib.hid (st_more hu hL hq)
              have HS0 := Lib.hid (show q = L → (st k L q).sum = 1 from fun e => by rw [st_sum hu hL hq, e, Nat.sub_self, sum_zero])
              clear hr7 hr7' hov hcq HK0 HKB HAT HEM
              have hsz1 : w1.heap.size ≤ wr.heap.size := Nat.le_trans hsz hbs
              clear hb hbs
              obtain ⟨wb, hwb⟩ : ∃ wb : World, wb = wr := ⟨_, rfl⟩
              rw [← hwb] at HA1 HSUM HPH HEM1 hsz1 ⊢
              clear hwb hcl
              go_wp2_with fail
              (with_reducible refine HSUM.out.mono ?_)
              rintro e w2 ⟨rfl, rfl⟩
              by_cases hkL : q < L
              · have hsum : 1 < (st k L q).sum := HMO.out.2 hkL
                have HAB := Lib.hid (ph_st hu hL hkL)
                have HNX := Lib.hid (show (nxt (st k L q)).length = k + 1 ∧ (nxt (st k L q)).getD (toOf (st k L q)) 0 = (manyOf (st k L q) : Int) from by
                  have h1 := HAB.out.ez
                  have h2 := st_len hu hL hq
                  refine ⟨by rw [nxt_len, h2], ?_⟩
                  rw [nxt_at _ h1.2, if_pos h1.1.symm, HAB.out.mz])
                have HEZ := Lib.hid (show emp (st k L q) = (toOf (st k L q) : Int) by rw [emp, if_pos HAB.out.able, HAB.out.ez.1])
                have hsn : ¬ (st k L q).sum = 1 := by omega
                have hsb : ((st k L q).sum == 1) = false := by simpa using hsn
                have HPH2 := Lib.hid (HPH.out HAB.out.able)
                rw [HNX.out.1] at HPH2
                rw [HEZ.out] at HEM1
                generalize (st k L q).sum = sm at hsum hsn hsb ⊢
                go_wp2_with fail
                (with_reducible refine HEM1.out.mono ?_)
                rintro e w2 ⟨rfl, rfl⟩
                go_wp2_with fail
                (with_reducible refine HPH2.out.mono ?_)
                rintro e w3 ⟨v3, rfl, ho3, hb3⟩
                obtain ⟨A8, c8, rfl, _, _, _⟩ := own_form ho3
                obtain ⟨g8, rfl, _, _⟩ := own_addr ho3 (by omega)
                have hte0 := to_lt hu hL hkL
                have hx8 := own_cell ho3 (mem.ints_getD (nxt (st k L q)) (toOf (st k L q)) (by rw [HNX.out.1]; exact hte0))
                rw [HNX.out.2] at hx8
                have HA2 := Lib.hid (show Qs w1 w3 w1.heap.size go c9 k vs (stt List.sum List.sum k L (q0 k n, (0 : Int)) q 0).1 from HA1.out.below hsz1 hb3)
                have HSTP := Lib.hid (fun j => show stt List.sum List.sum k L (q0 k n, (0 : Int)) q (j + 1) = ms List.sum List.sum (toOf (st k L q)) (stt List.sum List.sum k L (q0 k n, (0 : Int)) q j) from rfl)
                have HNE := Lib.hid (fun (j : Nat) (hj : j < manyOf (st k L q)) (i : Nat) (hi : i < k + 1) (hne : i ≠ toOf (st k L q)) => stt_ne (mg := List.sum) (wt := List.sum) (S0 := (q0 k n, (0 : Int))) hu hL HC0.out hkL hj hi hne)
                have HCN := Lib.hid (fun (j : Nat) (hj : j < manyOf (st k L q)) (i : Nat) (hi : i < k + 1) => stt_cnt (mg := List.sum) (wt := List.sum) (S0 := (q0 k n, (0 : Int))) hu hL HC0.out hkL (Nat.le_of_lt hj) hi)
                have HBD := Lib.hid (fun i => st_bd hu hL (Nat.le_of_lt hkL) i)
                have HALL := Lib.hid (stt_all (mg := List.sum) (wt := List.sum) (S0 := (q0 k n, (0 : Int))) hu hL HC0.out hkL)
                have HGS := Lib.hid (fun (j : Nat) (hj : j ≤ manyOf (st k L q)) => HGD.out.stt (S := (q0 k n, (0 : Int))) hu hL hn2 HC0.out hkL j hj)
                have HTO := Lib.hid hte0
                have hmb := many_le hu hL hkL
                clear HPH HPH2 HSUM HEM1 HAB HNX HEZ HMO HS0 HTD hsum hsn hsb HA1 hQl ho3 hb3
                generalize toOf (st k L q) = te at HTO HNE HCN HSTP hte0 hx8 ⊢
                generalize manyOf (st k L q) = mm at HNE HCN HALL HGS hmb hx8 ⊢
                go_wp2
                go_loopg [15, 19] (mm + 1) (fun f mv i wr => ∃ (j : Nat) (vs : List Value), mm < j + f ∧ j ≤ mm ∧ mv = .int .i64 (stt List.sum List.sum k L (q0 k n, (0 : Int)) q j).2 ∧ i = .int .i64 ((mm : Int) - j) ∧ Qs w1 wr w1.heap.size go c9 k vs (stt List.sum List.sum k L (q0 k n, (0 : Int)) q j).1)
                case atStart => exact ⟨0, vs, by omega, by omega, by rw [HMV.out]; rfl, by simp, HA2.out⟩
                case round =>
                  obtain ⟨j, vs, hjf, hj, rfl, rfl, hat⟩ := hrel
                  obtain ⟨S, hS⟩ : ∃ S, S = stt List.sum List.sum k L (q0 k n, (0 : Int)) q j := ⟨_, rfl⟩
                  rw [← hS] at hat ⊢
                  have HS := Lib.hid hS
                  have hgs := HGS.out j hj
                  rw [← hS] at hgs
                  have hg2 : (0 : Int) ≤ S.2 ∧ S.2 ≤ 0 + 524288000 := hgs.2
                  have HGD2 := Lib.hid hgs.1
                  clear hS hgs
                  by_cases hjlt : j < mm
                  · have q2 : (0 : Int) < (mm : Int) - (j : Int) := by omega
                    have HNEj := Lib.hid (fun (i : Nat) (hi : i < k + 1) (hne : i ≠ te) => show (S.1.getD i []) ≠ [] from by rw [HS.out]; exact HNE.out j hjlt i hi hne)
                    have HLNj := Lib.hid (fun (i : Nat) (hi : i < k + 1) => show (S.1.getD i []).length ≤ 65536 from by
                      have h1 := HCN.out j hjlt i hi
                      have h2 := HBD.out i
                      rw [← HS.out, cnt_at] at h1
                      split at h1 <;> omega)
                    have HHL := Lib.hid (fun (i : Nat) (hi : i ≤ k + 1) => heads_le HGD2.out te (i := i) (by rw [hat.len]; exact hi))
                    have hQl := hat.len
                    have HAj := Lib.hid hat
                    obtain ⟨gj, hgj⟩ : ∃ gj, gj = gk := ⟨_, rfl⟩
                    have HGJ := Lib.hid (And.intro hjf hgj)
                    clear hat hjf hgj
                    obtain ⟨mj, hmj⟩ : ∃ mj, mj = S.2 := ⟨_, rfl⟩
                    rw [← hmj] at hg2 ⊢
                    have HMJ := Lib.hid hmj
                    clear hmj
                    go_wp2
                    go_loopg [20, 21] (k + 2) (fun f sz i wr => ∃ (i' : Nat) (vs : List Value), k + 1 < i' + f ∧ i' ≤ k + 1 ∧ i = .int .i64 (i' : Int) ∧ sz = .int .i64 (hds te S.1 i').sum ∧ Qs w1 wr w1.heap.size go c9 k vs (tls te S.1 i'))
                    case atStart => exact ⟨0, vs, by omega, by omega, rfl, rfl, HAj.out⟩
                    case round =>
                      obtain ⟨i, vs, hif, hi, rfl, rfl, hat⟩ := hrel
                      have hhl := HHL.out i hi
                      obtain ⟨hs, hhs⟩ : ∃ hs, hs = (hds te S.1 i).sum := ⟨_, rfl⟩
                      rw [← hhs] at hhl ⊢
                      have HHS := Lib.hid hhs
                      clear hhs
                      by_cases hlt : i < k + 1
                      · have q3 : (i : Int) < (k : Int) + 1 := by omega
                        by_cases hie : i = te
                        · have HAT3 := Lib.hid (show Qs w1 wr w1.heap.size go c9 k vs (tls te S.1 (i + 1)) by rw [tls_same hie]; exact hat)
                          have HHN := Lib.hid (show hs = (hds te S.1 (i + 1)).sum by rw [hds_same hie]; exact HHS.out)
                          clear hat
                          subst hie
                          go_wp2
                          go_roundg (gk - 1)
                          case measure => omega
                          case rel => exact ⟨i + 1, _, by omega, by omega, by go_num, by rw [HHN.out], HAT3.out⟩
                        · obtain ⟨A, c, hvi, hc1, hc2, htp, hcell⟩ := hat.at hlt
                          rw [tls_here te S.1 (by omega)] at hvi hc1 htp hcell
                          obtain ⟨x, qr, hxq⟩ : ∃ x qr, S.1.getD i [] = x :: qr := by
                            cases hq : S.1.getD i [] with
                            | nil => exact absurd hq (HNEj.out i hlt hie)
                            | cons x qr => exact ⟨x, qr, rfl⟩
                          have HH := Lib.hid (hds_more hie hxq)
                          have HT := Lib.hid (tls_more hie hxq)
                          have hql := HLNj.out i hlt
                          have hh2 := HHL.out (i + 1) (by omega)
                          rw [HH.out, List.sum_append, ← HHS.out] at hh2
                          simp only [List.sum_cons, List.sum_nil] at hh2
                          rw [hxq] at hvi hc1 htp hcell hql
                          simp only [List.length_cons] at hvi hc1 htp hcell hql
                          obtain ⟨g, o, rfl, hq1, hq2, hq3, hhd, hbg⟩ := Tp.head (show Tp wr w1.heap.size 3 (.slice A (qr.length + 1) c) (_ :: ints qr) from htp)
                          clear hq1 hq2 hq3
                          have hfz := own_thaw hat.top i
                          have hie2 : ¬ (i : Int) = (te : Int) := by omega
                          have q4 : ((i : Int) == (te : Int)) = false := by simpa using hie2
                          have hru := fun W => run_from (P := Try.prog) 22 3 _ 1 8 Try.underlying22 mem.info_int (some ⟨g, o, none⟩) (qr.length + 1) c 1 (1 : Int) rfl (by omega) W
                          have HN := Lib.hid (hat.tail hgo1 hlt hvi (by rw [tls_here te S.1 (by omega)]; exact hxq))
                          have HHN := Lib.hid (show hs + x = (hds te S.1 (i + 1)).sum by rw [HH.out, List.sum_append, ← HHS.out]; simp)
                          clear hat hvi htp hie hxq
                          go_wp2
                          go_roundg (gk - 1)
                          case measure => omega
                          case rel => exact ⟨i + 1, _, by omega, by omega, by go_num, by rw [← HHN.out], by rw [HT.out]; exact HN.out⟩
                      · obtain rfl : i = k + 1 := by omega
                        have q3 : ¬ ((k : Int) + 1) < (k : Int) + 1 := by omega
                        have hhq : (tls te S.1 (k + 1)).getD te [] = S.1.getD te [] := by
                          rw [tls_at te S.1 (k + 1) (by omega), if_neg (fun h => h.2 rfl)]
                        obtain ⟨qt, hqt⟩ : ∃ qt, qt = S.1.getD te [] := ⟨_, rfl⟩
                        rw [← hqt] at hhq
                        obtain ⟨A, c, hvi, hc1, hc2, htp, hcell⟩ := hat.at HTO.out
                        rw [hhq] at hvi hc1 htp hcell
                        have hql := HLNj.out te HTO.out
                        rw [← hqt] at hql
                        have HQT := Lib.hid hqt
                        have HHQ := Lib.hid hhq
                        clear hqt hhq
                        have q5 : (te : Int) < (k : Int) + 1 := by omega
                        have hbw : w1.heap.size ≤ wr.heap.size := hat.sz
                        have hgl2 : (ints qt).length ≤ 1099511627776 := by rw [len_ints]; omega
                        go_wp2_with (at_builtin; refine tape.push_tp _ rfl _ _ 22 rfl w1.heap.size 3 _ 8 Try.underlying22 mem.info_int rfl (.slice A qt.length c) (ints qt) rfl htp _ rfl (.int .i64 hs) _ rfl rfl hgl2 (by decide) hbw ?_; intro v' w' ho' hg' hnw'; have htk := hat.top.kept hg' (hat.tl.apt _ (List.mem_of_getElem? hvi)); have hcw := own_cell htk hvi; have hfw := own_thaw htk te; obtain ⟨A', c', hve, hf1, hf2, hf3⟩ := ho'.form; rw [List.length_append, len_ints, List.length_singleton] at hve; clear hf1 hf2 hf3; subst hve)
                        have hp := hat.push hgo1 hbw HTO.out (z := hs) hvi (by rw [HHQ.out]; exact ho') hg' hnw'
                        rw [HHQ.out] at hp
                        have hs1 : (tls te S.1 (k + 1)).set te (qt ++ [hs]) = (stt List.sum List.sum k L (q0 k n, (0 : Int)) q (j + 1)).1 := by
                          rw [HSTP.out j, ← HS.out, HQT.out, HHS.out]
                          show _ = one List.sum te S.1
                          rw [one, hQl]
                        have hs2 : mj + hs = (stt List.sum List.sum k L (q0 k n, (0 : Int)) q (j + 1)).2 := by
                          rw [HSTP.out j, ← HS.out, HMJ.out, HHS.out]
                          show _ = S.2 + (hds te S.1 S.1.length).sum
                          rw [hQl]
                        rw [hs1] at hp
                        have HN := Lib.hid hp
                        have HM2 := Lib.hid hs2
                        clear hp hs1 hs2 hat ho' hg' hnw' htk hcw hfw hvi htp hcell
                        go_wp2
                        go_roundg (gj - 1)
                        case measure => have := HGJ.out; omega
                        case rel => exact ⟨j + 1, _, by have := HGJ.out; omega, by omega, by rw [HM2.out], by go_num, HN.out⟩
                  · obtain rfl : j = mm := by omega
                    have q2 : ¬ (0 : Int) < (j : Int) - (j : Int) := by omega
                    have HF := Lib.hid (show S.2 = (phn List.sum List.sum (q0 k n, (0 : Int)) (q + 1)).2 ∧ Qs w1 wr w1.heap.size go c9 k vs (phn List.sum List.sum (q0 k n, (0 : Int)) (q + 1)).1 from by
                      have h1 : S = phn List.sum List.sum (q0 k n, (0 : Int)) (q + 1) := HS.out.trans HALL.out
                      rw [← h1]; exact ⟨rfl, hat⟩)
                    clear hat
                    generalize S.2 = mj at HF hg2 ⊢
                    go_wp2
                    go_roundg (gO - 1)
                    case measure => have := HGO.out; omega
                    case rel => exact ⟨q + 1, _, by have := HGO.out; omega, by omega, by go_num, by rw [HF.out.1], HF.out.2⟩
              · obtain rfl : q = L := by omega
                have hsum := HS0.out rfl
                rw [hsum]
                have HF := Lib.hid (And.intro HMV.out (HB1.out.trans (HA1.out.bel.mono HB1.out.size)))
                clear hsum
                go_wp2
                go_ret3
                exact ⟨by rw [HR.out.1, HR.out.2, ← HF.out.1]; rfl, HF.out.2⟩
end Go.Proofs.Ytgffabjajbgbjaa.vol
