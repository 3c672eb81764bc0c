/- PolyphaseMerge, the reference's. Condition: runs and records together at most 2^20. -/
import Derived.Test.YtgffabjajbgbjaaPmA
import Derived.Test.YtgffabjajbgbjaaDummies
import Derived.Test.YtgffabjajbgbjaaStabR
import Derived.Test.YtgffabjajbgbjaaPasI
import Derived.Test.YtgffabjajbgbjaaPmI
import Derived.Deep.DeepCutAuto
import Derived.Deep.CutBlock
set_option linter.unusedVariables false
set_option linter.unusedSimpArgs false
/-! The reference's l18Merge and l18Load. Condition: 1 to 40 runs, at most 64 records in all. -/
namespace Go.Proofs.Ytgffabjajbgbjaa.pm
open Go.RowKit Go.Proofs.Ytgffabjajbgbjaa.mem Go.Proofs.Ytgffabjajbgbjaa.nest Go.Proofs.Ytgffabjajbgbjaa.tape Go.Proofs.Ytgffabjajbgbjaa.qlaw Go.Proofs.Ytgffabjajbgbjaa.ply Go.Proofs.Ytgffabjajbgbjaa.stb Go.Proofs.Ytgffabjajbgbjaa.level Go.Proofs.Ytgffabjajbgbjaa.dummies Go.Proofs.Ytgffabjajbgbjaa.phs Go.Proofs.Ytgffabjajbgbjaa.dists
open Go.Proofs.Ytgffabjajbgbjaa.vol (rl dl sum_le2 lens)
open Go.Proofs.Ytgffabjajbgbjaa.tn (KAsc ltR)

theorem info_rsp : (Try.prog.info? 47).map (fun i => (i.zero, i.size, i.bytes)) = some (some (.slice none 0 0), 1, 24) := by kernel_rfl
theorem one_v (A : Option Addr) (n c : Nat) : ∀ u ∈ [Value.slice A n c], u.oneCell' = true := by
  intro u hu; obtain rfl := List.mem_singleton.1 hu; rfl
theorem flat_le (rs : List LR) (k : Nat) : ((rs.take k).flatten).length ≤ tn.tot rs := by
  have h1 : ((rs.take k).flatten).length = tn.tot (rs.take k) := by rw [List.length_flatten]; rfl
  rw [h1]
  have := tn.tot_cut rs k
  omega
set_option maxRecDepth 100000 in
set_option maxHeartbeats 2000000 in
theorem merge_spec (A : Option Addr) (c : Nat) (vs : List Value) (rs : List LR) (w : World) (hn : rs.length ≤ 1048576) (ht : tn.tot rs ≤ 1048576) (hr : RdL_rec w A vs rs) :
    Calls Try.prog 94 #[.slice A rs.length c] w fun e w' => ∃ v, e = .returned v ∧ w'.ownsRow w.heap.size 87 2 v (mg rs).length (recs (mg rs)) ∧ Below w.heap.size w w' := by
  have HO1 := Lib.hid (World.ownsRow_made (base := w.heap.size) (e := 87) (size := 2) w #[] 0 (Nat.le_refl _) (Nat.zero_le _) (by simp))
  have HB1 := Lib.hid ((Below.refl w.heap.size w).alloc (Nat.le_refl _) (.cells #[] 87))
  go_enter Try.func94, Try.ntmps94
  go_wp2
  go_loopg [3, 4] (rs.length + 1) (fun f o x wr => ∃ i : Nat, rs.length < i + f ∧ i ≤ rs.length ∧ x = .int .i64 (i : Int) ∧ wr.ownsRow w.heap.size 87 2 o ((rs.take i).flatten).length (recs ((rs.take i).flatten)) ∧ Below w.heap.size w wr)
  case atStart => exact ⟨0, by omega, by omega, rfl, HO1.out, HB1.out⟩
  case round =>
    obtain ⟨i, hif, hi, rfl, ho, hb⟩ := hrel
    have hbs := hb.size
    have hfl := flat_le rs i
    obtain ⟨A1, c1, rfl, _, _, hra⟩ := own_form ho
    by_cases hlt : i < rs.length
    · have q1 : (i : Int) < (rs.length : Int) := by omega
      have HFS := Lib.hid (show (rs.take (i + 1)).flatten = (rs.take i).flatten ++ rs[i] by rw [List.take_succ_eq_append_getElem hlt, List.flatten_append]; simp)
      have hfl2 := flat_le rs (i + 1)
      rw [HFS.out, List.length_append] at hfl2
      obtain ⟨b, off, rfl, Ar, cr, hcell, hrc, hcm, hrr⟩ := (hr.below hb).cell (i := i) hlt
      generalize rs[i] = r at hcell hrc hrr HFS hfl2
      generalize ((rs.take i).flatten) = F at ho HFS hfl hfl2 hra ⊢
      have hh : F.length + r.length ≤ 1099511627776 := by omega
      go_wp2_with (at_builtin; refine mem.extend _ rfl _ _ 54 rfl w.heap.size 87 _ 2 16 Try.underlying54 mem.info_rec rfl (by decide) _ _ _ rfl ho _ _ _ _ rfl hrr (mem.recs_one r) hh (by decide) hbs ?_; intro v' w' ho' hg')
      have hb2 := below_push hb hbs hg' ho
      have HF := Lib.hid (show w'.ownsRow w.heap.size 87 2 v' ((rs.take (i + 1)).flatten).length (recs ((rs.take (i + 1)).flatten)) by rw [HFS.out, List.length_append, recs_app]; exact ho')
      clear ho' hg' ho hra hb
      go_wp2
      go_roundg (gk - 1)
      case measure => omega
      case rel => exact ⟨i + 1, by omega, by omega, by go_num, HF.out, hb2⟩
    · have hir : rs.take i = rs := List.take_of_length_le (by omega)
      rw [hir] at ho hra hfl ⊢
      have HS := Lib.hid (stabR.spec_stable A1 c1 rs.flatten wr (by omega) hra)
      have HLN := Lib.hid (show (mg rs).length = rs.flatten.length ∧ mg rs = stab ltR rs.flatten from ⟨stab_len _, rfl⟩)
      have HB := Lib.hid hb
      clear ho hra hb hir hfl
      generalize rs.flatten = FL at HS HLN ⊢
      go_wp2_with fail
      (with_reducible refine HS.out.mono ?_)
      rintro e w2 ⟨v2, rfl, ho2, hb2⟩
      have hb3 := below_at HB.out hbs hb2
      have HO2 := Lib.hid (own_base ho2 hbs)
      clear ho2
      go_wp2
      go_ret
      exact ⟨v2, rfl, by rw [HLN.out.1, HLN.out.2]; exact HO2.out, hb3⟩
/-- the state between two merges -/
structure QsR (w W : World) (b0 go co u : Nat) (vs : List Value) (Q : QS Pr) : Prop where
  tl : TL W b0 b0 54 47 (.slice (some ⟨go, 0, none⟩) (u + 1) co) vs (dat_row Q)
  den : All (fun p => DenR go go b0 W p.1 p.2) Q
  bel : Below b0 w W
  sz : w.heap.size ≤ W.heap.size
  len : Q.length = u + 1
section
variable {w W W' : World} {b0 go co u : Nat} {vs : List Value} {Q : QS Pr}
theorem QsR.below (h : QsR w W b0 go co u vs Q) (hw : b0 ≤ W.heap.size) (hb : Below W.heap.size W W') : QsR w W' b0 go co u vs Q :=
  ⟨h.tl.below hb, fun q hq x hx => (h.den q hq x hx).below hb, below_at h.bel hw hb, Nat.le_trans h.sz hb.size, h.len⟩
theorem QsR.vl (h : QsR w W b0 go co u vs Q) : vs.length = u + 1 := by rw [h.tl.len, dat_len_row, h.len]
theorem QsR.top (h : QsR w W b0 go co u vs Q) : W.ownsRow b0 47 1 (.slice (some ⟨go, 0, none⟩) (u + 1) co) (u + 1) vs := by
  have ht := h.tl.top
  rwa [h.vl] at ht
theorem QsR.at (h : QsR w W b0 go co u vs Q) {i : Nat} (hi : i < u + 1) : ∃ A c, vs[i]? = some (.slice A (Q.getD i []).length c) ∧ (Q.getD i []).length ≤ c ∧ c ≤ maxLen ∧ Tp W b0 54 (.slice A (Q.getD i []).length c) (rws ((Q.getD i []).map Prod.fst)) ∧ W.cell? ⟨go, i, none⟩ = some (.slice A (Q.getD i []).length c) := by
  have hi2 : i < Q.length := by rw [h.len]; exact hi
  have hd := dat_at_row Q hi2
  have hi3 : i < (dat_row Q).length := by rw [dat_len_row]; exact hi2
  obtain ⟨A, c, h1, h2, h3, h4⟩ := h.tl.at hi3
  have he : (dat_row Q)[i] = rws ((Q.getD i []).map Prod.fst) := by
    rw [List.getElem?_eq_getElem hi3] at hd; exact Option.some.inj hd
  have hl : ((dat_row Q)[i]).length = (Q.getD i []).length := by rw [he, len_rws, List.length_map]
  rw [he, len_rws, List.length_map] at h4
  rw [hl] at h1 h2
  exact ⟨A, c, h1, h2, h3, h4, own_cell h.top h1⟩
theorem QsR.row (h : QsR w W b0 go co u vs Q) {B n : Nat} {rv : Value} {xs : List Value} (hr : W.ownsRow B 54 1 rv n xs) (hB : b0 ≤ B) (hw : b0 ≤ W.heap.size) (hv : ∀ x ∈ vs, ∀ n, x.ownBlock = some n → n < B) (h1 : go < B) (hg : W.grownBy W' rv.ownBlock) : QsR w W' b0 go co u vs Q := by
  have hlow : ∀ k, rv.ownBlock = some k → B ≤ k := fun k hk => (hr.lt k hk).1
  refine ⟨h.tl.kept hg (Or.inr fun e => by have := hlow go e.symm; omega) (fun x hx => ?_), fun q hq x hx => DenR.calm (Clm.of_tp (Tp.of_own (own_base hr hB)) hg) (h.den q hq x hx), below_grown h.bel hw hg (fun k hk => Nat.le_trans hB (hlow k hk)), Nat.le_trans h.sz hg.size, h.len⟩
  cases hx2 : x.ownBlock with
  | none => exact Or.inl rfl
  | some k => exact Or.inr fun e => by have := hlow k e.symm; have := hv x hx k hx2; omega
theorem QsR.tail (h : QsR w W b0 go co u vs Q) (hb0 : b0 ≤ go) {i : Nat} (hi : i < u + 1) {A : Option Addr} {d : Nat} {x : Pr} {q : List Pr} (hx : vs[i]? = some (.slice A (q.length + 1) d)) (hq : Q.getD i [] = x :: q) :
    QsR w (W.setCell ⟨go, i, none⟩ (.slice (cutA A d 1 1) q.length (d - 1))) b0 go co u (vs.set i (.slice (cutA A d 1 1) q.length (d - 1))) (Q.set i q) ∧ (Value.slice (cutA A d 1 1) q.length (d - 1)).ownBlock = (Value.slice A (q.length + 1) d).ownBlock := by
  have hi2 : i < Q.length := by rw [h.len]; exact hi
  have hdq := dat_at_row Q hi2
  rw [hq] at hdq
  have hrow := h.tl.rows i _ _ hx hdq
  have ht := Tp.tail (show Tp W b0 54 (.slice A (q.length + 1) d) (_ :: rws (q.map Prod.fst)) from hrow)
  refine ⟨⟨?_, ?_, h.bel.setCell (p := ⟨go, i, none⟩) hb0 _, by simpa [World.setCell] using h.sz, by rw [List.length_set]; exact h.len⟩, ht.2⟩
  · rw [dat_set_row]
    exact h.tl.tail hx hdq
  · refine All.set (fun r hr y hy => DenR.calm (Clm.of_none (set_grown W go i _) (Or.inr rfl)) (h.den r hr y hy)) i (fun y hy => DenR.calm (Clm.of_none (set_grown W go i _) (Or.inr rfl)) (h.den (Q.getD i []) ?_ y (by rw [hq]; exact List.mem_cons_of_mem _ hy)))
    rw [getD_getElem Q hi2]; exact List.getElem_mem hi2
theorem QsR.push (h : QsR w W b0 go co u vs Q) (hb0 : b0 ≤ go) (hw : b0 ≤ W.heap.size) {i : Nat} (hi : i < u + 1) {xv x' : Value} {d : Row} {b : LR} (hx : vs[i]? = some xv)
    (ho : Tp W' b0 54 x' (rws ((Q.getD i []).map Prod.fst) ++ rws [d])) (hg : W.grownBy W' xv.ownBlock) (hn : NewAt W xv x') (hd : DenR go go b0 W d b) :
    QsR w (W'.setCell ⟨go, i, none⟩ x') b0 go co u (vs.set i x') (Q.set i (Q.getD i [] ++ [(d, b)])) := by
  have hi2 : i < Q.length := by rw [h.len]; exact hi
  have hi3 : i < (dat_row Q).length := by rw [dat_len_row]; exact hi2
  have hcl := Clm.put (x' := x') h.tl hx hi3 hg
  have hlow : ∀ k, xv.ownBlock = some k → b0 ≤ k := fun k hk => (h.tl.lt.2 xv (List.mem_of_getElem? hx) k hk).1
  refine ⟨?_, All.set (fun r hr y hy => DenR.calm hcl (h.den r hr y hy)) i (fun y hy => ?_), (below_grown h.bel hw hg hlow).setCell (p := ⟨go, i, none⟩) hb0 _, Nat.le_trans h.sz (by have := hg.size; simpa [World.setCell] using this), by rw [List.length_set]; exact h.len⟩
  · rw [dat_set_row, List.map_append, rws_app]
    exact h.tl.put hx hi3 ho hg hn
  · rcases List.mem_append.1 hy with h1 | h1
    · refine DenR.calm hcl (h.den (Q.getD i []) ?_ y h1)
      rw [getD_getElem Q hi2]; exact List.getElem_mem hi2
    · obtain rfl := List.mem_singleton.1 h1
      exact DenR.calm hcl hd
end
theorem den_go {w W : World} {go : Nat} {d : Row} {b : LR} (h : DenA w d b) (hb : Below w.heap.size w W) (hg : w.heap.size ≤ go) : DenR go go w.heap.size W d b := by
  refine ⟨h.1, h.2.1, h.2.2.1, h.2.2.2.below hb, fun hp => ?_⟩
  obtain ⟨k, o, e, hc⟩ := h.2.2.2.cells hp
  have hk : k < w.heap.size := by
    cases b with
    | nil => simp at hp
    | cons r b =>
      have := hc 0 (.int .i64 r.key) rfl
      exact World.block_lt_of_cell? w _ this
  have := hb.size
  exact ⟨k, o, e, by omega, by omega, by omega, Or.inl hk⟩
theorem denA_nil (w : World) (g : Nat) : DenA w (some ⟨g, 0, none⟩, 0, 0) [] := ⟨rfl, Nat.le_refl _, Nat.zero_le _, rfl, fun h => absurd h (by simp)⟩
theorem qm_map (u : Nat) (rs : List LR) : (List.range u).map (colR u rs) ++ [[]] = qm u rs := rfl
theorem map_step (u k : Nat) (rs : List LR) : (List.range (k + 1)).map (colR u rs) = (List.range k).map (colR u rs) ++ [colR u rs k] := by
  rw [List.range_succ, List.map_append]; rfl
theorem tl_lows {w : World} {bo base bo' base' : Nat} {e oe : TypeId} {v : Value} {vs : List Value} {qs : List (List Value)} (h : TL w bo base e oe v vs qs) (h1 : bo' ≤ bo) (h2 : base' ≤ base) : TL w bo' base' e oe v vs qs :=
  ⟨own_base h.top h1, h.len, fun i u q hu hq => (h.rows i u q hu hq).lows h2, h.ap, h.apt⟩
set_option maxRecDepth 100000 in
set_option maxHeartbeats 8000000 in
theorem load_spec (u : Nat) (A : Option Addr) (c : Nat) (Z : List Pr) (w : World) (hu : 2 ≤ u) (hu2 : u ≤ 7) (hn2 : Z.length ≤ 40) (hrd : Rd w 1 A Z.length (rws (Z.map Prod.fst))) (hz : ∀ p ∈ Z, DenA w p.1 p.2) :
    Calls Try.prog 81 #[.slice A Z.length c, .int .i64 ((u : Int) + 1)] w fun e w' => ∃ (go co : Nat) (vs : List Value) (Q : QS Pr), e = .returned (.slice (some ⟨go, 0, none⟩) (u + 1) co) ∧ w.heap.size ≤ go ∧ go < w'.heap.size ∧ QsR w w' w.heap.size go co u vs Q ∧ proj Prod.snd Q = qm u (Z.map Prod.snd) := by
  have hL : (Z.map Prod.snd).length = Z.length := List.length_map _
  obtain ⟨n, hn⟩ : ∃ n, n = Z.length := ⟨_, rfl⟩
  have HN := Lib.hid hn
  rw [← hn] at hn2 hrd ⊢
  clear hn
  have HD := Lib.hid (dummies.spec_dum u n w hu hu2 (by omega))
  have HDL := Lib.hid (dum_len (r := n) hu)
  have HRD := Lib.hid hrd
  have HZ := Lib.hid hz
  clear hrd hz
  go_enter Try.func81, Try.ntmps81
  go_wp2_with fail
  (with_reducible refine HD.out.mono ?_)
  rintro e w1 ⟨v, x, rfl, hov, hox, _, hb1⟩
  obtain ⟨AR, cR, rfl, _, _, hrR⟩ := own_form hov
  obtain ⟨AD, cD, rfl, _, _, hrD⟩ := own_form hox
  have HRR := Lib.hid (show Rd w1 1 AR (dum u n).1.length (ints (dum u n).1) by rw [HDL.out.1]; exact hrR)
  have HRD2 := Lib.hid (show Rd w1 1 AD (dum u n).2.length (ints (dum u n).2) by rw [HDL.out.2]; exact hrD)
  have hs1 := hb1.size
  have HT0 := Lib.hid (show TL (w1.alloc (.cells #[] 47)) w1.heap.size w1.heap.size 54 47 (.slice (some ⟨w1.heap.size, 0, none⟩) 0 0) [] (dat_row ([] : QS Pr)) from
    ⟨World.ownsRow_made (base := w1.heap.size) (e := 47) (size := 1) w1 #[] 0 (Nat.le_refl _) (Nat.zero_le _) (by simp), rfl, fun i x q hx => by simp at hx, fun i j v u _ hv => by simp at hv, fun u hu => by simp at hu⟩)
  have HB1 := Lib.hid hb1
  have HM1 := Lib.hid ((Below.refl w1.heap.size w1).alloc (Nat.le_refl _) (.cells #[] 47))
  clear hov hox HD hrR hrD hb1
  go_wp2
  go_loopg [7, 8, 9] (u + 1) (fun f v a i wr => ∃ (k : Nat) (vs : List Value) (Q : QS Pr), u < k + f ∧ k ≤ u ∧ i = .int .i64 (k : Int) ∧ a = .int .i64 (off u n k : Int) ∧ TL wr w1.heap.size w1.heap.size 54 47 v vs (dat_row Q) ∧ proj Prod.snd Q = (List.range k).map (colR u (Z.map Prod.snd)) ∧ All (fun p => DenA w p.1 p.2) Q ∧ Below w1.heap.size w1 wr)
  case atStart => exact ⟨0, _, [], by omega, by omega, rfl, rfl, HT0.out, rfl, (fun q hq => by cases hq), HM1.out⟩
  case round =>
    obtain ⟨k, vs, Q, hkf, hk, rfl, rfl, htl, hpq, hall, hbm⟩ := hrel
    have hb := HB1.out.trans (hbm.mono hs1)
    have hvl : vs.length = k := by
      have h1 := htl.len
      rw [dat_len_row] at h1
      rw [h1, ← proj_len Prod.snd Q, hpq]; simp
    by_cases hlt : k < u
    · have q1 : (k : Int) < (u : Int) := by omega
      have hkd : k < (dum u n).2.length := by rw [HDL.out.2]; exact hlt
      have hkr : k < (dum u n).1.length := by rw [HDL.out.1]; exact hlt
      have HLN := Lib.hid (lens hu hu2 (show n ≤ 1000 by omega) k)
      obtain ⟨bD, oD, rfl, cD0⟩ := HRD2.out.int hkd
      obtain ⟨bR, oR, rfl, cR0⟩ := HRR.out.int hkr
      rw [← getD_in _ hkd, ← HLN.out.1] at cD0
      rw [← getD_in _ hkr, ← HLN.out.2.1] at cR0
      have hbd := (sum_le2 hu hu2 (show n ≤ 1000 by omega) k)
      have hof := off_le hu hu2 (show n ≤ 1000 by omega) hlt
      have HOF := Lib.hid (show off u n (k + 1) = off u n k + rl u n k from rfl)
      have HCD := Lib.hid (cells_below hbm cD0)
      have HCR := Lib.hid (cells_below hbm cR0)
      have HRW := Lib.hid (HRD.out.below hb)
      clear cD0 cR0 hkd hkr
      obtain ⟨gO, hgO⟩ : ∃ gO, gO = gk := ⟨_, rfl⟩
      have HGO := Lib.hid (And.intro hkf hgO)
      have HCL := Lib.hid (show colR u (Z.map Prod.snd) k = List.replicate (dl u n k) [] ++ ((Z.map Prod.snd).drop (off u n k)).take (rl u n k) by rw [colR, hL, ← HN.out])
      have HPQ := Lib.hid hpq
      have HALL := Lib.hid hall
      have HVL := Lib.hid hvl
      have HTL := Lib.hid htl
      have HBM := Lib.hid hbm
      have HQ0 := Lib.hid (show (wr.alloc (.cells #[] 54)).ownsRow wr.heap.size 54 1 (.slice (some ⟨wr.heap.size, 0, none⟩) 0 0) 0 (rws (([] : List Pr).map Prod.fst)) from World.ownsRow_made (e := 54) (size := 1) wr #[] 0 (Nat.le_refl _) (Nat.zero_le _) (by simp))
      have HQB := Lib.hid ((Below.refl wr.heap.size wr).alloc (Nat.le_refl _) (.cells #[] 54))
      generalize off u n k = o at hof HOF HCL ⊢
      generalize dl u n k = D at HCD HLN HCL hbd
      generalize rl u n k = R at HCR HLN HCL hbd hof HOF
      clear hkf hgO hvl htl hb hbm hpq hall
      obtain ⟨wa, hwa⟩ : ∃ wa : World, wa = wr := ⟨_, rfl⟩
      rw [← hwa] at HCD HCR HTL HQ0 HQB HBM HRW ⊢
      clear hwa
      go_wp2
      go_loopg [10, 11] (D + 1) (fun f q j wr => ∃ (jj : Nat) (ps : List Pr), D < jj + f ∧ jj ≤ D ∧ j = .int .i64 (jj : Int) ∧ wr.ownsRow wa.heap.size 54 1 q jj (rws (ps.map Prod.fst)) ∧ ps.map Prod.snd = List.replicate jj [] ∧ (∀ p ∈ ps, DenA w p.1 p.2) ∧ Below wa.heap.size wa wr)
      case atStart => exact ⟨0, [], by omega, by omega, rfl, HQ0.out, rfl, (fun p hp => by cases hp), HQB.out⟩
      case round =>
        obtain ⟨jj, ps, hjf, hj, rfl, hq, hps, hpd, hb⟩ := hrel
        have cD1 := cells_below hb HCD.out
        by_cases hjl : jj < D
        · have q2 : (jj : Int) < (D : Int) := by omega
          obtain ⟨A7, c7, rfl, _, _, _⟩ := own_form hq
          have hh : jj ≤ 1099511627776 := by omega
          have hbw := hb.size
          have HSZ : (wr.alloc (.cells #[] 87)).heap.size = wr.heap.size + 1 := by simp
          have hqa := own_below hq ((Below.refl wr.heap.size wr).alloc (Nat.le_refl _) (.cells #[] 87))
          have hba : Below wa.heap.size wa (wr.alloc (.cells #[] 87)) := hb.alloc hbw _
          have hbwa := hba.size
          have HPS := Lib.hid (show (ps ++ [(((some ⟨wr.heap.size, 0, none⟩, 0, 0) : Row), ([] : LR))]).map Prod.snd = List.replicate (jj + 1) [] by rw [List.map_append, hps, List.replicate_succ']; rfl)
          have HPD := Lib.hid (show ∀ p ∈ ps ++ [(((some ⟨wr.heap.size, 0, none⟩, 0, 0) : Row), ([] : LR))], DenA w p.1 p.2 from fun p hp => by
            rcases List.mem_append.1 hp with h | h
            · exact hpd p h
            · obtain rfl := List.mem_singleton.1 h
              exact denA_nil _ _)
          clear hps hpd
          go_wp2_with (at_builtin; refine mem.push_atH _ rfl _ _ 47 rfl wa.heap.size 54 _ 1 24 Try.underlying47 info_row rfl Nat.one_pos (.slice A7 jj c7) _ _ rfl hqa _ HSZ [.slice (some ⟨wr.heap.size, 0, none⟩) 0 0] _ rfl (one_v _ _ _) rfl hh (by decide) hbwa ?_; intro v' w' ho' hg' hnw')
          have hb2 := below_push hba hbwa hg' hqa
          have HO9 := Lib.hid (show w'.ownsRow wa.heap.size 54 1 v' (jj + 1) (rws ((ps ++ [(((some ⟨wr.heap.size, 0, none⟩, 0, 0) : Row), ([] : LR))]).map Prod.fst)) by rw [List.map_append, rws_app]; exact ho')
          clear hq hb hg' hnw' cD1 hqa hba hbwa ho'
          go_wp2
          go_roundg (gk - 1)
          case measure => omega
          case rel => exact ⟨jj + 1, _, by omega, by omega, by go_num, HO9.out, HPS.out, HPD.out, hb2⟩
        · obtain rfl : jj = D := by omega
          have q2 : ¬ (jj : Int) < (jj : Int) := by omega
          have HQ1 := Lib.hid hq
          have HB2 := Lib.hid hb
          have HPS := Lib.hid (show ps.map Prod.snd = List.replicate jj [] ++ ((Z.map Prod.snd).drop o).take 0 by rw [hps]; simp)
          have HPD := Lib.hid hpd
          clear hq hb hps hpd
          go_wp2
          go_loopg [8, 10, 12] (R + 1) (fun f a q j wr => ∃ (m : Nat) (ps : List Pr), R < m + f ∧ m ≤ R ∧ j = .int .i64 (m : Int) ∧ a = .int .i64 ((o : Int) + m) ∧ wr.ownsRow wa.heap.size 54 1 q (jj + m) (rws (ps.map Prod.fst)) ∧ ps.map Prod.snd = List.replicate jj [] ++ ((Z.map Prod.snd).drop o).take m ∧ (∀ p ∈ ps, DenA w p.1 p.2) ∧ Below wa.heap.size wa wr)
          case atStart => exact ⟨0, ps, by omega, by omega, rfl, by simp, HQ1.out, HPS.out, HPD.out, HB2.out⟩
          case round =>
            obtain ⟨m, ps, hmf, hm, rfl, rfl, hq, hps, hpd, hb⟩ := hrel
            have cR1 := cells_below hb HCR.out
            have hbw := hb.size
            by_cases hml : m < R
            · have q2 : (m : Int) < (R : Int) := by omega
              have hom : o + m < Z.length := by rw [← HN.out]; omega
              obtain ⟨bA, oA, rfl, hcA⟩ := (show Rd wr 1 A (Z.map Prod.fst).length (rws (Z.map Prod.fst)) by rw [List.length_map, ← HN.out]; exact HRW.out.below hb).row (k := o + m) (by rw [List.length_map]; exact hom)
              have HPS := Lib.hid (show (ps ++ [Z[o + m]]).map Prod.snd = List.replicate jj [] ++ ((Z.map Prod.snd).drop o).take (m + 1) by
                rw [List.map_append, hps, List.append_assoc]
                congr 1
                rw [List.take_succ_eq_append_getElem (by rw [List.length_drop, List.length_map]; omega)]
                simp)
              have HPD := Lib.hid (show ∀ p ∈ ps ++ [Z[o + m]], DenA w p.1 p.2 from fun p hp => by
                rcases List.mem_append.1 hp with h | h
                · exact hpd p h
                · obtain rfl := List.mem_singleton.1 h
                  exact HZ.out _ (List.getElem_mem _))
              rw [List.getElem_map] at hcA
              generalize Z[o + m] = p at hcA HPS HPD
              obtain ⟨⟨p1, p2, p3⟩, pb⟩ := p
              obtain ⟨A7, c7, rfl, _, _, _⟩ := own_form hq
              replace hcA : wr.cell? ⟨bA, oA + (o + m), none⟩ = some (.slice p1 p2 p3) := hcA
              have q3 : (0 : Int) ≤ (o : Int) + (m : Int) := by omega
              have q4 : (o : Int) + (m : Int) < (n : Int) := by omega
              have q5 : ((o : Int) + (m : Int)).toNat = o + m := by omega
              have hh : jj + m ≤ 1099511627776 := by omega
              clear hps hpd
              go_wp2_with (at_builtin; refine mem.push_at _ rfl _ _ 47 rfl wa.heap.size 54 _ 1 24 Try.underlying47 info_row rfl Nat.one_pos (.slice A7 (jj + m) c7) _ _ rfl hq [.slice p1 p2 p3] _ rfl (one_v _ _ _) rfl hh (by decide) hbw ?_; intro v' w' ho' hg' hnw')
              have hb2 := below_push hb hbw hg' hq
              have HO9 := Lib.hid (show w'.ownsRow wa.heap.size 54 1 v' (jj + (m + 1)) (rws ((ps ++ [((p1, p2, p3), pb)]).map Prod.fst)) by rw [List.map_append, rws_app]; exact ho')
              clear hq hb hg' hnw' cR1 ho'
              go_wp2
              go_roundg (gk - 1)
              case measure => omega
              case rel => exact ⟨m + 1, _, by omega, by omega, by go_num, by go_num, HO9.out, HPS.out, HPD.out, hb2⟩
            · obtain rfl : m = R := by omega
              have q2 : ¬ (m : Int) < (m : Int) := by omega
              obtain ⟨A7, c7, rfl, _, _, _⟩ := own_form hq
              have htl := HTL.out.below hb
              have htop := htl.top
              rw [HVL.out] at htop
              have hbb := HBM.out.size
              have HTP := Lib.hid (Tp.of_own (own_base hq hbb))
              have HAP := Lib.hid (show Apt _ (.slice A7 (jj + m) c7) ∧ ∀ x ∈ vs, Apt (.slice A7 (jj + m) c7) x from ⟨apt_symm (apt_above (own_ge hq) (fun g hg => (HTL.out.lt.1 g hg).2)), fun x hx => apt_above (own_ge hq) (fun g hg => (HTL.out.lt.2 x hx g hg).2)⟩)
              have hb3 := HBM.out.trans (hb.mono hbb)
              have hs3 : w1.heap.size ≤ wr.heap.size := Nat.le_trans hbb hbw
              have hk9 : k ≤ 1099511627776 := by omega
              have HN1 := Lib.hid (show proj Prod.snd (Q ++ [ps]) = (List.range (k + 1)).map (colR u (Z.map Prod.snd)) by
                rw [map_step, ← HPQ.out, HCL.out, ← hps]; simp [proj])
              have HN2 := Lib.hid (show All (fun p => DenA w p.1 p.2) (Q ++ [ps]) from fun q hq x hx => by
                rcases List.mem_append.1 hq with h | h
                · exact HALL.out q h x hx
                · obtain rfl := List.mem_singleton.1 h
                  exact hpd x hx)
              have HDR := Lib.hid (show dat_row (Q ++ [ps]) = dat_row Q ++ [rws (ps.map Prod.fst)] by simp [dat_row, proj])
              clear hq hb hps hpd
              go_wp2_with (at_builtin; refine mem.push_at _ rfl _ _ 79 rfl w1.heap.size 47 _ 1 24 Try.underlying79 info_rsp rfl Nat.one_pos _ _ _ rfl htop [.slice A7 (jj + m) c7] _ rfl (one_v _ _ _) rfl hk9 (by decide) hs3 ?_; intro v' w' ho' hg' hnw')
              have HNT := Lib.hid (htl.push HTP.out HAP.out.1 HAP.out.2 (by rw [HVL.out]; exact ho') hg' hnw')
              have HBN := Lib.hid (below_grown hb3 hs3 hg' (fun g hg => (htl.lt.1 g hg).1))
              clear ho' hg' hnw' htl htop cR1 hb3
              go_wp2
              go_roundg (gO - 1)
              case measure => have := HGO.out; omega
              case rel => exact ⟨k + 1, _, Q ++ [ps], by have := HGO.out; omega, by omega, by go_num, by rw [HOF.out]; go_num, by rw [HDR.out]; exact HNT.out, HN1.out, HN2.out, HBN.out⟩
    · obtain rfl : k = u := by omega
      have q1 : ¬ (k : Int) < (k : Int) := by omega
      have HTL := Lib.hid htl
      have hsz := hbm.size
      have htl2 := htl.alloc (.cells #[] 54)
      have htop := htl2.top
      rw [hvl] at htop
      have HVL := Lib.hid hvl
      have HB := Lib.hid (hbm.alloc hsz (.cells #[] 54))
      have HX := Lib.hid (show Tp (wr.alloc (.cells #[] 54)) w1.heap.size 54 (.slice (some ⟨wr.heap.size, 0, none⟩) 0 0) [] from Tp.of_own (own_base (World.ownsRow_made (base := wr.heap.size) (e := 54) (size := 1) wr #[] 0 (Nat.le_refl _) (Nat.zero_le _) (by simp)) hsz))
      have hge : ∀ g, (Value.slice (some ⟨wr.heap.size, 0, none⟩) 0 0).ownBlock = some g → wr.heap.size ≤ g := fun g hg => by simp [Value.ownBlock] at hg; omega
      have HAP := Lib.hid (show Apt _ (.slice (some ⟨wr.heap.size, 0, none⟩) 0 0) ∧ ∀ x ∈ vs, Apt (.slice (some ⟨wr.heap.size, 0, none⟩) 0 0) x from ⟨apt_symm (apt_above hge (fun g hg => (htl.lt.1 g hg).2)), fun x hx => apt_above hge (fun g hg => (htl.lt.2 x hx g hg).2)⟩)
      have HSZ : (wr.alloc (.cells #[] 54)).heap.size = wr.heap.size + 1 := by simp
      have hs3 := HB.out.size
      have hk9 : k ≤ 1099511627776 := by omega
      have HN1 := Lib.hid (show proj Prod.snd (Q ++ [[]]) = qm k (Z.map Prod.snd) by rw [← qm_map, ← hpq]; simp [proj])
      have HN2 := Lib.hid (show All (fun p => DenA w p.1 p.2) (Q ++ [[]]) from fun q hq x hx => by
        rcases List.mem_append.1 hq with h | h
        · exact hall q h x hx
        · obtain rfl := List.mem_singleton.1 h
          cases hx)
      have HDR := Lib.hid (show dat_row (Q ++ [[]]) = dat_row Q ++ [[]] by simp [dat_row, proj, rws])
      clear htl hvl hbm hb hge hpq hall
      go_wp2_with (at_builtin; refine mem.push_atH _ rfl _ _ 79 rfl w1.heap.size 47 _ 1 24 Try.underlying79 info_rsp rfl Nat.one_pos _ _ _ rfl htop _ HSZ [.slice (some ⟨wr.heap.size, 0, none⟩) 0 0] _ rfl (one_v _ _ _) rfl hk9 (by decide) hs3 ?_; intro v' w' ho' hg' hnw')
      have htl3 := htl2.push HX.out HAP.out.1 HAP.out.2 (by rw [HVL.out]; exact ho') hg' hnw'
      have hb3 := below_grown HB.out hs3 hg' (fun g hg => (htl2.lt.1 g hg).1)
      obtain ⟨A9, c9, hv9, _, _, _⟩ := own_form (show w'.ownsRow w1.heap.size 47 1 v' (k + 1) _ from ho')
      subst hv9
      obtain ⟨go, rfl, hgo1, hgo2⟩ := own_addr (show w'.ownsRow w1.heap.size 47 1 (.slice A9 (k + 1) c9) (k + 1) _ from ho') (by omega)
      have hb4 := HB1.out.trans (hb3.mono hs1)
      have HQ := Lib.hid (show QsR w w' w.heap.size go c9 k (vs ++ [.slice (some ⟨wr.heap.size, 0, none⟩) 0 0]) (Q ++ [[]]) from
        ⟨tl_lows (by rw [HDR.out]; exact htl3) hs1 hs1, fun q hq x hx => den_go (HN2.out q hq x hx) hb4 (Nat.le_trans hs1 hgo1), hb4, hb4.size, by
          have h1 := congrArg List.length HN1.out
          rw [proj_len, qm_len] at h1; exact h1⟩)
      clear htl3 ho' hg' hnw' htl2 htop hb3 hb4
      go_wp2
      go_ret
      first
        | exact ⟨go, c9, _, _, rfl, Nat.le_trans hs1 hgo1, hgo2, HQ.out, HN1.out⟩
        | exact ⟨go, c9, rfl, Nat.le_trans hs1 hgo1, hgo2, _, _, HQ.out, HN1.out⟩
        | exact ⟨go, c9, rfl, Nat.le_trans hs1 hgo1, hgo2, _, HQ.out, HN1.out⟩
end Go.Proofs.Ytgffabjajbgbjaa.pm
/-! The reference's l18Run. Condition: 1 to 40 runs, at most 64 records in all, each run ascending. -/
namespace Go.Proofs.Ytgffabjajbgbjaa.pm
open Go.RowKit Go.Proofs.Ytgffabjajbgbjaa.mem Go.Proofs.Ytgffabjajbgbjaa.nest Go.Proofs.Ytgffabjajbgbjaa.tape Go.Proofs.Ytgffabjajbgbjaa.qlaw Go.Proofs.Ytgffabjajbgbjaa.ply Go.Proofs.Ytgffabjajbgbjaa.stb Go.Proofs.Ytgffabjajbgbjaa.level Go.Proofs.Ytgffabjajbgbjaa.dummies Go.Proofs.Ytgffabjajbgbjaa.phs Go.Proofs.Ytgffabjajbgbjaa.dists Go.Proofs.Ytgffabjajbgbjaa.phases
open Go.Proofs.Ytgffabjajbgbjaa.tn (KAsc ltR)

theorem flat_first : ∀ (Q : QS Pr) (i : Nat) (x : Pr) (q : List Pr), (∀ j, j < i → Q.getD j [] = []) → Q.getD i [] = x :: q → ∃ r, Q.flatten = x :: r
  | [], i, x, q, _, h => by simp at h
  | a :: Q, 0, x, q, _, h => by
    obtain rfl : a = x :: q := by simpa using h
    exact ⟨q ++ Q.flatten, rfl⟩
  | a :: Q, i + 1, x, q, h0, h => by
    obtain rfl : a = [] := by simpa using h0 0 (by omega)
    obtain ⟨r, hr⟩ := flat_first Q i x q (fun j hj => by simpa using h0 (j + 1) (by omega)) (by simpa using h)
    exact ⟨r, by simpa using hr⟩
theorem flat_none : ∀ (Q : QS Pr), (∀ j, j < Q.length → Q.getD j [] = []) → Q.flatten = []
  | [], _ => rfl
  | a :: Q, h => by
    obtain rfl : a = [] := by simpa using h 0 (by simp)
    have := flat_none Q fun j hj => by simpa using h (j + 1) (by simpa using hj)
    simpa using this
set_option maxRecDepth 100000 in
set_option maxHeartbeats 8000000 in
theorem run_spec (u : Nat) (rs : List LR) (w W : World) (go co : Nat) (vs0 : List Value) (Q0 : QS Pr) (hu : 2 ≤ u) (hu2 : u ≤ 7) (hn1 : 1 ≤ rs.length) (hn2 : rs.length ≤ 40) (hT : tn.tot rs ≤ 64) (hasc : ∀ r ∈ rs, KAsc r)
    (hgo1 : w.heap.size ≤ go) (hat0 : QsR w W w.heap.size go co u vs0 Q0) (hp0 : proj Prod.snd Q0 = qm u rs) :
    Calls Try.prog 80 #[.slice (some ⟨go, 0, none⟩) (u + 1) co] W fun e W' => ∃ A c, e = .returned (.tuple #[.slice A (lastR u rs).length c, .int .i64 (lev u rs.length : Int), .int .i64 (movedR u rs)]) ∧ Rd W' 2 A (lastR u rs).length (recs (lastR u rs)) ∧ Below w.heap.size w W' := by
  have HLV := Lib.hid (dumLaw.exists_lev (r := rs.length) hu hu2 (by omega))
  have HC0 := Lib.hid (qm_cnt (u := u) (rs := rs) hu hu2 (by omega))
  have HLAST := Lib.hid (phn_last hu hu2 hn1 hn2).1
  have HMOV := Lib.hid (show movedR u rs = (phn mg wt (qm u rs, (0 : Int)) (lev u rs.length)).2 from rfl)
  have HG := Lib.hid (qm_good (u := u) (rs := rs) hu hu2 (by omega))
  have HA := Lib.hid (qm_asc (u := u) hasc)
  have HAT0 := Lib.hid hat0
  have HP0 := Lib.hid hp0
  have hL := HLV.out.2
  have HOK := Lib.hid (fun (k : Nat) (hk : k < lev u rs.length) (j : Nat) (hj : j < manyOf (st u (lev u rs.length) k)) => ok_stt (S := (qm u rs, (0 : Int))) hu hL hT HA.out HG.out HC0.out rfl hk hj)
  generalize lev u rs.length = L at HLV HC0 HLAST HMOV HOK hL ⊢
  clear hat0 hp0
  go_enter Try.func80, Try.ntmps80
  go_wp2
  go_loopg [5, 6] (L + 1) (fun f ph mv wr => ∃ (q : Nat) (vs : List Value) (Q : QS Pr), L < q + f ∧ q ≤ L ∧ ph = .int .i64 (q : Int) ∧ mv = .int .i64 (phn mg wt (qm u rs, (0 : Int)) q).2 ∧ proj Prod.snd Q = (phn mg wt (qm u rs, (0 : Int)) q).1 ∧ QsR w wr w.heap.size go co u vs Q)
  case atStart => exact ⟨0, vs0, Q0, by omega, by omega, rfl, rfl, HP0.out, HAT0.out⟩
  case round =>
    obtain ⟨q, vs, Q, hqf, hq, rfl, rfl, hpq, hat⟩ := hrel
    have HAT := Lib.hid hat
    have HCQ := Lib.hid (show cnt Q = st u L q by rw [← proj_cnt Prod.snd Q, hpq, phn_cnt mg wt hu hL HC0.out q hq])
    have hsz := hat.sz
    have hQl := hat.len
    obtain ⟨gO, hgO⟩ : ∃ gO, gO = gk := ⟨_, rfl⟩
    have HGO := Lib.hid (And.intro hqf hgO)
    have HK0 := Lib.hid (World.ownsRow_made (e := 3) (size := 1) wr #[] 0 (Nat.le_refl _) (Nat.zero_le _) (by simp))
    have HKB := Lib.hid ((Below.refl wr.heap.size wr).alloc (Nat.le_refl _) (.cells #[] 3))
    have HPQ := Lib.hid hpq
    clear hqf hgO hat hpq
    obtain ⟨wa, hwa⟩ : ∃ wa : World, wa = wr := ⟨_, rfl⟩
    rw [← hwa] at HK0 HKB HAT hsz ⊢
    clear hwa
    obtain ⟨mv, hmv⟩ : ∃ mv, mv = (phn mg wt (qm u rs, (0 : Int)) q).2 := ⟨_, rfl⟩
    rw [← hmv]
    have HMV := Lib.hid hmv
    clear hmv
    go_wp2
    go_loopg [7, 8] (u + 2) (fun f v i wr => ∃ i' : Nat, u + 1 < i' + f ∧ i' ≤ u + 1 ∧ i = .int .i64 (i' : Int) ∧ wr.ownsRow wa.heap.size 3 1 v i' (ints ((cnt Q).take i')) ∧ Below wa.heap.size wa wr)
    case atStart => exact ⟨0, by omega, by omega, rfl, HK0.out, HKB.out⟩
    case round =>
      obtain ⟨i, hif, hi, rfl, hov, hb⟩ := hrel
      have hbs := hb.size
      by_cases hlt : i < u + 1
      · have q1 : (i : Int) < (u : Int) + 1 := by omega
        obtain ⟨A, c, _, hc1, hc2, _, hcell⟩ := (HAT.out.below (by omega) hb).at hlt
        have HCT := Lib.hid (cnt_take Q (i := i) (by omega))
        have hlen : (Q.getD i []).length ≤ 32768 := by
          have h1 := cnt_at Q i
          rw [HCQ.out] at h1
          have h2 := st_bd hu hL hq i
          omega
        generalize (Q.getD i []).length = l at hcell hc1 HCT hlen
        obtain ⟨A1, c1, rfl, hc3, hc4, _⟩ := own_form hov
        have hh : i ≤ 1099511627776 := by omega
        go_wp2_with (at_builtin; refine mem.push_at _ rfl _ _ 22 rfl wa.heap.size 3 _ 1 8 Try.underlying22 mem.info_int rfl Nat.one_pos (.slice A1 i c1) _ _ rfl hov (ints [(l : Int)]) _ rfl (mem.ints_one [(l : Int)]) rfl hh (by decide) hbs ?_; intro v' w' ho' hg' hnw')
        have hb2 := below_push hb hbs hg' hov
        go_wp2
        go_roundg (gk - 1)
        case measure => omega
        case rel => exact ⟨i + 1, by omega, by omega, by go_num, by rw [HCT.out, ints_app]; exact ho', hb2⟩
      · obtain rfl : i = u + 1 := by omega
        have hcl : (st u L q).length = u + 1 := st_len hu hL hq
        have hcq : (cnt Q).take (u + 1) = st u L q := by rw [HCQ.out]; exact List.take_of_length_le (by omega)
        rw [hcq] at hov
        have HA1 := Lib.hid (HAT.out.below (by omega) hb)
        obtain ⟨A7, c7, rfl, _, _, hr7⟩ := own_form hov
        have hr7' := hr7
        rw [← hcl] at hr7'
        have HTD := Lib.hid (st_tidy hu hL hq)
        have HSUM := Lib.hid (sums.spec_any A7 c7 (st u L q) wr (by omega) (perfect.small_of HTD.out) hr7')
        have HEM := Lib.hid (fun W (h : Rd W 1 A7 (st u L q).length (ints (st u L q))) => spec_empty A7 c7 (st u L q) W (by omega) h)
        have HPH := Lib.hid (fun (ha : able (st u L q) = true) => spec_phase A7 c7 (st u L q) wr (by omega) HTD.out ha hr7')
        have HEM1 := Lib.hid (HEM.out wr hr7')
        rw [hcl] at HSUM HPH HEM1
        have HMO := Lib.hid (st_more hu hL hq)
        have HS0 := Lib.hid (show q = L → (st u L q).sum = 1 from fun e => by rw [st_sum hu hL hq, e, Nat.sub_self, sum_zero])
        clear hr7 hr7' hov hcq HK0 HKB HAT HEM
        have hsz1 : w.heap.size ≤ wr.heap.size := Nat.le_trans hsz hbs
        clear hb hbs
        obtain ⟨wb, hwb⟩ : ∃ wb : World, wb = wr := ⟨_, rfl⟩
        rw [← hwb] at HA1 HSUM HPH HEM1 hsz1 ⊢
        clear hwb hcl
        go_wp2_with fail
        (with_reducible refine HSUM.out.mono ?_)
        rintro e w2 ⟨rfl, rfl⟩
        by_cases hkL : q < L
        · have hsum : 1 < (st u L q).sum := HMO.out.2 hkL
          have HAB := Lib.hid (ph_st hu hL hkL)
          have HNX := Lib.hid (show (nxt (st u L q)).length = u + 1 ∧ (nxt (st u L q)).getD (toOf (st u L q)) 0 = (manyOf (st u L q) : Int) from by
            have h1 := HAB.out.ez
            have h2 := st_len hu hL hq
            refine ⟨by rw [nxt_len, h2], ?_⟩
            rw [nxt_at _ h1.2, if_pos h1.1.symm, HAB.out.mz])
          have HEZ := Lib.hid (show emp (st u L q) = (toOf (st u L q) : Int) by rw [emp, if_pos HAB.out.able, HAB.out.ez.1])
          have hsn : ¬ (st u L q).sum = 1 := by omega
          have hsb : ((st u L q).sum == 1) = false := by simpa using hsn
          have HPH2 := Lib.hid (HPH.out HAB.out.able)
          rw [HNX.out.1] at HPH2
          rw [HEZ.out] at HEM1
          generalize (st u L q).sum = sm at hsum hsn hsb ⊢
          go_wp2_with fail
          (with_reducible refine HEM1.out.mono ?_)
          rintro e w2 ⟨rfl, rfl⟩
          go_wp2_with fail
          (with_reducible refine HPH2.out.mono ?_)
          rintro e w3 ⟨v3, rfl, ho3, hb3⟩
          obtain ⟨A8, c8, rfl, _, _, _⟩ := own_form ho3
          obtain ⟨g8, rfl, _, _⟩ := own_addr ho3 (by omega)
          have hte0 := to_lt hu hL hkL
          have hx8 := own_cell ho3 (mem.ints_getD (nxt (st u L q)) (toOf (st u L q)) (by rw [HNX.out.1]; exact hte0))
          rw [HNX.out.2] at hx8
          have HA2 := Lib.hid (show QsR w w3 w.heap.size go co u vs Q from HA1.out.below hsz1 hb3)
          have HSTP := Lib.hid (fun j => show stt mg wt u L (qm u rs, (0 : Int)) q (j + 1) = ms mg wt (toOf (st u L q)) (stt mg wt u L (qm u rs, (0 : Int)) q j) from rfl)
          have HNE := Lib.hid (fun (j : Nat) (hj : j < manyOf (st u L q)) (i : Nat) (hi : i < u + 1) (hne : i ≠ toOf (st u L q)) => stt_ne (mg := mg) (wt := wt) (S0 := (qm u rs, (0 : Int))) hu hL HC0.out hkL hj hi hne)
          have HCN := Lib.hid (fun (j : Nat) (hj : j < manyOf (st u L q)) (i : Nat) (hi : i < u + 1) => stt_cnt (mg := mg) (wt := wt) (S0 := (qm u rs, (0 : Int))) hu hL HC0.out hkL (Nat.le_of_lt hj) hi)
          have HBD := Lib.hid (fun i => st_bd hu hL (Nat.le_of_lt hkL) i)
          have HALL := Lib.hid (stt_all (mg := mg) (wt := wt) (S0 := (qm u rs, (0 : Int))) hu hL HC0.out hkL)
          have HOKk := Lib.hid (HOK.out q hkL)
          have HTO := Lib.hid hte0
          have hmb := many_le hu hL hkL
          have HPQ2 := Lib.hid (show proj Prod.snd Q = (stt mg wt u L (qm u rs, (0 : Int)) q 0).1 from HPQ.out)
          clear HPH HPH2 HSUM HEM1 HAB HNX HEZ HMO HS0 HTD hsum hsn hsb HA1 hQl ho3 hb3
          generalize toOf (st u L q) = te at HTO HNE HCN HSTP HOKk hte0 hx8 ⊢
          generalize manyOf (st u L q) = mm at HNE HCN HALL HOKk hmb hx8 ⊢
          go_wp2
          go_loopg [6, 10] (mm + 1) (fun f mv i wr => ∃ (j : Nat) (vs : List Value) (Q : QS Pr), mm < j + f ∧ j ≤ mm ∧ mv = .int .i64 (stt mg wt u L (qm u rs, (0 : Int)) q j).2 ∧ i = .int .i64 ((mm : Int) - j) ∧ proj Prod.snd Q = (stt mg wt u L (qm u rs, (0 : Int)) q j).1 ∧ QsR w wr w.heap.size go co u vs Q)
          case atStart => exact ⟨0, vs, Q, by omega, by omega, by rw [HMV.out]; rfl, by simp, HPQ2.out, HA2.out⟩
          case round =>
            obtain ⟨j, vs, Q, hjf, hj, rfl, rfl, hpq, hat⟩ := hrel
            obtain ⟨S, hS⟩ : ∃ S, S = stt mg wt u L (qm u rs, (0 : Int)) q j := ⟨_, rfl⟩
            rw [← hS] at hpq ⊢
            have HS := Lib.hid hS
            clear hS
            have HPQj := Lib.hid hpq
            by_cases hjlt : j < mm
            · have q2 : (0 : Int) < (mm : Int) - (j : Int) := by omega
              have HOKj := Lib.hid (show okm (hds te S.1 (u + 1)) ∧ 0 ≤ S.2 ∧ S.2 ≤ 524288000 ∧ _ from by rw [HS.out]; exact HOKk.out j hjlt)
              have hg2 : (0 : Int) ≤ S.2 ∧ S.2 ≤ 524288000 := ⟨HOKj.out.2.1, HOKj.out.2.2.1⟩
              have HNEj := Lib.hid (fun (i : Nat) (hi : i < u + 1) (hne : i ≠ te) => show (Q.getD i []) ≠ [] from fun e => HNE.out j hjlt i hi hne (by rw [← HS.out, ← hpq, proj_at, e]; rfl))
              have HLNj := Lib.hid (fun (i : Nat) => show (Q.getD i []).length ≤ 65536 from by
                by_cases hi : i < u + 1
                · have h1 := HCN.out j hjlt i hi
                  have h2 := HBD.out i
                  rw [← HS.out, ← hpq, proj_cnt, cnt_at] at h1
                  split at h1 <;> omega
                · rw [List.getD_eq_getElem?_getD, List.getElem?_eq_none (by rw [hat.len]; omega)]; simp)
              have hQl := hat.len
              have hbz3 : w.heap.size ≤ wr.heap.size := hat.sz
              have HAj := Lib.hid (hat.below hbz3 ((Below.refl _ _).alloc (Nat.le_refl _) (.cells #[] 54)))
              have HR0 := Lib.hid (World.ownsRow_made (e := 54) (size := 1) wr #[] 0 (Nat.le_refl _) (Nat.zero_le _) (by simp))
              have HLT := Lib.hid hat.tl.lt
              have HSZ := Lib.hid (show wr.heap.size ≤ (wr.alloc (.cells #[] 54)).heap.size by simp)
              obtain ⟨gj, hgj⟩ : ∃ gj, gj = gk := ⟨_, rfl⟩
              have HGJ := Lib.hid (And.intro hjf hgj)
              obtain ⟨wm, hwm⟩ : ∃ wm : World, wm = wr := ⟨_, rfl⟩
              rw [← hwm] at HAj HR0 HLT HSZ hbz3 ⊢
              clear hwm hpq hat hjf hgj
              obtain ⟨mj, hmj⟩ : ∃ mj, mj = S.2 := ⟨_, rfl⟩
              rw [← hmj] at hg2 ⊢
              have HMJ := Lib.hid hmj
              clear hmj
              go_wp2
              go_loopg [11, 12] (u + 2) (fun f rv i wr2 => ∃ (i' : Nat) (vs' : List Value), u + 1 < i' + f ∧ i' ≤ u + 1 ∧ i = .int .i64 (i' : Int) ∧ wr2.ownsRow wm.heap.size 54 1 rv (hds te Q i').length (rws ((hds te Q i').map Prod.fst)) ∧ QsR w wr2 w.heap.size go co u vs' (tls te Q i') ∧ (∀ x ∈ vs', ∀ n, x.ownBlock = some n → n < wm.heap.size) ∧ wm.heap.size ≤ wr2.heap.size ∧ ∀ p ∈ hds te Q i', DenR go go w.heap.size wr2 p.1 p.2)
              case atStart => exact ⟨0, vs, by omega, by omega, rfl, HR0.out, HAj.out, fun x hx n hn => (HLT.out.2 x hx n hn).2, HSZ.out, fun p hp => by cases hp⟩
              case round =>
                obtain ⟨i, vs', hif, hi, rfl, hrv, hat, hvl, hrz, hdh⟩ := hrel
                by_cases hlt : i < u + 1
                · have q3 : (i : Int) < (u : Int) + 1 := by omega
                  obtain ⟨A, c, hvi, hc1, hc2, htp, hcell⟩ := hat.at hlt
                  rw [tls_here te Q (by omega)] at hvi hc1 htp hcell
                  by_cases hie : i = te
                  · have HRV := Lib.hid (show wr.ownsRow wm.heap.size 54 1 _ (hds te Q (i + 1)).length (rws ((hds te Q (i + 1)).map Prod.fst)) by rw [hds_same hie]; exact hrv)
                    have HAT3 := Lib.hid (show QsR w wr w.heap.size go co u vs' (tls te Q (i + 1)) by rw [tls_same hie]; exact hat)
                    have HDH := Lib.hid (show ∀ p ∈ hds te Q (i + 1), DenR go go w.heap.size wr p.1 p.2 by rw [hds_same hie]; exact hdh)
                    clear hvi htp hdh
                    subst hie
                    go_wp2
                    go_roundg (gk - 1)
                    case measure => omega
                    case rel => exact ⟨i + 1, _, by omega, by omega, by go_num, HRV.out, HAT3.out, hvl, hrz, HDH.out⟩
                  · obtain ⟨x, qr, hxq⟩ : ∃ x qr, Q.getD i [] = x :: qr := by
                      cases hq : Q.getD i [] with
                      | nil => exact absurd hq (HNEj.out i hlt hie)
                      | cons x qr => exact ⟨x, qr, rfl⟩
                    have HH := Lib.hid (hds_more hie hxq)
                    have HT2 := Lib.hid (tls_more hie hxq)
                    have HLq := Lib.hid (HLNj.out i)
                    rw [hxq] at hvi hc1 htp hcell HLq
                    have hql := HLq.out
                    simp only [List.length_cons] at hvi hc1 htp hcell hql
                    obtain ⟨g, o, rfl, hq1, hq2, hq3, hhd, hbg⟩ := Tp.head (show Tp wr w.heap.size 54 (.slice A (qr.length + 1) c) (_ :: rws (qr.map Prod.fst)) from htp)
                    clear hq1 hq2 hq3
                    replace hhd : wr.cell? ⟨g, o, none⟩ = some (.slice x.1.1 x.1.2.1 x.1.2.2) := hhd
                    have hfz := own_thaw hat.top i
                    have hru := fun W => run_from (P := Try.prog) 47 54 _ 1 24 Try.underlying47 info_row (some ⟨g, o, none⟩) (qr.length + 1) c 1 (1 : Int) rfl (by omega) W
                    obtain ⟨Ar, cr, rfl, hcr1, hcr2, _⟩ := own_form hrv
                    have hhl : (hds te Q i).length ≤ 1099511627776 := by have := hds_len te Q i; omega
                    have hie2 : ¬ (i : Int) = (te : Int) := by omega
                    have q4 : ((i : Int) == (te : Int)) = false := by simpa using hie2
                    have hne1 : (Value.slice (some ⟨go, 0, none⟩) (u + 1) co).ownBlock ≠ (Value.slice Ar (hds te Q i).length cr).ownBlock := fun e => by
                      have h1 := (hrv.lt go e.symm).1
                      have h2 := (HLT.out.1 go rfl).2
                      omega
                    go_wp2_with (at_builtin; refine mem.push_at _ rfl _ _ 47 rfl wm.heap.size 54 _ 1 24 Try.underlying47 info_row rfl Nat.one_pos (.slice Ar (hds te Q i).length cr) _ _ rfl hrv [.slice x.1.1 x.1.2.1 x.1.2.2] _ rfl (one_v _ _ _) rfl hhl (by decide) hrz ?_; intro v' w' ho' hg' hnw'; have htk := hat.top.kept hg' (Or.inr hne1); have hcw := own_cell htk hvi; have hfw := own_thaw htk i)
                    have hatr := QsR.row hat hrv hbz3 (show w.heap.size ≤ wr.heap.size by omega) hvl (HLT.out.1 go rfl).2 hg'
                    obtain ⟨hat2, hob2⟩ := hatr.tail (HLT.out.1 go rfl).1 hlt hvi (by rw [tls_here te Q (by omega)]; exact hxq)
                    have hrv2 := own_far ho' (p := ⟨go, i, none⟩) (fun e => by have h1 := (ho'.lt _ e).1; have h2 := (HLT.out.1 go rfl).2; simp at h1; omega) (.slice (cutA (some ⟨g, o, none⟩) c 1 1) qr.length (c - 1))
                    have hsz2 : wm.heap.size ≤ (w'.setCell ⟨go, i, none⟩ (.slice (cutA (some ⟨g, o, none⟩) c 1 1) qr.length (c - 1))).heap.size := by
                      have := hg'.size
                      simp only [World.setCell, Array.size_modify]
                      exact Nat.le_trans hrz this
                    have hvl2 : ∀ y ∈ vs'.set i (.slice (cutA (some ⟨g, o, none⟩) c 1 1) qr.length (c - 1)), ∀ n, y.ownBlock = some n → n < wm.heap.size := fun y hy n hn => by
                      rcases List.mem_or_eq_of_mem_set hy with h1 | h1
                      · exact hvl y h1 n hn
                      · subst h1
                        rw [hob2] at hn
                        exact hvl _ (List.mem_of_getElem? hvi) n hn
                    have hcalm := (Clm.of_tp (go := some go) (Tp.of_own (own_base hrv hbz3)) hg').trans (Clm.of_none (set_grown w' go i (.slice (cutA (some ⟨g, o, none⟩) c 1 1) qr.length (c - 1))) (Or.inr rfl))
                    have hdx := hat.den (Q.getD i []) (by
                      have := tls_here te Q (i := i) (by omega)
                      rw [← this, getD_getElem _ (by rw [tls_len]; omega)]; exact List.getElem_mem _) x (by rw [hxq]; exact List.mem_cons_self)
                    have HDH := Lib.hid (show ∀ p ∈ hds te Q (i + 1), DenR go go w.heap.size (w'.setCell ⟨go, i, none⟩ (.slice (cutA (some ⟨g, o, none⟩) c 1 1) qr.length (c - 1))) p.1 p.2 by
                      rw [HH.out]
                      intro p hp
                      rcases List.mem_append.1 hp with h1 | h1
                      · exact DenR.calm hcalm (hdh p h1)
                      · obtain rfl := List.mem_singleton.1 h1
                        exact DenR.calm hcalm hdx)
                    clear hdh hdx hcalm
                    obtain ⟨A8, c8, rfl, _, _, _⟩ := own_form ho'
                    go_wp2
                    go_roundg (gk - 1)
                    case measure => omega
                    case rel => exact ⟨i + 1, _, by omega, by omega, by go_num, by rw [HH.out, List.length_append, List.map_append, rws_app]; exact hrv2, by rw [HT2.out]; exact hat2, hvl2, hsz2, HDH.out⟩
                · obtain rfl : i = u + 1 := by omega
                  have q3 : ¬ ((u : Int) + 1) < (u : Int) + 1 := by omega
                  have hte : te < u + 1 := HTO.out
                  have hhq : (tls te Q (u + 1)).getD te [] = Q.getD te [] := by
                    rw [tls_at te Q (u + 1) (by omega), if_neg (fun h => h.2 rfl)]
                  obtain ⟨qt, hqt⟩ : ∃ qt, qt = Q.getD te [] := ⟨_, rfl⟩
                  rw [← hqt] at hhq
                  obtain ⟨A, c, hvi, hc1, hc2, htp, hcell⟩ := hat.at hte
                  rw [hhq] at hvi hc1 htp hcell
                  have HLq := Lib.hid (HLNj.out te)
                  rw [← hqt] at HLq
                  have HQT := Lib.hid hqt
                  have HHQ := Lib.hid hhq
                  clear hqt hhq
                  obtain ⟨Ar, cr, rfl, hcr1, hcr2, hrr⟩ := own_form hrv
                  have hh8 := hds_len te Q (u + 1)
                  have hokm : okm ((hds te Q (u + 1)).map Prod.snd) := by
                    have := HOKj.out.1
                    rw [← HPQj.out, proj_hds] at this
                    exact this
                  have HHL := Lib.hid (show ((hds te Q (u + 1)).map Prod.snd).length = (hds te Q (u + 1)).length from List.length_map _)
                  have HMS := Lib.hid (show Calls Try.prog 94 #[.slice Ar (hds te Q (u + 1)).length cr] wr fun e w' => ∃ v, e = .returned v ∧ w'.ownsRow wr.heap.size 87 2 v (mg ((hds te Q (u + 1)).map Prod.snd)).length (recs (mg ((hds te Q (u + 1)).map Prod.snd))) ∧ Below wr.heap.size wr w' by
                    have h := merge_spec Ar cr _ ((hds te Q (u + 1)).map Prod.snd) wr (by rw [HHL.out]; omega) (by have := hokm.2.2; omega) (heads_rd _ hdh hrr)
                    rw [HHL.out] at h
                    exact h)
                  have HWT := Lib.hid (show ((mg ((hds te Q (u + 1)).map Prod.snd)).length : Int) = wt ((hds te Q (u + 1)).map Prod.snd) ∧ (mg ((hds te Q (u + 1)).map Prod.snd)).length ≤ 64 from by
                    have h1 : (mg ((hds te Q (u + 1)).map Prod.snd)).length = ((hds te Q (u + 1)).map Prod.snd).flatten.length := stab_len _
                    have h2 : ((hds te Q (u + 1)).map Prod.snd).flatten.length = tn.tot ((hds te Q (u + 1)).map Prod.snd) := by rw [List.length_flatten]; rfl
                    have h3 := hokm.2.2
                    exact ⟨by unfold wt; rw [h1], by omega⟩)
                  have hmg := HWT.out.2
                  have q5 : (te : Int) < (u : Int) + 1 := by omega
                  have hgw : w.heap.size ≤ wr.heap.size := by omega
                  have hgo3 : go < wr.heap.size := Nat.lt_of_lt_of_le (HLT.out.1 go rfl).2 hrz
                  have hp1 := proj_one Prod.snd mg te Q
                  have hs2 : mj + wt ((hds te Q (u + 1)).map Prod.snd) = (stt mg wt u L (qm u rs, (0 : Int)) q (j + 1)).2 := by
                    rw [HSTP.out j, ← HS.out, HMJ.out]
                    show _ = S.2 + wt (hds te S.1 S.1.length)
                    rw [← HPQj.out, proj_len, hQl, proj_hds]
                  have hs1 : ∀ d : Row, proj Prod.snd ((tls te Q (u + 1)).set te (qt ++ [(d, mg ((hds te Q (u + 1)).map Prod.snd))])) = (stt mg wt u L (qm u rs, (0 : Int)) q (j + 1)).1 := fun d => by
                    rw [HSTP.out j, ← HS.out]
                    show _ = one mg te S.1
                    rw [← HPQj.out]
                    have hp1 := proj_one Prod.snd mg te Q (d, mg ((hds te Q Q.length).map Prod.snd)) rfl
                    rw [hQl, ← HQT.out] at hp1
                    exact hp1
                  have HS1 := Lib.hid hs1
                  rw [← HWT.out.1] at hs2
                  have HS2 := Lib.hid hs2
                  have hgl : qt.length ≤ 65536 := HLq.out
                  have hgl2 : (rws (qt.map Prod.fst)).length ≤ 1099511627776 := by rw [len_rws, List.length_map]; omega
                  clear hp1 hs1 hs2 hokm hdh
                  generalize mg ((hds te Q (u + 1)).map Prod.snd) = M at HMS HWT HS1 HS2 hmg
                  generalize (hds te Q (u + 1)).length = hl at hrv HMS hcr1 hrr hh8 ⊢
                  go_wp2_with fail
                  (with_reducible refine HMS.out.mono ?_)
                  rintro e w2 ⟨v2, rfl, ho2, hb2⟩
                  obtain ⟨A2, c2, rfl, _, _, _⟩ := own_form ho2
                  have hd2 := Lib.hid (DenR.own (go := go) (gm := go) (base := w.heap.size) rfl ho2 hgo3 hgo3)
                  have hat2 := hat.below hgw hb2
                  have hcell2 := cells_below hb2 hcell
                  have htp2 := htp.below hb2
                  have hbw2 : w.heap.size ≤ w2.heap.size := Nat.le_trans hgw hb2.size
                  clear ho2 hrv hcell hb2 hat htp
                  have ho2 := True.intro
                  go_wp2_with (at_builtin; refine tape.push_tp _ rfl _ _ 47 rfl w.heap.size 54 _ 24 Try.underlying47 info_row rfl (.slice A qt.length c) (rws (qt.map Prod.fst)) rfl htp2 _ rfl (.slice A2 M.length c2) _ rfl rfl hgl2 (by decide) hbw2 ?_; intro v' w' ho' hg' hnw'; have htk := hat2.top.kept hg' (hat2.tl.apt _ (List.mem_of_getElem? hvi)); have hcw := own_cell htk hvi; have hfw := own_thaw htk te; obtain ⟨A', c', hve, hf1, hf2, hf3⟩ := ho'.form; rw [List.length_append, len_rws, List.length_map, List.length_singleton] at hve; clear hf1 hf2 hf3; subst hve)
                  have hp := hat2.push hgo1 hbw2 hte (d := (A2, M.length, c2)) (b := M) hvi (by rw [HHQ.out]; exact ho') hg' hnw' hd2.out
                  rw [HHQ.out] at hp
                  have HN := Lib.hid hp
                  clear hp hat2 ho' hg' hnw' htk hcw hfw hvi htp2 hcell2
                  go_wp2
                  go_roundg (gj - 1)
                  case measure => have := HGJ.out; omega
                  case rel => exact ⟨j + 1, _, _, by have := HGJ.out; omega, by omega, by rw [← HS2.out], by go_num, HS1.out _, HN.out⟩
            · obtain rfl : j = mm := by omega
              have q2 : ¬ (0 : Int) < (j : Int) - (j : Int) := by omega
              have HF := Lib.hid (show S.2 = (phn mg wt (qm u rs, (0 : Int)) (q + 1)).2 ∧ proj Prod.snd Q = (phn mg wt (qm u rs, (0 : Int)) (q + 1)).1 ∧ QsR w wr w.heap.size go co u vs Q from by
                have h1 : S = phn mg wt (qm u rs, (0 : Int)) (q + 1) := HS.out.trans HALL.out
                rw [← h1]; exact ⟨rfl, hpq, hat⟩)
              clear hat hpq
              generalize S.2 = mj at HF ⊢
              go_wp2
              go_roundg (gO - 1)
              case measure => have := HGO.out; omega
              case rel => exact ⟨q + 1, _, Q, by have := HGO.out; omega, by omega, by go_num, by rw [HF.out.1], HF.out.2.1, HF.out.2.2⟩
        · obtain rfl : q = L := by omega
          have hsum := HS0.out rfl
          rw [hsum]
          have HFL := Lib.hid (show Q.flatten.map Prod.snd = [lastR u rs] by rw [← flat_proj, HPQ.out]; exact HLAST.out)
          have HQ1 := Lib.hid HA1.out
          have HMV2 := Lib.hid (show movedR u rs = mv by rw [HMOV.out, HMV.out])
          clear hsum HPH HSUM HEM1 HMO HS0 HTD HA1
          go_wp2
          go_loopg [14] (u + 2) (fun f i wr => ∃ i' : Nat, u + 1 < i' + f ∧ i' ≤ u + 1 ∧ i = .int .i64 (i' : Int) ∧ (∀ j, j < i' → Q.getD j [] = []) ∧ QsR w wr w.heap.size go co u vs Q)
          case atStart => exact ⟨0, by omega, by omega, rfl, fun j hj => absurd hj (by omega), HQ1.out⟩
          case round =>
            obtain ⟨i, hif, hi, rfl, hem, hat⟩ := hrel
            by_cases hlt : i < u + 1
            · have q3 : (i : Int) < (u : Int) + 1 := by omega
              obtain ⟨A, c, hvi, hc1, hc2, htp, hcell⟩ := hat.at hlt
              cases hxq : Q.getD i [] with
              | nil =>
                rw [hxq] at hcell
                simp only [List.length_nil] at hcell
                have q4 : ¬ (0 : Int) < (0 : Int) := by omega
                have HE := Lib.hid (show ∀ j, j < i + 1 → Q.getD j [] = [] from fun j hj => by
                  rcases Nat.lt_or_ge j i with h | h
                  · exact hem j h
                  · obtain rfl : j = i := by omega
                    exact hxq)
                have HAT4 := Lib.hid hat
                clear hem hat hvi htp hxq
                go_wp2
                go_roundg (gk - 1)
                case measure => omega
                case rel => exact ⟨i + 1, by omega, by omega, by go_num, HE.out, HAT4.out⟩
              | cons x qr =>
                rw [hxq] at hvi hc1 htp hcell
                simp only [List.length_cons] at hvi hc1 htp hcell
                obtain ⟨g, o, rfl, hq1, hq2, hq3, hhd, hbg⟩ := Tp.head (show Tp wr w.heap.size 54 (.slice A (qr.length + 1) c) (_ :: rws (qr.map Prod.fst)) from htp)
                clear hq1 hq2 hq3
                replace hhd : wr.cell? ⟨g, o, none⟩ = some (.slice x.1.1 x.1.2.1 x.1.2.2) := hhd
                have q4 : (0 : Int) < (qr.length : Int) + 1 := by omega
                have hdx := hat.den (Q.getD i []) (by rw [getD_getElem Q (by rw [hat.len]; exact hlt)]; exact List.getElem_mem _) x (by rw [hxq]; exact List.mem_cons_self)
                have hx2 : x.2 = lastR u rs := by
                  obtain ⟨r, hr⟩ := flat_first Q i x qr hem hxq
                  have := HFL.out
                  rw [hr] at this
                  simpa using (List.cons.inj this).1
                have HX2 := Lib.hid hx2
                have HDX := Lib.hid hdx
                have HBL := Lib.hid hat.bel
                clear hem hat hvi htp hxq hdx hx2
                obtain ⟨⟨x1, x2, x3⟩, xb⟩ := x
                simp only at hhd
                go_wp2
                go_ret3
                have h5 : x2 = (lastR u rs).length := by rw [← HX2.out]; exact HDX.out.len
                have h6 : Rd wr 2 x1 (lastR u rs).length (recs (lastR u rs)) := by rw [← HX2.out]; exact HDX.out.rd
                first
                  | exact ⟨x1, ⟨x3, by rw [HMV2.out, ← h5]; rfl⟩, h6, HBL.out⟩
                  | exact ⟨x1, x3, by rw [HMV2.out, ← h5]; rfl, h6, HBL.out⟩
            · exfalso
              have h1 := flat_none Q fun j hj => hem j (by rw [hat.len] at hj; omega)
              have h2 := HFL.out
              rw [h1] at h2
              simp at h2
end Go.Proofs.Ytgffabjajbgbjaa.pm
/-! PolyphaseMerge, the reference's. Condition: runs and records together at most 2^20. -/
namespace Go.Proofs.Ytgffabjajbgbjaa.pm
open Go.RowKit Go.Proofs.Ytgffabjajbgbjaa.mem Go.Proofs.Ytgffabjajbgbjaa.nest Go.Proofs.Ytgffabjajbgbjaa.tape Go.Proofs.Ytgffabjajbgbjaa.qlaw Go.Proofs.Ytgffabjajbgbjaa.ply Go.Proofs.Ytgffabjajbgbjaa.stb Go.Proofs.Ytgffabjajbgbjaa.level
open Go.Proofs.Ytgffabjajbgbjaa.tn (KAsc ltR tot)
open Go.Proofs.Ytgffabjajbgbjaa.ins (inB inB_iff)
open Go.Proofs.Ytgffabjajbgbjaa.pas (okRs okRs_not okR_len tot_small tot_take_succ info_recS one_row)
open Go.Proofs.Ytgffabjajbgbjaa.ascr (okR ascB asc_spec)
open Go.Proofs.Ytgffabjajbgbjaa.vrecs (vrec)

/-- a value that reads as a list of records -/
def RdR (W : World) (v : Value) (b : LR) : Prop := ∃ A c, v = .slice A b.length c ∧ Rd W 2 A b.length (recs b)
theorem rdr_nil (W : World) (g : Nat) : RdR W (.slice (some ⟨g, 0, none⟩) 0 0) [] := ⟨_, _, rfl, rfl, fun h => absurd h (by simp)⟩
set_option maxRecDepth 100000 in
set_option maxHeartbeats 4000000 in
theorem pm_spec (A : Option Addr) (c : Nat) (vs : List Value) (rs : List LR) (t : Int) (w : World) (hk : rs.length + tot rs ≤ 1048576) (hnc : rs.length ≤ c) (hcm : c ≤ maxLen) (hr : RdL_rec w A vs rs) :
    Calls Try.prog 45 #[.slice A rs.length c, .int .i64 t] w fun e w' => ∃ v, e = .returned (.tuple #[v, .int .i64 (resM rs t), .bool (okPM rs t)]) ∧ RdR w' v (resL rs t) ∧ Below w.heap.size w w' := by
  have hrl : ∀ r ∈ rs, r.length ≤ 1048576 := fun r h => by have := tn.mem_tot h; omega
  have HT := Lib.hid (fun W => ins.spec_any t 3 8 W)
  have HI := Lib.hid (fun W => ins.spec_any (rs.length : Int) 1 40 W)
  have HNO := Lib.hid (fun (h : okPM rs t = false) => And.intro h (pm_neg h))
  cases ht : inB t 3 8 with
  | false =>
    have HR := Lib.hid (HNO.out (by rw [okPM, ht, Bool.false_and]))
    rw [ht] at HT
    clear ht
    go_enter Try.func45, Try.ntmps45
    go_wp2_with fail
    (with_reducible refine (HT.out _).mono ?_)
    rintro e w1 ⟨rfl, rfl⟩
    have hb1 := (Below.refl w.heap.size w).alloc (Nat.le_refl _) (.cells #[] 87)
    go_wp2
    go_ret3
    exact ⟨_, by rw [HR.out.1, HR.out.2.2]; rfl, by rw [HR.out.2.1]; exact rdr_nil _ _, hb1⟩
  | true =>
    cases hi : inB (rs.length : Int) 1 40 with
    | false =>
      have HR := Lib.hid (HNO.out (by rw [okPM, hi, Bool.false_and, Bool.and_false]))
      rw [ht] at HT
      rw [hi] at HI
      clear ht hi
      go_enter Try.func45, Try.ntmps45
      go_wp2_with fail
      (with_reducible refine (HT.out _).mono ?_)
      rintro e w1 ⟨rfl, rfl⟩
      go_wp2_with fail
      (with_reducible refine (HI.out _).mono ?_)
      rintro e w1 ⟨rfl, rfl⟩
      have hb1 := (Below.refl w.heap.size w).alloc (Nat.le_refl _) (.cells #[] 87)
      go_wp2
      go_ret3
      exact ⟨_, by rw [HR.out.1, HR.out.2.2]; rfl, by rw [HR.out.2.1]; exact rdr_nil _ _, hb1⟩
    | true =>
      have HOP := Lib.hid (show okPM rs t = okRs rs by rw [okPM, ht, hi]; rfl)
      have hi2 := inB_iff.1 hi
      have hn40 : rs.length ≤ 40 := by omega
      rw [ht] at HT
      rw [hi] at HI
      have HTI := Lib.hid (And.intro ht hi)
      have HN0 := Lib.hid (nl_made_rec (World.ownsRow_made (base := w.heap.size) (e := 54) (size := 1) w #[] 0 (Nat.le_refl _) (Nat.zero_le _) (by simp)))
      have HB0 := Lib.hid ((Below.refl w.heap.size w).alloc (Nat.le_refl _) (.cells #[] 54))
      clear ht hi
      go_enter Try.func45, Try.ntmps45
      go_wp2_with fail
      (with_reducible refine (HT.out _).mono ?_)
      rintro e w1 ⟨rfl, rfl⟩
      go_wp2_with fail
      (with_reducible refine (HI.out _).mono ?_)
      rintro e w1 ⟨rfl, rfl⟩
      go_wp2
      go_loopg [7, 8, 9] (rs.length + 1) (fun f tt o x wr => ∃ (i : Nat) (s : Nat) (vo : List Value) (done : List LR), rs.length < i + f ∧ i ≤ rs.length ∧ x = .int .i64 (i : Int) ∧ tt = .int .i64 (s : Int) ∧ s = tot (rs.take i) ∧ (∀ r ∈ rs.take i, okR r = true) ∧ done = rs.take i ∧ NL_rec wr w.heap.size o vo done ∧ Below w.heap.size w wr)
      case atStart => exact ⟨0, 0, [], [], by omega, Nat.zero_le _, rfl, rfl, by simp [tot], by simp, rfl, HN0.out, HB0.out⟩
      case round =>
        obtain ⟨i, s, vo, done, hif, hi, rfl, rfl, hs, hok, hdn, ho, hb⟩ := hrel
        have HS := Lib.hid hs
        have HOK := Lib.hid hok
        have HDN := Lib.hid hdn
        have hdb : done.length ≤ 40 := by rw [hdn, List.length_take]; omega
        have hsb : s ≤ 67108864 := by
          have h1 := tot_small (rs := rs.take i) fun r hr => okR_len (hok r hr)
          rw [List.length_take] at h1
          have h2 : min i rs.length * 64 ≤ 1048576 * 64 := Nat.mul_le_mul_right _ (by omega)
          omega
        clear hs hok hdn
        by_cases hlt : i < rs.length
        · have q1 : (i : Int) < (rs.length : Int) := by omega
          obtain ⟨b, off, rfl, Ar, cr, hcell, hrc, hcm2, hrr⟩ := (hr.below hb).cell (i := i) hlt
          have HTT := Lib.hid (tot_take_succ rs hlt)
          have HM := Lib.hid (List.take_succ_eq_append_getElem hlt)
          have HN := Lib.hid (fun h => HNO.out (show okPM rs t = false by rw [HOP.out]; exact okRs_not hlt h))
          have hlen := hrl _ (List.getElem_mem hlt)
          have HV := Lib.hid (vrecs.spec_any Ar cr rs[i] wr hlen hrr)
          have HA := Lib.hid (asc_spec Ar cr rs[i] wr hlen hrr)
          have HO := Lib.hid (show okR rs[i] = (vrec rs[i] && ascB rs[i]) from rfl)
          generalize rs[i] = r at hcell hrc hrr HTT HM HN hlen HA HV HO
          unfold maxLen at hcm2
          cases hv : vrec r with
          | false =>
            have HR := Lib.hid (HN.out (by rw [HO.out, hv]; rfl))
            rw [hv] at HV
            clear hv
            go_wp2_with fail
            (with_reducible refine HV.out.mono ?_)
            rintro e w1 ⟨rfl, rfl⟩
            have hb2 := hb.alloc hb.size (.cells #[] 87)
            go_wp2
            go_ret3
            exact ⟨_, by rw [HR.out.1, HR.out.2.2]; rfl, by rw [HR.out.2.1]; exact rdr_nil _ _, hb2⟩
          | true =>
            cases ha : ascB r with
            | false =>
              have HR := Lib.hid (HN.out (by rw [HO.out, hv, ha]; rfl))
              rw [hv] at HV
              rw [ha] at HA
              clear hv ha
              go_wp2_with fail
              (with_reducible refine HV.out.mono ?_)
              rintro e w1 ⟨rfl, rfl⟩
              go_wp2_with fail
              (with_reducible refine HA.out.mono ?_)
              rintro e w1 ⟨rfl, d1, rfl⟩
              have hbd := below_drewN hb d1
              have hb2 := hbd.alloc hbd.size (.cells #[] 87)
              go_wp2
              go_ret3
              exact ⟨_, by rw [HR.out.1, HR.out.2.2]; rfl, by rw [HR.out.2.1]; exact rdr_nil _ _, hb2⟩
            | true =>
              have HR := Lib.hid (show okR r = true by rw [HO.out, hv, ha]; rfl)
              have hr64 := okR_len HR.out
              rw [hv] at HV
              rw [ha] at HA
              clear hv ha
              go_wp2_with fail
              (with_reducible refine HV.out.mono ?_)
              rintro e w1 ⟨rfl, rfl⟩
              go_wp2_with fail
              (with_reducible refine HA.out.mono ?_)
              rintro e w1 ⟨rfl, d1, rfl⟩
              have hbd := below_drewN hb d1
              have hod := nl_below_rec ho (below_drewN (Below.refl wr.heap.size wr) d1)
              have hrd2 := hrr.below (below_drewN (Below.refl wr.heap.size wr) d1)
              have hcd : (wr.drewN d1).cell? ⟨b, off + i, none⟩ = some (.slice Ar r.length cr) := hcell
              clear hb ho hrr hcell
              generalize wr.drewN d1 = wq at hbd hod hrd2 hcd ⊢
              have hbz := hbd.size
              obtain ⟨A6, c6, rfl, _, _, _⟩ := own_form hod.top
              have hba := (Below.refl wq.heap.size wq).alloc (Nat.le_refl _) (.cells #[] 87)
              have hr0 := hrd2.below hba
              have h0 := World.ownsRow_made (e := 87) (size := 2) wq #[] 0 (Nat.le_refl _) (Nat.zero_le _) (by simp)
              have hs0 := hba.size
              have hh : 0 + r.length ≤ 1099511627776 := by omega
              have hca : (wq.alloc (.cells #[] 87)).cell? ⟨b, off + i, none⟩ = some (.slice Ar r.length cr) := cells_below hba hcd
              have hnl : done.length ≤ 1099511627776 := by omega
              have HOD := Lib.hid hod
              clear hod
              go_wp2_with (first
                | (at_builtin; refine mem.extend_at (wq.alloc (.cells #[] 87)) rfl (.tmp 53) (.tmp 57) 54 rfl wq.heap.size 87 _ 2 16 Try.underlying54 info_rec rfl (by decide) (.slice (some ⟨wq.heap.size, 0, none⟩) 0 0) 0 [] (by simp [Act.eval, Act.put]) h0 Ar r.length cr (recs r) (by simp [Act.eval, Act.put]) hr0 (recs_one r) hh (by decide) hs0 ?_; intro v3 w3 ho3 hg3 hn3; simp only [Nat.zero_add, List.nil_append] at ho3; have hb3 := below_push hba hs0 hg3 h0; have hapt := nl_apart_rec HOD.out (own_ge ho3); have hO3 := nl_below_rec HOD.out hb3; obtain ⟨A3, c3, rfl, _, _, _⟩ := own_form ho3; have hX3 := own_base ho3 hbz; have hbr := below_at hbd hbz hb3; have hbs := hbr.size; have htop := hO3.top)
                | (at_builtin; refine mem.push_at w3 rfl (.tmp 52) (.tmp 59) 47 rfl w.heap.size 54 _ 1 24 Try.underlying47 info_recS rfl Nat.one_pos (.slice A6 done.length c6) done.length vo (by simp [Act.eval, Act.put]) htop [.slice A3 r.length c3] 1 rfl (one_row _ _ _) (by simp [Act.eval, Act.put]) hnl (by decide) hbs ?_; intro v' w' ho' hg' hnw'; have HN := Lib.hid (nl_push_rec hO3 hX3 hapt.1 hapt.2 ho' hg' hnw'); have hb4 := below_push hbr hbs hg' htop; clear ho' hg' hnw' htop hapt hO3 hX3 ho3 hg3 hn3))
              go_roundg (gk - 1)
              case measure => omega
              case rel => exact ⟨i + 1, s + r.length, _, done ++ [r], by omega, by omega, by go_num, by go_num, by rw [HTT.out, HS.out], fun r' hr' => by
                rw [HM.out] at hr'
                rcases List.mem_append.1 hr' with h | h
                · exact HOK.out r' h
                · obtain rfl := List.mem_singleton.1 h
                  exact HR.out, by rw [HM.out, HDN.out], HN.out, hb4⟩
        · have e : rs.take i = rs := List.take_of_length_le (by omega)
          have HR := Lib.hid (show okRs rs = decide (s ≤ 64) from by
            have h1 := HS.out
            have h2 := HOK.out
            rw [e] at h1 h2
            have h3 : rs.all okR = true := List.all_eq_true.2 h2
            rw [okRs, h3, Bool.true_and, h1])
          have hde : done = rs := HDN.out.trans e
          subst hde
          clear e HDN
          obtain ⟨A6, c6, rfl, _, _, _⟩ := own_form ho.top
          by_cases h64 : s ≤ 64
          · have hok : okPM done t = true := by rw [HOP.out, HR.out, decide_eq_true h64]
            have q64 : ¬ (64 : Int) < (s : Int) := by omega
            obtain ⟨u, ⟨hu, hu2⟩, ⟨hn1, hn2⟩, hok2, rfl, e1, e2⟩ := pm_nat hok
            have HX := Lib.hid (And.intro hok (And.intro e1 e2))
            have hT := pas.okRs_tot hok2
            have hAs := okRs_asc hok2
            obtain ⟨Z, hZ1, hZ2, hZ3⟩ := get_rows (nl_rd_rec ho)
            have hzl : Z.length = done.length := by rw [← hZ1, List.length_map]
            have HLD := Lib.hid (show Calls Try.prog 81 #[.slice A6 done.length c6, .int .i64 ((u : Int) + 1)] wr fun e w' => ∃ (go co : Nat) (vs : List Value) (Q : QS Pr), e = .returned (.slice (some ⟨go, 0, none⟩) (u + 1) co) ∧ wr.heap.size ≤ go ∧ go < w'.heap.size ∧ QsR wr w' wr.heap.size go co u vs Q ∧ proj Prod.snd Q = qm u done by
              have h := load_spec u A6 c6 Z wr hu hu2 (by omega) (by have := (nl_rd_rec ho).1; rw [hzl, ← hZ2]; exact this) hZ3
              rw [hzl, hZ1] at h
              exact h)
            have HRN := Lib.hid (fun (W : World) (go co : Nat) (vs0 : List Value) (Q0 : QS Pr) h1 h2 h3 => run_spec u done wr W go co vs0 Q0 hu hu2 hn1 hn2 hT hAs h1 h2 h3)
            have hbz := hb.size
            clear hok e1 e2
            go_wp2_with fail
            (with_reducible refine HLD.out.mono ?_)
            rintro e w2 ⟨go, co, vs2, Q2, rfl, hg1, hg2, hq2, hp2⟩
            have HRN2 := Lib.hid (HRN.out w2 go co vs2 Q2 hg1 (by
              exact ⟨hq2.tl, hq2.den, hq2.bel, hq2.sz, hq2.len⟩) hp2)
            clear hq2 hp2
            go_wp2_with fail
            (with_reducible refine HRN2.out.mono ?_)
            rintro e w3 ⟨A9, c9, rfl, hr9, hb9⟩
            have hb4 := below_at hb hbz hb9
            have HF := Lib.hid (show RdR w3 (.slice A9 (lastR u done).length c9) (lastR u done) from ⟨A9, c9, rfl, hr9⟩)
            clear hr9 hb9
            go_wp2
            go_ret3
            exact ⟨_, by rw [HX.out.1, HX.out.2.2]; rfl, by rw [HX.out.2.1]; exact HF.out, hb4⟩
          · have HX := Lib.hid (HNO.out (by rw [HOP.out, HR.out, decide_eq_false h64]))
            have q64 : (64 : Int) < (s : Int) := by omega
            have hb2 := hb.alloc hb.size (.cells #[] 87)
            go_wp2
            go_ret3
            exact ⟨_, by rw [HX.out.1, HX.out.2.2]; rfl, by rw [HX.out.2.1]; exact rdr_nil _ _, hb2⟩
end Go.Proofs.Ytgffabjajbgbjaa.pm
