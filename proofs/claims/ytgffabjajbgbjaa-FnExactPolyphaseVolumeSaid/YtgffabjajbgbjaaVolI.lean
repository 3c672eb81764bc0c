/- PolyphaseVolume, the program's. No condition. -/
import Derived.Test.YtgffabjajbgbjaaPlyI
import Derived.Test.YtgffabjajbgbjaaVolClo
import Derived.Test.YtgffabjajbgbjaaVolLaw
import Derived.Test.YtgffabjajbgbjaaDummies
set_option linter.unusedVariables false
set_option linter.unusedSimpArgs false
namespace Go.Proofs.Ytgffabjajbgbjaa.vol
open Go.RowKit Go.Proofs.Ytgffabjajbgbjaa.mem Go.Proofs.Ytgffabjajbgbjaa.nest Go.Proofs.Ytgffabjajbgbjaa.tape Go.Proofs.Ytgffabjajbgbjaa.qlaw Go.Proofs.Ytgffabjajbgbjaa.ply Go.Proofs.Ytgffabjajbgbjaa.level Go.Proofs.Ytgffabjajbgbjaa.dummies Go.Proofs.Ytgffabjajbgbjaa.phs Go.Proofs.Ytgffabjajbgbjaa.dists
theorem info_row2 : (Try.prog.info? 22).map (fun i => (i.zero, i.size, i.bytes)) = some (some (.slice none 0 0), 1, 24) := by kernel_rfl

def okh (hs : List Int) : Prop := (∀ z ∈ hs, 0 ≤ z ∧ z ≤ 1000) ∧ 0 ≤ hs.sum ∧ hs.sum ≤ 1000
def DEN : World → Int → Int → Prop := fun _ d b => d = b
theorem same_map : ∀ (hs : List (Int × Int)), (∀ p ∈ hs, p.1 = p.2) → hs.map Prod.fst = hs.map Prod.snd
  | [], _ => rfl
  | p :: hs, h => by
    rw [List.map_cons, List.map_cons, h p List.mem_cons_self, same_map hs fun q hq => h q (List.mem_cons_of_mem _ hq)]
set_option maxRecDepth 100000 in
theorem mrg (gm go base : Nat) : Mrg_int 72 gm go base DEN List.sum List.sum okh where
  ent := fun _ _ => rfl
  stab := fun _ h => h
  call := fun W A c hs m h8 hd hr hb hg hok hm1 hm2 => by
    have he := same_map hs hd
    have hl : hs.length = (hs.map Prod.snd).length := (List.length_map _).symm
    rw [he] at hr
    rw [hl] at hr ⊢
    refine (clo_any A c (hs.map Prod.snd) m gm W (by rw [List.length_map]; exact h8) (fun z hz => ⟨(hok.1 z hz).1, by have := (hok.1 z hz).2; omega⟩) hm1 hm2 (by have := hok.2.2; omega) hok.2.1 hr hb hg).mono ?_
    rintro e W' ⟨rfl, h1, h2⟩
    exact ⟨_, rfl, rfl, h1, h2, fun d' b' h => h⟩
def pr (z : Int) : Int × Int := (z, z)
def prs (Q : QS Int) : QS (Int × Int) := Q.map (List.map pr)
theorem prs_len (Q : QS Int) : (prs Q).length = Q.length := List.length_map _
theorem prs_at (Q : QS Int) (i : Nat) : (prs Q).getD i [] = (Q.getD i []).map pr := by
  unfold prs
  rw [List.getD_eq_getElem?_getD, List.getD_eq_getElem?_getD, List.getElem?_map]
  cases Q[i]? <;> rfl
theorem prs_set (Q : QS Int) (i : Nat) (q : List Int) : (prs Q).set i (q.map pr) = prs (Q.set i q) := by
  unfold prs; rw [List.map_set]
theorem prs_snd (Q : QS Int) : proj Prod.snd (prs Q) = Q := by
  unfold proj prs
  rw [List.map_map]
  conv => rhs; rw [← List.map_id Q]
  refine List.map_congr_left fun q _ => ?_
  simp [pr, Function.comp_def]
/-- the first i tapes are loaded -/
def fil (u r i : Nat) : QS Int := (List.range (u + 1)).map fun k => if k < i then col u r k else []
theorem fil_len (u r i : Nat) : (fil u r i).length = u + 1 := by simp [fil]
theorem fil_at (u r i : Nat) {k : Nat} (h : k < u + 1) : (fil u r i).getD k [] = if k < i then col u r k else [] := by
  rw [fil, List.getD_eq_getElem?_getD, List.getElem?_map, List.getElem?_range h]; rfl
theorem fil_all (u r : Nat) : fil u r u = q0 u r := by
  rw [fil, List.range_succ, List.map_append, q0]
  congr 1
  · refine List.map_congr_left fun k hk => ?_
    rw [if_pos (List.mem_range.1 hk)]
  · simp
theorem fil_step (u r : Nat) {i : Nat} (h : i < u + 1) : (fil u r i).set i (col u r i) = fil u r (i + 1) := by
  refine List.ext_getElem? fun k => ?_
  rw [List.getElem?_set]
  by_cases e : i = k
  · subst e
    rw [if_pos rfl, if_pos (by rw [fil_len]; exact h), fil, List.getElem?_map, List.getElem?_range h]
    simp
  · rw [if_neg e, fil, fil, List.getElem?_map, List.getElem?_map]
    by_cases hk : k < u + 1
    · rw [List.getElem?_range hk]
      simp only [Option.map_some]
      by_cases h1 : k < i
      · rw [if_pos h1, if_pos (by omega)]
      · rw [if_neg h1, if_neg (by omega)]
    · rw [List.getElem?_eq_none (by simpa using hk)]; rfl
theorem set_same (Q : QS Int) {i : Nat} (h : Q.getD i [] = []) (hi : i < Q.length) : Q.set i [] = Q := by
  refine List.ext_getElem? fun k => ?_
  rw [List.getElem?_set]
  by_cases e : i = k
  · subst e
    rw [if_pos rfl, if_pos hi, List.getElem?_eq_getElem hi]
    rw [List.getD_eq_getElem?_getD, List.getElem?_eq_getElem hi] at h
    rw [← h]; rfl
  · rw [if_neg e]
def nil1 : Value := .slice none 0 0
/-- nothing is loaded yet -/
theorem at_zero (w1 : World) (u r : Nat) (hu2 : u ≤ 7) : At_int w1 ((w1.alloc (.cells (rep (u + 1) nil1) 22)).alloc (.cells #[.int .i64 0] 3)) w1.heap.size (w1.heap.size + 2) w1.heap.size (w1.heap.size + 1) (u + 1) u DEN (List.replicate (u + 1) nil1) (prs (fil u r 0)) 0 := by
  obtain ⟨h1, h2, h3⟩ := box2 w1 22 3 (rep (u + 1) nil1) #[.int .i64 0]
  have hf : ∀ k, k < u + 1 → (fil u r 0).getD k [] = [] := fun k hk => by rw [fil_at u r 0 hk, if_neg (by omega)]
  refine ⟨⟨?_, by simp [dat_int, proj, prs, fil], fun i x q hx hq => ?_, fun i j v u2 _ hv _ => ?_, fun u2 hu2 => ?_⟩, ?_, h2, h3, by simp; omega, by rw [prs_len, fil_len]⟩
  · rw [List.length_replicate]
    have := Blk.own (base := w1.heap.size) (size := 1) (n := u + 1) (c := u + 1) h1 (Nat.le_refl _) (Nat.le_refl _) (by unfold maxLen; omega) (by simp [rep])
    simpa [rep] using this
  · have hx2 : x = nil1 := List.eq_of_mem_replicate (List.mem_of_getElem? hx)
    have hi : i < u + 1 := by
      have := (List.getElem?_eq_some_iff.1 hx).1
      simpa using this
    have hq2 : q = [] := by
      rw [dat_at_int _ (by rw [prs_len, fil_len]; exact hi), prs_at, hf i hi] at hq
      injection hq with hq
      exact hq.symm
    subst hx2; subst hq2
    exact Tp.nil _ _ _
  · have : v = nil1 := List.eq_of_mem_replicate (List.mem_of_getElem? hv)
    subst this
    exact Or.inl rfl
  · have : u2 = nil1 := List.eq_of_mem_replicate hu2
    subst this
    exact Or.inr (by simp [Value.ownBlock, nil1])
  · intro q hq x hx
    obtain ⟨i, hi, rfl⟩ := List.getElem_of_mem hq
    rw [prs_len, fil_len] at hi
    have := prs_at (fil u r 0) i
    rw [hf i hi, getD_getElem _ (by rw [prs_len, fil_len]; exact hi)] at this
    rw [this] at hx
    cases hx
section
variable {w W W' : World} {b0 base go gm co u r i : Nat} {vs : List Value} {q : List Int}
theorem set_at {i : Nat} (hi : i < u + 1) : (prs ((fil u r i).set i q)).getD i [] = q.map pr := by
  rw [prs_at, getD_set _ _ _ _ (by rw [fil_len]; exact hi), if_pos rfl]
theorem fst_pr (q : List Int) : (q.map pr).map Prod.fst = q := by
  rw [List.map_map]
  conv => rhs; rw [← List.map_id q]
  rfl
theorem at_col (h : At_int w W b0 base go gm co u DEN vs (prs ((fil u r i).set i q)) 0) (hi : i < u + 1) : ∃ A c, vs[i]? = some (.slice A q.length c) ∧ Tp W base 3 (.slice A q.length c) (ints q) ∧ W.cell? ⟨go, i, none⟩ = some (.slice A q.length c) := by
  obtain ⟨A, c, h1, h2, h3, h4, h5⟩ := h.at hi
  rw [set_at hi, List.length_map] at h1 h4 h5
  rw [fst_pr] at h4
  exact ⟨A, c, h1, h4, h5⟩
theorem push_col (h : At_int w W b0 base go gm co u DEN vs (prs ((fil u r i).set i q)) 0) (hne : go ≠ gm) (hgb : gm < base) (hbb : b0 ≤ base) (hb0 : b0 ≤ go) (hw : b0 ≤ W.heap.size) (hi : i < u + 1) {z : Int} {xv x' : Value} (hx : vs[i]? = some xv)
    (ho : Tp W' base 3 x' (ints q ++ ints [z])) (hg : W.grownBy W' xv.ownBlock) (hn : NewAt W xv x') : At_int w (W'.setCell ⟨go, i, none⟩ x') b0 base go gm co u DEN (vs.set i x') (prs ((fil u r i).set i (q ++ [z]))) 0 := by
  have hp := h.push (mrg gm go base) hne hgb hbb hb0 hw hi (d := z) (b := z) hx (by rw [set_at hi, fst_pr]; exact ho) hg hn rfl
  rw [set_at hi, show q.map pr ++ [(z, z)] = (q ++ [z]).map pr by rw [List.map_append]; rfl, prs_set, List.set_set] at hp
  exact hp
end
def resP (t r : Int) : Int := if can t r = true then (lev (t.toNat - 1) r.toNat : Int) else 0
def resM (t r : Int) : Int := if can t r = true then (phn List.sum List.sum (q0 (t.toNat - 1) r.toNat, (0 : Int)) (lev (t.toNat - 1) r.toNat)).2 else 0
set_option maxRecDepth 100000 in
set_option maxHeartbeats 8000000 in
theorem vol_impl (t r : Int) (w : World) : Calls Try.prog 32 #[.int .i64 t, .int .i64 r] w fun e w' => e = .returned (.tuple #[.int .i64 (resP t r), .int .i64 (resM t r), .bool (can t r)]) ∧ Below w.heap.size w w' := by
  cases hc : can t r with
  | false =>
    have HR := Lib.hid (show resP t r = 0 ∧ resM t r = 0 by simp [resP, resM, hc])
    have HC := Lib.hid (level.impl_can t r w)
    rw [hc] at HC
    clear hc
    go_enter Try.func32, Try.ntmps32
    go_wp2_with fail
    refine HC.out.mono ?_
    rintro e w1 ⟨rfl, rfl⟩
    go_wp2
    go_ret3
    exact ⟨by rw [HR.out.1, HR.out.2]; rfl, Below.refl _ _⟩
  | true =>
    have HCAN := Lib.hid (level.impl_can t r w)
    rw [hc] at HCAN
    obtain ⟨u, n, ⟨hu, hu2⟩, ⟨hn1, hn2⟩, rfl, rfl⟩ := level.can_nat hc
    have HR := Lib.hid (show resP ((u : Int) + 1) (n : Int) = (lev u n : Int) ∧ resM ((u : Int) + 1) (n : Int) = (phn List.sum List.sum (q0 u n, (0 : Int)) (lev u n)).2 by
      rw [resP, resM, if_pos hc, if_pos hc, show ((u : Int) + 1).toNat - 1 = u by omega, Int.toNat_natCast]; exact ⟨rfl, rfl⟩)
    have HD := Lib.hid (dummies.impl_dum u n w hu hu2 hn2)
    have HLV := Lib.hid (dumLaw.exists_lev hu hu2 hn2)
    have hmk : ∀ W : World, (Instr.makeSlice 36 (.int .i64 ((u : Int) + 1)) (.int .i64 ((u : Int) + 1))).run Try.prog W = .ok (.slice (some ⟨W.heap.size, 0, none⟩) (u + 1) (u + 1)) (W.alloc (.cells (rep (u + 1) nil1) 22)) := fun W => by
      have := make_rep (P := Try.prog) 36 22 nil1 24 Try.underlying36 info_row2 rfl (u + 1) (by omega) (by unfold maxLen; omega) W
      rwa [show ((u + 1 : Nat) : Int) = (u : Int) + 1 by omega] at this
    have HDL := Lib.hid (dum_len (r := n) hu)
    clear hc
    go_enter Try.func32, Try.ntmps32
    go_wp2_with fail
    refine HCAN.out.mono ?_
    rintro e w1 ⟨rfl, rfl⟩
    go_wp2_with fail
    (with_reducible refine HD.out.mono ?_)
    rintro e w1 ⟨v, x, rfl, hov, hox, _, hb1⟩
    obtain ⟨AR, cR, rfl, _, _, hrR⟩ := own_form hov
    obtain ⟨AD, cD, rfl, _, _, hrD⟩ := own_form hox
    have HRR := Lib.hid (show Rd w1 1 AR (dum u n).1.length (ints (dum u n).1) by rw [HDL.out.1]; exact hrR)
    have HRD := Lib.hid (show Rd w1 1 AD (dum u n).2.length (ints (dum u n).2) by rw [HDL.out.2]; exact hrD)
    clear hov hox HD hrR hrD
    have HAZ := Lib.hid (at_zero w1 u n hu2)
    have hcm := (box2 w1 22 3 (rep (u + 1) nil1) #[.int .i64 0]).2.1.cell 0
    have hfm := (box2 w1 22 3 (rep (u + 1) nil1) #[.int .i64 0]).2.1.thaw 0
    have HB1 := Lib.hid hb1
    clear hb1
    go_wp2
    clear hcm hfm
    go_loopg [28] (u + 1) (fun f i wr => ∃ (k : Nat) (vs : List Value), u < k + f ∧ k ≤ u ∧ i = .int .i64 (k : Int) ∧ At_int w1 wr w1.heap.size (w1.heap.size + 2) w1.heap.size (w1.heap.size + 1) (u + 1) u DEN vs (prs (fil u n k)) 0)
    case atStart => exact ⟨0, _, by omega, by omega, rfl, HAZ.out⟩
    case round =>
      obtain ⟨k, vs, hkf, hk, rfl, hat⟩ := hrel
      have HAT := Lib.hid hat
      have hb := hat.bel
      have hsz := hat.sz
      by_cases hlt : k < u
      · have q1 : (k : Int) < (u : Int) := by omega
        have hkd : k < (dum u n).2.length := by rw [HDL.out.2]; exact hlt
        have hkr : k < (dum u n).1.length := by rw [HDL.out.1]; exact hlt
        have HLN := Lib.hid (lens hu hu2 hn2 k)
        obtain ⟨bD, oD, rfl, cD0⟩ := HRD.out.int hkd
        obtain ⟨bR, oR, rfl, cR0⟩ := HRR.out.int hkr
        rw [← getD_in _ hkd, ← HLN.out.1] at cD0
        rw [← getD_in _ hkr, ← HLN.out.2.1] at cR0
        have hbd := (sum_le2 hu hu2 hn2 k)
        have HCD := Lib.hid cD0
        have HCR := Lib.hid cR0
        clear cD0 cR0 hat
        obtain ⟨gO, hgO⟩ : ∃ gO, gO = gk := ⟨_, rfl⟩
        have HGO := Lib.hid (And.intro hkf hgO)
        have HS0 := Lib.hid (show At_int w1 wr w1.heap.size (w1.heap.size + 2) w1.heap.size (w1.heap.size + 1) (u + 1) u DEN vs (prs ((fil u n k).set k (List.replicate 0 0))) 0 by
          rw [List.replicate_zero, set_same _ (by rw [fil_at u n k (by omega), if_neg (by omega)]) (by rw [fil_len]; omega)]; exact HAT.out)
        have HSC := Lib.hid (fil_step u n (i := k) (by omega))
        have HCL := Lib.hid (show col u n k = List.replicate (dl u n k) 0 ++ List.replicate (rl u n k) 1 from rfl)
        generalize dl u n k = D at HCD HLN HCL hbd
        generalize rl u n k = R at HCR HLN HCL hbd
        have cD1 := cells_below hb HCD.out
        clear hkf hgO HAT hb hsz hkd hkr
        go_wp2
        go_loopg [35] (D + 1) (fun f j wr => ∃ (jj : Nat) (vs : List Value), D < jj + f ∧ jj ≤ D ∧ j = .int .i64 (jj : Int) ∧ At_int w1 wr w1.heap.size (w1.heap.size + 2) w1.heap.size (w1.heap.size + 1) (u + 1) u DEN vs (prs ((fil u n k).set k (List.replicate jj 0))) 0)
        case atStart => exact ⟨0, vs, by omega, by omega, rfl, HS0.out⟩
        case round =>
          obtain ⟨jj, vs, hjf, hj, rfl, hat⟩ := hrel
          by_cases hjl : jj < D
          · have q2 : (jj : Int) < (D : Int) := by omega
            obtain ⟨A, c, hvi, htp, hcell⟩ := at_col hat (by omega)
            rw [List.length_replicate] at hvi htp hcell
            have hbw : w1.heap.size + 2 ≤ wr.heap.size := by have := hat.box.lt; omega
            have hh : (ints (List.replicate jj (0 : Int))).length ≤ 1099511627776 := by rw [len_ints, List.length_replicate]; omega
            go_wp2_with (at_builtin; refine tape.push_tp _ rfl _ _ 22 rfl (w1.heap.size + 2) 3 _ 8 Try.underlying22 mem.info_int rfl (.slice A jj c) (ints (List.replicate jj 0)) rfl htp _ rfl (.int .i64 0) _ rfl rfl hh (by decide) hbw ?_; intro v' w' ho' hg' hnw'; have htk := hat.top.kept hg' (hat.tl.apt _ (List.mem_of_getElem? hvi)); have hcw := own_cell htk hvi; have hfw := own_thaw htk k; obtain ⟨A', c', hve, hf1, hf2, hf3⟩ := ho'.form; rw [List.length_append, len_ints, List.length_replicate, List.length_singleton] at hve; clear hf1 hf2 hf3; subst hve)
            have HN := Lib.hid (push_col hat (by omega) (by omega) (by omega) (Nat.le_refl _) (by omega) (by omega) (z := 0) hvi ho' hg' hnw')
            clear ho' hg' hnw' htk hcw hfw hcell htp hvi hat
            go_wp2
            go_roundg (gk - 1)
            case measure => omega
            case rel => exact ⟨jj + 1, _, by omega, by omega, by go_num, by rw [List.replicate_succ']; exact HN.out⟩
          · obtain rfl : jj = D := by omega
            have q2 : ¬ (jj : Int) < (jj : Int) := by omega
            have HS1 := Lib.hid (show At_int w1 wr w1.heap.size (w1.heap.size + 2) w1.heap.size (w1.heap.size + 1) (u + 1) u DEN vs (prs ((fil u n k).set k (List.replicate jj 0 ++ List.replicate 0 1))) 0 by rw [List.replicate_zero, List.append_nil]; exact hat)
            have cR1 := cells_below hat.bel HCR.out
            clear hat cD1
            obtain ⟨wo, hwo⟩ : ∃ wo : World, wo = wr := ⟨_, rfl⟩
            rw [← hwo] at HS1 cR1 ⊢
            clear hwo
            go_wp2
            go_loopg [51] (R + 1) (fun f j wr => ∃ (m : Nat) (vs : List Value), R < m + f ∧ m ≤ R ∧ j = .int .i64 (m : Int) ∧ At_int w1 wr w1.heap.size (w1.heap.size + 2) w1.heap.size (w1.heap.size + 1) (u + 1) u DEN vs (prs ((fil u n k).set k (List.replicate jj 0 ++ List.replicate m 1))) 0)
            case atStart => exact ⟨0, vs, by omega, by omega, rfl, HS1.out⟩
            case round =>
              obtain ⟨m, vs, hmf, hm, rfl, hat⟩ := hrel
              by_cases hml : m < R
              · have q2 : (m : Int) < (R : Int) := by omega
                obtain ⟨A, c, hvi, htp, hcell⟩ := at_col hat (by omega)
                rw [List.length_append, List.length_replicate, List.length_replicate] at hvi htp hcell
                have hbw : w1.heap.size + 2 ≤ wr.heap.size := by have := hat.box.lt; omega
                have hh : (ints (List.replicate jj (0 : Int) ++ List.replicate m 1)).length ≤ 1099511627776 := by rw [len_ints, List.length_append, List.length_replicate, List.length_replicate]; omega
                go_wp2_with (at_builtin; refine tape.push_tp _ rfl _ _ 22 rfl (w1.heap.size + 2) 3 _ 8 Try.underlying22 mem.info_int rfl (.slice A (jj + m) c) (ints (List.replicate jj 0 ++ List.replicate m 1)) rfl htp _ rfl (.int .i64 1) _ rfl rfl hh (by decide) hbw ?_; intro v' w' ho' hg' hnw'; have htk := hat.top.kept hg' (hat.tl.apt _ (List.mem_of_getElem? hvi)); have hcw := own_cell htk hvi; have hfw := own_thaw htk k; obtain ⟨A', c', hve, hf1, hf2, hf3⟩ := ho'.form; rw [List.length_append, len_ints, List.length_append, List.length_replicate, List.length_replicate, List.length_singleton] at hve; clear hf1 hf2 hf3; subst hve)
                have HN := Lib.hid (push_col hat (by omega) (by omega) (by omega) (Nat.le_refl _) (by omega) (by omega) (z := 1) hvi ho' hg' hnw')
                clear ho' hg' hnw' htk hcw hfw hcell htp hvi hat
                go_wp2
                go_roundg (gk - 1)
                case measure => omega
                case rel => exact ⟨m + 1, _, by omega, by omega, by go_num, by rw [List.replicate_succ', ← List.append_assoc]; exact HN.out⟩
              · obtain rfl : m = R := by omega
                have q2 : ¬ (m : Int) < (m : Int) := by omega
                have HN := Lib.hid (show At_int w1 wr w1.heap.size (w1.heap.size + 2) w1.heap.size (w1.heap.size + 1) (u + 1) u DEN vs (prs (fil u n (k + 1))) 0 by rw [← HSC.out, HCL.out]; exact hat)
                clear hat cR1
                go_wp2
                go_roundg (gO - 1)
                case measure => have := HGO.out; omega
                case rel => exact ⟨k + 1, _, by have := HGO.out; omega, by omega, by go_num, HN.out⟩
      · obtain rfl : k = u := by omega
        have q1 : ¬ (k : Int) < (k : Int) := by omega
        rw [fil_all] at hat
        have hb0 : w1.heap.size + 2 ≤ wr.heap.size := by have := hat.box.lt; omega
        have HAA := Lib.hid (show At_int wr wr w1.heap.size (w1.heap.size + 2) w1.heap.size (w1.heap.size + 1) (k + 1) k DEN vs (prs (q0 k n)) 0 from ⟨hat.tl, hat.den, hat.box, Below.refl _ _, Nat.le_refl _, hat.len⟩)
        have HGD := Lib.hid (q0_good hu hu2 hn2)
        have HC0 := Lib.hid (q0_cnt hu hu2 hn2)
        have HPP := Lib.hid (poly_int (mrg (w1.heap.size + 1) w1.heap.size (w1.heap.size + 2)) (q0 k n, (0 : Int)) (prs (q0 k n)) vs (k + 1) k (lev k n) wr w1.heap.size hu hu2 HLV.out.2 HC0.out (prs_snd _) (by omega) (by omega) (by omega) hb0 HAA.out (fun i hi j hj => by
          obtain ⟨h1, h2, h3⟩ := HGD.out.stt (S := (q0 k n, (0 : Int))) hu HLV.out.2 hn2 HC0.out hi j (Nat.le_of_lt hj)
          have h4 := h1.heads (toOf (st k (lev k n) i))
          rw [stt_len, q0_len] at h4
          refine ⟨⟨fun z hz => ⟨(h4.1 z hz).1, by have := (h4.1 z hz).2; omega⟩, h4.2.1, by omega⟩, ?_, ?_⟩
          · simp only at h2; omega
          · simp only at h3; omega))
        have hmf : ∀ (fn : Fn) (first cap : Array Value) (w : World), (Instr.makeFunc fn first cap).run Try.prog w = .ok (.func fn first cap) w := fun _ _ _ _ => rfl
        have HBW := Lib.hid (below_step HB1.out hat.bel)
        clear hat
        go_wp2_with fail
        (with_reducible refine HPP.out.mono ?_)
        rintro e w3 ⟨d, b, rfl, _, _, hbx, hb3⟩
        have hcm := hbx.cell 0
        have hb4 := HBW.out.trans (hb3.mono HB1.out.size)
        go_wp2_with fail
        go_quiet (fail)
        have hb5 := below_drewN hb4 nq
        go_wp2
        go_ret3
        exact ⟨by rw [HR.out.1, HR.out.2]; rfl, hb5⟩
end Go.Proofs.Ytgffabjajbgbjaa.vol
