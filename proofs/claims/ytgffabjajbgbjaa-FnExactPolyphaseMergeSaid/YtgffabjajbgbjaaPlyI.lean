/- polyphase: all phases on queues, the program's. Condition: the counts are a perfect distribution; the merge's own contract. -/
import Derived.Test.YtgffabjajbgbjaaTapes
import Derived.Test.YtgffabjajbgbjaaQLaw
import Derived.Test.YtgffabjajbgbjaaConcat
import Derived.Test.YtgffabjajbgbjaaRow
import Derived.Deep.DeepCutAuto
import Derived.Deep.CutBlock
import Derived.Deep.RegionHeld3
set_option linter.unusedVariables false
set_option linter.unusedSimpArgs false
namespace Go.Proofs.Ytgffabjajbgbjaa.ply
open Go.RowKit Go.Proofs.Ytgffabjajbgbjaa.mem Go.Proofs.Ytgffabjajbgbjaa.nest Go.Proofs.Ytgffabjajbgbjaa.tape Go.Proofs.Ytgffabjajbgbjaa.qlaw Go.Proofs.Ytgffabjajbgbjaa.phases Go.Proofs.Ytgffabjajbgbjaa.phs

theorem getD_getElem {α : Type} (Q : List (List α)) {i : Nat} (h : i < Q.length) : Q.getD i [] = Q[i] := by
  rw [List.getD_eq_getElem?_getD, List.getElem?_eq_getElem h]; rfl
theorem cnt_take {β : Type} (Q : QS β) {i : Nat} (h : i < Q.length) : (cnt Q).take (i + 1) = (cnt Q).take i ++ [((Q.getD i []).length : Int)] := by
  rw [List.take_succ_eq_append_getElem (by rw [cnt_len]; exact h), getD_getElem Q h]
  simp [cnt]
theorem flat_proj {β γ : Type} (f : γ → β) (Q : QS γ) : (proj f Q).flatten = Q.flatten.map f := by
  unfold proj; rw [List.map_flatten]
section
variable {β : Type}
/-- the queues' own data -/
def dat_int (Q : QS (Int × β)) : List (List Value) := (proj Prod.fst Q).map ints
theorem dat_len_int (Q : QS (Int × β)) : (dat_int Q).length = Q.length := by rw [dat_int, List.length_map, proj_len]
theorem dat_at_int (Q : QS (Int × β)) {i : Nat} (h : i < Q.length) : (dat_int Q)[i]? = some (ints ((Q.getD i []).map Prod.fst)) := by
  rw [dat_int, List.getElem?_map, proj, List.getElem?_map, List.getElem?_eq_getElem h, getD_getElem Q h]; rfl
theorem dat_set_int (Q : QS (Int × β)) (i : Nat) (q : List (Int × β)) : dat_int (Q.set i q) = (dat_int Q).set i (ints (q.map Prod.fst)) := by
  rw [dat_int, proj_set, List.map_set]; rfl
/-- what is asked of the merge -/
structure Mrg_int (f : FuncId) (gm go base : Nat) (Den : World → Int → β → Prop) (mg : List β → β) (wt : List β → Int) (ok : List β → Prop) : Prop where
  ent : Enters f
  stab : ∀ {W W' : World} {d : Int} {b : β}, Clm W W' (some go) base 3 → Den W d b → Den W' d b
  call : ∀ (W : World) (A : Option Addr) (c : Nat) (hs : List (Int × β)) (m : Int), hs.length ≤ 8 → (∀ p ∈ hs, Den W p.1 p.2) → Rd W 1 A hs.length (ints (hs.map Prod.fst)) → Blk W gm 3 #[.int .i64 m] → (∀ b off, A = some ⟨b, off, none⟩ → b ≠ gm) → ok (hs.map Prod.snd) → -1099511627776 ≤ m → m ≤ 1099511627776 →
    Calls Try.prog f #[.slice A hs.length c, .pointer (some ⟨gm, 0, none⟩)] W fun e W' => ∃ d : Int, e = .returned (.int .i64 d) ∧ Den W' d (mg (hs.map Prod.snd)) ∧ Blk W' gm 3 #[.int .i64 (m + wt (hs.map Prod.snd))] ∧ W.grownBy W' (some gm) ∧ ∀ (d' : Int) (b' : β), Den W d' b' → Den W' d' b'
/-- the state between two merges -/
structure At_int (w W : World) (b0 base go gm co u : Nat) (Den : World → Int → β → Prop) (vs : List Value) (Q : QS (Int × β)) (m : Int) : Prop where
  tl : TL W b0 base 3 22 (.slice (some ⟨go, 0, none⟩) (u + 1) co) vs (dat_int Q)
  den : All (fun p => Den W p.1 p.2) Q
  box : Blk W gm 3 #[.int .i64 m]
  bel : Below b0 w W
  sz : w.heap.size ≤ W.heap.size
  len : Q.length = u + 1
section
variable {w W W' : World} {b0 base go gm co u : Nat} {Den : World → Int → β → Prop} {mg : List β → β} {wt : List β → Int} {ok : List β → Prop} {f : FuncId} {vs : List Value} {Q : QS (Int × β)} {m : Int}
theorem At_int.below (h : At_int w W b0 base go gm co u Den vs Q m) (M : Mrg_int f gm go base Den mg wt ok) (hw : b0 ≤ W.heap.size) (hb : Below W.heap.size W W') : At_int w W' b0 base go gm co u Den vs Q m :=
  ⟨h.tl.below hb, fun q hq x hx => M.stab (Clm.below hb) (h.den q hq x hx), h.box.below hb h.box.lt, below_at h.bel hw hb, Nat.le_trans h.sz hb.size, h.len⟩
theorem At_int.vl (h : At_int w W b0 base go gm co u Den vs Q m) : vs.length = u + 1 := by rw [h.tl.len, dat_len_int, h.len]
theorem At_int.top (h : At_int w W b0 base go gm co u Den vs Q m) : W.ownsRow b0 22 1 (.slice (some ⟨go, 0, none⟩) (u + 1) co) (u + 1) vs := by
  have ht := h.tl.top
  rwa [h.vl] at ht
theorem At_int.at (h : At_int w W b0 base go gm co u Den vs Q m) {i : Nat} (hi : i < u + 1) : ∃ A c, vs[i]? = some (.slice A (Q.getD i []).length c) ∧ (Q.getD i []).length ≤ c ∧ c ≤ maxLen ∧ Tp W base 3 (.slice A (Q.getD i []).length c) (ints ((Q.getD i []).map Prod.fst)) ∧ W.cell? ⟨go, i, none⟩ = some (.slice A (Q.getD i []).length c) := by
  have hi2 : i < Q.length := by rw [h.len]; exact hi
  have hd := dat_at_int Q hi2
  have hi3 : i < (dat_int Q).length := by rw [dat_len_int]; exact hi2
  obtain ⟨A, c, h1, h2, h3, h4⟩ := h.tl.at hi3
  have he : (dat_int Q)[i] = ints ((Q.getD i []).map Prod.fst) := by
    rw [List.getElem?_eq_getElem hi3] at hd; exact Option.some.inj hd
  have hl : ((dat_int Q)[i]).length = (Q.getD i []).length := by rw [he, len_ints, List.length_map]
  rw [he, len_ints, List.length_map] at h4
  rw [hl] at h1 h2
  have hv : vs.length = u + 1 := by rw [h.tl.len, dat_len_int, h.len]
  have ht := h.tl.top
  rw [hv] at ht
  exact ⟨A, c, h1, h2, h3, h4, own_cell ht h1⟩
theorem At_int.row (h : At_int w W b0 base go gm co u Den vs Q m) (M : Mrg_int f gm go base Den mg wt ok) {B n : Nat} {rv : Value} {xs : List Value} (hr : W.ownsRow B 3 1 rv n xs) (hB : base ≤ B) (hw : b0 ≤ W.heap.size) (hbB : b0 ≤ B) (hv : ∀ x ∈ vs, ∀ n, x.ownBlock = some n → n < B) (h1 : go < B) (h2 : gm < B) (hg : W.grownBy W' rv.ownBlock) : At_int w W' b0 base go gm co u Den vs Q m := by
  have hlow : ∀ k, rv.ownBlock = some k → B ≤ k := fun k hk => (hr.lt k hk).1
  refine ⟨h.tl.kept hg (Or.inr fun e => by have := hlow go e.symm; omega) (fun x hx => ?_), fun q hq x hx => M.stab (Clm.of_tp (Tp.of_own (own_base hr hB)) hg) (h.den q hq x hx), h.box.grown hg (fun e => by have := hlow gm e.symm; omega), ?_, Nat.le_trans h.sz hg.size, h.len⟩
  · cases hx2 : x.ownBlock with
    | none => exact Or.inl rfl
    | some k => exact Or.inr fun e => by have := hlow k e.symm; have := hv x hx k hx2; omega
  · exact below_grown h.bel hw hg (fun k hk => Nat.le_trans hbB (hlow k hk))
theorem At_int.tail (h : At_int w W b0 base go gm co u Den vs Q m) (M : Mrg_int f gm go base Den mg wt ok) (hne : go ≠ gm) (hb0 : b0 ≤ go) {i : Nat} (hi : i < u + 1) {A : Option Addr} {d : Nat} {x : Int × β} {q : List (Int × β)} (hx : vs[i]? = some (.slice A (q.length + 1) d)) (hq : Q.getD i [] = x :: q) :
    At_int w (W.setCell ⟨go, i, none⟩ (.slice (cutA A d 1 1) q.length (d - 1))) b0 base go gm co u Den (vs.set i (.slice (cutA A d 1 1) q.length (d - 1))) (Q.set i q) m ∧ (Value.slice (cutA A d 1 1) q.length (d - 1)).ownBlock = (Value.slice A (q.length + 1) d).ownBlock := by
  have hi2 : i < Q.length := by rw [h.len]; exact hi
  have hdq := dat_at_int Q hi2
  rw [hq] at hdq
  have hrow := h.tl.rows i _ _ hx hdq
  have ht := Tp.tail (show Tp W base 3 (.slice A (q.length + 1) d) (_ :: ints (q.map Prod.fst)) from hrow)
  refine ⟨⟨?_, ?_, h.box.far (p := ⟨go, i, none⟩) (fun e => hne e.symm) _, h.bel.setCell (p := ⟨go, i, none⟩) hb0 _, by simpa [World.setCell] using h.sz, by rw [List.length_set]; exact h.len⟩, ht.2⟩
  · rw [dat_set_int]
    exact h.tl.tail hx hdq
  · refine All.set (fun r hr y hy => M.stab (Clm.of_none (set_grown W go i _) (Or.inr rfl)) (h.den r hr y hy)) i (fun y hy => M.stab (Clm.of_none (set_grown W go i _) (Or.inr rfl)) (h.den (Q.getD i []) ?_ y (by rw [hq]; exact List.mem_cons_of_mem _ hy)))
    rw [getD_getElem Q hi2]; exact List.getElem_mem hi2
theorem At_int.called (h : At_int w W b0 base go gm co u Den vs Q m) (hne : go ≠ gm) (hgb : gm < base) (hb0 : b0 ≤ gm) (hw : b0 ≤ W.heap.size) {m' : Int} (hg : W.grownBy W' (some gm)) (hbx : Blk W' gm 3 #[.int .i64 m']) (hd : ∀ (d : Int) (b : β), Den W d b → Den W' d b) : At_int w W' b0 base go gm co u Den vs Q m' := by
  have hk : ∀ x ∈ vs, x.ownBlock = none ∨ x.ownBlock ≠ some gm := fun x hx => by
    cases hx2 : x.ownBlock with
    | none => exact Or.inl rfl
    | some k =>
      refine Or.inr fun e => ?_
      injection e with e
      have := (h.tl.lt.2 x hx k hx2).1
      omega
  exact ⟨h.tl.kept hg (Or.inr fun e => hne (by injection e)) hk, fun q hq x hx => hd _ _ (h.den q hq x hx), hbx, below_grown h.bel hw hg (fun k e => by injection e with e; omega), Nat.le_trans h.sz hg.size, h.len⟩
theorem At_int.push (h : At_int w W b0 base go gm co u Den vs Q m) (M : Mrg_int f gm go base Den mg wt ok) (hne : go ≠ gm) (hgb : gm < base) (hbb : b0 ≤ base) (hb0 : b0 ≤ go) (hw : b0 ≤ W.heap.size) {i : Nat} (hi : i < u + 1) {xv x' : Value} {d : Int} {b : β} (hx : vs[i]? = some xv)
    (ho : Tp W' base 3 x' (ints ((Q.getD i []).map Prod.fst) ++ ints [d])) (hg : W.grownBy W' xv.ownBlock) (hn : NewAt W xv x') (hd : Den W d b) :
    At_int w (W'.setCell ⟨go, i, none⟩ x') b0 base go gm co u Den (vs.set i x') (Q.set i (Q.getD i [] ++ [(d, b)])) m := by
  have hi2 : i < Q.length := by rw [h.len]; exact hi
  have hi3 : i < (dat_int Q).length := by rw [dat_len_int]; exact hi2
  have hcl := Clm.put (x' := x') h.tl hx hi3 hg
  have hlow : ∀ k, xv.ownBlock = some k → base ≤ k := fun k hk => (h.tl.lt.2 xv (List.mem_of_getElem? hx) k hk).1
  refine ⟨?_, All.set (fun r hr y hy => M.stab hcl (h.den r hr y hy)) i (fun y hy => ?_), (h.box.grown hg (fun e => by have := hlow gm e.symm; omega)).far (p := ⟨go, i, none⟩) (fun e => hne e.symm) _, (below_grown h.bel hw hg (fun k hk => Nat.le_trans hbb (hlow k hk))).setCell (p := ⟨go, i, none⟩) hb0 _, Nat.le_trans h.sz (by have := hg.size; simpa [World.setCell] using this), by rw [List.length_set]; exact h.len⟩
  · rw [dat_set_int, List.map_append, ints_app]
    exact h.tl.put hx hi3 ho hg hn
  · rcases List.mem_append.1 hy with h1 | h1
    · refine M.stab hcl (h.den (Q.getD i []) ?_ y h1)
      rw [getD_getElem Q hi2]; exact List.getElem_mem hi2
    · obtain rfl := List.mem_singleton.1 h1
      exact M.stab hcl hd
end
theorem sls_int {w W : World} {b0 base go gm co u : Nat} {Den : World → Int → β → Prop} {vs : List Value} {Q : QS (Int × β)} {m : Int} (h : At_int w W b0 base go gm co u Den vs Q m) : SLs W 1 vs ((proj Prod.fst Q).map fun l => (l.length, ints l)) := by
  refine ⟨by rw [h.vl, List.length_map, proj_len, h.len], fun i h1 h2 => ?_⟩
  have hi : i < u + 1 := by rw [← h.vl]; exact h2
  have hi2 : i < Q.length := by rw [h.len]; exact hi
  obtain ⟨A, c, e1, e2, e3, e4, _⟩ := h.at hi
  rw [List.getElem?_eq_getElem h2] at e1
  injection e1 with e1
  obtain ⟨A', c', e5, e6, e7, e8⟩ := e4.form
  injection e5 with f1 f2 f3
  subst f1; subst f3
  rw [len_ints, List.length_map] at e8
  have e9 : (proj Prod.fst Q)[i]'(by rw [proj_len]; exact hi2) = (Q.getD i []).map Prod.fst := by
    have := proj_at Prod.fst Q i
    rwa [getD_getElem _ (by rw [proj_len]; exact hi2)] at this
  simp only [List.getElem_map, e9, List.length_map]
  exact ⟨A, c, e1, e2, e3, e8⟩
set_option maxRecDepth 100000 in
set_option maxHeartbeats 8000000 in
theorem poly_int {f : FuncId} {gm go base : Nat} {Den : World → Int → β → Prop} {mg : List β → β} {wt : List β → Int} {ok : List β → Prop} (M : Mrg_int f gm go base Den mg wt ok)
    (S0 : QS β × Int) (Q0 : QS (Int × β)) (vs0 : List Value) (co u L : Nat) (w : World) (b0 : Nat) (hu : 2 ≤ u) (hu2 : u ≤ 7) (hL : L ≤ 15) (h0 : cnt S0.1 = st u L 0) (hp : proj Prod.snd Q0 = S0.1)
    (hb0 : b0 ≤ gm) (hgb : gm < base) (hgo : go ≠ gm) (hbw : base ≤ w.heap.size) (hA : At_int w w b0 base go gm co u Den vs0 Q0 S0.2)
    (hok : ∀ k, k < L → ∀ j, j < manyOf (st u L k) → ok (hds (toOf (st u L k)) (stt mg wt u L S0 k j).1 (u + 1)) ∧ -1099511627776 ≤ (stt mg wt u L S0 k j).2 ∧ (stt mg wt u L S0 k j).2 ≤ 1099511627776) :
    Calls Try.prog 71 #[.slice (some ⟨go, 0, none⟩) (u + 1) co, .func (.func f) #[] #[.pointer (some ⟨gm, 0, none⟩)]] w fun e w' => ∃ (d : Int) (b : β), e = .returned (.tuple #[(.int .i64 d), .int .i64 (L : Int)]) ∧ Den w' d b ∧ (phn mg wt S0 L).1.flatten = [b] ∧ Blk w' gm 3 #[.int .i64 (phn mg wt S0 L).2] ∧ Below b0 w w' := by
  have HM := Lib.hid M
  have HOK := Lib.hid hok
  have HA := Lib.hid hA
  have H0 := Lib.hid h0
  have HP := Lib.hid hp
  have hent := M.ent
  unfold Enters at hent
  clear M hok hA h0 hp
  go_enter Try.func71, Try.ntmps71
  go_wp2
  go_loopg [6] (L + 1) (fun f ph wr => ∃ (k : Nat) (Q : QS (Int × β)) (vs : List Value), L < k + f ∧ k ≤ L ∧ ph = .int .i64 (k : Int) ∧ proj Prod.snd Q = (phn mg wt S0 k).1 ∧ At_int w wr b0 base go gm co u Den vs Q (phn mg wt S0 k).2)
  case atStart => exact ⟨0, Q0, vs0, by omega, by omega, rfl, HP.out, HA.out⟩
  case round =>
    obtain ⟨k, Q, vs, hkf, hk, rfl, hpq, hat⟩ := hrel
    have HAT := Lib.hid hat
    have HPQ := Lib.hid hpq
    have HCQ := Lib.hid (show cnt Q = st u L k by rw [← proj_cnt Prod.snd Q, hpq, phn_cnt mg wt hu hL H0.out k hk])
    have hQl := hat.len
    have hsz := hat.sz
    obtain ⟨gO, hgO⟩ : ∃ gO, gO = gk := ⟨_, rfl⟩
    have HGO := Lib.hid (And.intro hkf hgO)
    have HC0 := Lib.hid (World.ownsRow_made (e := 3) (size := 1) wr #[] 0 (Nat.le_refl _) (Nat.zero_le _) (by simp))
    have HCB := Lib.hid ((Below.refl wr.heap.size wr).alloc (Nat.le_refl _) (.cells #[] 3))
    have hbz : b0 ≤ wr.heap.size := by omega
    clear hkf hgO hat hpq
    obtain ⟨wa, hwa⟩ : ∃ wa : World, wa = wr := ⟨_, rfl⟩
    rw [← hwa] at HC0 HCB HAT hsz hbz ⊢
    clear hwa
    go_wp2
    go_loopg [7, 19] (u + 2) (fun f v i wr => ∃ i' : Nat, u + 1 < i' + f ∧ i' ≤ u + 1 ∧ i = .int .i64 (i' : Int) ∧ wr.ownsRow wa.heap.size 3 1 v i' (ints ((cnt Q).take i')) ∧ Below wa.heap.size wa wr)
    case atStart => exact ⟨0, by omega, by omega, rfl, HC0.out, HCB.out⟩
    case round =>
      obtain ⟨i, hif, hi, rfl, hov, hb⟩ := hrel
      have hbs := hb.size
      by_cases hlt : i < u + 1
      · have q1 : (i : Int) < (u : Int) + 1 := by omega
        obtain ⟨A, c, _, hc1, hc2, _, hcell⟩ := (HAT.out.below HM.out hbz hb).at hlt
        have HCT := Lib.hid (cnt_take Q (i := i) (by omega))
        have hlen : (Q.getD i []).length ≤ 32768 := by
          have h1 := cnt_at Q i
          rw [HCQ.out] at h1
          have h2 := st_bd hu hL hk i
          omega
        generalize (Q.getD i []).length = l at hcell hc1 HCT hlen
        obtain ⟨A1, c1, rfl, hc3, hc4, _⟩ := own_form hov
        have hh : i ≤ 1099511627776 := by omega
        go_wp2_with (at_builtin; refine mem.push_at _ rfl _ _ 22 rfl wa.heap.size 3 _ 1 8 Try.underlying22 mem.info_int rfl Nat.one_pos (.slice A1 i c1) _ _ rfl hov (ints [(l : Int)]) _ rfl (mem.ints_one [(l : Int)]) rfl hh (by decide) hbs ?_; intro v' w' ho' hg' hnw')
        have hb2 := below_push hb hbs hg' hov
        go_wp2
        go_roundg (gk - 1)
        case measure => omega
        case rel => exact ⟨i + 1, by omega, by omega, by go_num, by rw [HCT.out, ints_app]; exact ho', hb2⟩
      · obtain rfl : i = u + 1 := by omega
        have hcl : (st u L k).length = u + 1 := st_len hu hL hk
        have hcq : (cnt Q).take (u + 1) = st u L k := by rw [HCQ.out]; exact List.take_of_length_le (by omega)
        rw [hcq] at hov
        have HA1 := Lib.hid (HAT.out.below HM.out hbz hb)
        obtain ⟨A7, c7, rfl, _, _, hr7⟩ := own_form hov
        have hr7' := hr7
        rw [← hcl] at hr7'
        have HTD := Lib.hid (st_tidy hu hL hk)
        have HSUM := Lib.hid (sums.impl_any A7 c7 (st u L k) wr (by omega) (perfect.small_of HTD.out) hr7')
        have HPH := Lib.hid (impl_phase A7 c7 (st u L k) wr (by omega) HTD.out hr7')
        rw [hcl] at HSUM HPH
        have HMO := Lib.hid (st_more hu hL hk)
        have HS0 := Lib.hid (show k = L → (st u L k).sum = 1 from fun e => by rw [st_sum hu hL hk, e, Nat.sub_self, sum_zero])
        clear hr7 hr7' hov hcq HC0 HCB HAT
        have hbz1 : b0 ≤ wr.heap.size := Nat.le_trans hbz hbs
        clear hb hbs
        obtain ⟨wb, hwb⟩ : ∃ wb : World, wb = wr := ⟨_, rfl⟩
        rw [← hwb] at HA1 HSUM HPH hbz1 ⊢
        clear hwb hcl
        go_wp2_with fail
        with_reducible refine HSUM.out.mono ?_
        rintro e w2 ⟨rfl, rfl⟩
        by_cases hkL : k < L
        · have hsum : 1 < (st u L k).sum := HMO.out.2 hkL
          have HAB := Lib.hid (ph_st hu hL hkL)
          have HEZ := Lib.hid (show ez (st u L k) (u + 1) = (toOf (st u L k) : Int) by have := HAB.out.ez.1; rwa [st_len hu hL hk] at this)
          have HMZ := Lib.hid (show mz (st u L k) (u + 1) = (manyOf (st u L k) : Int) by have := HAB.out.mz; rwa [st_len hu hL hk] at this)
          have hsn : ¬ (st u L k).sum = 1 := by omega
          have hsb : ((st u L k).sum == 1) = false := by simpa using hsn
          generalize (st u L k).sum = sm at hsum hsn hsb ⊢
          go_wp2_with fail
          with_reducible refine HPH.out.mono ?_
          rintro e w2 ⟨x, y, rfl, hxy, rfl⟩
          obtain ⟨rfl, rfl⟩ := hxy HAB.out.able
          clear hxy
          have HTO := Lib.hid (to_lt hu hL hkL)
          rw [HEZ.out, HMZ.out]
          have HAT2 := Lib.hid (show At_int w wb b0 base go gm co u Den vs Q (stt mg wt u L S0 k 0).2 from HA1.out)
          have HPQ2 := Lib.hid (show proj Prod.snd Q = (stt mg wt u L S0 k 0).1 from HPQ.out)
          have HNE := Lib.hid (fun (j : Nat) (hj : j < manyOf (st u L k)) (i : Nat) (hi : i < u + 1) (hne : i ≠ toOf (st u L k)) => stt_ne (mg := mg) (wt := wt) hu hL H0.out hkL hj hi hne)
          have HCN := Lib.hid (fun (j : Nat) (hj : j < manyOf (st u L k)) (i : Nat) (hi : i < u + 1) => stt_cnt (mg := mg) (wt := wt) hu hL H0.out hkL (Nat.le_of_lt hj) hi)
          have HBD := Lib.hid (fun i => st_bd hu hL (Nat.le_of_lt hkL) i)
          have HALL := Lib.hid (stt_all (mg := mg) (wt := wt) hu hL H0.out hkL)
          have HOKk := Lib.hid (HOK.out k hkL)
          have htlt := HTO.out
          have hmb := many_le hu hL hkL
          clear HPH HSUM HAB HEZ HMZ HMO HS0 HTD hsum hsn hsb HA1 HPQ HCQ hQl
          have HSTP := Lib.hid (fun j => show stt mg wt u L S0 k (j + 1) = ms mg wt (toOf (st u L k)) (stt mg wt u L S0 k j) from rfl)
          generalize toOf (st u L k) = te at HTO HNE HCN HOKk HSTP htlt ⊢
          generalize manyOf (st u L k) = mm at HNE HCN HALL HOKk hmb ⊢
          go_wp2
          go_loopg [39] (mm + 1) (fun f i wr => ∃ (j : Nat) (Q : QS (Int × β)) (vs : List Value), mm < j + f ∧ j ≤ mm ∧ i = .int .i64 (j : Int) ∧ proj Prod.snd Q = (stt mg wt u L S0 k j).1 ∧ At_int w wr b0 base go gm co u Den vs Q (stt mg wt u L S0 k j).2)
          case atStart => exact ⟨0, Q, vs, by omega, by omega, rfl, HPQ2.out, HAT2.out⟩
          case round =>
            obtain ⟨j, Q, vs, hjf, hj, rfl, hpq, hat⟩ := hrel
            by_cases hjlt : j < mm
            · have HOKj := Lib.hid (HOKk.out j hjlt)
              have HNEj := Lib.hid (fun (i : Nat) (hi : i < u + 1) (hne : i ≠ te) => show (Q.getD i []) ≠ [] from fun e => HNE.out j hjlt i hi hne (by rw [← hpq, proj_at, e]; rfl))
              have HLNj := Lib.hid (fun (i : Nat) => show (Q.getD i []).length ≤ 65536 from by
                by_cases hi : i < u + 1
                · have h1 := HCN.out j hjlt i hi
                  have h2 := HBD.out i
                  rw [← hpq, proj_cnt, cnt_at] at h1
                  split at h1 <;> omega
                · rw [List.getD_eq_getElem?_getD, List.getElem?_eq_none (by rw [hat.len]; omega)]; simp)
              have hQl := hat.len
              have HPQj := Lib.hid hpq
              have hbz3 : b0 ≤ wr.heap.size := by have := hat.sz; omega
              have HAj := Lib.hid (hat.below HM.out hbz3 ((Below.refl _ _).alloc (Nat.le_refl _) (.cells #[] 3)))
              have HR0 := Lib.hid (World.ownsRow_made (e := 3) (size := 1) wr #[] 0 (Nat.le_refl _) (Nat.zero_le _) (by simp))
              have HLT := Lib.hid hat.tl.lt
              have HSZ := Lib.hid (show wr.heap.size ≤ (wr.alloc (.cells #[] 3)).heap.size by simp)
              have hwm0 := hat.sz
              have q2 : (j : Int) < (mm : Int) := by omega
              obtain ⟨gj, hgj⟩ : ∃ gj, gj = gk := ⟨_, rfl⟩
              have HGJ := Lib.hid (And.intro hjf hgj)
              obtain ⟨wm, hwm⟩ : ∃ wm : World, wm = wr := ⟨_, rfl⟩
              rw [← hwm] at HAj HR0 HLT HSZ hbz3 hwm0 ⊢
              clear hwm hpq hat hjf hgj
              go_wp2
              go_loopg [13, 44] (u + 2) (fun f rv i wr2 => ∃ (i' : Nat) (vs' : List Value), u + 1 < i' + f ∧ i' ≤ u + 1 ∧ i = .int .i64 (i' : Int) ∧ wr2.ownsRow wm.heap.size 3 1 rv (hds te Q i').length (ints ((hds te Q i').map Prod.fst)) ∧ At_int w wr2 b0 base go gm co u Den vs' (tls te Q i') (stt mg wt u L S0 k j).2 ∧ (∀ x ∈ vs', ∀ n, x.ownBlock = some n → n < wm.heap.size) ∧ wm.heap.size ≤ wr2.heap.size ∧ ∀ p ∈ hds te Q i', Den wr2 p.1 p.2)
              case atStart => exact ⟨0, vs, by omega, by omega, rfl, HR0.out, HAj.out, fun x hx n hn => (HLT.out.2 x hx n hn).2, HSZ.out, fun p hp => by cases hp⟩
              case round =>
                obtain ⟨i, vs', hif, hi, rfl, hrv, hat, hvl, hrz, hdh⟩ := hrel
                by_cases hlt : i < u + 1
                · have q3 : (i : Int) < (u : Int) + 1 := by omega
                  obtain ⟨A, c, hvi, hc1, hc2, htp, hcell⟩ := hat.at hlt
                  rw [tls_here te Q (by omega)] at hvi hc1 htp hcell
                  by_cases hie : i = te
                  · have HRV := Lib.hid (show wr.ownsRow wm.heap.size 3 1 _ (hds te Q (i + 1)).length (ints ((hds te Q (i + 1)).map Prod.fst)) by rw [hds_same hie]; exact hrv)
                    have HAT3 := Lib.hid (show At_int w wr b0 base go gm co u Den vs' (tls te Q (i + 1)) _ by rw [tls_same hie]; exact hat)
                    have HDH := Lib.hid (show ∀ p ∈ hds te Q (i + 1), Den wr p.1 p.2 by rw [hds_same hie]; exact hdh)
                    clear hvi htp hdh
                    subst hie
                    go_wp2
                    go_roundg (gk - 1)
                    case measure => omega
                    case rel => exact ⟨i + 1, _, by omega, by omega, by go_num, HRV.out, HAT3.out, hvl, hrz, HDH.out⟩
                  · obtain ⟨x, q, hxq⟩ : ∃ x q, Q.getD i [] = x :: q := by
                      cases hq : Q.getD i [] with
                      | nil => exact absurd hq (HNEj.out i hlt hie)
                      | cons x q => exact ⟨x, q, rfl⟩
                    have HH := Lib.hid (hds_more hie hxq)
                    have HT := Lib.hid (tls_more hie hxq)
                    have HLq := Lib.hid (HLNj.out i)
                    rw [hxq] at hvi hc1 htp hcell HLq
                    have hql := HLq.out
                    simp only [List.length_cons] at hvi hc1 htp hcell hql
                    obtain ⟨g, o, rfl, hq1, hq2, hq3, hhd, hbg⟩ := Tp.head (show Tp wr base 3 (.slice A (q.length + 1) c) (_ :: ints (q.map Prod.fst)) from htp)
                    clear hq1 hq2 hq3
                    replace hhd : wr.cell? ⟨g, o, none⟩ = some ((fun d : Int => (.int .i64 d)) x.1) := hhd
                    simp only at hhd
                    have hfz := own_thaw hat.top i
                    have hru := fun W => run_from (P := Try.prog) 22 3 _ 1 8 Try.underlying22 mem.info_int (some ⟨g, o, none⟩) (q.length + 1) c 1 (1 : Int) rfl (by omega) W
                    obtain ⟨Ar, cr, rfl, hcr1, hcr2, _⟩ := own_form hrv
                    have hhl : (hds te Q i).length ≤ 1099511627776 := by have := hds_len te Q i; omega
                    have hie2 : ¬ (i : Int) = (te : Int) := by omega
                    have q4 : ((i : Int) == (te : Int)) = false := by simpa using hie2
                    go_wp2_with fail
                    have hrvd : wr.drew.ownsRow wm.heap.size 3 1 (.slice Ar (hds te Q i).length cr) (hds te Q i).length (ints ((hds te Q i).map Prod.fst)) := hrv
                    have htopd : wr.drew.ownsRow b0 22 1 (.slice (some ⟨go, 0, none⟩) (u + 1) co) (u + 1) vs' := hat.top
                    have hne1 : (Value.slice (some ⟨go, 0, none⟩) (u + 1) co).ownBlock ≠ (Value.slice Ar (hds te Q i).length cr).ownBlock := fun e => by
                      have h1 := (hrv.lt go e.symm).1
                      have h2 := (HLT.out.1 go rfl).2
                      omega
                    go_region_law ((first
                      | (refine mem.step_push_atH wr.drew rfl (.tmp 54) (.tmp 58) 22 rfl wm.heap.size 3 _ 1 8 Try.underlying22 mem.info_int rfl Nat.one_pos (.slice Ar (hds te Q i).length cr) (hds te Q i).length (ints ((hds te Q i).map Prod.fst)) (by simp [Act.eval, Act.put]) hrvd wr.drew.heap.size rfl (ints [x.1]) 1 rfl (mem.ints_one [x.1]) (by simp [Act.eval, Act.put]) hhl (by decide) hrz ?_; intro v' w' ho' hg' hnw'; have htk := htopd.kept hg' (Or.inr hne1); have hcw := own_cell htk hvi; have hfw := own_thaw htk i)))
                    have hatr := At_int.row (hat.below HM.out (by omega) (show Below wr.heap.size wr wr.drew from below_drewN (Below.refl _ _) 1)) HM.out hrvd (by omega) (show b0 ≤ wr.heap.size by omega) (by omega) hvl (HLT.out.1 go rfl).2 (by omega) hg'
                    obtain ⟨hat2, hob2⟩ := hatr.tail HM.out hgo (HLT.out.1 go rfl).1 hlt hvi (by rw [tls_here te Q (by omega)]; exact hxq)
                    have hrv2 := own_far ho' (p := ⟨go, i, none⟩) (fun e => by have h1 := (ho'.lt _ e).1; have h2 := (HLT.out.1 go rfl).2; simp at h1; omega) (.slice (cutA (some ⟨g, o, none⟩) c 1 1) q.length (c - 1))
                    have hsz2 : wm.heap.size ≤ (w'.setCell ⟨go, i, none⟩ (.slice (cutA (some ⟨g, o, none⟩) c 1 1) q.length (c - 1))).heap.size := by
                      have := hg'.size
                      simp only [World.setCell, Array.size_modify]
                      exact Nat.le_trans hrz this
                    have hvl2 : ∀ y ∈ vs'.set i (.slice (cutA (some ⟨g, o, none⟩) c 1 1) q.length (c - 1)), ∀ n, y.ownBlock = some n → n < wm.heap.size := fun y hy n hn => by
                      rcases List.mem_or_eq_of_mem_set hy with h1 | h1
                      · exact hvl y h1 n hn
                      · subst h1
                        rw [hob2] at hn
                        exact hvl _ (List.mem_of_getElem? hvi) n hn
                    have hcalm := ((Clm.below (go := some go) (base := base) (e := 3) (show Below wr.heap.size wr wr.drew from below_drewN (Below.refl _ _) 1)).trans (Clm.of_tp (Tp.of_own (own_base hrvd (by omega))) hg')).trans (Clm.of_none (set_grown w' go i (.slice (cutA (some ⟨g, o, none⟩) c 1 1) q.length (c - 1))) (Or.inr rfl))
                    have hdx := hat.den (Q.getD i []) (by
                      have := tls_here te Q (i := i) (by omega)
                      rw [← this, getD_getElem _ (by rw [tls_len]; omega)]; exact List.getElem_mem _) x (by rw [hxq]; exact List.mem_cons_self)
                    have HDH := Lib.hid (show ∀ p ∈ hds te Q (i + 1), Den (w'.setCell ⟨go, i, none⟩ (.slice (cutA (some ⟨g, o, none⟩) c 1 1) q.length (c - 1))) p.1 p.2 by
                      rw [HH.out]
                      intro p hp
                      rcases List.mem_append.1 hp with h1 | h1
                      · exact HM.out.stab hcalm (hdh p h1)
                      · obtain rfl := List.mem_singleton.1 h1
                        exact HM.out.stab hcalm hdx)
                    clear hdh hdx hcalm
                    obtain ⟨A8, c8, rfl, _, _, _⟩ := own_form ho'
                    go_wp2
                    go_roundg (gk - 1)
                    case measure => omega
                    case rel => exact ⟨i + 1, _, by omega, by omega, by go_num, by rw [HH.out, List.length_append, List.map_append, ints_app]; exact hrv2, by rw [HT.out]; exact hat2, hvl2, hsz2, HDH.out⟩
                · obtain rfl : i = u + 1 := by omega
                  have hte : te < u + 1 := HTO.out
                  have hhq : (tls te Q (u + 1)).getD te [] = Q.getD te [] := by
                    rw [tls_at te Q (u + 1) (by omega), if_neg (fun h => h.2 rfl)]
                  obtain ⟨qt, hqt⟩ : ∃ qt, qt = Q.getD te [] := ⟨_, rfl⟩
                  rw [← hqt] at hhq
                  obtain ⟨A, c, hvi, hc1, hc2, htp, hcell⟩ := hat.at hte
                  rw [hhq] at hvi hc1 htp hcell
                  have HLq := Lib.hid (HLNj.out te)
                  rw [← hqt] at HLq
                  have HQT := Lib.hid hqt
                  have HHQ := Lib.hid hhq
                  clear hqt hhq
                  obtain ⟨Ar, cr, rfl, hcr1, hcr2, hrr⟩ := own_form hrv
                  have HOKM := Lib.hid (show ok ((hds te Q (u + 1)).map Prod.snd) ∧ -1099511627776 ≤ (stt mg wt u L S0 k j).2 ∧ (stt mg wt u L S0 k j).2 ≤ 1099511627776 by
                    have := HOKj.out
                    rw [← HPQj.out, proj_hds] at this
                    exact this)
                  have hh8 := hds_len te Q (u + 1)
                  have HDN := Lib.hid (hat.below HM.out (by omega) (show Below wr.heap.size wr wr.drew from below_drewN (Below.refl _ _) 1))
                  have HDH := Lib.hid (show ∀ p ∈ hds te Q (u + 1), Den wr.drew p.1 p.2 from fun p hp => HM.out.stab (Clm.below (show Below wr.heap.size wr wr.drew from below_drewN (Below.refl _ _) 1)) (hdh p hp))
                  have HCALL := Lib.hid (HM.out.call wr.drew Ar cr (hds te Q (u + 1)) (stt mg wt u L S0 k j).2 (by omega) HDH.out hrr.drew HDN.out.box (fun b off e => by subst e; have h1 := (hrv.lt b rfl).1; omega) HOKM.out.1 HOKM.out.2.1 HOKM.out.2.2)
                  have hgl : qt.length ≤ 65536 := HLq.out
                  have q5 : (te : Int) < (u : Int) + 1 := by omega
                  have hcelld : wr.drew.cell? ⟨go, te, none⟩ = some (.slice A qt.length c) := hcell
                  have htpd : Tp wr.drew base 3 (.slice A qt.length c) (ints (qt.map Prod.fst)) := htp.drewN 1
                  have hgg : ∀ xv : Value, xv = .slice A qt.length c → xv.ownBlock = none ∨ xv.ownBlock ≠ some gm := fun xv e => by
                    subst e
                    cases hx2 : (Value.slice A qt.length c).ownBlock with
                    | none => exact Or.inl rfl
                    | some n =>
                      refine Or.inr fun e => ?_
                      injection e with e
                      have := (htp.lt n hx2).1
                      omega
                  have hgl2 : (ints (qt.map Prod.fst)).length ≤ 1099511627776 := by rw [len_ints, List.length_map]; omega
                  go_wp2_with fail
                  go_region_law ((first
                    | (go_simp; (with_reducible refine HCALL.out.mono ?_); rintro e w3 ⟨d, rfl, hd3, hbx3, hg3, hst3⟩; have hat3 := HDN.out.called hgo hgb hb0 (show b0 ≤ wr.heap.size by omega) hg3 hbx3 hst3; have hc3 := hg3.cell hcelld (fun e => hgo (by injection e)); have hc3a : (w3.alloc (.cells #[(.int .i64 d)] 3)).cell? ⟨go, te, none⟩ = some (.slice A qt.length c) := cells_below ((Below.refl _ _).alloc (Nat.le_refl _) _) hc3; have htp3 := htpd.kept hg3 (hgg _ rfl); have hb3 : base ≤ w3.heap.size := (show base ≤ w3.heap.size from Nat.le_trans (show base ≤ wr.heap.size by omega) hg3.size))
                    | (refine tape.step_push_tp w3 rfl (.tmp 69) (.tmp 73) 22 rfl base 3 _ 8 Try.underlying22 mem.info_int rfl (.slice A qt.length c) (ints (qt.map Prod.fst)) (by simp [Act.eval, Act.put]) htp3 w3.heap.size rfl (.int .i64 d) 1 rfl (by simp [Act.eval, Act.put]) hgl2 (by decide) hb3 ?_; intro v' w' ho' hg' hnw'; have htk := hat3.top.kept hg' (hat3.tl.apt _ (List.mem_of_getElem? hvi)); have hcw := own_cell htk hvi; have hfw := own_thaw htk te; obtain ⟨A', c', hve, hf1, hf2, hf3⟩ := ho'.form; rw [List.length_append, len_ints, List.length_map, List.length_singleton] at hve; clear hf1 hf2 hf3; subst hve)))
                  all_goals
                    have hqd : (tls te Q (u + 1)).getD te [] = qt := HHQ.out
                    have hat4 := hat3.push HM.out hgo hgb (show b0 ≤ base by omega) (HLT.out.1 go rfl).1 (show b0 ≤ w3.heap.size by omega) hte hvi (by rw [hqd]; exact ho') hg' hnw' hd3
                    rw [hqd] at hat4
                    have hp1 := proj_one Prod.snd mg te Q (d, mg ((hds te Q Q.length).map Prod.snd)) rfl
                    rw [hQl, ← HQT.out] at hp1
                    have hs2 : (stt mg wt u L S0 k (j + 1)).2 = (stt mg wt u L S0 k j).2 + wt ((hds te Q (u + 1)).map Prod.snd) := by
                      rw [HSTP.out j]
                      show (stt mg wt u L S0 k j).2 + wt (hds te (stt mg wt u L S0 k j).1 (stt mg wt u L S0 k j).1.length) = _
                      rw [← HPQj.out, proj_len, hQl, proj_hds]
                    have hs1 : proj Prod.snd ((tls te Q (u + 1)).set te (qt ++ [(d, mg ((hds te Q (u + 1)).map Prod.snd))])) = (stt mg wt u L S0 k (j + 1)).1 := by
                      rw [HSTP.out j]
                      show _ = one mg te (stt mg wt u L S0 k j).1
                      rw [← HPQj.out]
                      exact hp1
                    rw [← hs2] at hat4
                    have HN := Lib.hid (And.intro hs1 hat4)
                    clear hp1 hs2 hs1 hat4 ho' hg' hnw' hcw hfw htk hc3 hc3a hcelld hcell
                    go_wp2
                    go_roundg (gj - 1)
                    case measure => have := HGJ.out; omega
                    case rel => exact ⟨j + 1, _, _, by have := HGJ.out; omega, by omega, by go_num, HN.out.1, HN.out.2⟩
            · obtain rfl : j = mm := by omega
              have q2 : ¬ (j : Int) < (j : Int) := by omega
              have HF := Lib.hid (And.intro (show proj Prod.snd Q = (phn mg wt S0 (k + 1)).1 from by
                  show _ = (stt mg wt u L S0 (k + 1) 0).1
                  rw [← HALL.out]; exact hpq) (show At_int w wr b0 base go gm co u Den vs Q (phn mg wt S0 (k + 1)).2 from by
                  show At_int w wr b0 base go gm co u Den vs Q (stt mg wt u L S0 (k + 1) 0).2
                  rw [← HALL.out]; exact hat))
              clear hpq hat
              go_wp2
              go_roundg (gO - 1)
              case measure => have := HGO.out; omega
              case rel => exact ⟨k + 1, Q, vs, by have := HGO.out; omega, by omega, by go_num, HF.out.1, HF.out.2⟩
        · obtain rfl : k = L := by omega
          have hsum := HS0.out rfl
          have hfl := flat_one (mg := mg) (wt := wt) hu hL H0.out
          rw [← HPQ.out, flat_proj, List.length_map] at hfl
          obtain ⟨p, hp⟩ := List.length_eq_one_iff.1 hfl
          have hpd : Den wb p.1 p.2 := by
            obtain ⟨q, hq, hpq⟩ := List.mem_flatten.1 (show p ∈ Q.flatten by rw [hp]; exact List.mem_singleton.2 rfl)
            exact HA1.out.den q hq p hpq
          have hvl := HA1.out.vl
          have HCC := Lib.hid (concat.concat_int (some ⟨go, 0, none⟩) co vs (proj Prod.fst Q) wb (by rw [hvl]; exact own_rd HA1.out.top) (sls_int HA1.out) (by rw [proj_len, hQl]; omega) (by rw [flat_proj, hp]; simp))
          rw [hvl, flat_proj, hp] at HCC
          have HPF := Lib.hid (show (phn mg wt S0 k).1.flatten = [p.2] by rw [← HPQ.out, flat_proj, hp]; rfl)
          have HPD := Lib.hid hpd
          obtain ⟨d, b⟩ := p
          rw [hsum]
          clear hsum hfl hp hpd hvl HSUM HPH
          go_wp2_with fail
          (with_reducible refine HCC.out.mono ?_)
          rintro e w9 ⟨v9, rfl, ho9, hb9⟩
          obtain ⟨A9, c9, rfl, _, _, _⟩ := own_form (show w9.ownsRow wb.heap.size 3 1 v9 1 (ints [d]) from ho9)
          obtain ⟨g9, rfl, _, _⟩ := own_addr (show w9.ownsRow wb.heap.size 3 1 (.slice A9 1 c9) 1 (ints [d]) from ho9) (by omega)
          have hx9 := own_cell (show w9.ownsRow wb.heap.size 3 1 (.slice (some ⟨g9, 0, none⟩) 1 c9) 1 (ints [d]) from ho9) (i := 0) rfl
          have HF := Lib.hid (HA1.out.below HM.out hbz1 hb9)
          have HDF := Lib.hid (HM.out.stab (Clm.below hb9) HPD.out)
          clear ho9 hb9
          go_wp2
          go_ret2
          exact ⟨d, b, rfl, HDF.out, HPF.out, HF.out.box, HF.out.bel⟩
end
section
variable {β : Type}
/-- the queues' own data -/
def dat_row (Q : QS (Row × β)) : List (List Value) := (proj Prod.fst Q).map rws
theorem dat_len_row (Q : QS (Row × β)) : (dat_row Q).length = Q.length := by rw [dat_row, List.length_map, proj_len]
theorem dat_at_row (Q : QS (Row × β)) {i : Nat} (h : i < Q.length) : (dat_row Q)[i]? = some (rws ((Q.getD i []).map Prod.fst)) := by
  rw [dat_row, List.getElem?_map, proj, List.getElem?_map, List.getElem?_eq_getElem h, getD_getElem Q h]; rfl
theorem dat_set_row (Q : QS (Row × β)) (i : Nat) (q : List (Row × β)) : dat_row (Q.set i q) = (dat_row Q).set i (rws (q.map Prod.fst)) := by
  rw [dat_row, proj_set, List.map_set]; rfl
/-- what is asked of the merge -/
structure Mrg_row (f : FuncId) (gm go base : Nat) (Den : World → Row → β → Prop) (mg : List β → β) (wt : List β → Int) (ok : List β → Prop) : Prop where
  ent : Enters f
  stab : ∀ {W W' : World} {d : Row} {b : β}, Clm W W' (some go) base 54 → Den W d b → Den W' d b
  call : ∀ (W : World) (A : Option Addr) (c : Nat) (hs : List (Row × β)) (m : Int), hs.length ≤ 8 → (∀ p ∈ hs, Den W p.1 p.2) → Rd W 1 A hs.length (rws (hs.map Prod.fst)) → Blk W gm 3 #[.int .i64 m] → (∀ b off, A = some ⟨b, off, none⟩ → b ≠ gm) → ok (hs.map Prod.snd) → -1099511627776 ≤ m → m ≤ 1099511627776 →
    Calls Try.prog f #[.slice A hs.length c, .pointer (some ⟨gm, 0, none⟩)] W fun e W' => ∃ d : Row, e = .returned (.slice d.1 d.2.1 d.2.2) ∧ Den W' d (mg (hs.map Prod.snd)) ∧ Blk W' gm 3 #[.int .i64 (m + wt (hs.map Prod.snd))] ∧ W.grownBy W' (some gm) ∧ ∀ (d' : Row) (b' : β), Den W d' b' → Den W' d' b'
/-- the state between two merges -/
structure At_row (w W : World) (b0 base go gm co u : Nat) (Den : World → Row → β → Prop) (vs : List Value) (Q : QS (Row × β)) (m : Int) : Prop where
  tl : TL W b0 base 54 47 (.slice (some ⟨go, 0, none⟩) (u + 1) co) vs (dat_row Q)
  den : All (fun p => Den W p.1 p.2) Q
  box : Blk W gm 3 #[.int .i64 m]
  bel : Below b0 w W
  sz : w.heap.size ≤ W.heap.size
  len : Q.length = u + 1
section
variable {w W W' : World} {b0 base go gm co u : Nat} {Den : World → Row → β → Prop} {mg : List β → β} {wt : List β → Int} {ok : List β → Prop} {f : FuncId} {vs : List Value} {Q : QS (Row × β)} {m : Int}
theorem At_row.below (h : At_row w W b0 base go gm co u Den vs Q m) (M : Mrg_row f gm go base Den mg wt ok) (hw : b0 ≤ W.heap.size) (hb : Below W.heap.size W W') : At_row w W' b0 base go gm co u Den vs Q m :=
  ⟨h.tl.below hb, fun q hq x hx => M.stab (Clm.below hb) (h.den q hq x hx), h.box.below hb h.box.lt, below_at h.bel hw hb, Nat.le_trans h.sz hb.size, h.len⟩
theorem At_row.vl (h : At_row w W b0 base go gm co u Den vs Q m) : vs.length = u + 1 := by rw [h.tl.len, dat_len_row, h.len]
theorem At_row.top (h : At_row w W b0 base go gm co u Den vs Q m) : W.ownsRow b0 47 1 (.slice (some ⟨go, 0, none⟩) (u + 1) co) (u + 1) vs := by
  have ht := h.tl.top
  rwa [h.vl] at ht
theorem At_row.at (h : At_row w W b0 base go gm co u Den vs Q m) {i : Nat} (hi : i < u + 1) : ∃ A c, vs[i]? = some (.slice A (Q.getD i []).length c) ∧ (Q.getD i []).length ≤ c ∧ c ≤ maxLen ∧ Tp W base 54 (.slice A (Q.getD i []).length c) (rws ((Q.getD i []).map Prod.fst)) ∧ W.cell? ⟨go, i, none⟩ = some (.slice A (Q.getD i []).length c) := by
  have hi2 : i < Q.length := by rw [h.len]; exact hi
  have hd := dat_at_row Q hi2
  have hi3 : i < (dat_row Q).length := by rw [dat_len_row]; exact hi2
  obtain ⟨A, c, h1, h2, h3, h4⟩ := h.tl.at hi3
  have he : (dat_row Q)[i] = rws ((Q.getD i []).map Prod.fst) := by
    rw [List.getElem?_eq_getElem hi3] at hd; exact Option.some.inj hd
  have hl : ((dat_row Q)[i]).length = (Q.getD i []).length := by rw [he, len_rws, List.length_map]
  rw [he, len_rws, List.length_map] at h4
  rw [hl] at h1 h2
  have hv : vs.length = u + 1 := by rw [h.tl.len, dat_len_row, h.len]
  have ht := h.tl.top
  rw [hv] at ht
  exact ⟨A, c, h1, h2, h3, h4, own_cell ht h1⟩
theorem At_row.row (h : At_row w W b0 base go gm co u Den vs Q m) (M : Mrg_row f gm go base Den mg wt ok) {B n : Nat} {rv : Value} {xs : List Value} (hr : W.ownsRow B 54 1 rv n xs) (hB : base ≤ B) (hw : b0 ≤ W.heap.size) (hbB : b0 ≤ B) (hv : ∀ x ∈ vs, ∀ n, x.ownBlock = some n → n < B) (h1 : go < B) (h2 : gm < B) (hg : W.grownBy W' rv.ownBlock) : At_row w W' b0 base go gm co u Den vs Q m := by
  have hlow : ∀ k, rv.ownBlock = some k → B ≤ k := fun k hk => (hr.lt k hk).1
  refine ⟨h.tl.kept hg (Or.inr fun e => by have := hlow go e.symm; omega) (fun x hx => ?_), fun q hq x hx => M.stab (Clm.of_tp (Tp.of_own (own_base hr hB)) hg) (h.den q hq x hx), h.box.grown hg (fun e => by have := hlow gm e.symm; omega), ?_, Nat.le_trans h.sz hg.size, h.len⟩
  · cases hx2 : x.ownBlock with
    | none => exact Or.inl rfl
    | some k => exact Or.inr fun e => by have := hlow k e.symm; have := hv x hx k hx2; omega
  · exact below_grown h.bel hw hg (fun k hk => Nat.le_trans hbB (hlow k hk))
theorem At_row.tail (h : At_row w W b0 base go gm co u Den vs Q m) (M : Mrg_row f gm go base Den mg wt ok) (hne : go ≠ gm) (hb0 : b0 ≤ go) {i : Nat} (hi : i < u + 1) {A : Option Addr} {d : Nat} {x : Row × β} {q : List (Row × β)} (hx : vs[i]? = some (.slice A (q.length + 1) d)) (hq : Q.getD i [] = x :: q) :
    At_row w (W.setCell ⟨go, i, none⟩ (.slice (cutA A d 1 1) q.length (d - 1))) b0 base go gm co u Den (vs.set i (.slice (cutA A d 1 1) q.length (d - 1))) (Q.set i q) m ∧ (Value.slice (cutA A d 1 1) q.length (d - 1)).ownBlock = (Value.slice A (q.length + 1) d).ownBlock := by
  have hi2 : i < Q.length := by rw [h.len]; exact hi
  have hdq := dat_at_row Q hi2
  rw [hq] at hdq
  have hrow := h.tl.rows i _ _ hx hdq
  have ht := Tp.tail (show Tp W base 54 (.slice A (q.length + 1) d) (_ :: rws (q.map Prod.fst)) from hrow)
  refine ⟨⟨?_, ?_, h.box.far (p := ⟨go, i, none⟩) (fun e => hne e.symm) _, h.bel.setCell (p := ⟨go, i, none⟩) hb0 _, by simpa [World.setCell] using h.sz, by rw [List.length_set]; exact h.len⟩, ht.2⟩
  · rw [dat_set_row]
    exact h.tl.tail hx hdq
  · refine All.set (fun r hr y hy => M.stab (Clm.of_none (set_grown W go i _) (Or.inr rfl)) (h.den r hr y hy)) i (fun y hy => M.stab (Clm.of_none (set_grown W go i _) (Or.inr rfl)) (h.den (Q.getD i []) ?_ y (by rw [hq]; exact List.mem_cons_of_mem _ hy)))
    rw [getD_getElem Q hi2]; exact List.getElem_mem hi2
theorem At_row.called (h : At_row w W b0 base go gm co u Den vs Q m) (hne : go ≠ gm) (hgb : gm < base) (hb0 : b0 ≤ gm) (hw : b0 ≤ W.heap.size) {m' : Int} (hg : W.grownBy W' (some gm)) (hbx : Blk W' gm 3 #[.int .i64 m']) (hd : ∀ (d : Row) (b : β), Den W d b → Den W' d b) : At_row w W' b0 base go gm co u Den vs Q m' := by
  have hk : ∀ x ∈ vs, x.ownBlock = none ∨ x.ownBlock ≠ some gm := fun x hx => by
    cases hx2 : x.ownBlock with
    | none => exact Or.inl rfl
    | some k =>
      refine Or.inr fun e => ?_
      injection e with e
      have := (h.tl.lt.2 x hx k hx2).1
      omega
  exact ⟨h.tl.kept hg (Or.inr fun e => hne (by injection e)) hk, fun q hq x hx => hd _ _ (h.den q hq x hx), hbx, below_grown h.bel hw hg (fun k e => by injection e with e; omega), Nat.le_trans h.sz hg.size, h.len⟩
theorem At_row.push (h : At_row w W b0 base go gm co u Den vs Q m) (M : Mrg_row f gm go base Den mg wt ok) (hne : go ≠ gm) (hgb : gm < base) (hbb : b0 ≤ base) (hb0 : b0 ≤ go) (hw : b0 ≤ W.heap.size) {i : Nat} (hi : i < u + 1) {xv x' : Value} {d : Row} {b : β} (hx : vs[i]? = some xv)
    (ho : Tp W' base 54 x' (rws ((Q.getD i []).map Prod.fst) ++ rws [d])) (hg : W.grownBy W' xv.ownBlock) (hn : NewAt W xv x') (hd : Den W d b) :
    At_row w (W'.setCell ⟨go, i, none⟩ x') b0 base go gm co u Den (vs.set i x') (Q.set i (Q.getD i [] ++ [(d, b)])) m := by
  have hi2 : i < Q.length := by rw [h.len]; exact hi
  have hi3 : i < (dat_row Q).length := by rw [dat_len_row]; exact hi2
  have hcl := Clm.put (x' := x') h.tl hx hi3 hg
  have hlow : ∀ k, xv.ownBlock = some k → base ≤ k := fun k hk => (h.tl.lt.2 xv (List.mem_of_getElem? hx) k hk).1
  refine ⟨?_, All.set (fun r hr y hy => M.stab hcl (h.den r hr y hy)) i (fun y hy => ?_), (h.box.grown hg (fun e => by have := hlow gm e.symm; omega)).far (p := ⟨go, i, none⟩) (fun e => hne e.symm) _, (below_grown h.bel hw hg (fun k hk => Nat.le_trans hbb (hlow k hk))).setCell (p := ⟨go, i, none⟩) hb0 _, Nat.le_trans h.sz (by have := hg.size; simpa [World.setCell] using this), by rw [List.length_set]; exact h.len⟩
  · rw [dat_set_row, List.map_append, rws_app]
    exact h.tl.put hx hi3 ho hg hn
  · rcases List.mem_append.1 hy with h1 | h1
    · refine M.stab hcl (h.den (Q.getD i []) ?_ y h1)
      rw [getD_getElem Q hi2]; exact List.getElem_mem hi2
    · obtain rfl := List.mem_singleton.1 h1
      exact M.stab hcl hd
end
theorem sls_row {w W : World} {b0 base go gm co u : Nat} {Den : World → Row → β → Prop} {vs : List Value} {Q : QS (Row × β)} {m : Int} (h : At_row w W b0 base go gm co u Den vs Q m) : SLs W 1 vs ((proj Prod.fst Q).map fun l => (l.length, rws l)) := by
  refine ⟨by rw [h.vl, List.length_map, proj_len, h.len], fun i h1 h2 => ?_⟩
  have hi : i < u + 1 := by rw [← h.vl]; exact h2
  have hi2 : i < Q.length := by rw [h.len]; exact hi
  obtain ⟨A, c, e1, e2, e3, e4, _⟩ := h.at hi
  rw [List.getElem?_eq_getElem h2] at e1
  injection e1 with e1
  obtain ⟨A', c', e5, e6, e7, e8⟩ := e4.form
  injection e5 with f1 f2 f3
  subst f1; subst f3
  rw [len_rws, List.length_map] at e8
  have e9 : (proj Prod.fst Q)[i]'(by rw [proj_len]; exact hi2) = (Q.getD i []).map Prod.fst := by
    have := proj_at Prod.fst Q i
    rwa [getD_getElem _ (by rw [proj_len]; exact hi2)] at this
  simp only [List.getElem_map, e9, List.length_map]
  exact ⟨A, c, e1, e2, e3, e8⟩
set_option maxRecDepth 100000 in
set_option maxHeartbeats 8000000 in
theorem poly_row {f : FuncId} {gm go base : Nat} {Den : World → Row → β → Prop} {mg : List β → β} {wt : List β → Int} {ok : List β → Prop} (M : Mrg_row f gm go base Den mg wt ok)
    (S0 : QS β × Int) (Q0 : QS (Row × β)) (vs0 : List Value) (co u L : Nat) (w : World) (b0 : Nat) (hu : 2 ≤ u) (hu2 : u ≤ 7) (hL : L ≤ 15) (h0 : cnt S0.1 = st u L 0) (hp : proj Prod.snd Q0 = S0.1)
    (hb0 : b0 ≤ gm) (hgb : gm < base) (hgo : go ≠ gm) (hbw : base ≤ w.heap.size) (hA : At_row w w b0 base go gm co u Den vs0 Q0 S0.2)
    (hok : ∀ k, k < L → ∀ j, j < manyOf (st u L k) → ok (hds (toOf (st u L k)) (stt mg wt u L S0 k j).1 (u + 1)) ∧ -1099511627776 ≤ (stt mg wt u L S0 k j).2 ∧ (stt mg wt u L S0 k j).2 ≤ 1099511627776) :
    Calls Try.prog 82 #[.slice (some ⟨go, 0, none⟩) (u + 1) co, .func (.func f) #[] #[.pointer (some ⟨gm, 0, none⟩)]] w fun e w' => ∃ (d : Row) (b : β), e = .returned (.tuple #[(.slice d.1 d.2.1 d.2.2), .int .i64 (L : Int)]) ∧ Den w' d b ∧ (phn mg wt S0 L).1.flatten = [b] ∧ Blk w' gm 3 #[.int .i64 (phn mg wt S0 L).2] ∧ Below b0 w w' := by
  have HM := Lib.hid M
  have HOK := Lib.hid hok
  have HA := Lib.hid hA
  have H0 := Lib.hid h0
  have HP := Lib.hid hp
  have hent := M.ent
  unfold Enters at hent
  clear M hok hA h0 hp
  go_enter Try.func82, Try.ntmps82
  go_wp2
  go_loopg [6] (L + 1) (fun f ph wr => ∃ (k : Nat) (Q : QS (Row × β)) (vs : List Value), L < k + f ∧ k ≤ L ∧ ph = .int .i64 (k : Int) ∧ proj Prod.snd Q = (phn mg wt S0 k).1 ∧ At_row w wr b0 base go gm co u Den vs Q (phn mg wt S0 k).2)
  case atStart => exact ⟨0, Q0, vs0, by omega, by omega, rfl, HP.out, HA.out⟩
  case round =>
    obtain ⟨k, Q, vs, hkf, hk, rfl, hpq, hat⟩ := hrel
    have HAT := Lib.hid hat
    have HPQ := Lib.hid hpq
    have HCQ := Lib.hid (show cnt Q = st u L k by rw [← proj_cnt Prod.snd Q, hpq, phn_cnt mg wt hu hL H0.out k hk])
    have hQl := hat.len
    have hsz := hat.sz
    obtain ⟨gO, hgO⟩ : ∃ gO, gO = gk := ⟨_, rfl⟩
    have HGO := Lib.hid (And.intro hkf hgO)
    have HC0 := Lib.hid (World.ownsRow_made (e := 3) (size := 1) wr #[] 0 (Nat.le_refl _) (Nat.zero_le _) (by simp))
    have HCB := Lib.hid ((Below.refl wr.heap.size wr).alloc (Nat.le_refl _) (.cells #[] 3))
    have hbz : b0 ≤ wr.heap.size := by omega
    clear hkf hgO hat hpq
    obtain ⟨wa, hwa⟩ : ∃ wa : World, wa = wr := ⟨_, rfl⟩
    rw [← hwa] at HC0 HCB HAT hsz hbz ⊢
    clear hwa
    go_wp2
    go_loopg [7, 19] (u + 2) (fun f v i wr => ∃ i' : Nat, u + 1 < i' + f ∧ i' ≤ u + 1 ∧ i = .int .i64 (i' : Int) ∧ wr.ownsRow wa.heap.size 3 1 v i' (ints ((cnt Q).take i')) ∧ Below wa.heap.size wa wr)
    case atStart => exact ⟨0, by omega, by omega, rfl, HC0.out, HCB.out⟩
    case round =>
      obtain ⟨i, hif, hi, rfl, hov, hb⟩ := hrel
      have hbs := hb.size
      by_cases hlt : i < u + 1
      · have q1 : (i : Int) < (u : Int) + 1 := by omega
        obtain ⟨A, c, _, hc1, hc2, _, hcell⟩ := (HAT.out.below HM.out hbz hb).at hlt
        have HCT := Lib.hid (cnt_take Q (i := i) (by omega))
        have hlen : (Q.getD i []).length ≤ 32768 := by
          have h1 := cnt_at Q i
          rw [HCQ.out] at h1
          have h2 := st_bd hu hL hk i
          omega
        generalize (Q.getD i []).length = l at hcell hc1 HCT hlen
        obtain ⟨A1, c1, rfl, hc3, hc4, _⟩ := own_form hov
        have hh : i ≤ 1099511627776 := by omega
        go_wp2_with (at_builtin; refine mem.push_at _ rfl _ _ 22 rfl wa.heap.size 3 _ 1 8 Try.underlying22 mem.info_int rfl Nat.one_pos (.slice A1 i c1) _ _ rfl hov (ints [(l : Int)]) _ rfl (mem.ints_one [(l : Int)]) rfl hh (by decide) hbs ?_; intro v' w' ho' hg' hnw')
        have hb2 := below_push hb hbs hg' hov
        go_wp2
        go_roundg (gk - 1)
        case measure => omega
        case rel => exact ⟨i + 1, by omega, by omega, by go_num, by rw [HCT.out, ints_app]; exact ho', hb2⟩
      · obtain rfl : i = u + 1 := by omega
        have hcl : (st u L k).length = u + 1 := st_len hu hL hk
        have hcq : (cnt Q).take (u + 1) = st u L k := by rw [HCQ.out]; exact List.take_of_length_le (by omega)
        rw [hcq] at hov
        have HA1 := Lib.hid (HAT.out.below HM.out hbz hb)
        obtain ⟨A7, c7, rfl, _, _, hr7⟩ := own_form hov
        have hr7' := hr7
        rw [← hcl] at hr7'
        have HTD := Lib.hid (st_tidy hu hL hk)
        have HSUM := Lib.hid (sums.impl_any A7 c7 (st u L k) wr (by omega) (perfect.small_of HTD.out) hr7')
        have HPH := Lib.hid (impl_phase A7 c7 (st u L k) wr (by omega) HTD.out hr7')
        rw [hcl] at HSUM HPH
        have HMO := Lib.hid (st_more hu hL hk)
        have HS0 := Lib.hid (show k = L → (st u L k).sum = 1 from fun e => by rw [st_sum hu hL hk, e, Nat.sub_self, sum_zero])
        clear hr7 hr7' hov hcq HC0 HCB HAT
        have hbz1 : b0 ≤ wr.heap.size := Nat.le_trans hbz hbs
        clear hb hbs
        obtain ⟨wb, hwb⟩ : ∃ wb : World, wb = wr := ⟨_, rfl⟩
        rw [← hwb] at HA1 HSUM HPH hbz1 ⊢
        clear hwb hcl
        go_wp2_with fail
        with_reducible refine HSUM.out.mono ?_
        rintro e w2 ⟨rfl, rfl⟩
        by_cases hkL : k < L
        · have hsum : 1 < (st u L k).sum := HMO.out.2 hkL
          have HAB := Lib.hid (ph_st hu hL hkL)
          have HEZ := Lib.hid (show ez (st u L k) (u + 1) = (toOf (st u L k) : Int) by have := HAB.out.ez.1; rwa [st_len hu hL hk] at this)
          have HMZ := Lib.hid (show mz (st u L k) (u + 1) = (manyOf (st u L k) : Int) by have := HAB.out.mz; rwa [st_len hu hL hk] at this)
          have hsn : ¬ (st u L k).sum = 1 := by omega
          have hsb : ((st u L k).sum == 1) = false := by simpa using hsn
          generalize (st u L k).sum = sm at hsum hsn hsb ⊢
          go_wp2_with fail
          with_reducible refine HPH.out.mono ?_
          rintro e w2 ⟨x, y, rfl, hxy, rfl⟩
          obtain ⟨rfl, rfl⟩ := hxy HAB.out.able
          clear hxy
          have HTO := Lib.hid (to_lt hu hL hkL)
          rw [HEZ.out, HMZ.out]
          have HAT2 := Lib.hid (show At_row w wb b0 base go gm co u Den vs Q (stt mg wt u L S0 k 0).2 from HA1.out)
          have HPQ2 := Lib.hid (show proj Prod.snd Q = (stt mg wt u L S0 k 0).1 from HPQ.out)
          have HNE := Lib.hid (fun (j : Nat) (hj : j < manyOf (st u L k)) (i : Nat) (hi : i < u + 1) (hne : i ≠ toOf (st u L k)) => stt_ne (mg := mg) (wt := wt) hu hL H0.out hkL hj hi hne)
          have HCN := Lib.hid (fun (j : Nat) (hj : j < manyOf (st u L k)) (i : Nat) (hi : i < u + 1) => stt_cnt (mg := mg) (wt := wt) hu hL H0.out hkL (Nat.le_of_lt hj) hi)
          have HBD := Lib.hid (fun i => st_bd hu hL (Nat.le_of_lt hkL) i)
          have HALL := Lib.hid (stt_all (mg := mg) (wt := wt) hu hL H0.out hkL)
          have HOKk := Lib.hid (HOK.out k hkL)
          have htlt := HTO.out
          have hmb := many_le hu hL hkL
          clear HPH HSUM HAB HEZ HMZ HMO HS0 HTD hsum hsn hsb HA1 HPQ HCQ hQl
          have HSTP := Lib.hid (fun j => show stt mg wt u L S0 k (j + 1) = ms mg wt (toOf (st u L k)) (stt mg wt u L S0 k j) from rfl)
          generalize toOf (st u L k) = te at HTO HNE HCN HOKk HSTP htlt ⊢
          generalize manyOf (st u L k) = mm at HNE HCN HALL HOKk hmb ⊢
          go_wp2
          go_loopg [39] (mm + 1) (fun f i wr => ∃ (j : Nat) (Q : QS (Row × β)) (vs : List Value), mm < j + f ∧ j ≤ mm ∧ i = .int .i64 (j : Int) ∧ proj Prod.snd Q = (stt mg wt u L S0 k j).1 ∧ At_row w wr b0 base go gm co u Den vs Q (stt mg wt u L S0 k j).2)
          case atStart => exact ⟨0, Q, vs, by omega, by omega, rfl, HPQ2.out, HAT2.out⟩
          case round =>
            obtain ⟨j, Q, vs, hjf, hj, rfl, hpq, hat⟩ := hrel
            by_cases hjlt : j < mm
            · have HOKj := Lib.hid (HOKk.out j hjlt)
              have HNEj := Lib.hid (fun (i : Nat) (hi : i < u + 1) (hne : i ≠ te) => show (Q.getD i []) ≠ [] from fun e => HNE.out j hjlt i hi hne (by rw [← hpq, proj_at, e]; rfl))
              have HLNj := Lib.hid (fun (i : Nat) => show (Q.getD i []).length ≤ 65536 from by
                by_cases hi : i < u + 1
                · have h1 := HCN.out j hjlt i hi
                  have h2 := HBD.out i
                  rw [← hpq, proj_cnt, cnt_at] at h1
                  split at h1 <;> omega
                · rw [List.getD_eq_getElem?_getD, List.getElem?_eq_none (by rw [hat.len]; omega)]; simp)
              have hQl := hat.len
              have HPQj := Lib.hid hpq
              have hbz3 : b0 ≤ wr.heap.size := by have := hat.sz; omega
              have HAj := Lib.hid (hat.below HM.out hbz3 ((Below.refl _ _).alloc (Nat.le_refl _) (.cells #[] 54)))
              have HR0 := Lib.hid (World.ownsRow_made (e := 54) (size := 1) wr #[] 0 (Nat.le_refl _) (Nat.zero_le _) (by simp))
              have HLT := Lib.hid hat.tl.lt
              have HSZ := Lib.hid (show wr.heap.size ≤ (wr.alloc (.cells #[] 54)).heap.size by simp)
              have hwm0 := hat.sz
              have q2 : (j : Int) < (mm : Int) := by omega
              obtain ⟨gj, hgj⟩ : ∃ gj, gj = gk := ⟨_, rfl⟩
              have HGJ := Lib.hid (And.intro hjf hgj)
              obtain ⟨wm, hwm⟩ : ∃ wm : World, wm = wr := ⟨_, rfl⟩
              rw [← hwm] at HAj HR0 HLT HSZ hbz3 hwm0 ⊢
              clear hwm hpq hat hjf hgj
              go_wp2
              go_loopg [13, 44] (u + 2) (fun f rv i wr2 => ∃ (i' : Nat) (vs' : List Value), u + 1 < i' + f ∧ i' ≤ u + 1 ∧ i = .int .i64 (i' : Int) ∧ wr2.ownsRow wm.heap.size 54 1 rv (hds te Q i').length (rws ((hds te Q i').map Prod.fst)) ∧ At_row w wr2 b0 base go gm co u Den vs' (tls te Q i') (stt mg wt u L S0 k j).2 ∧ (∀ x ∈ vs', ∀ n, x.ownBlock = some n → n < wm.heap.size) ∧ wm.heap.size ≤ wr2.heap.size ∧ ∀ p ∈ hds te Q i', Den wr2 p.1 p.2)
              case atStart => exact ⟨0, vs, by omega, by omega, rfl, HR0.out, HAj.out, fun x hx n hn => (HLT.out.2 x hx n hn).2, HSZ.out, fun p hp => by cases hp⟩
              case round =>
                obtain ⟨i, vs', hif, hi, rfl, hrv, hat, hvl, hrz, hdh⟩ := hrel
                by_cases hlt : i < u + 1
                · have q3 : (i : Int) < (u : Int) + 1 := by omega
                  obtain ⟨A, c, hvi, hc1, hc2, htp, hcell⟩ := hat.at hlt
                  rw [tls_here te Q (by omega)] at hvi hc1 htp hcell
                  by_cases hie : i = te
                  · have HRV := Lib.hid (show wr.ownsRow wm.heap.size 54 1 _ (hds te Q (i + 1)).length (rws ((hds te Q (i + 1)).map Prod.fst)) by rw [hds_same hie]; exact hrv)
                    have HAT3 := Lib.hid (show At_row w wr b0 base go gm co u Den vs' (tls te Q (i + 1)) _ by rw [tls_same hie]; exact hat)
                    have HDH := Lib.hid (show ∀ p ∈ hds te Q (i + 1), Den wr p.1 p.2 by rw [hds_same hie]; exact hdh)
                    clear hvi htp hdh
                    subst hie
                    go_wp2
                    go_roundg (gk - 1)
                    case measure => omega
                    case rel => exact ⟨i + 1, _, by omega, by omega, by go_num, HRV.out, HAT3.out, hvl, hrz, HDH.out⟩
                  · obtain ⟨x, q, hxq⟩ : ∃ x q, Q.getD i [] = x :: q := by
                      cases hq : Q.getD i [] with
                      | nil => exact absurd hq (HNEj.out i hlt hie)
                      | cons x q => exact ⟨x, q, rfl⟩
                    have HH := Lib.hid (hds_more hie hxq)
                    have HT := Lib.hid (tls_more hie hxq)
                    have HLq := Lib.hid (HLNj.out i)
                    rw [hxq] at hvi hc1 htp hcell HLq
                    have hql := HLq.out
                    simp only [List.length_cons] at hvi hc1 htp hcell hql
                    obtain ⟨g, o, rfl, hq1, hq2, hq3, hhd, hbg⟩ := Tp.head (show Tp wr base 54 (.slice A (q.length + 1) c) (_ :: rws (q.map Prod.fst)) from htp)
                    clear hq1 hq2 hq3
                    replace hhd : wr.cell? ⟨g, o, none⟩ = some ((fun d : Row => (.slice d.1 d.2.1 d.2.2)) x.1) := hhd
                    simp only at hhd
                    have hfz := own_thaw hat.top i
                    have hru := fun W => run_from (P := Try.prog) 47 54 _ 1 24 Try.underlying47 mem.info_row (some ⟨g, o, none⟩) (q.length + 1) c 1 (1 : Int) rfl (by omega) W
                    obtain ⟨Ar, cr, rfl, hcr1, hcr2, _⟩ := own_form hrv
                    have hhl : (hds te Q i).length ≤ 1099511627776 := by have := hds_len te Q i; omega
                    have hie2 : ¬ (i : Int) = (te : Int) := by omega
                    have q4 : ((i : Int) == (te : Int)) = false := by simpa using hie2
                    go_wp2_with fail
                    have hrvd : wr.drew.ownsRow wm.heap.size 54 1 (.slice Ar (hds te Q i).length cr) (hds te Q i).length (rws ((hds te Q i).map Prod.fst)) := hrv
                    have htopd : wr.drew.ownsRow b0 47 1 (.slice (some ⟨go, 0, none⟩) (u + 1) co) (u + 1) vs' := hat.top
                    have hne1 : (Value.slice (some ⟨go, 0, none⟩) (u + 1) co).ownBlock ≠ (Value.slice Ar (hds te Q i).length cr).ownBlock := fun e => by
                      have h1 := (hrv.lt go e.symm).1
                      have h2 := (HLT.out.1 go rfl).2
                      omega
                    go_region_law ((first
                      | (refine mem.step_push_atH wr.drew rfl (.tmp 54) (.tmp 58) 47 rfl wm.heap.size 54 _ 1 24 Try.underlying47 mem.info_row rfl Nat.one_pos (.slice Ar (hds te Q i).length cr) (hds te Q i).length (rws ((hds te Q i).map Prod.fst)) (by simp [Act.eval, Act.put]) hrvd wr.drew.heap.size rfl (rws [x.1]) 1 rfl (mem.rws_one [x.1]) (by simp [Act.eval, Act.put]) hhl (by decide) hrz ?_; intro v' w' ho' hg' hnw'; have htk := htopd.kept hg' (Or.inr hne1); have hcw := own_cell htk hvi; have hfw := own_thaw htk i)))
                    have hatr := At_row.row (hat.below HM.out (by omega) (show Below wr.heap.size wr wr.drew from below_drewN (Below.refl _ _) 1)) HM.out hrvd (by omega) (show b0 ≤ wr.heap.size by omega) (by omega) hvl (HLT.out.1 go rfl).2 (by omega) hg'
                    obtain ⟨hat2, hob2⟩ := hatr.tail HM.out hgo (HLT.out.1 go rfl).1 hlt hvi (by rw [tls_here te Q (by omega)]; exact hxq)
                    have hrv2 := own_far ho' (p := ⟨go, i, none⟩) (fun e => by have h1 := (ho'.lt _ e).1; have h2 := (HLT.out.1 go rfl).2; simp at h1; omega) (.slice (cutA (some ⟨g, o, none⟩) c 1 1) q.length (c - 1))
                    have hsz2 : wm.heap.size ≤ (w'.setCell ⟨go, i, none⟩ (.slice (cutA (some ⟨g, o, none⟩) c 1 1) q.length (c - 1))).heap.size := by
                      have := hg'.size
                      simp only [World.setCell, Array.size_modify]
                      exact Nat.le_trans hrz this
                    have hvl2 : ∀ y ∈ vs'.set i (.slice (cutA (some ⟨g, o, none⟩) c 1 1) q.length (c - 1)), ∀ n, y.ownBlock = some n → n < wm.heap.size := fun y hy n hn => by
                      rcases List.mem_or_eq_of_mem_set hy with h1 | h1
                      · exact hvl y h1 n hn
                      · subst h1
                        rw [hob2] at hn
                        exact hvl _ (List.mem_of_getElem? hvi) n hn
                    have hcalm := ((Clm.below (go := some go) (base := base) (e := 54) (show Below wr.heap.size wr wr.drew from below_drewN (Below.refl _ _) 1)).trans (Clm.of_tp (Tp.of_own (own_base hrvd (by omega))) hg')).trans (Clm.of_none (set_grown w' go i (.slice (cutA (some ⟨g, o, none⟩) c 1 1) q.length (c - 1))) (Or.inr rfl))
                    have hdx := hat.den (Q.getD i []) (by
                      have := tls_here te Q (i := i) (by omega)
                      rw [← this, getD_getElem _ (by rw [tls_len]; omega)]; exact List.getElem_mem _) x (by rw [hxq]; exact List.mem_cons_self)
                    have HDH := Lib.hid (show ∀ p ∈ hds te Q (i + 1), Den (w'.setCell ⟨go, i, none⟩ (.slice (cutA (some ⟨g, o, none⟩) c 1 1) q.length (c - 1))) p.1 p.2 by
                      rw [HH.out]
                      intro p hp
                      rcases List.mem_append.1 hp with h1 | h1
                      · exact HM.out.stab hcalm (hdh p h1)
                      · obtain rfl := List.mem_singleton.1 h1
                        exact HM.out.stab hcalm hdx)
                    clear hdh hdx hcalm
                    obtain ⟨A8, c8, rfl, _, _, _⟩ := own_form ho'
                    go_wp2
                    go_roundg (gk - 1)
                    case measure => omega
                    case rel => exact ⟨i + 1, _, by omega, by omega, by go_num, by rw [HH.out, List.length_append, List.map_append, rws_app]; exact hrv2, by rw [HT.out]; exact hat2, hvl2, hsz2, HDH.out⟩
                · obtain rfl : i = u + 1 := by omega
                  have hte : te < u + 1 := HTO.out
                  have hhq : (tls te Q (u + 1)).getD te [] = Q.getD te [] := by
                    rw [tls_at te Q (u + 1) (by omega), if_neg (fun h => h.2 rfl)]
                  obtain ⟨qt, hqt⟩ : ∃ qt, qt = Q.getD te [] := ⟨_, rfl⟩
                  rw [← hqt] at hhq
                  obtain ⟨A, c, hvi, hc1, hc2, htp, hcell⟩ := hat.at hte
                  rw [hhq] at hvi hc1 htp hcell
                  have HLq := Lib.hid (HLNj.out te)
                  rw [← hqt] at HLq
                  have HQT := Lib.hid hqt
                  have HHQ := Lib.hid hhq
                  clear hqt hhq
                  obtain ⟨Ar, cr, rfl, hcr1, hcr2, hrr⟩ := own_form hrv
                  have HOKM := Lib.hid (show ok ((hds te Q (u + 1)).map Prod.snd) ∧ -1099511627776 ≤ (stt mg wt u L S0 k j).2 ∧ (stt mg wt u L S0 k j).2 ≤ 1099511627776 by
                    have := HOKj.out
                    rw [← HPQj.out, proj_hds] at this
                    exact this)
                  have hh8 := hds_len te Q (u + 1)
                  have HDN := Lib.hid (hat.below HM.out (by omega) (show Below wr.heap.size wr wr.drew from below_drewN (Below.refl _ _) 1))
                  have HDH := Lib.hid (show ∀ p ∈ hds te Q (u + 1), Den wr.drew p.1 p.2 from fun p hp => HM.out.stab (Clm.below (show Below wr.heap.size wr wr.drew from below_drewN (Below.refl _ _) 1)) (hdh p hp))
                  have HCALL := Lib.hid (HM.out.call wr.drew Ar cr (hds te Q (u + 1)) (stt mg wt u L S0 k j).2 (by omega) HDH.out hrr.drew HDN.out.box (fun b off e => by subst e; have h1 := (hrv.lt b rfl).1; omega) HOKM.out.1 HOKM.out.2.1 HOKM.out.2.2)
                  have hgl : qt.length ≤ 65536 := HLq.out
                  have q5 : (te : Int) < (u : Int) + 1 := by omega
                  have hcelld : wr.drew.cell? ⟨go, te, none⟩ = some (.slice A qt.length c) := hcell
                  have htpd : Tp wr.drew base 54 (.slice A qt.length c) (rws (qt.map Prod.fst)) := htp.drewN 1
                  have hgg : ∀ xv : Value, xv = .slice A qt.length c → xv.ownBlock = none ∨ xv.ownBlock ≠ some gm := fun xv e => by
                    subst e
                    cases hx2 : (Value.slice A qt.length c).ownBlock with
                    | none => exact Or.inl rfl
                    | some n =>
                      refine Or.inr fun e => ?_
                      injection e with e
                      have := (htp.lt n hx2).1
                      omega
                  have hgl2 : (rws (qt.map Prod.fst)).length ≤ 1099511627776 := by rw [len_rws, List.length_map]; omega
                  go_wp2_with fail
                  go_region_law ((first
                    | (go_simp; (with_reducible refine HCALL.out.mono ?_); rintro e w3 ⟨d, rfl, hd3, hbx3, hg3, hst3⟩; have hat3 := HDN.out.called hgo hgb hb0 (show b0 ≤ wr.heap.size by omega) hg3 hbx3 hst3; have hc3 := hg3.cell hcelld (fun e => hgo (by injection e)); have hc3a : (w3.alloc (.cells #[(.slice d.1 d.2.1 d.2.2)] 54)).cell? ⟨go, te, none⟩ = some (.slice A qt.length c) := cells_below ((Below.refl _ _).alloc (Nat.le_refl _) _) hc3; have htp3 := htpd.kept hg3 (hgg _ rfl); have hb3 : base ≤ w3.heap.size := (show base ≤ w3.heap.size from Nat.le_trans (show base ≤ wr.heap.size by omega) hg3.size))
                    | (refine tape.step_push_tp w3 rfl (.tmp 69) (.tmp 73) 47 rfl base 54 _ 24 Try.underlying47 mem.info_row rfl (.slice A qt.length c) (rws (qt.map Prod.fst)) (by simp [Act.eval, Act.put]) htp3 w3.heap.size rfl (.slice d.1 d.2.1 d.2.2) 1 rfl (by simp [Act.eval, Act.put]) hgl2 (by decide) hb3 ?_; intro v' w' ho' hg' hnw'; have htk := hat3.top.kept hg' (hat3.tl.apt _ (List.mem_of_getElem? hvi)); have hcw := own_cell htk hvi; have hfw := own_thaw htk te; obtain ⟨A', c', hve, hf1, hf2, hf3⟩ := ho'.form; rw [List.length_append, len_rws, List.length_map, List.length_singleton] at hve; clear hf1 hf2 hf3; subst hve)))
                  all_goals
                    have hqd : (tls te Q (u + 1)).getD te [] = qt := HHQ.out
                    have hat4 := hat3.push HM.out hgo hgb (show b0 ≤ base by omega) (HLT.out.1 go rfl).1 (show b0 ≤ w3.heap.size by omega) hte hvi (by rw [hqd]; exact ho') hg' hnw' hd3
                    rw [hqd] at hat4
                    have hp1 := proj_one Prod.snd mg te Q (d, mg ((hds te Q Q.length).map Prod.snd)) rfl
                    rw [hQl, ← HQT.out] at hp1
                    have hs2 : (stt mg wt u L S0 k (j + 1)).2 = (stt mg wt u L S0 k j).2 + wt ((hds te Q (u + 1)).map Prod.snd) := by
                      rw [HSTP.out j]
                      show (stt mg wt u L S0 k j).2 + wt (hds te (stt mg wt u L S0 k j).1 (stt mg wt u L S0 k j).1.length) = _
                      rw [← HPQj.out, proj_len, hQl, proj_hds]
                    have hs1 : proj Prod.snd ((tls te Q (u + 1)).set te (qt ++ [(d, mg ((hds te Q (u + 1)).map Prod.snd))])) = (stt mg wt u L S0 k (j + 1)).1 := by
                      rw [HSTP.out j]
                      show _ = one mg te (stt mg wt u L S0 k j).1
                      rw [← HPQj.out]
                      exact hp1
                    rw [← hs2] at hat4
                    have HN := Lib.hid (And.intro hs1 hat4)
                    clear hp1 hs2 hs1 hat4 ho' hg' hnw' hcw hfw htk hc3 hc3a hcelld hcell
                    go_wp2
                    go_roundg (gj - 1)
                    case measure => have := HGJ.out; omega
                    case rel => exact ⟨j + 1, _, _, by have := HGJ.out; omega, by omega, by go_num, HN.out.1, HN.out.2⟩
            · obtain rfl : j = mm := by omega
              have q2 : ¬ (j : Int) < (j : Int) := by omega
              have HF := Lib.hid (And.intro (show proj Prod.snd Q = (phn mg wt S0 (k + 1)).1 from by
                  show _ = (stt mg wt u L S0 (k + 1) 0).1
                  rw [← HALL.out]; exact hpq) (show At_row w wr b0 base go gm co u Den vs Q (phn mg wt S0 (k + 1)).2 from by
                  show At_row w wr b0 base go gm co u Den vs Q (stt mg wt u L S0 (k + 1) 0).2
                  rw [← HALL.out]; exact hat))
              clear hpq hat
              go_wp2
              go_roundg (gO - 1)
              case measure => have := HGO.out; omega
              case rel => exact ⟨k + 1, Q, vs, by have := HGO.out; omega, by omega, by go_num, HF.out.1, HF.out.2⟩
        · obtain rfl : k = L := by omega
          have hsum := HS0.out rfl
          have hfl := flat_one (mg := mg) (wt := wt) hu hL H0.out
          rw [← HPQ.out, flat_proj, List.length_map] at hfl
          obtain ⟨p, hp⟩ := List.length_eq_one_iff.1 hfl
          have hpd : Den wb p.1 p.2 := by
            obtain ⟨q, hq, hpq⟩ := List.mem_flatten.1 (show p ∈ Q.flatten by rw [hp]; exact List.mem_singleton.2 rfl)
            exact HA1.out.den q hq p hpq
          have hvl := HA1.out.vl
          have HCC := Lib.hid (concat.concat_row (some ⟨go, 0, none⟩) co vs (proj Prod.fst Q) wb (by rw [hvl]; exact own_rd HA1.out.top) (sls_row HA1.out) (by rw [proj_len, hQl]; omega) (by rw [flat_proj, hp]; simp))
          rw [hvl, flat_proj, hp] at HCC
          have HPF := Lib.hid (show (phn mg wt S0 k).1.flatten = [p.2] by rw [← HPQ.out, flat_proj, hp]; rfl)
          have HPD := Lib.hid hpd
          obtain ⟨d, b⟩ := p
          rw [hsum]
          clear hsum hfl hp hpd hvl HSUM HPH
          go_wp2_with fail
          (with_reducible refine HCC.out.mono ?_)
          rintro e w9 ⟨v9, rfl, ho9, hb9⟩
          obtain ⟨A9, c9, rfl, _, _, _⟩ := own_form (show w9.ownsRow wb.heap.size 54 1 v9 1 (rws [d]) from ho9)
          obtain ⟨g9, rfl, _, _⟩ := own_addr (show w9.ownsRow wb.heap.size 54 1 (.slice A9 1 c9) 1 (rws [d]) from ho9) (by omega)
          have hx9 := own_cell (show w9.ownsRow wb.heap.size 54 1 (.slice (some ⟨g9, 0, none⟩) 1 c9) 1 (rws [d]) from ho9) (i := 0) rfl
          have HF := Lib.hid (HA1.out.below HM.out hbz1 hb9)
          have HDF := Lib.hid (HM.out.stab (Clm.below hb9) HPD.out)
          clear ho9 hb9
          go_wp2
          go_ret2
          exact ⟨d, b, rfl, HDF.out, HPF.out, HF.out.box, HF.out.bel⟩
end
end Go.Proofs.Ytgffabjajbgbjaa.ply
