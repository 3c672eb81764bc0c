/- GroupRecords, the reference's. Condition: at most 2^20 records. -/
import Derived.Test.YtgngoedooemboaaStab
import Derived.Test.YtgngoedooemboaaGpI
import Derived.Test.YtgngoedooemboaaCut
import Derived.Test.YtgngoedooemboaaMemAt
import Derived.Deep.DeepCutAuto
import Derived.Deep.CutBlock
import Derived.Deep.RegionLaw
import Derived.Lib.QuietBelow
set_option linter.unusedVariables false
set_option linter.unusedSimpArgs false
namespace Go.Proofs.Ytgngoedooemboaa.gp
open Go.RowKit Go.Proofs.Ytgngoedooemboaa.mem Go.Proofs.Ytgngoedooemboaa.stb Go.Proofs.Ytgngoedooemboaa.gj
open Go.Proofs.Ytgngoedooemboaa.vrecs (vrec vrec_len vrec_mem)

set_option maxRecDepth 100000 in
theorem least_any (a b : Int) (w : World) : Calls Try.prog 106 #[.int .i64 a, .int .i64 b] w fun e w' => e = .returned (.int .i64 (min a b)) ∧ w = w' := by
  by_cases h : a < b
  · go_enter Try.func106, Try.ntmps106
    go_wp2
    all_goals
      go_ret
      exact ⟨ret_int (by omega), rfl⟩
  · go_enter Try.func106, Try.ntmps106
    go_wp2
    all_goals
      go_ret
      exact ⟨ret_int (by omega), rfl⟩
set_option maxRecDepth 100000 in
theorem ent_least : Enters 106 := fun _ _ => rfl
set_option maxRecDepth 100000 in
theorem most_any (a b : Int) (w : World) : Calls Try.prog 107 #[.int .i64 a, .int .i64 b] w fun e w' => e = .returned (.int .i64 (max a b)) ∧ w = w' := by
  by_cases h : a < b
  · go_enter Try.func107, Try.ntmps107
    go_wp2
    all_goals
      go_ret
      exact ⟨ret_int (by omega), rfl⟩
  · go_enter Try.func107, Try.ntmps107
    go_wp2
    all_goals
      go_ret
      exact ⟨ret_int (by omega), rfl⟩
set_option maxRecDepth 100000 in
theorem ent_most : Enters 107 := fun _ _ => rfl
/-- the groups so far, beside the records in their order -/
structure Cur (B gs : Nat) (w0 W : World) (S : List Rec) (v : Value) (o : List Grp) : Prop where
  own : W.ownsRow B 71 5 v o.length (grps o)
  rd : Rd W 2 (some ⟨gs, 0, none⟩) S.length (recs S)
  bel : Below B w0 W
  ne : v.ownBlock ≠ some gs
  lt : gs < W.heap.size
theorem Cur.below {B gs : Nat} {w0 W W' : World} {S : List Rec} {v : Value} {o : List Grp} (h : Cur B gs w0 W S v o) (hB : B ≤ W.heap.size) (hb : Below W.heap.size W W') : Cur B gs w0 W' S v o :=
  ⟨own_below h.own hb, h.rd.below hb, h.bel.trans (hb.mono hB), h.ne, Nat.lt_of_lt_of_le h.lt hb.size⟩
theorem Cur.drewN {B gs : Nat} {w0 W : World} {S : List Rec} {v : Value} {o : List Grp} (h : Cur B gs w0 W S v o) (n : Nat) : Cur B gs w0 (W.drewN n) S v o :=
  ⟨own_drewN h.own n, h.rd.drewN n, below_drewN h.bel n, h.ne, h.lt⟩
theorem Cur.push {B gs : Nat} {w0 W W' : World} {S : List Rec} {v v' : Value} {o : List Grp} {x : Grp} (h : Cur B gs w0 W S v o) (hB : B ≤ W.heap.size) (ho : W'.ownsRow B 71 5 v' (o.length + 1) (grps o ++ grps [x])) (hg : W.grownBy W' v.ownBlock) (hn : NewAt W v v') : Cur B gs w0 W' S v' (o ++ [x]) :=
  ⟨by rw [List.length_append, grps_app]; exact ho, h.rd.grown hg (fun b off e => by injection e with e; injection e with e1 e2; subst e1; exact fun e => h.ne e.symm), below_push h.bel hB hg h.own, fun e => by
    rcases hn gs e with h1 | h1
    · exact h.ne h1
    · have := h.lt; omega, Nat.lt_of_lt_of_le h.lt hg.size⟩
theorem Cur.put {B gs g c n : Nat} {w0 W : World} {S : List Rec} {o : List Grp} (h : Cur B gs w0 W S (.slice (some ⟨g, 0, none⟩) n c) o) (hn : n = o.length) (hgb : B ≤ g) {q : Nat} (hq : q < o.length) (z : Grp) :
    Cur B gs w0 (((((W.setCell ⟨g, q * 5, none⟩ (.int .i64 z.key)).setCell ⟨g, q * 5 + 1, none⟩ (.int .i64 z.count)).setCell ⟨g, q * 5 + 2, none⟩ (.int .i64 z.sum)).setCell ⟨g, q * 5 + 3, none⟩ (.int .i64 z.least)).setCell ⟨g, q * 5 + 4, none⟩ (.int .i64 z.most)) S (.slice (some ⟨g, 0, none⟩) n c) (o.set q z) := by
  subst hn
  have hne : gs ≠ g := fun e => h.ne (by subst e; rfl)
  refine ⟨by rw [List.length_set]; exact put_grp h.own hq z, ?_, ((((h.bel.setCell (p := ⟨g, q * 5, none⟩) hgb _).setCell (p := ⟨g, q * 5 + 1, none⟩) hgb _).setCell (p := ⟨g, q * 5 + 2, none⟩) hgb _).setCell (p := ⟨g, q * 5 + 3, none⟩) hgb _).setCell (p := ⟨g, q * 5 + 4, none⟩) hgb _, h.ne, by simpa using h.lt⟩
  have hf : ∀ b off, (some ⟨gs, 0, none⟩ : Option Addr) = some ⟨b, off, none⟩ → b ≠ g := fun b off e => by injection e with e; injection e with e1 e2; subst e1; exact hne
  exact rd_far (rd_far (rd_far (rd_far (rd_far h.rd (p := ⟨g, q * 5, none⟩) hf _) (p := ⟨g, q * 5 + 1, none⟩) hf _) (p := ⟨g, q * 5 + 2, none⟩) hf _) (p := ⟨g, q * 5 + 3, none⟩) hf _) (p := ⟨g, q * 5 + 4, none⟩) hf _
theorem Cur.cells {B gs : Nat} {w0 W : World} {S : List Rec} {v : Value} {o : List Grp} (h : Cur B gs w0 W S v o) {k : Nat} {x : Rec} (hx : S[k]? = some x) : W.cell? ⟨gs, k * 2, none⟩ = some (.int .i64 x.key) ∧ W.cell? ⟨gs, k * 2 + 1, none⟩ = some (.int .i64 x.tag) := by
  obtain ⟨hk, rfl⟩ := List.getElem?_eq_some_iff.1 hx
  have := h.rd.rec_at hk
  simpa using this
/-- with the group that is being turned in a block of its own -/
structure St (B gs gB : Nat) (w0 W : World) (S : List Rec) (v : Value) (o : List Grp) (g : Grp) : Prop where
  cur : Cur B gs w0 W S v o
  blk : Blk W gB 71 #[.int .i64 g.key, .int .i64 g.count, .int .i64 g.sum, .int .i64 g.least, .int .i64 g.most]
  ne1 : v.ownBlock ≠ some gB
  ne2 : gs ≠ gB
  ge : B ≤ gB
theorem St.drewN {B gs gB : Nat} {w0 W : World} {S : List Rec} {v : Value} {o : List Grp} {g : Grp} (h : St B gs gB w0 W S v o g) (n : Nat) : St B gs gB w0 (W.drewN n) S v o g :=
  ⟨h.cur.drewN n, h.blk, h.ne1, h.ne2, h.ge⟩
theorem Cur.far {B gs gB : Nat} {w0 W : World} {S : List Rec} {v : Value} {o : List Grp} (h : Cur B gs w0 W S v o) (ne1 : v.ownBlock ≠ some gB) (ne2 : gs ≠ gB) (ge : B ≤ gB) (i : Nat) (u : Value) : Cur B gs w0 (W.setCell ⟨gB, i, none⟩ u) S v o :=
  ⟨own_far h.own (p := ⟨gB, i, none⟩) ne1 u, rd_far h.rd (p := ⟨gB, i, none⟩) (fun b off e => by injection e with e; injection e with e1 e2; subst e1; exact ne2) u, h.bel.setCell (p := ⟨gB, i, none⟩) ge u, h.ne, by simpa using h.lt⟩
theorem St.count {B gs gB : Nat} {w0 W : World} {S : List Rec} {v : Value} {o : List Grp} {a b c d e : Int} (h : St B gs gB w0 W S v o ⟨a, b, c, d, e⟩) (u : Int) : St B gs gB w0 (W.setCell ⟨gB, 1, none⟩ (.int .i64 u)) S v o ⟨a, u, c, d, e⟩ :=
  ⟨h.cur.far h.ne1 h.ne2 h.ge _ _, h.blk.put 1 _, h.ne1, h.ne2, h.ge⟩
theorem St.sum {B gs gB : Nat} {w0 W : World} {S : List Rec} {v : Value} {o : List Grp} {a b c d e : Int} (h : St B gs gB w0 W S v o ⟨a, b, c, d, e⟩) (u : Int) : St B gs gB w0 (W.setCell ⟨gB, 2, none⟩ (.int .i64 u)) S v o ⟨a, b, u, d, e⟩ :=
  ⟨h.cur.far h.ne1 h.ne2 h.ge _ _, h.blk.put 2 _, h.ne1, h.ne2, h.ge⟩
theorem St.least {B gs gB : Nat} {w0 W : World} {S : List Rec} {v : Value} {o : List Grp} {a b c d e : Int} (h : St B gs gB w0 W S v o ⟨a, b, c, d, e⟩) (u : Int) : St B gs gB w0 (W.setCell ⟨gB, 3, none⟩ (.int .i64 u)) S v o ⟨a, b, c, u, e⟩ :=
  ⟨h.cur.far h.ne1 h.ne2 h.ge _ _, h.blk.put 3 _, h.ne1, h.ne2, h.ge⟩
theorem St.most {B gs gB : Nat} {w0 W : World} {S : List Rec} {v : Value} {o : List Grp} {a b c d e : Int} (h : St B gs gB w0 W S v o ⟨a, b, c, d, e⟩) (u : Int) : St B gs gB w0 (W.setCell ⟨gB, 4, none⟩ (.int .i64 u)) S v o ⟨a, b, c, d, u⟩ :=
  ⟨h.cur.far h.ne1 h.ne2 h.ge _ _, h.blk.put 4 _, h.ne1, h.ne2, h.ge⟩
/-- one record more -/
def upd (z : Grp) (x : Rec) : Grp := ⟨z.key, z.count + 1, z.sum + x.tag, min z.least x.tag, max z.most x.tag⟩
/-- the groups before the record's own is turned -/
def pre (o : List Grp) (x : Rec) (new : Bool) : List Grp := if new then o ++ [⟨x.key, 0, 0, x.tag, x.tag⟩] else o
theorem pre_new (o : List Grp) (x : Rec) : ∃ z, (pre o x true)[o.length]? = some z ∧ (pre o x true).length = o.length + 1 ∧ (pre o x true).set o.length (upd z x) = o ++ [g1 x] ∧ z = ⟨x.key, 0, 0, x.tag, x.tag⟩ := by
  refine ⟨⟨x.key, 0, 0, x.tag, x.tag⟩, by simp [pre], by simp [pre], ?_, rfl⟩
  simp [pre, upd, g1, List.set_append_right]
theorem pre_old {o : List Grp} {x : Rec} {h : Grp} (hl : o[o.length - 1]? = some h) (hk : h.key = x.key) : (pre o x false).set (o.length - 1) (upd h x) = jstep o (g1 x) := by
  rw [jstep_old hl (by exact hk)]; simp [pre, upd, both, g1, hk]

theorem new_at (S : List Rec) {k : Nat} (hk : k < S.length) : ∃ nb : Bool, (k = 0 → nb = true) ∧ (∀ t y, k = t + 1 → S[t]? = some y → (S[k].key != y.key) = nb) ∧
    (nb = true → join ((S.map g1).take (k + 1)) = join ((S.map g1).take k) ++ [g1 S[k]]) ∧
    (nb = false → join ((S.map g1).take (k + 1)) = jstep (join ((S.map g1).take k)) (g1 S[k]) ∧ ∃ h, (join ((S.map g1).take k))[(join ((S.map g1).take k)).length - 1]? = some h ∧ h.key = S[k].key ∧ 0 < (join ((S.map g1).take k)).length) := by
  have hj : join ((S.map g1).take (k + 1)) = jstep (join ((S.map g1).take k)) (g1 S[k]) := by
    rw [join_take (S.map g1) (by rw [List.length_map]; exact hk), List.getElem_map]
  cases k with
  | zero => exact ⟨true, fun _ => rfl, fun t y h => by omega, fun _ => by rw [hj]; rfl, fun h => by cases h⟩
  | succ t =>
    have ht : t < S.length := by omega
    obtain ⟨h, hh, hkey⟩ := join_key (S.map g1) (k := t) (by rw [List.length_map]; exact ht)
    rw [List.getElem_map] at hkey
    refine ⟨S[t + 1].key != S[t].key, fun h => by omega, fun t' y e hy => ?_, fun e => ?_, fun e => ⟨hj, h, hh, ?_, ?_⟩⟩
    · obtain rfl : t = t' := by omega
      rw [List.getElem?_eq_getElem ht] at hy
      injection hy with hy; rw [hy]
    · rw [hj, jstep_new hh]
      rw [hkey]
      rw [bne_iff_ne] at e
      exact fun e2 => e e2.symm
    · rw [hkey]
      rw [bne_eq_false_iff_eq] at e
      exact e.symm
    · exact join_pos (S.map g1) (by rw [List.length_map]; exact ht)
set_option maxRecDepth 100000 in
set_option maxHeartbeats 4000000 in
theorem spec_groups (A : Option Addr) (c : Nat) (zs : List Rec) (w : World) (hn : zs.length ≤ 1048576) (ht : ∀ z ∈ zs, 0 ≤ z.tag ∧ z.tag ≤ 1048576) (hr : Rd w 2 A zs.length (recs zs)) :
    Calls Try.prog 78 #[.slice A zs.length c] w fun e w' => ∃ v, e = .returned v ∧ w'.ownsRow w.heap.size 71 5 v (join (stab ltK (zs.map g1))).length (grps (join (stab ltK (zs.map g1)))) ∧ Below w.heap.size w w' := by
  have he1 : Below w.heap.size w (w.alloc (.cells #[] 71)) := (Below.refl _ _).alloc (Nat.le_refl _) _
  have HO1 := Lib.hid (World.ownsRow_made (e := 71) (size := 5) w #[] 0 (Nat.le_refl _) (Nat.zero_le _) (by simp))
  have HS := Lib.hid (spec_stable A c zs _ hn (hr.alloc (.cells #[] 71)))
  have hTM : Tame 1048576 ((stab ltR zs).map g1) := fun g hg => by
    obtain ⟨z, hz, rfl⟩ := List.mem_map.1 hg
    have := ht z ((stab_perm zs).mem_iff.1 hz)
    simp only [g1]; omega
  have HTJ := Lib.hid (fun k hk => tame_join (by omega) hTM k hk)
  have HTS := Lib.hid (fun z hz => ht z ((stab_perm (lt := ltR) zs).mem_iff.1 hz))
  have HSL := Lib.hid (stab_len (lt := ltR) zs)
  rw [stab_g1]
  obtain ⟨S, hS⟩ : ∃ S, S = stab ltR zs := ⟨_, rfl⟩
  rw [← hS] at HS HTJ HTS HSL ⊢
  clear hTM ht hS
  go_enter Try.func78, Try.ntmps78
  go_wp2_with fail
  refine HS.out.mono ?_
  rintro e w1 ⟨v1, rfl, ho1, hb1⟩
  have HOO := Lib.hid (own_below HO1.out hb1)
  have HB1 := Lib.hid (he1.trans (hb1.mono he1.size))
  have hsz1 : w.heap.size + 1 ≤ w1.heap.size := by have := hb1.size; simpa using this
  obtain ⟨A1, c1, rfl, hc1, hc1m, hr1⟩ := own_form ho1
  by_cases hz : zs.length = 0
  · have HE := Lib.hid (show S = [] from List.eq_nil_of_length_eq_zero (by rw [HSL.out]; exact hz))
    have q0 : ¬ (0 : Int) < (zs.length : Int) := by omega
    clear ho1 hr1 he1 hb1 hz
    go_wp2_with fail
    refine wp_loop_rounds 1 ?_
    rw [rounds_succ]
    go_wp2
    go_ret
    exact ⟨_, rfl, by rw [HE.out]; exact HOO.out, HB1.out⟩
  obtain ⟨gs, rfl, hg1, hg2⟩ := own_addr ho1 (by omega)
  have HC0 := Lib.hid (show Cur w.heap.size gs w w1 S (.slice (some ⟨w.heap.size, 0, none⟩) 0 0) (join ((S.map g1).take 0)) from ⟨HOO.out, by rw [HSL.out]; exact hr1, HB1.out, (by simp only [Value.ownBlock, ne_eq]; intro e; injection e with e; simp at hg1; omega), hg2⟩)
  clear ho1 hr1 he1 hb1 hz
  go_wp2_with fail
  go_loopg [3, 5] (zs.length + 1) (fun fu v i wr => ∃ k : Nat, zs.length < k + fu ∧ k ≤ zs.length ∧ i = .int .i64 (k : Int) ∧ Cur w.heap.size gs w wr S v (join ((S.map g1).take k)))
  case atStart => exact ⟨0, by omega, by omega, rfl, HC0.out⟩
  case round =>
    obtain ⟨k, hkf, hk, rfl, hC⟩ := hrel
    by_cases hlt : k < zs.length
    · have hkS : k < S.length := by have := HSL.out; omega
      have hTo := HTJ.out k (by rw [List.length_map]; omega)
      have hxt := HTS.out S[k] (List.getElem_mem hkS)
      have hjl := join_len (S.map g1) k
      obtain ⟨x0, x1⟩ := hC.cells (List.getElem?_eq_getElem hkS)
      obtain ⟨nb, hnb0, hnb1, hnb2, hnb3⟩ := new_at S hkS
      have HST := Lib.hid (And.intro hnb2 hnb3)
      have HXS := Lib.hid (List.getElem?_eq_getElem hkS)
      obtain ⟨nx, hnx⟩ : ∃ nx, nx = join ((S.map g1).take (k + 1)) := ⟨_, rfl⟩
      rw [← hnx] at HST
      have HNX := Lib.hid hnx.symm
      clear hnx
      generalize join ((S.map g1).take k) = o at hTo hjl HST hC
      generalize S[k] = x at x0 x1 hxt HST hnb1 HXS
      clear hnb2 hnb3
      obtain ⟨Ao, co, rfl, hco, hcom, hro⟩ := own_form hC.own
      clear hro
      have q1 : (k : Int) < (zs.length : Int) := by omega
      have HN1 := Lib.hid hnb1
      have HN0 := Lib.hid hnb0
      have HX := Lib.hid hxt
      have HTO := Lib.hid (And.intro hTo hjl)
      clear hnb0 hnb1 hTo hjl hxt
      go_upto_region 6 with fail
      go_cut [31] (fun s wx => s = .bool nb ∧ ∃ m, wx = wr.drewN m)
      case first =>
        by_cases h0 : k = 0
        · obtain rfl : nb = true := HN0.out h0
          have q2 : ((k : Int) == 0) = true := by rw [beq_iff_eq]; omega
          clear h0
          go_quiet (fail)
          go_wp2_with fail
          go_meet
          exact ⟨rfl, _, rfl⟩
        · obtain ⟨t, ht⟩ : ∃ t, k = t + 1 := ⟨k - 1, by omega⟩
          have htS : t < S.length := by omega
          have HKE := Lib.hid (HN1.out t S[t] ht (List.getElem?_eq_getElem htS))
          obtain ⟨y0, y1⟩ := hC.cells (List.getElem?_eq_getElem htS)
          generalize S[t] = y at y0 y1 HKE
          have q2 : ((k : Int) == 0) = false := by rw [beq_eq_false_iff_ne]; omega
          have q3 : IntKind.i64.wrap ((k : Int) - 1) = (t : Int) := by rw [IntWalk.i64_in _ (by omega)]; omega
          have q4 : (t : Int) < (zs.length : Int) := by omega
          have q5 : t < zs.length := by omega
          clear ht h0
          go_quiet (fail)
          go_wp2_with fail
          go_meet
          exact ⟨by rw [HKE.out], _, rfl⟩
      case rest =>
        obtain ⟨rfl, m, hwc⟩ := hcut
        obtain ⟨wq, hwq⟩ : ∃ W : World, W = wc := ⟨_, rfl⟩
        rw [← hwq] at hwc ⊢
        have hCq : Cur w.heap.size gs w wq S (.slice Ao o.length co) o := by rw [hwc]; exact hC.drewN m
        have z0 : wq.cell? ⟨gs, k * 2, none⟩ = some (.int .i64 x.key) := by rw [hwc]; exact x0
        have z1 : wq.cell? ⟨gs, k * 2 + 1, none⟩ = some (.int .i64 x.tag) := by rw [hwc]; exact x1
        have HXC := Lib.hid (fun (W : World) (h : Below wq.heap.size wq W) => And.intro (cells_below h z0) (cells_below h z1))
        clear hwc hwq hC x0 x1
        have hsq := hCq.bel.size
        go_upto_if 31 with fail
        go_cut [3] (fun s wx => Cur w.heap.size gs w wx S s (pre o x nb))
        case first =>
          cases nb with
          | true =>
            have hh : o.length ≤ 1099511627776 := by have := HTO.out.2; omega
            have ho3 : wq.drew.ownsRow w.heap.size 71 5 (.slice Ao o.length co) o.length (grps o) := hCq.own
            go_wp2_with fail
            go_region_law ((refine mem.step_push_at wq.drew rfl (.tmp 32) (.tmp 49) 25 rfl w.heap.size 71 _ 5 40 Try.underlying25 mem.info_grp rfl (by decide) (.slice Ao o.length co) o.length (grps o) (by simp [Act.eval, Act.put]) ho3 (grps [⟨x.key, 0, 0, x.tag, x.tag⟩]) 1 rfl (mem.grps_one [⟨x.key, 0, 0, x.tag, x.tag⟩]) (by simp [Act.eval, Act.put]) hh (by decide) hsq ?_; intro v' w' ho' hg0 hnw'; have hg' := mem.grown_undrew hg0; clear hg0))
            all_goals
              have HP := Lib.hid (hCq.push hsq ho' hg' hnw')
              clear ho' hg' hnw' ho3
              go_wp2_with fail
              go_meet
              exact HP.out
          | false =>
            go_wp2_with fail
            go_meet
            exact hCq
        case rest =>
          obtain ⟨wx, hwx⟩ : ∃ W : World, W = wc := ⟨_, rfl⟩
          rw [← hwx] at hcut ⊢
          clear hwx
          obtain ⟨q, z, hql, hqo2, hqz, hqs, hzb⟩ : ∃ q z, (pre o x nb).length = q + 1 ∧ q ≤ o.length ∧ (pre o x nb)[q]? = some z ∧ (pre o x nb).set q (upd z x) = nx ∧ (0 ≤ z.count ∧ z.count ≤ 1099511627776) ∧ (0 ≤ z.sum ∧ z.sum ≤ 1099511627776) := by
            cases nb with
            | true =>
              obtain ⟨z, h1, h2, h3, h4⟩ := pre_new o x
              exact ⟨o.length, z, h2, Nat.le_refl _, h1, h3.trans (HST.out.1 rfl).symm, by subst h4; simp⟩
            | false =>
              obtain ⟨h0, h, h1, h2, h3⟩ := HST.out.2 rfl
              refine ⟨o.length - 1, h, by simp [pre]; omega, by omega, h1, (pre_old h1 h2).trans h0.symm, ?_⟩
              have := HTO.out.1 h (List.mem_of_getElem? h1)
              have := HTO.out.2
              omega
          generalize pre o x nb = p2 at hcut hql hqz hqs
          obtain ⟨A2, c2, rfl, hc2, hc2m, hr2⟩ := own_form hcut.own
          obtain ⟨gb, rfl, hgb1, hgb2⟩ := own_addr hcut.own (by omega)
          obtain ⟨ca0, ca1, ca2, ca3, ca4⟩ := cells_grp hcut.own hqz
          have hqo : q < p2.length := by omega
          have p1 : IntKind.i64.wrap ((p2.length : Int) - 1) = (q : Int) := by have := hcut.own.1; rw [IntWalk.i64_in _ (by have := HTO.out.2; omega)]; omega
          have p3 : (q : Int) < (p2.length : Int) := by omega
          obtain ⟨zk, zc, zs, zl, zm⟩ := z
          simp only at ca0 ca1 ca2 ca3 ca4 hzb
          have pc : IntKind.i64.wrap (zc + 1) = zc + 1 := IntWalk.i64_in _ (by omega)
          have hsx := hcut.bel.size
          have HS0 := Lib.hid (fun zc' => show St w.heap.size gs wx.heap.size w (wx.alloc (.cells #[.int .i64 zk, .int .i64 zc', .int .i64 zs, .int .i64 zl, .int .i64 zm] 71)) S (.slice (some ⟨gb, 0, none⟩) p2.length c2) p2 ⟨zk, zc', zs, zl, zm⟩ from ⟨hcut.below hsx ((Below.refl _ _).alloc (Nat.le_refl _) _), Blk.new _ _ _, (by simp only [Value.ownBlock, ne_eq]; intro e; injection e with e; omega), (by have := hcut.lt; omega), hsx⟩)
          have m1 : (wx.alloc (.cells #[.int .i64 zk, .int .i64 zc, .int .i64 zs, .int .i64 zl, .int .i64 zm] 71)).cell? ⟨wx.heap.size, 1, none⟩ = some (.int .i64 zc) := (HS0.out zc).blk.cell 1
          have f1 : (wx.alloc (.cells #[.int .i64 zk, .int .i64 zc, .int .i64 zs, .int .i64 zl, .int .i64 zm] 71)).frozen? ⟨wx.heap.size, 1, none⟩ = false := (HS0.out zc).blk.thaw 1
          have HQ := Lib.hid (And.intro hql (And.intro hqz hqs))
          have HZB := Lib.hid hzb
          clear hql hqz hqs hcut hzb
          go_upto_region 10 with fail
          have HS1 := HS0.out (zc + 1)
          obtain ⟨wa, hwa⟩ : ∃ W : World, W = wx.alloc (.cells #[.int .i64 zk, .int .i64 (zc + 1), .int .i64 zs, .int .i64 zl, .int .i64 zm] 71) := ⟨_, rfl⟩
          rw [← hwa] at HS1 ⊢
          clear hwa m1 f1 pc ca0 ca1 ca2 ca3 ca4
          have hsz0 : wx.heap.size ≤ wx.heap.size := Nat.le_refl _
          generalize wx.heap.size = gB at HS1 hsz0 ⊢
          go_cut [] (fun wy => St w.heap.size gs gB w wy S (.slice (some ⟨gb, 0, none⟩) p2.length c2) p2 ⟨zk, zc + 1, zs + x.tag, zl, zm⟩)
          case first =>
            have b1 : wa.cell? ⟨gB, 2, none⟩ = some (.int .i64 zs) := HS1.blk.cell 2
            have f1 : wa.frozen? ⟨gB, 2, none⟩ = false := HS1.blk.thaw 2
            obtain ⟨x0, x1⟩ := HS1.cur.cells HXS.out
            have HF := Lib.hid ((HS1.sum (zs + x.tag)).drewN 1)
            have ps : IntKind.i64.wrap (zs + x.tag) = zs + x.tag := IntWalk.i64_in _ (by have := HX.out; have := HZB.out; omega)
            clear HS1
            go_wp2_with fail
            go_region_law (fail)
            all_goals
              clear ps
              go_wp2_with fail
              go_meet
              exact HF.out
          case rest =>
            obtain ⟨wb, hwb⟩ : ∃ W : World, W = wc := ⟨_, rfl⟩
            rw [← hwb] at hcut ⊢
            clear hwb HS1
            go_upto_region 11 with fail
            go_cut [] (fun wy => St w.heap.size gs gB w wy S (.slice (some ⟨gb, 0, none⟩) p2.length c2) p2 ⟨zk, zc + 1, zs + x.tag, min zl x.tag, zm⟩)
            case first =>
              have b1 : wb.cell? ⟨gB, 3, none⟩ = some (.int .i64 zl) := hcut.blk.cell 3
              have f1 : wb.frozen? ⟨gB, 3, none⟩ = false := hcut.blk.thaw 3
              obtain ⟨x0, x1⟩ := hcut.cur.cells HXS.out
              have HF := Lib.hid ((hcut.least (min zl x.tag)).drewN 1)
              clear hcut
              go_wp2_with fail
              go_region_law ((refine step_call rfl 106 _ _ rfl ent_least (by simp [Act.eval, Act.put]) (least_any zl x.tag _) ?_; rintro e w3 ⟨rfl, rfl⟩; refine ⟨_, rfl, ?_⟩))
              all_goals
                go_wp2_with fail
                go_meet
                exact HF.out
            case rest =>
              obtain ⟨wd, hwd⟩ : ∃ W : World, W = wc := ⟨_, rfl⟩
              rw [← hwd] at hcut ⊢
              clear hwd
              go_upto_region 12 with fail
              go_cut [] (fun wy => St w.heap.size gs gB w wy S (.slice (some ⟨gb, 0, none⟩) p2.length c2) p2 ⟨zk, zc + 1, zs + x.tag, min zl x.tag, max zm x.tag⟩)
              case first =>
                have b1 : wd.cell? ⟨gB, 4, none⟩ = some (.int .i64 zm) := hcut.blk.cell 4
                have f1 : wd.frozen? ⟨gB, 4, none⟩ = false := hcut.blk.thaw 4
                obtain ⟨x0, x1⟩ := hcut.cur.cells HXS.out
                have HF := Lib.hid ((hcut.most (max zm x.tag)).drewN 1)
                clear hcut
                go_wp2_with fail
                go_region_law ((refine step_call rfl 107 _ _ rfl ent_most (by simp [Act.eval, Act.put]) (most_any zm x.tag _) ?_; rintro e w3 ⟨rfl, rfl⟩; refine ⟨_, rfl, ?_⟩))
                all_goals
                  go_wp2_with fail
                  go_meet
                  exact HF.out
              case rest =>
                obtain ⟨we, hwe⟩ : ∃ W : World, W = wc := ⟨_, rfl⟩
                rw [← hwe] at hcut ⊢
                clear hwe
                have b0 : we.cell? ⟨gB, 0, none⟩ = some (.int .i64 zk) := hcut.blk.cell 0
                have b1 : we.cell? ⟨gB, 1, none⟩ = some (.int .i64 (zc + 1)) := hcut.blk.cell 1
                have b2 : we.cell? ⟨gB, 2, none⟩ = some (.int .i64 (zs + x.tag)) := hcut.blk.cell 2
                have b3 : we.cell? ⟨gB, 3, none⟩ = some (.int .i64 (min zl x.tag)) := hcut.blk.cell 3
                have b4 : we.cell? ⟨gB, 4, none⟩ = some (.int .i64 (max zm x.tag)) := hcut.blk.cell 4
                obtain ⟨d0, d1, d2, d3, d4⟩ := cells_grp hcut.cur.own HQ.out.2.1
                simp only at d0 d1 d2 d3 d4
                have f1 := fun i => own_thaw hcut.cur.own i
                have HP := Lib.hid (show Cur w.heap.size gs w _ S (.slice (some ⟨gb, 0, none⟩) p2.length c2) nx from by
                  have := hcut.cur.put rfl hgb1 hqo (upd ⟨zk, zc, zs, zl, zm⟩ x)
                  rw [HQ.out.2.2] at this
                  exact this)
                clear hcut
                go_wp2_with fail
                clear p1
                go_wp2
                go_roundg (gk - 1)
                case measure => omega
                case rel => exact ⟨k + 1, by omega, by omega, by go_num, by rw [HNX.out]; exact HP.out⟩
    · obtain rfl : k = zs.length := by omega
      have HE := Lib.hid (show (S.map g1).take zs.length = S.map g1 from List.take_of_length_le (by rw [List.length_map, HSL.out]; omega))
      rw [HE.out] at hC
      go_wp2
      go_ret
      exact ⟨_, rfl, hC.own, hC.bel⟩
end Go.Proofs.Ytgngoedooemboaa.gp
