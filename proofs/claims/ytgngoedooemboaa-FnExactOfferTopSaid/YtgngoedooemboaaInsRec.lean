/- slices.Insert of one record into a row of the caller's own. Condition: at most 2^20 records. -/
import Derived.Test.YtgngoedooemboaaCopyBlk
import Derived.Test.YtgngoedooemboaaElem
import Derived.Test.YtgngoedooemboaaRec
set_option linter.unusedVariables false
set_option linter.unusedSimpArgs false
namespace Go.Proofs.Ytgngoedooemboaa.insRec
open Go.RowKit Go.Proofs.Ytgngoedooemboaa.mem

theorem two_r (r : Rec) : recs [r] = [.int .i64 r.key, .int .i64 r.tag] := by rw [recs_single]; rfl
set_option maxRecDepth 100000 in
set_option maxHeartbeats 2000000 in
/-- at the end -/
theorem end_any (A : Option Addr) (c : Nat) (l : List Rec) (r : Rec) (base vb : Nat) (w : World) (hn : l.length ≤ 1048576) (ho : w.ownsRow base 49 2 (.slice A l.length c) l.length (recs l)) (hbase : base ≤ w.heap.size)
    (hB : Blk w vb 49 #[.int .i64 r.key, .int .i64 r.tag]) :
    Calls Try.prog 72 #[.slice A l.length c, .int .i64 (l.length : Int), .slice (some ⟨vb, 0, none⟩) 1 1] w fun e w' => ∃ v, e = .returned v ∧ w'.ownsRow base 49 2 v (l.length + 1) (recs (l ++ [r])) ∧ w.grownBy w' (Value.slice A l.length c).ownBlock := by
  have hrB : Rd w 2 (some ⟨vb, 0, none⟩) 1 (recs [r]) := hB.rd (by rw [len_recs]; rfl) (by rw [two_r]; rfl)
  have hh : l.length + 1 ≤ 1099511627776 := by omega
  have HR := Lib.hid (show recs (l ++ [r]) = recs l ++ recs [r] from recs_app _ _)
  obtain ⟨A2, c2, hve, hc, hcm, _⟩ := own_form ho
  obtain ⟨rfl, rfl⟩ : A = A2 ∧ c = c2 := by injection hve with a b d; exact ⟨a, d⟩
  clear hve
  go_enter Try.func72, Try.ntmps72
  go_wp2_with (at_builtin; refine mem.extend _ rfl _ _ 38 rfl base 49 _ 2 16 Try.underlying38 mem.info_rec rfl (by decide) _ _ _ rfl ho _ _ _ _ rfl hrB (mem.recs_one [r]) hh (by decide) hbase ?_; intro v' w' ho' hg')
  all_goals
    go_ret
    exact ⟨_, rfl, by rw [HR.out]; exact ho', by first | exact hg' | (rw [show (Value.slice A l.length l.length).ownBlock = (Value.slice A l.length c).ownBlock by cases A <;> rfl]; exact hg')⟩

theorem grown_trans {w w1 w2 : World} {row : Option Nat} (h : w.grownBy w1 row) (h2 : w1.grownBy w2 row) : w.grownBy w2 row :=
  ⟨h2.os.trans h.os, h2.tape.trans h.tape, h2.output.trans h.output, Nat.le_trans h.size h2.size, fun k hk hne => (h2.block k (Nat.lt_of_lt_of_le hk h.size) hne).trans (h.block k hk hne)⟩
theorem shape_blk {w : World} {g : Nat} {t : TypeId} {cs : Array Value} (h : Blk w g t cs) : w.shape? g = some (t, cs.size) := by
  unfold Blk at h
  simp [World.shape?, h]
theorem size_rec (w : World) : (Go.sizeOf 49).run Try.prog w = .ok 2 w := by
  obtain ⟨i0, hi0, h0, h1, h2⟩ := info_parts mem.info_rec
  simp [Go.sizeOf, typeInfo, hi0, h1]
theorem isz_rec : (Try.prog.info? 49).map (·.size) = some 2 := by
  obtain ⟨i0, hi0, h0, h1, h2⟩ := info_parts mem.info_rec
  rw [hi0]; simp [h1]
theorem drop_rd {w : World} {g : Nat} {cur : Array Value} {l : List Rec} (hg : Blk w g 49 cur) (ht : cur.toList.take (l.length * 2) = recs l) (i : Nat) : ∀ j v, (recs (l.drop i))[j]? = some v → w.cell? ((⟨g, i * 2, none⟩ : Addr).add j) = some v := by
  intro j v hj
  have e1 : (⟨g, i * 2, none⟩ : Addr).add j = ⟨g, i * 2 + j, none⟩ := by
    unfold Addr.add; split
    · rename_i h0; subst h0; rfl
    · rfl
  rw [e1, hg.cell]
  rw [recs_drop, ← ht, List.getElem?_drop, List.getElem?_take] at hj
  split at hj
  · simpa using hj
  · cases hj
theorem box_rd {w : World} {vb : Nat} {r : Rec} (hB : Blk w vb 49 #[.int .i64 r.key, .int .i64 r.tag]) : ∀ j v, (recs [r])[j]? = some v → w.cell? ((⟨vb, 0, none⟩ : Addr).add j) = some v := by
  intro j v hj
  have e1 : (⟨vb, 0, none⟩ : Addr).add j = ⟨vb, j, none⟩ := by
    unfold Addr.add; split
    · rename_i h0; subst h0; rfl
    · simp
  rw [e1, hB.cell]
  rw [two_r] at hj
  simpa using hj

set_option maxRecDepth 100000 in
set_option maxHeartbeats 4000000 in
/-- there is room -/
theorem room_any (g c : Nat) (cur : Array Value) (l : List Rec) (i : Nat) (r : Rec) (base vb : Nat) (w : World) (hn : l.length ≤ 1048576) (hi : i < l.length) (hroom : l.length + 1 ≤ c) (hcm : c ≤ maxLen) (hgb : base ≤ g)
    (hg : Blk w g 49 cur) (hcs : cur.size = c * 2) (ht : cur.toList.take (l.length * 2) = recs l) (hB : Blk w vb 49 #[.int .i64 r.key, .int .i64 r.tag]) (hne : vb ≠ g) :
    Calls Try.prog 72 #[.slice (some ⟨g, 0, none⟩) l.length c, .int .i64 (i : Int), .slice (some ⟨vb, 0, none⟩) 1 1] w fun e w' => ∃ v, e = .returned v ∧ w'.ownsRow base 49 2 v (l.length + 1) (recs (l.take i ++ ([r] ++ l.drop i))) ∧ w.grownBy w' (some g) := by
  have hov : ∀ o lb cb, (callFunc 100 #[.slice (some ⟨vb, 0, none⟩) 1 1, .slice (some ⟨g, o, none⟩) lb cb]).run Try.prog w = .ok (.value (.bool false)) w := fun o lb cb => by
    rw [run_callFunc_extern Try.func100 (by kernel_rfl) (by kernel_rfl) (by kernel_rfl) (e := Extern.SlicesOverlaps.overlaps #[38, 38] #[4]) (by kernel_rfl),
      Lib.run_overlaps_apart w 38 4 49 Try.underlying38 2 size_rec ⟨vb, 0, none⟩ ⟨g, o, none⟩ 1 1 lb cb hne 49 49 2 cur.size (shape_blk hB) (shape_blk hg) (by omega) (hB.thaw 0) (hB.thaw 2)]
    rfl
  have hdl : (recs (l.drop i)).length = (l.length - i) * 2 := by rw [len_recs, List.length_drop]
  have hmin : Nat.min (l.length + 1 - i) (l.length - i) = l.length - i := by simp only [Nat.min_def]; split <;> omega
  have hcp1 : ∀ ty dc sc, (Builtin.copy_ #[38, 38] ty #[.slice (some ⟨g, (i + 1) * 2, none⟩) (l.length - i) dc, .slice (some ⟨g, i * 2, none⟩) (l.length + 1 - i) sc]).run Try.prog w.drew = .ok (goInt ((l.length - i : Nat) : Int)) (w.drew.setRow g (over cur ((i + 1) * 2) (recs (l.drop i)))) := fun ty dc sc => by
    have := run_copy_blk (P := Try.prog) w.drew 38 38 ty 49 g ((i + 1) * 2) (l.length - i) dc ⟨g, i * 2, none⟩ (l.length + 1 - i) sc cur 49 (recs (l.drop i)) 2 Try.underlying38 isz_rec hg.drew (by rw [hmin]; exact hdl) (drop_rd hg.drew ht i) (by rw [hdl, hcs]; omega) (recs_one _)
    rw [hmin] at this; exact this
  have hg1 := (hg.drew).setRow (over cur ((i + 1) * 2) (recs (l.drop i)))
  have hgr1 : w.grownBy (w.drew.setRow g (over cur ((i + 1) * 2) (recs (l.drop i)))) (some g) := grown_undrew (grown_setRow w.drew g _)
  obtain ⟨W1, hW1⟩ : ∃ W1, W1 = w.drew.setRow g (over cur ((i + 1) * 2) (recs (l.drop i))) := ⟨_, rfl⟩
  rw [← hW1] at hcp1 hg1 hgr1
  clear hW1
  have hB1 : Blk W1 vb 49 #[.int .i64 r.key, .int .i64 r.tag] := hB.grown hgr1 (fun e => hne (by injection e))
  have hs1 : (over cur ((i + 1) * 2) (recs (l.drop i))).size = c * 2 := by rw [over_size (by rw [hdl, hcs]; omega), hcs]
  have hmin2 : Nat.min 1 (l.length + 1 - i) = 1 := by simp only [Nat.min_def]; split <;> omega
  have hcp2 : ∀ ty dc, (Builtin.copy_ #[38, 38] ty #[.slice (some ⟨g, i * 2, none⟩) (l.length + 1 - i) dc, .slice (some ⟨vb, 0, none⟩) 1 1]).run Try.prog W1 = .ok (goInt 1) (W1.setRow g (over (over cur ((i + 1) * 2) (recs (l.drop i))) (i * 2) (recs [r]))) := fun ty dc => by
    have := run_copy_blk (P := Try.prog) W1 38 38 ty 49 g (i * 2) (l.length + 1 - i) dc ⟨vb, 0, none⟩ 1 1 _ 49 (recs [r]) 2 Try.underlying38 isz_rec hg1 (by rw [hmin2, len_recs]; rfl) (box_rd hB1) (by rw [len_recs, hs1]; simp only [List.length_cons, List.length_nil]; omega) (recs_one _)
    rw [hmin2] at this; exact this
  have hg2 := hg1.setRow (over (over cur ((i + 1) * 2) (recs (l.drop i))) (i * 2) (recs [r]))
  have hgr2 := grown_trans hgr1 (grown_setRow W1 g (over (over cur ((i + 1) * 2) (recs (l.drop i))) (i * 2) (recs [r])))
  obtain ⟨W2, hW2⟩ : ∃ W2, W2 = W1.setRow g (over (over cur ((i + 1) * 2) (recs (l.drop i))) (i * 2) (recs [r])) := ⟨_, rfl⟩
  rw [← hW2] at hcp2 hg2 hgr2
  clear hW2
  have hlr : (recs [r]).length = 2 := by rw [len_recs]; rfl
  have hs2 : (over (over cur ((i + 1) * 2) (recs (l.drop i))) (i * 2) (recs [r])).size = c * 2 := by rw [over_size (by rw [hlr, hs1]; omega), hs1]
  have hfin : (over (over cur ((i + 1) * 2) (recs (l.drop i))) (i * 2) (recs [r])).toList.take ((l.length + 1) * 2) = recs (l.take i ++ ([r] ++ l.drop i)) := by
    have := over_two (cur := cur) (xs := recs l) (ys := recs [r]) (i := i * 2) (m := 2) (q := l.length * 2) ht (len_recs l) (by omega) hlr (by omega)
    rw [show i * 2 + 2 = (i + 1) * 2 by omega, show l.length * 2 + 2 = (l.length + 1) * 2 by omega, ← recs_drop, ← recs_take] at this
    rw [this, recs_app, recs_app]
  have HO := Lib.hid (show W2.ownsRow base 49 2 (.slice (some ⟨g, 0, none⟩) (l.length + 1) c) (l.length + 1) (recs (l.take i ++ ([r] ++ l.drop i))) from by
    have := hg2.own (size := 2) hgb hroom hcm hs2
    rw [hfin] at this; exact this)
  have HG := Lib.hid hgr2
  clear hg2 hgr2 hfin hs2 hlr hs1 hB1 hmin hmin2 hgr1 hg1 hdl ht hcs
  unfold maxLen at hcm
  have hz1 : ¬ ((i : Int) = (l.length : Int)) := by omega
  have hw1 : IntKind.i64.wrap ((i : Int) + 1) = (i : Int) + 1 := by rw [IntKind.wrap_i64]; omega
  have hw2 : IntKind.i64.wrap ((l.length : Int) + 1) = (l.length : Int) + 1 := by rw [IntKind.wrap_i64]; omega
  have hb1 : (0 : Int) ≤ (i : Int) + 1 := by omega
  have hb5 : (0 : Int) ≤ (l.length : Int) + 1 := by omega
  have hin : i ≤ l.length := by omega
  have htn : ((i : Int) + 1).toNat = i + 1 := by omega
  have htn2 : ((l.length : Int) + 1).toNat = l.length + 1 := by omega
  have hb2 : ¬ (c = i + 1) := by omega
  have hb3 : (i : Int) ≤ (l.length : Int) + 1 := by omega
  have hb6 : (i : Int) + 1 ≤ (l.length : Int) + 1 := by omega
  have hb7 : ¬ ((c : Int) < (l.length : Int) + 1) := by omega
  have hb8 : (l.length : Int) + 1 ≤ (c : Int) := by omega
  have hb4 : ¬ (c = i) := by omega
  go_enter Try.func72, Try.ntmps72
  go_wp2_with (simp only [hov])
  go_region_law (refine step_copy_runI rfl _ _ 38 38 rfl _ _ (by simp [Act.eval, Act.put]) (by simp [Act.eval, Act.put]) (hcp1 _ _ _) ?_)
  go_wp2_with (at_builtin; refine wpList_copy_runI _ rfl _ _ 38 38 rfl _ _ rfl rfl (hcp2 _ _) ?_)
  go_ret
  exact ⟨_, rfl, HO.out, HG.out⟩

theorem zero_cells (k : Nat) : Builtin.zeroCells (Value.agg #[.int .i64 0, .int .i64 0]).cells k = rep (k * 2) (.int .i64 0) := made_rec k
set_option maxRecDepth 100000 in
set_option maxHeartbeats 4000000 in
/-- there is no room -/
theorem grow_any (g : Nat) (cur : Array Value) (l : List Rec) (i : Nat) (r : Rec) (base vb : Nat) (w : World) (hn : l.length ≤ 1048576) (hi : i < l.length) (hgb : base ≤ w.heap.size)
    (hg : Blk w g 49 cur) (hcs : cur.size = l.length * 2) (ht : cur.toList.take (l.length * 2) = recs l) (hB : Blk w vb 49 #[.int .i64 r.key, .int .i64 r.tag]) :
    Calls Try.prog 72 #[.slice (some ⟨g, 0, none⟩) l.length l.length, .int .i64 (i : Int), .slice (some ⟨vb, 0, none⟩) 1 1] w fun e w' => ∃ v, e = .returned v ∧ w'.ownsRow base 49 2 v (l.length + 1) (recs (l.take i ++ ([r] ++ l.drop i))) ∧ w.grownBy w' (some g) := by
  obtain ⟨i0, hi0, hz0, hzs, hzb⟩ := info_parts mem.info_rec
  have hti : (recs (l.take i)).length = i * 2 := by rw [len_recs, List.length_take, Nat.min_eq_left (by omega)]
  have hold : (Builtin.firstCells i0.size i (.slice (some ⟨g, 0, none⟩) i l.length)).run Try.prog w.drew = .ok (recs (l.take i)).toArray w.drew := by
    rw [hzs]
    refine run_firstCells_some w.drew 2 i ⟨g, 0, none⟩ i l.length (recs (l.take i)) hti (fun j v hj => ?_)
    have h0 := drop_rd hg.drew ht 0 j v
    rw [List.drop_zero, Nat.zero_mul] at h0
    refine h0 ?_
    rw [recs_take, List.getElem?_take] at hj
    split at hj
    · exact hj
    · cases hj
  have hroom : l.length < i + (l.length + 1 - i) := by omega
  have hrz : ∀ ty, ∃ G W1, (Builtin.append_ #[38, 3] ty #[.slice (some ⟨g, 0, none⟩) i l.length, .int .i64 ((l.length + 1 - i : Nat) : Int)]).run Try.prog w = .ok (.slice (some ⟨w.heap.size, 0, none⟩) (l.length + 1) G) W1 ∧
      (∃ ROW : Array Value, Blk W1 w.heap.size 49 ROW ∧ ROW.size = G * 2 ∧ ROW.toList.take (i * 2) = recs (l.take i)) ∧ Below w.heap.size w W1 ∧ l.length + 1 ≤ G ∧ G ≤ maxLen := fun ty => by
    have h := Lib.run_append_grow_zeros (P := Try.prog) w 38 3 ty 49 i0 _ .i64 .i64 Try.underlying38 Try.underlying3 hi0 hz0 (some ⟨g, 0, none⟩) i l.length (recs (l.take i)) hold (l.length + 1 - i) (by omega) (by rw [hzs]; omega) hroom (by omega) (by rw [hzb]; omega) (by rw [hzb]; exact growslice_fits hroom (by omega))
    have e1 : i + (l.length + 1 - i) = l.length + 1 := by omega
    rw [e1] at h
    have hG := grownCap_ge w (l.length + 1) l.length 49
    refine ⟨_, _, h, ⟨_, Blk.new w.drew _ _, ?_, ?_⟩, (below_drewN (Below.refl w.heap.size w) 1).alloc (Nat.le_refl _) _, hG, grownCap_le_maxLen w _ _ _ (by unfold maxLen; omega)⟩
    · rw [zero_cells, zero_cells]
      simp only [Array.size_append, List.size_toArray, rep, Array.size_replicate, hti]
      omega
    · rw [Array.toList_append, Array.toList_append, List.append_assoc]
      show ((recs (l.take i)) ++ _).take (i * 2) = _
      rw [List.take_append_of_le_length (by omega), List.take_of_length_le (by omega)]
  obtain ⟨G, W1, hap, ⟨ROW, hR, hRs, hRt⟩, hbl, hG, hGm⟩ := hrz 38
  have hlt := hg.lt
  have hvlt := hB.lt
  have hg1 := hg.below hbl hlt
  have hB1 := hB.below hbl hvlt
  have hlr : (recs [r]).length = 2 := by rw [len_recs]; rfl
  have hdl : (recs (l.drop i)).length = (l.length - i) * 2 := by rw [len_recs, List.length_drop]
  have hmin2 : Nat.min 1 (l.length + 1 - i) = 1 := by simp only [Nat.min_def]; split <;> omega
  have hmin : Nat.min (l.length - i) (l.length - i) = l.length - i := by simp only [Nat.min_def]; split <;> omega
  have hcpA : ∀ ty dc, (Builtin.copy_ #[38, 38] ty #[.slice (some ⟨w.heap.size, i * 2, none⟩) (l.length + 1 - i) dc, .slice (some ⟨vb, 0, none⟩) 1 1]).run Try.prog W1 = .ok (goInt 1) (W1.setRow w.heap.size (over ROW (i * 2) (recs [r]))) := fun ty dc => by
    have := run_copy_blk (P := Try.prog) W1 38 38 ty 49 w.heap.size (i * 2) (l.length + 1 - i) dc ⟨vb, 0, none⟩ 1 1 ROW 49 (recs [r]) 2 Try.underlying38 isz_rec hR (by rw [hmin2, len_recs]; rfl) (box_rd hB1) (by rw [hlr, hRs]; omega) (recs_one _)
    rw [hmin2] at this; exact this
  have hR2 := hR.setRow (over ROW (i * 2) (recs [r]))
  have hgr2 := below_grown hbl hbl.size (grown_setRow W1 w.heap.size (over ROW (i * 2) (recs [r]))) (fun k hk => by injection hk with hk; omega)
  have hg2 : Blk (W1.setRow w.heap.size (over ROW (i * 2) (recs [r]))) g 49 cur := hg1.grown (grown_setRow W1 w.heap.size _) (fun e => by injection e with e; omega)
  have hs2 : (over ROW (i * 2) (recs [r])).size = G * 2 := by rw [over_size (by rw [hlr, hRs]; omega), hRs]
  have ht2 : (over ROW (i * 2) (recs [r])).toList.take ((i + 1) * 2) = recs (l.take i) ++ recs [r] := by rw [take_over (by rw [hlr, hRs]; omega) (by rw [hlr]; omega), hRt]
  obtain ⟨W2, hW2⟩ : ∃ W2, W2 = W1.setRow w.heap.size (over ROW (i * 2) (recs [r])) := ⟨_, rfl⟩
  rw [← hW2] at hcpA hR2 hgr2 hg2
  clear hW2
  have hcpB : ∀ ty dc sc, (Builtin.copy_ #[38, 38] ty #[.slice (some ⟨w.heap.size, (i + 1) * 2, none⟩) (l.length - i) dc, .slice (some ⟨g, i * 2, none⟩) (l.length - i) sc]).run Try.prog W2.drew = .ok (goInt ((l.length - i : Nat) : Int)) (W2.drew.setRow w.heap.size (over (over ROW (i * 2) (recs [r])) ((i + 1) * 2) (recs (l.drop i)))) := fun ty dc sc => by
    have := run_copy_blk (P := Try.prog) W2.drew 38 38 ty 49 w.heap.size ((i + 1) * 2) (l.length - i) dc ⟨g, i * 2, none⟩ (l.length - i) sc _ 49 (recs (l.drop i)) 2 Try.underlying38 isz_rec hR2.drew (by rw [hmin]; exact hdl) (drop_rd hg2.drew ht i) (by rw [hdl, hs2]; omega) (recs_one _)
    rw [hmin] at this; exact this
  have hR3 := hR2.drew.setRow (over (over ROW (i * 2) (recs [r])) ((i + 1) * 2) (recs (l.drop i)))
  have hgr3 := below_grown hgr2 hgr2.size (grown_undrew (grown_setRow W2.drew w.heap.size (over (over ROW (i * 2) (recs [r])) ((i + 1) * 2) (recs (l.drop i))))) (fun k hk => by injection hk with hk; omega)
  have hs3 : (over (over ROW (i * 2) (recs [r])) ((i + 1) * 2) (recs (l.drop i))).size = G * 2 := by rw [over_size (by rw [hdl, hs2]; omega), hs2]
  have ht3 : (over (over ROW (i * 2) (recs [r])) ((i + 1) * 2) (recs (l.drop i))).toList.take ((l.length + 1) * 2) = recs (l.take i ++ ([r] ++ l.drop i)) := by
    rw [take_over (by rw [hdl, hs2]; omega) (by rw [hdl]; omega), ht2, recs_app, recs_app, List.append_assoc]
  obtain ⟨W3, hW3⟩ : ∃ W3, W3 = W2.drew.setRow w.heap.size (over (over ROW (i * 2) (recs [r])) ((i + 1) * 2) (recs (l.drop i))) := ⟨_, rfl⟩
  rw [← hW3] at hcpB hR3 hgr3
  clear hW3
  have HO := Lib.hid (show W3.ownsRow base 49 2 (.slice (some ⟨w.heap.size, 0, none⟩) (l.length + 1) G) (l.length + 1) (recs (l.take i ++ ([r] ++ l.drop i))) from by
    have := hR3.own (size := 2) hgb hG hGm hs3
    rw [ht3] at this; exact this)
  have HG := Lib.hid (show w.grownBy W3 (some g) from ⟨hgr3.os, hgr3.tape, hgr3.output, hgr3.size, fun k hk _ => hgr3.block k hk⟩)
  clear hR3 hgr3 hs3 ht3 ht2 hs2 hg2 hgr2 hR2 hmin hmin2 hdl hlr hB1 hg1 hbl hR hRs hRt hroom hrz hold hti hcs ht hlt hvlt hi0 hz0 hzs hzb
  unfold maxLen at hGm
  have hz1 : ¬ ((i : Int) = (l.length : Int)) := by omega
  have hw1 : IntKind.i64.wrap ((i : Int) + 1) = (i : Int) + 1 := by rw [IntKind.wrap_i64]; omega
  have hw2 : IntKind.i64.wrap ((l.length : Int) + 1) = (l.length : Int) + 1 := by rw [IntKind.wrap_i64]; omega
  have hw3 : IntKind.i64.wrap ((l.length : Int) + 1 - (i : Int)) = ((l.length + 1 - i : Nat) : Int) := by rw [IntKind.wrap_i64]; omega
  have hb1 : (0 : Int) ≤ (i : Int) + 1 := by omega
  have hin : i ≤ l.length := by omega
  have htn : ((i : Int) + 1).toNat = i + 1 := by omega
  have hb2 : ¬ (G = i + 1) := by omega
  have hb3 : (i : Int) ≤ (l.length : Int) + 1 := by omega
  have hb6 : (i : Int) + 1 ≤ (l.length : Int) + 1 := by omega
  have hb7 : (l.length : Int) < (l.length : Int) + 1 := by omega
  have hb4 : ¬ (G = i) := by omega
  have hb5 : ¬ (l.length = i) := by omega
  go_enter Try.func72, Try.ntmps72
  go_wp2_with (first
    | (at_builtin; refine Lib.wpList_append_run _ rfl _ _ _ _ rfl _ _ rfl rfl _ _ hap ?_)
    | (at_builtin; refine wpList_copy_runI _ rfl _ _ 38 38 rfl _ _ rfl rfl (hcpA _ _) ?_))
  go_region_law (refine step_copy_runI rfl _ _ 38 38 rfl _ _ (by simp [Act.eval, Act.put]) (by simp [Act.eval, Act.put]) (hcpB _ _ _) ?_)
  go_wp2
  go_ret
  exact ⟨_, rfl, HO.out, HG.out⟩

/-- a record put in at i -/
theorem ins_any (A : Option Addr) (c : Nat) (l : List Rec) (i : Nat) (r : Rec) (base vb : Nat) (w : World) (hn : l.length ≤ 1048576) (hi : i ≤ l.length) (hbase : base ≤ w.heap.size) (ho : w.ownsRow base 49 2 (.slice A l.length c) l.length (recs l))
    (hB : Blk w vb 49 #[.int .i64 r.key, .int .i64 r.tag]) (hne : (Value.slice A l.length c).ownBlock ≠ some vb) :
    Calls Try.prog 72 #[.slice A l.length c, .int .i64 (i : Int), .slice (some ⟨vb, 0, none⟩) 1 1] w fun e w' => ∃ v, e = .returned v ∧ w'.ownsRow base 49 2 v (l.length + 1) (recs (l.take i ++ ([r] ++ l.drop i))) ∧ w.grownBy w' (Value.slice A l.length c).ownBlock := by
  by_cases he : i = l.length
  · subst he
    have h := end_any A c l r base vb w hn ho hbase hB
    rw [List.take_length, List.drop_length, List.append_nil]
    exact h
  · rcases ho.2 with ⟨hv, h0⟩ | ⟨g, cap, cur, hv, hb, hg, hnc, hcm, hcs, ht⟩
    · omega
    · injection hv with h1 h2 h3
      subst h1; subst h3
      have hne' : vb ≠ g := fun e => hne (by rw [e]; rfl)
      by_cases hroom : l.length + 1 ≤ c
      · exact room_any g c cur l i r base vb w hn (by omega) hroom hcm hb hg hcs ht hB hne'
      · obtain rfl : c = l.length := by omega
        exact grow_any g cur l i r base vb w hn (by omega) hbase hg hcs ht hB
end Go.Proofs.Ytgngoedooemboaa.insRec
