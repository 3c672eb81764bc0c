/- The program's tournament tree: play, treeOf, pathLength. Condition: 1 to 2^20 leaves. -/
import Derived.Test.YtgffabjajbgbjaaTnI
set_option linter.unusedVariables false
set_option linter.unusedSimpArgs false
namespace Go.Proofs.Ytgffabjajbgbjaa.tn
open Go.RowKit Go.Proofs.Ytgffabjajbgbjaa.mem

theorem blk_grow {w w' : World} {b g : Nat} {t : TypeId} {cs : Array Value} (h : Blk w b t cs) (hg : w.grownBy w' (some g)) (hne : b ≠ g) : Blk w' b t cs := h.grown hg (by intro e; injection e with e; exact hne e)
theorem ints_put (l : List Int) (i : Nat) (x : Int) : (ints l).toArray.setIfInBounds i (.int .i64 x) = (ints (l.set i x)).toArray := by simp [ints, List.map_set]
theorem ints_cell {l : List Int} {i : Nat} {x : Int} (h : l[i]? = some x) : (ints l).toArray[i]? = some (.int .i64 x) := by
  simp only [List.getElem?_toArray, ints, List.getElem?_map, h]; rfl
theorem only_far {a w : World} {g b : Nat} (h : a.grownBy w (some g)) (hb : a.heap.size ≤ b) (i : Nat) (u : Value) : a.grownBy (w.setCell ⟨b, i, none⟩ u) (some g) :=
  ⟨h.os, h.tape, h.output, by rw [World.size_setCell]; exact h.size, fun k hk hne => (Below.heap_setCell w ⟨b, i, none⟩ u k (by simp; omega)).trans (h.block k hk hne)⟩
theorem then_grown {a b c : World} {row : Option Nat} (h : a.grownBy b row) (k : b.grownBy c row) : a.grownBy c row :=
  ⟨k.os.trans h.os, k.tape.trans h.tape, k.output.trans h.output, Nat.le_trans h.size k.size, fun x hx hne => (k.block x (Nat.lt_of_lt_of_le hx h.size) hne).trans (h.block x hx hne)⟩
theorem rep_ints (n : Nat) : rep n (.int .i64 0) = (ints (List.replicate n 0)).toArray := by simp [rep, ints]
set_option maxRecDepth 100000 in
set_option maxHeartbeats 4000000 in
theorem play_any (w : World) (g k kb ko kc db dd dc : Nat) (L : Value) (x0 : Int) (ks : List Int) (ds : List Bool) (hk : ks.length = k) (hd : ds.length = k) (h0 : 0 < k) (hn : k ≤ 1024) (hkg : kb ≠ g) (hdg : db ≠ g) (hkl : kb < w.heap.size) (hdl : db < w.heap.size)
    (hB : Blk w g 96 #[.slice (some ⟨kb, ko, none⟩) k kc, .slice (some ⟨db, dd, none⟩) k dc, L, .int .i64 x0]) (hrk : Rd w 1 (some ⟨kb, ko, none⟩) k (ints ks)) (hrd : Rd w 1 (some ⟨db, dd, none⟩) k (bools ds)) :
    Calls Try.prog 110 #[.pointer (some ⟨g, 0, none⟩)] w fun e w' => e = .returned (.tuple #[]) ∧ ∃ b : Nat, Blk w' g 96 #[.slice (some ⟨kb, ko, none⟩) k kc, .slice (some ⟨db, dd, none⟩) k dc, .slice (some ⟨b, 0, none⟩) k k, .int .i64 (win ks ds k 1 : Nat)] ∧ w.grownBy w' (some g) := by
  have hgl := hB.lt
  have HRK := Lib.hid (fun W (h : w.grownBy W (some g)) => hrk.grown h (fun b off e => by injection e with e; injection e with e1 e2; subst e1; intro e3; injection e3 with e3; exact hkg e3))
  have HRD := Lib.hid (fun W (h : w.grownBy W (some g)) => hrd.grown h (fun b off e => by injection e with e; injection e with e1 e2; subst e1; intro e3; injection e3 with e3; exact hdg e3))
  have HKD := Lib.hid (And.intro hk hd)
  have hmk1 := make_rep (P := Try.prog) 22 3 _ _ Try.underlying22 info_int rfl (2 * k) (by omega) (by unfold maxLen; omega)
  have e2k : ((2 * k : Nat) : Int) = 2 * (k : Int) := by omega
  rw [e2k] at hmk1
  have c0 := hB.cell 0
  simp only [List.getElem?_toArray, List.getElem?_cons_zero] at c0
  have HM1 := Lib.hid (Blk.new w 3 (rep (2 * k) (.int .i64 0)))
  have HB := Lib.hid (hB.alloc (.cells (rep (2 * k) (.int .i64 0)) 3))
  have HG := Lib.hid (World.grownBy_alloc w (.cells (rep (2 * k) (.int .i64 0)) 3) (some g))
  have HHS := Lib.hid (show (w.alloc (.cells (rep (2 * k) (.int .i64 0)) 3)).heap.size = w.heap.size + 1 by simp)
  have q1 : IntKind.i64.wrap (2 * (k : Int)) = 2 * (k : Int) := by rw [IntKind.wrap_i64]; omega
  clear hrk hrd hk hd hB
  go_enter Try.func110, Try.ntmps110
  go_wp2
  clear hmk1 e2k c0
  go_loopw [17] (fun x wr => ∃ i : Nat, i ≤ k ∧ x = .int .i64 (i : Int) ∧ ∃ ws : List Int, ws.length = 2 * k ∧ (∀ p, p < i → ws[k + p]? = some (p : Int)) ∧ Blk wr w.heap.size 3 (ints ws).toArray ∧ Blk wr g 96 #[.slice (some ⟨kb, ko, none⟩) k kc, .slice (some ⟨db, dd, none⟩) k dc, L, .int .i64 x0] ∧ w.grownBy wr (some g) ∧ wr.heap.size = w.heap.size + 1) (fun x _ => k - (intOf x).toNat)
  case atStart => exact ⟨0, Nat.zero_le _, rfl, List.replicate (2 * k) 0, by simp, fun p h => absurd h (by omega), by rw [← rep_ints]; exact HM1.out, HB.out, HG.out, HHS.out⟩
  case round =>
    obtain ⟨i, hik, rfl, ws, hwl, hws, hbw, hbg, hgr, hsz⟩ := hrel
    have HWS := Lib.hid hws
    have HBW := Lib.hid hbw
    have HBG := Lib.hid hbg
    have HGR := Lib.hid hgr
    have HSZ := Lib.hid hsz
    by_cases hlt : i < k
    · obtain ⟨z, hz⟩ : ∃ z, ws[k + i]? = some z := ⟨_, List.getElem?_eq_getElem (by omega)⟩
      have c1 : wr.cell? ⟨w.heap.size, k + i, none⟩ = some (.int .i64 z) := (hbw.cell (k + i)).trans (ints_cell hz)
      have f1 := fun i => hbw.thaw i
      have q2 : (i : Int) < (k : Int) := by omega
      have q3 : IntKind.i64.wrap ((k : Int) + (i : Int)) = (k : Int) + (i : Int) := by rw [IntKind.wrap_i64]; omega
      have q4 : ((k : Int) + (i : Int)).toNat = k + i := by omega
      have q5 : (0 : Int) ≤ (k : Int) + (i : Int) := by omega
      have q6 : (k : Int) + (i : Int) < 2 * (k : Int) := by omega
      have q7 : (k : Int) + (i : Int) < ((2 * k : Nat) : Int) := by omega
      clear hws hbw hbg hgr hsz hz
      go_wp2
      go_roundw
      case rel => exact ⟨i + 1, by omega, by go_num, ws.set (k + i) (i : Int), by rw [List.length_set]; exact hwl, fun p hp => by
        by_cases e : p = i
        · subst e; rw [List.getElem?_set_self (by omega)]
        · rw [List.getElem?_set_ne (by omega)]; exact HWS.out p (by omega), by rw [← ints_put]; exact HBW.out.put _ _, HBG.out.far (by simp; omega) _, only_far HGR.out (Nat.le_refl _) _ _, by rw [World.size_setCell]; exact HSZ.out⟩
      case measure => simp [intOf]; omega
    · have hki : i = k := by omega
      have hmk2 := make_rep (P := Try.prog) 22 3 _ _ Try.underlying22 info_int rfl k (by omega) (by unfold maxLen; omega)
      have q2 : ¬ (i : Int) < (k : Int) := by omega
      obtain ⟨b2, hb2⟩ : ∃ b2, b2 = wr.heap.size := ⟨_, rfl⟩
      have HB2 := Lib.hid hb2
      have c2 : (wr.alloc (.cells (rep k (.int .i64 0)) 3)).cell? ⟨g, 2, none⟩ = some L := (HBG.out.alloc _).cell 2
      have f2 := fun i => (HBG.out.alloc (.cells (rep k (.int .i64 0)) 3)).thaw i
      have HL2 := Lib.hid ((Blk.new wr 3 (rep k (.int .i64 0))).far (p := ⟨g, 2, none⟩) (by simp; omega) (.slice (some ⟨wr.heap.size, 0, none⟩) k k))
      have HW2 := Lib.hid ((HBW.out.alloc (.cells (rep k (.int .i64 0)) 3)).far (p := ⟨g, 2, none⟩) (by simp; omega) (.slice (some ⟨wr.heap.size, 0, none⟩) k k))
      have HT2 := Lib.hid ((HBG.out.alloc (.cells (rep k (.int .i64 0)) 3)).put 2 (.slice (some ⟨wr.heap.size, 0, none⟩) k k))
      have HG2 := Lib.hid (only_put (then_grown HGR.out (World.grownBy_alloc wr (.cells (rep k (.int .i64 0)) 3) (some g))) 2 (.slice (some ⟨wr.heap.size, 0, none⟩) k k))
      have HH2 := Lib.hid (show ((wr.alloc (.cells (rep k (.int .i64 0)) 3)).setCell ⟨g, 2, none⟩ (.slice (some ⟨wr.heap.size, 0, none⟩) k k)).heap.size = wr.heap.size + 1 by rw [World.size_setCell]; simp)
      have q3 : IntKind.i64.wrap ((k : Int) - 1) = (k : Int) - 1 := by rw [IntKind.wrap_i64]; omega
      have HKI := Lib.hid hki
      clear hws hbw hbg hgr hsz hki
      go_wp2
      rw [← hb2]
      rw [← hb2] at HL2 HW2 HT2 HG2
      clear hb2 hmk2 c2 f2
      go_loopw [5] (fun x wy => ∃ j : Nat, j < k ∧ x = .int .i64 (j : Int) ∧ ∃ us ls : List Int, us.length = 2 * k ∧ ls.length = k ∧ (∀ p, j < p → p < 2 * k → us[p]? = some ((win ks ds k p : Nat) : Int)) ∧ Blk wy w.heap.size 3 (ints us).toArray ∧ Blk wy b2 3 (ints ls).toArray ∧ Blk wy g 96 #[.slice (some ⟨kb, ko, none⟩) k kc, .slice (some ⟨db, dd, none⟩) k dc, .slice (some ⟨b2, 0, none⟩) k k, .int .i64 x0] ∧ w.grownBy wy (some g)) (fun x _ => (intOf x).toNat)
      case atStart => exact ⟨k - 1, by omega, by go_num, ws, List.replicate k 0, hwl, by simp, fun p h1 h2 => by
        rw [win_leaf ks ds (by omega)]
        have := HWS.out (p - k) (by have := HKI.out; omega)
        rw [show k + (p - k) = p by omega] at this
        exact this, HW2.out, by rw [← rep_ints]; exact HL2.out, HT2.out, HG2.out⟩
      case round =>
        obtain ⟨j, hjk, rfl, us, ls, hul, hll, hus, hb1, hb3, hbg, hgr⟩ := hrel
        have HUS := Lib.hid hus
        have H1 := Lib.hid hb1
        have H3 := Lib.hid hb3
        have HBG := Lib.hid hbg
        have HGR := Lib.hid hgr
        have HNE := Lib.hid (show w.heap.size ≠ b2 ∧ g ≠ b2 ∧ w.heap.size ≤ b2 by rw [HB2.out, HSZ.out]; omega)
        clear hus
        by_cases hlt : 1 ≤ j
        · have HWA := Lib.hid (win_spec ks ds k (2 * k) (2 * j) (by omega) (by omega) (by omega)).1
          have HWB := Lib.hid (win_spec ks ds k (2 * k) (2 * j + 1) (by omega) (by omega) (by omega)).1
          have HWN := Lib.hid (win_node ks ds (show 0 < j by omega) hjk)
          have u1 := ints_cell (HUS.out (2 * j) (by omega) (by omega))
          have u2 := ints_cell (HUS.out (2 * j + 1) (by omega) (by omega))
          obtain ⟨z1, hz1⟩ : ∃ z, us[j]? = some z := ⟨_, List.getElem?_eq_getElem (by omega)⟩
          obtain ⟨z2, hz2⟩ : ∃ z, ls[j]? = some z := ⟨_, List.getElem?_eq_getElem (by omega)⟩
          have c1 : wr.cell? ⟨w.heap.size, 2 * j, none⟩ = some (.int .i64 ((win ks ds k (2 * j) : Nat) : Int)) := (hb1.cell _).trans u1
          have c2 : wr.cell? ⟨w.heap.size, 2 * j + 1, none⟩ = some (.int .i64 ((win ks ds k (2 * j + 1) : Nat) : Int)) := (hb1.cell _).trans u2
          have HBT := Lib.hid (fun d => beats_any (wr.drewN d) g (win ks ds k (2 * j + 1)) (win ks ds k (2 * j)) k kb ko kc db dd dc _ _ ks ds HKD.out.1 HKD.out.2 HWB.out HWA.out (by omega) HBG.out (HRK.out _ (only_drewN HGR.out d)) (HRD.out _ (only_drewN HGR.out d)))
          have HST := Lib.hid (show ∀ (x y : Int) (d : Nat), x = ((win ks ds k j : Nat) : Int) → ∃ us' ls' : List Int, us'.length = 2 * k ∧ ls'.length = k ∧ (∀ p, j - 1 < p → p < 2 * k → us'[p]? = some ((win ks ds k p : Nat) : Int)) ∧ Blk (((wr.drewN d).setCell ⟨w.heap.size, j, none⟩ (.int .i64 x)).setCell ⟨b2, j, none⟩ (.int .i64 y)) w.heap.size 3 (ints us').toArray ∧ Blk (((wr.drewN d).setCell ⟨w.heap.size, j, none⟩ (.int .i64 x)).setCell ⟨b2, j, none⟩ (.int .i64 y)) b2 3 (ints ls').toArray ∧ Blk (((wr.drewN d).setCell ⟨w.heap.size, j, none⟩ (.int .i64 x)).setCell ⟨b2, j, none⟩ (.int .i64 y)) g 96 #[.slice (some ⟨kb, ko, none⟩) k kc, .slice (some ⟨db, dd, none⟩) k dc, .slice (some ⟨b2, 0, none⟩) k k, .int .i64 x0] ∧ w.grownBy (((wr.drewN d).setCell ⟨w.heap.size, j, none⟩ (.int .i64 x)).setCell ⟨b2, j, none⟩ (.int .i64 y)) (some g) from fun x y d hx => by
            refine ⟨us.set j x, ls.set j y, by rw [List.length_set]; exact hul, by rw [List.length_set]; exact hll, fun p h1 h2 => ?_, ?_, ?_, ?_, only_far (only_far (only_drewN HGR.out d) (Nat.le_refl _) _ _) HNE.out.2.2 _ _⟩
            · by_cases e : p = j
              · subst e; rw [List.getElem?_set_self (by omega), hx]
              · rw [List.getElem?_set_ne (by omega)]; exact HUS.out p (by omega) h2
            · rw [← ints_put]; exact ((H1.out.drewN d).put _ _).far (by simp; exact HNE.out.1) _
            · rw [← ints_put]; exact ((H3.out.drewN d).far (by simp; exact fun e => HNE.out.1 e.symm) _).put _ _
            · exact ((HBG.out.drewN d).far (by simp; omega) _).far (by simp; exact HNE.out.2.1) _)
          generalize win ks ds k (2 * j) = a at c1 HBT HWN HWA
          generalize win ks ds k (2 * j + 1) = b at c2 HBT HWN HWB
          have q2 : (1 : Int) ≤ (j : Int) := by omega
          have q3 : IntKind.i64.wrap (2 * (j : Int)) = 2 * (j : Int) := by rw [IntKind.wrap_i64]; omega
          have q4 : IntKind.i64.wrap (2 * (j : Int) + 1) = 2 * (j : Int) + 1 := by rw [IntKind.wrap_i64]; omega
          have q5 : (2 * (j : Int)).toNat = 2 * j := by omega
          have q6 : (2 * (j : Int) + 1).toNat = 2 * j + 1 := by omega
          have q7 : 2 * (j : Int) < ((2 * k : Nat) : Int) := by omega
          have q8 : 2 * (j : Int) + 1 < ((2 * k : Nat) : Int) := by omega
          have q9 : (0 : Int) ≤ 2 * (j : Int) := by omega
          have q10 : (0 : Int) ≤ 2 * (j : Int) + 1 := by omega
          clear u1 u2 hb1 hb3 hbg hgr
          go_wp2_with fail
          go_quiet (fail)
          go_wp2_with fail
          refine (HBT.out _).mono ?_
          rintro e w5 ⟨rfl, d5, rfl⟩
          have c3 : wr.cell? ⟨w.heap.size, j, none⟩ = some (.int .i64 z1) := (H1.out.cell _).trans (ints_cell hz1)
          have c4 : wr.cell? ⟨b2, j, none⟩ = some (.int .i64 z2) := (H3.out.cell _).trans (ints_cell hz2)
          have c5 : wr.cell? ⟨g, 2, none⟩ = some (.slice (some ⟨b2, 0, none⟩) k k) := HBG.out.cell 2
          have f3 := fun i => H1.out.thaw i
          have f4 := fun i => H3.out.thaw i
          have n1 := HNE.out.1
          have n2 : b2 ≠ w.heap.size := fun e => HNE.out.1 e.symm
          have r1 : (j : Int) < ((2 * k : Nat) : Int) := by omega
          have r2 : (j : Int) < (k : Int) := by omega
          clear hz1 hz2 c1 c2
          cases hb : bt ks ds b a with
          | true =>
            have HX := Lib.hid (show ((b : Nat) : Int) = ((win ks ds k j : Nat) : Int) by rw [HWN.out, if_pos hb])
            clear hb
            go_wp2
            go_roundw
            case rel =>
              refine ⟨j - 1, by omega, by go_num, ?_⟩
              exact HST.out b a _ HX.out
            case measure => simp [intOf]; omega
          | false =>
            have HX := Lib.hid (show ((a : Nat) : Int) = ((win ks ds k j : Nat) : Int) by rw [HWN.out, if_neg (by rw [hb]; simp)])
            clear hb
            go_wp2
            go_roundw
            case rel =>
              refine ⟨j - 1, by omega, by go_num, ?_⟩
              exact HST.out a b _ HX.out
            case measure => simp [intOf]; omega
        · have q2 : ¬ (1 : Int) ≤ (j : Int) := by omega
          have u1 := ints_cell (HUS.out 1 (by omega) (by omega))
          have c1 : wr.cell? ⟨w.heap.size, 1, none⟩ = some (.int .i64 ((win ks ds k 1 : Nat) : Int)) := (hb1.cell _).trans u1
          have c5 : wr.cell? ⟨g, 3, none⟩ = some (.int .i64 x0) := hbg.cell 3
          have f5 := fun i => hbg.thaw i
          have r1 : (1 : Int) < ((2 * k : Nat) : Int) := by omega
          have HT := Lib.hid (hbg.put 3 (.int .i64 ((win ks ds k 1 : Nat) : Int)))
          have HGE := Lib.hid (only_put hgr 3 (.int .i64 ((win ks ds k 1 : Nat) : Int)))
          clear u1 hb1 hb3 hbg hgr
          go_wp2
          go_end0
          refine ⟨rfl, ?_⟩
          exact ⟨⟨_, HT.out⟩, HGE.out⟩
end Go.Proofs.Ytgffabjajbgbjaa.tn
