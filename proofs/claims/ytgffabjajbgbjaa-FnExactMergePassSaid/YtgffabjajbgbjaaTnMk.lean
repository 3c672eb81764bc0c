/- The reference's tournament tree: l16Make. Condition: 1 to 1024 leaves. -/
import Derived.Test.YtgffabjajbgbjaaTnB
import Derived.Test.YtgffabjajbgbjaaTnT
import Derived.Test.YtgffabjajbgbjaaAny5
import Derived.Test.YtgffabjajbgbjaaCopyInt
set_option linter.unusedVariables false
set_option linter.unusedSimpArgs false
namespace Go.Proofs.Ytgffabjajbgbjaa.tn
open Go.RowKit Go.Proofs.Ytgffabjajbgbjaa.mem

set_option maxRecDepth 100000 in
theorem own_enters : Enters 66 := fun _ _ => rfl
theorem runs5 (w0 : World) (A B : Option Addr) (c d k : Nat) (ks : List Int) (ds : List Bool) (hk : ks.length = k) (hn : k ≤ 1024) (hrk : Rd w0 1 A k (ints ks)) (hrd : Rd w0 1 B k (bools ds)) :
    any5.Runs Try.prog 22 93 96 3 4 66 k w0 (.slice A k c) B d ks ds := by
  refine ⟨fun w hb => ?_, own_enters, fun w => ?_, Try.underlying93, info_bool, hrd, make_rep (P := Try.prog) 22 3 _ _ Try.underlying22 info_int rfl k (by omega) (by unfold maxLen; omega), fun w A1 A2 A3 m1 m2 m3 c1 c2 c3 => ?_, fun w => ?_, fun w g A1 A2 A3 m1 m2 m3 c1 c2 c3 h => ?_, hn⟩
  · subst hk
    exact copyInt.spec_any A c ks w (by omega) (hrk.below hb)
  · go_simp
  · go_simp
  · unfold any5.zero4; go_simp
  · have c0 := h.cell 0
    have c1 := h.cell 1
    have c2 := h.cell 2
    have c3 := h.cell 3
    have f := fun i => h.thaw i
    simp only [any5.zero4, List.getElem?_toArray, List.getElem?_cons_zero, List.getElem?_cons_succ] at c0 c1 c2 c3
    go_simp
/-- the state of the matches: p nodes are still to be played -/
structure Mk (w w' : World) (bw n8 gl cl k p : Nat) (ks : List Int) (ds : List Bool) (v1 vd : Value) : Prop where
  r1 : w'.ownsRow (w.heap.size + 1) 3 1 v1 k (ints ks)
  rd : w'.ownsRow (w.heap.size + 1) 4 1 vd k (bools ds)
  bl : w.heap.size ≤ gl ∧ w.heap.size < n8 ∧ w.heap.size < bw ∧ n8 ≠ bw ∧ gl ≠ bw ∧ n8 ≠ gl ∧ w.heap.size ≠ gl ∧ (v1.ownBlock ≠ some gl ∧ vd.ownBlock ≠ some gl) ∧ (v1.ownBlock ≠ some bw ∧ vd.ownBlock ≠ some bw) ∧ (v1.ownBlock ≠ some n8 ∧ vd.ownBlock ≠ some n8)
  st : Blk w' n8 96 #[v1, vd, .slice (some ⟨gl, 0, none⟩) k cl, .int .i64 0]
  res : Blk w' w.heap.size 96 any5.zero4
  lo : ∃ ls : List Int, ls.length = k ∧ w'.ownsRow w.heap.size 3 1 (.slice (some ⟨gl, 0, none⟩) k cl) k (ints ls)
  wi : ∃ us : List Int, us.length = 2 * k ∧ (∀ q, p < q → q < 2 * k → us[q]? = some ((win ks ds k q : Nat) : Int)) ∧ Blk w' bw 3 (ints us).toArray
  bel : Below w.heap.size w w'
section
variable {w w' : World} {bw n8 gl cl k p : Nat} {ks : List Int} {ds : List Bool} {v1 vd : Value}
theorem Mk.drewN (h : Mk w w' bw n8 gl cl k p ks ds v1 vd) (n : Nat) : Mk w (w'.drewN n) bw n8 gl cl k p ks ds v1 vd := ⟨h.r1, h.rd, h.bl, h.st, h.res, h.lo, h.wi, below_drewN h.bel n⟩
/-- a winner written down -/
theorem Mk.putW (h : Mk w w' bw n8 gl cl k p ks ds v1 vd) (h0 : 0 < p) (hp : p < 2 * k) {x : Int} (hx : x = ((win ks ds k p : Nat) : Int)) : Mk w (w'.setCell ⟨bw, p, none⟩ (.int .i64 x)) bw n8 gl cl k (p - 1) ks ds v1 vd := by
  obtain ⟨b1, b2, b3, b4, b5, b6, b7, ⟨b8, b9⟩, ⟨b10, b11⟩, _⟩ := h.bl
  obtain ⟨ls, hl, hls⟩ := h.lo
  obtain ⟨us, hu, hw, hus⟩ := h.wi
  refine ⟨own_far h.r1 (p := ⟨bw, p, none⟩) b10 _, own_far h.rd (p := ⟨bw, p, none⟩) b11 _, h.bl, h.st.far (p := ⟨bw, p, none⟩) b4 _, h.res.far (p := ⟨bw, p, none⟩) (by simp; omega) _, ⟨ls, hl, own_far hls (p := ⟨bw, p, none⟩) (fun e => by simp [Value.ownBlock] at e; exact b5 e) _⟩, ⟨us.set p x, by rw [List.length_set]; exact hu, fun q h1 h2 => ?_, by rw [← ints_put]; exact hus.put _ _⟩, h.bel.setCell (p := ⟨bw, p, none⟩) (by simp; omega) _⟩
  by_cases e : q = p
  · subst e; rw [List.getElem?_set_self (by omega), hx]
  · rw [List.getElem?_set_ne (Ne.symm e)]; exact hw q (by omega) h2
/-- a loser written down -/
theorem Mk.putL (h : Mk w w' bw n8 gl cl k p ks ds v1 vd) {j : Nat} (hj : j < k) (x : Int) : Mk w (w'.setCell ⟨gl, j, none⟩ (.int .i64 x)) bw n8 gl cl k p ks ds v1 vd := by
  obtain ⟨b1, b2, b3, b4, b5, b6, b7, ⟨b8, b9⟩, ⟨b10, b11⟩, _⟩ := h.bl
  obtain ⟨ls, hl, hls⟩ := h.lo
  obtain ⟨us, hu, hw, hus⟩ := h.wi
  exact ⟨own_far h.r1 (p := ⟨gl, j, none⟩) b8 _, own_far h.rd (p := ⟨gl, j, none⟩) b9 _, h.bl, h.st.far (p := ⟨gl, j, none⟩) b6 _, h.res.far (p := ⟨gl, j, none⟩) b7 _, ⟨ls.set j x, by rw [List.length_set]; exact hl, by rw [← ints_set]; exact own_put hls (by rw [len_ints, hl]; exact hj) _⟩, ⟨us, hu, hw, hus.far (p := ⟨gl, j, none⟩) (Ne.symm b5) _⟩, h.bel.setCell (p := ⟨gl, j, none⟩) b1 _⟩
end
set_option maxRecDepth 100000 in
set_option maxHeartbeats 4000000 in
theorem make_any (A B : Option Addr) (c d k : Nat) (ks : List Int) (ds : List Bool) (w : World) (hk : ks.length = k) (hd : ds.length = k) (h0 : 0 < k) (hn : k ≤ 1024) (hrk : Rd w 1 A k (ints ks)) (hrd : Rd w 1 B k (bools ds)) :
    Calls Try.prog 101 #[.slice A k c, .slice B k d] w fun e w' => ∃ A1 c1 A2 c2 A3 c3, e = .returned (.agg #[.slice A1 k c1, .slice A2 k c2, .slice A3 k c3, .int .i64 (win ks ds k 1 : Nat)]) ∧ w'.ownsRow w.heap.size 3 1 (.slice A1 k c1) k (ints ks) ∧ w'.ownsRow w.heap.size 4 1 (.slice A2 k c2) k (bools ds) ∧ Below w.heap.size w w' := by
  have HKD := Lib.hid (And.intro hk hd)
  obtain ⟨ka, ko, rfl, hka⟩ := hrk.cells h0
  obtain ⟨da, dd, rfl, hda⟩ := hrd.cells h0
  clear hka hda
  have hbz := (Below.refl w.heap.size w).alloc (Nat.le_refl _) (.cells any5.zero4 96)
  have HRUN := Lib.hid (runs5 ((w.alloc (.cells any5.zero4 96)).drew) (some ⟨ka, ko, none⟩) (some ⟨da, dd, none⟩) c d k ks ds hk hn (hrk.below (below_drewN hbz 1)) (hrd.below (below_drewN hbz 1)))
  have HRK := Lib.hid (fun W (h : Below w.heap.size w W) => hrk.below h)
  have HRD := Lib.hid (fun W (h : Below w.heap.size w W) => hrd.below h)
  clear hrk hrd hk hd hbz
  go_enter Try.func101, Try.ntmps101
  go_wp2
  refine wp_region_any (by kernel_rfl) ?_
  refine any5.made5 ⟨rfl, ⟨_, rfl, rfl, rfl, rfl, by kernel_rfl, by kernel_rfl⟩, ⟨_, rfl, rfl, rfl, rfl, by kernel_rfl, by kernel_rfl⟩, ⟨_, rfl, rfl, rfl, rfl, by kernel_rfl, by kernel_rfl⟩, ⟨_, rfl, rfl, rfl, rfl, by kernel_rfl, by kernel_rfl⟩, ⟨_, rfl, rfl, rfl, rfl, by kernel_rfl, by kernel_rfl⟩, ⟨_, rfl, rfl, rfl, rfl, by kernel_rfl, by kernel_rfl⟩, ⟨_, rfl, rfl, rfl, rfl, by kernel_rfl, by kernel_rfl⟩, ⟨_, rfl, rfl, rfl, rfl, by kernel_rfl, by kernel_rfl⟩, ⟨_, rfl, rfl, rfl, rfl, by kernel_rfl, by kernel_rfl⟩, ⟨_, rfl, rfl, rfl, rfl, by kernel_rfl, by kernel_rfl⟩⟩ HRUN.out rfl rfl rfl (show ∀ s ∈ any5.slots, s < 79 from by decide) ?_
  intro v1 vd vl x n8 w1 ho1 hod hol hn8 hB8 hp1 hpd hq1 hqd hql hbel
  have hb1 : Below w.heap.size w w1 := below_step (below_drewN ((Below.refl w.heap.size w).alloc (Nat.le_refl _) (.cells any5.zero4 96)) 1) ⟨hbel.os, hbel.tape, hbel.output, hbel.size, hbel.block⟩
  have hsz0 : (w.alloc (.cells any5.zero4 96)).drew.heap.size = w.heap.size + 1 := by simp
  replace ho1 : w1.ownsRow (w.alloc (.cells any5.zero4 96)).drew.heap.size 3 1 v1 k (ints ks) := ho1
  replace hod : w1.ownsRow (w.alloc (.cells any5.zero4 96)).drew.heap.size 4 1 vd k (bools ds) := hod
  replace hol : w1.ownsRow (w.alloc (.cells any5.zero4 96)).drew.heap.size 3 1 vl k (ints (List.replicate k 0)) := hol
  replace hn8 : (w.alloc (.cells any5.zero4 96)).drew.heap.size ≤ n8 := hn8
  rw [hsz0] at ho1 hod hol hn8
  obtain ⟨Al, cl, rfl, _, _, _⟩ := own_form hol
  obtain ⟨gl, rfl, hgl, hgll⟩ := own_addr hol h0
  have hres : Blk w1 w.heap.size 96 any5.zero4 := by
    have h1 : Blk ((w.alloc (.cells any5.zero4 96)).drew) w.heap.size 96 any5.zero4 := Blk.new w _ _
    exact h1.below (B := (w.alloc (.cells any5.zero4 96)).drew.heap.size) ⟨hbel.os, hbel.tape, hbel.output, hbel.size, hbel.block⟩ (by rw [hsz0]; omega)
  have hmk2 := make_rep (P := Try.prog) 22 3 _ _ Try.underlying22 info_int rfl (2 * k) (by omega) (by unfold maxLen; omega)
  have e2k : ((2 * k : Nat) : Int) = 2 * (k : Int) := by omega
  rw [e2k] at hmk2
  have q1 : IntKind.i64.wrap (2 * (k : Int)) = 2 * (k : Int) := by rw [IntKind.wrap_i64]; omega
  have q2 : IntKind.i64.wrap (2 * (k : Int) - 1) = 2 * (k : Int) - 1 := by rw [IntKind.wrap_i64]; omega
  have HMK := Lib.hid (show Mk w (w1.alloc (.cells (rep (2 * k) (.int .i64 0)) 3)) w1.heap.size n8 gl cl k (2 * k - 1) ks ds v1 vd from by
    have hba := (Below.refl w1.heap.size w1).alloc (Nat.le_refl _) (.cells (rep (2 * k) (.int .i64 0)) 3)
    have l8 := hB8.lt
    have far : ∀ {y : Value}, (∀ g, y.ownBlock = some g → g < w1.heap.size) → y.ownBlock ≠ some w1.heap.size := fun hy e => by have := hy _ e; omega
    have pq : ∀ {y : Value}, any5.Apt y (.slice (some ⟨gl, 0, none⟩) k cl) → y.ownBlock ≠ some gl := fun hy e => by
      rcases hy with h | h
      · rw [e] at h; cases h
      · exact h e
    refine ⟨own_below ho1 hba, own_below hod hba, ⟨by omega, by omega, by omega, by omega, by omega, fun e => hql (by rw [e]; rfl), by omega, ⟨pq hp1, pq hpd⟩, ⟨far (own_lt ho1), far (own_lt hod)⟩, hq1, hqd⟩, hB8.below hba l8, hres.below hba hres.lt, ⟨_, by simp, own_below (own_base hol (by omega)) hba⟩, ⟨List.replicate (2 * k) 0, by simp, fun q h1 h2 => absurd h1 (by omega), by rw [← rep_ints]; exact Blk.new _ _ _⟩, below_at hb1 hb1.size hba⟩)
  obtain ⟨bw, hbw⟩ : ∃ bw, bw = w1.heap.size := ⟨_, rfl⟩
  clear ho1 hod hol hn8 hB8 hp1 hpd hq1 hqd hql hbel hb1 hsz0 hgl hgll hres e2k HRUN
  rw [← hbw] at HMK
  have HBW := Lib.hid hbw
  unfold any5.fin
  go_wp2
  rw [← hbw]
  clear hbw hmk2
  have HM0 := Lib.hid (And.intro HMK.out HBW.out)
  go_loopg [8] (2 * k + 1) (fun f x wr => ∃ p : Nat, p < f ∧ p < 2 * k ∧ x = .int .i64 (p : Int) ∧ Mk w wr bw n8 gl cl k p ks ds v1 vd)
  case atStart => exact ⟨2 * k - 1, by omega, by omega, by go_num, HM0.out.1⟩
  case round =>
    obtain ⟨p, hpf, hp, rfl, hM⟩ := hrel
    have HM := Lib.hid hM
    obtain ⟨us, hu, hw, hus⟩ := hM.wi
    have HUW := Lib.hid hw
    obtain ⟨z1, hz1⟩ : ∃ z, us[p]? = some z := ⟨_, List.getElem?_eq_getElem (by omega)⟩
    by_cases hlt : 0 < p
    · have q3 : (0 : Int) < (p : Int) := by omega
      have r1 : (p : Int) < ((2 * k : Nat) : Int) := by omega
      by_cases hpk : k ≤ p
      · have q4 : (k : Int) ≤ (p : Int) := by omega
        have c1 := (hus.cell p).trans (ints_cell hz1)
        have f1 := fun i => hus.thaw i
        have HN := Lib.hid (hM.putW (x := (p : Int) - (k : Int)) hlt hp (by rw [win_leaf ks ds hpk]; omega))
        have q5 : IntKind.i64.wrap ((p : Int) - (k : Int)) = (p : Int) - (k : Int) := by rw [IntKind.wrap_i64]; omega
        clear hM hus hw hz1
        go_wp2
        go_roundg (gk - 1)
        case measure => omega
        case rel => exact ⟨p - 1, by omega, by omega, by go_num, HN.out⟩
      · have HWA := Lib.hid (win_spec ks ds k (2 * k) (2 * p) (by omega) (by omega) (by omega)).1
        have HWB := Lib.hid (win_spec ks ds k (2 * k) (2 * p + 1) (by omega) (by omega) (by omega)).1
        have HWN := Lib.hid (win_other ks ds (show 0 < p by omega) (show p < k by omega))
        have c1 := (hus.cell (2 * p)).trans (ints_cell (hw (2 * p) (by omega) (by omega)))
        have c2 := (hus.cell (2 * p + 1)).trans (ints_cell (hw (2 * p + 1) (by omega) (by omega)))
        have HBT := Lib.hid (fun d' => beatsS_any (wr.drewN d') (win ks ds k (2 * p)) (win ks ds k (2 * p + 1)) k ka ko c da dd d ks ds HKD.out.1 HKD.out.2 HWA.out HWB.out (by omega) (HRK.out _ (below_drewN hM.bel d')) (HRD.out _ (below_drewN hM.bel d')))
        have HST := Lib.hid (show ∀ (x y : Int) (d' : Nat), x = ((win ks ds k p : Nat) : Int) → Mk w (((wr.drewN d').setCell ⟨bw, p, none⟩ (.int .i64 x)).setCell ⟨gl, p, none⟩ (.int .i64 y)) bw n8 gl cl k (p - 1) ks ds v1 vd from fun x y d' hx => ((HM.out.drewN d').putW hlt hp hx).putL (by omega) y)
        generalize win ks ds k (2 * p) = a at c1 HBT HWN HWA
        generalize win ks ds k (2 * p + 1) = b at c2 HBT HWN HWB
        have q4 : ¬ (k : Int) ≤ (p : Int) := by omega
        have q6 : IntKind.i64.wrap (2 * (p : Int)) = 2 * (p : Int) := by rw [IntKind.wrap_i64]; omega
        have q7 : IntKind.i64.wrap (2 * (p : Int) + 1) = 2 * (p : Int) + 1 := by rw [IntKind.wrap_i64]; omega
        have q8 : (2 * (p : Int)).toNat = 2 * p := by omega
        have q9 : (2 * (p : Int) + 1).toNat = 2 * p + 1 := by omega
        have q10 : 2 * (p : Int) < ((2 * k : Nat) : Int) := by omega
        have q11 : 2 * (p : Int) + 1 < ((2 * k : Nat) : Int) := by omega
        have q12 : (0 : Int) ≤ 2 * (p : Int) := by omega
        have q13 : (0 : Int) ≤ 2 * (p : Int) + 1 := by omega
        have q14 : 2 * (p : Int) < 2 * (k : Int) := by omega
        have q15 : 2 * (p : Int) + 1 < 2 * (k : Int) := by omega
        have c3 := (hus.cell p).trans (ints_cell hz1)
        have f3 := fun i => hus.thaw i
        obtain ⟨ls, hll, hls⟩ := hM.lo
        obtain ⟨z2, hz2⟩ : ∃ z, ls[p]? = some z := ⟨_, List.getElem?_eq_getElem (by omega)⟩
        have c4 := own_cell hls (i := p) (u := .int .i64 z2) (by simp [ints, hz2])
        have f4 := fun i => own_thaw hls i
        have c5 : wr.cell? ⟨n8, 2, none⟩ = some (.slice (some ⟨gl, 0, none⟩) k cl) := hM.st.cell 2
        have n1 : n8 ≠ bw := hM.bl.2.2.2.1
        have n2 : gl ≠ bw := hM.bl.2.2.2.2.1
        have n3 : bw ≠ n8 := fun e => n1 e.symm
        have n4 : bw ≠ gl := fun e => n2 e.symm
        have r2 : (p : Int) < (k : Int) := by omega
        have r3 : (p : Int) < 2 * (k : Int) := by omega
        clear hM hus hw hz1 hls hz2
        go_wp2_with fail
        go_quiet (fail)
        go_wp2_with fail
        with_reducible refine (HBT.out _).mono ?_
        rintro e w5 ⟨rfl, d5, rfl⟩
        cases hb : bt ks ds a b with
        | true =>
          have HX := Lib.hid (show ((a : Nat) : Int) = ((win ks ds k p : Nat) : Int) by rw [HWN.out, if_pos hb])
          clear hb
          go_wp2
          go_roundg (gk - 1)
          case measure => omega
          case rel => exact ⟨p - 1, by omega, by omega, by go_num, HST.out a b _ HX.out⟩
        | false =>
          have HX := Lib.hid (show ((b : Nat) : Int) = ((win ks ds k p : Nat) : Int) by rw [HWN.out, if_neg (by rw [hb]; simp)])
          clear hb
          go_wp2
          go_roundg (gk - 1)
          case measure => omega
          case rel => exact ⟨p - 1, by omega, by omega, by go_num, HST.out b a _ HX.out⟩
    · obtain rfl : p = 0 := by omega
      have c1 := (hus.cell 1).trans (ints_cell (hw 1 (by omega) (by omega)))
      have q14 : (1 : Int) < ((2 * k : Nat) : Int) := by omega
      have q15 : (1 : Int) < 2 * (k : Int) := by omega
      have s0 := hM.st.cell 0
      have s1 := hM.st.cell 1
      have s2 := hM.st.cell 2
      have s3 := hM.st.cell 3
      have s4 := fun i => hM.st.thaw i
      have t0 := hM.res.cell 0
      have t1 := hM.res.cell 1
      have t2 := hM.res.cell 2
      have t3 := hM.res.cell 3
      have t4 := fun i => hM.res.thaw i
      simp only [any5.zero4, List.getElem?_toArray, List.getElem?_cons_zero, List.getElem?_cons_succ] at s0 s1 s2 s3 t0 t1 t2 t3
      have n1 : n8 ≠ w.heap.size := by have := hM.bl; omega
      have n2 : w.heap.size ≠ n8 := fun e => n1 e.symm
      obtain ⟨A1, c1', rfl, _, _, _⟩ := own_form hM.r1
      obtain ⟨A2, c2', rfl, _, _, _⟩ := own_form hM.rd
      have KP := Lib.hid (show ∀ (e : TypeId) (y : Value) (n : Nat) (xs : List Value) (W : World), W.ownsRow (w.heap.size + 1) e 1 y n xs → ∀ (u0 u1 u2 u3 : Value), ((((W.setCell ⟨w.heap.size, 0, none⟩ u0).setCell ⟨w.heap.size, 1, none⟩ u1).setCell ⟨w.heap.size, 2, none⟩ u2).setCell ⟨w.heap.size, 3, none⟩ u3).ownsRow w.heap.size e 1 y n xs from fun e y n xs W ho u0 u1 u2 u3 => by
        have hne : _ := fun (e : Value.ownBlock _ = some w.heap.size) => (by have := own_ge ho _ e; omega : False)
        exact own_base (own_far (own_far (own_far (own_far ho (p := ⟨w.heap.size, 0, none⟩) hne _) (p := ⟨w.heap.size, 1, none⟩) hne _) (p := ⟨w.heap.size, 2, none⟩) hne _) (p := ⟨w.heap.size, 3, none⟩) hne _) (by omega))
      have KB := Lib.hid (show ∀ (W : World), Below w.heap.size w W → ∀ (u0 u1 u2 u3 : Value), Below w.heap.size w ((((W.setCell ⟨w.heap.size, 0, none⟩ u0).setCell ⟨w.heap.size, 1, none⟩ u1).setCell ⟨w.heap.size, 2, none⟩ u2).setCell ⟨w.heap.size, 3, none⟩ u3) from fun W hb u0 u1 u2 u3 =>
        (((hb.setCell (p := ⟨w.heap.size, 0, none⟩) (Nat.le_refl _) _).setCell (p := ⟨w.heap.size, 1, none⟩) (Nat.le_refl _) _).setCell (p := ⟨w.heap.size, 2, none⟩) (Nat.le_refl _) _).setCell (p := ⟨w.heap.size, 3, none⟩) (Nat.le_refl _) _)
      have HR := Lib.hid hM
      clear hM hus hw hz1
      by_cases hk1 : 1 < k
      · have q16 : (1 : Int) < (k : Int) := by omega
        have HO1 := Lib.hid (own_far HR.out.r1 (p := ⟨n8, 3, none⟩) HR.out.bl.2.2.2.2.2.2.2.2.2.1 (.int .i64 ((win ks ds k 1 : Nat) : Int)))
        have HO2 := Lib.hid (own_far HR.out.rd (p := ⟨n8, 3, none⟩) HR.out.bl.2.2.2.2.2.2.2.2.2.2 (.int .i64 ((win ks ds k 1 : Nat) : Int)))
        have HBB := Lib.hid (HR.out.bel.setCell (p := ⟨n8, 3, none⟩) (by have := HR.out.bl; simp; omega) (.int .i64 ((win ks ds k 1 : Nat) : Int)))
        go_wp2
        exact bodyPost_ret (v := .agg #[.slice A1 k c1', .slice A2 k c2', .slice (some ⟨gl, 0, none⟩) k cl, .int .i64 ((win ks ds k 1 : Nat) : Int)]) (by simp [results, Try.results101, go_sem, t0, t1, t2, t3]) rfl ⟨_, _, _, _, _, _, rfl, KP.out _ _ _ _ _ HO1.out _ _ _ _, KP.out _ _ _ _ _ HO2.out _ _ _ _, KB.out _ HBB.out _ _ _ _⟩
      · have q16 : ¬ (1 : Int) < (k : Int) := by omega
        have HW0 := Lib.hid (show ((win ks ds k 1 : Nat) : Int) = 0 by rw [win_leaf ks ds (by omega)]; omega)
        go_wp2
        exact bodyPost_ret (v := .agg #[.slice A1 k c1', .slice A2 k c2', .slice (some ⟨gl, 0, none⟩) k cl, .int .i64 0]) (by simp [results, Try.results101, go_sem, t0, t1, t2, t3]) rfl ⟨_, _, _, _, ⟨_, _, by rw [HW0.out]⟩, KP.out _ _ _ _ _ HR.out.r1 _ _ _ _, KP.out _ _ _ _ _ HR.out.rd _ _ _ _, KB.out _ HR.out.bel _ _ _ _⟩
end Go.Proofs.Ytgffabjajbgbjaa.tn
