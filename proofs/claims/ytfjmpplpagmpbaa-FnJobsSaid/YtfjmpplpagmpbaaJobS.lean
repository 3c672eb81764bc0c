/- ScheduleJobs, the reference's: the walk. Condition: at most 2^20 times. -/
import Derived.Test.YtfjmpplpagmpbaaJobI
set_option linter.unusedVariables false
set_option linter.unusedSimpArgs false
namespace Go.Proofs.Ytfjmpplpagmpbaa.jobLaw
open Go.RowKit Go.Proofs.Ytfjmpplpagmpbaa.mem Go.Proofs.Ytfjmpplpagmpbaa.stb Go.Proofs.Ytfjmpplpagmpbaa.cmpI
open Go.Proofs.Ytfjmpplpagmpbaa.ins (inB inB_iff)

theorem ret3' {a b : Int} {p q : Bool} {v : Value} (h1 : a = b) (h2 : p = q) : Ending.returned (.tuple #[v, .int .i64 a, .bool p]) = .returned (.tuple #[v, .int .i64 b, .bool q]) := by rw [h1, h2]
theorem bools_set (l : List Bool) (i : Nat) (z : Bool) : (bools l).set i (.bool z) = bools (l.set i z) := by simp [bools, List.map_set]
theorem blk_bool {w : World} {g : Nat} {l : List Bool} (h : Blk w g 4 (bools l).toArray) {i : Nat} (hi : i < l.length) : w.cell? ⟨g, i, none⟩ = some (.bool l[i]) := by
  rw [h.cell, List.getElem?_toArray]; simp [bools, hi]
theorem blk_setb {w : World} {g : Nat} {l : List Bool} (h : Blk w g 4 (bools l).toArray) (i : Nat) (z : Bool) : Blk (w.setCell ⟨g, i, none⟩ (.bool z)) g 4 (bools (l.set i z)).toArray := by
  have := h.put i (.bool z)
  rwa [List.setIfInBounds_toArray, bools_set] at this
theorem blk_repb (n : Nat) : rep n (.bool false) = (bools (List.replicate n false)).toArray := by simp [rep, bools]
theorem blk_eq {w : World} {g : Nat} {t : TypeId} {cs cs' : Array Value} (h : Blk w g t cs) (e : cs = cs') : Blk w g t cs' := e ▸ h
/-- which jobs are given -/
def gv (ts : List Int) (t : Nat) : List Bool := (List.range ts.length).map fun i => decide (i ∈ (ord ts).take t)
theorem gv_len (ts : List Int) (t : Nat) : (gv ts t).length = ts.length := by simp [gv]
theorem gv_zero (ts : List Int) : gv ts 0 = List.replicate ts.length false := by
  apply List.ext_getElem
  · simp [gv]
  · intro i h1 h2; simp [gv]
theorem gv_at (ts : List Int) (t : Nat) {i : Nat} (h : i < (gv ts t).length) : (gv ts t)[i] = decide (i ∈ (ord ts).take t) := by simp [gv]
theorem gv_step (ts : List Int) {t : Nat} (h : t < (ord ts).length) : (gv ts t).set (ord ts)[t] true = gv ts (t + 1) := by
  apply List.ext_getElem
  · simp [gv]
  · intro i h1 h2
    rw [List.getElem_set, gv_at, gv_at, List.take_succ_eq_append_getElem h]
    by_cases e : (ord ts)[t] = i
    · rw [if_pos e]; simp only [List.mem_append, List.mem_singleton, e, or_true, decide_true]
    · rw [if_neg e]
      have : ¬ i = (ord ts)[t] := fun h => e h.symm
      simp only [decide_eq_decide, List.mem_append, List.mem_singleton, this, or_false]
/-- where the three rows stand -/
def Three (w0 wx : World) (n q : Nat) (o b l : Value) : Prop := ∃ go gb gl, o = .slice (some ⟨go, 0, none⟩) n n ∧ b = .slice (some ⟨gb, 0, none⟩) n n ∧ l = .slice (some ⟨gl, 0, none⟩) q q ∧ go ≠ gb ∧ go ≠ gl ∧ gb ≠ gl ∧ w0.heap.size ≤ go ∧ w0.heap.size ≤ gb ∧ w0.heap.size ≤ gl ∧
  Blk wx go 3 (ints (List.replicate n 0)).toArray ∧ Blk wx gb 4 (bools (List.replicate n false)).toArray ∧ Blk wx gl 3 (ints (List.replicate q 0)).toArray ∧ Below w0.heap.size w0 wx
theorem three_obl (w : World) (n q : Nat) : Three w (((w.alloc (.cells (rep n (.int .i64 0)) 3)).alloc (.cells (rep n (.bool false)) 4)).alloc (.cells (rep q (.int .i64 0)) 3)).drew n q (.slice (some ⟨w.heap.size, 0, none⟩) n n) (.slice (some ⟨w.heap.size + 1, 0, none⟩) n n) (.slice (some ⟨w.heap.size + 2, 0, none⟩) q q) := by
  obtain ⟨h1, h2, h3, h4⟩ := box3 w 3 4 3 (rep n (.int .i64 0)) (rep n (.bool false)) (rep q (.int .i64 0))
  exact ⟨_, _, _, rfl, rfl, rfl, by omega, by omega, by omega, by omega, by omega, by omega, blk_eq (by exact h1) (blk_rep _), blk_eq (by exact h2) (blk_repb _), blk_eq (by exact h3) (blk_rep _), ⟨h4.os, h4.tape, h4.output, h4.size, h4.block⟩⟩
theorem three_olb (w : World) (n q : Nat) : Three w (((w.alloc (.cells (rep n (.int .i64 0)) 3)).alloc (.cells (rep q (.int .i64 0)) 3)).alloc (.cells (rep n (.bool false)) 4)).drew n q (.slice (some ⟨w.heap.size, 0, none⟩) n n) (.slice (some ⟨w.heap.size + 2, 0, none⟩) n n) (.slice (some ⟨w.heap.size + 1, 0, none⟩) q q) := by
  obtain ⟨h1, h2, h3, h4⟩ := box3 w 3 3 4 (rep n (.int .i64 0)) (rep q (.int .i64 0)) (rep n (.bool false))
  exact ⟨_, _, _, rfl, rfl, rfl, by omega, by omega, by omega, by omega, by omega, by omega, blk_eq (by exact h1) (blk_rep _), blk_eq (by exact h3) (blk_repb _), blk_eq (by exact h2) (blk_rep _), ⟨h4.os, h4.tape, h4.output, h4.size, h4.block⟩⟩
theorem three_bol (w : World) (n q : Nat) : Three w (((w.alloc (.cells (rep n (.bool false)) 4)).alloc (.cells (rep n (.int .i64 0)) 3)).alloc (.cells (rep q (.int .i64 0)) 3)).drew n q (.slice (some ⟨w.heap.size + 1, 0, none⟩) n n) (.slice (some ⟨w.heap.size, 0, none⟩) n n) (.slice (some ⟨w.heap.size + 2, 0, none⟩) q q) := by
  obtain ⟨h1, h2, h3, h4⟩ := box3 w 4 3 3 (rep n (.bool false)) (rep n (.int .i64 0)) (rep q (.int .i64 0))
  exact ⟨_, _, _, rfl, rfl, rfl, by omega, by omega, by omega, by omega, by omega, by omega, blk_eq (by exact h2) (blk_rep _), blk_eq (by exact h1) (blk_repb _), blk_eq (by exact h3) (blk_rep _), ⟨h4.os, h4.tape, h4.output, h4.size, h4.block⟩⟩
theorem three_blo (w : World) (n q : Nat) : Three w (((w.alloc (.cells (rep n (.bool false)) 4)).alloc (.cells (rep q (.int .i64 0)) 3)).alloc (.cells (rep n (.int .i64 0)) 3)).drew n q (.slice (some ⟨w.heap.size + 2, 0, none⟩) n n) (.slice (some ⟨w.heap.size, 0, none⟩) n n) (.slice (some ⟨w.heap.size + 1, 0, none⟩) q q) := by
  obtain ⟨h1, h2, h3, h4⟩ := box3 w 4 3 3 (rep n (.bool false)) (rep q (.int .i64 0)) (rep n (.int .i64 0))
  exact ⟨_, _, _, rfl, rfl, rfl, by omega, by omega, by omega, by omega, by omega, by omega, blk_eq (by exact h3) (blk_rep _), blk_eq (by exact h1) (blk_repb _), blk_eq (by exact h2) (blk_rep _), ⟨h4.os, h4.tape, h4.output, h4.size, h4.block⟩⟩
theorem three_lob (w : World) (n q : Nat) : Three w (((w.alloc (.cells (rep q (.int .i64 0)) 3)).alloc (.cells (rep n (.int .i64 0)) 3)).alloc (.cells (rep n (.bool false)) 4)).drew n q (.slice (some ⟨w.heap.size + 1, 0, none⟩) n n) (.slice (some ⟨w.heap.size + 2, 0, none⟩) n n) (.slice (some ⟨w.heap.size, 0, none⟩) q q) := by
  obtain ⟨h1, h2, h3, h4⟩ := box3 w 3 3 4 (rep q (.int .i64 0)) (rep n (.int .i64 0)) (rep n (.bool false))
  exact ⟨_, _, _, rfl, rfl, rfl, by omega, by omega, by omega, by omega, by omega, by omega, blk_eq (by exact h2) (blk_rep _), blk_eq (by exact h3) (blk_repb _), blk_eq (by exact h1) (blk_rep _), ⟨h4.os, h4.tape, h4.output, h4.size, h4.block⟩⟩
theorem three_lbo (w : World) (n q : Nat) : Three w (((w.alloc (.cells (rep q (.int .i64 0)) 3)).alloc (.cells (rep n (.bool false)) 4)).alloc (.cells (rep n (.int .i64 0)) 3)).drew n q (.slice (some ⟨w.heap.size + 2, 0, none⟩) n n) (.slice (some ⟨w.heap.size + 1, 0, none⟩) n n) (.slice (some ⟨w.heap.size, 0, none⟩) q q) := by
  obtain ⟨h1, h2, h3, h4⟩ := box3 w 3 4 3 (rep q (.int .i64 0)) (rep n (.bool false)) (rep n (.int .i64 0))
  exact ⟨_, _, _, rfl, rfl, rfl, by omega, by omega, by omega, by omega, by omega, by omega, blk_eq (by exact h3) (blk_rep _), blk_eq (by exact h2) (blk_repb _), blk_eq (by exact h1) (blk_rep _), ⟨h4.os, h4.tape, h4.output, h4.size, h4.block⟩⟩
theorem most_any (a b : Int) (w : World) : Calls Try.prog 60 #[.int .i64 a, .int .i64 b] w fun e w' => e = .returned (.int .i64 (max a b)) ∧ w = w' := by
  by_cases h : a > b
  · have HE := Lib.hid (show max a b = a by omega)
    go_enter Try.func60, Try.ntmps60
    go_wp2
    go_ret
    exact ⟨ret_int HE.out.symm, rfl⟩
  · have HE := Lib.hid (show max a b = b by omega)
    go_enter Try.func60, Try.ntmps60
    go_wp2
    go_ret
    exact ⟨ret_int HE.out.symm, rfl⟩
theorem bad_time {ts : List Int} {k : Int} {j : Nat} (hj : j < ts.length) (h : inB ts[j] 1 100000 = false) : okJ ts k = false := by
  have : ts.all (fun n => inB n 1 100000) = false := List.all_eq_false.2 ⟨ts[j], List.getElem_mem hj, by rw [h]; simp⟩
  rw [okJ_form, this]; simp
theorem good_times {ts : List Int} {k : Int} (h64 : ts.length ≤ 64) (hk : inB k 1 16 = true) (h : ∀ j (h : j < ts.length), inB ts[j] 1 100000 = true) : okJ ts k = true := by
  have : ts.all (fun n => inB n 1 100000) = true := List.all_eq_true.2 fun x hx => by
    obtain ⟨j, hj, rfl⟩ := List.getElem_of_mem hx
    exact h j hj
  rw [okJ_form, this, hk]; simp [h64]
set_option maxRecDepth 100000 in
set_option maxHeartbeats 8000000 in
theorem spec_any (A : Option Addr) (c : Nat) (ts : List Int) (k : Int) (w : World) (hn : ts.length ≤ 1048576) (hr : Rd w 1 A ts.length (ints ts)) :
    Calls Try.prog 33 #[.slice A ts.length c, .int .i64 k] w fun e w' => ∃ v, e = .returned (.tuple #[v, .int .i64 (spanJ ts k), .bool (okJ ts k)]) ∧ OwnI w w' v (outJ ts k) ∧ Below w.heap.size w w' := by
  have HM := Lib.hid (World.ownsRow_made (base := w.heap.size) (e := 3) (size := 1) w #[] 0 (Nat.le_refl _) (Nat.zero_le _) (by simp))
  have HMB := Lib.hid ((Below.refl w.heap.size w).alloc (Nat.le_refl _) (.cells #[] 3))
  by_cases h64 : ts.length ≤ 64
  · have q64 : ¬ (64 : Int) < (ts.length : Int) := by omega
    cases h2 : inB k 1 16 with
    | false =>
      have HR := Lib.hid (show okJ ts k = false ∧ outJ ts k = [] ∧ spanJ ts k = 0 by
        have : okJ ts k = false := by rw [okJ_form, h2]; simp
        simp [outJ, spanJ, this])
      have H2 := Lib.hid h2
      clear h2
      go_enter Try.func33, Try.ntmps33
      go_wp2_with fail
      refine (ins.spec_any _ _ _ _).mono ?_
      rintro e w2 ⟨rfl, rfl⟩
      rw [H2.out]
      go_wp2
      go_ret3
      exact ⟨_, ret3' HR.out.2.2.symm HR.out.1.symm, ⟨by rw [HR.out.2.1]; exact HM.out, by rw [HR.out.2.1]; simp⟩, HMB.out⟩
    | true =>
      have H2 := Lib.hid h2
      obtain ⟨hk1, hk2⟩ := inB_iff.1 h2
      obtain ⟨q, rfl⟩ : ∃ q : Nat, k = (q : Int) := ⟨k.toNat, by omega⟩
      clear h2
      go_enter Try.func33, Try.ntmps33
      go_wp2_with fail
      refine (ins.spec_any _ _ _ _).mono ?_
      rintro e w2 ⟨rfl, rfl⟩
      rw [H2.out]
      go_wp2
      go_loopg [7] (ts.length + 1) (fun f i wr => ∃ k : Nat, ts.length < k + f ∧ k ≤ ts.length ∧ i = .int .i64 (k : Int) ∧ (∀ j (h : j < ts.length), j < k → inB ts[j] 1 100000 = true) ∧ w = wr)
      case atStart => exact ⟨0, by omega, by omega, rfl, fun j h h0 => absurd h0 (by omega), rfl⟩
      case round =>
        obtain ⟨k, hkf, hk, rfl, hd, rfl⟩ := hrel
        have HD := Lib.hid hd
        clear hd
        by_cases hlt : k < ts.length
        · obtain ⟨b, off, rfl, hx⟩ := hr.int hlt
          have q1 : (k : Int) < (ts.length : Int) := by omega
          cases hi : inB ts[k] 1 100000 with
          | false =>
            have hok := bad_time (k := (q : Int)) hlt hi
            have HR := Lib.hid (show okJ ts (q : Int) = false ∧ outJ ts (q : Int) = [] ∧ spanJ ts (q : Int) = 0 by simp [outJ, spanJ, hok])
            have HI := Lib.hid hi
            clear hi hok
            go_wp2_with fail
            refine (ins.spec_any _ _ _ _).mono ?_
            rintro e w2 ⟨rfl, rfl⟩
            rw [HI.out]
            go_wp2
            go_ret3
            exact ⟨_, ret3' HR.out.2.2.symm HR.out.1.symm, ⟨by rw [HR.out.2.1]; exact HM.out, by rw [HR.out.2.1]; simp⟩, HMB.out⟩
          | true =>
            have HI := Lib.hid hi
            clear hi
            go_wp2_with fail
            refine (ins.spec_any _ _ _ _).mono ?_
            rintro e w2 ⟨rfl, rfl⟩
            rw [HI.out]
            go_wp2
            go_roundg (gk - 1)
            case measure => omega
            case rel => exact ⟨k + 1, by omega, by omega, by go_num, fun j h h0 => by
              by_cases e : j = k
              · subst e; exact HI.out
              · exact HD.out j h (by omega), rfl⟩
        · have hok : okJ ts (q : Int) = true := good_times h64 H2.out (fun j h => HD.out j h (by omega))
          have q1 : ¬ (k : Int) < (ts.length : Int) := by omega
          have HR := Lib.hid (show okJ ts (q : Int) = true ∧ outJ ts (q : Int) = (stt ts q ts.length).1 ∧ spanJ ts (q : Int) = mx (stt ts q ts.length).2 by
            simp [outJ, spanJ, hok])
          have HTS := Lib.hid ((okJ_iff.1 hok).2.1)
          have hmk1 : ∀ W : World, (Instr.makeSlice 22 (.int .i64 (ts.length : Int)) (.int .i64 (ts.length : Int))).run Try.prog W = .ok (.slice (some ⟨W.heap.size, 0, none⟩) ts.length ts.length) (W.alloc (.cells (rep ts.length (.int .i64 0)) 3)) :=
            make_rep (P := Try.prog) 22 3 _ _ Try.underlying22 info_int rfl ts.length (by omega) (by unfold maxLen; omega)
          have hmk2 : ∀ W : World, (Instr.makeSlice 22 (.int .i64 (q : Int)) (.int .i64 (q : Int))).run Try.prog W = .ok (.slice (some ⟨W.heap.size, 0, none⟩) q q) (W.alloc (.cells (rep q (.int .i64 0)) 3)) :=
            make_rep (P := Try.prog) 22 3 _ _ Try.underlying22 info_int rfl q (by omega) (by unfold maxLen; omega)
          have hmk3 : ∀ W : World, (Instr.makeSlice 66 (.int .i64 (ts.length : Int)) (.int .i64 (ts.length : Int))).run Try.prog W = .ok (.slice (some ⟨W.heap.size, 0, none⟩) ts.length ts.length) (W.alloc (.cells (rep ts.length (.bool false)) 4)) :=
            make_rep (P := Try.prog) 66 4 (.bool false) 1 Try.underlying66 (by kernel_rfl) rfl ts.length (by omega) (by unfold maxLen; omega)
          have Hthree_obl := Lib.hid (three_obl w ts.length q)
          have Hthree_olb := Lib.hid (three_olb w ts.length q)
          have Hthree_bol := Lib.hid (three_bol w ts.length q)
          have Hthree_blo := Lib.hid (three_blo w ts.length q)
          have Hthree_lob := Lib.hid (three_lob w ts.length q)
          have Hthree_lbo := Lib.hid (three_lbo w ts.length q)
          clear hok
          go_upto_region 8 with fail
          go_cut [8, 9, 10] (fun o b l wx => Three w wx ts.length q o b l)
          case first =>
            go_region
            all_goals
              go_wp2_with fail
              go_meet
              first | exact Hthree_obl.out | exact Hthree_olb.out | exact Hthree_bol.out | exact Hthree_blo.out | exact Hthree_lob.out | exact Hthree_lbo.out
          case rest =>
            obtain ⟨go, gb, gl, rfl, rfl, rfl, hn1, hn2, hn3, hg1, hg2, hg3, bo, bb, bl, hb6⟩ := hcut
            obtain ⟨wq, hwq⟩ : ∃ W : World, W = wc := ⟨_, rfl⟩
            rw [← hwq] at bo bb bl hb6
            rw [← hwq]
            clear hwq hmk1 hmk2 hmk3
            have HHG := Lib.hid (And.intro hn1 (And.intro hn2 (And.intro hn3 (And.intro hg1 (And.intro hg2 hg3)))))
            have bb0 : Blk wq gb 4 (bools (gv ts 0)).toArray := by rw [gv_zero]; exact bb
            clear hn1 hn2 hn3 hg1 hg2 hg3 bb
            go_wp2
            go_loopg [11, 12] (ts.length + 1) (fun f s i wr => ∃ t : Nat, ts.length < t + f ∧ t ≤ ts.length ∧ i = .int .i64 (t : Int) ∧ s = .int .i64 (mx (stt ts q t).2) ∧ Blk wr go 3 (ints (stt ts q t).1).toArray ∧ Blk wr gb 4 (bools (gv ts t)).toArray ∧ Blk wr gl 3 (ints (stt ts q t).2).toArray ∧ Below w.heap.size w wr)
            case atStart => exact ⟨0, by omega, by omega, rfl, by rw [show (stt ts q 0).2 = List.replicate q 0 from rfl, mx_zero], bo, bb0, bl, hb6⟩
            case round =>
              obtain ⟨t, htf, ht, rfl, rfl, bo, bb, bl, hb⟩ := hrel
              have hlen := stt_len ts q t ht
              have hpos := stt_pos HTS.out q t ht
              by_cases hlt : t < ts.length
              · have hm : t < (ord ts).length := by rw [ord_len]; exact hlt
                have HST := Lib.hid (stt_step ts q hm)
                have HGV := Lib.hid (gv_step ts hm)
                have HSE := Lib.hid (fun (j : Int) (h : Scan ts ((ord ts).take t) ts.length j) => scan_end hlt h)
                have HSP := Lib.hid (span_step HTS.out (w := q) (by omega) hlt hm)
                have HOI := Lib.hid ((ord_mem ts).1 (List.getElem_mem hm))
                obtain ⟨X, hX⟩ : ∃ X, X = (stt ts q t).1 := ⟨_, rfl⟩
                obtain ⟨Y, hY⟩ : ∃ Y, Y = (stt ts q t).2 := ⟨_, rfl⟩
                have HST2 := Lib.hid (show stt ts q (t + 1) = (X.set (ord ts)[t] ((am Y q : Nat) : Int), Y.set (am Y q) (Y.getD (am Y q) 0 + tm ts (ord ts)[t])) by
                  rw [HST.out]; simp only [jst]; rw [← hX, ← hY, show Y.length = q by rw [hY]; exact hlen.2])
                have HSP2 := Lib.hid (show mx (stt ts q (t + 1)).2 = max (mx Y) (Y.getD (am Y q) 0 + tm ts (ord ts)[t]) by
                  rw [HSP.out, ← hY, show Y.length = q by rw [hY]; exact hlen.2])
                rw [← hX] at bo hlen
                rw [← hY] at bl hlen hpos
                rw [← hY]
                have HLN := Lib.hid hlen
                have HPS := Lib.hid hpos
                clear hX hY hlen hpos HST HSP
                have HGA := Lib.hid (fun (i : Nat) (h : i < (gv ts t).length) => gv_at ts t h)
                have hgl := gv_len ts t
                generalize gv ts t = G at bb HGV HGA hgl
                generalize (ord ts).take t = g at HSE HGA
                have HGL := Lib.hid hgl
                have q1 : (t : Int) < (ts.length : Int) := by omega
                obtain ⟨wo, hwo⟩ : ∃ wo : World, wo = wr := ⟨_, rfl⟩
                rw [← hwo] at bo bb bl hb
                rw [← hwo]
                clear hwo hgl
                have hro := hr.below hb
                obtain ⟨sp, hsp⟩ : ∃ sp, sp = mx Y := ⟨_, rfl⟩
                rw [← hsp] at HSP2
                rw [← hsp]
                clear hsp
                go_wp2
                go_loopg [13, 14] (ts.length + 1) (fun f jb x wi => ∃ (kk m : Nat) (j : Int), ts.length < kk + f ∧ kk ≤ ts.length ∧ x = .int .i64 (kk : Int) ∧ jb = .int .i64 j ∧ Scan ts g kk j ∧ wi = wo.drewN m)
                case atStart => exact ⟨0, 0, -1, by omega, by omega, rfl, rfl, scan_zero ts g, rfl⟩
                case round =>
                  obtain ⟨kk, m, j, hkf, hkk, rfl, rfl, hsc, rfl⟩ := hrel
                  have HSC := Lib.hid hsc
                  clear hsc
                  by_cases hlt2 : kk < ts.length
                  · have hkG : kk < G.length := by have := HGL.out; omega
                    have c1 := blk_bool bb hkG
                    have HG1 := Lib.hid (HGA.out kk hkG)
                    obtain ⟨b, off, rfl, cx⟩ := hro.int hlt2
                    have q2 : (kk : Int) < (ts.length : Int) := by omega
                    generalize G[kk] = gg at c1 HG1
                    cases gg with
                    | true =>
                      have HN := Lib.hid (scan_given HSC.out (of_decide_eq_true HG1.out.symm))
                      go_wp2_with fail
                      go_quiet (fail)
                      go_wp2
                      go_roundg (gk - 1)
                      case measure => omega
                      case rel => exact ⟨kk + 1, _, _, by omega, by omega, by go_num, rfl, HN.out, rfl⟩
                    | false =>
                      have HNG := Lib.hid (of_decide_eq_false HG1.out.symm)
                      have HCS := Lib.hid (show (j = -1 ∨ ∃ m : Nat, j = (m : Int) ∧ m < kk) from by
                        rcases HSC.out with ⟨rfl, _⟩ | ⟨m, rfl, hb⟩
                        · exact Or.inl rfl
                        · exact Or.inr ⟨m, rfl, hb.1⟩)
                      rcases HCS.out with rfl | ⟨mm, rfl, hmk⟩
                      · have HN := Lib.hid (scan_first HSC.out HNG.out)
                        have q3 : decide ((-1 : Int) < 0) = true := by decide
                        go_wp2_with fail
                        go_quiet (fail)
                        go_wp2
                        go_roundg (gk - 1)
                        case measure => omega
                        case rel => exact ⟨kk + 1, _, _, by omega, by omega, by go_num, rfl, HN.out, rfl⟩
                      · have hmn : mm < ts.length := by omega
                        have cm := hro.int_at (k := mm) hmn
                        have q3 : decide ((mm : Int) < 0) = false := decide_eq_false (by omega)
                        have q4 : (mm : Int) < (ts.length : Int) := by omega
                        have e1 : tm ts kk = ts[kk] := by rw [tm, List.getD_eq_getElem?_getD, List.getElem?_eq_getElem hlt2]; rfl
                        have e2 : tm ts mm = ts[mm] := by rw [tm, List.getD_eq_getElem?_getD, List.getElem?_eq_getElem hmn]; rfl
                        have HE := Lib.hid (And.intro e1 e2)
                        clear e1 e2
                        generalize ts[kk] = x at cx HE
                        generalize ts[mm] = y at cm HE
                        by_cases hxy : y < x
                        · have HN := Lib.hid (scan_more HSC.out HNG.out (by rw [HE.out.1, HE.out.2]; exact hxy))
                          go_wp2_with fail
                          go_quiet (fail)
                          go_wp2
                          go_roundg (gk - 1)
                          case measure => omega
                          case rel => exact ⟨kk + 1, _, _, by omega, by omega, by go_num, rfl, HN.out, rfl⟩
                        · have HN := Lib.hid (scan_less HSC.out (by rw [HE.out.1, HE.out.2]; omega))
                          have q5 : decide (y < x) = false := decide_eq_false hxy
                          go_wp2_with fail
                          go_quiet (fail)
                          go_wp2
                          go_roundg (gk - 1)
                          case measure => omega
                          case rel => exact ⟨kk + 1, _, _, by omega, by omega, by go_num, rfl, HN.out, rfl⟩
                  · have q2 : ¬ (kk : Int) < (ts.length : Int) := by omega
                    have HEJ := Lib.hid (HSE.out j (by have := HSC.out; rwa [show kk = ts.length by omega] at this))
                    obtain ⟨_, rfl⟩ := HEJ.out
                    have hI := HOI.out
                    generalize (ord ts)[t] = I at HST2 HGV HSP2 hI
                    have hti := tm_bd HTS.out hI
                    have hIn : (I : Int) < (ts.length : Int) := by omega
                    obtain ⟨wp, hwp⟩ : ∃ wp : World, wp = wo.drewN m := ⟨_, rfl⟩
                    have bo1 := bo.drewN m
                    have bb1 := bb.drewN m
                    have bl1 := bl.drewN m
                    have hb1 := below_drewN hb m
                    rw [← hwp] at bo1 bb1 bl1 hb1
                    rw [← hwp]
                    clear hwp bo bb bl hb hro HSE HEJ HSC HOI
                    go_wp2
                    go_loopg [15, 16] (q + 1) (fun f b x wi => ∃ kk mm m : Nat, q < kk + f ∧ 1 ≤ kk ∧ kk ≤ q ∧ x = .int .i64 (kk : Int) ∧ b = .int .i64 (mm : Int) ∧ mm = am Y kk ∧ mm < q ∧ wi = wp.drewN m)
                    case atStart => exact ⟨1, 0, 0, by omega, by omega, by omega, rfl, rfl, by simp [am], by omega, rfl⟩
                    case round =>
                      obtain ⟨kk, mm, m2, hkf, hk1, hkk, rfl, rfl, hma, hmq, rfl⟩ := hrel
                      have HMA := Lib.hid hma
                      clear hma
                      have hmY : mm < Y.length := by have := HLN.out; omega
                      have q3 : (mm : Int) < (q : Int) := by omega
                      by_cases hlt2 : kk < q
                      · have hkY : kk < Y.length := by have := HLN.out; omega
                        have c1 := blk_int bl1 hkY
                        have c2 := blk_int bl1 hmY
                        have HAS := Lib.hid (am_step Y kk)
                        rw [← HMA.out] at HAS
                        generalize Y.getD kk 0 = y at c1 HAS
                        generalize Y.getD mm 0 = z at c2 HAS
                        have q4 : (kk : Int) < (q : Int) := by omega
                        by_cases hyz : y < z
                        · have HA2 := Lib.hid (show kk = am Y (kk + 1) by rw [HAS.out, if_pos hyz])
                          go_wp2_with fail
                          go_quiet (fail)
                          go_wp2
                          go_roundg (gk - 1)
                          case measure => omega
                          case rel => exact ⟨kk + 1, kk, _, by omega, by omega, by omega, by go_num, rfl, HA2.out, hlt2, rfl⟩
                        · have HA2 := Lib.hid (show mm = am Y (kk + 1) by rw [HAS.out, if_neg hyz])
                          have q5 : decide (y < z) = false := decide_eq_false hyz
                          go_wp2_with fail
                          go_quiet (fail)
                          go_wp2
                          go_roundg (gk - 1)
                          case measure => omega
                          case rel => exact ⟨kk + 1, mm, _, by omega, by omega, by omega, by go_num, rfl, HA2.out, hmq, rfl⟩
                      · have HAM := Lib.hid (show am Y q = mm by rw [HMA.out, show kk = q by omega])
                        have q4 : ¬ (kk : Int) < (q : Int) := by omega
                        have bo2 := bo1.drewN m2
                        have bb2 := bb1.drewN m2
                        have bl2 := bl1.drewN m2
                        have hb2 := below_drewN hb1 m2
                        obtain ⟨wz, hwz⟩ : ∃ wz : World, wz = wp.drewN m2 := ⟨_, rfl⟩
                        rw [← hwz] at bo2 bb2 bl2 hb2
                        rw [← hwz]
                        clear hwz bo1 bb1 bl1 hb1
                        have hIX : I < X.length := by have := HLN.out; omega
                        have hIG : I < G.length := by have := HGL.out; omega
                        have c1 := blk_bool bb2 hIG
                        have f1 := bb2.thaw I
                        have bb3 := blk_setb bb2 I true
                        have bo3 := bo2.far (p := ⟨gb, I, none⟩) HHG.out.1 (.bool true)
                        have bl3 := bl2.far (p := ⟨gb, I, none⟩) (fun e => HHG.out.2.2.1 e.symm) (.bool true)
                        have hb3 := hb2.setCell (p := ⟨gb, I, none⟩) HHG.out.2.2.2.2.1 (.bool true)
                        have c2 := blk_int bo3 hIX
                        have f2 := bo3.thaw I
                        have bo4 := blk_set bo3 I (mm : Int)
                        have bb4 := bb3.far (p := ⟨go, I, none⟩) (fun e => HHG.out.1 e.symm) (.int .i64 (mm : Int))
                        have bl4 := bl3.far (p := ⟨go, I, none⟩) (fun e => HHG.out.2.1 e.symm) (.int .i64 (mm : Int))
                        have hb4 := hb3.setCell (p := ⟨go, I, none⟩) HHG.out.2.2.2.1 (.int .i64 (mm : Int))
                        clear bb2 bo2 bl2 hb2 bb3 bo3 bl3 hb3
                        go_wp2_with fail
                        obtain ⟨wx, hwx⟩ : ∃ W : World, W = (wz.setCell ⟨gb, I, none⟩ (.bool true)).setCell ⟨go, I, none⟩ (.int .i64 (mm : Int)) := ⟨_, rfl⟩
                        rw [← hwx] at bo4 bb4 bl4 hb4
                        rw [← hwx]
                        clear hwx c1 f1 c2 f2
                        have c2 := blk_int bl4 hmY
                        have f2 := bl4.thaw mm
                        obtain ⟨b2, off2, rfl, c4⟩ := (hr.below hb4).int hI
                        have HTM := Lib.hid (show tm ts I = ts[I]'hI by rw [tm, List.getD_eq_getElem?_getD, List.getElem?_eq_getElem hI]; rfl)
                        rw [← HTM.out] at c4
                        have hyb := HPS.out (Y.getD mm 0) (by rw [List.getD_eq_getElem?_getD, List.getElem?_eq_getElem hmY]; exact List.getElem_mem hmY)
                        generalize hTI : tm ts I = ti at c4 hti
                        generalize hYM : Y.getD mm 0 = ym at c2 hyb
                        have HS3 := Lib.hid (show stt ts q (t + 1) = (X.set I (mm : Int), Y.set mm (ym + ti)) ∧ mx (stt ts q (t + 1)).2 = max sp (ym + ti) by rw [HSP2.out, HST2.out, HAM.out, hTI, hYM]; exact ⟨rfl, rfl⟩)
                        have bl5 := blk_set bl4 mm (ym + ti)
                        have bo5 := bo4.far (p := ⟨gl, mm, none⟩) HHG.out.2.1 (.int .i64 (ym + ti))
                        have bb5 := bb4.far (p := ⟨gl, mm, none⟩) HHG.out.2.2.1 (.int .i64 (ym + ti))
                        have hb5 := hb4.setCell (p := ⟨gl, mm, none⟩) HHG.out.2.2.2.2.2 (.int .i64 (ym + ti))
                        have c5 := blk_int bl5 (i := mm) (by rw [List.length_set]; exact hmY)
                        rw [set_getD _ hmY, if_pos rfl] at c5
                        have hwr : IntKind.i64.wrap (ym + ti) = ym + ti := IntWalk.i64_in _ (by omega)
                        have HF := Lib.hid (show Blk (wx.setCell ⟨gl, mm, none⟩ (.int .i64 (ym + ti))) go 3 (ints (stt ts q (t + 1)).1).toArray ∧ Blk (wx.setCell ⟨gl, mm, none⟩ (.int .i64 (ym + ti))) gb 4 (bools (gv ts (t + 1))).toArray ∧ Blk (wx.setCell ⟨gl, mm, none⟩ (.int .i64 (ym + ti))) gl 3 (ints (stt ts q (t + 1)).2).toArray ∧ Below w.heap.size w (wx.setCell ⟨gl, mm, none⟩ (.int .i64 (ym + ti))) by
                          rw [HS3.out.1, ← HGV.out]; exact ⟨bo5, bb5, bl5, hb5⟩)
                        clear bo4 bb4 bl4 hb4 bl5 bo5 bb5 hb5 hTI hYM
                        go_region
                        all_goals
                          go_wp2_with fail
                          refine (most_any _ _ _).mono ?_
                          rintro e w9 ⟨rfl, rfl⟩
                          go_wp2
                          go_roundg (ts.length - t)
                          case measure => omega
                          case rel => exact ⟨t + 1, by omega, by omega, by go_num, by rw [HS3.out.2], HF.out.1, HF.out.2.1, HF.out.2.2.1, ⟨HF.out.2.2.2.os, HF.out.2.2.2.tape, HF.out.2.2.2.output, HF.out.2.2.2.size, HF.out.2.2.2.block⟩⟩
              · obtain rfl : t = ts.length := by omega
                have q1 : ¬ (ts.length : Int) < (ts.length : Int) := by omega
                have hownX := blk_own bo (base := w.heap.size) (n := ts.length) HHG.out.2.2.2.1 hlen.1 (by unfold maxLen; omega)
                have HOX := Lib.hid (show wr.ownsRow w.heap.size 3 1 (.slice (some ⟨go, 0, none⟩) ts.length ts.length) (outJ ts (q : Int)).length (ints (outJ ts (q : Int))) ∧ (outJ ts (q : Int)).length ≤ 1048576 by
                  rw [HR.out.2.1, hlen.1]; exact ⟨hownX, hn⟩)
                clear hownX bo bb bl hlen hpos
                go_wp2
                go_ret3
                exact ⟨_, ret3' HR.out.2.2.symm HR.out.1.symm, HOX.out, hb⟩
  · have HR := Lib.hid (show okJ ts k = false ∧ outJ ts k = [] ∧ spanJ ts k = 0 by
      have : okJ ts k = false := by rw [okJ_form]; simp [h64]
      simp [outJ, spanJ, this])
    have q64 : (64 : Int) < (ts.length : Int) := by omega
    go_enter Try.func33, Try.ntmps33
    go_wp2
    go_ret3
    exact ⟨_, ret3' HR.out.2.2.symm HR.out.1.symm, ⟨by rw [HR.out.2.1]; exact HM.out, by rw [HR.out.2.1]; simp⟩, HMB.out⟩
end Go.Proofs.Ytfjmpplpagmpbaa.jobLaw
