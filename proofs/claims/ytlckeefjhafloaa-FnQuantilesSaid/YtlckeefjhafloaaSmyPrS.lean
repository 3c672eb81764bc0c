/- PruneSummary, the reference's. Condition: at most 2^20 entries. -/
import Derived.Test.YtlckeefjhafloaaSmyPr
import Derived.Deep.RegionLaw
set_option linter.unusedVariables false
set_option linter.unusedSimpArgs false
namespace Go.Proofs.Ytlckeefjhafloaa.smyPr
open Go.RowKit Go.Proofs.Ytlckeefjhafloaa.mem Go.Proofs.Ytlckeefjhafloaa.smy Go.Proofs.Ytlckeefjhafloaa.smyQ Go.Proofs.Ytlckeefjhafloaa.prLaw
open Go.Proofs.Ytlckeefjhafloaa.ins (inB inB_true inB_false inB_iff)

def lastv (cnt : Int) (l : List Rkv) (size : Int) (k : Nat) : Int := if k = 0 then -1 else ((bi cnt l size (k - 1) : Nat) : Int)
theorem rk_mono {cnt size : Int} {i j : Nat} (h1 : 1 ≤ cnt) (h3 : 1 ≤ size) (hij : i ≤ j) : rkP cnt size i ≤ rkP cnt size j := by
  unfold rkP
  have a : (i : Int) * (cnt - 1) ≤ (j : Int) * (cnt - 1) := Int.mul_le_mul_of_nonneg_right (by omega) (by omega)
  have b : (i : Int) * (cnt - 1) / size ≤ (j : Int) * (cnt - 1) / size := Int.ediv_le_ediv (by omega) a
  omega
theorem bi_mono {cnt : Int} {l : List Rkv} {size : Int} (h : vsmy cnt l = true) (h0 : 0 < l.length) (h3 : 1 ≤ size) {i j : Nat} (hij : i ≤ j) : bi cnt l size i ≤ bi cnt l size j := by
  have := vsmy_cnt h
  exact best_mono h h0 (rk_mono (by omega) h3 hij)
theorem last_le {cnt : Int} {l : List Rkv} {size : Int} (h : vsmy cnt l = true) (h0 : 0 < l.length) (h3 : 1 ≤ size) (k : Nat) : lastv cnt l size k ≤ ((bi cnt l size k : Nat) : Int) ∧ -1 ≤ lastv cnt l size k := by
  unfold lastv
  split
  · omega
  · have := bi_mono h h0 h3 (show k - 1 ≤ k by omega); omega
theorem step_old {cnt : Int} {l : List Rkv} {size : Int} {k n : Nat} (hk : ((bi cnt l size k : Nat) : Int) = lastv cnt l size k) : pick cnt l size (k + 1) n = pick cnt l size k n := by
  apply pick_old
  unfold lastv at hk
  by_cases h0 : k = 0
  · rw [if_pos h0] at hk; omega
  · rw [if_neg h0] at hk
    simp only [sel, List.any_eq_true, List.mem_range, beq_iff_eq]
    exact ⟨k - 1, by omega, by omega⟩
theorem step_new {cnt : Int} {l : List Rkv} {size : Int} {k n : Nat} (h : vsmy cnt l = true) (h0 : 0 < l.length) (h3 : 1 ≤ size) (hk : lastv cnt l size k < ((bi cnt l size k : Nat) : Int)) (hn : bi cnt l size k < n) : pick cnt l size (k + 1) n = pick cnt l size k n ++ [l.getD (bi cnt l size k) z0] := by
  apply pick_new _ hn
  intro i hi
  unfold lastv at hk
  rw [if_neg (by omega)] at hk
  have := bi_mono h h0 h3 (show i ≤ k - 1 by omega)
  omega
theorem last_succ (cnt : Int) (l : List Rkv) (size : Int) (k : Nat) : lastv cnt l size (k + 1) = ((bi cnt l size k : Nat) : Int) := by simp [lastv]

set_option maxRecDepth 100000 in
set_option maxHeartbeats 4000000 in
theorem pruned_any {cnt : Int} (A : Option Addr) (c : Nat) (l : List Rkv) (size : Int) (w : World) (hn : l.length ≤ 1048576) (hv : vsmy cnt l = true) (h0 : 0 < l.length) (hs1 : 1 ≤ size) (hs2 : size ≤ 63) (hr : Rd w 3 A l.length (rkvs l)) :
    Calls Try.prog 69 #[.agg #[.int .i64 cnt, .slice A l.length c], .int .i64 size] w fun e w' => ∃ v, e = .returned (.agg #[.int .i64 cnt, v]) ∧ OwnRkv w w' v (pick cnt l size (size.toNat + 1) l.length) ∧ Below w.heap.size w w' := by
  have HBX := Lib.hid (fun (o o2 o3 : Obj) => (((Below.refl w.heap.size w).alloc (Nat.le_refl _) o).alloc (by simp) o2).alloc (by simp; omega) o3)
  have hcn := vsmy_cnt hv
  have HBD := Lib.hid (bd_of hv)
  have HBI := Lib.hid (fun i => show bi cnt l size i < l.length from bst_lt l _ l.length h0)
  have HLL := Lib.hid (fun k => last_le hv h0 hs1 k)
  have HNEW := Lib.hid (fun k (h : lastv cnt l size k < ((bi cnt l size k : Nat) : Int)) h2 => step_new (n := l.length) hv h0 hs1 h h2)
  clear hv
  go_enter Try.func69, Try.ntmps69
  go_wp2
  go_loopw [6, 7] (fun x i wr => ∃ (k : Nat) (v : Value), (k : Int) ≤ size + 1 ∧ i = .int .i64 (k : Int) ∧ x = .int .i64 (lastv cnt l size k) ∧ Blk wr w.heap.size 29 #[.int .i64 cnt, .slice A l.length c] ∧ Blk wr (w.heap.size + 1) 29 #[.int .i64 0, .slice none 0 0] ∧ Blk wr (w.heap.size + 1 + 1) 29 #[.int .i64 cnt, v] ∧ wr.ownsRow (w.heap.size + 3) 51 3 v (pick cnt l size k l.length).length (rkvs (pick cnt l size k l.length)) ∧ Below w.heap.size w wr) (fun _ i _ => (size + 1 - intOf i).toNat)
  case atStart =>
    refine ⟨0, .slice none 0 0, by omega, rfl, rfl, ((Blk.new _ _ _).alloc _).alloc _, ?_, ?_, ?_, HBX.out _ _ _⟩
    · have := (Blk.new (w.alloc (.cells #[.int .i64 cnt, .slice A l.length c] 29)) 29 #[.int .i64 0, .slice none 0 0]).alloc (.cells #[.int .i64 cnt, .slice none 0 0] 29)
      rwa [show (w.alloc (.cells #[.int .i64 cnt, .slice A l.length c] 29)).heap.size = w.heap.size + 1 by simp] at this
    · have := (Blk.new ((w.alloc (.cells #[.int .i64 cnt, .slice A l.length c] 29)).alloc (.cells #[.int .i64 0, .slice none 0 0] 29)) 29 #[.int .i64 cnt, .slice none 0 0])
      rwa [show ((w.alloc (.cells #[.int .i64 cnt, .slice A l.length c] 29)).alloc (.cells #[.int .i64 0, .slice none 0 0] 29)).heap.size = w.heap.size + 1 + 1 by simp] at this
    · rw [show pick cnt l size 0 l.length = [] by simp [pick, sel]]; exact World.ownsRow_nil _ _ _ _
  case round =>
    obtain ⟨k, v, hk, rfl, rfl, hB, hE, hO, ho, hb⟩ := hrel
    obtain ⟨Av, cv, hve, _, _, _⟩ := own_form ho
    subst hve
    have hB0 : wr.cell? ⟨w.heap.size, 0, none⟩ = some (.int .i64 cnt) := hB.cell 0
    have hB1 : wr.cell? ⟨w.heap.size, 1, none⟩ = some (.slice A l.length c) := hB.cell 1
    by_cases hlt : (k : Int) ≤ size
    · have hm := rk_bd (cnt := cnt) (size := size) (i := k) (by omega) hcn.2.1 hs1 hlt hs2
      have HRK := Lib.hid (show rkP cnt size k = 1 + (k : Int) * (cnt - 1) / size from rfl)
      have hbi := HBI.out k
      have HQ := Lib.hid (fun W h => spec_best (cnt := cnt) A c l (rkP cnt size k) W hn h0 HBD.out (by rw [HRK.out]; omega) (by rw [HRK.out]; omega) h)
      rw [HRK.out] at HQ
      rw [show best l (1 + (k : Int) * (cnt - 1) / size) = bi cnt l size k from rfl] at HQ
      have HRD := Lib.hid (fun d os => (hr.below hb).below (below_regrown wr d os))
      have HBB := Lib.hid (And.intro hB (And.intro hE (And.intro hO (And.intro ho hb))))
      have k1 := fun d os => cell_regrown (w := wr) hB0 d os
      have k2 := fun d os => cell_regrown (w := wr) hB1 d os
      have q4 : IntKind.i64.wrap (cnt - 1) = cnt - 1 := IntWalk.i64_in _ (by omega)
      have q5 : IntKind.i64.wrap ((k : Int) * (cnt - 1)) = (k : Int) * (cnt - 1) := IntWalk.i64_in _ (by omega)
      have q6 : ((k : Int) * (cnt - 1)).tdiv size = (k : Int) * (cnt - 1) / size := Int.tdiv_eq_ediv_of_nonneg hm.1
      have q7 : IntKind.i64.wrap ((k : Int) * (cnt - 1) / size) = (k : Int) * (cnt - 1) / size := IntWalk.i64_in _ (by omega)
      have q8 : IntKind.i64.wrap (1 + (k : Int) * (cnt - 1) / size) = 1 + (k : Int) * (cnt - 1) / size := IntWalk.i64_in _ (by omega)
      have q9 : (size == 0) = false := by simp; omega
      have q10 : ¬ size = 0 := by omega
      have hll := HLL.out k
      have HLS := Lib.hid (last_succ cnt l size k)
      clear hB hE hO ho
      go_wp2_with fail
      (refine wp_region_quiet_below (by kernel_rfl) (by kernel_rfl) ?_; (repeat (quiet_step (exact Calls.regrown_of (HQ.out _ (HRD.out _ _))))); refine wpQuiet_nil ?_; intro _ hw'; obtain ⟨⟨dq, osq⟩, hw''⟩ := hw'; subst hw'')
      have hbq := below_regrown wr dq osq
      have hB2 := HBB.out.1.below hbq HBB.out.1.lt
      have hE2 := HBB.out.2.1.below hbq HBB.out.2.1.lt
      have hO2 := HBB.out.2.2.1.below hbq HBB.out.2.2.1.lt
      have ho2 := own_below HBB.out.2.2.2.1 hbq
      have hb2 := below_step hb hbq
      generalize Go.Sort.grow (redrawn wr dq) osq = wq at hB2 hE2 hO2 ho2 hb2 ⊢
      clear k1 k2 hbq hB0 hB1 HBB HRD HQ
      by_cases hgt : lastv cnt l size k < ((bi cnt l size k : Nat) : Int)
      · have HP := Lib.hid (HNEW.out k hgt hbi)
        rw [getD_r l hbi] at HP
        obtain ⟨b, off, rfl, c0, c1, c2⟩ := (hr.below hb2).rkv hbi
        have hB1 : wq.cell? ⟨w.heap.size, 1, none⟩ = some (.slice (some ⟨b, off, none⟩) l.length c) := hB2.cell 1
        have hO1 : wq.cell? ⟨w.heap.size + 1 + 1, 1, none⟩ = some (.slice Av (pick cnt l size k l.length).length cv) := hO2.cell 1
        have hO1z := fun (o : Obj) => cells_below (w' := wq.alloc o) ((Below.refl _ _).alloc (Nat.le_refl _) o) hO1
        have HPL := Lib.hid (pick_len cnt l size k l.length)
        have HG := Lib.hid (own_ge ho2)
        have HOO := Lib.hid (And.intro hB2 (And.intro hE2 (And.intro hO2 hb2)))
        have hh : (pick cnt l size k l.length).length ≤ 1099511627776 := by have := HPL.out; omega
        have hbs : w.heap.size + 3 ≤ wq.heap.size := hO2.lt
        have q11 : ((bi cnt l size k : Nat) : Int) < (l.length : Int) := by omega
        have q12 : (0 : Int) ≤ ((bi cnt l size k : Nat) : Int) := by omega
        generalize l[bi cnt l size k]'hbi = x at c0 c1 c2 HP
        generalize hpk : pick cnt l size k l.length = pk at ho2 hh HP hO1 hO1z HG HOO
        have HPK := Lib.hid hpk
        generalize hbz : bi cnt l size k = z at c0 c1 c2 HLS hll hgt hbi q11 q12 ⊢
        have HBZ := Lib.hid hbz
        have ho3 : wq.drew.ownsRow (w.heap.size + 3) 51 3 (.slice Av pk.length cv) pk.length (rkvs pk) := ho2
        clear hpk hbz hB2 hE2 hO2 hb2 hb ho2
        go_wp2_with fail
        go_region_law ((refine mem.step_push_atH wq.drew rfl (.tmp 31) (.tmp 37) 27 rfl (w.heap.size + 3) 51 _ 3 24 Try.underlying27 mem.info_rkv rfl (by decide) (.slice Av pk.length cv) pk.length (rkvs pk) (by simp [Act.eval, Act.put]) ho3 wq.heap.size rfl (rkvs [x]) 1 rfl (mem.rkvs_one [x]) (by simp [Act.eval, Act.put]) hh (by decide) hbs ?_; intro v' w' ho' hg0 hnw'; have hg' := mem.grown_undrew hg0; clear hg0; have hO2 := HOO.out.2.2.1.grown hg' (fun e => by have := HG.out _ e.symm; omega); have hcc : w'.cell? ⟨w.heap.size + 1 + 1, 1, none⟩ = some (.slice Av pk.length cv) := hO2.cell 1; have hff := hO2.thaw 1; obtain ⟨A', c', hve, _, _, _⟩ := own_form ho'; subst hve))
        all_goals
          have hO3 := hO2.put 1 (.slice A' (pk.length + 1) c')
          have hoo := own_far ho' (p := ⟨w.heap.size + 1 + 1, 1, none⟩) (fun e => by have := (ho'.lt _ e).1; simp at this; omega) (.slice A' (pk.length + 1) c')
          have hB3 := (HOO.out.1.grown hg' (fun e => by have := HG.out _ e.symm; omega)).far (p := ⟨w.heap.size + 1 + 1, 1, none⟩) (by simp only; omega) (.slice A' (pk.length + 1) c')
          have hE3 := (HOO.out.2.1.grown hg' (fun e => by have := HG.out _ e.symm; omega)).far (p := ⟨w.heap.size + 1 + 1, 1, none⟩) (by simp only; omega) (.slice A' (pk.length + 1) c')
          have hb3 := (below_grown HOO.out.2.2.2 HOO.out.2.2.2.size hg' (fun g h => by have := HG.out _ h; omega)).setCell (p := ⟨w.heap.size + 1 + 1, 1, none⟩) (by simp only; omega) (.slice A' (pk.length + 1) c')
          have HALL := Lib.hid (And.intro hB3 (And.intro hE3 (And.intro hO3 (And.intro hoo hb3))))
          clear ho' hg' hnw' hO2 hcc hff hB3 hE3 hO3 hoo hb3
          go_wp2
          go_roundw
          case rel => exact ⟨k + 1, _, by omega, by go_num, by rw [HLS.out], HALL.out.1, HALL.out.2.1, HALL.out.2.2.1, by rw [HP.out, List.length_append, rkvs_app]; exact HALL.out.2.2.2.1, HALL.out.2.2.2.2⟩
          case measure => simp [intOf]; omega
      · have HP := Lib.hid (step_old (cnt := cnt) (l := l) (size := size) (k := k) (n := l.length) (by omega))
        have HLE := Lib.hid (show lastv cnt l size (k + 1) = lastv cnt l size k by rw [HLS.out]; omega)
        have hgt' : ((bi cnt l size k : Nat) : Int) ≤ lastv cnt l size k := by omega
        generalize ((bi cnt l size k : Nat) : Int) = z at hgt' hll hgt ⊢
        go_wp2
        go_roundw
        case rel => exact ⟨k + 1, _, by omega, by go_num, by rw [HLE.out], hB2, hE2, hO2, by rw [HP.out]; exact ho2, hb2⟩
        case measure => simp [intOf]; omega
    · have HKS := Lib.hid (show k = size.toNat + 1 by omega)
      have hlt2 : size < (k : Int) := by omega
      have hO0 : wr.cell? ⟨w.heap.size + 1 + 1, 0, none⟩ = some (.int .i64 cnt) := hO.cell 0
      have hO1 : wr.cell? ⟨w.heap.size + 1 + 1, 1, none⟩ = some (.slice Av (pick cnt l size k l.length).length cv) := hO.cell 1
      have e0 : wr.cell? ⟨w.heap.size + 1, 0, none⟩ = some (.int .i64 0) := hE.cell 0
      have e1 : wr.cell? ⟨w.heap.size + 1, 1, none⟩ = some (.slice none 0 0) := hE.cell 1
      have e2 := hE.thaw 0
      have e3 := hE.thaw 1
      have HL := Lib.hid (pick_len cnt l size k l.length)
      have HRR := Lib.hid (show pick cnt l size (size.toNat + 1) l.length = pick cnt l size k l.length by rw [HKS.out])
      generalize pick cnt l size k l.length = pk at ho hO1 HL HRR
      have HOF := Lib.hid (fun u1 u2 => own_far (own_far ho (p := ⟨w.heap.size + 1, 0, none⟩) (fun e => by have := (ho.lt _ e).1; simp at this) u1) (p := ⟨w.heap.size + 1, 1, none⟩) (fun e => by have := (ho.lt _ e).1; simp at this) u2)
      have HBF := Lib.hid (fun u1 u2 => (hb.setCell (p := ⟨w.heap.size + 1, 0, none⟩) (by simp) u1).setCell (p := ⟨w.heap.size + 1, 1, none⟩) (by simp) u2)
      clear ho hO hE hb hB
      go_wp2
      refine bodyPost_ret (v := .agg #[.int .i64 cnt, .slice Av pk.length cv]) (by simp [results, Try.results69, go_sem, e0, e1]) rfl ⟨_, rfl, ⟨by rw [HRR.out]; exact own_base (HOF.out _ _) (by omega), by rw [HRR.out]; have := HL.out; omega⟩, HBF.out _ _⟩
set_option maxRecDepth 100000 in
set_option maxHeartbeats 4000000 in
theorem spec_yes {cnt : Int} (A : Option Addr) (c : Nat) (l : List Rkv) (size : Int) (w : World) (hn : l.length ≤ 1048576) (hr : Rd w 3 A l.length (rkvs l)) (hyes : ok cnt l size = true) :
    Calls Try.prog 37 #[.agg #[.int .i64 cnt, .slice A l.length c], .int .i64 size] w fun e w' => ∃ (v : Value) (n : Int), e = .returned (.tuple #[.agg #[.int .i64 n, v], .bool (ok cnt l size)]) ∧ n = resN cnt l size ∧ OwnRkv w w' v (res cnt l size) ∧ Below w.heap.size w w' := by
  have HBX := Lib.hid (fun (o o2 : Obj) => ((Below.refl w.heap.size w).alloc (Nat.le_refl _) o).alloc (by simp) o2)
  have HV := Lib.hid (fun o o2 => smy.good_any (cnt := cnt) A c l ((w.alloc o).alloc o2) hn ((hr.alloc o).alloc o2))
  have hy2 : vsmy cnt l = true ∧ ¬ cnt = 0 ∧ inB size 1 63 = true := by simpa [ok] using hyes
  obtain ⟨hv, hc0, hi⟩ := hy2
  have hcn := vsmy_cnt hv
  have hri := inB_iff.1 hi
  have h0 : 0 < l.length := by omega
  have HR := Lib.hid (show res cnt l size = pick cnt l size (size.toNat + 1) l.length ∧ resN cnt l size = cnt from ⟨by rw [res, if_pos hyes], by rw [resN, if_pos hyes]⟩)
  have HNO := Lib.hid hyes
  have q1 : (cnt == 0) = false := by simpa using hc0
  have HP := Lib.hid (fun W h => pruned_any (cnt := cnt) A c l size W hn hv h0 hri.1 hri.2 h)
  clear hyes hc0
  rw [hv] at HV
  clear hv
  go_enter Try.func37, Try.ntmps37
  go_wp2_with fail
  refine (HV.out _ _).mono ?_
  rintro e w1 ⟨rfl, hb1⟩
  have hb2 := below_at (HBX.out _ _) (by simp; omega) hb1
  have hB := ((Blk.new w 29 #[.int .i64 cnt, .slice A l.length c]).alloc (.cells #[.int .i64 0, .slice none 0 0] 29)).below hb1 (by simp; omega)
  have hE := (Blk.new (w.alloc (.cells #[.int .i64 cnt, .slice A l.length c] 29)) 29 #[.int .i64 0, .slice none 0 0]).below hb1 (by simp)
  rw [show (w.alloc (.cells #[.int .i64 cnt, .slice A l.length c] 29)).heap.size = w.heap.size + 1 by simp] at hE
  have hB0 : w1.cell? ⟨w.heap.size, 0, none⟩ = some (.int .i64 cnt) := hB.cell 0
  have hB1 : w1.cell? ⟨w.heap.size, 1, none⟩ = some (.slice A l.length c) := hB.cell 1
  have hlt1 := hE.lt
  have HRD := Lib.hid (hr.below hb2)
  have HEE := Lib.hid hE
  clear hb1 hB hE
  go_wp2_with (first | (go_at_call 65; refine (ins.spec_any _ _ _ _).mono ?_; rintro e w' ⟨rfl, rfl⟩) | (go_at_call 69; refine (HP.out _ HRD.out).mono ?_; rintro e w2 ⟨v, rfl, ho, hb3⟩; obtain ⟨Av, cv, hve, _, _, _⟩ := own_form ho.1; subst hve; have hE2 := HEE.out.below hb3 hlt1; have e0 : w2.cell? ⟨w.heap.size + 1, 0, none⟩ = some (.int .i64 0) := hE2.cell 0; have e1 : w2.cell? ⟨w.heap.size + 1, 1, none⟩ = some (.slice none 0 0) := hE2.cell 1; have e2 := hE2.thaw 0; have e3 := hE2.thaw 1))
  have hb4 := below_step hb2 hb3
  have HOF := Lib.hid (fun u1 u2 => own_far (own_far (own_base ho.1 hb2.size) (p := ⟨w.heap.size + 1, 0, none⟩) (fun e => by have := (ho.1.lt _ e).1; simp at this; omega) u1) (p := ⟨w.heap.size + 1, 1, none⟩) (fun e => by have := (ho.1.lt _ e).1; simp at this; omega) u2)
  refine bodyPost_ret (v := .tuple #[.agg #[.int .i64 cnt, .slice Av (pick cnt l size (size.toNat + 1) l.length).length cv], .bool true]) (by simp [results, Try.results37, go_sem, e0, e1]) rfl ⟨_, _, by rw [HNO.out], HR.out.2.symm, ⟨by rw [HR.out.1]; exact HOF.out _ _, by rw [HR.out.1]; exact ho.2⟩, ?_⟩
  exact (hb4.setCell (by simp) _).setCell (by simp) _
theorem impl_any {cnt : Int} (A : Option Addr) (c : Nat) (l : List Rkv) (size : Int) (w : World) (hn : l.length ≤ 1048576) (hr : Rd w 3 A l.length (rkvs l)) :
    Calls Try.prog 38 #[.agg #[.int .i64 cnt, .slice A l.length c], .int .i64 size] w fun e w' => ∃ (v : Value) (n : Int), e = .returned (.tuple #[.agg #[.int .i64 n, v], .bool (ok cnt l size)]) ∧ n = resN cnt l size ∧ OwnRkv w w' v (res cnt l size) ∧ Below w.heap.size w w' := by
  cases h : ok cnt l size with
  | false => have := impl_no A c l size w hn hr h; rwa [h] at this
  | true => have := impl_yes A c l size w hn hr h; rwa [h] at this
theorem spec_any {cnt : Int} (A : Option Addr) (c : Nat) (l : List Rkv) (size : Int) (w : World) (hn : l.length ≤ 1048576) (hr : Rd w 3 A l.length (rkvs l)) :
    Calls Try.prog 37 #[.agg #[.int .i64 cnt, .slice A l.length c], .int .i64 size] w fun e w' => ∃ (v : Value) (n : Int), e = .returned (.tuple #[.agg #[.int .i64 n, v], .bool (ok cnt l size)]) ∧ n = resN cnt l size ∧ OwnRkv w w' v (res cnt l size) ∧ Below w.heap.size w w' := by
  cases h : ok cnt l size with
  | false => have := spec_no A c l size w hn hr h; rwa [h] at this
  | true => have := spec_yes A c l size w hn hr h; rwa [h] at this
end Go.Proofs.Ytlckeefjhafloaa.smyPr
