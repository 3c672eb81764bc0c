/- PruneSummary, the program's. Condition: at most 2^20 entries. -/
import Derived.Test.YtlckeefjhafloaaPrLaw
import Derived.Test.YtlckeefjhafloaaSmyQQ
import Derived.Test.YtlckeefjhafloaaMemAt
import Derived.Lib.QuietBelow
set_option linter.unusedVariables false
set_option linter.unusedSimpArgs false
namespace Go.Proofs.Ytlckeefjhafloaa.smyPr
open Go.RowKit Go.Proofs.Ytlckeefjhafloaa.mem Go.Proofs.Ytlckeefjhafloaa.smy Go.Proofs.Ytlckeefjhafloaa.smyQ Go.Proofs.Ytlckeefjhafloaa.prLaw
open Go.Proofs.Ytlckeefjhafloaa.ins (inB inB_true inB_false inB_iff)

def ok (cnt : Int) (l : List Rkv) (size : Int) : Bool := vsmy cnt l && (!decide (cnt = 0) && inB size 1 63)
def res (cnt : Int) (l : List Rkv) (size : Int) : List Rkv := if ok cnt l size = true then pick cnt l size (size.toNat + 1) l.length else []
def resN (cnt : Int) (l : List Rkv) (size : Int) : Int := if ok cnt l size = true then cnt else 0
theorem rk_bd {cnt size : Int} {i : Nat} (h1 : 1 ≤ cnt) (h2 : cnt ≤ 1000) (h3 : 1 ≤ size) (h4 : (i : Int) ≤ size) (h5 : size ≤ 63) : 0 ≤ (i : Int) * (cnt - 1) ∧ (i : Int) * (cnt - 1) ≤ 62937 ∧ 0 ≤ (i : Int) * (cnt - 1) / size ∧ (i : Int) * (cnt - 1) / size ≤ 999 := by
  have a : 0 ≤ (i : Int) * (cnt - 1) := Int.mul_nonneg (by omega) (by omega)
  have b : (i : Int) * (cnt - 1) ≤ size * (cnt - 1) := Int.mul_le_mul_of_nonneg_right h4 (by omega)
  have c : size * (cnt - 1) ≤ 63 * 999 := Int.mul_le_mul h5 (by omega) (by omega) (by omega)
  refine ⟨a, by omega, Int.ediv_nonneg a (by omega), ?_⟩
  have d : (i : Int) * (cnt - 1) / size ≤ size * (cnt - 1) / size := Int.ediv_le_ediv (by omega) b
  rw [Int.mul_ediv_cancel_left _ (by omega)] at d
  omega
/-- the marks of the entries that are taken -/
def tk (cnt : Int) (l : List Rkv) (size : Int) (k : Nat) : List Bool := (List.range l.length).map fun j => sel cnt l size k j
theorem tk_len (cnt : Int) (l : List Rkv) (size : Int) (k : Nat) : (tk cnt l size k).length = l.length := by simp [tk]
theorem tk_zero (cnt : Int) (l : List Rkv) (size : Int) : (bools (tk cnt l size 0)).toArray = rep l.length (.bool false) := by
  apply Array.ext
  · simp [tk, bools, rep]
  · intro i h1 h2
    simp [tk, bools, rep, sel]
theorem tk_at (cnt : Int) (l : List Rkv) (size : Int) (k : Nat) {j : Nat} (h : j < l.length) : (bools (tk cnt l size k)).toArray[j]? = some (.bool (sel cnt l size k j)) := by
  simp [tk, bools, h]
theorem tk_step (cnt : Int) (l : List Rkv) (size : Int) (k : Nat) (h : bi cnt l size k < l.length) : (bools (tk cnt l size k)).toArray.setIfInBounds (bi cnt l size k) (.bool true) = (bools (tk cnt l size (k + 1))).toArray := by
  apply Array.ext
  · simp [tk, bools]
  · intro i h1 h2
    simp only [List.setIfInBounds_toArray, List.getElem_toArray, tk, bools, List.map_map, List.getElem_set, List.getElem_map, List.getElem_range, Function.comp]
    rw [sel_succ]
    by_cases e : bi cnt l size k = i
    · simp [e]
    · have : (bi cnt l size k == i) = false := by simpa using e
      simp [e, this]
set_option maxRecDepth 100000 in
set_option maxHeartbeats 4000000 in
theorem impl_yes {cnt : Int} (A : Option Addr) (c : Nat) (l : List Rkv) (size : Int) (w : World) (hn : l.length ≤ 1048576) (hr : Rd w 3 A l.length (rkvs l)) (hyes : ok cnt l size = true) :
    Calls Try.prog 38 #[.agg #[.int .i64 cnt, .slice A l.length c], .int .i64 size] w fun e w' => ∃ (v : Value) (n : Int), e = .returned (.tuple #[.agg #[.int .i64 n, v], .bool (ok cnt l size)]) ∧ n = resN cnt l size ∧ OwnRkv w w' v (res cnt l size) ∧ Below w.heap.size w w' := by
  have HBX := Lib.hid (fun (o o2 : Obj) => ((Below.refl w.heap.size w).alloc (Nat.le_refl _) o).alloc (by simp) o2)
  have HV := Lib.hid (fun o o2 => smy.impl_any (cnt := cnt) A c l ((w.alloc o).alloc o2) hn ((hr.alloc o).alloc o2))
  have hy2 : vsmy cnt l = true ∧ ¬ cnt = 0 ∧ inB size 1 63 = true := by simpa [ok] using hyes
  obtain ⟨hv, hc0, hi⟩ := hy2
  have hcn := vsmy_cnt hv
  have hri := inB_iff.1 hi
  have h0 : 0 < l.length := by omega
  have HR := Lib.hid (show res cnt l size = pick cnt l size (size.toNat + 1) l.length ∧ resN cnt l size = cnt from ⟨by rw [res, if_pos hyes], by rw [resN, if_pos hyes]⟩)
  have HNO := Lib.hid hyes
  have HBD := Lib.hid (bd_of hv)
  have q1 : (cnt == 0) = false := by simpa using hc0
  have HBI := Lib.hid (fun i => show bi cnt l size i < l.length from bst_lt l _ l.length h0)
  have hmk := make_rep (P := Try.prog) 87 4 (.bool false) 1 Try.underlying87 (by kernel_rfl) rfl l.length (by omega) (by unfold maxLen; omega)
  clear hyes hc0
  rw [hv] at HV
  clear hv
  go_enter Try.func38, Try.ntmps38
  go_wp2_with fail
  refine (HV.out _ _).mono ?_
  rintro e w1 ⟨rfl, hb1⟩
  have hb2 := below_at (HBX.out _ _) (by simp; omega) hb1
  have hB := ((Blk.new w 29 #[.int .i64 cnt, .slice A l.length c]).alloc (.cells #[.int .i64 0, .slice none 0 0] 29)).below hb1 (by simp; omega)
  have hE := (Blk.new (w.alloc (.cells #[.int .i64 cnt, .slice A l.length c] 29)) 29 #[.int .i64 0, .slice none 0 0]).below hb1 (by simp)
  rw [show (w.alloc (.cells #[.int .i64 cnt, .slice A l.length c] 29)).heap.size = w.heap.size + 1 by simp] at hE
  have hB0 : w1.cell? ⟨w.heap.size, 0, none⟩ = some (.int .i64 cnt) := hB.cell 0
  have hB1 : w1.cell? ⟨w.heap.size, 1, none⟩ = some (.slice A l.length c) := hB.cell 1
  have hlt1 := hE.lt
  have HBl := Lib.hid (And.intro hB hE)
  clear hb1 hB hE
  go_wp2_with (first | (go_at_call 57; refine (ins.impl_any _ _ _ _).mono ?_; rintro e w' ⟨rfl, rfl⟩))
  obtain ⟨g1, hg1⟩ : ∃ g, g = w1.heap.size := ⟨_, rfl⟩
  rw [← hg1]
  have HG1 := Lib.hid hg1
  have hg1l : g1 ≤ w1.heap.size ∧ w1.heap.size ≤ g1 := by omega
  clear hg1
  go_loopw [7] (fun i wr => ∃ k : Nat, (k : Int) ≤ size + 1 ∧ i = .int .i64 (k : Int) ∧ Blk wr g1 4 (bools (tk cnt l size k)).toArray ∧ Blk wr w.heap.size 29 #[.int .i64 cnt, .slice A l.length c] ∧ Blk wr (w.heap.size + 1) 29 #[.int .i64 0, .slice none 0 0] ∧ Below w.heap.size w wr) (fun i _ => (size + 1 - intOf i).toNat)
  case atStart =>
    refine ⟨0, by omega, rfl, ?_, HBl.out.1.alloc _, HBl.out.2.alloc _, hb2.alloc hb2.size _⟩
    rw [tk_zero, HG1.out]; exact Blk.new _ _ _
  case round =>
    obtain ⟨k, hk, rfl, hT, hB, hE, hb⟩ := hrel
    clear hB0 hB1 hmk
    have hB0 : wr.cell? ⟨w.heap.size, 0, none⟩ = some (.int .i64 cnt) := hB.cell 0
    have hB1 : wr.cell? ⟨w.heap.size, 1, none⟩ = some (.slice A l.length c) := hB.cell 1
    have hlg := hT.lt
    have HGN := Lib.hid (show g1 ≠ w.heap.size ∧ g1 ≠ w.heap.size + 1 ∧ w.heap.size ≤ g1 from by omega)
    by_cases hlt : (k : Int) ≤ size
    · have hm := rk_bd (cnt := cnt) (size := size) (i := k) (by omega) hcn.2.1 hri.1 hlt hri.2
      have HRK := Lib.hid (show rkP cnt size k = 1 + (k : Int) * (cnt - 1) / size from rfl)
      have hbi := HBI.out k
      have HQ := Lib.hid (fun W h => impl_rank (cnt := cnt) A c l (rkP cnt size k) W hn HBD.out (by rw [HRK.out]; omega) (by rw [HRK.out]; omega) h)
      rw [HRK.out] at HQ
      rw [show best l (1 + (k : Int) * (cnt - 1) / size) = bi cnt l size k from rfl] at HQ
      have HRD := Lib.hid (fun d os => (hr.below hb).below (below_regrown wr d os))
      have HTS := Lib.hid (fun W (h : Blk W g1 4 (bools (tk cnt l size k)).toArray) => show Blk (W.setCell ⟨g1, bi cnt l size k, none⟩ (.bool true)) g1 4 (bools (tk cnt l size (k + 1))).toArray from tk_step cnt l size k hbi ▸ h.put _ _)
      have HTA := Lib.hid (tk_at cnt l size k hbi)
      have HBB := Lib.hid (And.intro hT (And.intro hB hE))
      have k1 := fun d os => cell_regrown (w := wr) hB0 d os
      have k2 := fun d os => cell_regrown (w := wr) hB1 d os
      have q4 : IntKind.i64.wrap (cnt - 1) = cnt - 1 := IntWalk.i64_in _ (by omega)
      have q5 : IntKind.i64.wrap ((k : Int) * (cnt - 1)) = (k : Int) * (cnt - 1) := IntWalk.i64_in _ (by omega)
      have q6 : ((k : Int) * (cnt - 1)).tdiv size = (k : Int) * (cnt - 1) / size := Int.tdiv_eq_ediv_of_nonneg hm.1
      have q7 : IntKind.i64.wrap ((k : Int) * (cnt - 1) / size) = (k : Int) * (cnt - 1) / size := IntWalk.i64_in _ (by omega)
      have q8 : IntKind.i64.wrap (1 + (k : Int) * (cnt - 1) / size) = 1 + (k : Int) * (cnt - 1) / size := IntWalk.i64_in _ (by omega)
      have q9 : (size == 0) = false := by simp; omega
      have q10 : ¬ size = 0 := by omega
      have q11 : ((bi cnt l size k : Nat) : Int) < (l.length : Int) := by omega
      have q12 : (0 : Int) ≤ ((bi cnt l size k : Nat) : Int) := by omega
      clear hT hB hE
      generalize bi cnt l size k = g at HQ HTS HTA q11 q12 hbi
      go_wp2_with fail
      (refine wp_region_quiet_below (by kernel_rfl) (by kernel_rfl) ?_; (repeat (quiet_step (exact Calls.regrown_of (HQ.out _ (HRD.out _ _))))); refine wpQuiet_nil ?_; intro _ hw'; obtain ⟨⟨dq, osq⟩, hw''⟩ := hw'; subst hw'')
      have hbq := below_regrown wr dq osq
      have hT2 := HBB.out.1.below hbq hlg
      have hB2 := HBB.out.2.1.below hbq HBB.out.2.1.lt
      have hE2 := HBB.out.2.2.below hbq HBB.out.2.2.lt
      have hb3 := below_step hb hbq
      have hcT := (hT2.cell g).trans HTA.out
      have hfT := hT2.thaw g
      have HPost := Lib.hid (And.intro (HTS.out _ hT2) (And.intro (hB2.far (p := ⟨g1, g, none⟩) (fun e => HGN.out.1 e.symm) (.bool true)) (And.intro (hE2.far (p := ⟨g1, g, none⟩) (fun e => HGN.out.2.1 e.symm) (.bool true)) (hb3.setCell (p := ⟨g1, g, none⟩) HGN.out.2.2 (.bool true)))))
      clear hT2 hB2 hE2 hb3 k1 k2 hbq
      go_wp2
      go_roundw
      case rel => exact ⟨k + 1, by omega, by go_num, HPost.out.1, HPost.out.2.1, HPost.out.2.2.1, HPost.out.2.2.2⟩
      case measure => simp [intOf]; omega
    · have HKS := Lib.hid (show k = size.toNat + 1 by omega)
      have hlt2 : size < (k : Int) := by omega
      have hz1 := fun (o : Obj) => cells_below (w' := wr.alloc o) ((Below.refl _ _).alloc (Nat.le_refl _) o) hB1
      go_wp2
      clear hz1 hB0 hB1
      obtain ⟨go, hgo⟩ : ∃ g, g = wr.heap.size := ⟨_, rfl⟩
      have HGO := Lib.hid hgo
      have hgol : g1 < go ∧ w.heap.size + 1 < go := by rw [hgo]; exact ⟨hlg, hE.lt⟩
      have hO := Blk.new wr 29 #[.int .i64 cnt, .slice none 0 0]
      have hT1 := hT.alloc (.cells #[.int .i64 cnt, .slice none 0 0] 29)
      have hE1 := hE.alloc (.cells #[.int .i64 cnt, .slice none 0 0] 29)
      have hb1 := hb.alloc hb.size (.cells #[.int .i64 cnt, .slice none 0 0] 29)
      rw [← hgo] at hO ⊢
      clear hT hB hE hb hgo hlg
      generalize wr.alloc (.cells #[.int .i64 cnt, .slice none 0 0] 29) = ws at hO hT1 hE1 hb1 ⊢
      have HST := Lib.hid (And.intro hO (And.intro hT1 (And.intro hE1 hb1)))
      clear hO hT1 hE1 hb1
      go_loopw [58] (fun i wt => ∃ (j : Nat) (v : Value), j ≤ l.length ∧ i = .int .i64 (j : Int) ∧ Blk wt go 29 #[.int .i64 cnt, v] ∧ wt.ownsRow (go + 1) 51 3 v (pick cnt l size k j).length (rkvs (pick cnt l size k j)) ∧ Blk wt g1 4 (bools (tk cnt l size k)).toArray ∧ Blk wt (w.heap.size + 1) 29 #[.int .i64 0, .slice none 0 0] ∧ Below w.heap.size w wt) (fun i _ => l.length - (intOf i).toNat)
      case atStart => exact ⟨0, .slice none 0 0, by omega, rfl, HST.out.1, by rw [show pick cnt l size k 0 = [] from rfl]; exact World.ownsRow_nil _ _ _ _, HST.out.2.1, HST.out.2.2.1, HST.out.2.2.2⟩
      case round =>
        obtain ⟨j, v, hj, rfl, hO, ho, hT, hE, hb⟩ := hrel
        obtain ⟨Av, cv, hve, _, _, _⟩ := own_form ho
        subst hve
        by_cases hlt : j < l.length
        · obtain ⟨b, off, rfl, c0, c1, c2⟩ := (hr.below hb).rkv hlt
          have HPS := Lib.hid (pick_step cnt l size k j)
          rw [getD_r l hlt] at HPS
          have HPL := Lib.hid (pick_len cnt l size k j)
          have hTj := (hT.cell j).trans (tk_at cnt l size k hlt)
          have hO1 : wr.cell? ⟨go, 1, none⟩ = some (.slice Av (pick cnt l size k j).length cv) := hO.cell 1
          have hz1 := fun (o : Obj) => cells_below (w' := wr.alloc o) ((Below.refl _ _).alloc (Nat.le_refl _) o) hO1
          have hz2 := fun (o : Obj) => cells_below (w' := wr.alloc o) ((Below.refl _ _).alloc (Nat.le_refl _) o) hTj
          have HN := Lib.hid (fun (o : Obj) => And.intro (hO.alloc o) (And.intro (ho.alloc o) (And.intro (hT.alloc o) (And.intro (hE.alloc o) (hb.alloc hb.size o)))))
          have hgl := hO.lt
          clear hO hT hE hb hO1 hTj
          generalize l[j] = x at c0 c1 c2 HPS
          cases hs : sel cnt l size k j with
          | false =>
            rw [hs] at HPS hz2
            clear hs
            have HP2 := Lib.hid (show pick cnt l size k (j + 1) = pick cnt l size k j by rw [HPS.out]; simp)
            go_wp2
            go_roundw
            case rel => exact ⟨j + 1, _, by omega, by go_num, (HN.out _).1, by rw [HP2.out]; exact (HN.out _).2.1, (HN.out _).2.2.1, (HN.out _).2.2.2.1, (HN.out _).2.2.2.2⟩
            case measure => simp [intOf]; omega
          | true =>
            rw [hs] at HPS hz2
            clear hs
            have HP2 := Lib.hid (show pick cnt l size k (j + 1) = pick cnt l size k j ++ [x] by rw [HPS.out]; simp)
            obtain ⟨hO, ho1, hT, hE, hb⟩ := HN.out (.cells #[.int .i64 x.value, .int .i64 x.least, .int .i64 x.most] 51)
            have HG := Lib.hid (own_ge ho)
            have HOO := Lib.hid (And.intro hO (And.intro hT (And.intro hE hb)))
            have hh : (pick cnt l size k j).length ≤ 1099511627776 := by have := HPL.out; omega
            have hbs : go + 1 ≤ (wr.alloc (.cells #[.int .i64 x.value, .int .i64 x.least, .int .i64 x.most] 51)).heap.size := by simp; omega
            clear hO hT hE hb ho
            generalize hpk : pick cnt l size k j = pk at ho1 hh HP2 hz1 HG hz2 HOO ⊢
            have HPK := Lib.hid hpk
            clear hpk
            go_wp2_with (at_builtin; refine mem.push_atH _ rfl _ _ 27 rfl (go + 1) 51 _ 3 24 Try.underlying27 mem.info_rkv rfl (by decide) (.slice Av pk.length cv) _ _ (by rfl) ho1 (wr.heap.size + 1) (by simp) (rkvs [x]) _ rfl (mem.rkvs_one [x]) (by rfl) hh (by decide) hbs ?_; intro v' w' ho' hg' hnw'; have hO2 := HOO.out.1.grown hg' (fun e => by have := HG.out _ e.symm; omega); have hcc : w'.cell? ⟨go, 1, none⟩ = some (.slice Av pk.length cv) := hO2.cell 1; have hff := hO2.thaw 1; obtain ⟨A', c', hve, _, _, _⟩ := own_form ho'; subst hve)
            have hO3 := hO2.put 1 (.slice A' (pk.length + 1) c')
            have hoo : (w'.setCell ⟨go, 1, none⟩ (.slice A' (pk.length + 1) c')).ownsRow (go + 1) 51 3 (.slice A' (pk.length + 1) c') (pick cnt l size k (j + 1)).length (rkvs (pick cnt l size k (j + 1))) := by
              rw [HP2.out, List.length_append, rkvs_app]
              exact own_far ho' (fun e => by have := (ho'.lt _ e).1; simp at this; omega) _
            have hT3 := (HOO.out.2.1.grown hg' (fun e => by have := HG.out _ e.symm; omega)).far (p := ⟨go, 1, none⟩) (by simp only; omega) (.slice A' (pk.length + 1) c')
            have hE3 := (HOO.out.2.2.1.grown hg' (fun e => by have := HG.out _ e.symm; omega)).far (p := ⟨go, 1, none⟩) (by simp only; omega) (.slice A' (pk.length + 1) c')
            have hb3 := (below_grown HOO.out.2.2.2 HOO.out.2.2.2.size hg' (fun g h => by have := HG.out _ h; omega)).setCell (p := ⟨go, 1, none⟩) (by simp only; omega) (.slice A' (pk.length + 1) c')
            clear ho' hg' hnw' hO2 hcc hff
            go_roundw
            case rel => exact ⟨j + 1, _, by omega, by go_num, hO3, hoo, hT3, hE3, hb3⟩
            case measure => simp [intOf]; omega
        · obtain rfl : j = l.length := by omega
          have hO0 : wr.cell? ⟨go, 0, none⟩ = some (.int .i64 cnt) := hO.cell 0
          have hO1 : wr.cell? ⟨go, 1, none⟩ = some (.slice Av (pick cnt l size k l.length).length cv) := hO.cell 1
          have e0 : wr.cell? ⟨w.heap.size + 1, 0, none⟩ = some (.int .i64 0) := hE.cell 0
          have e1 : wr.cell? ⟨w.heap.size + 1, 1, none⟩ = some (.slice none 0 0) := hE.cell 1
          have e2 := hE.thaw 0
          have e3 := hE.thaw 1
          have HL := Lib.hid (pick_len cnt l size k l.length)
          have HRR := Lib.hid (show res cnt l size = pick cnt l size k l.length by rw [HR.out.1, HKS.out])
          generalize pick cnt l size k l.length = pk at ho hO1 HL HRR
          have HOF := Lib.hid (fun u1 u2 => own_far (own_far ho (p := ⟨w.heap.size + 1, 0, none⟩) (fun e => by have := (ho.lt _ e).1; simp at this; omega) u1) (p := ⟨w.heap.size + 1, 1, none⟩) (fun e => by have := (ho.lt _ e).1; simp at this; omega) u2)
          have HBF := Lib.hid (fun u1 u2 => (hb.setCell (p := ⟨w.heap.size + 1, 0, none⟩) (by simp) u1).setCell (p := ⟨w.heap.size + 1, 1, none⟩) (by simp) u2)
          clear ho hO hT hE hb
          go_wp2
          refine bodyPost_ret (v := .tuple #[.agg #[.int .i64 cnt, .slice Av pk.length cv], .bool true]) (by simp [results, Try.results38, go_sem, e0, e1]) rfl ⟨_, _, by rw [HNO.out], HR.out.2.symm, ⟨by rw [HRR.out]; exact own_base (HOF.out _ _) (by omega), by rw [HRR.out]; have := HL.out; omega⟩, HBF.out _ _⟩
set_option maxRecDepth 100000 in
set_option maxHeartbeats 2000000 in
theorem impl_no {cnt : Int} (A : Option Addr) (c : Nat) (l : List Rkv) (size : Int) (w : World) (hn : l.length ≤ 1048576) (hr : Rd w 3 A l.length (rkvs l)) (hno : ok cnt l size = false) :
    Calls Try.prog 38 #[.agg #[.int .i64 cnt, .slice A l.length c], .int .i64 size] w fun e w' => ∃ (v : Value) (n : Int), e = .returned (.tuple #[.agg #[.int .i64 n, v], .bool (ok cnt l size)]) ∧ n = resN cnt l size ∧ OwnRkv w w' v (res cnt l size) ∧ Below w.heap.size w w' := by
  have HBX := Lib.hid (fun (o o2 : Obj) => ((Below.refl w.heap.size w).alloc (Nat.le_refl _) o).alloc (by simp) o2)
  have HV := Lib.hid (fun o o2 => smy.impl_any (cnt := cnt) A c l ((w.alloc o).alloc o2) hn ((hr.alloc o).alloc o2))
  have HR := Lib.hid (show res cnt l size = [] ∧ resN cnt l size = 0 by simp [res, resN, hno])
  have HNO := Lib.hid hno
  have hcase : vsmy cnt l = false ∨ (vsmy cnt l = true ∧ cnt = 0) ∨ (vsmy cnt l = true ∧ ¬ cnt = 0 ∧ inB size 1 63 = false) := by
    cases h : vsmy cnt l with
    | false => exact Or.inl rfl
    | true =>
      right
      by_cases h2 : cnt = 0
      · exact Or.inl ⟨rfl, h2⟩
      · right; exact ⟨rfl, h2, by simpa [ok, h, h2] using hno⟩
  clear hno
  rcases hcase with hv | ⟨hv, h2⟩ | ⟨hv, h2, hi⟩
  rotate_left
  · subst h2
    rw [hv] at HV
    clear hv
    go_enter Try.func38, Try.ntmps38
    go_wp2_with fail
    refine (HV.out _ _).mono ?_
    rintro e w1 ⟨rfl, hb1⟩
    have hb2 := below_at (HBX.out _ _) (by simp; omega) hb1
    have hB := ((Blk.new w 29 #[.int .i64 0, .slice A l.length c]).alloc (.cells #[.int .i64 0, .slice none 0 0] 29)).below hb1 (by simp; omega)
    have hE := (Blk.new (w.alloc (.cells #[.int .i64 0, .slice A l.length c] 29)) 29 #[.int .i64 0, .slice none 0 0]).below hb1 (by simp)
    rw [show (w.alloc (.cells #[.int .i64 0, .slice A l.length c] 29)).heap.size = w.heap.size + 1 by simp] at hE
    have hB0 : w1.cell? ⟨w.heap.size, 0, none⟩ = some (.int .i64 0) := hB.cell 0
    have e0 : w1.cell? ⟨w.heap.size + 1, 0, none⟩ = some (.int .i64 0) := hE.cell 0
    have e1 : w1.cell? ⟨w.heap.size + 1, 1, none⟩ = some (.slice none 0 0) := hE.cell 1
    have e3 := hE.thaw 0
    have e4 := hE.thaw 1
    clear hB hE hb1
    go_wp2_with (first | (go_at_call 57; refine (ins.impl_any _ _ _ _).mono ?_; rintro e w' ⟨rfl, rfl⟩))
    refine bodyPost_ret (v := .tuple #[.agg #[.int .i64 0, .slice none 0 0], .bool false]) (by simp [results, Try.results38, go_sem, e0, e1]) rfl ⟨.slice none 0 0, 0, by rw [HNO.out], HR.out.2.symm, ⟨by rw [HR.out.1]; exact World.ownsRow_nil _ _ _ _, by rw [HR.out.1]; simp⟩, ?_⟩
    first | exact hb2 | exact (hb2.setCell (by simp) _).setCell (by simp) _
  all_goals
    rw [hv] at HV
    try (have q1 : (cnt == 0) = false := by simpa using h2)
    try clear h2
    clear hv
    go_enter Try.func38, Try.ntmps38
    go_wp2_with fail
    refine (HV.out _ _).mono ?_
    rintro e w1 ⟨rfl, hb1⟩
    have hb2 := below_at (HBX.out _ _) (by simp; omega) hb1
    have hB := ((Blk.new w 29 #[.int .i64 cnt, .slice A l.length c]).alloc (.cells #[.int .i64 0, .slice none 0 0] 29)).below hb1 (by simp; omega)
    have hE := (Blk.new (w.alloc (.cells #[.int .i64 cnt, .slice A l.length c] 29)) 29 #[.int .i64 0, .slice none 0 0]).below hb1 (by simp)
    rw [show (w.alloc (.cells #[.int .i64 cnt, .slice A l.length c] 29)).heap.size = w.heap.size + 1 by simp] at hE
    have hB0 : w1.cell? ⟨w.heap.size, 0, none⟩ = some (.int .i64 cnt) := hB.cell 0
    have e0 : w1.cell? ⟨w.heap.size + 1, 0, none⟩ = some (.int .i64 0) := hE.cell 0
    have e1 : w1.cell? ⟨w.heap.size + 1, 1, none⟩ = some (.slice none 0 0) := hE.cell 1
    have e3 := hE.thaw 0
    have e4 := hE.thaw 1
    clear hB hE hb1
    go_wp2_with (first | (go_at_call 57; refine (ins.impl_any _ _ _ _).mono ?_; rintro e w' ⟨rfl, rfl⟩))
    refine bodyPost_ret (v := .tuple #[.agg #[.int .i64 0, .slice none 0 0], .bool false]) (by simp [results, Try.results38, go_sem, e0, e1]) rfl ⟨.slice none 0 0, 0, by rw [HNO.out], HR.out.2.symm, ⟨by rw [HR.out.1]; exact World.ownsRow_nil _ _ _ _, by rw [HR.out.1]; simp⟩, ?_⟩
    first | exact hb2 | exact (hb2.setCell (by simp) _).setCell (by simp) _
set_option maxRecDepth 100000 in
set_option maxHeartbeats 2000000 in
theorem spec_no {cnt : Int} (A : Option Addr) (c : Nat) (l : List Rkv) (size : Int) (w : World) (hn : l.length ≤ 1048576) (hr : Rd w 3 A l.length (rkvs l)) (hno : ok cnt l size = false) :
    Calls Try.prog 37 #[.agg #[.int .i64 cnt, .slice A l.length c], .int .i64 size] w fun e w' => ∃ (v : Value) (n : Int), e = .returned (.tuple #[.agg #[.int .i64 n, v], .bool (ok cnt l size)]) ∧ n = resN cnt l size ∧ OwnRkv w w' v (res cnt l size) ∧ Below w.heap.size w w' := by
  have HBX := Lib.hid (fun (o o2 : Obj) => ((Below.refl w.heap.size w).alloc (Nat.le_refl _) o).alloc (by simp) o2)
  have HV := Lib.hid (fun o o2 => smy.good_any (cnt := cnt) A c l ((w.alloc o).alloc o2) hn ((hr.alloc o).alloc o2))
  have HR := Lib.hid (show res cnt l size = [] ∧ resN cnt l size = 0 by simp [res, resN, hno])
  have HNO := Lib.hid hno
  have hcase : vsmy cnt l = false ∨ (vsmy cnt l = true ∧ cnt = 0) ∨ (vsmy cnt l = true ∧ ¬ cnt = 0 ∧ inB size 1 63 = false) := by
    cases h : vsmy cnt l with
    | false => exact Or.inl rfl
    | true =>
      right
      by_cases h2 : cnt = 0
      · exact Or.inl ⟨rfl, h2⟩
      · right; exact ⟨rfl, h2, by simpa [ok, h, h2] using hno⟩
  clear hno
  rcases hcase with hv | ⟨hv, h2⟩ | ⟨hv, h2, hi⟩
  rotate_left
  · subst h2
    rw [hv] at HV
    clear hv
    go_enter Try.func37, Try.ntmps37
    go_wp2_with fail
    refine (HV.out _ _).mono ?_
    rintro e w1 ⟨rfl, hb1⟩
    have hb2 := below_at (HBX.out _ _) (by simp; omega) hb1
    have hB := ((Blk.new w 29 #[.int .i64 0, .slice A l.length c]).alloc (.cells #[.int .i64 0, .slice none 0 0] 29)).below hb1 (by simp; omega)
    have hE := (Blk.new (w.alloc (.cells #[.int .i64 0, .slice A l.length c] 29)) 29 #[.int .i64 0, .slice none 0 0]).below hb1 (by simp)
    rw [show (w.alloc (.cells #[.int .i64 0, .slice A l.length c] 29)).heap.size = w.heap.size + 1 by simp] at hE
    have hB0 : w1.cell? ⟨w.heap.size, 0, none⟩ = some (.int .i64 0) := hB.cell 0
    have e0 : w1.cell? ⟨w.heap.size + 1, 0, none⟩ = some (.int .i64 0) := hE.cell 0
    have e1 : w1.cell? ⟨w.heap.size + 1, 1, none⟩ = some (.slice none 0 0) := hE.cell 1
    have e3 := hE.thaw 0
    have e4 := hE.thaw 1
    clear hB hE hb1
    go_wp2_with (first | (go_at_call 65; refine (ins.spec_any _ _ _ _).mono ?_; rintro e w' ⟨rfl, rfl⟩))
    refine bodyPost_ret (v := .tuple #[.agg #[.int .i64 0, .slice none 0 0], .bool false]) (by simp [results, Try.results37, go_sem, e0, e1]) rfl ⟨.slice none 0 0, 0, by rw [HNO.out], HR.out.2.symm, ⟨by rw [HR.out.1]; exact World.ownsRow_nil _ _ _ _, by rw [HR.out.1]; simp⟩, ?_⟩
    first | exact hb2 | exact (hb2.setCell (by simp) _).setCell (by simp) _
  all_goals
    rw [hv] at HV
    try (have q1 : (cnt == 0) = false := by simpa using h2)
    try clear h2
    clear hv
    go_enter Try.func37, Try.ntmps37
    go_wp2_with fail
    refine (HV.out _ _).mono ?_
    rintro e w1 ⟨rfl, hb1⟩
    have hb2 := below_at (HBX.out _ _) (by simp; omega) hb1
    have hB := ((Blk.new w 29 #[.int .i64 cnt, .slice A l.length c]).alloc (.cells #[.int .i64 0, .slice none 0 0] 29)).below hb1 (by simp; omega)
    have hE := (Blk.new (w.alloc (.cells #[.int .i64 cnt, .slice A l.length c] 29)) 29 #[.int .i64 0, .slice none 0 0]).below hb1 (by simp)
    rw [show (w.alloc (.cells #[.int .i64 cnt, .slice A l.length c] 29)).heap.size = w.heap.size + 1 by simp] at hE
    have hB0 : w1.cell? ⟨w.heap.size, 0, none⟩ = some (.int .i64 cnt) := hB.cell 0
    have e0 : w1.cell? ⟨w.heap.size + 1, 0, none⟩ = some (.int .i64 0) := hE.cell 0
    have e1 : w1.cell? ⟨w.heap.size + 1, 1, none⟩ = some (.slice none 0 0) := hE.cell 1
    have e3 := hE.thaw 0
    have e4 := hE.thaw 1
    clear hB hE hb1
    go_wp2_with (first | (go_at_call 65; refine (ins.spec_any _ _ _ _).mono ?_; rintro e w' ⟨rfl, rfl⟩))
    refine bodyPost_ret (v := .tuple #[.agg #[.int .i64 0, .slice none 0 0], .bool false]) (by simp [results, Try.results37, go_sem, e0, e1]) rfl ⟨.slice none 0 0, 0, by rw [HNO.out], HR.out.2.symm, ⟨by rw [HR.out.1]; exact World.ownsRow_nil _ _ _ _, by rw [HR.out.1]; simp⟩, ?_⟩
    first | exact hb2 | exact (hb2.setCell (by simp) _).setCell (by simp) _
end Go.Proofs.Ytlckeefjhafloaa.smyPr
