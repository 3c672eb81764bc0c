/- The draw of jobs. Condition: a code of at most 2^20 bytes. -/
import Derived.Test.YtfjmpplpagmpbaaDrwRnd
import Derived.Test.YtfjmpplpagmpbaaCut
set_option linter.unusedVariables false
set_option linter.unusedSimpArgs false
namespace Go.Proofs.Ytfjmpplpagmpbaa.drw
open Go.RowKit Go.Proofs.Ytfjmpplpagmpbaa.mem Go.Proofs.Ytfjmpplpagmpbaa.cur

def wl : List Int := [1, 2, 2, 3, 4, 7, 16, 0, 17]
theorem wl_len : wl.length = 9 := rfl
theorem wl_bd : ∀ x ∈ wl, -1048576 ≤ x ∧ x ≤ 1048576 := by decide
set_option maxRecDepth 100000 in
set_option maxHeartbeats 4000000 in
theorem workers_any (w0 w : World) (g a : Nat) (zs : List Int) (hn : zs.length ≤ 1048576) (ha : a ≤ 1099511626000) (h : Cur w0 w g zs a) :
    Calls Try.prog 72 #[.pointer (some ⟨g, 0, none⟩)] w fun e w' => ∃ (x : Int) (a' : Nat), (-1048576 ≤ x ∧ x ≤ 1048576) ∧ a ≤ a' ∧ a' ≤ a + 4 ∧ e = .returned (.int .i64 x) ∧ Cur w0 w' g zs a' ∧ w.grownBy w' (some g) := by
  have HBK := Lib.hid (Blk.new w 3 (ints wl).toArray)
  have HC := Lib.hid (fun (o : Obj) => h.below ((Below.refl w.heap.size w).alloc (Nat.le_refl _) o))
  have HG := Lib.hid (fun (o : Obj) => World.grownBy_alloc w o (some g))
  have hgl := h.lt
  clear h
  go_enter Try.func72, Try.ntmps72
  go_wp2_with fail
  refine (pick_any w0 _ g a zs hn (by omega) (HC.out _) 9 (by omega) (by omega)).mono ?_
  rintro e w1 ⟨x, a1, hx, ha1, ha2, rfl, hc1, hg1⟩
  have hx9 : x ≤ 8 := by omega
  obtain ⟨m, hm, hm1, hm2⟩ : ∃ m : Nat, 7 + (x : Int) / 4 = (m : Int) ∧ 7 ≤ m ∧ m ≤ 9 := ⟨7 + x / 4, by omega, by omega, by omega⟩
  have hm' : 7 + (x : Int).tdiv 4 = (m : Int) := by rw [Int.tdiv_eq_ediv_of_nonneg (by omega)]; exact hm
  have hwr : IntKind.i64.wrap (m : Int) = (m : Int) := IntWalk.i64_in _ (by omega)
  have hru := fun W => run_upto (P := Try.prog) 22 3 _ 1 8 Try.underlying22 info_int (some ⟨w.heap.size, 0, none⟩) 9 9 m (m : Int) rfl (by omega) W
  rw [cutA_zero] at hru
  have HG1 := Lib.hid (Cur.then_grown (HG.out _) hg1)
  have HRD := Lib.hid (show ∀ W, w1.grownBy W (some g) → Rd W 1 (some ⟨w.heap.size, 0, none⟩) (wl.take m).length (ints (wl.take m)) from fun W hW => by
    have b1 := (HBK.out.grown hg1 (fun e => by injection e with e; omega)).grown hW (fun e => by injection e with e; omega)
    have r1 : Rd W 1 (some ⟨w.heap.size, 0, none⟩) 9 (ints wl) := b1.rd rfl rfl
    have r2 := r1.take hm2
    rw [Nat.mul_one] at r2
    have e1 : (ints wl).take m = ints (wl.take m) := by simp [ints, List.map_take]
    rw [e1] at r2
    rw [List.length_take, wl_len, Nat.min_eq_left hm2]
    exact r2)
  have HAM := Lib.hid (among_any w0 w1 g a1 zs hn (by omega) hc1 (some ⟨w.heap.size, 0, none⟩) 9 (wl.take m) (by rw [List.length_take, wl_len]; omega) (by rw [List.length_take, wl_len]; omega) HRD.out)
  rw [List.length_take, wl_len, Nat.min_eq_left hm2] at HAM
  clear hg1 hc1 hx
  go_wp2_with fail
  refine HAM.out.mono ?_
  rintro e w2 ⟨y, a2, hy, hb1, hb2, rfl, hc2, hg2⟩
  have HF := Lib.hid (Cur.then_grown HG1.out hg2)
  have HY := Lib.hid (wl_bd y (List.mem_of_mem_take hy))
  clear hg2 hy
  go_wp2
  go_ret
  exact ⟨y, a2, HY.out, by omega, by omega, rfl, hc2, HF.out⟩
set_option maxRecDepth 100000 in
set_option maxHeartbeats 4000000 in
theorem jobs_any (A : Option Addr) (c : Nat) (zs : List Int) (W : World) (hn : zs.length ≤ 1048576) (hz : ∀ z ∈ zs, 0 ≤ z ∧ z ≤ 255) (hr : Rd W 1 A zs.length (u8s zs)) :
    Calls Try.prog 35 #[.slice A zs.length c] W fun e w' => ∃ v l k, e = .returned (.tuple #[v, .int .i64 k]) ∧ w'.ownsRow W.heap.size 3 1 v l.length (ints l) ∧ l.length ≤ 1048576 ∧ -1048576 ≤ k ∧ k ≤ 1048576 ∧ Below W.heap.size W w' := by
  have HC := Lib.hid (cr_made W A c zs hz hr)
  clear hz hr
  go_enter Try.func35, Try.ntmps35
  go_wp2_with fail
  refine (pick_any W _ W.heap.size 0 zs hn (by omega) HC.out.cur 12 (by omega) (by omega)).mono ?_
  rintro e w1 ⟨x, a, hx, _, ha, rfl, hc1, hg1⟩
  have HC1 := Lib.hid (HC.out.grown hc1 hg1)
  clear hc1 hg1 HC
  go_wp2
  go_loopg [5, 6] 20 (fun f v i wr => ∃ (x a : Nat) (l : List Int), x < f ∧ x ≤ 11 ∧ l.length + x ≤ 11 ∧ a + 2 * x ≤ 24 ∧ i = .int .i64 (x : Int) ∧ CR W wr zs a v l)
  case atStart => exact ⟨x, a, [], by omega, by omega, by simp; omega, by omega, rfl, HC1.out⟩
  case round =>
    obtain ⟨x, a, l, hxf, hx9, hl, ha, rfl, hcr⟩ := hrel
    have HCR := Lib.hid hcr
    clear hcr HC1
    by_cases h0 : 0 < x
    · have q1 : (0 : Int) < (x : Int) := by omega
      go_wp2_with fail
      refine (pick_any W _ W.heap.size a zs hn (by omega) HCR.out.cur 6 (by omega) (by omega)).mono ?_
      rintro e w2 ⟨y, a2, _, ha1, ha2, rfl, hc2, hg2⟩
      have HC2 := Lib.hid (HCR.out.grown hc2 hg2)
      clear hc2 hg2 HCR
      have ho := HC2.out.own
      have hs := HC2.out.size
      have hb : l.length ≤ 1099511627776 := by omega
      go_wp2_with (at_builtin; refine mem.push _ rfl _ _ 22 rfl (W.heap.size + 1) 3 _ 1 8 Try.underlying22 mem.info_int rfl Nat.one_pos _ _ _ rfl ho [.int .i64 ((1 + (y : Int)))] _ rfl (mem.ints_one [(1 + (y : Int))]) rfl hb (by decide) hs ?_; intro v' w' ho' hg')
      have HC3 := Lib.hid (HC2.out.push ho' hg')
      clear ho' hg' ho HC2
      go_wp2
      go_roundg (gk - 1)
      case measure => omega
      case rel => exact ⟨x - 1, a2, l ++ [1 + (y : Int)], by omega, by omega, by simp; omega, by omega, by go_num, HC3.out⟩
    · have q1 : ¬ (0 : Int) < (x : Int) := by omega
      go_wp2_with fail
      refine (pick_any W _ W.heap.size a zs hn (by omega) HCR.out.cur 20 (by omega) (by omega)).mono ?_
      rintro e w2 ⟨y, a2, _, ha1, ha2, rfl, hc2, hg2⟩
      have HC2 := Lib.hid (HCR.out.grown hc2 hg2)
      clear hc2 hg2 HCR
      have HEND := Lib.hid (fun (w' : World) (a' : Nat) (v' : Value) (l' : List Int) (h : CR W w' zs a' v' l') (hl : l'.length ≤ 70) => show w'.ownsRow W.heap.size 3 1 v' l'.length (ints l') ∧ l'.length ≤ 1048576 ∧ Below W.heap.size W w' from ⟨own_base h.own (by omega), by omega, h.cur.bel⟩)
      by_cases hy0 : y = 0
      · subst hy0
        go_wp2
        go_loopg [5] 70 (fun f v wr => ∃ (a : Nat) (l : List Int), 66 ≤ l.length + f ∧ l.length ≤ 65 ∧ a ≤ 40 + 4 * l.length ∧ CR W wr zs a v l)
        case atStart => exact ⟨a2, l, by omega, by omega, by omega, HC2.out⟩
        case round =>
          obtain ⟨a3, l3, hf3, hl3, ha3, hcr3⟩ := hrel
          have HC3 := Lib.hid hcr3
          clear hcr3 HC2
          obtain ⟨A3, c3, rfl, _, _, _⟩ := own_form HC3.out.own
          go_wp2_with fail
          refine (pick_any W _ W.heap.size a3 zs hn (by omega) HC3.out.cur 2 (by omega) (by omega)).mono ?_
          rintro e w4 ⟨z, a4, hz2, ha4, ha5, rfl, hc4, hg4⟩
          have HC4 := Lib.hid (HC3.out.grown hc4 hg4)
          clear hc4 hg4 HC3
          have hz1 : z ≤ 1 := by omega
          have r1 : IntKind.i64.wrap (64 + (z : Int)) = 64 + (z : Int) := IntWalk.i64_in _ (by omega)
          by_cases hlt : (l3.length : Int) < 64 + (z : Int)
          · go_wp2_with fail
            refine (pick_any W _ W.heap.size a4 zs hn (by omega) HC4.out.cur 9 (by omega) (by omega)).mono ?_
            rintro e w5 ⟨y5, a6, _, ha6, ha7, rfl, hc5, hg5⟩
            have HC5 := Lib.hid (HC4.out.grown hc5 hg5)
            clear hc5 hg5 HC4
            have ho := HC5.out.own
            have hs := HC5.out.size
            have hb : l3.length ≤ 1099511627776 := by omega
            go_wp2_with (at_builtin; refine mem.push _ rfl _ _ 22 rfl (W.heap.size + 1) 3 _ 1 8 Try.underlying22 mem.info_int rfl Nat.one_pos _ _ _ rfl ho [.int .i64 ((1 + (y5 : Int)))] _ rfl (mem.ints_one [(1 + (y5 : Int))]) rfl hb (by decide) hs ?_; intro v' w' ho' hg')
            have HC6 := Lib.hid (HC5.out.push ho' hg')
            clear ho' hg' ho HC5
            go_wp2
            go_roundg (gk - 1)
            case measure => omega
            case rel => exact ⟨a6, l3 ++ [1 + (y5 : Int)], by simp; omega, by simp; omega, by simp; omega, HC6.out⟩
          · have HWK := Lib.hid (workers_any W _ W.heap.size a4 zs hn (by omega) HC4.out.cur)
            go_wp2_with fail
            refine HWK.out.mono ?_
            rintro e w8 ⟨kk, a8, hkk, _, _, rfl, hc8, hg8⟩
            have HE := Lib.hid (HEND.out _ _ _ _ (HC4.out.grown hc8 hg8) (by omega))
            clear hc8 hg8
            go_wp2
            go_ret2
            exact ⟨_, _, kk, rfl, HE.out.1, HE.out.2.1, hkk.1, hkk.2, HE.out.2.2⟩
      · have q0 : ((y : Int) == 0) = false := by simp; omega
        have q00 : ¬ (y : Int) = 0 := by omega
        have q000 : (y == 0) = false := by simpa using hy0
        by_cases hy1 : y = 1
        · subst hy1
          have hm3 := Lib.hid (fun (w : World) => show Rd (w.alloc (.cells #[.int .i64 0, .int .i64 100000, .int .i64 100001] 3)) 1 (some ⟨w.heap.size, 0, none⟩) 3 (ints [0, 100000, 100001]) from
            (Blk.new w 3 #[.int .i64 0, .int .i64 100000, .int .i64 100001]).rd rfl rfl)
          have HBL := Lib.hid (fun (o : Obj) => (Below.refl w2.heap.size w2).alloc (Nat.le_refl _) o)
          have HC3 := Lib.hid (fun (o : Obj) => show CR W (w2.alloc o) zs a2 u5 l from ⟨HC2.out.cur.below (HBL.out o), own_below HC2.out.own (HBL.out o)⟩)
          go_wp2_with fail
          refine (among_any W _ W.heap.size a2 zs hn (by omega) (HC3.out _).cur (some ⟨w2.heap.size, 0, none⟩) 3 [0, 100000, 100001] (by simp) (by simp) (fun W' hg => ?_)).mono ?_
          · have h1 := hm3.out w2
            have h2 := HC2.out.size
            exact h1.grown hg (fun b off e => by injection e with e; injection e with e1 e2; intro e3; injection e3 with e3; omega)
          rintro e w5 ⟨y5, a6, _, ha6, ha7, rfl, hc5, hg5⟩
          have HC5 := Lib.hid ((HC3.out _).grown hc5 hg5)
          clear hc5 hg5 HC3 HC2
          have ho := HC5.out.own
          have hs := HC5.out.size
          have hb : l.length ≤ 1099511627776 := by omega
          go_wp2_with (at_builtin; refine mem.push _ rfl _ _ 22 rfl (W.heap.size + 1) 3 _ 1 8 Try.underlying22 mem.info_int rfl Nat.one_pos _ _ _ rfl ho [.int .i64 ((y5 : Int))] _ rfl (mem.ints_one [(y5 : Int)]) rfl hb (by decide) hs ?_; intro v' w' ho' hg')
          have HC6 := Lib.hid (HC5.out.push ho' hg')
          clear ho' hg' ho HC5
          have HWK := Lib.hid (workers_any W _ W.heap.size a6 zs hn (by omega) HC6.out.cur)
          go_wp2_with fail
          refine HWK.out.mono ?_
          rintro e w8 ⟨kk, a8, hkk, _, _, rfl, hc8, hg8⟩
          have HE := Lib.hid (HEND.out _ _ _ _ (HC6.out.grown hc8 hg8) (by simp; omega))
          clear hc8 hg8
          go_wp2
          go_ret2
          exact ⟨_, _, kk, rfl, HE.out.1, HE.out.2.1, hkk.1, hkk.2, HE.out.2.2⟩
        · have q1 : ((y : Int) == 1) = false := by simp; omega
          have q10 : ¬ (y : Int) = 1 := by omega
          have q100 : (y == 1) = false := by simpa using hy1
          have HWK := Lib.hid (workers_any W _ W.heap.size a2 zs hn (by omega) HC2.out.cur)
          go_wp2_with fail
          refine HWK.out.mono ?_
          rintro e w8 ⟨kk, a8, hkk, _, _, rfl, hc8, hg8⟩
          have HE := Lib.hid (HEND.out _ _ _ _ (HC2.out.grown hc8 hg8) (by omega))
          clear hc8 hg8
          go_wp2
          go_ret2
          exact ⟨_, _, kk, rfl, HE.out.1, HE.out.2.1, hkk.1, hkk.2, HE.out.2.2⟩
end Go.Proofs.Ytfjmpplpagmpbaa.drw
