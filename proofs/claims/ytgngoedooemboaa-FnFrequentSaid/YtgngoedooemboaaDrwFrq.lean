/- The draw of a list and a number of counters. Condition: a code of at most 2^20 bytes. -/
import Derived.Test.YtgngoedooemboaaDrwInts
set_option linter.unusedVariables false
set_option linter.unusedSimpArgs false
namespace Go.Proofs.Ytgngoedooemboaa.drw
open Go.RowKit Go.Proofs.Ytgngoedooemboaa.mem Go.Proofs.Ytgngoedooemboaa.cur

def pll : List Int := [1, 2, 2, 3, 4, 5, 16, 17, 0]
theorem pll_bd : ∀ x ∈ pll, -1048576 ≤ x ∧ x ≤ 1048576 := by decide
set_option maxRecDepth 100000 in
set_option maxHeartbeats 1000000 in
theorem places_any (w0 w : World) (g a : Nat) (zs : List Int) (hn : zs.length ≤ 1048576) (ha : a ≤ 1099511626000) (h : Cur w0 w g zs a) :
    Calls Try.prog 86 #[.pointer (some ⟨g, 0, none⟩)] w fun e w' => ∃ (x : Int) (a' : Nat), (-1048576 ≤ x ∧ x ≤ 1048576) ∧ a ≤ a' ∧ a' ≤ a + 4 ∧ e = .returned (.int .i64 x) ∧ Cur w0 w' g zs a' ∧ w.grownBy w' (some g) := by
  have HLT := Lib.hid h.lt
  have HC := Lib.hid (h.below ((Below.refl w.heap.size w).alloc (Nat.le_refl _) (.cells (ints pll).toArray 3)))
  have HG := Lib.hid (World.grownBy_alloc w (.cells (ints pll).toArray 3) (some g))
  have HPL := Lib.hid (fun (W' : World) (hg : (w.alloc (.cells (ints pll).toArray 3)).grownBy W' (some g)) => pool w pll hg HLT.out)
  clear h
  go_enter Try.func86, Try.ntmps86
  go_wp2_with fail
  refine (among_any w0 _ g a zs hn (by omega) HC.out (some ⟨w.heap.size, 0, none⟩) 9 pll (by decide) (by decide) HPL.out).mono ?_
  rintro e w1 ⟨y, a1, hy, hb1, hb2, rfl, hc1, hg1⟩
  have HF := Lib.hid (Cur.then_grown HG.out hg1)
  have HY := Lib.hid (pll_bd y hy)
  clear hg1 hy
  go_wp2
  go_ret
  exact ⟨y, a1, HY.out, by omega, by omega, rfl, hc1, HF.out⟩
set_option maxRecDepth 100000 in
set_option maxHeartbeats 1000000 in
theorem frq_any (A : Option Addr) (c : Nat) (zs : List Int) (W : World) (hn : zs.length ≤ 1048576) (hz : ∀ z ∈ zs, 0 ≤ z ∧ z ≤ 255) (hr : Rd W 1 A zs.length (u8s zs)) :
    Calls Try.prog 48 #[.slice A zs.length c] W fun e w' => ∃ v l k, e = .returned (.tuple #[v, .int .i64 k]) ∧ w'.ownsRow W.heap.size 3 1 v l.length (ints l) ∧ l.length ≤ 70 ∧ -1048576 ≤ k ∧ k ≤ 1048576 ∧ Below W.heap.size W w' := by
  have HC := Lib.hid (cur_made W A c zs hz hr)
  clear hz hr
  go_enter Try.func48, Try.ntmps48
  go_wp2_with fail
  refine (anyInts_any W _ W.heap.size 0 zs hn (by omega) HC.out).mono ?_
  rintro e w1 ⟨v, l, a, rfl, hci, hl, ha, ha2⟩
  have HI := Lib.hid hci
  clear hci HC
  go_wp2_with fail
  refine (places_any W _ W.heap.size a zs hn (by omega) HI.out.cur).mono ?_
  rintro e w2 ⟨k, a2, hk, _, _, rfl, hc2, hg2⟩
  have HJ := Lib.hid (HI.out.grown hc2 hg2)
  have HO := Lib.hid (own_base HJ.out.own (show W.heap.size ≤ (W.alloc (.cells #[.slice A zs.length c, .int .i64 0, .int .u64 0] 96)).heap.size by simp))
  clear hc2 hg2 HI
  go_wp2
  go_ret2
  first | exact ⟨_, l, k, rfl, HO.out, hl, hk.1, hk.2, HJ.out.cur.bel⟩ | exact ⟨_, _, k, rfl, HO.out, hl, hk.1, hk.2, HJ.out.cur.bel⟩
end Go.Proofs.Ytgngoedooemboaa.drw
