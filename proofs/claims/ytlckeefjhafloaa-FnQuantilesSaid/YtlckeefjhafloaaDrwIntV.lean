/- A drawn list of integers and the range of its elements. Condition: a code of at most 2^20 bytes. -/
import Derived.Test.YtlckeefjhafloaaDrwInts
set_option linter.unusedVariables false
set_option linter.unusedSimpArgs false
namespace Go.Proofs.Ytlckeefjhafloaa.drw
open Go.RowKit Go.Proofs.Ytlckeefjhafloaa.mem Go.Proofs.Ytlckeefjhafloaa.cur

theorem val_app {l : List Int} {x : Int} (h : ∀ z ∈ l, -100000 ≤ z ∧ z ≤ 100000) (hx : -100000 ≤ x ∧ x ≤ 100000) : ∀ z ∈ l ++ [x], -100000 ≤ z ∧ z ≤ 100000 := fun z hz => by
  rcases List.mem_append.1 hz with h1 | h1
  · exact h z h1
  · obtain rfl := List.mem_singleton.1 h1; exact hx
theorem val_pool {x : Int} (h : x ∈ [(100000 : Int), -100000, 999, -5]) : -100000 ≤ x ∧ x ≤ 100000 := by
  simp only [List.mem_cons, List.not_mem_nil, or_false] at h; omega
set_option maxRecDepth 100000 in
set_option maxHeartbeats 4000000 in
theorem ints_val (w0 w : World) (g a : Nat) (zs : List Int) (hn : zs.length ≤ 1048576) (ha : a ≤ 1099511620000) (h : Cur w0 w g zs a) :
    Calls Try.prog 84 #[.pointer (some ⟨g, 0, none⟩)] w fun e w' => ∃ v l a', e = .returned v ∧ CI w0 w w' g zs a' v l ∧ l.length ≤ 23 ∧ a ≤ a' ∧ a' ≤ a + 200 ∧ (∀ z ∈ l, -100000 ≤ z ∧ z ≤ 100000) := by
  have HC := Lib.hid (ci_made w0 w g a zs h)
  clear h
  go_enter Try.func84, Try.ntmps84
  go_wp2_with fail
  refine (pick_any w0 _ g a zs hn (by omega) HC.out.cur 9 (by omega) (by omega)).mono ?_
  rintro e w1 ⟨x, a1, hx, ha1, ha2, rfl, hc1, hg1⟩
  have HC1 := Lib.hid (HC.out.grown hc1 hg1)
  clear hc1 hg1 HC
  have hx9 : x ≤ 23 := by omega
  go_wp2_with fail
  refine (one_any w0 _ g a1 zs hn (by omega) HC1.out.cur 6 (by omega) (by omega)).mono ?_
  rintro e w2 ⟨bb, a2, ha3, ha4, rfl, hc2, hg2⟩
  have HC2 := Lib.hid (HC1.out.grown hc2 hg2)
  clear hc2 hg2 HC1 hx
  cases bb with
  | true =>
    go_wp2_with fail
    refine (pick_any w0 _ g a2 zs hn (by omega) HC2.out.cur 24 (by omega) (by omega)).mono ?_
    rintro e w3 ⟨y, a3, hy, ha5, ha6, rfl, hc3, hg3⟩
    have HC3 := Lib.hid (HC2.out.grown hc3 hg3)
    clear hc3 hg3 HC2
    have hy23 : y ≤ 23 := by omega
    have hA : a ≤ a3 ∧ a3 ≤ a + 6 := by omega
    clear hx9 ha1 ha2 ha3 ha4 ha5 ha6 hy
    go_wp2
    go_loopg [3, 4] 40 (fun f v i wr => ∃ (x a3 : Nat) (l : List Int), x < f ∧ x ≤ 23 ∧ l.length + x ≤ 23 ∧ a ≤ a3 ∧ a3 + 4 * x ≤ a + 6 + 92 ∧ i = .int .i64 (x : Int) ∧ CI w0 w wr g zs a3 v l ∧ (∀ z ∈ l, -100000 ≤ z ∧ z ≤ 100000))
    case atStart => exact ⟨y, a3, [], by omega, by omega, by simp; omega, by omega, by omega, rfl, HC3.out, by simp⟩
    case round =>
      obtain ⟨x, a3, l, hxf, hx23, hl, ha3, ha3b, rfl, hcr, hvl⟩ := hrel
      have HVL := Lib.hid hvl
      clear hvl
      have HCR := Lib.hid hcr
      clear hcr HC3
      by_cases hpos : 0 < x
      · have q1 : (0 : Int) < (x : Int) := by omega
        go_wp2_with fail
        refine (one_any w0 _ g a3 zs hn (by omega) HCR.out.cur 8 (by omega) (by omega)).mono ?_
        rintro e w4 ⟨b4, a4, ha4, ha4b, rfl, hc4, hg4⟩
        have HC4 := Lib.hid (HCR.out.grown hc4 hg4)
        clear hc4 hg4 HCR
        cases b4 with
        | true =>
          have HC5 := Lib.hid (HC4.out.alloc (.cells (ints [100000, -100000, 999, -5]).toArray 3))
          have HLT := Lib.hid (Nat.lt_of_lt_of_le HC4.out.lt HC4.out.size)
          have HPL := Lib.hid (fun (W' : World) (hg : (w4.alloc (.cells (ints [100000, -100000, 999, -5]).toArray 3)).grownBy W' (some g)) => pool w4 [100000, -100000, 999, -5] hg HLT.out)
          go_wp2_with fail
          refine (among_any w0 _ g a4 zs hn (by omega) HC5.out.cur (some ⟨w4.heap.size, 0, none⟩) 4 [100000, -100000, 999, -5] (by simp) (by simp) HPL.out).mono ?_
          rintro e w5 ⟨y5, a5, hy5, ha5, ha5b, rfl, hc5, hg5⟩
          have HV2 := Lib.hid (val_app HVL.out (val_pool hy5))
          clear hy5
          have HC6 := Lib.hid (HC5.out.grown hc5 hg5)
          clear hc5 hg5 HC5 HC4 HPL
          have ho := HC6.out.own
          have hs := HC6.out.size
          have hb : l.length ≤ 1099511627776 := by omega
          go_wp2_with (at_builtin; refine mem.push _ rfl _ _ 24 rfl w.heap.size 3 _ 1 8 Try.underlying24 mem.info_int rfl Nat.one_pos _ _ _ rfl ho [.int .i64 (y5)] _ rfl (mem.ints_one [y5]) rfl hb (by decide) hs ?_; intro v' w' ho' hg')
          have HC7 := Lib.hid (HC6.out.push ho' hg')
          clear ho' hg' ho HC6
          go_wp2
          go_roundg (gk - 1)
          case measure => omega
          case rel => exact ⟨x - 1, a5, l ++ [y5], by omega, by omega, by simp; omega, by omega, by omega, by go_num, HC7.out, HV2.out⟩
        | false =>
          go_wp2_with fail
          refine (pick_any w0 _ g a4 zs hn (by omega) HC4.out.cur 7 (by omega) (by omega)).mono ?_
          rintro e w5 ⟨y5, a5, hy5, ha5, ha5b, rfl, hc5, hg5⟩
          have HV2 := Lib.hid (val_app (x := (y5 : Int)) HVL.out (by omega))
          clear hy5
          have HC6 := Lib.hid (HC4.out.grown hc5 hg5)
          clear hc5 hg5 HC4
          have ho := HC6.out.own
          have hs := HC6.out.size
          have hb : l.length ≤ 1099511627776 := by omega
          go_wp2_with (at_builtin; refine mem.push _ rfl _ _ 24 rfl w.heap.size 3 _ 1 8 Try.underlying24 mem.info_int rfl Nat.one_pos _ _ _ rfl ho [.int .i64 ((y5 : Int))] _ rfl (mem.ints_one [(y5 : Int)]) rfl hb (by decide) hs ?_; intro v' w' ho' hg')
          have HC7 := Lib.hid (HC6.out.push ho' hg')
          clear ho' hg' ho HC6
          go_wp2
          go_roundg (gk - 1)
          case measure => omega
          case rel => exact ⟨x - 1, a5, l ++ [(y5 : Int)], by omega, by omega, by simp; omega, by omega, by omega, by go_num, HC7.out, HV2.out⟩
      · have q1 : ¬ (0 : Int) < (x : Int) := by omega
        go_wp2
        go_ret
        first | exact ⟨_, rfl, l, a3, HCR.out, by omega, by omega, by omega, HVL.out⟩ | exact ⟨_, l, a3, rfl, HCR.out, by omega, by omega, by omega, HVL.out⟩
  | false =>
    have hA : a ≤ a2 ∧ a2 ≤ a + 6 := by omega
    clear ha1 ha2 ha3 ha4
    go_wp2
    go_loopg [3, 4] 40 (fun f v i wr => ∃ (x a3 : Nat) (l : List Int), x < f ∧ x ≤ 23 ∧ l.length + x ≤ 23 ∧ a ≤ a3 ∧ a3 + 4 * x ≤ a + 6 + 92 ∧ i = .int .i64 (x : Int) ∧ CI w0 w wr g zs a3 v l ∧ (∀ z ∈ l, -100000 ≤ z ∧ z ≤ 100000))
    case atStart => exact ⟨x, a2, [], by omega, by omega, by simp; omega, by omega, by omega, rfl, HC2.out, by simp⟩
    case round =>
      obtain ⟨x, a3, l, hxf, hx23, hl, ha3, ha3b, rfl, hcr, hvl⟩ := hrel
      have HVL := Lib.hid hvl
      clear hvl
      have HCR := Lib.hid hcr
      clear hcr HC2
      by_cases hpos : 0 < x
      · have q1 : (0 : Int) < (x : Int) := by omega
        go_wp2_with fail
        refine (one_any w0 _ g a3 zs hn (by omega) HCR.out.cur 8 (by omega) (by omega)).mono ?_
        rintro e w4 ⟨b4, a4, ha4, ha4b, rfl, hc4, hg4⟩
        have HC4 := Lib.hid (HCR.out.grown hc4 hg4)
        clear hc4 hg4 HCR
        cases b4 with
        | true =>
          have HC5 := Lib.hid (HC4.out.alloc (.cells (ints [100000, -100000, 999, -5]).toArray 3))
          have HLT := Lib.hid (Nat.lt_of_lt_of_le HC4.out.lt HC4.out.size)
          have HPL := Lib.hid (fun (W' : World) (hg : (w4.alloc (.cells (ints [100000, -100000, 999, -5]).toArray 3)).grownBy W' (some g)) => pool w4 [100000, -100000, 999, -5] hg HLT.out)
          go_wp2_with fail
          refine (among_any w0 _ g a4 zs hn (by omega) HC5.out.cur (some ⟨w4.heap.size, 0, none⟩) 4 [100000, -100000, 999, -5] (by simp) (by simp) HPL.out).mono ?_
          rintro e w5 ⟨y5, a5, hy5, ha5, ha5b, rfl, hc5, hg5⟩
          have HV2 := Lib.hid (val_app HVL.out (val_pool hy5))
          clear hy5
          have HC6 := Lib.hid (HC5.out.grown hc5 hg5)
          clear hc5 hg5 HC5 HC4 HPL
          have ho := HC6.out.own
          have hs := HC6.out.size
          have hb : l.length ≤ 1099511627776 := by omega
          go_wp2_with (at_builtin; refine mem.push _ rfl _ _ 24 rfl w.heap.size 3 _ 1 8 Try.underlying24 mem.info_int rfl Nat.one_pos _ _ _ rfl ho [.int .i64 (y5)] _ rfl (mem.ints_one [y5]) rfl hb (by decide) hs ?_; intro v' w' ho' hg')
          have HC7 := Lib.hid (HC6.out.push ho' hg')
          clear ho' hg' ho HC6
          go_wp2
          go_roundg (gk - 1)
          case measure => omega
          case rel => exact ⟨x - 1, a5, l ++ [y5], by omega, by omega, by simp; omega, by omega, by omega, by go_num, HC7.out, HV2.out⟩
        | false =>
          go_wp2_with fail
          refine (pick_any w0 _ g a4 zs hn (by omega) HC4.out.cur 7 (by omega) (by omega)).mono ?_
          rintro e w5 ⟨y5, a5, hy5, ha5, ha5b, rfl, hc5, hg5⟩
          have HV2 := Lib.hid (val_app (x := (y5 : Int)) HVL.out (by omega))
          clear hy5
          have HC6 := Lib.hid (HC4.out.grown hc5 hg5)
          clear hc5 hg5 HC4
          have ho := HC6.out.own
          have hs := HC6.out.size
          have hb : l.length ≤ 1099511627776 := by omega
          go_wp2_with (at_builtin; refine mem.push _ rfl _ _ 24 rfl w.heap.size 3 _ 1 8 Try.underlying24 mem.info_int rfl Nat.one_pos _ _ _ rfl ho [.int .i64 ((y5 : Int))] _ rfl (mem.ints_one [(y5 : Int)]) rfl hb (by decide) hs ?_; intro v' w' ho' hg')
          have HC7 := Lib.hid (HC6.out.push ho' hg')
          clear ho' hg' ho HC6
          go_wp2
          go_roundg (gk - 1)
          case measure => omega
          case rel => exact ⟨x - 1, a5, l ++ [(y5 : Int)], by omega, by omega, by simp; omega, by omega, by omega, by go_num, HC7.out, HV2.out⟩
      · have q1 : ¬ (0 : Int) < (x : Int) := by omega
        go_wp2
        go_ret
        first | exact ⟨_, rfl, l, a3, HCR.out, by omega, by omega, by omega, HVL.out⟩ | exact ⟨_, l, a3, rfl, HCR.out, by omega, by omega, by omega, HVL.out⟩
end Go.Proofs.Ytlckeefjhafloaa.drw
