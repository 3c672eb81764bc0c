/- The draws of lists of integers. Condition: a code of at most 2^20 bytes. -/
import Derived.Test.YtgngoedooemboaaDrwJob
set_option linter.unusedVariables false
set_option linter.unusedSimpArgs false
namespace Go.Proofs.Ytgngoedooemboaa.drw
open Go.RowKit Go.Proofs.Ytgngoedooemboaa.mem Go.Proofs.Ytgngoedooemboaa.cur

theorem grown_above {a b c : World} {g : Nat} {row : Option Nat} (h : a.grownBy b (some g)) (k : b.grownBy c row) (hr : ∀ x, row = some x → a.heap.size ≤ x) : a.grownBy c (some g) :=
  ⟨k.os.trans h.os, k.tape.trans h.tape, k.output.trans h.output, Nat.le_trans h.size k.size, fun x hx hne => (k.block x (Nat.lt_of_lt_of_le hx h.size) (fun e => by have := hr x e.symm; omega)).trans (h.block x hx hne)⟩
/-- a cursor and a row of the call's own that grows beside it, since the world w1 -/
structure CI (w0 w1 w : World) (g : Nat) (zs : List Int) (a : Nat) (v : Value) (l : List Int) : Prop where
  cur : Cur w0 w g zs a
  own : w.ownsRow w1.heap.size 3 1 v l.length (ints l)
  gr : w1.grownBy w (some g)
  lt : g < w1.heap.size
section
variable {w0 w1 w w' : World} {g a a' : Nat} {zs l : List Int} {v v' : Value}
theorem CI.grown (h : CI w0 w1 w g zs a v l) (hc : Cur w0 w' g zs a') (hg : w.grownBy w' (some g)) : CI w0 w1 w' g zs a' v l := by
  refine ⟨hc, h.own.kept hg ?_, Cur.then_grown h.gr hg, h.lt⟩
  cases hk : v.ownBlock with
  | none => exact Or.inl rfl
  | some k =>
    right; intro e
    injection e with e
    have := (h.own.lt k hk).1
    have := h.lt
    omega
theorem CI.push {x : Int} (h : CI w0 w1 w g zs a v l) (ho : w'.ownsRow w1.heap.size 3 1 v' (l.length + 1) (ints l ++ ints [x])) (hg : w.grownBy w' v.ownBlock) : CI w0 w1 w' g zs a v' (l ++ [x]) :=
  ⟨h.cur.grown hg (fun k hk => by have := (h.own.lt k hk).1; have := h.lt; have := h.cur.hi; omega), by rw [List.length_append, List.length_singleton, ints_app]; exact ho, grown_above h.gr hg (fun k hk => (h.own.lt k hk).1), h.lt⟩
theorem CI.alloc (h : CI w0 w1 w g zs a v l) (o : Obj) : CI w0 w1 (w.alloc o) g zs a v l :=
  ⟨h.cur.below ((Below.refl _ _).alloc (Nat.le_refl _) o), own_below h.own ((Below.refl _ _).alloc (Nat.le_refl _) o), Cur.then_grown h.gr (World.grownBy_alloc w o (some g)), h.lt⟩
theorem CI.size (h : CI w0 w1 w g zs a v l) : w1.heap.size ≤ w.heap.size := h.gr.size
end
theorem ci_made (w0 w1 : World) (g a : Nat) (zs : List Int) (h : Cur w0 w1 g zs a) : CI w0 w1 (w1.alloc (.cells #[] 3)) g zs a (.slice (some ⟨w1.heap.size, 0, none⟩) 0 0) [] :=
  ⟨h.below ((Below.refl _ _).alloc (Nat.le_refl _) _), World.ownsRow_made (base := w1.heap.size) (e := 3) (size := 1) w1 #[] 0 (Nat.le_refl _) (Nat.zero_le _) (by simp), World.grownBy_alloc w1 _ (some g), h.lt⟩
/-- a list of choices, laid in a new block -/
theorem pool (w : World) (l : List Int) {W' : World} {g : Nat} (hg : (w.alloc (.cells (ints l).toArray 3)).grownBy W' (some g)) (hne : g < w.heap.size) : Rd W' 1 (some ⟨w.heap.size, 0, none⟩) l.length (ints l) := by
  have h1 := (Blk.new w 3 (ints l).toArray).grown hg (fun e => by injection e with e; omega)
  exact h1.rd (by rw [len_ints, Nat.mul_one]) (by rw [Nat.mul_one]; exact List.take_of_length_le (by simp [len_ints]))
set_option maxRecDepth 100000 in
set_option maxHeartbeats 4000000 in
theorem ints_any (w0 w : World) (g a : Nat) (zs : List Int) (hn : zs.length ≤ 1048576) (ha : a ≤ 1099511620000) (h : Cur w0 w g zs a) :
    Calls Try.prog 112 #[.pointer (some ⟨g, 0, none⟩)] w fun e w' => ∃ v l a', e = .returned v ∧ CI w0 w w' g zs a' v l ∧ l.length ≤ 23 ∧ a ≤ a' ∧ a' ≤ a + 200 := by
  have HC := Lib.hid (ci_made w0 w g a zs h)
  clear h
  go_enter Try.func112, Try.ntmps112
  go_wp2_with fail
  refine (pick_any w0 _ g a zs hn (by omega) HC.out.cur 9 (by omega) (by omega)).mono ?_
  rintro e w1 ⟨x, a1, hx, ha1, ha2, rfl, hc1, hg1⟩
  have HC1 := Lib.hid (HC.out.grown hc1 hg1)
  clear hc1 hg1 HC
  have hx9 : x ≤ 23 := by omega
  go_wp2_with fail
  refine (one_any w0 _ g a1 zs hn (by omega) HC1.out.cur 6 (by omega) (by omega)).mono ?_
  rintro e w2 ⟨bb, a2, ha3, ha4, rfl, hc2, hg2⟩
  have HC2 := Lib.hid (HC1.out.grown hc2 hg2)
  clear hc2 hg2 HC1 hx
  cases bb with
  | true =>
    go_wp2_with fail
    refine (pick_any w0 _ g a2 zs hn (by omega) HC2.out.cur 24 (by omega) (by omega)).mono ?_
    rintro e w3 ⟨y, a3, hy, ha5, ha6, rfl, hc3, hg3⟩
    have HC3 := Lib.hid (HC2.out.grown hc3 hg3)
    clear hc3 hg3 HC2
    have hy23 : y ≤ 23 := by omega
    have hA : a ≤ a3 ∧ a3 ≤ a + 6 := by omega
    clear hx9 ha1 ha2 ha3 ha4 ha5 ha6 hy
    go_wp2
    go_loopg [3, 4] 40 (fun f v i wr => ∃ (x a3 : Nat) (l : List Int), x < f ∧ x ≤ 23 ∧ l.length + x ≤ 23 ∧ a ≤ a3 ∧ a3 + 4 * x ≤ a + 6 + 92 ∧ i = .int .i64 (x : Int) ∧ CI w0 w wr g zs a3 v l)
    case atStart => exact ⟨y, a3, [], by omega, by omega, by simp; omega, by omega, by omega, rfl, HC3.out⟩
    case round =>
      obtain ⟨x, a3, l, hxf, hx23, hl, ha3, ha3b, rfl, hcr⟩ := hrel
      have HCR := Lib.hid hcr
      clear hcr HC3
      by_cases hpos : 0 < x
      · have q1 : (0 : Int) < (x : Int) := by omega
        go_wp2_with fail
        refine (one_any w0 _ g a3 zs hn (by omega) HCR.out.cur 8 (by omega) (by omega)).mono ?_
        rintro e w4 ⟨b4, a4, ha4, ha4b, rfl, hc4, hg4⟩
        have HC4 := Lib.hid (HCR.out.grown hc4 hg4)
        clear hc4 hg4 HCR
        cases b4 with
        | true =>
          have HC5 := Lib.hid (HC4.out.alloc (.cells (ints [100000, -100000, 999, -5]).toArray 3))
          have HLT := Lib.hid (Nat.lt_of_lt_of_le HC4.out.lt HC4.out.size)
          have HPL := Lib.hid (fun (W' : World) (hg : (w4.alloc (.cells (ints [100000, -100000, 999, -5]).toArray 3)).grownBy W' (some g)) => pool w4 [100000, -100000, 999, -5] hg HLT.out)
          go_wp2_with fail
          refine (among_any w0 _ g a4 zs hn (by omega) HC5.out.cur (some ⟨w4.heap.size, 0, none⟩) 4 [100000, -100000, 999, -5] (by simp) (by simp) HPL.out).mono ?_
          rintro e w5 ⟨y5, a5, _, ha5, ha5b, rfl, hc5, hg5⟩
          have HC6 := Lib.hid (HC5.out.grown hc5 hg5)
          clear hc5 hg5 HC5 HC4 HPL
          have ho := HC6.out.own
          have hs := HC6.out.size
          have hb : l.length ≤ 1099511627776 := by omega
          go_wp2_with (at_builtin; refine mem.push _ rfl _ _ 29 rfl w.heap.size 3 _ 1 8 Try.underlying29 mem.info_int rfl Nat.one_pos _ _ _ rfl ho [.int .i64 (y5)] _ rfl (mem.ints_one [y5]) rfl hb (by decide) hs ?_; intro v' w' ho' hg')
          have HC7 := Lib.hid (HC6.out.push ho' hg')
          clear ho' hg' ho HC6
          go_wp2
          go_roundg (gk - 1)
          case measure => omega
          case rel => exact ⟨x - 1, a5, l ++ [y5], by omega, by omega, by simp; omega, by omega, by omega, by go_num, HC7.out⟩
        | false =>
          go_wp2_with fail
          refine (pick_any w0 _ g a4 zs hn (by omega) HC4.out.cur 7 (by omega) (by omega)).mono ?_
          rintro e w5 ⟨y5, a5, _, ha5, ha5b, rfl, hc5, hg5⟩
          have HC6 := Lib.hid (HC4.out.grown hc5 hg5)
          clear hc5 hg5 HC4
          have ho := HC6.out.own
          have hs := HC6.out.size
          have hb : l.length ≤ 1099511627776 := by omega
          go_wp2_with (at_builtin; refine mem.push _ rfl _ _ 29 rfl w.heap.size 3 _ 1 8 Try.underlying29 mem.info_int rfl Nat.one_pos _ _ _ rfl ho [.int .i64 ((y5 : Int))] _ rfl (mem.ints_one [(y5 : Int)]) rfl hb (by decide) hs ?_; intro v' w' ho' hg')
          have HC7 := Lib.hid (HC6.out.push ho' hg')
          clear ho' hg' ho HC6
          go_wp2
          go_roundg (gk - 1)
          case measure => omega
          case rel => exact ⟨x - 1, a5, l ++ [(y5 : Int)], by omega, by omega, by simp; omega, by omega, by omega, by go_num, HC7.out⟩
      · have q1 : ¬ (0 : Int) < (x : Int) := by omega
        go_wp2
        go_ret
        first | exact ⟨_, rfl, l, a3, HCR.out, by omega, by omega, by omega⟩ | exact ⟨_, l, a3, rfl, HCR.out, by omega, by omega, by omega⟩
  | false =>
    have hA : a ≤ a2 ∧ a2 ≤ a + 6 := by omega
    clear ha1 ha2 ha3 ha4
    go_wp2
    go_loopg [3, 4] 40 (fun f v i wr => ∃ (x a3 : Nat) (l : List Int), x < f ∧ x ≤ 23 ∧ l.length + x ≤ 23 ∧ a ≤ a3 ∧ a3 + 4 * x ≤ a + 6 + 92 ∧ i = .int .i64 (x : Int) ∧ CI w0 w wr g zs a3 v l)
    case atStart => exact ⟨x, a2, [], by omega, by omega, by simp; omega, by omega, by omega, rfl, HC2.out⟩
    case round =>
      obtain ⟨x, a3, l, hxf, hx23, hl, ha3, ha3b, rfl, hcr⟩ := hrel
      have HCR := Lib.hid hcr
      clear hcr HC2
      by_cases hpos : 0 < x
      · have q1 : (0 : Int) < (x : Int) := by omega
        go_wp2_with fail
        refine (one_any w0 _ g a3 zs hn (by omega) HCR.out.cur 8 (by omega) (by omega)).mono ?_
        rintro e w4 ⟨b4, a4, ha4, ha4b, rfl, hc4, hg4⟩
        have HC4 := Lib.hid (HCR.out.grown hc4 hg4)
        clear hc4 hg4 HCR
        cases b4 with
        | true =>
          have HC5 := Lib.hid (HC4.out.alloc (.cells (ints [100000, -100000, 999, -5]).toArray 3))
          have HLT := Lib.hid (Nat.lt_of_lt_of_le HC4.out.lt HC4.out.size)
          have HPL := Lib.hid (fun (W' : World) (hg : (w4.alloc (.cells (ints [100000, -100000, 999, -5]).toArray 3)).grownBy W' (some g)) => pool w4 [100000, -100000, 999, -5] hg HLT.out)
          go_wp2_with fail
          refine (among_any w0 _ g a4 zs hn (by omega) HC5.out.cur (some ⟨w4.heap.size, 0, none⟩) 4 [100000, -100000, 999, -5] (by simp) (by simp) HPL.out).mono ?_
          rintro e w5 ⟨y5, a5, _, ha5, ha5b, rfl, hc5, hg5⟩
          have HC6 := Lib.hid (HC5.out.grown hc5 hg5)
          clear hc5 hg5 HC5 HC4 HPL
          have ho := HC6.out.own
          have hs := HC6.out.size
          have hb : l.length ≤ 1099511627776 := by omega
          go_wp2_with (at_builtin; refine mem.push _ rfl _ _ 29 rfl w.heap.size 3 _ 1 8 Try.underlying29 mem.info_int rfl Nat.one_pos _ _ _ rfl ho [.int .i64 (y5)] _ rfl (mem.ints_one [y5]) rfl hb (by decide) hs ?_; intro v' w' ho' hg')
          have HC7 := Lib.hid (HC6.out.push ho' hg')
          clear ho' hg' ho HC6
          go_wp2
          go_roundg (gk - 1)
          case measure => omega
          case rel => exact ⟨x - 1, a5, l ++ [y5], by omega, by omega, by simp; omega, by omega, by omega, by go_num, HC7.out⟩
        | false =>
          go_wp2_with fail
          refine (pick_any w0 _ g a4 zs hn (by omega) HC4.out.cur 7 (by omega) (by omega)).mono ?_
          rintro e w5 ⟨y5, a5, _, ha5, ha5b, rfl, hc5, hg5⟩
          have HC6 := Lib.hid (HC4.out.grown hc5 hg5)
          clear hc5 hg5 HC4
          have ho := HC6.out.own
          have hs := HC6.out.size
          have hb : l.length ≤ 1099511627776 := by omega
          go_wp2_with (at_builtin; refine mem.push _ rfl _ _ 29 rfl w.heap.size 3 _ 1 8 Try.underlying29 mem.info_int rfl Nat.one_pos _ _ _ rfl ho [.int .i64 ((y5 : Int))] _ rfl (mem.ints_one [(y5 : Int)]) rfl hb (by decide) hs ?_; intro v' w' ho' hg')
          have HC7 := Lib.hid (HC6.out.push ho' hg')
          clear ho' hg' ho HC6
          go_wp2
          go_roundg (gk - 1)
          case measure => omega
          case rel => exact ⟨x - 1, a5, l ++ [(y5 : Int)], by omega, by omega, by simp; omega, by omega, by omega, by go_num, HC7.out⟩
      · have q1 : ¬ (0 : Int) < (x : Int) := by omega
        go_wp2
        go_ret
        first | exact ⟨_, rfl, l, a3, HCR.out, by omega, by omega, by omega⟩ | exact ⟨_, l, a3, rfl, HCR.out, by omega, by omega, by omega⟩
set_option maxRecDepth 100000 in
set_option maxHeartbeats 4000000 in
theorem anyInts_any (w0 w : World) (g a : Nat) (zs : List Int) (hn : zs.length ≤ 1048576) (ha : a ≤ 1099511610000) (h : Cur w0 w g zs a) :
    Calls Try.prog 85 #[.pointer (some ⟨g, 0, none⟩)] w fun e w' => ∃ v l a', e = .returned v ∧ CI w0 w w' g zs a' v l ∧ l.length ≤ 70 ∧ a ≤ a' ∧ a' ≤ a + 1000 := by
  go_enter Try.func85, Try.ntmps85
  go_wp2_with fail
  refine (ints_any w0 w g a zs hn (by omega) h).mono ?_
  rintro e w1 ⟨v1, l1, a1, rfl, hci, hl1, ha1, ha2⟩
  have HC1 := Lib.hid hci
  clear hci h
  go_wp2_with fail
  refine (pick_any w0 _ g a1 zs hn (by omega) HC1.out.cur 24 (by omega) (by omega)).mono ?_
  rintro e w2 ⟨y, a2, _, ha3, ha4, rfl, hc2, hg2⟩
  have HC2 := Lib.hid (HC1.out.grown hc2 hg2)
  clear hc2 hg2 HC1
  have hA : a ≤ a2 ∧ a2 ≤ a + 202 := by omega
  clear ha1 ha2 ha3 ha4
  by_cases hy0 : y = 0
  · subst hy0
    have HC3 := Lib.hid (HC2.out.alloc (.cells (ints [100001, -100001, 1099511627776]).toArray 3))
    have HLT := Lib.hid (Nat.lt_of_lt_of_le HC2.out.lt HC2.out.size)
    have HPL := Lib.hid (fun (W' : World) (hg : (w2.alloc (.cells (ints [100001, -100001, 1099511627776]).toArray 3)).grownBy W' (some g)) => pool w2 [100001, -100001, 1099511627776] hg HLT.out)
    go_wp2_with fail
    refine (among_any w0 _ g a2 zs hn (by omega) HC3.out.cur (some ⟨w2.heap.size, 0, none⟩) 3 [100001, -100001, 1099511627776] (by simp) (by simp) HPL.out).mono ?_
    rintro e w5 ⟨y5, a6, _, ha6, ha7, rfl, hc5, hg5⟩
    have HC5 := Lib.hid (HC3.out.grown hc5 hg5)
    clear hc5 hg5 HC3 HC2 HPL
    have ho := HC5.out.own
    have hs := HC5.out.size
    have hb : l1.length ≤ 1099511627776 := by omega
    go_wp2_with (at_builtin; refine mem.push _ rfl _ _ 29 rfl w.heap.size 3 _ 1 8 Try.underlying29 mem.info_int rfl Nat.one_pos _ _ _ rfl ho [.int .i64 (y5)] _ rfl (mem.ints_one [y5]) rfl hb (by decide) hs ?_; intro v' w' ho' hg')
    have HC6 := Lib.hid (HC5.out.push ho' hg')
    clear ho' hg' ho HC5
    go_wp2
    go_ret
    exact ⟨_, _, a6, rfl, HC6.out, by simp; omega, by omega, by omega⟩
  · have q0 : ((y : Int) == 0) = false := by simp; omega
    have q00 : ¬ (y : Int) = 0 := by omega
    have q000 : (y == 0) = false := by simpa using hy0
    by_cases hy1 : y = 1
    · subst hy1
      go_wp2
      go_loopg [3] 70 (fun f v wr => ∃ (a3 : Nat) (l : List Int), 66 ≤ l.length + f ∧ l.length ≤ 65 ∧ a ≤ a3 ∧ a3 ≤ a + 210 + 4 * l.length ∧ CI w0 w wr g zs a3 v l)
      case atStart => exact ⟨a2, l1, by omega, by omega, by omega, by omega, HC2.out⟩
      case round =>
        obtain ⟨a3, l3, hf3, hl3, ha3, ha3b, hcr3⟩ := hrel
        have HC3 := Lib.hid hcr3
        clear hcr3 HC2
        obtain ⟨A3, c3, rfl, _, _, _⟩ := own_form HC3.out.own
        go_wp2_with fail
        refine (pick_any w0 _ g a3 zs hn (by omega) HC3.out.cur 2 (by omega) (by omega)).mono ?_
        rintro e w4 ⟨z, a4, hz2, ha4, ha5, rfl, hc4, hg4⟩
        have HC4 := Lib.hid (HC3.out.grown hc4 hg4)
        clear hc4 hg4 HC3
        have hz1 : z ≤ 1 := by omega
        have r1 : IntKind.i64.wrap (64 + (z : Int)) = 64 + (z : Int) := IntWalk.i64_in _ (by omega)
        by_cases hlt : (l3.length : Int) < 64 + (z : Int)
        · go_wp2_with fail
          refine (pick_any w0 _ g a4 zs hn (by omega) HC4.out.cur 5 (by omega) (by omega)).mono ?_
          rintro e w5 ⟨y5, a6, _, ha6, ha7, rfl, hc5, hg5⟩
          have HC5 := Lib.hid (HC4.out.grown hc5 hg5)
          clear hc5 hg5 HC4
          have ho := HC5.out.own
          have hs := HC5.out.size
          have hb : l3.length ≤ 1099511627776 := by omega
          go_wp2_with (at_builtin; refine mem.push _ rfl _ _ 29 rfl w.heap.size 3 _ 1 8 Try.underlying29 mem.info_int rfl Nat.one_pos _ _ _ rfl ho [.int .i64 ((y5 : Int))] _ rfl (mem.ints_one [(y5 : Int)]) rfl hb (by decide) hs ?_; intro v' w' ho' hg')
          have HC6 := Lib.hid (HC5.out.push ho' hg')
          clear ho' hg' ho HC5
          go_wp2
          go_roundg (gk - 1)
          case measure => omega
          case rel => exact ⟨a6, l3 ++ [(y5 : Int)], by simp; omega, by simp; omega, by omega, by simp; omega, HC6.out⟩
        · go_wp2
          go_ret
          exact ⟨_, l3, a4, rfl, HC4.out, by omega, by omega, by omega⟩
    · have q1 : ((y : Int) == 1) = false := by simp; omega
      have q10 : ¬ (y : Int) = 1 := by omega
      have q100 : (y == 1) = false := by simpa using hy1
      go_wp2
      go_ret
      exact ⟨_, l1, a2, rfl, HC2.out, by omega, by omega, by omega⟩
end Go.Proofs.Ytgngoedooemboaa.drw
