/- The draws of two lists. Condition: a code of at most 2^20 bytes. -/
import Derived.Test.YtfjmpplpagmpbaaDrwInts
import Derived.Test.YtfjmpplpagmpbaaMemAt
import Derived.Test.YtfjmpplpagmpbaaSortI
set_option linter.unusedVariables false
set_option linter.unusedSimpArgs false
namespace Go.Proofs.Ytfjmpplpagmpbaa.drw
open Go.RowKit Go.Proofs.Ytfjmpplpagmpbaa.mem Go.Proofs.Ytfjmpplpagmpbaa.cur

theorem apt_sym {x y : Value} (h : x.ownBlock = none ∨ x.ownBlock ≠ y.ownBlock) : y.ownBlock = none ∨ y.ownBlock ≠ x.ownBlock := by
  rcases h with h | h
  · rw [h]; cases y.ownBlock <;> simp
  · exact Or.inr (Ne.symm h)
/-- a cursor and two rows of the call's own beside it, since the world w1 -/
structure C2 (w0 w1 w : World) (g : Nat) (zs : List Int) (a : Nat) (va : Value) (la : List Int) (vb : Value) (lb : List Int) : Prop where
  cur : Cur w0 w g zs a
  oa : w.ownsRow w1.heap.size 3 1 va la.length (ints la)
  ob : w.ownsRow w1.heap.size 3 1 vb lb.length (ints lb)
  ap : va.ownBlock = none ∨ va.ownBlock ≠ vb.ownBlock
  gr : w1.grownBy w (some g)
  lt : g < w1.heap.size
section
variable {w0 w1 w2 w w' : World} {g a a' : Nat} {zs la lb : List Int} {va vb v' : Value}
theorem not_cur {v : Value} {e : TypeId} {n : Nat} {xs : List Value} (h : w.ownsRow w1.heap.size e 1 v n xs) (hl : g < w1.heap.size) : v.ownBlock = none ∨ v.ownBlock ≠ some g := by
  cases hk : v.ownBlock with
  | none => exact Or.inl rfl
  | some k =>
    right; intro e
    injection e with e
    have := (h.lt k hk).1
    omega
theorem C2.grown (h : C2 w0 w1 w g zs a va la vb lb) (hc : Cur w0 w' g zs a') (hg : w.grownBy w' (some g)) : C2 w0 w1 w' g zs a' va la vb lb :=
  ⟨hc, h.oa.kept hg (not_cur h.oa h.lt), h.ob.kept hg (not_cur h.ob h.lt), h.ap, Cur.then_grown h.gr hg, h.lt⟩
theorem C2.push_a {x : Int} (h : C2 w0 w1 w g zs a va la vb lb) (ho : w'.ownsRow w1.heap.size 3 1 v' (la.length + 1) (ints la ++ ints [x])) (hg : w.grownBy w' va.ownBlock) (hn : NewAt w va v') : C2 w0 w1 w' g zs a v' (la ++ [x]) vb lb :=
  ⟨h.cur.grown hg (fun k hk => by have := (h.oa.lt k hk).1; have := h.lt; have := h.cur.hi; omega), by rw [List.length_append, List.length_singleton, ints_app]; exact ho, h.ob.kept hg (apt_sym h.ap), apt_new h.ap hn (fun k hk => (h.ob.lt k hk).2), grown_above h.gr hg (fun k hk => (h.oa.lt k hk).1), h.lt⟩
theorem C2.push_b {x : Int} (h : C2 w0 w1 w g zs a va la vb lb) (ho : w'.ownsRow w1.heap.size 3 1 v' (lb.length + 1) (ints lb ++ ints [x])) (hg : w.grownBy w' vb.ownBlock) (hn : NewAt w vb v') : C2 w0 w1 w' g zs a va la v' (lb ++ [x]) :=
  ⟨h.cur.grown hg (fun k hk => by have := (h.ob.lt k hk).1; have := h.lt; have := h.cur.hi; omega), h.oa.kept hg h.ap, by rw [List.length_append, List.length_singleton, ints_app]; exact ho, apt_sym (apt_new (apt_sym h.ap) hn (fun k hk => (h.oa.lt k hk).2)), grown_above h.gr hg (fun k hk => (h.ob.lt k hk).1), h.lt⟩
theorem C2.size (h : C2 w0 w1 w g zs a va la vb lb) : w1.heap.size ≤ w.heap.size := h.gr.size
theorem c2_of (h1 : CI w0 w1 w2 g zs a va la) (h2 : CI w0 w2 w g zs a' vb lb) : C2 w0 w1 w g zs a' va la vb lb :=
  ⟨h2.cur, h1.own.kept h2.gr (not_cur h1.own h1.lt), own_base h2.own h1.size, sep h1.own.lt h2.own.lt (Or.inl (Nat.le_refl _)), Cur.then_grown h1.gr h2.gr, h1.lt⟩
theorem CI.swap (h : CI w0 w1 w g zs a va la) (ho : w'.ownsRow w.heap.size 3 1 v' lb.length (ints lb)) (hb : Below w.heap.size w w') : CI w0 w1 w' g zs a v' lb :=
  ⟨h.cur.below hb, own_base ho h.size, ⟨hb.os.trans h.gr.os, hb.tape.trans h.gr.tape, hb.output.trans h.gr.output, Nat.le_trans h.gr.size hb.size, fun k hk hne => (hb.block k (Nat.lt_of_lt_of_le hk h.gr.size)).trans (h.gr.block k hk hne)⟩, h.lt⟩
end
set_option maxRecDepth 100000 in
set_option maxHeartbeats 4000000 in
theorem ascending_any (w0 w : World) (g a : Nat) (zs : List Int) (hn : zs.length ≤ 1048576) (ha : a ≤ 1099511610000) (h : Cur w0 w g zs a) :
    Calls Try.prog 98 #[.pointer (some ⟨g, 0, none⟩)] w fun e w' => ∃ v l a', e = .returned v ∧ CI w0 w w' g zs a' v l ∧ l.length ≤ 23 ∧ a ≤ a' ∧ a' ≤ a + 300 := by
  go_enter Try.func98, Try.ntmps98
  go_wp2_with fail
  refine (ints_any w0 w g a zs hn (by omega) h).mono ?_
  rintro e w1 ⟨v1, l1, a1, rfl, hci, hl1, ha1, ha2⟩
  have HC1 := Lib.hid hci
  clear hci h
  go_wp2_with fail
  refine (one_any w0 _ g a1 zs hn (by omega) HC1.out.cur 20 (by omega) (by omega)).mono ?_
  rintro e w2 ⟨bb, a2, ha3, ha4, rfl, hc2, hg2⟩
  have HC2 := Lib.hid (HC1.out.grown hc2 hg2)
  clear hc2 hg2 HC1
  cases bb with
  | true =>
    go_wp2
    go_ret
    first | exact ⟨_, l1, a2, rfl, HC2.out, by omega, by omega, by omega⟩ | exact ⟨_, rfl, l1, a2, HC2.out, by omega, by omega, by omega⟩
  | false =>
    obtain ⟨A1, c1, rfl, _, _, rd⟩ := own_form HC2.out.own
    have HS := Lib.hid (srt.spec_any A1 c1 l1 w2 (by omega) rd)
    go_wp2_with fail
    with_reducible refine HS.out.mono ?_
    rintro e w3 ⟨v3, rfl, ho3, hb3⟩
    rw [← srt.srt_len l1] at ho3
    have HC3 := Lib.hid (HC2.out.swap ho3 hb3)
    have hl3 : (srt.srt l1).length ≤ 23 := by rw [srt.srt_len]; exact hl1
    clear ho3 hb3 rd HS
    go_wp2
    go_ret
    first | exact ⟨_, _, a2, rfl, HC3.out, hl3, by omega, by omega⟩ | exact ⟨_, rfl, _, a2, HC3.out, hl3, by omega, by omega⟩
set_option maxRecDepth 100000 in
set_option maxHeartbeats 4000000 in
theorem two_any (w0 w : World) (g a : Nat) (zs : List Int) (hn : zs.length ≤ 1048576) (ha : a ≤ 1099511600000) (h : Cur w0 w g zs a) :
    Calls Try.prog 91 #[.pointer (some ⟨g, 0, none⟩)] w fun e w' => ∃ va la vb lb a', e = .returned (.tuple #[va, vb]) ∧ C2 w0 w w' g zs a' va la vb lb ∧ la.length ≤ 70 ∧ lb.length ≤ 70 ∧ a ≤ a' ∧ a' ≤ a + 2000 := by
  go_enter Try.func91, Try.ntmps91
  go_wp2_with fail
  refine (ascending_any w0 w g a zs hn (by omega) h).mono ?_
  rintro e w1 ⟨va, la, a1, rfl, hci, hla, ha1, ha2⟩
  have HC1 := Lib.hid hci
  clear hci h
  go_wp2_with fail
  refine (ascending_any w0 w1 g a1 zs hn (by omega) HC1.out.cur).mono ?_
  rintro e w2 ⟨vb, lb, a2, rfl, hcj, hlb, ha3, ha4⟩
  have HC2 := Lib.hid (c2_of HC1.out hcj)
  clear hcj HC1
  go_wp2_with fail
  refine (pick_any w0 _ g a2 zs hn (by omega) HC2.out.cur 30 (by omega) (by omega)).mono ?_
  rintro e w3 ⟨y, a3, _, ha5, ha6, rfl, hc3, hg3⟩
  have HC3 := Lib.hid (HC2.out.grown hc3 hg3)
  clear hc3 hg3 HC2
  have hA : a ≤ a3 ∧ a3 ≤ a + 700 := by omega
  clear ha1 ha2 ha3 ha4 ha5 ha6
  obtain ⟨Ab, cb, rfl, _, _, _⟩ := own_form HC3.out.ob
  by_cases hy0 : y = 0
  · subst hy0
    go_wp2
    go_loopg [4] 70 (fun f v wr => ∃ (a4 : Nat) (l : List Int), 66 ≤ l.length + lb.length + f ∧ l.length + lb.length ≤ 65 ∧ a ≤ a4 ∧ a4 ≤ a + 700 + 4 * l.length ∧ C2 w0 w wr g zs a4 v l (.slice Ab lb.length cb) lb)
    case atStart => exact ⟨a3, la, by omega, by omega, by omega, by omega, HC3.out⟩
    case round =>
      obtain ⟨a4, l, hf4, hl4, ha4, ha4b, hcr4⟩ := hrel
      have HC4 := Lib.hid hcr4
      clear hcr4 HC3
      obtain ⟨A4, c4, rfl, _, _, _⟩ := own_form HC4.out.oa
      go_wp2_with fail
      refine (pick_any w0 _ g a4 zs hn (by omega) HC4.out.cur 2 (by omega) (by omega)).mono ?_
      rintro e w5 ⟨z, a5, hz2, ha5, ha6, rfl, hc5, hg5⟩
      have HC5 := Lib.hid (HC4.out.grown hc5 hg5)
      clear hc5 hg5 HC4
      have hz1 : z ≤ 1 := by omega
      have r1 : IntKind.i64.wrap (64 + (z : Int)) = 64 + (z : Int) := IntWalk.i64_in _ (by omega)
      by_cases hlt : (l.length : Int) + (lb.length : Int) < 64 + (z : Int)
      · have ho := HC5.out.oa
        have hs := HC5.out.size
        have hb : l.length ≤ 1099511627776 := by omega
        go_wp2_with (at_builtin; refine mem.push_at _ rfl _ _ 22 rfl w.heap.size 3 _ 1 8 Try.underlying22 mem.info_int rfl Nat.one_pos (.slice A4 l.length c4) _ _ rfl ho (ints [(100000 : Int)]) _ rfl (mem.ints_one [(100000 : Int)]) rfl hb (by decide) hs ?_; intro v' w' ho' hg' hnw')
        have HC6 := Lib.hid (HC5.out.push_a ho' hg' hnw')
        clear ho' hg' hnw' ho HC5
        go_wp2
        go_roundg (gk - 1)
        case measure => omega
        case rel => exact ⟨a5, l ++ [(100000 : Int)], by simp; omega, by simp; omega, by omega, by simp; omega, HC6.out⟩
      · go_wp2
        go_ret2
        first | exact ⟨_, l, _, lb, a5, rfl, HC5.out, by omega, by omega, by omega, by omega⟩ | exact ⟨_, _, a5, rfl, HC5.out, by omega, by omega, by omega, by omega⟩ | exact ⟨l, lb, a5, HC5.out, by omega, by omega, by omega, by omega⟩
  · have q0 : ((y : Int) == 0) = false := by simp; omega
    have q00 : ¬ (y : Int) = 0 := by omega
    have q000 : (y == 0) = false := by simpa using hy0
    by_cases hy1 : y = 1
    · subst hy1
      have ho := HC3.out.ob
      have hs := HC3.out.size
      have hb : lb.length ≤ 1099511627776 := by omega
      go_wp2_with (at_builtin; refine mem.push_at _ rfl _ _ 22 rfl w.heap.size 3 _ 1 8 Try.underlying22 mem.info_int rfl Nat.one_pos (.slice Ab lb.length cb) _ _ rfl ho (ints [(100001 : Int)]) _ rfl (mem.ints_one [(100001 : Int)]) rfl hb (by decide) hs ?_; intro v' w' ho' hg' hnw')
      have HC6 := Lib.hid (HC3.out.push_b ho' hg' hnw')
      clear ho' hg' hnw' ho HC3
      go_wp2
      go_ret2
      first | exact ⟨_, la, _, _, a3, rfl, HC6.out, by omega, by simp; omega, by omega, by omega⟩ | exact ⟨_, _, a3, rfl, HC6.out, by omega, by simp; omega, by omega, by omega⟩
    · have q1 : ((y : Int) == 1) = false := by simp; omega
      have q10 : ¬ (y : Int) = 1 := by omega
      have q100 : (y == 1) = false := by simpa using hy1
      go_wp2
      go_ret2
      first | exact ⟨_, la, _, lb, a3, rfl, HC3.out, by omega, by omega, by omega, by omega⟩ | exact ⟨_, _, a3, rfl, HC3.out, by omega, by omega, by omega, by omega⟩
set_option maxRecDepth 100000 in
set_option maxHeartbeats 1000000 in
theorem parts_any (A : Option Addr) (c : Nat) (zs : List Int) (W : World) (hn : zs.length ≤ 1048576) (hz : ∀ z ∈ zs, 0 ≤ z ∧ z ≤ 255) (hr : Rd W 1 A zs.length (u8s zs)) :
    Calls Try.prog 79 #[.slice A zs.length c] W fun e w' => ∃ va la vb lb k, e = .returned (.tuple #[va, vb, .int .i64 k]) ∧ w'.ownsRow W.heap.size 3 1 va la.length (ints la) ∧ w'.ownsRow W.heap.size 3 1 vb lb.length (ints lb) ∧ la.length ≤ 70 ∧ lb.length ≤ 70 ∧ -1048576 ≤ k ∧ k ≤ 1048576 ∧ Below W.heap.size W w' := by
  have HC := Lib.hid (cur_made W A c zs hz hr)
  clear hz hr
  go_enter Try.func79, Try.ntmps79
  go_wp2_with fail
  refine (two_any W _ W.heap.size 0 zs hn (by omega) HC.out).mono ?_
  rintro e w1 ⟨va, la, vb, lb, a, rfl, hc2, hla, hlb, ha, ha2⟩
  have HI := Lib.hid hc2
  clear hc2 HC
  go_wp2_with fail
  refine (workers_any W _ W.heap.size a zs hn (by omega) HI.out.cur).mono ?_
  rintro e w2 ⟨k, a2, hk, _, _, rfl, hc2, hg2⟩
  have HJ := Lib.hid (HI.out.grown hc2 hg2)
  have hsz : W.heap.size ≤ (W.alloc (.cells #[.slice A zs.length c, .int .i64 0, .int .u64 0] 57)).heap.size := by simp
  have HO := Lib.hid (And.intro (own_base HJ.out.oa hsz) (own_base HJ.out.ob hsz))
  clear hc2 hg2 HI
  go_wp2
  go_ret3
  first | exact ⟨_, la, _, lb, k, rfl, HO.out.1, HO.out.2, hla, hlb, hk.1, hk.2, HJ.out.cur.bel⟩ | exact ⟨_, _, k, rfl, HO.out.1, HO.out.2, hla, hlb, hk.1, hk.2, HJ.out.cur.bel⟩
set_option maxRecDepth 100000 in
set_option maxHeartbeats 1000000 in
theorem par_any (A : Option Addr) (c : Nat) (zs : List Int) (W : World) (hn : zs.length ≤ 1048576) (hz : ∀ z ∈ zs, 0 ≤ z ∧ z ≤ 255) (hr : Rd W 1 A zs.length (u8s zs)) :
    Calls Try.prog 46 #[.slice A zs.length c] W fun e w' => ∃ va la vb lb k, e = .returned (.tuple #[va, vb, .int .i64 k]) ∧ w'.ownsRow W.heap.size 3 1 va la.length (ints la) ∧ w'.ownsRow W.heap.size 3 1 vb lb.length (ints lb) ∧ la.length ≤ 70 ∧ lb.length ≤ 70 ∧ -1048576 ≤ k ∧ k ≤ 1048576 ∧ Below W.heap.size W w' := by
  have HD := Lib.hid (parts_any A c zs W hn hz hr)
  clear hz hr
  go_enter Try.func46, Try.ntmps46
  go_wp2_with fail
  refine HD.out.mono ?_
  rintro e w1 ⟨va, la, vb, lb, k, rfl, ho1, ho2, hla, hlb, hk, hk2, hb⟩
  go_wp2
  go_ret3
  exact ⟨_, la, _, lb, k, rfl, ho1, ho2, hla, hlb, hk, hk2, hb⟩
end Go.Proofs.Ytfjmpplpagmpbaa.drw
