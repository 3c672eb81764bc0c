/- The draws of sizes and of jobs. Condition: a code of at most 2^20 bytes. -/
import Derived.Test.YtfjmpplpagmpbaaCur
set_option linter.unusedVariables false
set_option linter.unusedSimpArgs false
namespace Go.Proofs.Ytfjmpplpagmpbaa.drw
open Go.RowKit Go.Proofs.Ytfjmpplpagmpbaa.mem Go.Proofs.Ytfjmpplpagmpbaa.cur

/-- a cursor just made -/
theorem cur_made (W : World) (A : Option Addr) (c : Nat) (zs : List Int) (hz : ∀ z ∈ zs, 0 ≤ z ∧ z ≤ 255) (hr : Rd W 1 A zs.length (u8s zs)) :
    Cur W (W.alloc (.cells #[.slice A zs.length c, .int .i64 0, .int .u64 0] 57)) W.heap.size zs 0 :=
  ⟨⟨A, c, 0, Blk.new _ _ _, hr⟩, Nat.le_refl _, (Below.refl _ _).alloc (Nat.le_refl _) _, hz⟩
/-- a cursor and a row that grows beside it -/
structure CR (W w : World) (zs : List Int) (a : Nat) (v : Value) (l : List Int) : Prop where
  cur : Cur W w W.heap.size zs a
  own : w.ownsRow (W.heap.size + 1) 3 1 v l.length (ints l)
theorem CR.grown {W w w' : World} {zs : List Int} {a a' : Nat} {v : Value} {l : List Int} (h : CR W w zs a v l) (hc : Cur W w' W.heap.size zs a') (hg : w.grownBy w' (some W.heap.size)) : CR W w' zs a' v l := by
  refine ⟨hc, h.own.kept hg ?_⟩
  cases hk : v.ownBlock with
  | none => exact Or.inl rfl
  | some k =>
    right; intro e
    injection e with e
    have := (h.own.lt k hk).1
    omega
theorem CR.push {W w w' : World} {zs : List Int} {a : Nat} {v v' : Value} {l : List Int} {x : Int} (h : CR W w zs a v l) (ho : w'.ownsRow (W.heap.size + 1) 3 1 v' (l.length + 1) (ints l ++ ints [x])) (hg : w.grownBy w' v.ownBlock) : CR W w' zs a v' (l ++ [x]) :=
  ⟨h.cur.grown hg (fun k hk => by have := (h.own.lt k hk).1; omega), by rw [List.length_append, List.length_singleton, ints_app]; exact ho⟩
theorem CR.size {W w : World} {zs : List Int} {a : Nat} {v : Value} {l : List Int} (h : CR W w zs a v l) : W.heap.size + 1 ≤ w.heap.size := h.cur.lt
theorem cr_made (W : World) (A : Option Addr) (c : Nat) (zs : List Int) (hz : ∀ z ∈ zs, 0 ≤ z ∧ z ≤ 255) (hr : Rd W 1 A zs.length (u8s zs)) :
    CR W ((W.alloc (.cells #[.slice A zs.length c, .int .i64 0, .int .u64 0] 57)).alloc (.cells #[] 3)) zs 0 (.slice (some ⟨W.heap.size + 1, 0, none⟩) 0 0) [] := by
  have h1 := cur_made W A c zs hz hr
  refine ⟨h1.below ((Below.refl _ _).alloc (Nat.le_refl _) _), ?_⟩
  have h2 := World.ownsRow_made (base := W.heap.size + 1) (e := 3) (size := 1) (W.alloc (.cells #[.slice A zs.length c, .int .i64 0, .int .u64 0] 57)) #[] 0 (by simp) (Nat.zero_le _) (by simp)
  rwa [show (W.alloc (.cells #[.slice A zs.length c, .int .i64 0, .int .u64 0] 57)).heap.size = W.heap.size + 1 by simp] at h2
set_option maxRecDepth 100000 in
set_option maxHeartbeats 4000000 in
theorem rounds_any (A : Option Addr) (c : Nat) (zs : List Int) (W : World) (hn : zs.length ≤ 1048576) (hz : ∀ z ∈ zs, 0 ≤ z ∧ z ≤ 255) (hr : Rd W 1 A zs.length (u8s zs)) :
    Calls Try.prog 22 #[.slice A zs.length c] W fun e w' => ∃ v l, e = .returned v ∧ w'.ownsRow W.heap.size 3 1 v l.length (ints l) ∧ l.length ≤ 1048576 ∧ Below W.heap.size W w' := by
  have HC := Lib.hid (cr_made W A c zs hz hr)
  clear hz hr
  go_enter Try.func22, Try.ntmps22
  go_wp2_with fail
  refine (pick_any W _ W.heap.size 0 zs hn (by omega) HC.out.cur 10 (by omega) (by omega)).mono ?_
  rintro e w1 ⟨x, a, hx, _, ha, rfl, hc1, hg1⟩
  have HC1 := Lib.hid (HC.out.grown hc1 hg1)
  clear hc1 hg1 HC
  go_wp2
  go_loopg [4, 5] 20 (fun f v i wr => ∃ (x a : Nat) (l : List Int), x < f ∧ x ≤ 9 ∧ l.length + x ≤ 9 ∧ a + 2 * x ≤ 20 ∧ i = .int .i64 (x : Int) ∧ CR W wr zs a v l)
  case atStart => exact ⟨x, a, [], by omega, by omega, by simp; omega, by omega, rfl, HC1.out⟩
  case round =>
    obtain ⟨x, a, l, hxf, hx9, hl, ha, rfl, hcr⟩ := hrel
    have HCR := Lib.hid hcr
    clear hcr HC1
    by_cases h0 : 0 < x
    · have q1 : (0 : Int) < (x : Int) := by omega
      go_wp2_with fail
      refine (pick_any W _ W.heap.size a zs hn (by omega) HCR.out.cur 9 (by omega) (by omega)).mono ?_
      rintro e w2 ⟨y, a2, _, ha1, ha2, rfl, hc2, hg2⟩
      have HC2 := Lib.hid (HCR.out.grown hc2 hg2)
      clear hc2 hg2 HCR
      have ho := HC2.out.own
      have hs := HC2.out.size
      have hb : l.length ≤ 1099511627776 := by omega
      go_wp2_with (at_builtin; refine mem.push _ rfl _ _ 22 rfl (W.heap.size + 1) 3 _ 1 8 Try.underlying22 mem.info_int rfl Nat.one_pos _ _ _ rfl ho [.int .i64 ((y : Int))] _ rfl (mem.ints_one [(y : Int)]) rfl hb (by decide) hs ?_; intro v' w' ho' hg')
      have HC3 := Lib.hid (HC2.out.push ho' hg')
      clear ho' hg' ho HC2
      go_wp2
      go_roundg (gk - 1)
      case measure => omega
      case rel => exact ⟨x - 1, a2, l ++ [(y : Int)], by omega, by omega, by simp; omega, by omega, by go_num, HC3.out⟩
    · have q1 : ¬ (0 : Int) < (x : Int) := by omega
      go_wp2_with fail
      refine (pick_any W _ W.heap.size a zs hn (by omega) HCR.out.cur 20 (by omega) (by omega)).mono ?_
      rintro e w2 ⟨y, a2, _, ha1, ha2, rfl, hc2, hg2⟩
      have HC2 := Lib.hid (HCR.out.grown hc2 hg2)
      clear hc2 hg2 HCR
      have HEND := Lib.hid (fun (w' : World) (a' : Nat) (v' : Value) (l' : List Int) (h : CR W w' zs a' v' l') (hl : l'.length ≤ 64) => show w'.ownsRow W.heap.size 3 1 v' l'.length (ints l') ∧ l'.length ≤ 1048576 ∧ Below W.heap.size W w' from ⟨own_base h.own (by omega), by omega, h.cur.bel⟩)
      by_cases hy0 : y = 0
      · subst hy0
        go_wp2
        go_loopg [4] 50 (fun f v wr => ∃ (a : Nat) (l : List Int), 42 ≤ l.length + f ∧ l.length ≤ 41 ∧ a ≤ 30 + 4 * l.length ∧ CR W wr zs a v l)
        case atStart => exact ⟨a2, l, by omega, by omega, by omega, HC2.out⟩
        case round =>
          obtain ⟨a3, l3, hf3, hl3, ha3, hcr3⟩ := hrel
          have HC3 := Lib.hid hcr3
          clear hcr3 HC2
          obtain ⟨A3, c3, rfl, _, _, _⟩ := own_form HC3.out.own
          go_wp2_with fail
          refine (pick_any W _ W.heap.size a3 zs hn (by omega) HC3.out.cur 2 (by omega) (by omega)).mono ?_
          rintro e w4 ⟨z, a4, hz2, ha4, ha5, rfl, hc4, hg4⟩
          have HC4 := Lib.hid (HC3.out.grown hc4 hg4)
          clear hc4 hg4 HC3
          have hz1 : z ≤ 1 := by omega
          have r1 : IntKind.i64.wrap (40 + (z : Int)) = 40 + (z : Int) := IntWalk.i64_in _ (by omega)
          by_cases hlt : (l3.length : Int) < 40 + (z : Int)
          · go_wp2_with fail
            refine (pick_any W _ W.heap.size a4 zs hn (by omega) HC4.out.cur 9 (by omega) (by omega)).mono ?_
            rintro e w5 ⟨y5, a6, _, ha6, ha7, rfl, hc5, hg5⟩
            have HC5 := Lib.hid (HC4.out.grown hc5 hg5)
            clear hc5 hg5 HC4
            have ho := HC5.out.own
            have hs := HC5.out.size
            have hb : l3.length ≤ 1099511627776 := by omega
            go_wp2_with (at_builtin; refine mem.push _ rfl _ _ 22 rfl (W.heap.size + 1) 3 _ 1 8 Try.underlying22 mem.info_int rfl Nat.one_pos _ _ _ rfl ho [.int .i64 ((y5 : Int))] _ rfl (mem.ints_one [(y5 : Int)]) rfl hb (by decide) hs ?_; intro v' w' ho' hg')
            have HC6 := Lib.hid (HC5.out.push ho' hg')
            clear ho' hg' ho HC5
            go_wp2
            go_roundg (gk - 1)
            case measure => omega
            case rel => exact ⟨a6, l3 ++ [(y5 : Int)], by simp; omega, by simp; omega, by simp; omega, HC6.out⟩
          · have HE := Lib.hid (HEND.out _ _ _ _ HC4.out (by omega))
            go_wp2
            go_ret
            exact ⟨_, l3, rfl, HE.out⟩
      · have q0 : ((y : Int) == 0) = false := by simp; omega
        have q00 : ¬ (y : Int) = 0 := by omega
        have q000 : (y == 0) = false := by simpa using hy0
        by_cases hy1 : y = 1
        · subst hy1
          have hm3 := Lib.hid (fun (w : World) => show Rd (w.alloc (.cells #[.int .i64 (-1), .int .i64 100000, .int .i64 100001] 3)) 1 (some ⟨w.heap.size, 0, none⟩) 3 (ints [-1, 100000, 100001]) from
            (Blk.new w 3 #[.int .i64 (-1), .int .i64 100000, .int .i64 100001]).rd rfl rfl)
          have HBL := Lib.hid (fun (o : Obj) => (Below.refl w2.heap.size w2).alloc (Nat.le_refl _) o)
          have HC3 := Lib.hid (fun (o : Obj) => show CR W (w2.alloc o) zs a2 u4 l from ⟨HC2.out.cur.below (HBL.out o), own_below HC2.out.own (HBL.out o)⟩)
          go_wp2_with fail
          refine (among_any W _ W.heap.size a2 zs hn (by omega) (HC3.out _).cur (some ⟨w2.heap.size, 0, none⟩) 3 [-1, 100000, 100001] (by simp) (by simp) (fun W' hg => ?_)).mono ?_
          · have h1 := hm3.out w2
            have h2 := HC2.out.size
            exact h1.grown hg (fun b off e => by injection e with e; injection e with e1 e2; intro e3; injection e3 with e3; omega)
          rintro e w5 ⟨y5, a6, _, ha6, ha7, rfl, hc5, hg5⟩
          have HC5 := Lib.hid ((HC3.out _).grown hc5 hg5)
          clear hc5 hg5 HC3 HC2
          have ho := HC5.out.own
          have hs := HC5.out.size
          have hb : l.length ≤ 1099511627776 := by omega
          go_wp2_with (at_builtin; refine mem.push _ rfl _ _ 22 rfl (W.heap.size + 1) 3 _ 1 8 Try.underlying22 mem.info_int rfl Nat.one_pos _ _ _ rfl ho [.int .i64 ((y5 : Int))] _ rfl (mem.ints_one [(y5 : Int)]) rfl hb (by decide) hs ?_; intro v' w' ho' hg')
          have HC6 := Lib.hid (HC5.out.push ho' hg')
          clear ho' hg' ho HC5
          have HE := Lib.hid (HEND.out _ _ _ _ HC6.out (by simp; omega))
          go_wp2
          go_ret
          exact ⟨_, _, rfl, HE.out⟩
        · have q1 : ((y : Int) == 1) = false := by simp; omega
          have q10 : ¬ (y : Int) = 1 := by omega
          have q100 : (y == 1) = false := by simpa using hy1
          have HE := Lib.hid (HEND.out _ _ _ _ HC2.out (by omega))
          go_wp2
          go_ret
          exact ⟨_, l, rfl, HE.out⟩
end Go.Proofs.Ytfjmpplpagmpbaa.drw
