/- The cursor of the draws: a number from a code, a choice of a list. Condition: a code of at most 2^20 bytes, fewer than 2^40 draws. -/
import Derived.Test.YtaeimdcmpjanbaaDoorMemAt
import Derived.Deep.LoopGhost
set_option linter.unusedVariables false
set_option linter.unusedSimpArgs false
namespace Go.Proofs.YtaeimdcmpjanbaaDoor.cur
open Go.RowKit Go.Proofs.YtaeimdcmpjanbaaDoor.mem

/-- the cursor lies in a block of its own, behind the world w0, in which the code lies -/
structure Cur (w0 w : World) (g : Nat) (zs : List Int) (a : Nat) : Prop where
  blk : ∃ A c sd, Blk w g 49 #[.slice A zs.length c, .int .i64 (a : Int), .int .u64 sd] ∧ Rd w0 1 A zs.length (u8s zs)
  hi : w0.heap.size ≤ g
  bel : Below w0.heap.size w0 w
  code : ∀ z ∈ zs, 0 ≤ z ∧ z ≤ 255
theorem Cur.lt {w0 w : World} {g a : Nat} {zs : List Int} (h : Cur w0 w g zs a) : g < w.heap.size := by
  obtain ⟨A, c, sd, hB, _⟩ := h.blk; exact hB.lt
theorem Cur.grown {w0 w w' : World} {g a : Nat} {zs : List Int} (h : Cur w0 w g zs a) {row : Option Nat} (hg : w.grownBy w' row) (hr : ∀ k, row = some k → w0.heap.size ≤ k ∧ k ≠ g) : Cur w0 w' g zs a := by
  obtain ⟨A, c, sd, hB, hR⟩ := h.blk
  exact ⟨⟨A, c, sd, hB.grown hg (fun e => (hr g e.symm).2 rfl), hR⟩, h.hi, below_grown h.bel h.bel.size hg (fun k e => (hr k e).1), h.code⟩
theorem Cur.below {w0 w w' : World} {g a : Nat} {zs : List Int} (h : Cur w0 w g zs a) (hb : Below w.heap.size w w') : Cur w0 w' g zs a := by
  obtain ⟨A, c, sd, hB, hR⟩ := h.blk
  exact ⟨⟨A, c, sd, hB.below hb hB.lt, hR⟩, h.hi, below_at h.bel h.bel.size hb, h.code⟩
theorem and_255 (x : Int) : ∃ y : Nat, y ≤ 255 ∧ wrap64 (bits .and .u64 x 255) = (y : Int) := by
  have h : (BitVec.ofInt 64 x &&& BitVec.ofInt 64 255).toNat ≤ 255 := by
    rw [BitVec.toNat_and]
    exact Nat.le_trans Nat.and_le_right (by decide)
  refine ⟨(BitVec.ofInt 64 x &&& BitVec.ofInt 64 255).toNat, h, ?_⟩
  have e : bits .and .u64 x 255 = IntKind.u64.wrap ((BitVec.ofInt 64 x &&& BitVec.ofInt 64 255).toNat : Int) := rfl
  rw [e]
  generalize (BitVec.ofInt 64 x &&& BitVec.ofInt 64 255).toNat = y at h
  simp only [IntKind.wrap, wrap64, IntKind.bits, IntKind.signed]
  have : (y : Int) % 18446744073709551616 = y := by omega
  simp [this]
  omega
set_option maxRecDepth 100000 in
set_option maxHeartbeats 4000000 in
theorem next_any (w0 w : World) (g a : Nat) (zs : List Int) (hn : zs.length ≤ 1048576) (ha : a ≤ 1099511627776) (h : Cur w0 w g zs a) :
    Calls Tryd.prog 55 #[.pointer (some ⟨g, 0, none⟩)] w fun e w' => ∃ b : Nat, b ≤ 255 ∧ e = .returned (.int .i64 (b : Int)) ∧ Cur w0 w' g zs (a + 1) ∧ w.grownBy w' (some g) := by
  obtain ⟨A, c, sd, hB, hR⟩ := h.blk
  have hb := h.bel
  have HI := Lib.hid h.hi
  have HZ := Lib.hid h.code
  clear h
  have c0 := hB.cell 0
  have c1 := hB.cell 1
  have c2 := hB.cell 2
  have f1 := hB.thaw 1
  have f2 := hB.thaw 2
  have HF := Lib.hid (fun (n m : Nat) (s : Int) => show Cur w0 ((((w.drewN n).setCell ⟨g, 1, none⟩ (.int .i64 ((a : Int) + 1))).setCell ⟨g, 2, none⟩ (.int .u64 s)).drewN m) g zs (a + 1) ∧ w.grownBy ((((w.drewN n).setCell ⟨g, 1, none⟩ (.int .i64 ((a : Int) + 1))).setCell ⟨g, 2, none⟩ (.int .u64 s)).drewN m) (some g) from by
    have h1 := (((hB.drewN n).put 1 (.int .i64 ((a : Int) + 1))).put 2 (.int .u64 s)).drewN m
    have h2 := only_drewN (only_put (only_put (only_drewN (World.grownBy.refl w (some g)) n) 1 (.int .i64 ((a : Int) + 1))) 2 (.int .u64 s)) m
    exact ⟨⟨⟨A, c, s, h1, hR⟩, HI.out, below_grown hb hb.size h2 (fun k e => by injection e with e; subst e; exact HI.out), HZ.out⟩, h2⟩)
  by_cases hlt : a < zs.length
  · obtain ⟨b, off, rfl, cx⟩ := (hR.below hb).byte hlt
    have hx := HZ.out _ (List.getElem_mem hlt)
    generalize zs[a] = x at cx hx
    obtain ⟨y, rfl⟩ : ∃ y : Nat, x = (y : Int) := ⟨x.toNat, by omega⟩
    have q1 : (a : Int) < (zs.length : Int) := by omega
    have q2 : (a : Int) + 1 ≤ (zs.length : Int) := by omega
    have q3 : IntKind.i64.wrap (y : Int) = (y : Int) := IntWalk.i64_in _ (by omega)
    go_enter Tryd.func55, Tryd.ntmps55
    go_wp2_with fail
    go_quiet (fail)
    go_wp2_with fail
    go_quiet (fail)
    go_wp2_with fail
    go_quiet (fail)
    go_wp2_with fail
    go_ret
    exact ⟨y, by omega, rfl, HF.out _ _ _⟩
  · have q1 : ¬ (a : Int) < (zs.length : Int) := by omega
    have q2 : ¬ (a : Int) + 1 ≤ (zs.length : Int) := by omega
    go_enter Tryd.func55, Tryd.ntmps55
    go_wp2_with fail
    go_quiet (fail)
    go_wp2_with fail
    go_quiet (fail)
    go_wp2
    have HA := Lib.hid (and_255 (IntKind.u64.wrap (IntKind.u64.wrap (IntKind.u64.wrap (sd * 6364136223846793005)) + 907907) / 2 ^ 40))
    obtain ⟨y, hy, hye⟩ := HA.out
    go_ret
    exact ⟨y, hy, by simpa using hye, HF.out _ _ _⟩
theorem Cur.then_grown {a b c : World} {row : Option Nat} (h : a.grownBy b row) (k : b.grownBy c row) : a.grownBy c row :=
  ⟨k.os.trans h.os, k.tape.trans h.tape, k.output.trans h.output, Nat.le_trans h.size k.size, fun x hx hne => (k.block x (Nat.lt_of_lt_of_le hx h.size) hne).trans (h.block x hx hne)⟩
set_option maxRecDepth 100000 in
set_option maxHeartbeats 1000000 in
theorem pick_any (w0 w : World) (g a : Nat) (zs : List Int) (hn : zs.length ≤ 1048576) (ha : a ≤ 1099511627000) (h : Cur w0 w g zs a) (n : Int) (hn2 : n ≤ 1048576) (hn3 : -1048576 ≤ n) :
    Calls Tryd.prog 42 #[.pointer (some ⟨g, 0, none⟩), .int .i64 n] w fun e w' => ∃ x a' : Nat, ((x : Int) < n ∨ x = 0) ∧ a ≤ a' ∧ a' ≤ a + 2 ∧ e = .returned (.int .i64 (x : Int)) ∧ Cur w0 w' g zs a' ∧ w.grownBy w' (some g) := by
  by_cases h1 : n ≤ 1
  · go_enter Tryd.func42, Tryd.ntmps42
    go_wp2
    go_ret
    exact ⟨0, a, Or.inr rfl, by omega, by omega, rfl, h, World.grownBy.refl _ _⟩
  · obtain ⟨m, rfl⟩ : ∃ m : Nat, n = (m : Int) := ⟨n.toNat, by omega⟩
    have qz : ((m : Int) == 0) = false := by simp; omega
    have qz2 : ¬ (m : Int) = 0 := by omega
    have qz3 : ¬ m = 0 := by omega
    have qz4 : (m == 0) = false := by simp; omega
    have q1 : ¬ (m : Int) ≤ 1 := by omega
    by_cases h2 : 200 < m
    · have q2 : (200 : Int) < (m : Int) := by omega
      go_enter Tryd.func42, Tryd.ntmps42
      go_wp2_with fail
      refine (next_any w0 w g a zs hn (by omega) h).mono ?_
      rintro e w1 ⟨b1, hb1, rfl, hc1, hg1⟩
      go_wp2_with fail
      refine (next_any w0 w1 g (a + 1) zs hn (by omega) hc1).mono ?_
      rintro e w2 ⟨b2, hb2, rfl, hc2, hg2⟩
      have hg3 := Cur.then_grown hg1 hg2
      have r4 := Nat.mod_lt (b1 * 256 + b2) (show 0 < m by omega)
      have HX := Lib.hid (And.intro r4 (show ((b1 : Int) * 256 + (b2 : Int)) % (m : Int) = (((b1 * 256 + b2) % m : Nat) : Int) by simp))
      clear r4
      clear hc1 hg1 hg2
      go_wp2
      go_ret
      exact ⟨_, a + 1 + 1, Or.inl (by have := HX.out.1; omega), by omega, by omega, ret_int HX.out.2, hc2, hg3⟩
    · have q2 : ¬ (200 : Int) < (m : Int) := by omega
      go_enter Tryd.func42, Tryd.ntmps42
      go_wp2_with fail
      refine (next_any w0 w g a zs hn (by omega) h).mono ?_
      rintro e w1 ⟨b1, hb1, rfl, hc1, hg1⟩
      have r4 := Nat.mod_lt b1 (show 0 < m by omega)
      have HX := Lib.hid (And.intro r4 (show (b1 : Int) % (m : Int) = ((b1 % m : Nat) : Int) by simp))
      clear r4
      go_wp2
      go_ret
      exact ⟨_, a + 1, Or.inl (by have := HX.out.1; omega), by omega, by omega, ret_int HX.out.2, hc1, hg1⟩
set_option maxHeartbeats 400000 in
theorem one_any (w0 w : World) (g a : Nat) (zs : List Int) (hn : zs.length ≤ 1048576) (ha : a ≤ 1099511627000) (h : Cur w0 w g zs a) (n : Int) (hn2 : n ≤ 1048576) (hn3 : -1048576 ≤ n) :
    Calls Tryd.prog 32 #[.pointer (some ⟨g, 0, none⟩), .int .i64 n] w fun e w' => ∃ (x : Bool) (a' : Nat), a ≤ a' ∧ a' ≤ a + 2 ∧ e = .returned (.bool x) ∧ Cur w0 w' g zs a' ∧ w.grownBy w' (some g) := by
  go_enter Tryd.func32, Tryd.ntmps32
  go_wp2_with fail
  refine (pick_any w0 w g a zs hn ha h n hn2 hn3).mono ?_
  rintro e w1 ⟨x, a', _, h1, h2, rfl, hc, hg⟩
  go_wp2
  go_ret
  exact ⟨_, a', h1, h2, rfl, hc, hg⟩
end Go.Proofs.YtaeimdcmpjanbaaDoor.cur
