/- The draws of lists of integers. Condition: a code of at most 2^20 bytes. -/
import Derived.Test.YtaeimdcmpjanbaaDoorDrwJob
set_option linter.unusedVariables false
set_option linter.unusedSimpArgs false
namespace Go.Proofs.YtaeimdcmpjanbaaDoor.drw
open Go.RowKit Go.Proofs.YtaeimdcmpjanbaaDoor.mem Go.Proofs.YtaeimdcmpjanbaaDoor.cur

theorem grown_above {a b c : World} {g : Nat} {row : Option Nat} (h : a.grownBy b (some g)) (k : b.grownBy c row) (hr : ∀ x, row = some x → a.heap.size ≤ x) : a.grownBy c (some g) :=
  ⟨k.os.trans h.os, k.tape.trans h.tape, k.output.trans h.output, Nat.le_trans h.size k.size, fun x hx hne => (k.block x (Nat.lt_of_lt_of_le hx h.size) (fun e => by have := hr x e.symm; omega)).trans (h.block x hx hne)⟩
/-- a cursor and a row of the call's own that grows beside it, since the world w1 -/
structure CI (w0 w1 w : World) (g : Nat) (zs : List Int) (a : Nat) (v : Value) (l : List Int) : Prop where
  cur : Cur w0 w g zs a
  own : w.ownsRow w1.heap.size 3 1 v l.length (ints l)
  gr : w1.grownBy w (some g)
  lt : g < w1.heap.size
section
variable {w0 w1 w w' : World} {g a a' : Nat} {zs l : List Int} {v v' : Value}
theorem CI.grown (h : CI w0 w1 w g zs a v l) (hc : Cur w0 w' g zs a') (hg : w.grownBy w' (some g)) : CI w0 w1 w' g zs a' v l := by
  refine ⟨hc, h.own.kept hg ?_, Cur.then_grown h.gr hg, h.lt⟩
  cases hk : v.ownBlock with
  | none => exact Or.inl rfl
  | some k =>
    right; intro e
    injection e with e
    have := (h.own.lt k hk).1
    have := h.lt
    omega
theorem CI.push {x : Int} (h : CI w0 w1 w g zs a v l) (ho : w'.ownsRow w1.heap.size 3 1 v' (l.length + 1) (ints l ++ ints [x])) (hg : w.grownBy w' v.ownBlock) : CI w0 w1 w' g zs a v' (l ++ [x]) :=
  ⟨h.cur.grown hg (fun k hk => by have := (h.own.lt k hk).1; have := h.lt; have := h.cur.hi; omega), by rw [List.length_append, List.length_singleton, ints_app]; exact ho, grown_above h.gr hg (fun k hk => (h.own.lt k hk).1), h.lt⟩
theorem CI.alloc (h : CI w0 w1 w g zs a v l) (o : Obj) : CI w0 w1 (w.alloc o) g zs a v l :=
  ⟨h.cur.below ((Below.refl _ _).alloc (Nat.le_refl _) o), own_below h.own ((Below.refl _ _).alloc (Nat.le_refl _) o), Cur.then_grown h.gr (World.grownBy_alloc w o (some g)), h.lt⟩
theorem CI.size (h : CI w0 w1 w g zs a v l) : w1.heap.size ≤ w.heap.size := h.gr.size
end
theorem ci_made (w0 w1 : World) (g a : Nat) (zs : List Int) (h : Cur w0 w1 g zs a) : CI w0 w1 (w1.alloc (.cells #[] 3)) g zs a (.slice (some ⟨w1.heap.size, 0, none⟩) 0 0) [] :=
  ⟨h.below ((Below.refl _ _).alloc (Nat.le_refl _) _), World.ownsRow_made (base := w1.heap.size) (e := 3) (size := 1) w1 #[] 0 (Nat.le_refl _) (Nat.zero_le _) (by simp), World.grownBy_alloc w1 _ (some g), h.lt⟩
/-- a list of choices, laid in a new block -/
theorem pool (w : World) (l : List Int) {W' : World} {g : Nat} (hg : (w.alloc (.cells (ints l).toArray 3)).grownBy W' (some g)) (hne : g < w.heap.size) : Rd W' 1 (some ⟨w.heap.size, 0, none⟩) l.length (ints l) := by
  have h1 := (Blk.new w 3 (ints l).toArray).grown hg (fun e => by injection e with e; omega)
  exact h1.rd (by rw [len_ints, Nat.mul_one]) (by rw [Nat.mul_one]; exact List.take_of_length_le (by simp [len_ints]))
end Go.Proofs.YtaeimdcmpjanbaaDoor.drw
