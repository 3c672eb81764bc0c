/- The draws of sizes and of jobs. Condition: a code of at most 2^20 bytes. -/
import Derived.Test.YtaeimdcmpjanbaaDoorCur
set_option linter.unusedVariables false
set_option linter.unusedSimpArgs false
namespace Go.Proofs.YtaeimdcmpjanbaaDoor.drw
open Go.RowKit Go.Proofs.YtaeimdcmpjanbaaDoor.mem Go.Proofs.YtaeimdcmpjanbaaDoor.cur

/-- a cursor just made -/
theorem cur_made (W : World) (A : Option Addr) (c : Nat) (zs : List Int) (hz : ∀ z ∈ zs, 0 ≤ z ∧ z ≤ 255) (hr : Rd W 1 A zs.length (u8s zs)) :
    Cur W (W.alloc (.cells #[.slice A zs.length c, .int .i64 0, .int .u64 0] 49)) W.heap.size zs 0 :=
  ⟨⟨A, c, 0, Blk.new _ _ _, hr⟩, Nat.le_refl _, (Below.refl _ _).alloc (Nat.le_refl _) _, hz⟩
/-- a cursor and a row that grows beside it -/
structure CR (W w : World) (zs : List Int) (a : Nat) (v : Value) (l : List Int) : Prop where
  cur : Cur W w W.heap.size zs a
  own : w.ownsRow (W.heap.size + 1) 3 1 v l.length (ints l)
theorem CR.grown {W w w' : World} {zs : List Int} {a a' : Nat} {v : Value} {l : List Int} (h : CR W w zs a v l) (hc : Cur W w' W.heap.size zs a') (hg : w.grownBy w' (some W.heap.size)) : CR W w' zs a' v l := by
  refine ⟨hc, h.own.kept hg ?_⟩
  cases hk : v.ownBlock with
  | none => exact Or.inl rfl
  | some k =>
    right; intro e
    injection e with e
    have := (h.own.lt k hk).1
    omega
theorem CR.push {W w w' : World} {zs : List Int} {a : Nat} {v v' : Value} {l : List Int} {x : Int} (h : CR W w zs a v l) (ho : w'.ownsRow (W.heap.size + 1) 3 1 v' (l.length + 1) (ints l ++ ints [x])) (hg : w.grownBy w' v.ownBlock) : CR W w' zs a v' (l ++ [x]) :=
  ⟨h.cur.grown hg (fun k hk => by have := (h.own.lt k hk).1; omega), by rw [List.length_append, List.length_singleton, ints_app]; exact ho⟩
theorem CR.size {W w : World} {zs : List Int} {a : Nat} {v : Value} {l : List Int} (h : CR W w zs a v l) : W.heap.size + 1 ≤ w.heap.size := h.cur.lt
theorem cr_made (W : World) (A : Option Addr) (c : Nat) (zs : List Int) (hz : ∀ z ∈ zs, 0 ≤ z ∧ z ≤ 255) (hr : Rd W 1 A zs.length (u8s zs)) :
    CR W ((W.alloc (.cells #[.slice A zs.length c, .int .i64 0, .int .u64 0] 49)).alloc (.cells #[] 3)) zs 0 (.slice (some ⟨W.heap.size + 1, 0, none⟩) 0 0) [] := by
  have h1 := cur_made W A c zs hz hr
  refine ⟨h1.below ((Below.refl _ _).alloc (Nat.le_refl _) _), ?_⟩
  have h2 := World.ownsRow_made (base := W.heap.size + 1) (e := 3) (size := 1) (W.alloc (.cells #[.slice A zs.length c, .int .i64 0, .int .u64 0] 49)) #[] 0 (by simp) (Nat.zero_le _) (by simp)
  rwa [show (W.alloc (.cells #[.slice A zs.length c, .int .i64 0, .int .u64 0] 49)).heap.size = W.heap.size + 1 by simp] at h2
end Go.Proofs.YtaeimdcmpjanbaaDoor.drw
