/- A Summary that a call hands back, laid in a block of its own, before or behind the call. No condition. -/
import Derived.Test.YtlckeefjhafloaaLawSmy
import Derived.Test.YtlckeefjhafloaaMemAt
import Derived.Test.YtlckeefjhafloaaCut
set_option linter.unusedVariables false
set_option linter.unusedSimpArgs false
namespace Go.Proofs.Ytlckeefjhafloaa.mem
open Go.RowKit

def BoxR (cur wx : World) (s : Value) (n : Int) (l : List Rkv) : Prop := ∃ (g : Nat) (v : Value) (b u : Nat), s = .pointer (some ⟨g, 0, none⟩) ∧ Blk wx g 29 #[.int .i64 n, v] ∧ wx.ownsRow b 51 3 v l.length (rkvs l) ∧ l.length ≤ 1048576 ∧ (∀ k, v.ownBlock = some k → b ≤ k ∧ k < u) ∧ (g < b ∨ u ≤ g) ∧ cur.heap.size ≤ b ∧ cur.heap.size ≤ g ∧ u ≤ wx.heap.size
theorem BoxR.early {cur w4 w5 : World} {g : Nat} {n : Int} {v : Value} {l : List Rkv} (hz : Blk w5 g 29 #[.int .i64 0, .slice none 0 0]) (ho : OwnRkv w4 w5 v l) (hg : g < w4.heap.size) (hcg : cur.heap.size ≤ g) :
    BoxR cur ((w5.setCell ⟨g, 0, none⟩ (.int .i64 n)).setCell ⟨g, 1, none⟩ v) (.pointer (some ⟨g, 0, none⟩)) n l := by
  have hl := ho.1.lt
  refine ⟨g, v, w4.heap.size, w5.heap.size, rfl, (hz.put 0 _).put 1 _, own_far (own_far ho.1 (fun e => ?_) _) (fun e => ?_) _, ho.2, hl, Or.inl hg, by omega, hcg, by simp [World.setCell]⟩
  · have := (hl _ e).1; simp only at this; omega
  · have := (hl _ e).1; simp only at this; omega
theorem BoxR.late {cur w4 w5 : World} {n : Int} {v : Value} {l : List Rkv} (ho : OwnRkv w4 w5 v l) (h : cur.heap.size ≤ w4.heap.size) (h2 : w4.heap.size ≤ w5.heap.size) :
    BoxR cur (w5.alloc (.cells #[.int .i64 n, v] 29)) (.pointer (some ⟨w5.heap.size, 0, none⟩)) n l :=
  ⟨w5.heap.size, v, w4.heap.size, w5.heap.size, rfl, Blk.new _ _ _, ho.1.alloc _, ho.2, ho.1.lt, Or.inr (Nat.le_refl _), h, by omega, by simp⟩
theorem BoxR.drewN {cur wx : World} {s : Value} {n : Int} {l : List Rkv} (h : BoxR cur wx s n l) (m : Nat) : BoxR cur (wx.drewN m) s n l := h
end Go.Proofs.Ytlckeefjhafloaa.mem
