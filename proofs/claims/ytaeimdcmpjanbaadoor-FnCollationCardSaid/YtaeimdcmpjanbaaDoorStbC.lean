/- The library's stable sort: common words. No condition. -/
import Derived.Test.YtaeimdcmpjanbaaDoorStbLaw
import Derived.Test.YtaeimdcmpjanbaaDoorMemAt
import Derived.Test.YtaeimdcmpjanbaaDoorCut
set_option linter.unusedVariables false
set_option linter.unusedSimpArgs false
namespace Go.Proofs.YtaeimdcmpjanbaaDoor.stb
open Go.RowKit Go.Proofs.YtaeimdcmpjanbaaDoor.mem

theorem only_below' {a w w' : World} {g : Nat} (h : a.grownBy w (some g)) (hb : Below w.heap.size w w') : a.grownBy w' (some g) :=
  ⟨hb.os.trans h.os, hb.tape.trans h.tape, hb.output.trans h.output, Nat.le_trans h.size hb.size, fun k hk hne => (hb.block k (Nat.lt_of_lt_of_le hk h.size)).trans (h.block k hk hne)⟩
def LoL {α : Type} (lt : α → α → Bool) (x : α) (R : List α) (u : Nat) : Prop := ∀ y, 0 < u → R[u - 1]? = some y → lt y x = true
def HiL {α : Type} (lt : α → α → Bool) (x : α) (R : List α) (v : Nat) : Prop := ∀ y, R[v]? = some y → lt y x = false
def LoR {α : Type} (lt : α → α → Bool) (y : α) (L : List α) (u : Nat) : Prop := ∀ x, 0 < u → L[u - 1]? = some x → lt y x = false
def HiR {α : Type} (lt : α → α → Bool) (y : α) (L : List α) (v : Nat) : Prop := ∀ x, L[v]? = some x → lt y x = true
def Bnd (a m b mid s r : Nat) : Prop := a ≤ s ∧ s ≤ r ∧ r ≤ m ∧ r ≤ mid ∧ mid - s ≤ b - m ∧ (s = a ∨ mid - s = b - m) ∧ (r = m ∨ r = mid)
def Cu1 {α : Type} (lt : α → α → Bool) (L R : List α) (a mid s : Nat) : Prop := ∀ x y, 0 < s - a → L[s - a - 1]? = some x → R[mid - s]? = some y → lt y x = false
def Cu2 {α : Type} (lt : α → α → Bool) (L R : List α) (a mid r : Nat) : Prop := ∀ x y, 0 < mid - r → R[mid - r - 1]? = some y → L[r - a]? = some x → lt y x = true
end Go.Proofs.YtaeimdcmpjanbaaDoor.stb
