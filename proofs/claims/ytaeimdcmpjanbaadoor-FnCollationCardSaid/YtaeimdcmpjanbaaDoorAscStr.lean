/- Ascending lists of strings, the program's and the reference's. No condition beyond what a Go slice can hold. -/
import Derived.Test.YtaeimdcmpjanbaaDoorValidStr
import Derived.Deep.LoopGhost
import Derived.Deep.RegionHeld3
import Derived.Deep.QuietTactic
set_option linter.unusedVariables false
set_option linter.unusedSimpArgs false
namespace Go.Proofs.YtaeimdcmpjanbaaDoor.ascStr
open Go.RowKit Go.Proofs.YtaeimdcmpjanbaaDoor.mem Go.Proofs.YtaeimdcmpjanbaaDoor.allStr Go.Proofs.YtaeimdcmpjanbaaDoor.validStr

def lt (x y : ByteArray) : Bool := Op.bytesLess x.toList y.toList
def e0 : ByteArray := ByteArray.empty
/-- a descent at i -/
def dn (ss : List ByteArray) (i : Nat) : Bool := lt (ss.getD (i + 1) e0) (ss.getD i e0)
def sasc (ss : List ByteArray) : Bool := (List.range (ss.length - 1)).all fun i => !dn ss i
theorem sasc_true {ss : List ByteArray} (h : ∀ i, i + 1 < ss.length → dn ss i = false) : sasc ss = true := by
  rw [sasc, List.all_eq_true]
  intro i hi
  rw [List.mem_range] at hi
  rw [h i (by omega)]; rfl
theorem sasc_false {ss : List ByteArray} {i : Nat} (hi : i + 1 < ss.length) (h : dn ss i = true) : sasc ss = false := by
  rw [← Bool.not_eq_true, sasc, List.all_eq_true]
  intro h2
  have := h2 i (List.mem_range.2 (by omega))
  rw [h] at this; simp at this
theorem getD_s (l : List ByteArray) {i : Nat} (h : i < l.length) : l.getD i e0 = l[i] := by
  rw [List.getD_eq_getElem?_getD, List.getElem?_eq_getElem h]; rfl
theorem Rd_str_at {w : World} {b off : Nat} {zs : List ByteArray} (h : Rd w 1 (some ⟨b, off, none⟩) zs.length (strs zs)) {k : Nat} (hk : k < zs.length) : w.cell? ⟨b, off + k, none⟩ = some (.string zs[k]) := by
  obtain ⟨b', o', he, h'⟩ := h.str hk
  injection he with he
  injection he with he1 he2
  rw [he1, he2]; exact h'

end Go.Proofs.YtaeimdcmpjanbaaDoor.ascStr
