/- copy into a block that is known whole, elements of several cells; append of a make; slices that lie apart. No condition. -/
import Derived.Test.YtgngoedooemboaaMemAt
import Derived.Laws.CopyRow
import Derived.Lib.AppendZerosOnto
import Derived.Lib.Overlaps
import Derived.Lib.SliceRun
import Derived.Shelf.Spec.SlicesInsertGrow
set_option linter.unusedVariables false
set_option linter.unusedSimpArgs false
namespace Go.Proofs.Ytgngoedooemboaa.mem
open Go.RowKit

/-- a row of cells with some written over -/
def over (cur : Array Value) (o : Nat) (cs : List Value) : Array Value := (cur.toList.take o ++ cs ++ cur.toList.drop (o + cs.length)).toArray
theorem over_size {cur : Array Value} {o : Nat} {cs : List Value} (h : o + cs.length ≤ cur.size) : (over cur o cs).size = cur.size := by
  simp only [over, List.size_toArray, List.length_append, List.length_take, List.length_drop, Array.length_toList]; omega
theorem run_copy_blk {P : Program} (w : World) (dT sT ty elem : TypeId) (g o dLen dCap : Nat) (a : Addr) (sLen sCap : Nat) (cur : Array Value) (t : TypeId) (cs : List Value) (sz : Nat)
    (hu : P.underlying dT = some (.slice elem)) (hs : (P.info? elem).map (·.size) = some sz)
    (hg : Blk w g t cur) (hn : cs.length = Nat.min sLen dLen * sz)
    (hsrc : ∀ j v, cs[j]? = some v → w.cell? (a.add j) = some v) (hfit : o + cs.length ≤ cur.size) (h1 : ∀ v ∈ cs, v.oneCell' = true) :
    (Builtin.copy_ #[dT, sT] ty #[.slice (some ⟨g, o, none⟩) dLen dCap, .slice (some a) sLen sCap]).run P w =
      .ok (goInt (Nat.min sLen dLen)) (w.setRow g (over cur o cs)) := by
  have hl := run_loadCells_list (P := P) w a cs hsrc
  have hst := run_storeCells_at P g o t cs 0 cur w hg (by simpa using hfit) h1
  cases hq : P.info? elem with
  | none => simp [hq] at hs
  | some i =>
    have hi : i.size = sz := by simpa [hq] using hs
    rw [hn] at hl
    simp only [Nat.add_zero] at hst
    simp [Builtin.copy_, run_underlying hu, Builtin.lenOf, Builtin.firstCells, sizeOf, typeInfo, hq, hi, hl, hst, over]
section
variable {w w' : World} {g : Nat} {t : TypeId} {cur new : Array Value}
theorem Blk.setRow (h : Blk w g t cur) (new : Array Value) : Blk (w.setRow g new) g t new := setRow_heap w g cur new t _ h
theorem grown_setRow (w : World) (g : Nat) (new : Array Value) : w.grownBy (w.setRow g new) (some g) := by
  refine ⟨rfl, rfl, rfl, by simp [World.setRow], fun k hk hne => ?_⟩
  have : g ≠ k := fun e => hne (by rw [e])
  simp [World.setRow, Array.getElem?_modify, this]
end
theorem take_over {cur : Array Value} {o m : Nat} {cs : List Value} (h : o + cs.length ≤ cur.size) (hm : m = o + cs.length) : (over cur o cs).toList.take m = cur.toList.take o ++ cs := by
  subst hm
  have hl : cur.toList.length = cur.size := Array.length_toList
  have h1 : (over cur o cs).toList = (cur.toList.take o ++ cs) ++ cur.toList.drop (o + cs.length) := rfl
  have h2 : (cur.toList.take o ++ cs).length = o + cs.length := by rw [List.length_append, List.length_take, hl]; omega
  rw [h1, List.take_append_of_le_length (by omega), List.take_of_length_le (by omega)]
/-- a row with a gap opened at i, and the gap filled -/
theorem over_two {cur : Array Value} {xs ys : List Value} {i m q : Nat} (hx : cur.toList.take q = xs) (hq : xs.length = q) (hi : i ≤ q) (hm : ys.length = m) (hfit : q + m ≤ cur.size) :
    (over (over cur (i + m) (xs.drop i)) i ys).toList.take (q + m) = xs.take i ++ (ys ++ xs.drop i) := by
  have hl : cur.toList.length = cur.size := Array.length_toList
  have h1 : (over cur (i + m) (xs.drop i)).toList = cur.toList.take (i + m) ++ xs.drop i ++ cur.toList.drop (q + m) := by
    rw [over, List.length_drop, hq, show i + m + (q - i) = q + m by omega]
  have h2 : cur.toList.take i = xs.take i := by rw [← hx, List.take_take, Nat.min_eq_left hi]
  have h3 : (over cur (i + m) (xs.drop i)).toList.take i = xs.take i := by
    rw [h1, List.append_assoc, List.take_append_of_le_length (by rw [List.length_take]; omega), List.take_take, Nat.min_eq_left (by omega), h2]
  have h4 : (over cur (i + m) (xs.drop i)).toList.drop (i + m) = xs.drop i ++ cur.toList.drop (q + m) := by
    rw [h1, List.append_assoc, List.drop_append_of_le_length (by rw [List.length_take]; omega), List.drop_of_length_le (by rw [List.length_take]; omega), List.nil_append]
  rw [over, h3, hm, h4]
  simp only []
  rw [← List.append_assoc, ← List.append_assoc, List.take_append_of_le_length (by simp only [List.length_append, List.length_take, List.length_drop]; omega), List.take_of_length_le (by simp only [List.length_append, List.length_take, List.length_drop]; omega)]
end Go.Proofs.Ytgngoedooemboaa.mem
