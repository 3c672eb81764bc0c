/- Slices of slices, and slices that are not the call's own. No condition. -/
import Derived.Test.YtgffabjajbgbjaaMem
import Derived.Test.YtgffabjajbgbjaaRec
set_option linter.unusedVariables false
set_option linter.unusedSimpArgs false
namespace Go.Proofs.Ytgffabjajbgbjaa.mem
open Go.RowKit

theorem info_str : (Try.prog.info? 9).map (fun i => (i.zero, i.size, i.bytes)) = some (some (.string ByteArray.empty), 1, 16) := by kernel_rfl
theorem Rd.str_at {w : World} {b off : Nat} {zs : List ByteArray} (h : Rd w 1 (some ⟨b, off, none⟩) zs.length (strs zs)) {k : Nat} (hk : k < zs.length) : w.cell? ⟨b, off + k, none⟩ = some (.string zs[k]) := by
  obtain ⟨b', o', he, h'⟩ := h.str hk
  injection he with he
  injection he with he1 he2
  rw [he1, he2]; exact h'
theorem Rd.int_at {w : World} {b off : Nat} {zs : List Int} (h : Rd w 1 (some ⟨b, off, none⟩) zs.length (ints zs)) {k : Nat} (hk : k < zs.length) : w.cell? ⟨b, off + k, none⟩ = some (.int .i64 zs[k]) := by
  obtain ⟨b', o', he, h'⟩ := h.int hk
  injection he with he
  injection he with he1 he2
  rw [he1, he2]; exact h'
/-- the value v is a slice of n elements that reads as the cells xs -/
def SL (w : World) (sz : Nat) (v : Value) (n : Nat) (xs : List Value) : Prop := ∃ A c, v = .slice A n c ∧ n ≤ c ∧ c ≤ maxLen ∧ Rd w sz A n xs
theorem SL.below {w w' : World} {sz n : Nat} {v : Value} {xs : List Value} (h : SL w sz v n xs) (hb : Below w.heap.size w w') : SL w' sz v n xs := by
  obtain ⟨A, c, h1, h2, h3, h4⟩ := h
  exact ⟨A, c, h1, h2, h3, h4.below hb⟩
theorem SL.of_own {w : World} {base : Nat} {e : TypeId} {sz n : Nat} {v : Value} {xs : List Value} (h : w.ownsRow base e sz v n xs) : SL w sz v n xs := own_form h
theorem SL.one {w : World} {sz n : Nat} {v : Value} {xs : List Value} (h : SL w sz v n xs) : v.oneCell' = true := by
  obtain ⟨A, c, rfl, _⟩ := h; rfl
/-- the same on a list of slices: the j-th reads as the j-th list of cells -/
def SLs (w : World) (sz : Nat) (vs : List Value) (xss : List (Nat × List Value)) : Prop := vs.length = xss.length ∧ ∀ i (h : i < xss.length) (h' : i < vs.length), SL w sz vs[i] xss[i].1 xss[i].2
theorem SLs.below {w w' : World} {sz : Nat} {vs : List Value} {xss : List (Nat × List Value)} (h : SLs w sz vs xss) (hb : Below w.heap.size w w') : SLs w' sz vs xss :=
  ⟨h.1, fun i h1 h2 => (h.2 i h1 h2).below hb⟩
theorem SLs.nil {w : World} {sz : Nat} : SLs w sz [] [] := ⟨rfl, fun i h => absurd h (by simp)⟩
theorem SLs.cons {w : World} {sz n : Nat} {v : Value} {vs xs : List Value} {xss : List (Nat × List Value)} (h : SL w sz v n xs) (hs : SLs w sz vs xss) : SLs w sz (v :: vs) ((n, xs) :: xss) := by
  refine ⟨by simp [hs.1], fun i h1 h2 => ?_⟩
  cases i with
  | zero => exact h
  | succ i => exact hs.2 i (by simpa using h1) (by simpa using h2)
theorem SLs.one {w : World} {sz : Nat} {vs : List Value} {xss : List (Nat × List Value)} (h : SLs w sz vs xss) : ∀ u ∈ vs, u.oneCell' = true := by
  intro u hu
  obtain ⟨i, hi, rfl⟩ := List.getElem_of_mem hu
  exact (h.2 i (by rw [← h.1]; exact hi) hi).one
/-- a row of a block that is known whole -/
theorem Blk.rd_all {w : World} {g : Nat} {t : TypeId} {xs : List Value} (h : Blk w g t xs.toArray) : Rd w 1 (some ⟨g, 0, none⟩) xs.length xs :=
  h.rd (by omega) (by rw [Nat.mul_one]; simp)
end Go.Proofs.Ytgffabjajbgbjaa.mem
