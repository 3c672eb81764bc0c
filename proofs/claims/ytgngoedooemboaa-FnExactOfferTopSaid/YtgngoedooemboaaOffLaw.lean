/- A record offered to a top list: where it goes, and what the list is then. No program. -/
import Derived.Test.YtgngoedooemboaaTopL
set_option linter.unusedVariables false
set_option linter.unusedSimpArgs false
namespace Go.Proofs.Ytgngoedooemboaa.tops
open Go.RowKit Go.Proofs.Ytgngoedooemboaa.mem Go.Proofs.Ytgngoedooemboaa.stb
open Go.Proofs.Ytgngoedooemboaa.ins (inB inB_iff)
open Go.Proofs.Ytgngoedooemboaa.vrecs (vrec vrec_len)

/-- where a record goes in a falling list -/
def at' (l : List Rec) (r : Rec) : Nat := pos ltT r l l.length
theorem at_le (l : List Rec) (r : Rec) : at' l r ≤ l.length := pos_le r l _
theorem at_past {l : List Rec} {r : Rec} {i : Nat} (hi : i < l.length) (h : i ≤ at' l r) (hk : r.key ≤ l[i].key) : i + 1 ≤ at' l r := by
  by_cases he : at' l r ≤ i
  · have := pos_above r l l.length i he hi l[i] (List.getElem?_eq_getElem hi)
    simp only [ltT, decide_eq_true_eq] at this
    omega
  · omega
theorem at_stop {l : List Rec} {r : Rec} (hf : fallsB l = true) {i : Nat} (hi : i < l.length) (h : i ≤ at' l r) (hk : l[i].key < r.key) : at' l r = i := by
  by_cases he : at' l r = i
  · exact he
  · have hp : 0 < at' l r := by omega
    have hl := at_le l r
    obtain ⟨y, hy, hlt⟩ := pos_last r l l.length (Nat.le_refl _) hp
    have h2 := asc_at weakT (falls_asc hf) (p := i) (q := at' l r - 1) (by omega) (List.getElem?_eq_getElem hi) hy
    simp only [ltT, decide_eq_false_iff_not] at hlt h2
    omega
def okO (l : List Rec) (k : Int) (r : Rec) : Bool := okL l k && vrec [r]
/-- whether the record goes in -/
def inO (l : List Rec) (k : Int) (r : Rec) : Bool := okO l k r && !decide ((at' l r : Int) = k)
def resO (l : List Rec) (k : Int) (r : Rec) : List Rec := if okO l k r = true then (if (at' l r : Int) = k then l else (insR ltT l r).take k.toNat) else []
theorem okL_len' {l : List Rec} {k : Int} (h : okL l k = true) : (1 ≤ k ∧ k ≤ 16) ∧ (l.length : Int) ≤ k ∧ vrec l = true ∧ fallsB l = true := by
  simp only [okL, Bool.and_eq_true, decide_eq_true_eq] at h
  exact ⟨inB_iff.1 h.1, h.2.1, h.2.2.1, h.2.2.2⟩
theorem resO_len (l : List Rec) (k : Int) (r : Rec) : (resO l k r).length ≤ 1048576 := by
  unfold resO
  split
  · rename_i h
    simp only [okO, Bool.and_eq_true] at h
    have := okL_len' h.1
    split
    · omega
    · rw [List.length_take]; omega
  · simp
/-- the reference: the greatest k of the list with the record behind it -/
theorem tp_off {l : List Rec} (hf : fallsB l = true) (r : Rec) (k : Nat) : tp (l ++ [r]) k = (insR ltT l r).take k := by
  rw [tp, stab_snoc, stab_of_asc l (falls_asc hf)]
theorem ins_at (l : List Rec) (r : Rec) : insR ltT l r = l.take (at' l r) ++ ([r] ++ l.drop (at' l r)) := by simp [insR, at']
end Go.Proofs.Ytgngoedooemboaa.tops
