/- Strings in order: the stable sort by the strings themselves is the library's sort. No condition. -/
import Derived.Test.YtaeimdcmpjanbaaDoorStbLaw
import Derived.Sort.EncStr
import Derived.Test.YtaeimdcmpjanbaaDoorAscStr
set_option linter.unusedVariables false
set_option linter.unusedSimpArgs false
namespace Go.Proofs.YtaeimdcmpjanbaaDoor.ssLaw
open Go.RowKit Go.Proofs.YtaeimdcmpjanbaaDoor.mem Go.Proofs.YtaeimdcmpjanbaaDoor.stb
open Go.Proofs.YtaeimdcmpjanbaaDoor.ascStr (lt)

theorem less_eq : ∀ (x y : List UInt8), Op.bytesLess x y = decide (x < y)
  | [], [] => by simp [Op.bytesLess]
  | _ :: _, [] => by simp [Op.bytesLess]
  | [], _ :: _ => by simp [Op.bytesLess]
  | a :: x, b :: y => by
    rw [Op.bytesLess, less_eq x y]
    simp only [List.cons_lt_cons_iff]
    by_cases h1 : a < b <;> by_cases h2 : a = b <;> by_cases h3 : x < y <;> simp [h1, h2, h3]
def bs (s : ByteArray) : List UInt8 := s.data.toList
theorem bs_inj {x y : ByteArray} (h : bs x = bs y) : x = y := by
  cases x; cases y; simp only [bs] at h; congr 1; exact Array.ext' h
theorem lt_eq (x y : ByteArray) : lt x y = decide (bs x < bs y) := by
  rw [lt, less_eq, ByteArray.toList_eq, ByteArray.toList_eq]; rfl
theorem weak : Weak lt := by
  refine ⟨fun x => ?_, fun x y z h1 h2 => ?_, fun x y z h1 h2 => ?_⟩
  · rw [lt_eq]; simp
  · rw [lt_eq] at *
    simp only [decide_eq_true_eq] at *
    exact List.lt_trans h1 h2
  · rw [lt_eq] at *
    simp only [decide_eq_false_iff_not, List.not_lt] at *
    exact List.le_trans h1 h2
/-- what the strings are, sorted -/
def ss (l : List ByteArray) : List ByteArray := stab lt l
theorem ss_len (l : List ByteArray) : (ss l).length = l.length := stab_len l
theorem ss_mem {l : List ByteArray} {s : ByteArray} : s ∈ ss l ↔ s ∈ l := (stab_perm l).mem_iff
theorem ss_lib (l : List ByteArray) : ((l.map bs).mergeSort fun x y => decide (x ≤ y)) = (ss l).map bs := by
  have h1 : ((l.map bs).mergeSort fun x y => decide (x ≤ y)).Perm (l.map bs) := List.mergeSort_perm _ _
  have h2 : ((ss l).map bs).Perm (l.map bs) := (stab_perm l).map bs
  have s1 : ((l.map bs).mergeSort fun x y => decide (x ≤ y)).Pairwise (· ≤ ·) := by
    have h := List.pairwise_mergeSort (le := fun x y : List UInt8 => decide (x ≤ y)) (fun a b c h1 h2 => by simp only [decide_eq_true_eq] at *; exact List.le_trans h1 h2) (fun a b => by simp only [Bool.or_eq_true, decide_eq_true_eq]; exact List.le_total a b) (l.map bs)
    exact h.imp fun hab => by simpa using hab
  have s2 : ((ss l).map bs).Pairwise (· ≤ ·) := by
    rw [List.pairwise_map]
    refine (stab_asc weak l).imp fun hab => ?_
    rw [lt_eq] at hab
    simpa using hab
  exact List.Perm.eq_of_pairwise (fun a b _ _ h1 h2 => List.le_antisymm h1 h2) s1 s2 (h1.trans h2.symm)
theorem strs_enc (l : List ByteArray) : strs l = (l.map bs).map Go.Proofs.encStr := by
  simp only [strs, List.map_map]
  refine List.map_congr_left fun s _ => ?_
  simp [bs, Go.Proofs.encStr]
end Go.Proofs.YtaeimdcmpjanbaaDoor.ssLaw
