/- Multikey quicksort: the plain law of its recursion. No condition. -/
import Derived.WalkKit
set_option linter.unusedVariables false
set_option linter.unusedSimpArgs false
namespace Go.Proofs.Ytaeimdcmpjanbaa.multi
def chr (s : ByteArray) (d : Nat) : Int := if h : d < s.size then ((s[d]).toNat : Int) else -1
theorem chr_lo (s : ByteArray) (d : Nat) : -1 ≤ chr s d ∧ chr s d ≤ 255 := by
  unfold chr; split
  · have := (s[d]).toNat_lt; omega
  · omega
theorem chr_in {s : ByteArray} {d : Nat} (h : d < s.size) : chr s d = ((s[d]).toNat : Int) := by simp [chr, h]
theorem chr_out {s : ByteArray} {d : Nat} (h : ¬ d < s.size) : chr s d = -1 := by simp [chr, h]
/-- the measure: an upper bound of the calls to come -/
def M (l : List ByteArray) (d : Nat) : Nat := (l.map fun s => 1 + (s.size - d)).sum
theorem M_filter_le (l : List ByteArray) (d : Nat) (p : ByteArray → Bool) : M (l.filter p) d ≤ M l d := by
  induction l with
  | nil => simp [M]
  | cons s r ih =>
    simp only [M, List.filter_cons, List.map_cons, List.sum_cons] at *
    split
    · simp only [List.map_cons, List.sum_cons]; omega
    · omega
theorem M_filter_lt (l : List ByteArray) (d : Nat) (p : ByteArray → Bool) (x : ByteArray) (hx : x ∈ l) (h : p x = false) : M (l.filter p) d < M l d := by
  induction l with
  | nil => cases hx
  | cons s r ih =>
    have hle := M_filter_le r d p
    simp only [M, List.filter_cons, List.map_cons, List.sum_cons] at *
    rcases List.mem_cons.1 hx with rfl | hx
    · rw [h]; simp only [Bool.false_eq_true, if_false]; omega
    · have := ih hx
      split
      · simp only [List.map_cons, List.sum_cons]; omega
      · omega
theorem M_next (l : List ByteArray) (d : Nat) (h : ∀ s ∈ l, d < s.size) : M l (d + 1) + l.length = M l d := by
  induction l with
  | nil => simp [M]
  | cons s r ih =>
    have := ih (fun s hs => h s (by simp [hs]))
    have h0 := h s (by simp)
    simp only [M, List.map_cons, List.sum_cons, List.length_cons] at *
    omega
def lessL (l : List ByteArray) (d : Nat) (p : Int) : List ByteArray := l.filter fun s => decide (chr s d < p)
def eqL (l : List ByteArray) (d : Nat) (p : Int) : List ByteArray := l.filter fun s => decide (chr s d = p)
def moreL (l : List ByteArray) (d : Nat) (p : Int) : List ByteArray := l.filter fun s => decide (p < chr s d)
theorem len3 (l : List ByteArray) (d : Nat) (p : Int) : (lessL l d p).length + (eqL l d p).length + (moreL l d p).length = l.length := by
  induction l with
  | nil => rfl
  | cons s r ih =>
    simp only [lessL, eqL, moreL, List.filter_cons] at *
    rcases Int.lt_trichotomy (chr s d) p with h | h | h
    · rw [if_pos (by simpa using h), if_neg (by simp; omega), if_neg (by simp; omega)]; simp only [List.length_cons]; omega
    · rw [if_neg (by simp; omega), if_pos (by simpa using h), if_neg (by simp; omega)]; simp only [List.length_cons]; omega
    · rw [if_neg (by simp; omega), if_neg (by simp; omega), if_pos (by simpa using h)]; simp only [List.length_cons]; omega
def piv (l : List ByteArray) (d : Nat) : Int := chr (l.getD (l.length / 2) ByteArray.empty) d
def mk : Nat → List ByteArray → Nat → List ByteArray × Nat
  | 0, l, _ => (l, 0)
  | f + 1, l, d =>
    if l.length < 2 then (l, 0) else
      let a := mk f (lessL l d (piv l d)) d
      let b := if 0 ≤ piv l d then mk f (eqL l d (piv l d)) (d + 1) else (eqL l d (piv l d), 0)
      let e := mk f (moreL l d (piv l d)) d
      (a.1 ++ b.1 ++ e.1, l.length + a.2 + b.2 + e.2)
theorem mk_len : ∀ (f : Nat) (l : List ByteArray) (d : Nat), (mk f l d).1.length = l.length ∧ (mk f l d).2 ≤ l.length * f
  | 0, l, d => by simp [mk]
  | f + 1, l, d => by
    simp only [mk]
    split
    · simp
    · have h3 := len3 l d (piv l d)
      have ha := mk_len f (lessL l d (piv l d)) d
      have hb := mk_len f (eqL l d (piv l d)) (d + 1)
      have he := mk_len f (moreL l d (piv l d)) d
      have hm : l.length * (f + 1) = l.length + ((lessL l d (piv l d)).length * f + (eqL l d (piv l d)).length * f + (moreL l d (piv l d)).length * f) := by
        rw [← Nat.add_mul, ← Nat.add_mul, h3, Nat.mul_add, Nat.mul_one]; omega
      split
      · simp only [List.length_append]; omega
      · simp only [List.length_append]; omega
theorem M_less {l : List ByteArray} {d : Nat} (h : 2 ≤ l.length) : M (lessL l d (piv l d)) d < M l d :=
  M_filter_lt l d _ (l.getD (l.length / 2) ByteArray.empty) (by rw [List.getD_eq_getElem?_getD, List.getElem?_eq_getElem (by omega)]; exact List.getElem_mem _) (by simp [piv])
theorem M_more {l : List ByteArray} {d : Nat} (h : 2 ≤ l.length) : M (moreL l d (piv l d)) d < M l d :=
  M_filter_lt l d _ (l.getD (l.length / 2) ByteArray.empty) (by rw [List.getD_eq_getElem?_getD, List.getElem?_eq_getElem (by omega)]; exact List.getElem_mem _) (by simp [piv])
theorem mem_eqL {l : List ByteArray} {d : Nat} {p : Int} {s : ByteArray} (h : s ∈ eqL l d p) : s ∈ l ∧ chr s d = p := by
  simpa [eqL] using h
theorem M_eq {l : List ByteArray} {d : Nat} (h : 2 ≤ l.length) (hp : 0 ≤ piv l d) : M (eqL l d (piv l d)) (d + 1) < M l d := by
  have h1 := M_next (eqL l d (piv l d)) d (fun s hs => by
    have := (mem_eqL hs).2
    by_cases hd : d < s.size
    · exact hd
    · rw [chr_out hd] at this; omega)
  have h2 := M_filter_le l d (fun s => decide (chr s d = piv l d))
  have h3 : 0 < (eqL l d (piv l d)).length := by
    apply List.length_pos_of_mem (a := l.getD (l.length / 2) ByteArray.empty)
    simp only [eqL, List.mem_filter]
    exact ⟨by rw [List.getD_eq_getElem?_getD, List.getElem?_eq_getElem (by omega)]; exact List.getElem_mem _, by simp [piv]⟩
  unfold eqL at *
  omega
end Go.Proofs.Ytaeimdcmpjanbaa.multi
