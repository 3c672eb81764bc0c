/- Valid summaries: the plain law. No condition. -/
import Derived.Test.YtlckeefjhafloaaRkv
import Derived.Test.YtlckeefjhafloaaIn
set_option linter.unusedVariables false
set_option linter.unusedSimpArgs false
namespace Go.Proofs.Ytlckeefjhafloaa.smy
open Go.RowKit Go.Proofs.Ytlckeefjhafloaa.mem
open Go.Proofs.Ytlckeefjhafloaa.ins (inB inB_true inB_false inB_iff)

def z0 : Rkv := ⟨0, 0, 0⟩
def oke (cnt : Int) (x : Rkv) : Bool := inB x.value (-100000) 100000 && (inB x.least 1 x.most && decide (x.most ≤ cnt))
def okp (p x : Rkv) : Bool := decide (p.value ≤ x.value) && (decide (p.least < x.least) && decide (p.most < x.most))
def okB (cnt : Int) (l : List Rkv) : Nat → Bool
  | 0 => true
  | k + 1 => okB cnt l k && (oke cnt (l.getD k z0) && (decide (k = 0) || okp (l.getD (k - 1) z0) (l.getD k z0)))
def hd (cnt : Int) (n : Nat) : Bool := inB cnt 0 1000 && (decide (n ≤ 64) && (decide (n = 0) == decide (cnt = 0)))
def ends (cnt : Int) (l : List Rkv) : Bool := decide (l.length = 0) || (decide ((l.getD 0 z0).most = 1) && decide ((l.getD (l.length - 1) z0).least = cnt))
def vsmy (cnt : Int) (l : List Rkv) : Bool := hd cnt l.length && (okB cnt l l.length && ends cnt l)
theorem okB_mono (cnt : Int) (l : List Rkv) {j : Nat} : ∀ {k : Nat}, j ≤ k → okB cnt l k = true → okB cnt l j = true
  | 0, h, hk => by obtain rfl : j = 0 := by omega
                   exact hk
  | k + 1, h, hk => by
    by_cases e : j = k + 1
    · subst e; exact hk
    · simp only [okB, Bool.and_eq_true] at hk
      exact okB_mono cnt l (k := k) (by omega) hk.1
theorem vsmy_hd {cnt : Int} {l : List Rkv} (h : hd cnt l.length = false) : vsmy cnt l = false := by simp [vsmy, h]
theorem vsmy_bad {cnt : Int} {l : List Rkv} {k : Nat} (hk : k < l.length) (h : okB cnt l (k + 1) = false) : vsmy cnt l = false := by
  have : okB cnt l l.length = false := by
    cases h2 : okB cnt l l.length with
    | false => rfl
    | true => have := okB_mono cnt l (j := k + 1) (by omega) h2; rw [h] at this; cases this
  simp [vsmy, this]
theorem vsmy_end {cnt : Int} {l : List Rkv} (h0 : hd cnt l.length = true) (h1 : okB cnt l l.length = true) : vsmy cnt l = ends cnt l := by simp [vsmy, h0, h1]
theorem okB_step {cnt : Int} {l : List Rkv} {k : Nat} (h : okB cnt l k = true) : okB cnt l (k + 1) = (oke cnt (l.getD k z0) && (decide (k = 0) || okp (l.getD (k - 1) z0) (l.getD k z0))) := by simp [okB, h]
theorem getD_r (l : List Rkv) {i : Nat} (h : i < l.length) : l.getD i z0 = l[i] := by
  rw [List.getD_eq_getElem?_getD, List.getElem?_eq_getElem h]; rfl
/-- what a valid summary promises -/
theorem vsmy_cnt {cnt : Int} {l : List Rkv} (h : vsmy cnt l = true) : 0 ≤ cnt ∧ cnt ≤ 1000 ∧ l.length ≤ 64 ∧ (l.length = 0 ↔ cnt = 0) := by
  simp only [vsmy, hd, Bool.and_eq_true, decide_eq_true_eq, beq_iff_eq, decide_eq_decide] at h
  obtain ⟨⟨h1, h2, h3⟩, _⟩ := h
  have := inB_iff.1 h1
  exact ⟨this.1, this.2, h2, h3⟩
theorem vsmy_at {cnt : Int} {l : List Rkv} (h : vsmy cnt l = true) {k : Nat} (hk : k < l.length) :
    -100000 ≤ l[k].value ∧ l[k].value ≤ 100000 ∧ 1 ≤ l[k].least ∧ l[k].least ≤ l[k].most ∧ l[k].most ≤ cnt := by
  simp only [vsmy, Bool.and_eq_true] at h
  have h2 := okB_mono cnt l (j := k + 1) (by omega) h.2.1
  simp only [okB, Bool.and_eq_true] at h2
  have h3 := h2.2.1
  rw [getD_r l hk] at h3
  simp only [oke, Bool.and_eq_true, decide_eq_true_eq] at h3
  have a := inB_iff.1 h3.1
  have b := inB_iff.1 h3.2.1
  exact ⟨a.1, a.2, b.1, b.2, h3.2.2⟩
theorem vsmy_next {cnt : Int} {l : List Rkv} (h : vsmy cnt l = true) {k : Nat} (hk : k + 1 < l.length) :
    l[k].value ≤ l[k + 1].value ∧ l[k].least < l[k + 1].least ∧ l[k].most < l[k + 1].most := by
  simp only [vsmy, Bool.and_eq_true] at h
  have h2 := okB_mono cnt l (j := k + 1 + 1) (by omega) h.2.1
  simp only [okB, Bool.and_eq_true] at h2
  have h3 := h2.2.2
  rw [getD_r l hk, Nat.add_sub_cancel, getD_r l (by omega)] at h3
  simpa [okp] using h3
theorem vsmy_ends {cnt : Int} {l : List Rkv} (h : vsmy cnt l = true) (h0 : 0 < l.length) : l[0].most = 1 ∧ (l[l.length - 1]'(by omega)).least = cnt := by
  simp only [vsmy, Bool.and_eq_true] at h
  have h2 := h.2.2
  simp only [ends, Bool.or_eq_true, Bool.and_eq_true, decide_eq_true_eq] at h2
  rcases h2 with h2 | h2
  · omega
  · rw [getD_r l h0, getD_r l (by omega)] at h2; exact h2
end Go.Proofs.Ytlckeefjhafloaa.smy
