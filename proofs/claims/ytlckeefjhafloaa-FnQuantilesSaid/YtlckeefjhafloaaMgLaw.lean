/- Merged summaries: the plain law. No condition. -/
import Derived.Test.YtlckeefjhafloaaSmy
set_option linter.unusedVariables false
set_option linter.unusedSimpArgs false
namespace Go.Proofs.Ytlckeefjhafloaa.mgLaw
open Go.RowKit Go.Proofs.Ytlckeefjhafloaa.mem Go.Proofs.Ytlckeefjhafloaa.smy

/-- an entry among those of another summary, of which the first k stand ahead of it -/
def moved (x : Rkv) (cnt : Int) (o : List Rkv) (k : Nat) : Rkv :=
  ⟨x.value, x.least + (if k = 0 then 0 else (o.getD (k - 1) z0).least), x.most + (if k < o.length then (o.getD k z0).most - 1 else cnt)⟩
/-- the test of the program: does y stand ahead of x? -/
def ahead (late : Bool) (x y : Rkv) : Bool := decide (y.value < x.value) || (late && decide (y.value = x.value))
def pos (late : Bool) (x : Rkv) (o : List Rkv) : Nat := (o.takeWhile (ahead late x)).length
def placed (l : List Rkv) (cnt : Int) (o : List Rkv) (late : Bool) : List Rkv := l.map fun x => moved x cnt o (pos late x o)
theorem pos_le (late : Bool) (x : Rkv) (o : List Rkv) : pos late x o ≤ o.length := (List.takeWhile_sublist _).length_le
/-- merging by value, ties to the first -/
def mrg : List Rkv → List Rkv → List Rkv
  | [], y => y
  | x, [] => x
  | a :: x, b :: y => if a.value ≤ b.value then a :: mrg x (b :: y) else b :: mrg (a :: x) y
/-- the reference's way -/
def un (ca cb : Int) (a b : List Rkv) : Nat → Nat → Nat → List Rkv
  | 0, _, _ => []
  | f + 1, i, k =>
    if i < a.length ∨ k < b.length then
      if k = b.length ∨ (i < a.length ∧ (a.getD i z0).value ≤ (b.getD k z0).value) then moved (a.getD i z0) cb b k :: un ca cb a b f (i + 1) k
      else moved (b.getD k z0) ca a i :: un ca cb a b f i (k + 1)
    else []
theorem pos_is {late : Bool} {x : Rkv} {o : List Rkv} {k : Nat} (hk : k ≤ o.length) (h1 : ∀ j (h : j < o.length), j < k → ahead late x o[j] = true) (h2 : ∀ (h : k < o.length), ahead late x o[k] = false) : pos late x o = k := by
  unfold pos
  induction o generalizing k with
  | nil => simp at hk; subst hk; rfl
  | cons y r ih =>
    cases k with
    | zero =>
      have := h2 (by simp)
      simp only [List.getElem_cons_zero] at this
      rw [List.takeWhile_cons, this]; rfl
    | succ k =>
      have h0 := h1 0 (by simp) (by omega)
      simp only [List.getElem_cons_zero] at h0
      rw [List.takeWhile_cons, h0]
      simp only [if_true, List.length_cons]
      rw [ih (k := k) (by simpa using hk) (fun j h hj => by have := h1 (j + 1) (by simpa using h) (by omega); simpa using this) (fun h => by have := h2 (by simpa using h); simpa using this)]
def Asc (l : List Rkv) : Prop := ∀ i (h : i + 1 < l.length), (l[i]'(by omega)).value ≤ l[i + 1].value
theorem asc_of {cnt : Int} {l : List Rkv} (h : vsmy cnt l = true) : Asc l := fun i hi => (vsmy_next h hi).1
theorem asc_le {l : List Rkv} (h : Asc l) (i : Nat) : ∀ (d : Nat) (hd : i + d < l.length), (l[i]'(by omega)).value ≤ (l[i + d]'hd).value
  | 0, hd => Int.le_refl _
  | d + 1, hd => by
    have h1 := asc_le h i d (by omega)
    have h2 := h (i + d) (by omega)
    have e : i + (d + 1) = i + d + 1 := by omega
    simp only [e]
    omega
theorem placed_drop {l : List Rkv} {cnt : Int} {o : List Rkv} {late : Bool} {i : Nat} (h : i < l.length) : (placed l cnt o late).drop i = moved l[i] cnt o (pos late l[i] o) :: (placed l cnt o late).drop (i + 1) := by
  rw [List.drop_eq_getElem_cons (by simpa [placed] using h)]
  simp [placed]
/-- both ways give the same list -/
theorem un_mrg (ca cb : Int) (a b : List Rkv) (ha : Asc a) (hb : Asc b) : ∀ (f i k : Nat), a.length - i + (b.length - k) ≤ f → i ≤ a.length → k ≤ b.length →
    (∀ j (h : j < k) (h2 : i < a.length) (h3 : j < b.length), b[j].value < a[i].value) → (∀ j (h : j < i) (h2 : k < b.length) (h3 : j < a.length), a[j].value ≤ b[k].value) →
    mrg ((placed a cb b false).drop i) ((placed b ca a true).drop k) = un ca cb a b f i k
  | 0, i, k, hf, hi, hk, h1, h2 => by
    have e1 : (placed a cb b false).drop i = [] := by rw [List.drop_eq_nil_iff]; simp [placed]; omega
    have e2 : (placed b ca a true).drop k = [] := by rw [List.drop_eq_nil_iff]; simp [placed]; omega
    rw [e1, e2]; simp [mrg, un]
  | f + 1, i, k, hf, hi, hk, h1, h2 => by
    have posA : ∀ (h : i < a.length), (∀ (h' : k < b.length), a[i].value ≤ b[k].value) → pos false a[i] b = k := fun h hle =>
      pos_is hk (fun j hj hjk => by have := h1 j hjk h hj; simp [ahead, this]) (fun h' => by have := hle h'; simp [ahead]; omega)
    have posB : ∀ (h : k < b.length), (∀ (h' : i < a.length), b[k].value < a[i].value) → pos true b[k] a = i := fun h hlt =>
      pos_is hi (fun j hj hjk => by have := h2 j hjk h hj; simp [ahead]; omega) (fun h' => by have := hlt h'; simp [ahead]; omega)
    have stepA : ∀ (h : i < a.length), ∀ j (hj : j < k) (h2' : i + 1 < a.length) (h3 : j < b.length), b[j].value < a[i + 1].value := fun h j hj h2' h3 => by
      have := h1 j hj h h3; have := ha i h2'; omega
    have stepB : ∀ (h : k < b.length), ∀ j (hj : j < i) (h2' : k + 1 < b.length) (h3 : j < a.length), a[j].value ≤ b[k + 1].value := fun h j hj h2' h3 => by
      have := h2 j hj h h3; have := hb k h2'; omega
    rw [un]
    by_cases hA : i < a.length
    · rw [if_pos (Or.inl hA)]
      by_cases hB : k < b.length
      · by_cases hc : a[i].value ≤ b[k].value
        · rw [if_pos (Or.inr ⟨hA, by rw [getD_r a hA, getD_r b hB]; exact hc⟩)]
          rw [placed_drop hA, placed_drop hB, mrg, if_pos (by simpa [moved] using hc), posA hA (fun _ => hc), getD_r a hA]
          congr 1
          rw [← placed_drop hB]
          exact un_mrg ca cb a b ha hb f (i + 1) k (by omega) (by omega) hk (stepA hA) (fun j hj h2' h3 => by
            by_cases e : j = i
            · subst e; exact hc
            · exact h2 j (by omega) h2' h3)
        · have hn : ¬ (k = b.length ∨ (i < a.length ∧ (a.getD i z0).value ≤ (b.getD k z0).value)) := by
            rw [getD_r a hA, getD_r b hB]; omega
          rw [if_neg hn]
          rw [placed_drop hA, placed_drop hB, mrg, if_neg (by simpa [moved] using hc), posB hB (fun _ => by omega), getD_r b hB]
          congr 1
          rw [← placed_drop hA]
          exact un_mrg ca cb a b ha hb f i (k + 1) (by omega) hi (by omega) (fun j hj h2' h3 => by
            by_cases e : j = k
            · subst e; omega
            · exact h1 j (by omega) h2' h3) (stepB hB)
      · rw [if_pos (Or.inl (by omega))]
        have e2 : (placed b ca a true).drop k = [] := by rw [List.drop_eq_nil_iff]; simp [placed]; omega
        have ih := un_mrg ca cb a b ha hb f (i + 1) k (by omega) (by omega) hk (stepA hA) (fun j hj h2' h3 => absurd h2' hB)
        rw [e2] at ih ⊢
        rw [placed_drop hA, posA hA (fun h => absurd h hB), getD_r a hA, ← ih]
        cases (placed a cb b false).drop (i + 1) <;> simp [mrg]
    · by_cases hB : k < b.length
      · rw [if_pos (Or.inr hB)]
        have hn : ¬ (k = b.length ∨ (i < a.length ∧ (a.getD i z0).value ≤ (b.getD k z0).value)) := by omega
        rw [if_neg hn]
        have e1 : (placed a cb b false).drop i = [] := by rw [List.drop_eq_nil_iff]; simp [placed]; omega
        have ih := un_mrg ca cb a b ha hb f i (k + 1) (by omega) hi (by omega) (fun j hj h2' h3 => absurd h2' hA) (stepB hB)
        rw [e1] at ih ⊢
        rw [placed_drop hB, posB hB (fun h => absurd h hA), getD_r b hB, ← ih]
        simp [mrg]
      · rw [if_neg (by omega)]
        have e1 : (placed a cb b false).drop i = [] := by rw [List.drop_eq_nil_iff]; simp [placed]; omega
        have e2 : (placed b ca a true).drop k = [] := by rw [List.drop_eq_nil_iff]; simp [placed]; omega
        rw [e1, e2]; simp [mrg]
def union (ca cb : Int) (a b : List Rkv) : List Rkv := un ca cb a b (a.length + b.length) 0 0
theorem union_mrg {ca cb : Int} {a b : List Rkv} (ha : Asc a) (hb : Asc b) : mrg (placed a cb b false) (placed b ca a true) = union ca cb a b :=
  un_mrg ca cb a b ha hb (a.length + b.length) 0 0 (by omega) (by omega) (by omega) (fun j h => by omega) (fun j h => by omega)
end Go.Proofs.Ytlckeefjhafloaa.mgLaw
