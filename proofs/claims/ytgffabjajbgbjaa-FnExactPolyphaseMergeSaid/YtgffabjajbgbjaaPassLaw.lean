/- One pass that merges groups of runs: what it makes, and how many comparisons are counted. No program. -/
import Derived.Test.YtgffabjajbgbjaaTnCu
set_option linter.unusedVariables false
set_option linter.unusedSimpArgs false
namespace Go.Proofs.Ytgffabjajbgbjaa.tn
open Go.RowKit Go.Proofs.Ytgffabjajbgbjaa.mem

def mp (W : Nat) : Nat → List (List Rec) → List (List Rec) × Nat
  | 0, _ => ([], 0)
  | f + 1, rs => if rs.isEmpty = true then ([], 0) else
    ((km (tot (rs.take W)) (rs.take W)).1 :: (mp W f (rs.drop W)).1, ((rs.take W).length - 1 + (km (tot (rs.take W)) (rs.take W)).2) + (mp W f (rs.drop W)).2)
theorem mp_end (W f : Nat) : mp W f [] = ([], 0) := by cases f <;> rfl
theorem mp_step {W f : Nat} {rs : List (List Rec)} (h : 0 < rs.length) : mp W (f + 1) rs =
    ((km (tot (rs.take W)) (rs.take W)).1 :: (mp W f (rs.drop W)).1, ((rs.take W).length - 1 + (km (tot (rs.take W)) (rs.take W)).2) + (mp W f (rs.drop W)).2) := by
  rw [mp, if_neg (by cases rs <;> simp at h ⊢)]
theorem tot_cons (r : List Rec) (rs : List (List Rec)) : tot (r :: rs) = r.length + tot rs := by simp [tot]
theorem tot_cut (rs : List (List Rec)) (n : Nat) : tot (rs.take n) + tot (rs.drop n) = tot rs := by
  unfold tot
  rw [← List.sum_append, ← List.map_append, List.take_append_drop]
theorem mem_tot {rs : List (List Rec)} {r : List Rec} (h : r ∈ rs) : r.length ≤ tot rs := by
  induction rs with
  | nil => cases h
  | cons a rs ih =>
    rw [tot_cons]
    rcases List.mem_cons.1 h with rfl | h
    · omega
    · have := ih h; omega
theorem mp_len (W : Nat) : ∀ (f : Nat) (rs : List (List Rec)), (mp W f rs).1.length ≤ f
  | 0, rs => Nat.le_refl _
  | f + 1, rs => by
    by_cases h : 0 < rs.length
    · rw [mp_step h]
      have := mp_len W f (rs.drop W)
      simp only [List.length_cons]; omega
    · obtain rfl : rs = [] := List.eq_nil_of_length_eq_zero (by omega)
      rw [mp_end]; exact Nat.zero_le _
theorem mp_tot (W : Nat) : ∀ (f : Nat) (rs : List (List Rec)), tot (mp W f rs).1 ≤ tot rs
  | 0, rs => by simp [mp, tot]
  | f + 1, rs => by
    by_cases h : 0 < rs.length
    · rw [mp_step h]
      have h1 := mp_tot W f (rs.drop W)
      have h2 := km_len (tot (rs.take W)) (rs.take W)
      have h3 := tot_cut rs W
      simp only [tot_cons]; omega
    · obtain rfl : rs = [] := List.eq_nil_of_length_eq_zero (by omega)
      rw [mp_end]; simp [tot]
theorem mp_cost {W : Nat} (h0 : 0 < W) (hW : W ≤ 16) : ∀ (f : Nat) (rs : List (List Rec)), (mp W f rs).2 ≤ f * 16 + 1024 * tot rs
  | 0, rs => by simp [mp]
  | f + 1, rs => by
    by_cases h : 0 < rs.length
    · rw [mp_step h]
      have h1 := mp_cost h0 hW f (rs.drop W)
      have hl : (rs.take W).length ≤ W := by rw [List.length_take]; omega
      have h2 := km_cost (tot (rs.take W)) (rs.take W) (by rw [List.length_take]; omega) (by omega)
      have h3 := tot_cut rs W
      show ((rs.take W).length - 1 + (km (tot (rs.take W)) (rs.take W)).2) + (mp W f (rs.drop W)).2 ≤ _
      omega
    · obtain rfl : rs = [] := List.eq_nil_of_length_eq_zero (by omega)
      rw [mp_end]; exact Nat.zero_le _
theorem km_one : ∀ (l : List Rec) (f : Nat), l.length ≤ f → km f [l] = (l, 0)
  | [], f, _ => km_done (f := f) (rs := [[]]) (by
      have h : wn [([] : List Rec)] = 0 := by
        have := wn_lt (rs := [([] : List Rec)]) (by simp)
        simp at this; exact this
      rw [h]; rfl)
  | x :: t, 0, h => absurd h (by simp)
  | x :: t, f + 1, h => by
    have hw : wn [x :: t] = 0 := by
      have := wn_lt (rs := [x :: t]) (by simp)
      simpa using this
    rw [km_step (rs := [x :: t]) (x := x) (t := t) (by rw [hw]; rfl), hw]
    have e : [x :: t].set 0 t = [t] := rfl
    rw [e, km_one t f (by simpa using h)]
    show (x :: t, up ((1 + 0) / 2) + 0) = _
    rw [show (1 + 0) / 2 = 0 by rfl, up_zero]
theorem mp_one {W f : Nat} {rs : List (List Rec)} {l : List Rec} (h : rs.take W = [l]) : mp W (f + 1) rs = (l :: (mp W f (rs.drop W)).1, (mp W f (rs.drop W)).2) := by
  have h0 : 0 < rs.length := by
    cases rs with
    | nil => simp at h
    | cons a r => simp
  rw [mp_step h0, h, show tot [l] = l.length by simp [tot], km_one l l.length (Nat.le_refl _)]
  simp
end Go.Proofs.Ytgffabjajbgbjaa.tn
