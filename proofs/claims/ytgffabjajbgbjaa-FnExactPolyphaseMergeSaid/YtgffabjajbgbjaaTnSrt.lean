/- What a merge by tournaments takes is the stable order of all records. No program. -/
import Derived.Test.YtgffabjajbgbjaaTnKm
import Derived.Test.YtgffabjajbgbjaaStbLaw
set_option linter.unusedVariables false
set_option linter.unusedSimpArgs false
namespace Go.Proofs.Ytgffabjajbgbjaa.tn
open Go.RowKit Go.Proofs.Ytgffabjajbgbjaa.mem Go.Proofs.Ytgffabjajbgbjaa.stb

def ltR (x y : Rec) : Bool := decide (x.key < y.key)
theorem weakR : Weak ltR := weak_up Rec.key
theorem bt_lex (ks : List Int) (ds : List Bool) (i m : Nat) : bt ks ds i m = true ↔ (ds.getD i false = false ∧ ds.getD m false = true) ∨ (ds.getD i false = ds.getD m false ∧ (ks.getD i 0 < ks.getD m 0 ∨ (ks.getD i 0 = ks.getD m 0 ∧ i < m))) := by
  unfold bt
  generalize ks.getD i 0 = a
  generalize ks.getD m 0 = b
  generalize ds.getD i false = p
  generalize ds.getD m false = q
  cases p <;> cases q <;> simp
theorem bt_tr {ks : List Int} {ds : List Bool} {i m n : Nat} (h1 : bt ks ds i m = true) (h2 : bt ks ds m n = true) : bt ks ds i n = true := by
  rw [bt_lex] at *
  rcases h1 with ⟨a1, a2⟩ | ⟨a1, a2⟩ <;> rcases h2 with ⟨b1, b2⟩ | ⟨b1, b2⟩
  · rw [a2] at b1; cases b1
  · exact Or.inl ⟨a1, b1 ▸ a2⟩
  · exact Or.inl ⟨a1.trans b1, b2⟩
  · refine Or.inr ⟨a1.trans b1, ?_⟩
    omega
/-- the winner below a node beats every other leaf below it -/
theorem win_least (ks : List Int) (ds : List Bool) (k : Nat) : ∀ (f j : Nat), 2 * k ≤ j + f → 0 < j → j < 2 * k → ∀ i, i < k → Above k j i → i = win ks ds k j ∨ bt ks ds (win ks ds k j) i = true
  | 0, j, hf, h0, h, i, hi, ha => absurd hf (by omega)
  | f + 1, j, hf, h0, h, i, hi, ha => by
    by_cases hk : k ≤ j
    · left
      rw [win_leaf ks ds hk]
      obtain ⟨t, ht⟩ := ha
      cases t with
      | zero => simp at ht; omega
      | succ t =>
        have := pow_div_le (k + i) (s := t + 1) (by omega)
        omega
    · obtain ⟨t, ht⟩ := ha
      have hsub : Above k (2 * j) i ∨ Above k (2 * j + 1) i := by
        cases t with
        | zero => simp at ht; omega
        | succ t =>
          rw [Nat.pow_succ, ← Nat.div_div_eq_div_mul] at ht
          have : (k + i) / 2 ^ t = 2 * j ∨ (k + i) / 2 ^ t = 2 * j + 1 := by omega
          rcases this with h | h
          · exact Or.inl ⟨t, h⟩
          · exact Or.inr ⟨t, h⟩
      have hap := win_apart ks ds h0 (show j < k by omega)
      have hfl := bt_flip ks ds hap
      rw [win_node ks ds h0 (by omega)]
      rcases hsub with hs | hs
      · have ih := win_least ks ds k f (2 * j) (by omega) (by omega) (by omega) i hi hs
        split
        · rename_i hb
          right
          rcases ih with rfl | ih
          · exact hb
          · exact bt_tr hb ih
        · exact ih
      · have ih := win_least ks ds k f (2 * j + 1) (by omega) (by omega) (by omega) i hi hs
        split
        · exact ih
        · rename_i hb
          right
          have hb2 : bt ks ds (win ks ds k (2 * j)) (win ks ds k (2 * j + 1)) = true := by rw [hfl]; simpa using hb
          rcases ih with rfl | ih
          · exact hb2
          · exact bt_tr hb2 ih
theorem above_root {k i : Nat} (hi : i < k) : Above k 1 i := by
  have key : ∀ n : Nat, 0 < n → ∃ t, n / 2 ^ t = 1 := by
    intro n
    induction n using Nat.strongRecOn with
    | _ n ih =>
      intro h
      by_cases h1 : n = 1
      · exact ⟨0, by simp [h1]⟩
      · obtain ⟨t, ht⟩ := ih (n / 2) (by omega) (by omega)
        exact ⟨t + 1, by rw [Nat.pow_succ, Nat.mul_comm, ← Nat.div_div_eq_div_mul]; exact ht⟩
  exact key (k + i) (by omega)
theorem kys_at (rs : List (List Rec)) (i : Nat) : (kys rs).getD i 0 = hd (rs.getD i []) := by
  unfold kys
  rw [List.getD_eq_getElem?_getD, List.getD_eq_getElem?_getD, List.getElem?_map]
  cases rs[i]? <;> rfl
theorem dns_at {rs : List (List Rec)} {i : Nat} (h : i < rs.length) : (dns rs).getD i false = (rs.getD i []).isEmpty := by
  unfold dns
  rw [List.getD_eq_getElem?_getD, List.getD_eq_getElem?_getD, List.getElem?_map, List.getElem?_eq_getElem h]
  rfl
/-- nothing in front: nothing at all -/
theorem wn_done {rs : List (List Rec)} (h0 : 0 < rs.length) (h : rs.getD (wn rs) [] = []) : rs.flatten = [] := by
  have hw := wn_lt h0
  rw [List.flatten_eq_nil_iff]
  intro r hr
  obtain ⟨i, hi, rfl⟩ := List.getElem_of_mem hr
  have e : rs.getD i [] = rs[i] := by rw [List.getD_eq_getElem?_getD, List.getElem?_eq_getElem hi]; rfl
  rw [← e]
  rcases win_least (kys rs) (dns rs) rs.length (2 * rs.length) 1 (by omega) (by omega) (by omega) i hi (above_root hi) with h1 | h1
  · rw [h1]; exact h
  · have h2 := (bt_lex _ _ _ _).1 h1
    rw [show win (kys rs) (dns rs) rs.length 1 = wn rs from rfl, dns_at hw, dns_at hi, h] at h2
    rcases h2 with ⟨a, _⟩ | ⟨a, _⟩
    · cases a
    · simpa using a.symm
def KAsc (r : List Rec) : Prop := r.Pairwise fun x y => x.key ≤ y.key
theorem mem_ge {x : Rec} {t : List Rec} (h : KAsc (x :: t)) : ∀ y ∈ t, x.key ≤ y.key := (List.pairwise_cons.1 h).1
theorem hd_le {r : List Rec} (h : KAsc r) : ∀ y ∈ r, hd r ≤ y.key := by
  cases r with
  | nil => intro y hy; cases hy
  | cons x t =>
    intro y hy
    rcases List.mem_cons.1 hy with rfl | hy
    · exact Int.le_refl _
    · exact mem_ge h y hy
theorem stab_first {A R : List Rec} {x : Rec} (hA : ∀ y ∈ A, x.key < y.key) (hR : ∀ y ∈ R, x.key ≤ y.key) : stab ltR (A ++ x :: R) = x :: stab ltR (A ++ R) := by
  have h1 : stab ltR (x :: R) = x :: stab ltR R := by
    have := stab_app weakR [x] R
    rw [List.singleton_append, stab_one] at this
    rw [this]
    have hp := stab_perm (lt := ltR) R
    cases hs : stab ltR R with
    | nil => rw [mrg_nil_right]
    | cons y S =>
      have hy : y ∈ R := hp.mem_iff.1 (by rw [hs]; simp)
      rw [mrg_cons, if_neg (by have := hR y hy; simp [ltR]; omega), mrg_nil_left]
  rw [stab_app weakR, h1, stab_app weakR]
  have hp := stab_perm (lt := ltR) A
  cases hs : stab ltR A with
  | nil => rw [mrg_nil_left, mrg_nil_left]
  | cons y S =>
    have hy : y ∈ A := hp.mem_iff.1 (by rw [hs]; simp)
    rw [mrg_cons, if_pos (by have := hA y hy; simp [ltR]; omega)]
theorem flat_cut {rs : List (List Rec)} {w : Nat} (hw : w < rs.length) (r : List Rec) : (rs.set w r).flatten = (rs.take w).flatten ++ (r ++ (rs.drop (w + 1)).flatten) := by
  rw [List.set_eq_take_append_cons_drop, if_pos hw]; simp
theorem set_same (rs : List (List Rec)) {w : Nat} (hw : w < rs.length) : rs.set w (rs.getD w []) = rs := by
  rw [List.getD_eq_getElem?_getD, List.getElem?_eq_getElem hw]; simp
theorem km_stab : ∀ (f : Nat) (rs : List (List Rec)), tot rs ≤ f → 0 < rs.length → (∀ r ∈ rs, KAsc r) → (km f rs).1 = stab ltR rs.flatten
  | 0, rs, hf, h0, ha => by
    have : rs.flatten = [] := by
      apply List.eq_nil_of_length_eq_zero
      rw [List.length_flatten]; exact Nat.le_zero.1 hf
    rw [this]; rfl
  | f + 1, rs, hf, h0, ha => by
    have hw := wn_lt h0
    cases hg : rs.getD (wn rs) [] with
    | nil => rw [km_done hg, wn_done h0 hg]; rfl
    | cons x t =>
      rw [km_step hg]
      have ht := tot_set rs (wn rs) x t hg
      have hge : ∀ i (hi : i < rs.length), rs.getD i [] = rs[i] := fun i hi => by rw [List.getD_eq_getElem?_getD, List.getElem?_eq_getElem hi]; rfl
      have hxt : KAsc (x :: t) := by rw [← hg, hge _ hw]; exact ha _ (List.getElem_mem hw)
      have ih := km_stab f (rs.set (wn rs) t) (by omega) (by rw [List.length_set]; exact h0) (fun r hr => by
        rcases List.mem_or_eq_of_mem_set hr with h | rfl
        · exact ha r h
        · exact (List.pairwise_cons.1 hxt).2)
      show x :: (km f (rs.set (wn rs) t)).1 = _
      rw [ih]
      have e1 : rs.flatten = (rs.take (wn rs)).flatten ++ (x :: (t ++ (rs.drop (wn rs + 1)).flatten)) := by
        have := flat_cut hw (rs.getD (wn rs) [])
        rw [set_same rs hw, hg] at this
        exact this
      rw [e1, flat_cut hw t]
      have hle : ∀ i (hi : i < rs.length), i ≠ wn rs → ∀ y ∈ rs[i], x.key < y.key ∨ (x.key ≤ y.key ∧ wn rs < i) := fun i hi hne y hy => by
        rcases win_least (kys rs) (dns rs) rs.length (2 * rs.length) 1 (by omega) (by omega) (by omega) i hi (above_root hi) with h1 | h1
        · exact absurd h1 hne
        · have h2 := (bt_lex _ _ _ _).1 h1
          rw [show win (kys rs) (dns rs) rs.length 1 = wn rs from rfl, dns_at hw, dns_at hi, hg, kys_at, kys_at, hg, hge i hi] at h2
          have hy2 := hd_le (ha _ (List.getElem_mem hi)) y hy
          rcases h2 with ⟨_, a⟩ | ⟨_, a⟩
          · rw [List.isEmpty_iff] at a; rw [a] at hy; cases hy
          · simp only [hd] at a hy2 ⊢
            rcases a with a | ⟨a, b⟩
            · left; exact Int.lt_of_lt_of_le a hy2
            · right; exact ⟨by rw [a]; exact hy2, b⟩
      refine (stab_first (fun y hy => ?_) (fun y hy => ?_)).symm
      · obtain ⟨r, hr, hy⟩ := List.mem_flatten.1 hy
        obtain ⟨i, hi, rfl⟩ := List.getElem_of_mem hr
        rw [List.length_take] at hi
        rw [List.getElem_take] at hy
        rcases hle i (by omega) (by omega) y hy with h | ⟨h, h2⟩
        · exact h
        · omega
      · rcases List.mem_append.1 hy with hy | hy
        · exact mem_ge hxt y hy
        · obtain ⟨r, hr, hy⟩ := List.mem_flatten.1 hy
          obtain ⟨i, hi, rfl⟩ := List.getElem_of_mem hr
          rw [List.length_drop] at hi
          rw [List.getElem_drop] at hy
          rcases hle (wn rs + 1 + i) (by omega) (by omega) y hy with h | ⟨h, _⟩
          · exact Int.le_of_lt h
          · exact h
end Go.Proofs.Ytgffabjajbgbjaa.tn
