/- Rows of rows that are the call's own: a list of lists, each row in a block of its own. No condition. -/
import Derived.Test.YtgffabjajbgbjaaMemAt
set_option linter.unusedVariables false
set_option linter.unusedSimpArgs false
namespace Go.Proofs.Ytgffabjajbgbjaa.nest
open Go.RowKit Go.Proofs.Ytgffabjajbgbjaa.mem

def Apt (v u : Value) : Prop := v.ownBlock = none ∨ v.ownBlock ≠ u.ownBlock
theorem Apt.symm {v u : Value} (h : Apt v u) : Apt u v := sep_symm h
def Aparts (vs : List Value) : Prop := ∀ (i j : Nat) (v u : Value), i ≠ j → vs[i]? = some v → vs[j]? = some u → Apt v u
theorem aparts_snoc {vs : List Value} {x : Value} (h : Aparts vs) (hx : ∀ u ∈ vs, Apt x u) : Aparts (vs ++ [x]) := by
  intro i j v u hij hv hu
  rcases Nat.lt_trichotomy i vs.length with hi | hi | hi
  · rw [List.getElem?_append_left hi] at hv
    rcases Nat.lt_trichotomy j vs.length with hj | hj | hj
    · rw [List.getElem?_append_left hj] at hu
      exact h i j v u hij hv hu
    · subst hj
      simp at hu
      subst hu
      exact (hx v (List.mem_of_getElem? hv)).symm
    · rw [List.getElem?_eq_none (by simp; omega)] at hu; cases hu
  · subst hi
    simp at hv
    subst hv
    rcases Nat.lt_trichotomy j vs.length with hj | hj | hj
    · rw [List.getElem?_append_left hj] at hu
      exact hx u (List.mem_of_getElem? hu)
    · omega
    · rw [List.getElem?_eq_none (by simp; omega)] at hu; cases hu
  · rw [List.getElem?_eq_none (by simp; omega)] at hv; cases hv
theorem grownBy_of_below {w w' : World} (hb : Below w.heap.size w w') : w.grownBy w' none := ⟨hb.os, hb.tape, hb.output, hb.size, fun k hk _ => hb.block k hk⟩

theorem wide {n : Nat} (h : n ≤ 1024) : n ≤ 1048576 := by omega
theorem wide2 {n : Nat} (h : n ≤ 1024) : n ≤ 1048576 := by omega
/-- a row whose block lies below the bound lasts where nothing below it changes -/
theorem own_under {w w' : World} {B base : Nat} {e : TypeId} {sz n : Nat} {v : Value} {xs : List Value} (h : w.ownsRow base e sz v n xs) (hl : ∀ k, v.ownBlock = some k → k < B) (hb : Below B w w') : w'.ownsRow base e sz v n xs := by
  refine ⟨h.1, ?_⟩
  rcases h.2 with h0 | ⟨g, cap, cur, rfl, hb0, hg, rest⟩
  · exact .inl h0
  · exact .inr ⟨g, cap, cur, rfl, hb0, (hb.block g (hl g rfl)).trans hg, rest⟩
/-- the values vs are rows of the call's own that read as the lists zss -/
def Rows_int (w : World) (base : Nat) (vs : List Value) (zss : List (List Int)) : Prop :=
  vs.length = zss.length ∧ ∀ (i : Nat) (v : Value) (zs : List Int), vs[i]? = some v → zss[i]? = some zs → w.ownsRow base 3 1 v zs.length (ints zs)
structure NL_int (w : World) (base : Nat) (v : Value) (vs : List Value) (zss : List (List Int)) : Prop where
  top : w.ownsRow base 22 1 v zss.length vs
  rows : Rows_int w base vs zss
  ap : Aparts vs
  apt : ∀ u ∈ vs, Apt v u
section
variable {w w' : World} {base : Nat} {v : Value} {vs : List Value} {zss : List (List Int)}
theorem rows_mem_int (h : Rows_int w base vs zss) {u : Value} (hu : u ∈ vs) : ∃ zs ∈ zss, w.ownsRow base 3 1 u zs.length (ints zs) := by
  obtain ⟨i, hi, rfl⟩ := List.getElem_of_mem hu
  have h2 : i < zss.length := by rw [← h.1]; exact hi
  exact ⟨zss[i], List.getElem_mem h2, h.2 i _ _ (List.getElem?_eq_getElem hi) (List.getElem?_eq_getElem h2)⟩
theorem nl_nil_int (w : World) (base : Nat) : NL_int w base (.slice none 0 0) [] [] :=
  ⟨World.ownsRow_nil _ _ _ _, ⟨rfl, fun i v zs h => by simp at h⟩, fun i j v u _ h => by simp at h, fun u hu => by simp at hu⟩
theorem nl_made_int (h : w.ownsRow base 22 1 v 0 []) : NL_int w base v [] [] :=
  ⟨h, ⟨rfl, fun i v zs h => by simp at h⟩, fun i j v u _ h => by simp at h, fun u hu => by simp at hu⟩
theorem nl_kept_int (h : NL_int w base v vs zss) {row : Option Nat} (hg : w.grownBy w' row) (h0 : v.ownBlock = none ∨ v.ownBlock ≠ row) (h1 : ∀ u ∈ vs, u.ownBlock = none ∨ u.ownBlock ≠ row) : NL_int w' base v vs zss :=
  ⟨h.top.kept hg h0, ⟨h.rows.1, fun i u zs hu hz => (h.rows.2 i u zs hu hz).kept hg (h1 u (List.mem_of_getElem? hu))⟩, h.ap, h.apt⟩
theorem nl_below_int (h : NL_int w base v vs zss) (hb : Below w.heap.size w w') : NL_int w' base v vs zss :=
  nl_kept_int h (grownBy_of_below hb) (by cases v.ownBlock <;> simp) (fun u _ => by cases u.ownBlock <;> simp)
/-- kept where only a block below the base changes -/
theorem nl_low_int (h : NL_int w base v vs zss) {row : Option Nat} (hg : w.grownBy w' row) (hr : ∀ g, row = some g → g < base) : NL_int w' base v vs zss := by
  have key : ∀ {u : Value} {n : Nat} {xs : List Value} {e : TypeId} {sz : Nat}, w.ownsRow base e sz u n xs → u.ownBlock = none ∨ u.ownBlock ≠ row := fun {u n xs e sz} ho => by
    cases hc : u.ownBlock with
    | none => exact Or.inl rfl
    | some k =>
      right
      intro e
      have h1 := (ho.lt k hc).1
      have h2 := hr k e.symm
      omega
  refine nl_kept_int h hg (key h.top) (fun u hu => ?_)
  obtain ⟨zs, _, ho⟩ := rows_mem_int h.rows hu
  exact key ho
theorem nl_under_int (h : NL_int w base v vs zss) {B : Nat} (h0 : ∀ k, v.ownBlock = some k → k < B) (h1 : ∀ u ∈ vs, ∀ k, u.ownBlock = some k → k < B) (hb : Below B w w') : NL_int w' base v vs zss :=
  ⟨own_under h.top h0 hb, ⟨h.rows.1, fun i u zs hu hz => own_under (h.rows.2 i u zs hu hz) (h1 u (List.mem_of_getElem? hu)) hb⟩, h.ap, h.apt⟩
theorem nl_base_int {base' : Nat} (h : NL_int w base v vs zss) (hb : base' ≤ base) : NL_int w base' v vs zss :=
  ⟨own_base h.top hb, ⟨h.rows.1, fun i u zs hu hz => own_base (h.rows.2 i u zs hu hz) hb⟩, h.ap, h.apt⟩
theorem nl_at_int (h : NL_int w base v vs zss) {i : Nat} (hi : i < zss.length) : ∃ A c, vs[i]? = some (.slice A zss[i].length c) ∧ zss[i].length ≤ c ∧ c ≤ maxLen ∧ w.ownsRow base 3 1 (.slice A zss[i].length c) zss[i].length (ints zss[i]) := by
  have h2 : i < vs.length := by rw [h.rows.1]; exact hi
  have ho := h.rows.2 i _ _ (List.getElem?_eq_getElem h2) (List.getElem?_eq_getElem hi)
  obtain ⟨A, c, he, h3, h4, _⟩ := own_form ho
  rw [he] at ho
  exact ⟨A, c, by rw [List.getElem?_eq_getElem h2, he], h3, h4, ho⟩
/-- one row more -/
theorem nl_push_int (h : NL_int w base v vs zss) {x v' : Value} {zs : List Int} (hx : w.ownsRow base 3 1 x zs.length (ints zs)) (hvx : Apt v x) (hux : ∀ u ∈ vs, Apt x u)
    (ho : w'.ownsRow base 22 1 v' (zss.length + 1) (vs ++ [x])) (hg : w.grownBy w' v.ownBlock) (hn : NewAt w v v') : NL_int w' base v' (vs ++ [x]) (zss ++ [zs]) := by
  have hlen := h.rows.1
  refine ⟨by rw [List.length_append]; exact ho, ⟨by simp [hlen], fun i u ys hu hy => ?_⟩, aparts_snoc h.ap hux, fun u hu => ?_⟩
  · rcases Nat.lt_trichotomy i vs.length with hi | hi | hi
    · rw [List.getElem?_append_left hi] at hu
      rw [List.getElem?_append_left (by omega)] at hy
      exact (h.rows.2 i u ys hu hy).kept hg (h.apt u (List.mem_of_getElem? hu)).symm
    · subst hi
      have e1 : u = x := by simpa using hu.symm
      have e2 : ys = zs := by rw [hlen] at hy; simpa using hy.symm
      subst e1; subst e2
      exact hx.kept hg hvx.symm
    · rw [List.getElem?_eq_none (by simp; omega)] at hu; cases hu
  · rcases List.mem_append.1 hu with h1 | h1
    · obtain ⟨ys, _, hy⟩ := rows_mem_int h.rows h1
      exact apt_new (h.apt u h1) hn (own_lt hy)
    · obtain rfl : u = x := by simpa using h1
      exact apt_new hvx hn (own_lt hx)
/-- one row written over -/
theorem nl_set_int (h : NL_int w base v vs zss) {i : Nat} {u : Value} {ys : List Int} (hu : vs[i]? = some u) (hi : i < zss.length) (hl : ys.length = zss[i].length)
    (ho : w'.ownsRow base 3 1 u ys.length (ints ys)) (hg : w.grownBy w' u.ownBlock) : NL_int w' base v vs (zss.set i ys) := by
  refine ⟨by rw [List.length_set]; exact h.top.kept hg (h.apt u (List.mem_of_getElem? hu)), ⟨by rw [List.length_set]; exact h.rows.1, fun j x zs hx hz => ?_⟩, h.ap, h.apt⟩
  by_cases e : j = i
  · subst e
    rw [hu] at hx
    injection hx with hx
    subst hx
    rw [List.getElem?_set_self hi] at hz
    injection hz with hz
    subst hz
    exact ho
  · rw [List.getElem?_set_ne (Ne.symm e)] at hz
    exact (h.rows.2 j x zs hx hz).kept hg (h.ap j i x u e hx hu)
/-- every block of it lies behind the base and within the heap -/
theorem nl_lt_int (h : NL_int w base v vs zss) : ∀ k, v.ownBlock = some k → base ≤ k ∧ k < w.heap.size := h.top.lt
theorem nl_rows_lt_int (h : NL_int w base v vs zss) : ∀ u ∈ vs, ∀ k, u.ownBlock = some k → base ≤ k ∧ k < w.heap.size := fun u hu => by
  obtain ⟨zs, _, ho⟩ := rows_mem_int h.rows hu
  exact ho.lt
/-- a row made behind all of it lies apart -/
theorem nl_apart_int (h : NL_int w base v vs zss) {x : Value} (hx : ∀ k, x.ownBlock = some k → w.heap.size ≤ k) : Apt v x ∧ ∀ u ∈ vs, Apt x u :=
  ⟨(show Apt x v from apt_above hx (own_lt h.top)).symm, fun u hu => by
    obtain ⟨zs, _, ho⟩ := rows_mem_int h.rows hu
    exact apt_above hx (own_lt ho)⟩
end
/-- readings of such a list -/
def RdL_int (w : World) (A : Option Addr) (vs : List Value) (zss : List (List Int)) : Prop :=
  Rd w 1 A zss.length vs ∧ ∀ i (hi : i < zss.length), ∃ B c, vs[i]? = some (.slice B zss[i].length c) ∧ zss[i].length ≤ c ∧ c ≤ maxLen ∧ Rd w 1 B zss[i].length (ints zss[i])
theorem RdL_int.below {w w' : World} {A : Option Addr} {vs : List Value} {zss : List (List Int)} (h : RdL_int w A vs zss) (hb : Below w.heap.size w w') : RdL_int w' A vs zss :=
  ⟨h.1.below hb, fun i hi => by
    obtain ⟨B, c, h1, h2, h3, h4⟩ := h.2 i hi
    exact ⟨B, c, h1, h2, h3, h4.below hb⟩⟩
theorem RdL_int.drewN {w : World} {A : Option Addr} {vs : List Value} {zss : List (List Int)} (h : RdL_int w A vs zss) (n : Nat) : RdL_int (w.drewN n) A vs zss := h
theorem nl_rd_int {w : World} {base n c : Nat} {A : Option Addr} {vs : List Value} {zss : List (List Int)} (h : NL_int w base (.slice A n c) vs zss) : RdL_int w A vs zss := by
  obtain ⟨A', c', he, _, _, hr⟩ := own_form h.top
  injection he with h1 h2 h3
  subst h1
  refine ⟨hr, fun i hi => ?_⟩
  obtain ⟨B, d, e1, e2, e3, e4⟩ := nl_at_int h hi
  exact ⟨B, d, e1, e2, e3, own_rd e4⟩
theorem RdL_int.cell {w : World} {A : Option Addr} {vs : List Value} {zss : List (List Int)} (h : RdL_int w A vs zss) {i : Nat} (hi : i < zss.length) :
    ∃ b off, A = some ⟨b, off, none⟩ ∧ ∃ B c, w.cell? ⟨b, off + i, none⟩ = some (.slice B zss[i].length c) ∧ zss[i].length ≤ c ∧ c ≤ maxLen ∧ Rd w 1 B zss[i].length (ints zss[i]) := by
  obtain ⟨B, c, e1, e2, e3, e4⟩ := h.2 i hi
  obtain ⟨b, off, rfl, hc⟩ := h.1.cells (by omega)
  exact ⟨b, off, rfl, B, c, hc i _ e1, e2, e3, e4⟩
/-- what a function hands back: such a list of its own, of at most 2^20 rows -/
def OwnL_int (w w' : World) (v : Value) (zss : List (List Int)) : Prop := (∃ vs, NL_int w' w.heap.size v vs zss) ∧ zss.length ≤ 1024 ∧ ∀ zs ∈ zss, zs.length ≤ 1048576
/-- the values vs are rows of the call's own that read as the lists zss -/
def Rows_rec (w : World) (base : Nat) (vs : List Value) (zss : List (List Rec)) : Prop :=
  vs.length = zss.length ∧ ∀ (i : Nat) (v : Value) (zs : List Rec), vs[i]? = some v → zss[i]? = some zs → w.ownsRow base 87 2 v zs.length (recs zs)
structure NL_rec (w : World) (base : Nat) (v : Value) (vs : List Value) (zss : List (List Rec)) : Prop where
  top : w.ownsRow base 54 1 v zss.length vs
  rows : Rows_rec w base vs zss
  ap : Aparts vs
  apt : ∀ u ∈ vs, Apt v u
section
variable {w w' : World} {base : Nat} {v : Value} {vs : List Value} {zss : List (List Rec)}
theorem rows_mem_rec (h : Rows_rec w base vs zss) {u : Value} (hu : u ∈ vs) : ∃ zs ∈ zss, w.ownsRow base 87 2 u zs.length (recs zs) := by
  obtain ⟨i, hi, rfl⟩ := List.getElem_of_mem hu
  have h2 : i < zss.length := by rw [← h.1]; exact hi
  exact ⟨zss[i], List.getElem_mem h2, h.2 i _ _ (List.getElem?_eq_getElem hi) (List.getElem?_eq_getElem h2)⟩
theorem nl_nil_rec (w : World) (base : Nat) : NL_rec w base (.slice none 0 0) [] [] :=
  ⟨World.ownsRow_nil _ _ _ _, ⟨rfl, fun i v zs h => by simp at h⟩, fun i j v u _ h => by simp at h, fun u hu => by simp at hu⟩
theorem nl_made_rec (h : w.ownsRow base 54 1 v 0 []) : NL_rec w base v [] [] :=
  ⟨h, ⟨rfl, fun i v zs h => by simp at h⟩, fun i j v u _ h => by simp at h, fun u hu => by simp at hu⟩
theorem nl_kept_rec (h : NL_rec w base v vs zss) {row : Option Nat} (hg : w.grownBy w' row) (h0 : v.ownBlock = none ∨ v.ownBlock ≠ row) (h1 : ∀ u ∈ vs, u.ownBlock = none ∨ u.ownBlock ≠ row) : NL_rec w' base v vs zss :=
  ⟨h.top.kept hg h0, ⟨h.rows.1, fun i u zs hu hz => (h.rows.2 i u zs hu hz).kept hg (h1 u (List.mem_of_getElem? hu))⟩, h.ap, h.apt⟩
theorem nl_below_rec (h : NL_rec w base v vs zss) (hb : Below w.heap.size w w') : NL_rec w' base v vs zss :=
  nl_kept_rec h (grownBy_of_below hb) (by cases v.ownBlock <;> simp) (fun u _ => by cases u.ownBlock <;> simp)
/-- kept where only a block below the base changes -/
theorem nl_low_rec (h : NL_rec w base v vs zss) {row : Option Nat} (hg : w.grownBy w' row) (hr : ∀ g, row = some g → g < base) : NL_rec w' base v vs zss := by
  have key : ∀ {u : Value} {n : Nat} {xs : List Value} {e : TypeId} {sz : Nat}, w.ownsRow base e sz u n xs → u.ownBlock = none ∨ u.ownBlock ≠ row := fun {u n xs e sz} ho => by
    cases hc : u.ownBlock with
    | none => exact Or.inl rfl
    | some k =>
      right
      intro e
      have h1 := (ho.lt k hc).1
      have h2 := hr k e.symm
      omega
  refine nl_kept_rec h hg (key h.top) (fun u hu => ?_)
  obtain ⟨zs, _, ho⟩ := rows_mem_rec h.rows hu
  exact key ho
theorem nl_under_rec (h : NL_rec w base v vs zss) {B : Nat} (h0 : ∀ k, v.ownBlock = some k → k < B) (h1 : ∀ u ∈ vs, ∀ k, u.ownBlock = some k → k < B) (hb : Below B w w') : NL_rec w' base v vs zss :=
  ⟨own_under h.top h0 hb, ⟨h.rows.1, fun i u zs hu hz => own_under (h.rows.2 i u zs hu hz) (h1 u (List.mem_of_getElem? hu)) hb⟩, h.ap, h.apt⟩
theorem nl_base_rec {base' : Nat} (h : NL_rec w base v vs zss) (hb : base' ≤ base) : NL_rec w base' v vs zss :=
  ⟨own_base h.top hb, ⟨h.rows.1, fun i u zs hu hz => own_base (h.rows.2 i u zs hu hz) hb⟩, h.ap, h.apt⟩
theorem nl_at_rec (h : NL_rec w base v vs zss) {i : Nat} (hi : i < zss.length) : ∃ A c, vs[i]? = some (.slice A zss[i].length c) ∧ zss[i].length ≤ c ∧ c ≤ maxLen ∧ w.ownsRow base 87 2 (.slice A zss[i].length c) zss[i].length (recs zss[i]) := by
  have h2 : i < vs.length := by rw [h.rows.1]; exact hi
  have ho := h.rows.2 i _ _ (List.getElem?_eq_getElem h2) (List.getElem?_eq_getElem hi)
  obtain ⟨A, c, he, h3, h4, _⟩ := own_form ho
  rw [he] at ho
  exact ⟨A, c, by rw [List.getElem?_eq_getElem h2, he], h3, h4, ho⟩
/-- one row more -/
theorem nl_push_rec (h : NL_rec w base v vs zss) {x v' : Value} {zs : List Rec} (hx : w.ownsRow base 87 2 x zs.length (recs zs)) (hvx : Apt v x) (hux : ∀ u ∈ vs, Apt x u)
    (ho : w'.ownsRow base 54 1 v' (zss.length + 1) (vs ++ [x])) (hg : w.grownBy w' v.ownBlock) (hn : NewAt w v v') : NL_rec w' base v' (vs ++ [x]) (zss ++ [zs]) := by
  have hlen := h.rows.1
  refine ⟨by rw [List.length_append]; exact ho, ⟨by simp [hlen], fun i u ys hu hy => ?_⟩, aparts_snoc h.ap hux, fun u hu => ?_⟩
  · rcases Nat.lt_trichotomy i vs.length with hi | hi | hi
    · rw [List.getElem?_append_left hi] at hu
      rw [List.getElem?_append_left (by omega)] at hy
      exact (h.rows.2 i u ys hu hy).kept hg (h.apt u (List.mem_of_getElem? hu)).symm
    · subst hi
      have e1 : u = x := by simpa using hu.symm
      have e2 : ys = zs := by rw [hlen] at hy; simpa using hy.symm
      subst e1; subst e2
      exact hx.kept hg hvx.symm
    · rw [List.getElem?_eq_none (by simp; omega)] at hu; cases hu
  · rcases List.mem_append.1 hu with h1 | h1
    · obtain ⟨ys, _, hy⟩ := rows_mem_rec h.rows h1
      exact apt_new (h.apt u h1) hn (own_lt hy)
    · obtain rfl : u = x := by simpa using h1
      exact apt_new hvx hn (own_lt hx)
/-- one row written over -/
theorem nl_set_rec (h : NL_rec w base v vs zss) {i : Nat} {u : Value} {ys : List Rec} (hu : vs[i]? = some u) (hi : i < zss.length) (hl : ys.length = zss[i].length)
    (ho : w'.ownsRow base 87 2 u ys.length (recs ys)) (hg : w.grownBy w' u.ownBlock) : NL_rec w' base v vs (zss.set i ys) := by
  refine ⟨by rw [List.length_set]; exact h.top.kept hg (h.apt u (List.mem_of_getElem? hu)), ⟨by rw [List.length_set]; exact h.rows.1, fun j x zs hx hz => ?_⟩, h.ap, h.apt⟩
  by_cases e : j = i
  · subst e
    rw [hu] at hx
    injection hx with hx
    subst hx
    rw [List.getElem?_set_self hi] at hz
    injection hz with hz
    subst hz
    exact ho
  · rw [List.getElem?_set_ne (Ne.symm e)] at hz
    exact (h.rows.2 j x zs hx hz).kept hg (h.ap j i x u e hx hu)
/-- every block of it lies behind the base and within the heap -/
theorem nl_lt_rec (h : NL_rec w base v vs zss) : ∀ k, v.ownBlock = some k → base ≤ k ∧ k < w.heap.size := h.top.lt
theorem nl_rows_lt_rec (h : NL_rec w base v vs zss) : ∀ u ∈ vs, ∀ k, u.ownBlock = some k → base ≤ k ∧ k < w.heap.size := fun u hu => by
  obtain ⟨zs, _, ho⟩ := rows_mem_rec h.rows hu
  exact ho.lt
/-- a row made behind all of it lies apart -/
theorem nl_apart_rec (h : NL_rec w base v vs zss) {x : Value} (hx : ∀ k, x.ownBlock = some k → w.heap.size ≤ k) : Apt v x ∧ ∀ u ∈ vs, Apt x u :=
  ⟨(show Apt x v from apt_above hx (own_lt h.top)).symm, fun u hu => by
    obtain ⟨zs, _, ho⟩ := rows_mem_rec h.rows hu
    exact apt_above hx (own_lt ho)⟩
end
/-- readings of such a list -/
def RdL_rec (w : World) (A : Option Addr) (vs : List Value) (zss : List (List Rec)) : Prop :=
  Rd w 1 A zss.length vs ∧ ∀ i (hi : i < zss.length), ∃ B c, vs[i]? = some (.slice B zss[i].length c) ∧ zss[i].length ≤ c ∧ c ≤ maxLen ∧ Rd w 2 B zss[i].length (recs zss[i])
theorem RdL_rec.below {w w' : World} {A : Option Addr} {vs : List Value} {zss : List (List Rec)} (h : RdL_rec w A vs zss) (hb : Below w.heap.size w w') : RdL_rec w' A vs zss :=
  ⟨h.1.below hb, fun i hi => by
    obtain ⟨B, c, h1, h2, h3, h4⟩ := h.2 i hi
    exact ⟨B, c, h1, h2, h3, h4.below hb⟩⟩
theorem RdL_rec.drewN {w : World} {A : Option Addr} {vs : List Value} {zss : List (List Rec)} (h : RdL_rec w A vs zss) (n : Nat) : RdL_rec (w.drewN n) A vs zss := h
theorem nl_rd_rec {w : World} {base n c : Nat} {A : Option Addr} {vs : List Value} {zss : List (List Rec)} (h : NL_rec w base (.slice A n c) vs zss) : RdL_rec w A vs zss := by
  obtain ⟨A', c', he, _, _, hr⟩ := own_form h.top
  injection he with h1 h2 h3
  subst h1
  refine ⟨hr, fun i hi => ?_⟩
  obtain ⟨B, d, e1, e2, e3, e4⟩ := nl_at_rec h hi
  exact ⟨B, d, e1, e2, e3, own_rd e4⟩
theorem RdL_rec.cell {w : World} {A : Option Addr} {vs : List Value} {zss : List (List Rec)} (h : RdL_rec w A vs zss) {i : Nat} (hi : i < zss.length) :
    ∃ b off, A = some ⟨b, off, none⟩ ∧ ∃ B c, w.cell? ⟨b, off + i, none⟩ = some (.slice B zss[i].length c) ∧ zss[i].length ≤ c ∧ c ≤ maxLen ∧ Rd w 2 B zss[i].length (recs zss[i]) := by
  obtain ⟨B, c, e1, e2, e3, e4⟩ := h.2 i hi
  obtain ⟨b, off, rfl, hc⟩ := h.1.cells (by omega)
  exact ⟨b, off, rfl, B, c, hc i _ e1, e2, e3, e4⟩
/-- what a function hands back: such a list of its own, of at most 2^20 rows -/
def OwnL_rec (w w' : World) (v : Value) (zss : List (List Rec)) : Prop := (∃ vs, NL_rec w' w.heap.size v vs zss) ∧ zss.length ≤ 1024 ∧ ∀ zs ∈ zss, zs.length ≤ 1048576
end Go.Proofs.Ytgffabjajbgbjaa.nest
