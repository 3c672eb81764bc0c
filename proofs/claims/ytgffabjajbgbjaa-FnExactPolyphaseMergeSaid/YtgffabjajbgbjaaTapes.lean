/- A row of queues that are the call's own. No condition. -/
import Derived.Test.YtgffabjajbgbjaaTape
import Derived.Test.YtgffabjajbgbjaaNest
set_option linter.unusedVariables false
set_option linter.unusedSimpArgs false
namespace Go.Proofs.Ytgffabjajbgbjaa.tape
open Go.RowKit Go.Proofs.Ytgffabjajbgbjaa.mem Go.Proofs.Ytgffabjajbgbjaa.nest

/-- the row v (blocks from bo on) holds the queues vs (blocks from base on), which read as qs -/
structure TL (w : World) (bo base : Nat) (e oe : TypeId) (v : Value) (vs : List Value) (qs : List (List Value)) : Prop where
  top : w.ownsRow bo oe 1 v vs.length vs
  len : vs.length = qs.length
  rows : ∀ (i : Nat) (x : Value) (q : List Value), vs[i]? = some x → qs[i]? = some q → Tp w base e x q
  ap : Aparts vs
  apt : ∀ u ∈ vs, Apt v u
/-- only the block go, and blocks of elements of the type e from base on, have changed -/
structure Clm (w w' : World) (go : Option Nat) (base : Nat) (e : TypeId) : Prop where
  os : w'.os = w.os
  tape : w'.tape = w.tape
  output : w'.output = w.output
  size : w.heap.size ≤ w'.heap.size
  block : ∀ k, k < w.heap.size → some k ≠ go → (k < base ∨ ∀ cur, w.heap[k]? ≠ some (.cells cur e (0, 0))) → w'.heap[k]? = w.heap[k]?
section
variable {w w' w'' : World} {bo base : Nat} {e oe : TypeId} {v : Value} {vs : List Value} {qs : List (List Value)} {go : Option Nat}
theorem Clm.refl (w : World) (go : Option Nat) (base : Nat) (e : TypeId) : Clm w w go base e := ⟨rfl, rfl, rfl, Nat.le_refl _, fun _ _ _ _ => rfl⟩
theorem Clm.trans (h : Clm w w' go base e) (k : Clm w' w'' go base e) : Clm w w'' go base e :=
  ⟨k.os.trans h.os, k.tape.trans h.tape, k.output.trans h.output, Nat.le_trans h.size k.size, fun x hx hne hc => by
    have h1 := h.block x hx hne hc
    refine (k.block x (Nat.lt_of_lt_of_le hx h.size) hne ?_).trans h1
    rcases hc with hc | hc
    · exact Or.inl hc
    · exact Or.inr fun cur => by rw [h1]; exact hc cur⟩
theorem Clm.of_none {row : Option Nat} (hg : w.grownBy w' row) (hr : row = none ∨ row = go) : Clm w w' go base e :=
  ⟨hg.os, hg.tape, hg.output, hg.size, fun k hk hne _ => hg.block k hk (by rcases hr with rfl | rfl <;> first | exact hne | simp)⟩
theorem Clm.of_tp {x : Value} {q : List Value} (hx : Tp w base e x q) (hg : w.grownBy w' x.ownBlock) : Clm w w' go base e :=
  ⟨hg.os, hg.tape, hg.output, hg.size, fun k hk hne hc => hg.block k hk (fun he => by
    rcases hx with ⟨rfl, _⟩ | ⟨g, o, c, cur, rfl, hb, hg2, _⟩
    · cases he
    · simp [Value.ownBlock] at he
      subst he
      rcases hc with hc | hc
      · omega
      · exact hc cur hg2)⟩
theorem Clm.below (hb : Below w.heap.size w w') : Clm w w' go base e :=
  ⟨hb.os, hb.tape, hb.output, hb.size, fun k hk _ _ => hb.block k hk⟩
theorem Clm.cell (h : Clm w w' go base e) {a : Addr} {x : Value} (ha : w.cell? a = some x) (hne : some a.block ≠ go) (hc : a.block < base ∨ ∀ cur, w.heap[a.block]? ≠ some (.cells cur e (0, 0))) : w'.cell? a = some x :=
  (World.cell?_of_block (h.block a.block (World.block_lt_of_cell? w a ha) hne hc)).trans ha
theorem set_grown (w : World) (g i : Nat) (u : Value) : w.grownBy (w.setCell ⟨g, i, none⟩ u) (some g) :=
  ⟨rfl, rfl, rfl, by simp [World.setCell], fun k hk hne => Below.heap_setCell w ⟨g, i, none⟩ u k (fun e => hne (by rw [e]))⟩
theorem TL.mem (h : TL w bo base e oe v vs qs) {u : Value} (hu : u ∈ vs) : ∃ q ∈ qs, Tp w base e u q := by
  obtain ⟨i, hi, rfl⟩ := List.getElem_of_mem hu
  have h2 : i < qs.length := by rw [← h.len]; exact hi
  exact ⟨qs[i], List.getElem_mem h2, h.rows i _ _ (List.getElem?_eq_getElem hi) (List.getElem?_eq_getElem h2)⟩
theorem TL.kept (h : TL w bo base e oe v vs qs) {row : Option Nat} (hg : w.grownBy w' row) (h0 : v.ownBlock = none ∨ v.ownBlock ≠ row) (h1 : ∀ u ∈ vs, u.ownBlock = none ∨ u.ownBlock ≠ row) : TL w' bo base e oe v vs qs :=
  ⟨h.top.kept hg h0, h.len, fun i x q hx hq => (h.rows i x q hx hq).kept hg (h1 x (List.mem_of_getElem? hx)), h.ap, h.apt⟩
theorem TL.below (h : TL w bo base e oe v vs qs) (hb : Below w.heap.size w w') : TL w' bo base e oe v vs qs :=
  h.kept (grownBy_of_below hb) (by cases v.ownBlock <;> simp) (fun u _ => by cases u.ownBlock <;> simp)
theorem TL.alloc (h : TL w bo base e oe v vs qs) (o : Obj) : TL (w.alloc o) bo base e oe v vs qs := h.below ((Below.refl _ _).alloc (Nat.le_refl _) o)
theorem TL.lt (h : TL w bo base e oe v vs qs) : (∀ k, v.ownBlock = some k → bo ≤ k ∧ k < w.heap.size) ∧ ∀ u ∈ vs, ∀ k, u.ownBlock = some k → base ≤ k ∧ k < w.heap.size :=
  ⟨h.top.lt, fun u hu => by obtain ⟨q, _, hq⟩ := h.mem hu; exact hq.lt⟩
theorem TL.at (h : TL w bo base e oe v vs qs) {i : Nat} (hi : i < qs.length) : ∃ A c, vs[i]? = some (.slice A qs[i].length c) ∧ qs[i].length ≤ c ∧ c ≤ maxLen ∧ Tp w base e (.slice A qs[i].length c) qs[i] := by
  have h2 : i < vs.length := by rw [h.len]; exact hi
  have ho := h.rows i _ _ (List.getElem?_eq_getElem h2) (List.getElem?_eq_getElem hi)
  obtain ⟨A, c, he, h3, h4, _⟩ := ho.form
  rw [he] at ho
  exact ⟨A, c, by rw [List.getElem?_eq_getElem h2, he], h3, h4, ho⟩
theorem aparts_set {vs : List Value} (h : Aparts vs) {i : Nat} {x : Value} (hx : ∀ (j : Nat) (u : Value), j ≠ i → vs[j]? = some u → Apt x u) : Aparts (vs.set i x) := by
  intro a b p u hab hp hu
  rw [List.getElem?_set] at hp hu
  by_cases ha : i = a
  · have hb : ¬ i = b := fun e => hab (ha.symm.trans e)
    rw [if_pos ha] at hp
    rw [if_neg hb] at hu
    split at hp
    · injection hp with hp
      subst hp
      exact hx b u (fun e => hb e.symm) hu
    · cases hp
  · rw [if_neg ha] at hp
    by_cases hb : i = b
    · rw [if_pos hb] at hu
      split at hu
      · injection hu with hu
        subst hu
        exact (hx a p (fun e => ha e.symm) hp).symm
      · cases hu
    · rw [if_neg hb] at hu
      exact h a b p u hab hp hu
/-- one queue changed, in its own block or a new one, and then written into the row -/
theorem TL.put {n c : Nat} {g : Nat} (h : TL w bo base e oe (.slice (some ⟨g, 0, none⟩) n c) vs qs) {i : Nat} {x x' : Value} {q' : List Value} (hx : vs[i]? = some x) (hi : i < qs.length)
    (ho : Tp w' base e x' q') (hg : w.grownBy w' x.ownBlock) (hn : NewAt w x x') : TL (w'.setCell ⟨g, i, none⟩ x') bo base e oe (.slice (some ⟨g, 0, none⟩) n c) (vs.set i x') (qs.set i q') := by
  have hil : i < vs.length := by rw [h.len]; exact hi
  have hxm := List.mem_of_getElem? hx
  obtain ⟨A, co, hv, _, _, _⟩ := own_form h.top
  injection hv with e1 e2 e3
  subst e1; subst e2; subst e3
  have htop := h.top.kept hg (h.apt x hxm)
  have hvx : Apt (.slice (some ⟨g, 0, none⟩) vs.length c) x' := by
    have hgl := own_lt h.top
    exact apt_symm (apt_new (apt_symm (h.apt x hxm)) hn hgl)
  have hxu : ∀ (j : Nat) (u : Value), j ≠ i → vs[j]? = some u → Apt x' u := fun j u hj hu => by
    obtain ⟨q, _, hq⟩ := h.mem (List.mem_of_getElem? hu)
    exact apt_new (h.ap i j x u (Ne.symm hj) hx hu) hn (fun k hk => (hq.lt k hk).2)
  have hfar : ∀ {u : Value}, Apt (.slice (some ⟨g, 0, none⟩) vs.length c) u → u.ownBlock = none ∨ u.ownBlock ≠ some g := fun {u} ha => by
    rcases ha.symm with h1 | h1
    · exact Or.inl h1
    · exact Or.inr h1
  refine ⟨by rw [List.length_set]; exact own_put htop hil x', by rw [List.length_set, List.length_set]; exact h.len, fun j y r hy hr => ?_, aparts_set h.ap hxu, fun u hu => ?_⟩
  · rw [List.getElem?_set] at hy hr
    by_cases e1 : i = j
    · rw [if_pos e1, if_pos (by omega)] at hy hr
      injection hy with hy
      injection hr with hr
      subst hy; subst hr
      exact ho.kept (set_grown w' g i x') (hfar hvx)
    · rw [if_neg e1] at hy hr
      have hym := List.mem_of_getElem? hy
      exact ((h.rows j y r hy hr).kept hg (h.ap j i y x (fun e => e1 e.symm) hy hx)).kept (set_grown w' g i x') (hfar (h.apt y hym))
  · rcases List.mem_or_eq_of_mem_set hu with h1 | h1
    · exact h.apt u h1
    · subst h1; exact hvx
/-- the head of one queue taken off -/
theorem TL.tail {n c g : Nat} (h : TL w bo base e oe (.slice (some ⟨g, 0, none⟩) n c) vs qs) {i : Nat} {A : Option Addr} {m d : Nat} {x : Value} {q : List Value} (hx : vs[i]? = some (.slice A (m + 1) d)) (hq : qs[i]? = some (x :: q)) :
    TL (w.setCell ⟨g, i, none⟩ (.slice (cutA A d 1 1) m (d - 1))) bo base e oe (.slice (some ⟨g, 0, none⟩) n c) (vs.set i (.slice (cutA A d 1 1) m (d - 1))) (qs.set i q) := by
  have ht := Tp.tail (h.rows i _ _ hx hq)
  exact h.put hx (List.getElem?_eq_some_iff.1 hq).1 ht.1 (World.grownBy.refl _ _) (fun k hk => Or.inl (by rw [← ht.2]; exact hk))
/-- one queue more -/
theorem TL.push (h : TL w bo base e oe v vs qs) {x v' : Value} {q : List Value} (hx : Tp w base e x q) (hvx : Apt v x) (hux : ∀ u ∈ vs, Apt x u)
    (ho : w'.ownsRow bo oe 1 v' (vs.length + 1) (vs ++ [x])) (hg : w.grownBy w' v.ownBlock) (hn : NewAt w v v') : TL w' bo base e oe v' (vs ++ [x]) (qs ++ [q]) := by
  have hlen := h.len
  refine ⟨by rw [List.length_append]; exact ho, by simp [hlen], fun i u r hu hr => ?_, aparts_snoc h.ap hux, fun u hu => ?_⟩
  · rcases Nat.lt_trichotomy i vs.length with hi | hi | hi
    · rw [List.getElem?_append_left hi] at hu
      rw [List.getElem?_append_left (by omega)] at hr
      exact (h.rows i u r hu hr).kept hg (show Apt v u from h.apt u (List.mem_of_getElem? hu)).symm
    · subst hi
      have e1 : u = x := by simpa using hu.symm
      have e2 : r = q := by rw [hlen] at hr; simpa using hr.symm
      subst e1; subst e2
      exact hx.kept hg hvx.symm
    · rw [List.getElem?_eq_none (by simp; omega)] at hu; cases hu
  · rcases List.mem_append.1 hu with h1 | h1
    · obtain ⟨q2, _, hq2⟩ := h.mem h1
      exact apt_new (h.apt u h1) hn (fun k hk => (hq2.lt k hk).2)
    · obtain rfl : u = x := by simpa using h1
      exact apt_new hvx hn (fun k hk => (hx.lt k hk).2)
/-- the same, with the calm it keeps -/
theorem Clm.put {n c g : Nat} (h : TL w bo base e oe (.slice (some ⟨g, 0, none⟩) n c) vs qs) {i : Nat} {x x' : Value} (hx : vs[i]? = some x) (hi : i < qs.length) (hg : w.grownBy w' x.ownBlock) : Clm w (w'.setCell ⟨g, i, none⟩ x') (some g) base e :=
  (Clm.of_tp (h.rows i x _ hx (List.getElem?_eq_getElem hi)) hg).trans (Clm.of_none (set_grown w' g i x') (Or.inr rfl))
end
end Go.Proofs.Ytgffabjajbgbjaa.tape
