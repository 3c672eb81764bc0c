/- Queues: rows of the call's own, of elements of one cell, that may begin behind their block's first cell. No condition. -/
import Derived.Test.YtgffabjajbgbjaaMemAt
import Derived.Test.YtgffabjajbgbjaaCut
set_option linter.unusedVariables false
set_option linter.unusedSimpArgs false
namespace Go.Proofs.Ytgffabjajbgbjaa.tape
open Go.RowKit Go.Proofs.Ytgffabjajbgbjaa.mem

/-- the value v is a row of elements of one cell, in a block of the call's own, that reads as xs; it may begin behind the block's first cell -/
def Tp (w : World) (base : Nat) (e : TypeId) (v : Value) (xs : List Value) : Prop :=
  (v = .slice none 0 0 ∧ xs = []) ∨
  ∃ (g k c : Nat) (cur : Array Value), v = .slice (some ⟨g, k, none⟩) xs.length c ∧ base ≤ g ∧ w.heap[g]? = some (.cells cur e (0, 0)) ∧ xs.length ≤ c ∧ c ≤ maxLen ∧ k + c ≤ cur.size ∧ (cur.toList.drop k).take xs.length = xs
section
variable {w w' : World} {base : Nat} {e : TypeId} {v : Value} {xs : List Value}
theorem Tp.nil (w : World) (base : Nat) (e : TypeId) : Tp w base e (.slice none 0 0) [] := Or.inl ⟨rfl, rfl⟩
theorem Tp.of_own {n : Nat} (h : w.ownsRow base e 1 v n xs) : Tp w base e v xs := by
  have hl := h.1
  rw [Nat.mul_one] at hl
  rcases h.2 with ⟨rfl, h0⟩ | ⟨g, cap, cur, rfl, hb, hg, hnc, hcm, hcs, ht⟩
  · exact Or.inl ⟨rfl, List.eq_nil_of_length_eq_zero (by omega)⟩
  · refine Or.inr ⟨g, 0, cap, cur, by rw [hl], hb, hg, by omega, hcm, by omega, ?_⟩
    rw [Nat.mul_one] at ht
    rw [List.drop_zero, hl]; exact ht
theorem Tp.lt (h : Tp w base e v xs) : ∀ k, v.ownBlock = some k → base ≤ k ∧ k < w.heap.size := by
  intro k hk
  rcases h with ⟨rfl, _⟩ | ⟨g, o, c, cur, rfl, hb, hg, _⟩
  · cases hk
  · simp [Value.ownBlock] at hk
    subst hk
    exact ⟨hb, (Array.getElem?_eq_some_iff.1 hg).1⟩
theorem Tp.kept (h : Tp w base e v xs) {row : Option Nat} (hg : w.grownBy w' row) (hne : v.ownBlock = none ∨ v.ownBlock ≠ row) : Tp w' base e v xs := by
  rcases h with h | ⟨g, o, c, cur, rfl, hb, hgg, rest⟩
  · exact Or.inl h
  · refine Or.inr ⟨g, o, c, cur, rfl, hb, ?_, rest⟩
    rw [hg.block g (Array.getElem?_eq_some_iff.1 hgg).1 (by simpa [Value.ownBlock] using hne)]
    exact hgg
theorem Tp.below (h : Tp w base e v xs) (hb : Below w.heap.size w w') : Tp w' base e v xs :=
  h.kept (row := none) ⟨hb.os, hb.tape, hb.output, hb.size, fun k hk _ => hb.block k hk⟩ (by cases v.ownBlock <;> simp)
theorem Tp.alloc (h : Tp w base e v xs) (o : Obj) : Tp (w.alloc o) base e v xs := h.below ((Below.refl _ _).alloc (Nat.le_refl _) o)
theorem Tp.drewN (h : Tp w base e v xs) (n : Nat) : Tp (w.drewN n) base e v xs := h
theorem Tp.lows {base' : Nat} (h : Tp w base e v xs) (hb : base' ≤ base) : Tp w base' e v xs := by
  rcases h with h | ⟨g, o, c, cur, hv, h1, r⟩
  · exact Or.inl h
  · exact Or.inr ⟨g, o, c, cur, hv, by omega, r⟩
theorem Tp.form (h : Tp w base e v xs) : ∃ A c, v = .slice A xs.length c ∧ xs.length ≤ c ∧ c ≤ maxLen ∧ Rd w 1 A xs.length xs := by
  rcases h with ⟨rfl, rfl⟩ | ⟨g, o, c, cur, rfl, hb, hg, h1, h2, h3, h4⟩
  · exact ⟨none, 0, rfl, Nat.le_refl _, Nat.zero_le _, Rd.nil⟩
  · refine ⟨_, c, rfl, h1, h2, by rw [Nat.mul_one], fun _ => ⟨g, o, rfl, fun j u hu => ?_⟩⟩
    rw [cell_of_row w g (o + j) cur e (0, 0) hg]
    have hj := (List.getElem?_eq_some_iff.1 hu).1
    rw [← h4, List.getElem?_take, if_pos hj, List.getElem?_drop] at hu
    simpa using hu
/-- the head's cell -/
theorem Tp.head {A : Option Addr} {n c : Nat} {x : Value} (h : Tp w base e (.slice A n c) (x :: xs)) : ∃ g k, A = some ⟨g, k, none⟩ ∧ n = xs.length + 1 ∧ xs.length + 1 ≤ c ∧ c ≤ maxLen ∧ w.cell? ⟨g, k, none⟩ = some x ∧ base ≤ g := by
  have hlt := h.lt
  obtain ⟨A', c', he, h1, h2, h3⟩ := h.form
  injection he with e1 e2 e3
  subst e1; subst e2; subst e3
  obtain ⟨g, k, rfl, hc⟩ := h3.cells (by simp)
  have := hc 0 x rfl
  rw [Nat.add_zero] at this
  exact ⟨g, k, rfl, rfl, h1, h2, this, (hlt g rfl).1⟩
/-- what is left behind the head -/
theorem Tp.tail {A : Option Addr} {n c : Nat} {x : Value} (h : Tp w base e (.slice A (n + 1) c) (x :: xs)) : Tp w base e (.slice (cutA A c 1 1) n (c - 1)) xs ∧ (Value.slice (cutA A c 1 1) n (c - 1)).ownBlock = (Value.slice A (n + 1) c).ownBlock := by
  rcases h with ⟨hv, h0⟩ | ⟨g, k, c', cur, hv, hb, hg, h1, h2, h3, h4⟩
  · cases h0
  · injection hv with e1 e2 e3
    subst e1; subst e3
    simp only [List.length_cons] at e2 h1 h4
    obtain rfl : n = xs.length := by omega
    have ht : (cur.toList.drop (k + 1)).take xs.length = xs := by
      have h5 := congrArg (List.drop 1) h4
      rw [List.drop_take, List.drop_drop] at h5
      simpa using h5
    unfold cutA
    by_cases hc : c = 1
    · rw [if_pos hc]
      refine ⟨Or.inr ⟨g, k, c - 1, cur, rfl, hb, hg, by omega, by omega, by omega, ?_⟩, rfl⟩
      have : xs = [] := List.eq_nil_of_length_eq_zero (by omega)
      subst this
      simp
    · rw [if_neg hc]
      have hA : (some (⟨g, k, none⟩ : Addr)).map (·.add (1 * 1)) = some ⟨g, k + 1, none⟩ := by simp [Addr.add]
      rw [hA]
      exact ⟨Or.inr ⟨g, k + 1, c - 1, cur, rfl, hb, hg, by omega, by omega, by omega, ht⟩, rfl⟩
end
theorem add_off (g k j : Nat) : (⟨g, k, none⟩ : Addr).add j = ⟨g, k + j, none⟩ := by
  unfold Addr.add; split
  · rename_i h0; subst h0; rfl
  · rfl
section
variable {P : Program} (w : World)
/-- append of one element where there is room -/
theorem run_room (t ty e : TypeId) (i : TypeInfo) (ht : P.underlying t = some (.slice e)) (hi : P.info? e = some i) (hs : i.size = 1)
    (g k n c : Nat) (cur : Array Value) (hg : w.heap[g]? = some (.cells cur e (0, 0))) (a : Addr) (c2 : Nat) (x : Value) (hx : w.cell? a = some x) (h1 : x.oneCell' = true)
    (hroom : n + 1 ≤ c) (hfit : k + n + 1 ≤ cur.size) :
    (Builtin.append_ #[t, t] ty #[.slice (some ⟨g, k, none⟩) n c, .slice (some a) 1 c2]).run P w =
      .ok (.slice (some ⟨g, k, none⟩) (n + 1) c) (w.setRow g (cur.toList.take (k + n) ++ [x] ++ cur.toList.drop (k + n + 1)).toArray) := by
  have hn : ∀ j u, [x][j]? = some u → w.cell? (a.add j) = some u := by
    intro j u hu
    match j, hu with
    | 0, hu =>
      simp at hu; subst hu
      have : a.add 0 = a := by simp [Addr.add]
      rw [this]; exact hx
  have hf := run_firstCells_some (P := P) w i.size 1 a 1 c2 [x] (by rw [hs]; rfl) hn
  have hst := run_storeCells_at P g (k + n) e [x] 0 cur w hg (by simpa using hfit) (by simpa using h1)
  simp only [Nat.add_zero, List.length_singleton] at hst
  have had : (⟨g, k, none⟩ : Addr).add (n * i.size) = ⟨g, k + n, none⟩ := by rw [hs, Nat.mul_one, add_off]
  simp only [List.append_assoc] at hst ⊢
  simp [Builtin.append_, run_underlying ht, sizeOf, typeInfo, hi, Builtin.lenOf, hroom, hf, had, hst]
theorem run_tp (base : Nat) (t ty e : TypeId) (i : TypeInfo) (z : Value) (bytes : Nat) (ht : P.underlying t = some (.slice e)) (hi : P.info? e = some i) (hz : i.zero = some z)
    (hs : i.size = 1) (hby : i.bytes = bytes) (hzs : z.cells.size = 1)
    (v : Value) (xs : List Value) (hown : Tp w base e v xs) (a : Addr) (c2 : Nat) (x : Value) (hx : w.cell? a = some x) (h1 : x.oneCell' = true)
    (h63 : xs.length + 1 ≤ maxLen) (hbytes : (xs.length + 1) * bytes ≤ 140737488355328) (hbase : base ≤ w.heap.size) :
    ∃ v' w', (Builtin.append_ #[t, t] ty #[v, .slice (some a) 1 c2]).run P w = .ok v' w' ∧ Tp w' base e v' (xs ++ [x]) ∧ w.grownBy w' v.ownBlock ∧ (v'.ownBlock = v.ownBlock ∨ v'.ownBlock = some w.heap.size) := by
  have hn : ∀ j u, [x][j]? = some u → w.cell? (a.add j) = some u := by
    intro j u hu
    match j, hu with
    | 0, hu =>
      simp at hu; subst hu
      have : a.add 0 = a := by simp [Addr.add]
      rw [this]; exact hx
  rcases hown with ⟨rfl, rfl⟩ | ⟨g, k, c, cur, rfl, hb, hg, hnc, hcm, hcs, htake⟩
  · obtain ⟨v', w', h2, h3, h4, _, h5⟩ := run_append_own_at (P := P) w base t ty e i z 1 bytes ht hi hz hs hby hzs Nat.one_pos (.slice none 0 0) 0 [] (World.ownsRow_nil _ _ _ _) a 1 c2 [x] rfl hn (by simpa using h1) (by simpa using h63) (by simpa using hbytes) hbase
    exact ⟨v', w', h2, Tp.of_own h3, h4, h5⟩
  · by_cases hroom : xs.length + 1 ≤ c
    · refine ⟨_, _, run_room w t ty e i ht hi hs g k xs.length c cur hg a c2 x hx h1 hroom (by omega), Or.inr ⟨g, k, c, _, by rw [List.length_append]; rfl, hb, setRow_heap w g cur _ e _ hg, by simpa using hroom, hcm, ?_, ?_⟩, ⟨rfl, rfl, rfl, by simp, fun j _ hj => setRow_other w g j _ (fun e => hj (by simp [Value.ownBlock, e]))⟩, Or.inl rfl⟩
      · simp only [List.size_toArray, List.length_append, List.length_take, List.length_drop, Array.length_toList, List.length_singleton]
        omega
      · have hkl : k ≤ cur.toList.length := by rw [Array.length_toList]; omega
        have e1 : (cur.toList.take (k + xs.length) ++ [x] ++ cur.toList.drop (k + xs.length + 1)).drop k = (cur.toList.drop k).take xs.length ++ [x] ++ cur.toList.drop (k + xs.length + 1) := by
          rw [List.append_assoc, List.drop_append_of_le_length (by rw [List.length_take, Array.length_toList]; omega), List.drop_take, Nat.add_sub_cancel_left, List.append_assoc]
        show (List.drop k (_ : List Value)).take _ = _
        rw [e1, htake]
        exact List.take_left
    · have holds : ∀ j u, xs[j]? = some u → w.cell? ((⟨g, k, none⟩ : Addr).add j) = some u := by
        intro j u hu
        rw [add_off, cell_of_row w g (k + j) cur e (0, 0) hg]
        have hj := (List.getElem?_eq_some_iff.1 hu).1
        rw [← htake, List.getElem?_take, if_pos hj, List.getElem?_drop] at hu
        simpa using hu
      have hcap : c = xs.length := by omega
      subst hby
      have hr := run_append_grow (P := P) w t ty e i z ht hi hz ⟨g, k, none⟩ xs.length c xs (by rw [hs, Nat.mul_one]) holds a 1 c2 [x] (by rw [hs]; rfl) hn (by omega) (by simp only [maxLen] at h63; omega) (growslice_fits (by omega) hbytes)
      have hge := grownCap_ge w (xs.length + 1) c e
      refine ⟨_, _, hr, Or.inr ⟨w.heap.size, 0, _, _, by rw [List.length_append]; rfl, hbase, heap_alloc_new w.drew _, by simpa using hge, grownCap_le_maxLen w (xs.length + 1) c e h63, ?_, ?_⟩, ⟨rfl, rfl, rfl, by simp, fun j hj _ => heap_alloc_old w.drew _ hj⟩, Or.inr rfl⟩
      · simp only [Array.size_append, List.size_toArray, size_zeroCells, hzs, List.length_singleton]
        omega
      · simp only [Array.toList_append, List.drop_zero]
        exact List.take_left
end
/-- append at the operation: the one element lies in a block just made -/
theorem wp_push_tp {P : Program} (w : World) {o : Oper} {a : Act} {K : Act → World → Prop} {Q : Exit → Act → World → Prop} (s x : Operand) (t : TypeId)
    (ho : o.op = .call { callee := .builtin .append, args := #[s, x], argTypes := #[t, t] })
    (base : Nat) (e : TypeId) (z : Value) (b : Nat) (ht : P.underlying t = some (.slice e)) (hi : (P.info? e).map (fun i => (i.zero, i.size, i.bytes)) = some (some z, 1, b))
    (hzs : z.cells.size = 1) (v : Value) (xs : List Value) (hs : a.eval s = v) (hown : Tp w base e v xs)
    (u : Value) (c : Nat) (h1 : u.oneCell' = true) (hx : a.eval x = .slice (some ⟨w.heap.size, 0, none⟩) 1 c)
    (hn : xs.length ≤ 1099511627776) (hb : b ≤ 64) (hbase : base ≤ w.heap.size)
    (h : ∀ v' w', Tp w' base e v' (xs ++ [u]) → w.grownBy w' v.ownBlock → NewAt w v v' → K (a.put o.dst v') w') :
    o.wp P a (w.alloc (.cells #[u] e)) K Q := by
  obtain ⟨i0, hi0, hz0, hz1, hz2⟩ := info_parts hi
  have hbb : (xs.length + 1) * i0.bytes ≤ 140737488355328 := by
    rw [hz2]
    have := Nat.mul_le_mul (show xs.length + 1 ≤ 1099511627777 by omega) hb
    omega
  have hcell : (w.alloc (.cells #[u] e)).cell? ⟨w.heap.size, 0, none⟩ = some u := by
    rw [(Blk.new w e #[u]).cell]; rfl
  obtain ⟨v', w', hr, h2, h3, h5⟩ := run_tp (P := P) (w.alloc (.cells #[u] e)) base t o.type e i0 z i0.bytes ht hi0 hz0 hz1 rfl hzs v xs (hown.alloc _) ⟨w.heap.size, 0, none⟩ c u hcell h1 (by unfold maxLen; omega) hbb (by simp; omega)
  unfold Oper.wp execOp
  simp only [ho, resolve, invoke, builtin, Sem.run_bind, Sem.run_pure, Result.andThen_ok, List.map_toArray, List.map_cons, List.map_nil, hs, hx, hr]
  refine h v' w' h2 ⟨h3.os, h3.tape, h3.output, Nat.le_trans (by simp) h3.size, fun k hk hne => (h3.block k (by simp; omega) hne).trans (Below.heap_alloc w _ k hk)⟩ (fun g hg => ?_)
  rcases h5 with h5 | h5
  · exact Or.inl (h5 ▸ hg)
  · right
    rw [h5] at hg
    injection hg with hg
    simp at hg; omega
theorem push_tp {P : Program} (w : World) {ops : Array Oper} {rest : List Oper} {o : Oper} {a : Act} {Q : Exit → Act → World → Prop} (hgd : o.guard = none) (s x : Operand) (t : TypeId)
    (ho : o.op = .call { callee := .builtin .append, args := #[s, x], argTypes := #[t, t] })
    (base : Nat) (e : TypeId) (z : Value) (b : Nat) (ht : P.underlying t = some (.slice e)) (hi : (P.info? e).map (fun i => (i.zero, i.size, i.bytes)) = some (some z, 1, b))
    (hzs : z.cells.size = 1) (v : Value) (xs : List Value) (hs : a.eval s = v) (hown : Tp w base e v xs) (H : Nat) (hH : w.heap.size = H)
    (u : Value) (c : Nat) (h1 : u.oneCell' = true) (hx : a.eval x = .slice (some ⟨H, 0, none⟩) 1 c)
    (hn : xs.length ≤ 1099511627776) (hb : b ≤ 64) (hbase : base ≤ w.heap.size)
    (h : ∀ v' w', Tp w' base e v' (xs ++ [u]) → w.grownBy w' v.ownBlock → NewAt w v v' → wpList P ops Q rest (a.put o.dst v') w') :
    wpList P ops Q (o :: rest) a (w.alloc (.cells #[u] e)) := by
  subst hH
  exact wpList_plain hgd fun K hK => wp_push_tp w s x t ho base e z b ht hi hzs v xs hs hown u c h1 hx hn hb hbase fun v' w' h2 h3 h4 => hK _ _ (h v' w' h2 h3 h4)
/-- as one step of a region that draws its order -/
theorem step_push_tp {P : Program} (w : World) {ops : Array Oper} {o : Oper} {a : Act} {K : Act → World → Prop} {Q : Exit → Act → World → Prop} {E : Prop} (hgd : o.guard = none) (s x : Operand) (t : TypeId)
    (ho : o.op = .call { callee := .builtin .append, args := #[s, x], argTypes := #[t, t] })
    (base : Nat) (e : TypeId) (z : Value) (b : Nat) (ht : P.underlying t = some (.slice e)) (hi : (P.info? e).map (fun i => (i.zero, i.size, i.bytes)) = some (some z, 1, b))
    (hzs : z.cells.size = 1) (v : Value) (xs : List Value) (hs : a.eval s = v) (hown : Tp w base e v xs) (H : Nat) (hH : w.heap.size = H)
    (u : Value) (c : Nat) (h1 : u.oneCell' = true) (hx : a.eval x = .slice (some ⟨H, 0, none⟩) 1 c)
    (hn : xs.length ≤ 1099511627776) (hb : b ≤ 64) (hbase : base ≤ w.heap.size)
    (h : ∀ v' w', Tp w' base e v' (xs ++ [u]) → w.grownBy w' v.ownBlock → NewAt w v v' → K (a.put o.dst v') w') :
    if Region.wanted o (yielded ops a.tmps) = true then Oper.wp P o a (w.alloc (.cells #[u] e)) K Q else E := by
  subst hH
  have hw : Region.wanted o (yielded ops a.tmps) = true := by simp [Region.wanted, hgd]
  rw [if_pos hw]
  exact wp_push_tp w s x t ho base e z b ht hi hzs v xs hs hown u c h1 hx hn hb hbase h
/-- a call through a function value, as one step of a region that draws its order -/
theorem step_fn {P : Program} {ops : Array Oper} {o : Oper} {a : Act} {w : World} {K : Act → World → Prop} {Q : Exit → Act → World → Prop} {E : Prop} (hgd : o.guard = none) (s : Operand) (args : Array Operand) (ts : Array TypeId)
    (ho : o.op = .call { callee := .value s, args := args, argTypes := ts }) (f : FuncId) (cap : Array Value) (hs : a.eval s = .func (.func f) #[] cap) (hent : ∀ (vs : Array Value) (W : World), (callFunc f vs).run P W = .ok (.enter f vs) W) {vs : Array Value} (hv : args.map a.eval = vs) {R : Ending → World → Prop}
    (hc : Calls P f (vs ++ cap) w R) (h : ∀ e w', R e w' → ∃ v, e = .returned v ∧ K (a.put o.dst v) w') :
    if Region.wanted o (yielded ops a.tmps) = true then Oper.wp P o a w K Q else E := by
  have hw : Region.wanted o (yielded ops a.tmps) = true := by simp [Region.wanted, hgd]
  rw [if_pos hw]
  have hrun : (execOp a.eval o).run P w = .ok (.enter f (vs ++ cap)) w := by
    have := hent (vs ++ cap) w
    simp [execOp, ho, resolve, Deferred.ofValue, invoke, hv, hs, this]
  unfold Oper.wp
  rw [hrun, Oper.upon_enter]
  refine hc.mono fun e w' hr => ?_
  obtain ⟨v, rfl, hk⟩ := h e w' hr
  exact hk
end Go.Proofs.Ytgffabjajbgbjaa.tape
