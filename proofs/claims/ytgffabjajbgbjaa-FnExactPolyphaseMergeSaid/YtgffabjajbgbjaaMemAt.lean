/- Appends onto one of several rows of the call's own: where the new row lies. No condition. -/
import Derived.Test.YtgffabjajbgbjaaElem
import Derived.Maps.AppendAt
set_option linter.unusedVariables false
set_option linter.unusedSimpArgs false
namespace Go.Proofs.Ytgffabjajbgbjaa.mem
open Go.RowKit

/-- v' lies where v lay, or above the world w -/
def NewAt (w : World) (v v' : Value) : Prop := ∀ g, v'.ownBlock = some g → v.ownBlock = some g ∨ w.heap.size ≤ g
theorem apt_symm {v x : Value} (h : v.ownBlock = none ∨ v.ownBlock ≠ x.ownBlock) : x.ownBlock = none ∨ x.ownBlock ≠ v.ownBlock := sep_symm h
theorem apt_new {w : World} {v v' x : Value} (h : v.ownBlock = none ∨ v.ownBlock ≠ x.ownBlock) (hn : NewAt w v v') (hx : ∀ k, x.ownBlock = some k → k < w.heap.size) : v'.ownBlock = none ∨ v'.ownBlock ≠ x.ownBlock := by
  cases hv : v'.ownBlock with
  | none => exact Or.inl rfl
  | some g =>
    right
    intro he
    rcases hn g hv with h1 | h1
    · rcases h with h | h
      · rw [h1] at h; cases h
      · exact h (h1.trans he)
    · have := hx g he.symm; omega
theorem apt_above {w : World} {v x : Value} (hv : ∀ k, v.ownBlock = some k → w.heap.size ≤ k) (hx : ∀ k, x.ownBlock = some k → k < w.heap.size) : v.ownBlock = none ∨ v.ownBlock ≠ x.ownBlock := by
  cases h : v.ownBlock with
  | none => exact Or.inl rfl
  | some g =>
    right
    intro he
    have h1 := hv g h
    have h2 := hx g he.symm
    omega
theorem cells_below {w w' : World} (hb : Below w.heap.size w w') {a : Addr} {v : Value} (h : w.cell? a = some v) : w'.cell? a = some v := (hb.cell (World.block_lt_of_cell? w a h)).trans h
/-- a world behind the alloc of a struct of a value and an owned slice, under a name -/
theorem box_of {w1 : World} {base : Nat} {e : TypeId} {sz n c : Nat} {A : Option Addr} {xs : List Value} (_h : w1.ownsRow base e sz (.slice A n c) n xs) (w : World) (p : Value) (t : TypeId) : ∃ x : World, x = w.alloc (.cells #[p, .slice A n c] t) ∧ Blk x w.heap.size t #[p, .slice A n c] := ⟨_, rfl, Blk.new _ _ _⟩
theorem rd_apart {v : Value} {A : Option Addr} {n c : Nat} (h : v.ownBlock = none ∨ v.ownBlock ≠ (Value.slice A n c).ownBlock) : ∀ b off, A = some ⟨b, off, none⟩ → some b ≠ v.ownBlock := by
  intro b off e he
  subst e
  rcases h with h | h
  · rw [h] at he; cases he
  · exact h he.symm
theorem own_lt {w : World} {base : Nat} {e : TypeId} {size n : Nat} {v : Value} {xs : List Value} (h : w.ownsRow base e size v n xs) : ∀ k, v.ownBlock = some k → k < w.heap.size := fun k hk => (h.lt k hk).2
theorem own_ge {w : World} {base : Nat} {e : TypeId} {size n : Nat} {v : Value} {xs : List Value} (h : w.ownsRow base e size v n xs) : ∀ k, v.ownBlock = some k → base ≤ k := fun k hk => (h.lt k hk).1

theorem wp_push_at {P : Program} (w : World) {o : Oper} {a : Act} {K : Act → World → Prop} {Q : Exit → Act → World → Prop} (s x : Operand) (t : TypeId)
    (ho : o.op = .call { callee := .builtin .append, args := #[s, x], argTypes := #[t, t] })
    (base : Nat) (e : TypeId) (z : Value) (sz b : Nat) (ht : P.underlying t = some (.slice e)) (hi : (P.info? e).map (fun i => (i.zero, i.size, i.bytes)) = some (some z, sz, b))
    (hzs : z.cells.size = sz) (hsz : 0 < sz) (v : Value) (n : Nat) (xs : List Value) (hs : a.eval s = v) (hown : w.ownsRow base e sz v n xs)
    (news : List Value) (c : Nat) (hl : news.length = sz) (h1 : ∀ u ∈ news, u.oneCell' = true) (hx : a.eval x = .slice (some ⟨w.heap.size, 0, none⟩) 1 c)
    (hn : n ≤ 1099511627776) (hb : b ≤ 64) (hbase : base ≤ w.heap.size)
    (h : ∀ v' w', w'.ownsRow base e sz v' (n + 1) (xs ++ news) → w.grownBy w' v.ownBlock → NewAt w v v' → K (a.put o.dst v') w') :
    o.wp P a (w.alloc (.cells news.toArray e)) K Q := by
  obtain ⟨i0, hi0, hz0, hz1, hz2⟩ := info_parts hi
  have hbb : (n + 1) * i0.bytes ≤ 140737488355328 := by
    rw [hz2]
    have := Nat.mul_le_mul (show n + 1 ≤ 1099511627777 by omega) hb
    omega
  have hc : ∀ j u, news[j]? = some u → (w.alloc (.cells news.toArray e)).cell? ((⟨w.heap.size, 0, none⟩ : Addr).add j) = some u := by
    intro j u hu
    have e1 : (⟨w.heap.size, 0, none⟩ : Addr).add j = ⟨w.heap.size, j, none⟩ := by
      unfold Addr.add; split
      · rename_i h0; subst h0; rfl
      · simp
    rw [e1, (Blk.new w e news.toArray).cell]
    simpa using hu
  obtain ⟨v', w', hr, h2, h3, _, h5⟩ := run_append_own_at (P := P) (w.alloc (.cells news.toArray e)) base t o.type e i0 z sz i0.bytes ht hi0 hz0 hz1 rfl hzs hsz v n xs (hown.alloc _) ⟨w.heap.size, 0, none⟩ 1 c news (by omega) hc h1 (by unfold maxLen; omega) hbb (by simp; omega)
  unfold Oper.wp execOp
  simp only [ho, resolve, invoke, builtin, Sem.run_bind, Sem.run_pure, Result.andThen_ok, List.map_toArray, List.map_cons, List.map_nil, hs, hx, hr]
  refine h v' w' h2 ⟨h3.os, h3.tape, h3.output, Nat.le_trans (by simp) h3.size, fun k hk hne => (h3.block k (by simp; omega) hne).trans (Below.heap_alloc w _ k hk)⟩ (fun g hg => ?_)
  rcases h5 with h5 | h5
  · exact Or.inl (h5 ▸ hg)
  · right
    rw [h5] at hg
    injection hg with hg
    simp at hg; omega
theorem push_at {P : Program} (w : World) {ops : Array Oper} {rest : List Oper} {o : Oper} {a : Act} {Q : Exit → Act → World → Prop} (hgd : o.guard = none) (s x : Operand) (t : TypeId)
    (ho : o.op = .call { callee := .builtin .append, args := #[s, x], argTypes := #[t, t] })
    (base : Nat) (e : TypeId) (z : Value) (sz b : Nat) (ht : P.underlying t = some (.slice e)) (hi : (P.info? e).map (fun i => (i.zero, i.size, i.bytes)) = some (some z, sz, b))
    (hzs : z.cells.size = sz) (hsz : 0 < sz) (v : Value) (n : Nat) (xs : List Value) (hs : a.eval s = v) (hown : w.ownsRow base e sz v n xs)
    (news : List Value) (c : Nat) (hl : news.length = sz) (h1 : ∀ u ∈ news, u.oneCell' = true) (hx : a.eval x = .slice (some ⟨w.heap.size, 0, none⟩) 1 c)
    (hn : n ≤ 1099511627776) (hb : b ≤ 64) (hbase : base ≤ w.heap.size)
    (h : ∀ v' w', w'.ownsRow base e sz v' (n + 1) (xs ++ news) → w.grownBy w' v.ownBlock → NewAt w v v' → wpList P ops Q rest (a.put o.dst v') w') :
    wpList P ops Q (o :: rest) a (w.alloc (.cells news.toArray e)) :=
  wpList_plain hgd fun _ hK => wp_push_at w s x t ho base e z sz b ht hi hzs hsz v n xs hs hown news c hl h1 hx hn hb hbase fun v' w' h2 h3 h4 => hK _ _ (h v' w' h2 h3 h4)
/-- the same, the new block's number by another name -/
theorem push_atH {P : Program} (w : World) {ops : Array Oper} {rest : List Oper} {o : Oper} {a : Act} {Q : Exit → Act → World → Prop} (hgd : o.guard = none) (s x : Operand) (t : TypeId)
    (ho : o.op = .call { callee := .builtin .append, args := #[s, x], argTypes := #[t, t] })
    (base : Nat) (e : TypeId) (z : Value) (sz b : Nat) (ht : P.underlying t = some (.slice e)) (hi : (P.info? e).map (fun i => (i.zero, i.size, i.bytes)) = some (some z, sz, b))
    (hzs : z.cells.size = sz) (hsz : 0 < sz) (v : Value) (n : Nat) (xs : List Value) (hs : a.eval s = v) (hown : w.ownsRow base e sz v n xs)
    (H : Nat) (hH : w.heap.size = H) (news : List Value) (c : Nat) (hl : news.length = sz) (h1 : ∀ u ∈ news, u.oneCell' = true) (hx : a.eval x = .slice (some ⟨H, 0, none⟩) 1 c)
    (hn : n ≤ 1099511627776) (hb : b ≤ 64) (hbase : base ≤ w.heap.size)
    (h : ∀ v' w', w'.ownsRow base e sz v' (n + 1) (xs ++ news) → w.grownBy w' v.ownBlock → NewAt w v v' → wpList P ops Q rest (a.put o.dst v') w') :
    wpList P ops Q (o :: rest) a (w.alloc (.cells news.toArray e)) := by
  subst hH
  exact push_at w hgd s x t ho base e z sz b ht hi hzs hsz v n xs hs hown news c hl h1 hx hn hb hbase h
theorem step_push_at {P : Program} (w : World) {ops : Array Oper} {o : Oper} {a : Act} {K : Act → World → Prop} {Q : Exit → Act → World → Prop} {E : Prop} (hgd : o.guard = none) (s x : Operand) (t : TypeId)
    (ho : o.op = .call { callee := .builtin .append, args := #[s, x], argTypes := #[t, t] })
    (base : Nat) (e : TypeId) (z : Value) (sz b : Nat) (ht : P.underlying t = some (.slice e)) (hi : (P.info? e).map (fun i => (i.zero, i.size, i.bytes)) = some (some z, sz, b))
    (hzs : z.cells.size = sz) (hsz : 0 < sz) (v : Value) (n : Nat) (xs : List Value) (hs : a.eval s = v) (hown : w.ownsRow base e sz v n xs)
    (news : List Value) (c : Nat) (hl : news.length = sz) (h1 : ∀ u ∈ news, u.oneCell' = true) (hx : a.eval x = .slice (some ⟨w.heap.size, 0, none⟩) 1 c)
    (hn : n ≤ 1099511627776) (hb : b ≤ 64) (hbase : base ≤ w.heap.size)
    (h : ∀ v' w', w'.ownsRow base e sz v' (n + 1) (xs ++ news) → w.grownBy w' v.ownBlock → NewAt w v v' → K (a.put o.dst v') w') :
    if Region.wanted o (yielded ops a.tmps) = true then Oper.wp P o a (w.alloc (.cells news.toArray e)) K Q else E := by
  have hw : Region.wanted o (yielded ops a.tmps) = true := by simp [Region.wanted, hgd]
  rw [if_pos hw]
  exact wp_push_at w s x t ho base e z sz b ht hi hzs hsz v n xs hs hown news c hl h1 hx hn hb hbase h
theorem step_push_atH {P : Program} (w : World) {ops : Array Oper} {o : Oper} {a : Act} {K : Act → World → Prop} {Q : Exit → Act → World → Prop} {E : Prop} (hgd : o.guard = none) (s x : Operand) (t : TypeId)
    (ho : o.op = .call { callee := .builtin .append, args := #[s, x], argTypes := #[t, t] })
    (base : Nat) (e : TypeId) (z : Value) (sz b : Nat) (ht : P.underlying t = some (.slice e)) (hi : (P.info? e).map (fun i => (i.zero, i.size, i.bytes)) = some (some z, sz, b))
    (hzs : z.cells.size = sz) (hsz : 0 < sz) (v : Value) (n : Nat) (xs : List Value) (hs : a.eval s = v) (hown : w.ownsRow base e sz v n xs)
    (H : Nat) (hH : w.heap.size = H) (news : List Value) (c : Nat) (hl : news.length = sz) (h1 : ∀ u ∈ news, u.oneCell' = true) (hx : a.eval x = .slice (some ⟨H, 0, none⟩) 1 c)
    (hn : n ≤ 1099511627776) (hb : b ≤ 64) (hbase : base ≤ w.heap.size)
    (h : ∀ v' w', w'.ownsRow base e sz v' (n + 1) (xs ++ news) → w.grownBy w' v.ownBlock → NewAt w v v' → K (a.put o.dst v') w') :
    if Region.wanted o (yielded ops a.tmps) = true then Oper.wp P o a (w.alloc (.cells news.toArray e)) K Q else E := by
  subst hH
  exact step_push_at w hgd s x t ho base e z sz b ht hi hzs hsz v n xs hs hown news c hl h1 hx hn hb hbase h
theorem wp_extend_at {P : Program} (w : World) {o : Oper} {a : Act} {K : Act → World → Prop} {Q : Exit → Act → World → Prop} (s x : Operand) (t : TypeId)
    (ho : o.op = .call { callee := .builtin .append, args := #[s, x], argTypes := #[t, t] })
    (base : Nat) (e : TypeId) (z : Value) (sz b : Nat) (ht : P.underlying t = some (.slice e)) (hi : (P.info? e).map (fun i => (i.zero, i.size, i.bytes)) = some (some z, sz, b))
    (hzs : z.cells.size = sz) (hsz : 0 < sz) (v : Value) (n : Nat) (xs : List Value) (hs : a.eval s = v) (hown : w.ownsRow base e sz v n xs)
    (A : Option Addr) (m c : Nat) (ys : List Value) (hx : a.eval x = .slice A m c) (hr : Rd w sz A m ys) (h1 : ∀ u ∈ ys, u.oneCell' = true)
    (hn : n + m ≤ 1099511627776) (hb : b ≤ 64) (hbase : base ≤ w.heap.size)
    (h : ∀ v' w', w'.ownsRow base e sz v' (n + m) (xs ++ ys) → w.grownBy w' v.ownBlock → NewAt w v v' → K (a.put o.dst v') w') :
    o.wp P a w K Q := by
  obtain ⟨i0, hi0, hz0, hz1, hz2⟩ := info_parts hi
  have hbb : (n + m) * i0.bytes ≤ 140737488355328 := by
    rw [hz2]
    have := Nat.mul_le_mul hn hb
    omega
  have go : ∀ (ad : Addr), a.eval x = .slice (some ad) m c → ys.length = m * sz → (∀ j u, ys[j]? = some u → w.cell? (ad.add j) = some u) → o.wp P a w K Q := fun ad hx hl hc => by
    obtain ⟨v', w', hr, h2, h3, _, h5⟩ := run_append_own_at (P := P) w base t o.type e i0 z sz i0.bytes ht hi0 hz0 hz1 rfl hzs hsz v n xs hown ad m c ys hl hc h1 (by unfold maxLen; omega) hbb hbase
    unfold Oper.wp execOp
    simp only [ho, resolve, invoke, builtin, Sem.run_bind, Sem.run_pure, Result.andThen_ok, List.map_toArray, List.map_cons, List.map_nil, hs, hx, hr]
    refine h v' w' h2 h3 (fun g hg => ?_)
    rcases h5 with h5 | h5
    · exact Or.inl (h5 ▸ hg)
    · right
      rw [h5] at hg
      injection hg with hg
      omega
  by_cases hm : m = 0
  · subst hm
    have hy : ys = [] := List.eq_nil_of_length_eq_zero (by simpa using hr.1)
    subst hy
    cases A with
    | none =>
      have hrun := run_app_none base t o.type e i0 sz ht hi0 v n xs hown c
      unfold Oper.wp execOp
      simp only [ho, resolve, invoke, builtin, Sem.run_bind, Sem.run_pure, Result.andThen_ok, List.map_toArray, List.map_cons, List.map_nil, hs, hx, hrun]
      exact h v w (by simpa using hown) (World.grownBy.refl _ _) (fun g hg => Or.inl hg)
    | some ad => exact go ad hx (by simp) (by intro j u hu; simp at hu)
  · obtain ⟨bk, off, rfl, hc⟩ := hr.cells (by omega)
    refine go ⟨bk, off, none⟩ hx hr.1 ?_
    intro j u hu
    have e1 : (⟨bk, off, none⟩ : Addr).add j = ⟨bk, off + j, none⟩ := by
      unfold Addr.add; split
      · rename_i h0; subst h0; rfl
      · rfl
    rw [e1]; exact hc j u hu
theorem extend_at {P : Program} (w : World) {ops : Array Oper} {rest : List Oper} {o : Oper} {a : Act} {Q : Exit → Act → World → Prop} (hgd : o.guard = none) (s x : Operand) (t : TypeId)
    (ho : o.op = .call { callee := .builtin .append, args := #[s, x], argTypes := #[t, t] })
    (base : Nat) (e : TypeId) (z : Value) (sz b : Nat) (ht : P.underlying t = some (.slice e)) (hi : (P.info? e).map (fun i => (i.zero, i.size, i.bytes)) = some (some z, sz, b))
    (hzs : z.cells.size = sz) (hsz : 0 < sz) (v : Value) (n : Nat) (xs : List Value) (hs : a.eval s = v) (hown : w.ownsRow base e sz v n xs)
    (A : Option Addr) (m c : Nat) (ys : List Value) (hx : a.eval x = .slice A m c) (hr : Rd w sz A m ys) (h1 : ∀ u ∈ ys, u.oneCell' = true)
    (hn : n + m ≤ 1099511627776) (hb : b ≤ 64) (hbase : base ≤ w.heap.size)
    (h : ∀ v' w', w'.ownsRow base e sz v' (n + m) (xs ++ ys) → w.grownBy w' v.ownBlock → NewAt w v v' → wpList P ops Q rest (a.put o.dst v') w') :
    wpList P ops Q (o :: rest) a w :=
  wpList_plain hgd fun _ hK => wp_extend_at w s x t ho base e z sz b ht hi hzs hsz v n xs hs hown A m c ys hx hr h1 hn hb hbase fun v' w' h2 h3 h4 => hK _ _ (h v' w' h2 h3 h4)
theorem step_extend_at {P : Program} (w : World) {ops : Array Oper} {o : Oper} {a : Act} {K : Act → World → Prop} {Q : Exit → Act → World → Prop} {E : Prop} (hgd : o.guard = none) (s x : Operand) (t : TypeId)
    (ho : o.op = .call { callee := .builtin .append, args := #[s, x], argTypes := #[t, t] })
    (base : Nat) (e : TypeId) (z : Value) (sz b : Nat) (ht : P.underlying t = some (.slice e)) (hi : (P.info? e).map (fun i => (i.zero, i.size, i.bytes)) = some (some z, sz, b))
    (hzs : z.cells.size = sz) (hsz : 0 < sz) (v : Value) (n : Nat) (xs : List Value) (hs : a.eval s = v) (hown : w.ownsRow base e sz v n xs)
    (A : Option Addr) (m c : Nat) (ys : List Value) (hx : a.eval x = .slice A m c) (hr : Rd w sz A m ys) (h1 : ∀ u ∈ ys, u.oneCell' = true)
    (hn : n + m ≤ 1099511627776) (hb : b ≤ 64) (hbase : base ≤ w.heap.size)
    (h : ∀ v' w', w'.ownsRow base e sz v' (n + m) (xs ++ ys) → w.grownBy w' v.ownBlock → NewAt w v v' → K (a.put o.dst v') w') :
    if Region.wanted o (yielded ops a.tmps) = true then Oper.wp P o a w K Q else E := by
  have hw : Region.wanted o (yielded ops a.tmps) = true := by simp [Region.wanted, hgd]
  rw [if_pos hw]
  exact wp_extend_at w s x t ho base e z sz b ht hi hzs hsz v n xs hs hown A m c ys hx hr h1 hn hb hbase h
/-- an empty row and a box, made in either order -/
theorem ins3 (w : World) (t : TypeId) (sz : Nat) (box : Array Value) :
    ((w.alloc (.cells #[] t)).drew.ownsRow w.heap.size t sz (.slice (some ⟨w.heap.size, 0, none⟩) 0 0) 0 [] ∧ Below w.heap.size w (w.alloc (.cells #[] t)).drew) ∧
    (((w.alloc (.cells #[] t)).alloc (.cells box t)).drew.ownsRow w.heap.size t sz (.slice (some ⟨w.heap.size, 0, none⟩) 0 0) 0 [] ∧ Blk ((w.alloc (.cells #[] t)).alloc (.cells box t)).drew (w.heap.size + 1) t box ∧ Below w.heap.size w ((w.alloc (.cells #[] t)).alloc (.cells box t)).drew) ∧
    (((w.alloc (.cells box t)).alloc (.cells #[] t)).drew.ownsRow w.heap.size t sz (.slice (some ⟨w.heap.size + 1, 0, none⟩) 0 0) 0 [] ∧ Blk ((w.alloc (.cells box t)).alloc (.cells #[] t)).drew w.heap.size t box ∧ Below w.heap.size w ((w.alloc (.cells box t)).alloc (.cells #[] t)).drew) := by
  have o1 : (w.alloc (.cells #[] t)).ownsRow w.heap.size t sz (.slice (some ⟨w.heap.size, 0, none⟩) 0 0) 0 [] := by
    have := (Blk.new w t #[]).own (base := w.heap.size) (size := sz) (n := 0) (c := 0) (Nat.le_refl _) (Nat.le_refl _) (Nat.zero_le _) (by simp)
    simpa using this
  have b1 : ∀ o, Below w.heap.size w (w.alloc o) := fun o => (Below.refl _ _).alloc (Nat.le_refl _) o
  have b2 : ∀ o o', Below w.heap.size w ((w.alloc o).alloc o') := fun o o' => (b1 o).alloc (by simp) o'
  have e : ∀ o, (w.alloc o).heap.size = w.heap.size + 1 := fun o => by simp
  refine ⟨⟨o1, below_drewN (b1 _) 1⟩, ⟨own_below o1 (below_drewN ((Below.refl _ _).alloc (Nat.le_refl _) _) 1), ?_, below_drewN (b2 _ _) 1⟩, ⟨?_, (Blk.new w t box).alloc _, below_drewN (b2 _ _) 1⟩⟩
  · have := Blk.new (w.alloc (.cells #[] t)) t box
    rw [e] at this; exact this
  · have := (Blk.new (w.alloc (.cells box t)) t #[]).own (base := w.heap.size) (size := sz) (n := 0) (c := 0) (by rw [e]; omega) (Nat.le_refl _) (Nat.zero_le _) (by simp)
    rw [e] at this
    have h0 : (#[] : Array Value).toList.take (0 * sz) = [] := by simp
    rw [h0] at this
    exact this
theorem Blk.rd_one {w : World} {g : Nat} {t : TypeId} {sz : Nat} {xs : List Value} (h : Blk w g t xs.toArray) (hl : xs.length = sz) : Rd w sz (some ⟨g, 0, none⟩) 1 xs :=
  h.rd (by omega) (by rw [Nat.one_mul, ← hl]; simp)
theorem own_ne {w : World} {base : Nat} {e : TypeId} {size n k : Nat} {v : Value} {xs : List Value} (h : w.ownsRow base e size v n xs) (hk : k < base) : some k ≠ v.ownBlock := fun e => by have := (h.lt k e.symm).1; omega
end Go.Proofs.Ytgffabjajbgbjaa.mem
