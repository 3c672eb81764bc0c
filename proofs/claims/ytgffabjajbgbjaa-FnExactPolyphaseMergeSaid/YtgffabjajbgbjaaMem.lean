/- Words for memory: a slice that reads as a list, a block known whole, and how they last. No condition. -/
import Derived.Test.YtgffabjajbgbjaaChecked
import Derived.WalkKit
import Derived.ProofKit
import Derived.BigQuiet
import Derived.Lib.Hide
import Derived.Deep.QuietTactic
import Derived.Deep.Draws
import Derived.Laws.OwnMore
set_option linter.unusedVariables false
set_option linter.unusedSimpArgs false
namespace Go.Proofs.Ytgffabjajbgbjaa.mem
open Go.RowKit Go.ChangeShapes Go.WideShapes Go.ChangeAt

/-! ### a slice that reads as a list of cells -/
/-- the slice at address A, of n elements of sz cells each, reads as the cells xs -/
def Rd (w : World) (sz : Nat) (A : Option Addr) (n : Nat) (xs : List Value) : Prop :=
  xs.length = n * sz ∧ (0 < n → ∃ b off, A = some ⟨b, off, none⟩ ∧ ∀ j u, xs[j]? = some u → w.cell? ⟨b, off + j, none⟩ = some u)
def ints (zs : List Int) : List Value := zs.map (Value.int .i64)
def u8s (zs : List Int) : List Value := zs.map (Value.int .u8)
def strs (ss : List ByteArray) : List Value := ss.map Value.string
def bools (bs : List Bool) : List Value := bs.map Value.bool
theorem len_ints (zs : List Int) : (ints zs).length = zs.length := List.length_map _
theorem len_strs (zs : List ByteArray) : (strs zs).length = zs.length := List.length_map _
theorem len_bools (zs : List Bool) : (bools zs).length = zs.length := List.length_map _
theorem ints_app (a b : List Int) : ints (a ++ b) = ints a ++ ints b := List.map_append
theorem strs_app (a b : List ByteArray) : strs (a ++ b) = strs a ++ strs b := List.map_append
theorem ints_one (zs : List Int) : ∀ u ∈ ints zs, u.oneCell' = true := by
  intro u hu; obtain ⟨z, _, rfl⟩ := List.mem_map.1 hu; rfl
theorem strs_one (zs : List ByteArray) : ∀ u ∈ strs zs, u.oneCell' = true := by
  intro u hu; obtain ⟨z, _, rfl⟩ := List.mem_map.1 hu; rfl

section
variable {w w' : World} {sz n : Nat} {A : Option Addr} {xs : List Value}
theorem Rd.nil : Rd w sz A 0 [] := ⟨by simp, fun h => absurd h (by omega)⟩
theorem Rd.keep (h : Rd w sz A n xs) (hk : ∀ a : Addr, ∀ v, w.cell? a = some v → w'.cell? a = some v) : Rd w' sz A n xs :=
  ⟨h.1, fun hn => by
    obtain ⟨b, off, e, hc⟩ := h.2 hn
    exact ⟨b, off, e, fun j u hu => hk _ _ (hc j u hu)⟩⟩
theorem Rd.below (h : Rd w sz A n xs) (hb : Below w.heap.size w w') : Rd w' sz A n xs :=
  h.keep fun a v hv => (hb.cell (World.block_lt_of_cell? w a hv)).trans hv
theorem Rd.drewN (h : Rd w sz A n xs) (k : Nat) : Rd (w.drewN k) sz A n xs := h
theorem Rd.drew (h : Rd w sz A n xs) : Rd w.drew sz A n xs := h
theorem Rd.alloc (h : Rd w sz A n xs) (o : Obj) : Rd (w.alloc o) sz A n xs := h.below ((Below.refl _ _).alloc (Nat.le_refl _) o)
/-- kept where the world changes only in a block that the slice does not lie in -/
theorem Rd.grown (h : Rd w sz A n xs) {row : Option Nat} (hg : w.grownBy w' row) (hne : ∀ b off, A = some ⟨b, off, none⟩ → some b ≠ row) : Rd w' sz A n xs :=
  ⟨h.1, fun hn => by
    obtain ⟨b, off, e, hc⟩ := h.2 hn
    exact ⟨b, off, e, fun j u hu => hg.cell (hc j u hu) (hne b off e)⟩⟩
theorem Rd.cells (h : Rd w sz A n xs) (hn : 0 < n) : ∃ b off, A = some ⟨b, off, none⟩ ∧ ∀ j u, xs[j]? = some u → w.cell? ⟨b, off + j, none⟩ = some u := h.2 hn
theorem Rd.one {k : Nat} (h : Rd w 1 A n xs) (hk : k < n) : ∃ b off, A = some ⟨b, off, none⟩ ∧ ∃ u, xs[k]? = some u ∧ w.cell? ⟨b, off + k, none⟩ = some u := by
  obtain ⟨b, off, e, hc⟩ := h.2 (by omega)
  have hl : k < xs.length := by have := h.1; omega
  exact ⟨b, off, e, xs[k], List.getElem?_eq_getElem hl, hc k _ (List.getElem?_eq_getElem hl)⟩
/-- a cut of a slice: the model keeps the old address where nothing is behind the cut -/
theorem Rd.cut (h : Rd w sz A n xs) {k m cap : Nat} (hk : k + m ≤ n) (hc : n ≤ cap) :
    Rd w sz (if cap = k then A else A.map (·.add (k * sz))) m ((xs.drop (k * sz)).take (m * sz)) := by
  have hl := h.1
  have hmul : k * sz + m * sz ≤ n * sz := by rw [← Nat.add_mul]; exact Nat.mul_le_mul_right _ hk
  refine ⟨by rw [List.length_take, List.length_drop]; omega, fun hm => ?_⟩
  obtain ⟨b, off, rfl, hcell⟩ := h.2 (by omega)
  rw [if_neg (by omega)]
  refine ⟨b, off + k * sz, ?_, fun j u hu => ?_⟩
  · simp only [Option.map_some, Addr.add]; split
    · rename_i h0; rw [h0]; rfl
    · rfl
  · rw [List.getElem?_take] at hu
    split at hu
    · rw [List.getElem?_drop] at hu
      have := hcell _ u hu
      rwa [Nat.add_assoc]
    · cases hu
theorem Rd.take (h : Rd w sz A n xs) {m : Nat} (hm : m ≤ n) : Rd w sz A m (xs.take (m * sz)) := by
  refine ⟨by rw [List.length_take, h.1]; have := Nat.mul_le_mul_right sz hm; omega, fun h0 => ?_⟩
  obtain ⟨b, off, rfl, hcell⟩ := h.2 (by omega)
  refine ⟨b, off, rfl, fun j u hu => hcell j u ?_⟩
  rw [List.getElem?_take] at hu
  split at hu
  · exact hu
  · cases hu
end

theorem Rd.int {w : World} {A : Option Addr} {zs : List Int} (h : Rd w 1 A zs.length (ints zs)) {k : Nat} (hk : k < zs.length) : ∃ b off, A = some ⟨b, off, none⟩ ∧ w.cell? ⟨b, off + k, none⟩ = some (.int .i64 zs[k]) := by
  obtain ⟨b, off, e, u, hu, hc⟩ := h.one hk
  refine ⟨b, off, e, hc.trans ?_⟩
  rw [← hu]; simp [ints, hk]
theorem Rd.byte {w : World} {A : Option Addr} {zs : List Int} (h : Rd w 1 A zs.length (u8s zs)) {k : Nat} (hk : k < zs.length) : ∃ b off, A = some ⟨b, off, none⟩ ∧ w.cell? ⟨b, off + k, none⟩ = some (.int .u8 zs[k]) := by
  obtain ⟨b, off, e, u, hu, hc⟩ := h.one hk
  refine ⟨b, off, e, hc.trans ?_⟩
  rw [← hu]; simp [u8s, hk]
theorem Rd.str {w : World} {A : Option Addr} {zs : List ByteArray} (h : Rd w 1 A zs.length (strs zs)) {k : Nat} (hk : k < zs.length) : ∃ b off, A = some ⟨b, off, none⟩ ∧ w.cell? ⟨b, off + k, none⟩ = some (.string zs[k]) := by
  obtain ⟨b, off, e, u, hu, hc⟩ := h.one hk
  refine ⟨b, off, e, hc.trans ?_⟩
  rw [← hu]; simp [strs, hk]
theorem Rd.bool {w : World} {A : Option Addr} {zs : List Bool} (h : Rd w 1 A zs.length (bools zs)) {k : Nat} (hk : k < zs.length) : ∃ b off, A = some ⟨b, off, none⟩ ∧ w.cell? ⟨b, off + k, none⟩ = some (.bool zs[k]) := by
  obtain ⟨b, off, e, u, hu, hc⟩ := h.one hk
  refine ⟨b, off, e, hc.trans ?_⟩
  rw [← hu]; simp [bools, hk]

/-! ### a block that is known whole -/
def Blk (w : World) (g : Nat) (t : TypeId) (cs : Array Value) : Prop := w.heap[g]? = some (.cells cs t (0, 0))
section
variable {w w' : World} {g : Nat} {t : TypeId} {cs : Array Value}
theorem Blk.lt (h : Blk w g t cs) : g < w.heap.size := (Array.getElem?_eq_some_iff.1 h).1
theorem Blk.cell (h : Blk w g t cs) (i : Nat) : w.cell? ⟨g, i, none⟩ = cs[i]? := cell_of_row w g i cs t (0, 0) h
theorem Blk.thaw (h : Blk w g t cs) (i : Nat) : w.frozen? ⟨g, i, none⟩ = false := by
  unfold Blk at h
  simp [World.frozen?, h]
theorem Blk.new (w : World) (t : TypeId) (cs : Array Value) : Blk (w.alloc (.cells cs t)) w.heap.size t cs := heap_alloc_new w _
theorem Blk.drewN (h : Blk w g t cs) (n : Nat) : Blk (w.drewN n) g t cs := h
theorem Blk.drew (h : Blk w g t cs) : Blk w.drew g t cs := h
theorem Blk.alloc (h : Blk w g t cs) (o : Obj) : Blk (w.alloc o) g t cs := (Below.heap_alloc w o g h.lt).trans h
theorem Blk.put (h : Blk w g t cs) (i : Nat) (u : Value) : Blk (w.setCell ⟨g, i, none⟩ u) g t (cs.setIfInBounds i u) := by
  unfold Blk at h ⊢
  simp [World.setCell, Array.getElem?_modify, h]
theorem Blk.far (h : Blk w g t cs) {p : Addr} (hp : g ≠ p.block) (u : Value) : Blk (w.setCell p u) g t cs := (Below.heap_setCell w p u g hp).trans h
theorem Blk.below {B : Nat} (h : Blk w g t cs) (hb : Below B w w') (hg : g < B) : Blk w' g t cs := (hb.block g hg).trans h
theorem Blk.grown {row : Option Nat} (h : Blk w g t cs) (hb : w.grownBy w' row) (hg : some g ≠ row) : Blk w' g t cs := (hb.block g h.lt hg).trans h
theorem Blk.own {base size n c : Nat} (h : Blk w g t cs) (hb : base ≤ g) (hn : n ≤ c) (hc : c ≤ maxLen) (hs : cs.size = c * size) :
    w.ownsRow base t size (.slice (some ⟨g, 0, none⟩) n c) n (cs.toList.take (n * size)) :=
  ⟨by rw [List.length_take, Array.length_toList, hs]; have := Nat.mul_le_mul_right size hn; omega, .inr ⟨g, c, cs, rfl, hb, h, hn, hc, hs, rfl⟩⟩
theorem Blk.rd {sz n : Nat} {xs : List Value} (h : Blk w g t cs) (hl : xs.length = n * sz) (hx : cs.toList.take (n * sz) = xs) : Rd w sz (some ⟨g, 0, none⟩) n xs := by
  refine ⟨hl, fun _ => ⟨g, 0, rfl, fun j u hu => ?_⟩⟩
  rw [Nat.zero_add, h.cell]
  rw [← hx, List.getElem?_take] at hu
  split at hu
  · simpa using hu
  · cases hu
end
/-- an owned row, by its form -/
theorem own_form {w : World} {base : Nat} {e : TypeId} {size n : Nat} {v : Value} {xs : List Value} (h : w.ownsRow base e size v n xs) :
    ∃ A c, v = .slice A n c ∧ n ≤ c ∧ c ≤ maxLen ∧ Rd w size A n xs := by
  rcases h.2 with ⟨rfl, rfl⟩ | ⟨g, cap, cur, rfl, hb, hg, hnc, hcm, hcs, htake⟩
  · exact ⟨none, 0, rfl, by omega, Nat.zero_le _, h.1, fun h => absurd h (by omega)⟩
  · exact ⟨_, cap, rfl, hnc, hcm, Blk.rd (t := e) hg h.1 htake⟩
/-- an owned row lasts where nothing below the heap's end has changed -/
theorem own_below {w w' : World} {base : Nat} {e : TypeId} {size n : Nat} {v : Value} {xs : List Value} (h : w.ownsRow base e size v n xs) (hb : Below w.heap.size w w') : w'.ownsRow base e size v n xs :=
  h.kept (row := none) ⟨hb.os, hb.tape, hb.output, hb.size, fun k hk _ => hb.block k hk⟩ (by cases v.ownBlock <;> simp)
theorem own_drewN {w : World} {base : Nat} {e : TypeId} {size n : Nat} {v : Value} {xs : List Value} (h : w.ownsRow base e size v n xs) (k : Nat) : (w.drewN k).ownsRow base e size v n xs := h
theorem own_base {w : World} {base base' : Nat} {e : TypeId} {size n : Nat} {v : Value} {xs : List Value} (h : w.ownsRow base e size v n xs) (hb : base' ≤ base) : w.ownsRow base' e size v n xs := by
  refine ⟨h.1, ?_⟩
  rcases h.2 with h0 | ⟨g, cap, cur, hv, hg, r⟩
  · exact .inl h0
  · exact .inr ⟨g, cap, cur, hv, by omega, r⟩

theorem own_rd {w : World} {base : Nat} {e : TypeId} {size n c : Nat} {A : Option Addr} {xs : List Value} (h : w.ownsRow base e size (.slice A n c) n xs) : Rd w size A n xs := by
  obtain ⟨A', c', he, _, _, hr⟩ := own_form h
  injection he with h1 h2 h3
  subst h1
  exact hr
section
variable {w : World} {base : Nat} {e : TypeId} {size n c g : Nat} {A : Option Addr} {xs : List Value}
theorem own_addr (h : w.ownsRow base e size (.slice A n c) n xs) (hn : 0 < n) : ∃ g, A = some ⟨g, 0, none⟩ ∧ base ≤ g ∧ g < w.heap.size := by
  rcases h.2 with ⟨_, h0⟩ | ⟨g, cap, cur, hv, hb, hg, _⟩
  · omega
  · injection hv with h1 h2 h3
    exact ⟨g, h1, hb, (Array.getElem?_eq_some_iff.1 hg).1⟩
theorem own_cell (h : w.ownsRow base e size (.slice (some ⟨g, 0, none⟩) n c) n xs) {i : Nat} {u : Value} (hu : xs[i]? = some u) : w.cell? ⟨g, i, none⟩ = some u := by
  rcases h.2 with ⟨hv, _⟩ | ⟨g', cap, cur, hv, hb, hg, hnc, hcm, hcs, ht⟩
  · cases hv
  · injection hv with h1 h2 h3
    injection h1 with h1
    injection h1 with h1
    subst h1
    rw [Blk.cell (t := e) hg]
    rw [← ht, List.getElem?_take] at hu
    split at hu
    · simpa using hu
    · cases hu
theorem own_thaw (h : w.ownsRow base e size (.slice (some ⟨g, 0, none⟩) n c) n xs) (i : Nat) : w.frozen? ⟨g, i, none⟩ = false := by
  rcases h.2 with ⟨hv, _⟩ | ⟨g', cap, cur, hv, hb, hg, _⟩
  · cases hv
  · injection hv with h1 h2 h3
    injection h1 with h1
    injection h1 with h1
    subst h1
    exact Blk.thaw (t := e) hg i
theorem own_put (h : w.ownsRow base e size (.slice (some ⟨g, 0, none⟩) n c) n xs) {i : Nat} (hi : i < xs.length) (u : Value) : (w.setCell ⟨g, i, none⟩ u).ownsRow base e size (.slice (some ⟨g, 0, none⟩) n c) n (xs.set i u) := by
  rcases h.2 with ⟨hv, _⟩ | ⟨g', cap, cur, hv, hb, hg, hnc, hcm, hcs, ht⟩
  · cases hv
  · injection hv with h1 h2 h3
    injection h1 with h1
    injection h1 with h1
    subst h1; subst h3
    refine ⟨by rw [List.length_set]; exact h.1, .inr ⟨g, c, cur.setIfInBounds i u, rfl, hb, Blk.put (t := e) hg i u, hnc, hcm, by simpa using hcs, ?_⟩⟩
    rw [← ht]
    simp only [Array.toList_setIfInBounds]
    rw [List.take_set]
theorem own_far {v : Value} (h : w.ownsRow base e size v n xs) {p : Addr} (hp : v.ownBlock ≠ some p.block) (u : Value) : (w.setCell p u).ownsRow base e size v n xs :=
  h.kept (row := some p.block) ⟨rfl, rfl, rfl, by simp [World.setCell], fun k hk hne => Below.heap_setCell w p u k (fun e => hne (by rw [e]))⟩ (.inr hp)
theorem rd_far {w : World} {sz n : Nat} {A : Option Addr} {xs : List Value} (h : Rd w sz A n xs) {p : Addr} (hp : ∀ b off, A = some ⟨b, off, none⟩ → b ≠ p.block) (u : Value) : Rd (w.setCell p u) sz A n xs :=
  h.grown (row := some p.block) ⟨rfl, rfl, rfl, by simp [World.setCell], fun k hk hne => Below.heap_setCell w p u k (fun e => hne (by rw [e]))⟩ (fun b off e h => hp b off e (by injection h))
end
theorem ints_set (zs : List Int) (i : Nat) (z : Int) : (ints zs).set i (.int .i64 z) = ints (zs.set i z) := by simp [ints, List.map_set]
theorem ints_get (zs : List Int) (i : Nat) (h : i < zs.length) : (ints zs)[i]? = some (.int .i64 zs[i]) := by simp [ints, h]
theorem ints_getD (zs : List Int) (i : Nat) (h : i < zs.length) : (ints zs)[i]? = some (.int .i64 (zs.getD i 0)) := by simp [ints, h]
/-- two rows that were made one behind the other lie apart -/
theorem sep {v x : Value} {b u b' u' : Nat} (hv : ∀ k, v.ownBlock = some k → b ≤ k ∧ k < u) (hx : ∀ k, x.ownBlock = some k → b' ≤ k ∧ k < u') (h : u ≤ b' ∨ u' ≤ b) : v.ownBlock = none ∨ v.ownBlock ≠ x.ownBlock := by
  cases hk : v.ownBlock with
  | none => exact .inl rfl
  | some k =>
    refine .inr fun e => ?_
    have h1 := hv k hk
    have h2 := hx k e.symm
    omega
theorem sep_symm {v x : Value} (h : v.ownBlock = none ∨ v.ownBlock ≠ x.ownBlock) : x.ownBlock = none ∨ x.ownBlock ≠ v.ownBlock := by
  rcases h with h | h
  · cases hk : x.ownBlock with
    | none => exact .inl rfl
    | some k => exact .inr (by rw [h]; simp)
  · exact .inr fun e => h e.symm
/-- two empty rows, laid one behind the other -/
theorem own_made2 (w : World) (e : TypeId) (size : Nat) : ((w.alloc (.cells #[] e)).alloc (.cells #[] e)).ownsRow w.heap.size e size (.slice (some ⟨w.heap.size + 1, 0, none⟩) 0 0) 0 [] := by
  have h := World.ownsRow_made (size := size) (e := e) (w.alloc (.cells #[] e)) #[] 0 (Nat.le_refl _) (Nat.zero_le _) (by simp)
  rw [show (w.alloc (.cells #[] e)).heap.size = w.heap.size + 1 by simp] at h
  exact own_base h (by omega)
/-- what a function hands back: a row of its own, laid behind the old heap's end, of at most 2^20 elements -/
def OwnI (w w' : World) (v : Value) (zs : List Int) : Prop := w'.ownsRow w.heap.size 3 1 v zs.length (ints zs) ∧ zs.length ≤ 1048576
def OwnS (w w' : World) (v : Value) (zs : List ByteArray) : Prop := w'.ownsRow w.heap.size 9 1 v zs.length (strs zs) ∧ zs.length ≤ 1048576
/-- a function number that a call enters (each function of the program with a body) -/
def Enters (f : Nat) : Prop := ∀ (args : Array Value) (w : World), (callFunc f args).run Try.prog w = .ok (.enter f args) w

theorem bytes_eq {a b : ByteArray} (h : (a.toList == b.toList) = true) : a = b := by
  have h' : a.toList = b.toList := by simpa using h
  rw [ByteArray.toList_eq, ByteArray.toList_eq] at h'
  exact bytes_inj h'
theorem bytes_ne {a b : ByteArray} (h : ¬ a = b) : (a.toList == b.toList) = false := by
  rw [← Bool.not_eq_true]; exact fun e => h (bytes_eq e)

/-! ### worlds -/
theorem below_drewN {B : Nat} {a w : World} (h : Below B a w) (n : Nat) : Below B a (w.drewN n) := ⟨h.os, h.tape, h.output, h.size, h.block⟩
theorem below_step {a b c : World} (h : Below a.heap.size a b) (k : Below b.heap.size b c) : Below a.heap.size a c := h.trans (k.mono h.size)
theorem below_at {B : Nat} {a b c : World} (h : Below B a b) (hB : B ≤ b.heap.size) (k : Below b.heap.size b c) : Below B a c := h.trans (k.mono hB)
theorem below_grown {B : Nat} {a b c : World} {row : Option Nat} (h : Below B a b) (hB : B ≤ b.heap.size) (k : b.grownBy c row) (hr : ∀ g, row = some g → B ≤ g) : Below B a c := h.grown k hB hr
/-- behind an append onto a row of the call's own -/
theorem below_push {B n sz : Nat} {a b c : World} {v : Value} {e : TypeId} {xs : List Value} (h : Below B a b) (hB : B ≤ b.heap.size) (k : b.grownBy c v.ownBlock) (ho : b.ownsRow B e sz v n xs) : Below B a c :=
  h.grown k hB (fun g hg => (ho.lt g hg).1)
theorem grown_undrew {a b : World} {row : Option Nat} (h : a.drew.grownBy b row) : a.grownBy b row := ⟨h.os, h.tape, h.output, h.size, h.block⟩
theorem only_drewN {a w : World} {row : Option Nat} (h : a.grownBy w row) (n : Nat) : a.grownBy (w.drewN n) row := ⟨h.os, h.tape, h.output, h.size, h.block⟩
theorem only_put {a w : World} {g : Nat} (h : a.grownBy w (some g)) (i : Nat) (u : Value) : a.grownBy (w.setCell ⟨g, i, none⟩ u) (some g) :=
  ⟨h.os, h.tape, h.output, by simpa [World.setCell] using h.size, fun k hk hne => (Below.heap_setCell w ⟨g, i, none⟩ u k (fun e => hne (by rw [e]))).trans (h.block k hk hne)⟩
/-- a contract that leaves the world as it is, inside a region that only reads -/
theorem quiet_eq {P : Program} {f : FuncId} {args : Array Value} {w : World} {n : Nat} {v : Value}
    (h : Calls P f args (w.drewN n) fun e w' => e = .returned v ∧ w.drewN n = w') : Calls P f args (w.drewN n) fun e w'' => e = .returned v ∧ ∃ m, w'' = w.drewN m :=
  h.mono fun _ _ ⟨he, hm⟩ => ⟨he, n, hm.symm⟩
/-- a contract that draws and no more, there -/
theorem quiet_draws {P : Program} {f : FuncId} {args : Array Value} {w : World} {n : Nat} {v : Value}
    (h : Calls P f args (w.drewN n) fun e w' => e = .returned v ∧ ∃ m, w' = (w.drewN n).drewN m) : Calls P f args (w.drewN n) fun e w'' => e = .returned v ∧ ∃ m, w'' = w.drewN m :=
  h.mono fun _ _ ⟨he, m, hm⟩ => ⟨he, n + m, by rw [hm, World.drewN_drewN]⟩
theorem ret_int {a b : Int} (h : a = b) : Ending.returned (.int .i64 a) = .returned (.int .i64 b) := by rw [h]
theorem ret_bool {a b : Bool} (h : a = b) : Ending.returned (.bool a) = .returned (.bool b) := by rw [h]

theorem getElem_of (cur : Array Value) (i : Nat) (h : i < cur.size) : ∃ u, cur[i]? = some u := ⟨cur[i], Array.getElem?_eq_getElem h⟩
/-! ### a new row, filled from the left -/
def rep (n : Nat) (z : Value) : Array Value := Array.replicate n z
theorem made_rep (z : Value) (n : Nat) (h : z.cells = #[z]) : madeCells z.cells n = rep n z := by
  rw [h]
  apply Array.ext
  · simp [madeCells, rep]
  · intro i h1 h2
    simp [madeCells, rep, Nat.mod_one]
theorem make_rep {P : Program} (t e : TypeId) (z : Value) (b : Nat) (ht : P.underlying t = some (.slice e)) (hi : (P.info? e).map (fun i => (i.zero, i.size, i.bytes)) = some (some z, 1, b))
    (h : z.cells = #[z]) (n : Nat) (hb : b * n ≤ 281474976710656) (hn : n ≤ maxLen) (w : World) :
    (Instr.makeSlice t (.int .i64 (n : Int)) (.int .i64 (n : Int))).run P w = .ok (.slice (some ⟨w.heap.size, 0, none⟩) n n) (w.alloc (.cells (rep n z) e)) := by
  obtain ⟨i0, hi0, hz0, hz1, hz2⟩ := info_parts hi
  have hb' : (i0.bytes : Int) * (n : Int) ≤ 281474976710656 := by
    have h1 : ((b * n : Nat) : Int) ≤ 281474976710656 := by omega
    rwa [hz2, ← Int.natCast_mul]
  have hr := run_make (P := P) w t e i0 z ht hi0 hz0 .i64 .i64 n n (by omega) (by omega) hb' (by unfold maxLen at hn; omega)
  simp only [Int.toNat_natCast, hz1, Nat.mul_one] at hr
  rw [hr, made_rep _ _ h]
def filled (xs : List Value) (z : Value) (k : Nat) : Array Value := (xs.take k ++ List.replicate (xs.length - k) z).toArray
theorem filled_zero (xs : List Value) (z : Value) (n : Nat) (h : xs.length = n) : rep n z = filled xs z 0 := by
  subst h
  simp [rep, filled]
theorem filled_size (xs : List Value) (z : Value) (k : Nat) (hk : k ≤ xs.length) : (filled xs z k).size = xs.length := by
  simp [filled]; omega
theorem filled_at (xs : List Value) (z : Value) (k : Nat) (hk : k < xs.length) : (filled xs z k)[k]? = some z := by
  unfold filled
  rw [List.getElem?_toArray, List.getElem?_append_right (by rw [List.length_take]; omega), List.getElem?_replicate, if_pos (by rw [List.length_take]; omega)]
theorem filled_later (xs : List Value) (z : Value) {k j : Nat} (hkj : k ≤ j) (hj : j < xs.length) : (filled xs z k)[j]? = some z := by
  unfold filled
  rw [List.getElem?_toArray, List.getElem?_append_right (by rw [List.length_take]; omega), List.getElem?_replicate, if_pos (by rw [List.length_take]; omega)]
theorem filled_step (xs : List Value) (z u : Value) (k : Nat) (hu : xs[k]? = some u) : (filled xs z k).setIfInBounds k u = filled xs z (k + 1) := by
  have hk : k < xs.length := (List.getElem?_eq_some_iff.1 hu).1
  have e : xs.length - k = (xs.length - (k + 1)) + 1 := by omega
  unfold filled
  rw [e, List.replicate_succ, List.setIfInBounds_toArray, List.set_append_right _ _ (by simp; omega)]
  congr 1
  simp only [List.length_take, Nat.min_eq_left (Nat.le_of_lt hk), Nat.sub_self, List.set_cons_zero]
  rw [List.take_add_one, hu]
  simp
theorem filled_all (xs : List Value) (z : Value) : filled xs z xs.length = xs.toArray := by simp [filled]

/-- what is left of a budget -/
def szv (l : Int) (m : Nat) : Int := if (m : Int) ≤ l then l - m else -1
theorem szv_neg {l : Int} {m : Nat} (h : ¬ (m : Int) ≤ l) : szv l m = -1 := if_neg h
theorem szv_pos {l : Int} {m : Nat} (h : (m : Int) ≤ l) : szv l m = l - m := if_pos h

theorem info_int : (Try.prog.info? 3).map (fun i => (i.zero, i.size, i.bytes)) = some (some (.int .i64 0), 1, 8) := by kernel_rfl
/-! ### append of one element onto a row of the call's own -/
theorem wp_push {P : Program} (w : World) {o : Oper} {a : Act} {K : Act → World → Prop} {Q : Exit → Act → World → Prop} (s x : Operand) (t : TypeId)
    (ho : o.op = .call { callee := .builtin .append, args := #[s, x], argTypes := #[t, t] })
    (base : Nat) (e : TypeId) (z : Value) (sz b : Nat) (ht : P.underlying t = some (.slice e)) (hi : (P.info? e).map (fun i => (i.zero, i.size, i.bytes)) = some (some z, sz, b))
    (hzs : z.cells.size = sz) (hsz : 0 < sz) (v : Value) (n : Nat) (xs : List Value) (hs : a.eval s = v) (hown : w.ownsRow base e sz v n xs)
    (news : List Value) (c : Nat) (hl : news.length = sz) (h1 : ∀ u ∈ news, u.oneCell' = true) (hx : a.eval x = .slice (some ⟨w.heap.size, 0, none⟩) 1 c)
    (hn : n ≤ 1099511627776) (hb : b ≤ 64) (hbase : base ≤ w.heap.size)
    (h : ∀ v' w', w'.ownsRow base e sz v' (n + 1) (xs ++ news) → w.grownBy w' v.ownBlock → K (a.put o.dst v') w') :
    o.wp P a (w.alloc (.cells news.toArray e)) K Q := by
  obtain ⟨i0, hi0, hz0, hz1, hz2⟩ := info_parts hi
  have hbb : (n + 1) * i0.bytes ≤ 140737488355328 := by
    rw [hz2]
    have := Nat.mul_le_mul (show n + 1 ≤ 1099511627777 by omega) hb
    omega
  refine wp_append_own _ s x t ho base e i0 z sz i0.bytes ht hi0 hz0 hz1 rfl hzs hsz v n xs hs (hown.alloc _) ⟨w.heap.size, 0, none⟩ 1 c news hx (by omega) ?_ h1 (by unfold maxLen; omega) hbb (by simp; omega) ?_
  · intro j u hu
    have e1 : (⟨w.heap.size, 0, none⟩ : Addr).add j = ⟨w.heap.size, j, none⟩ := by
      unfold Addr.add; split
      · rename_i h0; subst h0; rfl
      · simp
    rw [e1, (Blk.new w e news.toArray).cell]
    simpa using hu
  · intro v' w' ho' hg' _
    exact h v' w' ho' ⟨hg'.os, hg'.tape, hg'.output, Nat.le_trans (by simp) hg'.size, fun k hk hne => (hg'.block k (by simp; omega) hne).trans (Below.heap_alloc w _ k hk)⟩
theorem push {P : Program} (w : World) {ops : Array Oper} {rest : List Oper} {o : Oper} {a : Act} {Q : Exit → Act → World → Prop} (hgd : o.guard = none) (s x : Operand) (t : TypeId)
    (ho : o.op = .call { callee := .builtin .append, args := #[s, x], argTypes := #[t, t] })
    (base : Nat) (e : TypeId) (z : Value) (sz b : Nat) (ht : P.underlying t = some (.slice e)) (hi : (P.info? e).map (fun i => (i.zero, i.size, i.bytes)) = some (some z, sz, b))
    (hzs : z.cells.size = sz) (hsz : 0 < sz) (v : Value) (n : Nat) (xs : List Value) (hs : a.eval s = v) (hown : w.ownsRow base e sz v n xs)
    (news : List Value) (c : Nat) (hl : news.length = sz) (h1 : ∀ u ∈ news, u.oneCell' = true) (hx : a.eval x = .slice (some ⟨w.heap.size, 0, none⟩) 1 c)
    (hn : n ≤ 1099511627776) (hb : b ≤ 64) (hbase : base ≤ w.heap.size)
    (h : ∀ v' w', w'.ownsRow base e sz v' (n + 1) (xs ++ news) → w.grownBy w' v.ownBlock → wpList P ops Q rest (a.put o.dst v') w') :
    wpList P ops Q (o :: rest) a (w.alloc (.cells news.toArray e)) :=
  wpList_plain hgd fun _ hK => wp_push w s x t ho base e z sz b ht hi hzs hsz v n xs hs hown news c hl h1 hx hn hb hbase fun v' w' h2 h3 => hK _ _ (h v' w' h2 h3)
/-- the same as one step of a region that draws its order -/
theorem step_push {P : Program} (w : World) {ops : Array Oper} {o : Oper} {a : Act} {K : Act → World → Prop} {Q : Exit → Act → World → Prop} {E : Prop} (hgd : o.guard = none) (s x : Operand) (t : TypeId)
    (ho : o.op = .call { callee := .builtin .append, args := #[s, x], argTypes := #[t, t] })
    (base : Nat) (e : TypeId) (z : Value) (sz b : Nat) (ht : P.underlying t = some (.slice e)) (hi : (P.info? e).map (fun i => (i.zero, i.size, i.bytes)) = some (some z, sz, b))
    (hzs : z.cells.size = sz) (hsz : 0 < sz) (v : Value) (n : Nat) (xs : List Value) (hs : a.eval s = v) (hown : w.ownsRow base e sz v n xs)
    (news : List Value) (c : Nat) (hl : news.length = sz) (h1 : ∀ u ∈ news, u.oneCell' = true) (hx : a.eval x = .slice (some ⟨w.heap.size, 0, none⟩) 1 c)
    (hn : n ≤ 1099511627776) (hb : b ≤ 64) (hbase : base ≤ w.heap.size)
    (h : ∀ v' w', w'.ownsRow base e sz v' (n + 1) (xs ++ news) → w.grownBy w' v.ownBlock → K (a.put o.dst v') w') :
    if Region.wanted o (yielded ops a.tmps) = true then Oper.wp P o a (w.alloc (.cells news.toArray e)) K Q else E := by
  have hw : Region.wanted o (yielded ops a.tmps) = true := by simp [Region.wanted, hgd]
  rw [if_pos hw]
  exact wp_push w s x t ho base e z sz b ht hi hzs hsz v n xs hs hown news c hl h1 hx hn hb hbase h

/-! ### append of a whole slice onto a row of the call's own; the source may be nil -/
theorem run_app_none {P : Program} {w : World} (base : Nat) (t ty e : TypeId) (i : TypeInfo) (size : Nat) (ht : P.underlying t = some (.slice e)) (hi : P.info? e = some i)
    (v : Value) (n : Nat) (xs : List Value) (hown : w.ownsRow base e size v n xs) (c : Nat) : (Builtin.append_ #[t, t] ty #[v, .slice none 0 c]).run P w = .ok v w := by
  obtain ⟨A, cap, rfl, hnc, _, _⟩ := own_form hown
  cases A with
  | none =>
    rcases hown.2 with ⟨hv, rfl⟩ | ⟨g, cap', cur, hv, _⟩
    · injection hv with _ _ h3
      subst h3
      simp [Builtin.append_, run_underlying ht, sizeOf, typeInfo, hi, Builtin.lenOf, Builtin.firstCells]
    · cases hv
  | some a => simp [Builtin.append_, run_underlying ht, sizeOf, typeInfo, hi, Builtin.lenOf, Builtin.firstCells, hnc, storeCells]
theorem wp_extend {P : Program} (w : World) {o : Oper} {a : Act} {K : Act → World → Prop} {Q : Exit → Act → World → Prop} (s x : Operand) (t : TypeId)
    (ho : o.op = .call { callee := .builtin .append, args := #[s, x], argTypes := #[t, t] })
    (base : Nat) (e : TypeId) (z : Value) (sz b : Nat) (ht : P.underlying t = some (.slice e)) (hi : (P.info? e).map (fun i => (i.zero, i.size, i.bytes)) = some (some z, sz, b))
    (hzs : z.cells.size = sz) (hsz : 0 < sz) (v : Value) (n : Nat) (xs : List Value) (hs : a.eval s = v) (hown : w.ownsRow base e sz v n xs)
    (A : Option Addr) (m c : Nat) (ys : List Value) (hx : a.eval x = .slice A m c) (hr : Rd w sz A m ys) (h1 : ∀ u ∈ ys, u.oneCell' = true)
    (hn : n + m ≤ 1099511627776) (hb : b ≤ 64) (hbase : base ≤ w.heap.size)
    (h : ∀ v' w', w'.ownsRow base e sz v' (n + m) (xs ++ ys) → w.grownBy w' v.ownBlock → K (a.put o.dst v') w') :
    o.wp P a w K Q := by
  obtain ⟨i0, hi0, hz0, hz1, hz2⟩ := info_parts hi
  have hbb : (n + m) * i0.bytes ≤ 140737488355328 := by
    rw [hz2]
    have := Nat.mul_le_mul hn hb
    omega
  by_cases hm : m = 0
  · subst hm
    have hy : ys = [] := List.eq_nil_of_length_eq_zero (by simpa using hr.1)
    subst hy
    cases A with
    | none =>
      have hrun := run_app_none base t o.type e i0 sz ht hi0 v n xs hown c
      unfold Oper.wp execOp
      simp only [ho, resolve, invoke, builtin, Sem.run_bind, Sem.run_pure, Result.andThen_ok, List.map_toArray, List.map_cons, List.map_nil, hs, hx, hrun]
      exact h v w (by simpa using hown) (World.grownBy.refl _ _)
    | some ad =>
      exact wp_append_own _ s x t ho base e i0 z sz i0.bytes ht hi0 hz0 hz1 rfl hzs hsz v n xs hs hown ad 0 c [] hx (by simp) (by intro j u hu; simp at hu) (by simp) (by unfold maxLen; omega) hbb hbase fun v' w' h2 h3 _ => h v' w' h2 h3
  · obtain ⟨bk, off, rfl, hc⟩ := hr.cells (by omega)
    refine wp_append_own _ s x t ho base e i0 z sz i0.bytes ht hi0 hz0 hz1 rfl hzs hsz v n xs hs hown ⟨bk, off, none⟩ m c ys hx hr.1 ?_ h1 (by unfold maxLen; omega) hbb hbase fun v' w' h2 h3 _ => h v' w' h2 h3
    intro j u hu
    have e1 : (⟨bk, off, none⟩ : Addr).add j = ⟨bk, off + j, none⟩ := by
      unfold Addr.add; split
      · rename_i h0; subst h0; rfl
      · rfl
    rw [e1]; exact hc j u hu
theorem extend {P : Program} (w : World) {ops : Array Oper} {rest : List Oper} {o : Oper} {a : Act} {Q : Exit → Act → World → Prop} (hgd : o.guard = none) (s x : Operand) (t : TypeId)
    (ho : o.op = .call { callee := .builtin .append, args := #[s, x], argTypes := #[t, t] })
    (base : Nat) (e : TypeId) (z : Value) (sz b : Nat) (ht : P.underlying t = some (.slice e)) (hi : (P.info? e).map (fun i => (i.zero, i.size, i.bytes)) = some (some z, sz, b))
    (hzs : z.cells.size = sz) (hsz : 0 < sz) (v : Value) (n : Nat) (xs : List Value) (hs : a.eval s = v) (hown : w.ownsRow base e sz v n xs)
    (A : Option Addr) (m c : Nat) (ys : List Value) (hx : a.eval x = .slice A m c) (hr : Rd w sz A m ys) (h1 : ∀ u ∈ ys, u.oneCell' = true)
    (hn : n + m ≤ 1099511627776) (hb : b ≤ 64) (hbase : base ≤ w.heap.size)
    (h : ∀ v' w', w'.ownsRow base e sz v' (n + m) (xs ++ ys) → w.grownBy w' v.ownBlock → wpList P ops Q rest (a.put o.dst v') w') :
    wpList P ops Q (o :: rest) a w :=
  wpList_plain hgd fun _ hK => wp_extend w s x t ho base e z sz b ht hi hzs hsz v n xs hs hown A m c ys hx hr h1 hn hb hbase fun v' w' h2 h3 => hK _ _ (h v' w' h2 h3)
theorem step_extend {P : Program} (w : World) {ops : Array Oper} {o : Oper} {a : Act} {K : Act → World → Prop} {Q : Exit → Act → World → Prop} {E : Prop} (hgd : o.guard = none) (s x : Operand) (t : TypeId)
    (ho : o.op = .call { callee := .builtin .append, args := #[s, x], argTypes := #[t, t] })
    (base : Nat) (e : TypeId) (z : Value) (sz b : Nat) (ht : P.underlying t = some (.slice e)) (hi : (P.info? e).map (fun i => (i.zero, i.size, i.bytes)) = some (some z, sz, b))
    (hzs : z.cells.size = sz) (hsz : 0 < sz) (v : Value) (n : Nat) (xs : List Value) (hs : a.eval s = v) (hown : w.ownsRow base e sz v n xs)
    (A : Option Addr) (m c : Nat) (ys : List Value) (hx : a.eval x = .slice A m c) (hr : Rd w sz A m ys) (h1 : ∀ u ∈ ys, u.oneCell' = true)
    (hn : n + m ≤ 1099511627776) (hb : b ≤ 64) (hbase : base ≤ w.heap.size)
    (h : ∀ v' w', w'.ownsRow base e sz v' (n + m) (xs ++ ys) → w.grownBy w' v.ownBlock → K (a.put o.dst v') w') :
    if Region.wanted o (yielded ops a.tmps) = true then Oper.wp P o a w K Q else E := by
  have hw : Region.wanted o (yielded ops a.tmps) = true := by simp [Region.wanted, hgd]
  rw [if_pos hw]
  exact wp_extend w s x t ho base e z sz b ht hi hzs hsz v n xs hs hown A m c ys hx hr h1 hn hb hbase h

/-! ### arguments opened -/
section
variable {H : Type} {enc : TypeId × Value → H} {P : Program} {w : World} {t e : TypeId} {v : Value} {d : DataW H} {p : List MemPlace}
theorem spot_of {w : World} {a : Addr} {v : Value} (h : w.cell? a = some v) : a = ⟨a.block, a.off, none⟩ := by
  cases a with
  | mk b off spot =>
    cases spot with
    | none => rfl
    | some x =>
      exfalso
      unfold World.cell? at h
      split at h
      · simp at h
      · cases h
theorem wf_bounds {z : Int} (h : (Lit.int .i64 z).wf = true) : -9223372036854775808 ≤ z ∧ z ≤ 9223372036854775807 := by
  simpa [Lit.wf, IntKind.min, IntKind.max, IntKind.signed, IntKind.bits] using h
theorem wf_of {z : Int} (h : -9223372036854775808 ≤ z ∧ z ≤ 9223372036854775807) : (Lit.int .i64 z).wf = true := by
  simpa [Lit.wf, IntKind.min, IntKind.max, IntKind.signed, IntKind.bits] using h
/-- an argument that is a slice of integers of one kind -/
theorem open_rd_kind {r : Reach} {b0 : Nat} (ht : P.underlying t = some (.slice e)) {kd : IntKind} (he : P.underlying e = some (.int kd)) (hc : P.cellsOf e = 1)
    (hv : Value.okWide P w r b0 t v) (h : DataW.Trod enc P w 0 (fun _ => true) true t v d p) :
    ∃ A n c zs, v = .slice A n c ∧ n = List.length zs ∧ n ≤ c ∧ c ≤ maxLen ∧ Rd w 1 A n (zs.map (Value.int kd)) ∧ (∀ z ∈ zs, (Lit.int kd z).wf = true) := by
  obtain ⟨a0, len, cap, rfl⟩ := okWide_slice ht hv
  obtain ⟨fuel, hf⟩ := h
  rcases open_ints ht he hc hf with ⟨hcs, hx⟩ | ⟨a, len', cap', zs, hcs, _, hl, hm, hz, hx, hcell, hwz⟩
  · simp [Value.cells] at hcs
    obtain ⟨rfl, rfl, rfl⟩ := hcs
    exact ⟨none, 0, 0, [], rfl, rfl, Nat.le_refl _, Nat.zero_le _, Rd.nil, by simp⟩
  · simp [Value.cells] at hcs
    obtain ⟨rfl, rfl, rfl⟩ := hcs
    simp only [if_true] at hz
    refine ⟨some a, len, cap, zs.take len, rfl, by rw [List.length_take]; omega, hl, hm, ⟨by rw [List.length_map, List.length_take]; omega, fun hn => ?_⟩, fun z hz' => hwz z (List.mem_of_mem_take hz')⟩
    have h0 := hcell 0 (by omega)
    have hs := spot_of h0
    have ha : a = ⟨a.block, a.off, none⟩ := by
      have := hs; simpa [Addr.add] using this
    refine ⟨a.block, a.off, by rw [← ha], fun j u hu => ?_⟩
    have hj : j < len := by
      have := (List.getElem?_eq_some_iff.1 hu).1
      rw [List.length_map, List.length_take] at this; omega
    have hcj := hcell j (by omega)
    have e1 : a.add j = ⟨a.block, a.off + j, none⟩ := by
      rw [ha]; unfold Addr.add; split
      · rename_i h0; subst h0; rfl
      · rfl
    rw [e1] at hcj
    rw [hcj, ← hu]
    have hjz : j < zs.length := by omega
    simp [hj, hjz]
/-- an argument that is a slice of integers -/
theorem open_rd_ints {r : Reach} {b0 : Nat} (ht : P.underlying t = some (.slice e)) (he : P.underlying e = some (.int .i64)) (hc : P.cellsOf e = 1)
    (hv : Value.okWide P w r b0 t v) (h : DataW.Trod enc P w 0 (fun _ => true) true t v d p) :
    ∃ A n c zs, v = .slice A n c ∧ n = List.length zs ∧ n ≤ c ∧ c ≤ maxLen ∧ Rd w 1 A n (ints zs) ∧ (∀ z ∈ zs, (Lit.int .i64 z).wf = true) := open_rd_kind ht he hc hv h
/-- an argument that is a slice of bytes -/
theorem open_rd_bytes {r : Reach} {b0 : Nat} (ht : P.underlying t = some (.slice e)) (he : P.underlying e = some (.int .u8)) (hc : P.cellsOf e = 1)
    (hv : Value.okWide P w r b0 t v) (h : DataW.Trod enc P w 0 (fun _ => true) true t v d p) :
    ∃ A n c zs, v = .slice A n c ∧ n = List.length zs ∧ n ≤ c ∧ c ≤ maxLen ∧ Rd w 1 A n (u8s zs) ∧ (∀ z ∈ zs, 0 ≤ z ∧ z ≤ 255) := by
  obtain ⟨A, n, c, zs, h1, h2, h3, h4, h5, h6⟩ := open_rd_kind ht he hc hv h
  exact ⟨A, n, c, zs, h1, h2, h3, h4, h5, fun z hz => by simpa [Lit.wf, IntKind.min, IntKind.max, IntKind.signed, IntKind.bits] using h6 z hz⟩
/-- an argument that is a slice of strings -/
theorem open_rd_strs {r : Reach} {b0 : Nat} (ht : P.underlying t = some (.slice e)) (he : P.underlying e = some .string) (hc : P.cellsOf e = 1)
    (hv : Value.okWide P w r b0 t v) (h : DataW.Trod enc P w 0 (fun _ => true) true t v d p) :
    ∃ A n c ss, v = .slice A n c ∧ n = List.length ss ∧ n ≤ c ∧ c ≤ maxLen ∧ Rd w 1 A n (strs ss) ∧ (∀ s ∈ ss, s.size ≤ maxLen) := by
  obtain ⟨a0, len, cap, rfl⟩ := okWide_slice ht hv
  obtain ⟨fuel, hf⟩ := h
  rcases open_strings ht he hc hf with ⟨hcs, hx⟩ | ⟨a, len', cap', zs, hcs, _, hl, hm, hz, hx, hcell, hwz⟩
  · simp [Value.cells] at hcs
    obtain ⟨rfl, rfl, rfl⟩ := hcs
    exact ⟨none, 0, 0, [], rfl, rfl, Nat.le_refl _, Nat.zero_le _, Rd.nil, by simp⟩
  · simp [Value.cells] at hcs
    obtain ⟨rfl, rfl, rfl⟩ := hcs
    simp only [if_true] at hz
    refine ⟨some a, len, cap, zs.take len, rfl, by rw [List.length_take]; omega, hl, hm, ⟨by rw [len_strs, List.length_take]; omega, fun hn => ?_⟩, fun z hz' => hwz z (List.mem_of_mem_take hz')⟩
    have h0 := hcell 0 (by omega)
    have hs := spot_of h0
    have ha : a = ⟨a.block, a.off, none⟩ := by
      have := hs; simpa [Addr.add] using this
    refine ⟨a.block, a.off, by rw [← ha], fun j u hu => ?_⟩
    have hj : j < len := by
      have := (List.getElem?_eq_some_iff.1 hu).1
      rw [len_strs, List.length_take] at this; omega
    have hcj := hcell j (by omega)
    have e1 : a.add j = ⟨a.block, a.off + j, none⟩ := by
      rw [ha]; unfold Addr.add; split
      · rename_i h0; subst h0; rfl
      · rfl
    rw [e1] at hcj
    rw [hcj, ← hu]
    have hjz : j < zs.length := by omega
    simp [strs, hj, hjz]
end
end Go.Proofs.Ytgffabjajbgbjaa.mem
