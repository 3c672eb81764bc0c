/- Records in memory: a struct of 2 integers lies in 2 cells. No condition. -/
import Derived.Test.YtgffabjajbgbjaaMem
set_option linter.unusedVariables false
set_option linter.unusedSimpArgs false
namespace Go.Proofs.Ytgffabjajbgbjaa.mem
open Go.RowKit

structure Rec where
  key : Int
  tag : Int
  deriving DecidableEq
def Rec.cells (g : Rec) : List Value := [.int .i64 g.key, .int .i64 g.tag]
/-- the value of a Record -/
def Rec.val (g : Rec) : Value := .agg #[.int .i64 g.key, .int .i64 g.tag]
def recs (gs : List Rec) : List Value := gs.flatMap Rec.cells
theorem len_recs : ∀ gs : List Rec, (recs gs).length = gs.length * 2
  | [] => rfl
  | g :: r => by have := len_recs r; simp only [recs, List.flatMap_cons, List.length_append, Rec.cells, List.length_cons, List.length_nil] at *; omega
theorem recs_cons (g : Rec) (r : List Rec) : recs (g :: r) = g.cells ++ recs r := rfl
theorem recs_app (a b : List Rec) : recs (a ++ b) = recs a ++ recs b := List.flatMap_append
theorem recs_single (g : Rec) : recs [g] = g.cells := by simp [recs]
theorem recs_take : ∀ (gs : List Rec) (k : Nat), recs (gs.take k) = (recs gs).take (k * 2)
  | [], k => by simp [recs]
  | g :: r, 0 => by simp [recs]
  | g :: r, k + 1 => by
    rw [List.take_succ_cons, recs_cons, recs_cons, recs_take r k, show (k + 1) * 2 = g.cells.length + k * 2 by simp [Rec.cells]; omega, List.take_length_add_append]
theorem recs_drop : ∀ (gs : List Rec) (k : Nat), recs (gs.drop k) = (recs gs).drop (k * 2)
  | [], k => by simp [recs]
  | g :: r, 0 => by simp
  | g :: r, k + 1 => by
    rw [List.drop_succ_cons, recs_cons, recs_drop r k, show (k + 1) * 2 = g.cells.length + k * 2 by simp [Rec.cells]; omega, List.drop_length_add_append]
theorem recs_one (gs : List Rec) : ∀ u ∈ recs gs, u.oneCell' = true := by
  intro u hu
  obtain ⟨g, _, hg⟩ := List.mem_flatMap.1 hu
  simp only [Rec.cells, List.mem_cons, List.not_mem_nil, or_false] at hg
  rcases hg with rfl | rfl <;> rfl
theorem recs_at : ∀ (gs : List Rec) (k j : Nat) (h : k < gs.length), j < 2 → (recs gs)[k * 2 + j]? = gs[k].cells[j]?
  | g :: r, 0, j, h, hj => by
    rw [recs_cons, Nat.zero_mul, Nat.zero_add, List.getElem?_append_left (by simp [Rec.cells]; omega)]; rfl
  | g :: r, k + 1, j, h, hj => by
    rw [recs_cons, show (k + 1) * 2 + j = 2 + (k * 2 + j) by omega, List.getElem?_append_right (by simp [Rec.cells])]
    have := recs_at r k j (by simpa using h) hj
    simpa [Rec.cells] using this
theorem Rd.rec {w : World} {A : Option Addr} {gs : List Rec} (h : Rd w 2 A gs.length (recs gs)) {k : Nat} (hk : k < gs.length) :
    ∃ b off, A = some ⟨b, off, none⟩ ∧ w.cell? ⟨b, off + k * 2, none⟩ = some (.int .i64 gs[k].key) ∧ w.cell? ⟨b, off + k * 2 + 1, none⟩ = some (.int .i64 gs[k].tag) := by
  obtain ⟨b, off, e, hc⟩ := h.2 (by omega)
  exact ⟨b, off, e, hc (k * 2 + 0) _ ((recs_at gs k 0 hk (by omega)).trans rfl), hc (k * 2 + 1) _ ((recs_at gs k 1 hk (by omega)).trans rfl)⟩
/-- the same where the address is known -/
theorem Rd.rec_at {w : World} {b off : Nat} {gs : List Rec} (h : Rd w 2 (some ⟨b, off, none⟩) gs.length (recs gs)) {k : Nat} (hk : k < gs.length) :
    w.cell? ⟨b, off + k * 2, none⟩ = some (.int .i64 gs[k].key) ∧ w.cell? ⟨b, off + k * 2 + 1, none⟩ = some (.int .i64 gs[k].tag) := by
  obtain ⟨b2, off2, e, h0, h1⟩ := h.rec hk
  injection e with e
  injection e with e1 e2
  subst e1; subst e2
  exact ⟨h0, h1⟩
theorem info_rec : (Try.prog.info? 87).map (fun i => (i.zero, i.size, i.bytes)) = some (some (.agg #[.int .i64 0, .int .i64 0]), 2, 16) := by kernel_rfl
def OwnRec (w w' : World) (v : Value) (gs : List Rec) : Prop := w'.ownsRow w.heap.size 87 2 v gs.length (recs gs) ∧ gs.length ≤ 1048576
theorem made_rec (m : Nat) : madeCells (Value.agg #[.int .i64 0, .int .i64 0]).cells (m * 2) = rep (m * 2) (.int .i64 0) := by
  apply Array.ext
  · simp [madeCells, rep]
  · intro i h1 h2
    have hz : ∀ j, j < 2 → (#[.int .i64 0, .int .i64 0] : Array Value)[j]! = .int .i64 0 := by
      intro j hj
      have : j = 0 ∨ j = 1 := by omega
      rcases this with rfl | rfl <;> rfl
    simp only [madeCells, rep, Value.cells, Array.getElem_map, Array.getElem_range, Array.getElem_replicate]
    exact hz _ (Nat.mod_lt _ (by decide))
theorem make_rec {P : Program} (t e : TypeId) (ht : P.underlying t = some (.slice e)) (hi : (P.info? e).map (fun i => (i.zero, i.size, i.bytes)) = some (some (.agg #[.int .i64 0, .int .i64 0]), 2, 16)) (m : Nat) (hm : m ≤ 1099511627776) (w : World) :
    (Instr.makeSlice t (.int .i64 (m : Int)) (.int .i64 (m : Int))).run P w = .ok (.slice (some ⟨w.heap.size, 0, none⟩) m m) (w.alloc (.cells (rep (m * 2) (.int .i64 0)) e)) := by
  obtain ⟨i0, hi0, hz0, hz1, hz2⟩ := info_parts hi
  have hr := run_make (P := P) w t e i0 _ ht hi0 hz0 .i64 .i64 m m (by omega) (by omega) (by rw [hz2]; omega) (by omega)
  simp only [Int.toNat_natCast, hz1] at hr
  rw [hr, made_rec]
end Go.Proofs.Ytgffabjajbgbjaa.mem
