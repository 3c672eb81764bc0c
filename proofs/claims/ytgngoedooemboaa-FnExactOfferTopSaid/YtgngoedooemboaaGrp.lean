/- Groups in memory: a struct of 5 integers lies in 5 cells. No condition. -/
import Derived.Test.YtgngoedooemboaaMem
set_option linter.unusedVariables false
set_option linter.unusedSimpArgs false
namespace Go.Proofs.Ytgngoedooemboaa.mem
open Go.RowKit

structure Grp where
  key : Int
  count : Int
  sum : Int
  least : Int
  most : Int
  deriving DecidableEq
def Grp.cells (g : Grp) : List Value := [.int .i64 g.key, .int .i64 g.count, .int .i64 g.sum, .int .i64 g.least, .int .i64 g.most]
/-- the value of a Group -/
def Grp.val (g : Grp) : Value := .agg #[.int .i64 g.key, .int .i64 g.count, .int .i64 g.sum, .int .i64 g.least, .int .i64 g.most]
def grps (gs : List Grp) : List Value := gs.flatMap Grp.cells
theorem len_grps : ∀ gs : List Grp, (grps gs).length = gs.length * 5
  | [] => rfl
  | g :: r => by have := len_grps r; simp only [grps, List.flatMap_cons, List.length_append, Grp.cells, List.length_cons, List.length_nil] at *; omega
theorem grps_cons (g : Grp) (r : List Grp) : grps (g :: r) = g.cells ++ grps r := rfl
theorem grps_app (a b : List Grp) : grps (a ++ b) = grps a ++ grps b := List.flatMap_append
theorem grps_single (g : Grp) : grps [g] = g.cells := by simp [grps]
theorem grps_take : ∀ (gs : List Grp) (k : Nat), grps (gs.take k) = (grps gs).take (k * 5)
  | [], k => by simp [grps]
  | g :: r, 0 => by simp [grps]
  | g :: r, k + 1 => by
    rw [List.take_succ_cons, grps_cons, grps_cons, grps_take r k, show (k + 1) * 5 = g.cells.length + k * 5 by simp [Grp.cells]; omega, List.take_length_add_append]
theorem grps_drop : ∀ (gs : List Grp) (k : Nat), grps (gs.drop k) = (grps gs).drop (k * 5)
  | [], k => by simp [grps]
  | g :: r, 0 => by simp
  | g :: r, k + 1 => by
    rw [List.drop_succ_cons, grps_cons, grps_drop r k, show (k + 1) * 5 = g.cells.length + k * 5 by simp [Grp.cells]; omega, List.drop_length_add_append]
theorem grps_one (gs : List Grp) : ∀ u ∈ grps gs, u.oneCell' = true := by
  intro u hu
  obtain ⟨g, _, hg⟩ := List.mem_flatMap.1 hu
  simp only [Grp.cells, List.mem_cons, List.not_mem_nil, or_false] at hg
  rcases hg with rfl | rfl | rfl | rfl | rfl <;> rfl
theorem grps_at : ∀ (gs : List Grp) (k j : Nat) (h : k < gs.length), j < 5 → (grps gs)[k * 5 + j]? = gs[k].cells[j]?
  | g :: r, 0, j, h, hj => by
    rw [grps_cons, Nat.zero_mul, Nat.zero_add, List.getElem?_append_left (by simp [Grp.cells]; omega)]; rfl
  | g :: r, k + 1, j, h, hj => by
    rw [grps_cons, show (k + 1) * 5 + j = 5 + (k * 5 + j) by omega, List.getElem?_append_right (by simp [Grp.cells])]
    have := grps_at r k j (by simpa using h) hj
    simpa [Grp.cells] using this
theorem Rd.grp {w : World} {A : Option Addr} {gs : List Grp} (h : Rd w 5 A gs.length (grps gs)) {k : Nat} (hk : k < gs.length) :
    ∃ b off, A = some ⟨b, off, none⟩ ∧ w.cell? ⟨b, off + k * 5, none⟩ = some (.int .i64 gs[k].key) ∧ w.cell? ⟨b, off + k * 5 + 1, none⟩ = some (.int .i64 gs[k].count) ∧ w.cell? ⟨b, off + k * 5 + 2, none⟩ = some (.int .i64 gs[k].sum) ∧ w.cell? ⟨b, off + k * 5 + 3, none⟩ = some (.int .i64 gs[k].least) ∧ w.cell? ⟨b, off + k * 5 + 4, none⟩ = some (.int .i64 gs[k].most) := by
  obtain ⟨b, off, e, hc⟩ := h.2 (by omega)
  exact ⟨b, off, e, hc (k * 5 + 0) _ ((grps_at gs k 0 hk (by omega)).trans rfl), hc (k * 5 + 1) _ ((grps_at gs k 1 hk (by omega)).trans rfl), hc (k * 5 + 2) _ ((grps_at gs k 2 hk (by omega)).trans rfl), hc (k * 5 + 3) _ ((grps_at gs k 3 hk (by omega)).trans rfl), hc (k * 5 + 4) _ ((grps_at gs k 4 hk (by omega)).trans rfl)⟩
/-- the same where the address is known -/
theorem Rd.grp_at {w : World} {b off : Nat} {gs : List Grp} (h : Rd w 5 (some ⟨b, off, none⟩) gs.length (grps gs)) {k : Nat} (hk : k < gs.length) :
    w.cell? ⟨b, off + k * 5, none⟩ = some (.int .i64 gs[k].key) ∧ w.cell? ⟨b, off + k * 5 + 1, none⟩ = some (.int .i64 gs[k].count) ∧ w.cell? ⟨b, off + k * 5 + 2, none⟩ = some (.int .i64 gs[k].sum) ∧ w.cell? ⟨b, off + k * 5 + 3, none⟩ = some (.int .i64 gs[k].least) ∧ w.cell? ⟨b, off + k * 5 + 4, none⟩ = some (.int .i64 gs[k].most) := by
  obtain ⟨b2, off2, e, h0, h1, h2, h3, h4⟩ := h.grp hk
  injection e with e
  injection e with e1 e2
  subst e1; subst e2
  exact ⟨h0, h1, h2, h3, h4⟩
theorem info_grp : (Try.prog.info? 71).map (fun i => (i.zero, i.size, i.bytes)) = some (some (.agg #[.int .i64 0, .int .i64 0, .int .i64 0, .int .i64 0, .int .i64 0]), 5, 40) := by kernel_rfl
def OwnGrp (w w' : World) (v : Value) (gs : List Grp) : Prop := w'.ownsRow w.heap.size 71 5 v gs.length (grps gs) ∧ gs.length ≤ 1048576
theorem made_grp (m : Nat) : madeCells (Value.agg #[.int .i64 0, .int .i64 0, .int .i64 0, .int .i64 0, .int .i64 0]).cells (m * 5) = rep (m * 5) (.int .i64 0) := by
  apply Array.ext
  · simp [madeCells, rep]
  · intro i h1 h2
    have hz : ∀ j, j < 5 → (#[.int .i64 0, .int .i64 0, .int .i64 0, .int .i64 0, .int .i64 0] : Array Value)[j]! = .int .i64 0 := by
      intro j hj
      have : j = 0 ∨ j = 1 ∨ j = 2 ∨ j = 3 ∨ j = 4 := by omega
      rcases this with rfl | rfl | rfl | rfl | rfl <;> rfl
    simp only [madeCells, rep, Value.cells, Array.getElem_map, Array.getElem_range, Array.getElem_replicate]
    exact hz _ (Nat.mod_lt _ (by decide))
theorem make_grp {P : Program} (t e : TypeId) (ht : P.underlying t = some (.slice e)) (hi : (P.info? e).map (fun i => (i.zero, i.size, i.bytes)) = some (some (.agg #[.int .i64 0, .int .i64 0, .int .i64 0, .int .i64 0, .int .i64 0]), 5, 40)) (m : Nat) (hm : m ≤ 1099511627776) (w : World) :
    (Instr.makeSlice t (.int .i64 (m : Int)) (.int .i64 (m : Int))).run P w = .ok (.slice (some ⟨w.heap.size, 0, none⟩) m m) (w.alloc (.cells (rep (m * 5) (.int .i64 0)) e)) := by
  obtain ⟨i0, hi0, hz0, hz1, hz2⟩ := info_parts hi
  have hr := run_make (P := P) w t e i0 _ ht hi0 hz0 .i64 .i64 m m (by omega) (by omega) (by rw [hz2]; omega) (by omega)
  simp only [Int.toNat_natCast, hz1] at hr
  rw [hr, made_grp]
end Go.Proofs.Ytgngoedooemboaa.mem
