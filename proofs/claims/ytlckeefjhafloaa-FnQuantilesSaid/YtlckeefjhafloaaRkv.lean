/- RankedValues in memory: a struct of 3 integers lies in 3 cells. No condition. -/
import Derived.Test.YtlckeefjhafloaaMem
set_option linter.unusedVariables false
set_option linter.unusedSimpArgs false
namespace Go.Proofs.Ytlckeefjhafloaa.mem
open Go.RowKit

structure Rkv where
  value : Int
  least : Int
  most : Int
  deriving DecidableEq
def Rkv.cells (g : Rkv) : List Value := [.int .i64 g.value, .int .i64 g.least, .int .i64 g.most]
/-- the value of a RankedValue -/
def Rkv.val (g : Rkv) : Value := .agg #[.int .i64 g.value, .int .i64 g.least, .int .i64 g.most]
def rkvs (gs : List Rkv) : List Value := gs.flatMap Rkv.cells
theorem len_rkvs : ∀ gs : List Rkv, (rkvs gs).length = gs.length * 3
  | [] => rfl
  | g :: r => by have := len_rkvs r; simp only [rkvs, List.flatMap_cons, List.length_append, Rkv.cells, List.length_cons, List.length_nil] at *; omega
theorem rkvs_cons (g : Rkv) (r : List Rkv) : rkvs (g :: r) = g.cells ++ rkvs r := rfl
theorem rkvs_app (a b : List Rkv) : rkvs (a ++ b) = rkvs a ++ rkvs b := List.flatMap_append
theorem rkvs_single (g : Rkv) : rkvs [g] = g.cells := by simp [rkvs]
theorem rkvs_take : ∀ (gs : List Rkv) (k : Nat), rkvs (gs.take k) = (rkvs gs).take (k * 3)
  | [], k => by simp [rkvs]
  | g :: r, 0 => by simp [rkvs]
  | g :: r, k + 1 => by
    rw [List.take_succ_cons, rkvs_cons, rkvs_cons, rkvs_take r k, show (k + 1) * 3 = g.cells.length + k * 3 by simp [Rkv.cells]; omega, List.take_length_add_append]
theorem rkvs_drop : ∀ (gs : List Rkv) (k : Nat), rkvs (gs.drop k) = (rkvs gs).drop (k * 3)
  | [], k => by simp [rkvs]
  | g :: r, 0 => by simp
  | g :: r, k + 1 => by
    rw [List.drop_succ_cons, rkvs_cons, rkvs_drop r k, show (k + 1) * 3 = g.cells.length + k * 3 by simp [Rkv.cells]; omega, List.drop_length_add_append]
theorem rkvs_one (gs : List Rkv) : ∀ u ∈ rkvs gs, u.oneCell' = true := by
  intro u hu
  obtain ⟨g, _, hg⟩ := List.mem_flatMap.1 hu
  simp only [Rkv.cells, List.mem_cons, List.not_mem_nil, or_false] at hg
  rcases hg with rfl | rfl | rfl <;> rfl
theorem rkvs_at : ∀ (gs : List Rkv) (k j : Nat) (h : k < gs.length), j < 3 → (rkvs gs)[k * 3 + j]? = gs[k].cells[j]?
  | g :: r, 0, j, h, hj => by
    rw [rkvs_cons, Nat.zero_mul, Nat.zero_add, List.getElem?_append_left (by simp [Rkv.cells]; omega)]; rfl
  | g :: r, k + 1, j, h, hj => by
    rw [rkvs_cons, show (k + 1) * 3 + j = 3 + (k * 3 + j) by omega, List.getElem?_append_right (by simp [Rkv.cells])]
    have := rkvs_at r k j (by simpa using h) hj
    simpa [Rkv.cells] using this
theorem Rd.rkv {w : World} {A : Option Addr} {gs : List Rkv} (h : Rd w 3 A gs.length (rkvs gs)) {k : Nat} (hk : k < gs.length) :
    ∃ b off, A = some ⟨b, off, none⟩ ∧ w.cell? ⟨b, off + k * 3, none⟩ = some (.int .i64 gs[k].value) ∧ w.cell? ⟨b, off + k * 3 + 1, none⟩ = some (.int .i64 gs[k].least) ∧ w.cell? ⟨b, off + k * 3 + 2, none⟩ = some (.int .i64 gs[k].most) := by
  obtain ⟨b, off, e, hc⟩ := h.2 (by omega)
  exact ⟨b, off, e, hc (k * 3 + 0) _ ((rkvs_at gs k 0 hk (by omega)).trans rfl), hc (k * 3 + 1) _ ((rkvs_at gs k 1 hk (by omega)).trans rfl), hc (k * 3 + 2) _ ((rkvs_at gs k 2 hk (by omega)).trans rfl)⟩
/-- the same where the address is known -/
theorem Rd.rkv_at {w : World} {b off : Nat} {gs : List Rkv} (h : Rd w 3 (some ⟨b, off, none⟩) gs.length (rkvs gs)) {k : Nat} (hk : k < gs.length) :
    w.cell? ⟨b, off + k * 3, none⟩ = some (.int .i64 gs[k].value) ∧ w.cell? ⟨b, off + k * 3 + 1, none⟩ = some (.int .i64 gs[k].least) ∧ w.cell? ⟨b, off + k * 3 + 2, none⟩ = some (.int .i64 gs[k].most) := by
  obtain ⟨b2, off2, e, h0, h1, h2⟩ := h.rkv hk
  injection e with e
  injection e with e1 e2
  subst e1; subst e2
  exact ⟨h0, h1, h2⟩
theorem info_rkv : (Try.prog.info? 51).map (fun i => (i.zero, i.size, i.bytes)) = some (some (.agg #[.int .i64 0, .int .i64 0, .int .i64 0]), 3, 24) := by kernel_rfl
def OwnRkv (w w' : World) (v : Value) (gs : List Rkv) : Prop := w'.ownsRow w.heap.size 51 3 v gs.length (rkvs gs) ∧ gs.length ≤ 1048576
theorem made_rkv (m : Nat) : madeCells (Value.agg #[.int .i64 0, .int .i64 0, .int .i64 0]).cells (m * 3) = rep (m * 3) (.int .i64 0) := by
  apply Array.ext
  · simp [madeCells, rep]
  · intro i h1 h2
    have hz : ∀ j, j < 3 → (#[.int .i64 0, .int .i64 0, .int .i64 0] : Array Value)[j]! = .int .i64 0 := by
      intro j hj
      have : j = 0 ∨ j = 1 ∨ j = 2 := by omega
      rcases this with rfl | rfl | rfl <;> rfl
    simp only [madeCells, rep, Value.cells, Array.getElem_map, Array.getElem_range, Array.getElem_replicate]
    exact hz _ (Nat.mod_lt _ (by decide))
theorem make_rkv {P : Program} (t e : TypeId) (ht : P.underlying t = some (.slice e)) (hi : (P.info? e).map (fun i => (i.zero, i.size, i.bytes)) = some (some (.agg #[.int .i64 0, .int .i64 0, .int .i64 0]), 3, 24)) (m : Nat) (hm : m ≤ 1099511627776) (w : World) :
    (Instr.makeSlice t (.int .i64 (m : Int)) (.int .i64 (m : Int))).run P w = .ok (.slice (some ⟨w.heap.size, 0, none⟩) m m) (w.alloc (.cells (rep (m * 3) (.int .i64 0)) e)) := by
  obtain ⟨i0, hi0, hz0, hz1, hz2⟩ := info_parts hi
  have hr := run_make (P := P) w t e i0 _ ht hi0 hz0 .i64 .i64 m m (by omega) (by omega) (by rw [hz2]; omega) (by omega)
  simp only [Int.toNat_natCast, hz1] at hr
  rw [hr, made_rkv]
end Go.Proofs.Ytlckeefjhafloaa.mem
