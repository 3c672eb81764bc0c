/- Coded strings in memory: a struct of an integer and a string lies in 2 cells. No condition. -/
import Derived.Test.YtaeimdcmpjanbaaMem
set_option linter.unusedVariables false
set_option linter.unusedSimpArgs false
namespace Go.Proofs.Ytaeimdcmpjanbaa.mem
open Go.RowKit

structure Cod where
  shared : Int
  rest : ByteArray
  deriving DecidableEq
def Cod.cells (g : Cod) : List Value := [.int .i64 g.shared, .string g.rest]
/-- the value of a CodedString -/
def Cod.val (g : Cod) : Value := .agg #[.int .i64 g.shared, .string g.rest]
def cods (gs : List Cod) : List Value := gs.flatMap Cod.cells
theorem len_cods : ∀ gs : List Cod, (cods gs).length = gs.length * 2
  | [] => rfl
  | g :: r => by have := len_cods r; simp only [cods, List.flatMap_cons, List.length_append, Cod.cells, List.length_cons, List.length_nil] at *; omega
theorem cods_cons (g : Cod) (r : List Cod) : cods (g :: r) = g.cells ++ cods r := rfl
theorem cods_app (a b : List Cod) : cods (a ++ b) = cods a ++ cods b := List.flatMap_append
theorem cods_single (g : Cod) : cods [g] = g.cells := by simp [cods]
theorem cods_take : ∀ (gs : List Cod) (k : Nat), cods (gs.take k) = (cods gs).take (k * 2)
  | [], k => by simp [cods]
  | g :: r, 0 => by simp [cods]
  | g :: r, k + 1 => by
    rw [List.take_succ_cons, cods_cons, cods_cons, cods_take r k, show (k + 1) * 2 = g.cells.length + k * 2 by simp [Cod.cells]; omega, List.take_length_add_append]
theorem cods_drop : ∀ (gs : List Cod) (k : Nat), cods (gs.drop k) = (cods gs).drop (k * 2)
  | [], k => by simp [cods]
  | g :: r, 0 => by simp
  | g :: r, k + 1 => by
    rw [List.drop_succ_cons, cods_cons, cods_drop r k, show (k + 1) * 2 = g.cells.length + k * 2 by simp [Cod.cells]; omega, List.drop_length_add_append]
theorem cods_one (gs : List Cod) : ∀ u ∈ cods gs, u.oneCell' = true := by
  intro u hu
  obtain ⟨g, _, hg⟩ := List.mem_flatMap.1 hu
  simp only [Cod.cells, List.mem_cons, List.not_mem_nil, or_false] at hg
  rcases hg with rfl | rfl <;> rfl
theorem cods_at : ∀ (gs : List Cod) (k j : Nat) (h : k < gs.length), j < 2 → (cods gs)[k * 2 + j]? = gs[k].cells[j]?
  | g :: r, 0, j, h, hj => by
    rw [cods_cons, Nat.zero_mul, Nat.zero_add, List.getElem?_append_left (by simp [Cod.cells]; omega)]; rfl
  | g :: r, k + 1, j, h, hj => by
    rw [cods_cons, show (k + 1) * 2 + j = 2 + (k * 2 + j) by omega, List.getElem?_append_right (by simp [Cod.cells])]
    have := cods_at r k j (by simpa using h) hj
    simpa [Cod.cells] using this
theorem Rd.cod {w : World} {A : Option Addr} {gs : List Cod} (h : Rd w 2 A gs.length (cods gs)) {k : Nat} (hk : k < gs.length) :
    ∃ b off, A = some ⟨b, off, none⟩ ∧ w.cell? ⟨b, off + k * 2, none⟩ = some (.int .i64 gs[k].shared) ∧ w.cell? ⟨b, off + k * 2 + 1, none⟩ = some (.string gs[k].rest) := by
  obtain ⟨b, off, e, hc⟩ := h.2 (by omega)
  exact ⟨b, off, e, hc (k * 2 + 0) _ ((cods_at gs k 0 hk (by omega)).trans rfl), hc (k * 2 + 1) _ ((cods_at gs k 1 hk (by omega)).trans rfl)⟩
/-- the same where the address is known -/
theorem Rd.cod_at {w : World} {b off : Nat} {gs : List Cod} (h : Rd w 2 (some ⟨b, off, none⟩) gs.length (cods gs)) {k : Nat} (hk : k < gs.length) :
    w.cell? ⟨b, off + k * 2, none⟩ = some (.int .i64 gs[k].shared) ∧ w.cell? ⟨b, off + k * 2 + 1, none⟩ = some (.string gs[k].rest) := by
  obtain ⟨b2, off2, e, h0, h1⟩ := h.cod hk
  injection e with e
  injection e with e1 e2
  subst e1; subst e2
  exact ⟨h0, h1⟩
theorem info_cod : (Try.prog.info? 57).map (fun i => (i.zero, i.size, i.bytes)) = some (some (.agg #[.int .i64 0, .string ByteArray.empty]), 2, 24) := by kernel_rfl
def OwnCod (w w' : World) (v : Value) (gs : List Cod) : Prop := w'.ownsRow w.heap.size 57 2 v gs.length (cods gs) ∧ gs.length ≤ 1048576
end Go.Proofs.Ytaeimdcmpjanbaa.mem
