/- Slices as elements: a row whose cells are slices of records. No condition. -/
import Derived.Test.YtgffabjajbgbjaaRec
set_option linter.unusedVariables false
set_option linter.unusedSimpArgs false
namespace Go.Proofs.Ytgffabjajbgbjaa.mem
open Go.RowKit

abbrev Row := Option Addr × Nat × Nat
/-- the value of such a slice -/
def Row.val (r : Row) : Value := .slice r.1 r.2.1 r.2.2
def rws (rs : List Row) : List Value := rs.map Row.val
theorem len_rws (rs : List Row) : (rws rs).length = rs.length := List.length_map _
theorem rws_app (a b : List Row) : rws (a ++ b) = rws a ++ rws b := List.map_append
theorem rws_one (rs : List Row) : ∀ u ∈ rws rs, u.oneCell' = true := by
  intro u hu; obtain ⟨z, _, rfl⟩ := List.mem_map.1 hu; rfl
theorem rws_at (rs : List Row) {k : Nat} (h : k < rs.length) : (rws rs)[k]? = some rs[k].val := by simp [rws, h]
theorem info_row : (Try.prog.info? 54).map (fun i => (i.zero, i.size, i.bytes)) = some (some (.slice none 0 0), 1, 24) := by kernel_rfl
theorem Rd.row {w : World} {A : Option Addr} {rs : List Row} (h : Rd w 1 A rs.length (rws rs)) {k : Nat} (hk : k < rs.length) : ∃ b off, A = some ⟨b, off, none⟩ ∧ w.cell? ⟨b, off + k, none⟩ = some rs[k].val := by
  obtain ⟨b, off, e, u, hu, hc⟩ := h.one hk
  refine ⟨b, off, e, hc.trans ?_⟩
  rw [← hu]; simp [rws, hk]
end Go.Proofs.Ytgffabjajbgbjaa.mem
