/- Opening an argument that is a struct of two integers. No condition. -/
import Derived.Test.YtgngoedooemboaaRec
import Derived.Deep.Slices
import Derived.Deep.Fields
import Derived.Lib.SmallJoins
set_option linter.unusedVariables false
set_option linter.unusedSimpArgs false
namespace Go.Proofs.Ytgngoedooemboaa.mem
open Go.ChangeShapes Go.WideShapes Go.RowKit Go.Deep

section
variable {H : Type} {enc : TypeId × Value → H} {P : Program} {w : World} {t e : TypeId} {v : Value} {d : DataW H} {p : List MemPlace}
theorem open_record {r : Reach} {b0 : Nat} {f0 f1 : Field} (hs : P.underlying t = some (.struct #[f0, f1])) (hone : Go.Deep.oneCellFields P #[f0, f1] = true) (hC2 : P.cellsOf t = 2)
    (hk0 : P.underlying f0.type = some (.int .i64)) (hk1 : P.underlying f1.type = some (.int .i64))
    (hv : Value.okWide P w r b0 t v) (h : DataW.Trod enc P w 0 (fun _ => true) true t v d p) :
    ∃ x y : Int, v = .agg #[.int .i64 x, .int .i64 y] := by
  obtain ⟨v0, v1, y0, y1, n, rfl, _, _, h0, h1⟩ := Joins.open_agg2 hs hone hC2 hv h
  obtain ⟨x, hx, _⟩ := DataW.trod_int hk0 h0
  obtain ⟨y, hy, _⟩ := DataW.trod_int hk1 h1
  have hx' : v0 = .int .i64 x := by simpa using hx
  have hy' : v1 = .int .i64 y := by simpa using hy
  subst hx'; subst hy'
  exact ⟨x, y, rfl⟩
end
end Go.Proofs.Ytgngoedooemboaa.mem
