/-
  No cell of these rows narrows 'for every input' (looked for: loops, veiled, ifaces, maps, wideKeys, modest, calm, conditions, laid).
  DERIVED. THE GIVEN ROWS OF THIS SEAT. 13 by the template 'for every input the law returns true; each argument reads behind the call as it read before'; 0 by the template 'total and deterministic' (their statements: YtlckeefjhafloaaTotals.lean).
  GIVEN WITH THE SEED: the statements are not yours to turn. If you find one false, say at which input.
  Laid BY PROGRAM, IN A SANDBOX (cutbox-rows.mjs): the forced cells as the released guide's own fill.sh prints them over the translation 4af99c4ebfbead9e… (all of the seat's roots in one cut). By AI agents, Wed Nov 11 2026. No macro, syntax, notation, axiom, sorry.
-/
import Derived.Test.YtlckeefjhafloaaChecked
import GoSem.Claim
import GoSem.ClaimJoined
import GoSem.ClaimMapViews
import Derived.JoinedTies
import Derived.KernelRfl
namespace Go.Proofs.Ytlckeefjhafloaa
/- THE CELL 'sum', in the pinned program and in every row, IS THE sha256 OF THE DUMP (.gsa) THAT YtlckeefjhafloaaProg.lean LOADS. Nothing in Lean hashes anything: it is a label: what it is worth is what the hold of that sum in a sandbox is worth. -/
noncomputable def Try.pinned : Pinned := { name := "ytlckeefjhafloaa", sum := "4af99c4ebfbead9e5f9594a73947ec05a6e722595fd52db868123842171594ac", checked := Try.checked }
namespace Rows
def none {H : Type} : Left H := { results := [], args := [] }

/-- 'laws.FnSummary': WHATEVER THE INPUT: true; the input reads as it did. -/
def fnSummarySpec : ChangeSpec := { name := "fnSummary", fn := fun _ => fun
  | [d] => { results := [.lit (.bool true)], args := [d] }
  | _ => none }
def fnSummaryRow : OpenClaim := { program := "ytlckeefjhafloaa", sum := "4af99c4ebfbead9e5f9594a73947ec05a6e722595fd52db868123842171594ac", func := "loop.example/g00907/laws.FnSummary", spec := "fnSummary", unfollowed := true, recurses := true, apart := false }
def FnSummarySaid : Prop := fnSummaryRow.holds Try.pinned (OpenSpec.ofChange fnSummarySpec)

/-- ITS FALSE NEIGHBOUR: 'it returns false'. Refute it at one input. -/
def fnSummaryWrong : ChangeSpec := { name := "fnSummary", fn := fun _ => fun
  | [d] => { results := [.lit (.bool false)], args := [d] }
  | _ => none }
def FnSummaryWrongFalsely : Prop := fnSummaryRow.holds Try.pinned (OpenSpec.ofChange fnSummaryWrong)

/-- 'laws.FnExactIsValidSummary': WHATEVER THE INPUT: true; the input reads as it did. -/
def fnExactIsValidSummarySpec : ChangeSpec := { name := "fnExactIsValidSummary", fn := fun _ => fun
  | [d] => { results := [.lit (.bool true)], args := [d] }
  | _ => none }
def fnExactIsValidSummaryRow : OpenClaim := { program := "ytlckeefjhafloaa", sum := "4af99c4ebfbead9e5f9594a73947ec05a6e722595fd52db868123842171594ac", func := "loop.example/g00907/laws.FnExactIsValidSummary", spec := "fnExactIsValidSummary", apart := false }
def FnExactIsValidSummarySaid : Prop := fnExactIsValidSummaryRow.holds Try.pinned (OpenSpec.ofChange fnExactIsValidSummarySpec)

/-- ITS FALSE NEIGHBOUR: 'it returns false'. Refute it at one input. -/
def fnExactIsValidSummaryWrong : ChangeSpec := { name := "fnExactIsValidSummary", fn := fun _ => fun
  | [d] => { results := [.lit (.bool false)], args := [d] }
  | _ => none }
def FnExactIsValidSummaryWrongFalsely : Prop := fnExactIsValidSummaryRow.holds Try.pinned (OpenSpec.ofChange fnExactIsValidSummaryWrong)

/-- 'laws.FnExactSummaryGap': WHATEVER THE INPUT: true; the input reads as it did. -/
def fnExactSummaryGapSpec : ChangeSpec := { name := "fnExactSummaryGap", fn := fun _ => fun
  | [d] => { results := [.lit (.bool true)], args := [d] }
  | _ => none }
def fnExactSummaryGapRow : OpenClaim := { program := "ytlckeefjhafloaa", sum := "4af99c4ebfbead9e5f9594a73947ec05a6e722595fd52db868123842171594ac", func := "loop.example/g00907/laws.FnExactSummaryGap", spec := "fnExactSummaryGap", apart := false }
def FnExactSummaryGapSaid : Prop := fnExactSummaryGapRow.holds Try.pinned (OpenSpec.ofChange fnExactSummaryGapSpec)

/-- ITS FALSE NEIGHBOUR: 'it returns false'. Refute it at one input. -/
def fnExactSummaryGapWrong : ChangeSpec := { name := "fnExactSummaryGap", fn := fun _ => fun
  | [d] => { results := [.lit (.bool false)], args := [d] }
  | _ => none }
def FnExactSummaryGapWrongFalsely : Prop := fnExactSummaryGapRow.holds Try.pinned (OpenSpec.ofChange fnExactSummaryGapWrong)

/-- 'laws.FnExactRankBounds': WHATEVER THE INPUT: true; the input reads as it did. -/
def fnExactRankBoundsSpec : ChangeSpec := { name := "fnExactRankBounds", fn := fun _ => fun
  | [d1, d2] => { results := [.lit (.bool true)], args := [d1, d2] }
  | _ => none }
def fnExactRankBoundsRow : OpenClaim := { program := "ytlckeefjhafloaa", sum := "4af99c4ebfbead9e5f9594a73947ec05a6e722595fd52db868123842171594ac", func := "loop.example/g00907/laws.FnExactRankBounds", spec := "fnExactRankBounds", apart := false }
def FnExactRankBoundsSaid : Prop := fnExactRankBoundsRow.holds Try.pinned (OpenSpec.ofChange fnExactRankBoundsSpec)

/-- ITS FALSE NEIGHBOUR: 'it returns false'. Refute it at one input. -/
def fnExactRankBoundsWrong : ChangeSpec := { name := "fnExactRankBounds", fn := fun _ => fun
  | [d1, d2] => { results := [.lit (.bool false)], args := [d1, d2] }
  | _ => none }
def FnExactRankBoundsWrongFalsely : Prop := fnExactRankBoundsRow.holds Try.pinned (OpenSpec.ofChange fnExactRankBoundsWrong)

/-- 'laws.FnExactQueryQuantile': WHATEVER THE INPUT: true; the input reads as it did. -/
def fnExactQueryQuantileSpec : ChangeSpec := { name := "fnExactQueryQuantile", fn := fun _ => fun
  | [d1, d2] => { results := [.lit (.bool true)], args := [d1, d2] }
  | _ => none }
def fnExactQueryQuantileRow : OpenClaim := { program := "ytlckeefjhafloaa", sum := "4af99c4ebfbead9e5f9594a73947ec05a6e722595fd52db868123842171594ac", func := "loop.example/g00907/laws.FnExactQueryQuantile", spec := "fnExactQueryQuantile", apart := false }
def FnExactQueryQuantileSaid : Prop := fnExactQueryQuantileRow.holds Try.pinned (OpenSpec.ofChange fnExactQueryQuantileSpec)

/-- ITS FALSE NEIGHBOUR: 'it returns false'. Refute it at one input. -/
def fnExactQueryQuantileWrong : ChangeSpec := { name := "fnExactQueryQuantile", fn := fun _ => fun
  | [d1, d2] => { results := [.lit (.bool false)], args := [d1, d2] }
  | _ => none }
def FnExactQueryQuantileWrongFalsely : Prop := fnExactQueryQuantileRow.holds Try.pinned (OpenSpec.ofChange fnExactQueryQuantileWrong)

/-- 'laws.FnExactQueryRank': WHATEVER THE INPUT: true; the input reads as it did. -/
def fnExactQueryRankSpec : ChangeSpec := { name := "fnExactQueryRank", fn := fun _ => fun
  | [d1, d2] => { results := [.lit (.bool true)], args := [d1, d2] }
  | _ => none }
def fnExactQueryRankRow : OpenClaim := { program := "ytlckeefjhafloaa", sum := "4af99c4ebfbead9e5f9594a73947ec05a6e722595fd52db868123842171594ac", func := "loop.example/g00907/laws.FnExactQueryRank", spec := "fnExactQueryRank", apart := false }
def FnExactQueryRankSaid : Prop := fnExactQueryRankRow.holds Try.pinned (OpenSpec.ofChange fnExactQueryRankSpec)

/-- ITS FALSE NEIGHBOUR: 'it returns false'. Refute it at one input. -/
def fnExactQueryRankWrong : ChangeSpec := { name := "fnExactQueryRank", fn := fun _ => fun
  | [d1, d2] => { results := [.lit (.bool false)], args := [d1, d2] }
  | _ => none }
def FnExactQueryRankWrongFalsely : Prop := fnExactQueryRankRow.holds Try.pinned (OpenSpec.ofChange fnExactQueryRankWrong)

/-- 'laws.FnExactPruneSummary': WHATEVER THE INPUT: true; the input reads as it did. -/
def fnExactPruneSummarySpec : ChangeSpec := { name := "fnExactPruneSummary", fn := fun _ => fun
  | [d1, d2] => { results := [.lit (.bool true)], args := [d1, d2] }
  | _ => none }
def fnExactPruneSummaryRow : OpenClaim := { program := "ytlckeefjhafloaa", sum := "4af99c4ebfbead9e5f9594a73947ec05a6e722595fd52db868123842171594ac", func := "loop.example/g00907/laws.FnExactPruneSummary", spec := "fnExactPruneSummary", apart := false }
def FnExactPruneSummarySaid : Prop := fnExactPruneSummaryRow.holds Try.pinned (OpenSpec.ofChange fnExactPruneSummarySpec)

/-- ITS FALSE NEIGHBOUR: 'it returns false'. Refute it at one input. -/
def fnExactPruneSummaryWrong : ChangeSpec := { name := "fnExactPruneSummary", fn := fun _ => fun
  | [d1, d2] => { results := [.lit (.bool false)], args := [d1, d2] }
  | _ => none }
def FnExactPruneSummaryWrongFalsely : Prop := fnExactPruneSummaryRow.holds Try.pinned (OpenSpec.ofChange fnExactPruneSummaryWrong)

/-- 'laws.FnExactMergeSummaries': WHATEVER THE INPUT: true; the input reads as it did. -/
def fnExactMergeSummariesSpec : ChangeSpec := { name := "fnExactMergeSummaries", fn := fun _ => fun
  | [d1, d2] => { results := [.lit (.bool true)], args := [d1, d2] }
  | _ => none }
def fnExactMergeSummariesRow : OpenClaim := { program := "ytlckeefjhafloaa", sum := "4af99c4ebfbead9e5f9594a73947ec05a6e722595fd52db868123842171594ac", func := "loop.example/g00907/laws.FnExactMergeSummaries", spec := "fnExactMergeSummaries", apart := false }
def FnExactMergeSummariesSaid : Prop := fnExactMergeSummariesRow.holds Try.pinned (OpenSpec.ofChange fnExactMergeSummariesSpec)

/-- ITS FALSE NEIGHBOUR: 'it returns false'. Refute it at one input. -/
def fnExactMergeSummariesWrong : ChangeSpec := { name := "fnExactMergeSummaries", fn := fun _ => fun
  | [d1, d2] => { results := [.lit (.bool false)], args := [d1, d2] }
  | _ => none }
def FnExactMergeSummariesWrongFalsely : Prop := fnExactMergeSummariesRow.holds Try.pinned (OpenSpec.ofChange fnExactMergeSummariesWrong)

/-- 'laws.FnSummaryMerged': WHATEVER THE INPUT: true; the input reads as it did. -/
def fnSummaryMergedSpec : ChangeSpec := { name := "fnSummaryMerged", fn := fun _ => fun
  | [d] => { results := [.lit (.bool true)], args := [d] }
  | _ => none }
def fnSummaryMergedRow : OpenClaim := { program := "ytlckeefjhafloaa", sum := "4af99c4ebfbead9e5f9594a73947ec05a6e722595fd52db868123842171594ac", func := "loop.example/g00907/laws.FnSummaryMerged", spec := "fnSummaryMerged", apart := false }
def FnSummaryMergedSaid : Prop := fnSummaryMergedRow.holds Try.pinned (OpenSpec.ofChange fnSummaryMergedSpec)

/-- ITS FALSE NEIGHBOUR: 'it returns false'. Refute it at one input. -/
def fnSummaryMergedWrong : ChangeSpec := { name := "fnSummaryMerged", fn := fun _ => fun
  | [d] => { results := [.lit (.bool false)], args := [d] }
  | _ => none }
def FnSummaryMergedWrongFalsely : Prop := fnSummaryMergedRow.holds Try.pinned (OpenSpec.ofChange fnSummaryMergedWrong)

/-- 'laws.FnExactSummaryOf': WHATEVER THE INPUT: true; the input reads as it did. -/
def fnExactSummaryOfSpec : ChangeSpec := { name := "fnExactSummaryOf", fn := fun _ => fun
  | [d] => { results := [.lit (.bool true)], args := [d] }
  | _ => none }
def fnExactSummaryOfRow : OpenClaim := { program := "ytlckeefjhafloaa", sum := "4af99c4ebfbead9e5f9594a73947ec05a6e722595fd52db868123842171594ac", func := "loop.example/g00907/laws.FnExactSummaryOf", spec := "fnExactSummaryOf", unfollowed := true, recurses := true, apart := false }
def FnExactSummaryOfSaid : Prop := fnExactSummaryOfRow.holds Try.pinned (OpenSpec.ofChange fnExactSummaryOfSpec)

/-- ITS FALSE NEIGHBOUR: 'it returns false'. Refute it at one input. -/
def fnExactSummaryOfWrong : ChangeSpec := { name := "fnExactSummaryOf", fn := fun _ => fun
  | [d] => { results := [.lit (.bool false)], args := [d] }
  | _ => none }
def FnExactSummaryOfWrongFalsely : Prop := fnExactSummaryOfRow.holds Try.pinned (OpenSpec.ofChange fnExactSummaryOfWrong)

/-- 'laws.FnExactFitsSummary': WHATEVER THE INPUT: true; the input reads as it did. -/
def fnExactFitsSummarySpec : ChangeSpec := { name := "fnExactFitsSummary", fn := fun _ => fun
  | [d1, d2] => { results := [.lit (.bool true)], args := [d1, d2] }
  | _ => none }
def fnExactFitsSummaryRow : OpenClaim := { program := "ytlckeefjhafloaa", sum := "4af99c4ebfbead9e5f9594a73947ec05a6e722595fd52db868123842171594ac", func := "loop.example/g00907/laws.FnExactFitsSummary", spec := "fnExactFitsSummary", unfollowed := true, recurses := true, apart := false }
def FnExactFitsSummarySaid : Prop := fnExactFitsSummaryRow.holds Try.pinned (OpenSpec.ofChange fnExactFitsSummarySpec)

/-- ITS FALSE NEIGHBOUR: 'it returns false'. Refute it at one input. -/
def fnExactFitsSummaryWrong : ChangeSpec := { name := "fnExactFitsSummary", fn := fun _ => fun
  | [d1, d2] => { results := [.lit (.bool false)], args := [d1, d2] }
  | _ => none }
def FnExactFitsSummaryWrongFalsely : Prop := fnExactFitsSummaryRow.holds Try.pinned (OpenSpec.ofChange fnExactFitsSummaryWrong)

/-- 'laws.FnPrunedSummary': WHATEVER THE INPUT: true; the input reads as it did. -/
def fnPrunedSummarySpec : ChangeSpec := { name := "fnPrunedSummary", fn := fun _ => fun
  | [d] => { results := [.lit (.bool true)], args := [d] }
  | _ => none }
def fnPrunedSummaryRow : OpenClaim := { program := "ytlckeefjhafloaa", sum := "4af99c4ebfbead9e5f9594a73947ec05a6e722595fd52db868123842171594ac", func := "loop.example/g00907/laws.FnPrunedSummary", spec := "fnPrunedSummary", unfollowed := true, recurses := true, apart := false }
def FnPrunedSummarySaid : Prop := fnPrunedSummaryRow.holds Try.pinned (OpenSpec.ofChange fnPrunedSummarySpec)

/-- ITS FALSE NEIGHBOUR: 'it returns false'. Refute it at one input. -/
def fnPrunedSummaryWrong : ChangeSpec := { name := "fnPrunedSummary", fn := fun _ => fun
  | [d] => { results := [.lit (.bool false)], args := [d] }
  | _ => none }
def FnPrunedSummaryWrongFalsely : Prop := fnPrunedSummaryRow.holds Try.pinned (OpenSpec.ofChange fnPrunedSummaryWrong)

/-- 'laws.FnQuantiles': WHATEVER THE INPUT: true; the input reads as it did. -/
def fnQuantilesSpec : ChangeSpec := { name := "fnQuantiles", fn := fun _ => fun
  | [d] => { results := [.lit (.bool true)], args := [d] }
  | _ => none }
def fnQuantilesRow : OpenClaim := { program := "ytlckeefjhafloaa", sum := "4af99c4ebfbead9e5f9594a73947ec05a6e722595fd52db868123842171594ac", func := "loop.example/g00907/laws.FnQuantiles", spec := "fnQuantiles", unfollowed := true, recurses := true, apart := false }
def FnQuantilesSaid : Prop := fnQuantilesRow.holds Try.pinned (OpenSpec.ofChange fnQuantilesSpec)

/-- ITS FALSE NEIGHBOUR: 'it returns false'. Refute it at one input. -/
def fnQuantilesWrong : ChangeSpec := { name := "fnQuantiles", fn := fun _ => fun
  | [d] => { results := [.lit (.bool false)], args := [d] }
  | _ => none }
def FnQuantilesWrongFalsely : Prop := fnQuantilesRow.holds Try.pinned (OpenSpec.ofChange fnQuantilesWrong)

/- THE SECOND FORM. 'bulk': how many values and letters a reading holds, each counted each time it is reached (what is shared counts as often as it is met; a slice's spare places count too). A statement '..UptoSaid' is the law's where the arguments, and the package variables that the reading takes, are together of bulk at most 1048576: NARROWER than '..Said'. Prove '..Said' where nothing that the law and all that it calls make is longer than what came in: it says more and counts as full. Else prove '..UptoSaid'. A law counts once. -/
mutual
def uptoBulk {H : Type} : DataW H → Nat
  | .lit (.string bytes) => bytes.length + 1
  | .lit _ => 1
  | .nil => 1
  | .ptr d => uptoBulk d + 1
  | .slice elems spare => uptoBulkAll elems + uptoBulkAll spare + 1
  | .agg parts => uptoBulkAll parts + 1
  | .iface _ d => uptoBulk d + 1
  | .map entries => uptoBulkEntries entries + 1
  | .held _ => 1
def uptoBulkAll {H : Type} : List (DataW H) → Nat
  | [] => 0
  | d :: r => uptoBulk d + uptoBulkAll r
def uptoBulkEntries {H : Type} : List (Lit × DataW H) → Nat
  | [] => 0
  | x :: r => uptoBulkEntry x + uptoBulkEntries r
def uptoBulkEntry {H : Type} : Lit × DataW H → Nat
  | (.string bytes, d) => bytes.length + uptoBulk d + 1
  | (_, d) => uptoBulk d + 1
 end
def uptoSmall : (H : Type) → List (DataW H) → Bool := fun _ ds => decide (uptoBulkAll ds ≤ 1048576)
def OpenSpec.upto (s : _root_.Go.ChangeSpec) : _root_.Go.OpenSpec := { _root_.Go.OpenSpec.ofChange s with cond := some uptoSmall }

/-- 'laws.FnSummary', WHERE WHAT IT READS IS OF BULK AT MOST 1048576: true; the input reads as it did. -/
def fnSummaryUptoRow : OpenClaim := { program := "ytlckeefjhafloaa", sum := "4af99c4ebfbead9e5f9594a73947ec05a6e722595fd52db868123842171594ac", func := "loop.example/g00907/laws.FnSummary", spec := "fnSummary", unfollowed := true, recurses := true, apart := false, narrowed := true }
def FnSummaryUptoSaid : Prop := fnSummaryUptoRow.holds Try.pinned (OpenSpec.upto fnSummarySpec)

/-- 'laws.FnExactIsValidSummary', WHERE WHAT IT READS IS OF BULK AT MOST 1048576: true; the input reads as it did. -/
def fnExactIsValidSummaryUptoRow : OpenClaim := { program := "ytlckeefjhafloaa", sum := "4af99c4ebfbead9e5f9594a73947ec05a6e722595fd52db868123842171594ac", func := "loop.example/g00907/laws.FnExactIsValidSummary", spec := "fnExactIsValidSummary", apart := false, narrowed := true }
def FnExactIsValidSummaryUptoSaid : Prop := fnExactIsValidSummaryUptoRow.holds Try.pinned (OpenSpec.upto fnExactIsValidSummarySpec)

/-- 'laws.FnExactSummaryGap', WHERE WHAT IT READS IS OF BULK AT MOST 1048576: true; the input reads as it did. -/
def fnExactSummaryGapUptoRow : OpenClaim := { program := "ytlckeefjhafloaa", sum := "4af99c4ebfbead9e5f9594a73947ec05a6e722595fd52db868123842171594ac", func := "loop.example/g00907/laws.FnExactSummaryGap", spec := "fnExactSummaryGap", apart := false, narrowed := true }
def FnExactSummaryGapUptoSaid : Prop := fnExactSummaryGapUptoRow.holds Try.pinned (OpenSpec.upto fnExactSummaryGapSpec)

/-- 'laws.FnExactRankBounds', WHERE WHAT IT READS IS OF BULK AT MOST 1048576: true; the input reads as it did. -/
def fnExactRankBoundsUptoRow : OpenClaim := { program := "ytlckeefjhafloaa", sum := "4af99c4ebfbead9e5f9594a73947ec05a6e722595fd52db868123842171594ac", func := "loop.example/g00907/laws.FnExactRankBounds", spec := "fnExactRankBounds", apart := false, narrowed := true }
def FnExactRankBoundsUptoSaid : Prop := fnExactRankBoundsUptoRow.holds Try.pinned (OpenSpec.upto fnExactRankBoundsSpec)

/-- 'laws.FnExactQueryQuantile', WHERE WHAT IT READS IS OF BULK AT MOST 1048576: true; the input reads as it did. -/
def fnExactQueryQuantileUptoRow : OpenClaim := { program := "ytlckeefjhafloaa", sum := "4af99c4ebfbead9e5f9594a73947ec05a6e722595fd52db868123842171594ac", func := "loop.example/g00907/laws.FnExactQueryQuantile", spec := "fnExactQueryQuantile", apart := false, narrowed := true }
def FnExactQueryQuantileUptoSaid : Prop := fnExactQueryQuantileUptoRow.holds Try.pinned (OpenSpec.upto fnExactQueryQuantileSpec)

/-- 'laws.FnExactQueryRank', WHERE WHAT IT READS IS OF BULK AT MOST 1048576: true; the input reads as it did. -/
def fnExactQueryRankUptoRow : OpenClaim := { program := "ytlckeefjhafloaa", sum := "4af99c4ebfbead9e5f9594a73947ec05a6e722595fd52db868123842171594ac", func := "loop.example/g00907/laws.FnExactQueryRank", spec := "fnExactQueryRank", apart := false, narrowed := true }
def FnExactQueryRankUptoSaid : Prop := fnExactQueryRankUptoRow.holds Try.pinned (OpenSpec.upto fnExactQueryRankSpec)

/-- 'laws.FnExactPruneSummary', WHERE WHAT IT READS IS OF BULK AT MOST 1048576: true; the input reads as it did. -/
def fnExactPruneSummaryUptoRow : OpenClaim := { program := "ytlckeefjhafloaa", sum := "4af99c4ebfbead9e5f9594a73947ec05a6e722595fd52db868123842171594ac", func := "loop.example/g00907/laws.FnExactPruneSummary", spec := "fnExactPruneSummary", apart := false, narrowed := true }
def FnExactPruneSummaryUptoSaid : Prop := fnExactPruneSummaryUptoRow.holds Try.pinned (OpenSpec.upto fnExactPruneSummarySpec)

/-- 'laws.FnExactMergeSummaries', WHERE WHAT IT READS IS OF BULK AT MOST 1048576: true; the input reads as it did. -/
def fnExactMergeSummariesUptoRow : OpenClaim := { program := "ytlckeefjhafloaa", sum := "4af99c4ebfbead9e5f9594a73947ec05a6e722595fd52db868123842171594ac", func := "loop.example/g00907/laws.FnExactMergeSummaries", spec := "fnExactMergeSummaries", apart := false, narrowed := true }
def FnExactMergeSummariesUptoSaid : Prop := fnExactMergeSummariesUptoRow.holds Try.pinned (OpenSpec.upto fnExactMergeSummariesSpec)

/-- 'laws.FnSummaryMerged', WHERE WHAT IT READS IS OF BULK AT MOST 1048576: true; the input reads as it did. -/
def fnSummaryMergedUptoRow : OpenClaim := { program := "ytlckeefjhafloaa", sum := "4af99c4ebfbead9e5f9594a73947ec05a6e722595fd52db868123842171594ac", func := "loop.example/g00907/laws.FnSummaryMerged", spec := "fnSummaryMerged", apart := false, narrowed := true }
def FnSummaryMergedUptoSaid : Prop := fnSummaryMergedUptoRow.holds Try.pinned (OpenSpec.upto fnSummaryMergedSpec)

/-- 'laws.FnExactSummaryOf', WHERE WHAT IT READS IS OF BULK AT MOST 1048576: true; the input reads as it did. -/
def fnExactSummaryOfUptoRow : OpenClaim := { program := "ytlckeefjhafloaa", sum := "4af99c4ebfbead9e5f9594a73947ec05a6e722595fd52db868123842171594ac", func := "loop.example/g00907/laws.FnExactSummaryOf", spec := "fnExactSummaryOf", unfollowed := true, recurses := true, apart := false, narrowed := true }
def FnExactSummaryOfUptoSaid : Prop := fnExactSummaryOfUptoRow.holds Try.pinned (OpenSpec.upto fnExactSummaryOfSpec)

/-- 'laws.FnExactFitsSummary', WHERE WHAT IT READS IS OF BULK AT MOST 1048576: true; the input reads as it did. -/
def fnExactFitsSummaryUptoRow : OpenClaim := { program := "ytlckeefjhafloaa", sum := "4af99c4ebfbead9e5f9594a73947ec05a6e722595fd52db868123842171594ac", func := "loop.example/g00907/laws.FnExactFitsSummary", spec := "fnExactFitsSummary", unfollowed := true, recurses := true, apart := false, narrowed := true }
def FnExactFitsSummaryUptoSaid : Prop := fnExactFitsSummaryUptoRow.holds Try.pinned (OpenSpec.upto fnExactFitsSummarySpec)

/-- 'laws.FnPrunedSummary', WHERE WHAT IT READS IS OF BULK AT MOST 1048576: true; the input reads as it did. -/
def fnPrunedSummaryUptoRow : OpenClaim := { program := "ytlckeefjhafloaa", sum := "4af99c4ebfbead9e5f9594a73947ec05a6e722595fd52db868123842171594ac", func := "loop.example/g00907/laws.FnPrunedSummary", spec := "fnPrunedSummary", unfollowed := true, recurses := true, apart := false, narrowed := true }
def FnPrunedSummaryUptoSaid : Prop := fnPrunedSummaryUptoRow.holds Try.pinned (OpenSpec.upto fnPrunedSummarySpec)

/-- 'laws.FnQuantiles', WHERE WHAT IT READS IS OF BULK AT MOST 1048576: true; the input reads as it did. -/
def fnQuantilesUptoRow : OpenClaim := { program := "ytlckeefjhafloaa", sum := "4af99c4ebfbead9e5f9594a73947ec05a6e722595fd52db868123842171594ac", func := "loop.example/g00907/laws.FnQuantiles", spec := "fnQuantiles", unfollowed := true, recurses := true, apart := false, narrowed := true }
def FnQuantilesUptoSaid : Prop := fnQuantilesUptoRow.holds Try.pinned (OpenSpec.upto fnQuantilesSpec)

end Rows
end Go.Proofs.Ytlckeefjhafloaa
