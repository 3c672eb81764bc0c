/-
  No cell of these rows narrows 'for every input' (looked for: loops, veiled, ifaces, maps, wideKeys, modest, calm, conditions, laid).
  DERIVED. THE GIVEN ROWS OF THIS SEAT. 12 by the template 'for every input the law returns true; each argument reads behind the call as it read before'; 0 by the template 'total and deterministic' (their statements: YtfjmpplpagmpbaaTotals.lean).
  GIVEN WITH THE SEED: the statements are not yours to turn. If you find one false, say at which input.
  Laid BY PROGRAM, IN A SANDBOX (cutbox-rows.mjs): the forced cells as the released guide's own fill.sh prints them over the translation deb3d363f27e84c3… (all of the seat's roots in one cut). By AI agents, Wed Nov 11 2026. No macro, syntax, notation, axiom, sorry.
-/
import Derived.Test.YtfjmpplpagmpbaaChecked
import GoSem.Claim
import GoSem.ClaimJoined
import GoSem.ClaimMapViews
import Derived.JoinedTies
import Derived.KernelRfl
namespace Go.Proofs.Ytfjmpplpagmpbaa
/- THE CELL 'sum', in the pinned program and in every row, IS THE sha256 OF THE DUMP (.gsa) THAT YtfjmpplpagmpbaaProg.lean LOADS. Nothing in Lean hashes anything: it is a label: what it is worth is what the hold of that sum in a sandbox is worth. -/
noncomputable def Try.pinned : Pinned := { name := "ytfjmpplpagmpbaa", sum := "deb3d363f27e84c3f48bab4094c8f893c924d771a518461f7064a5c6e749b349", checked := Try.checked }
namespace Rows
def none {H : Type} : Left H := { results := [], args := [] }

/-- 'laws.FnExactBucketSizes': WHATEVER THE INPUT: true; the input reads as it did. -/
def fnExactBucketSizesSpec : ChangeSpec := { name := "fnExactBucketSizes", fn := fun _ => fun
  | [d1, d2] => { results := [.lit (.bool true)], args := [d1, d2] }
  | _ => none }
def fnExactBucketSizesRow : OpenClaim := { program := "ytfjmpplpagmpbaa", sum := "deb3d363f27e84c3f48bab4094c8f893c924d771a518461f7064a5c6e749b349", func := "loop.example/g00907/laws.FnExactBucketSizes", spec := "fnExactBucketSizes", unfollowed := true, recurses := true, apart := false }
def FnExactBucketSizesSaid : Prop := fnExactBucketSizesRow.holds Try.pinned (OpenSpec.ofChange fnExactBucketSizesSpec)

/-- ITS FALSE NEIGHBOUR: 'it returns false'. Refute it at one input. -/
def fnExactBucketSizesWrong : ChangeSpec := { name := "fnExactBucketSizes", fn := fun _ => fun
  | [d1, d2] => { results := [.lit (.bool false)], args := [d1, d2] }
  | _ => none }
def FnExactBucketSizesWrongFalsely : Prop := fnExactBucketSizesRow.holds Try.pinned (OpenSpec.ofChange fnExactBucketSizesWrong)

/-- 'laws.FnRounds': WHATEVER THE INPUT: true; the input reads as it did. -/
def fnRoundsSpec : ChangeSpec := { name := "fnRounds", fn := fun _ => fun
  | [d] => { results := [.lit (.bool true)], args := [d] }
  | _ => none }
def fnRoundsRow : OpenClaim := { program := "ytfjmpplpagmpbaa", sum := "deb3d363f27e84c3f48bab4094c8f893c924d771a518461f7064a5c6e749b349", func := "loop.example/g00907/laws.FnRounds", spec := "fnRounds", unfollowed := true, recurses := true, apart := false }
def FnRoundsSaid : Prop := fnRoundsRow.holds Try.pinned (OpenSpec.ofChange fnRoundsSpec)

/-- ITS FALSE NEIGHBOUR: 'it returns false'. Refute it at one input. -/
def fnRoundsWrong : ChangeSpec := { name := "fnRounds", fn := fun _ => fun
  | [d] => { results := [.lit (.bool false)], args := [d] }
  | _ => none }
def FnRoundsWrongFalsely : Prop := fnRoundsRow.holds Try.pinned (OpenSpec.ofChange fnRoundsWrong)

/-- 'laws.FnExactMergePathSplit': WHATEVER THE INPUT: true; the input reads as it did. -/
def fnExactMergePathSplitSpec : ChangeSpec := { name := "fnExactMergePathSplit", fn := fun _ => fun
  | [d1, d2, d3] => { results := [.lit (.bool true)], args := [d1, d2, d3] }
  | _ => none }
def fnExactMergePathSplitRow : OpenClaim := { program := "ytfjmpplpagmpbaa", sum := "deb3d363f27e84c3f48bab4094c8f893c924d771a518461f7064a5c6e749b349", func := "loop.example/g00907/laws.FnExactMergePathSplit", spec := "fnExactMergePathSplit", unfollowed := true, recurses := true, apart := false }
def FnExactMergePathSplitSaid : Prop := fnExactMergePathSplitRow.holds Try.pinned (OpenSpec.ofChange fnExactMergePathSplitSpec)

/-- ITS FALSE NEIGHBOUR: 'it returns false'. Refute it at one input. -/
def fnExactMergePathSplitWrong : ChangeSpec := { name := "fnExactMergePathSplit", fn := fun _ => fun
  | [d1, d2, d3] => { results := [.lit (.bool false)], args := [d1, d2, d3] }
  | _ => none }
def FnExactMergePathSplitWrongFalsely : Prop := fnExactMergePathSplitRow.holds Try.pinned (OpenSpec.ofChange fnExactMergePathSplitWrong)

/-- 'laws.FnExactPairwiseRounds': WHATEVER THE INPUT: true; the input reads as it did. -/
def fnExactPairwiseRoundsSpec : ChangeSpec := { name := "fnExactPairwiseRounds", fn := fun _ => fun
  | [d] => { results := [.lit (.bool true)], args := [d] }
  | _ => none }
def fnExactPairwiseRoundsRow : OpenClaim := { program := "ytfjmpplpagmpbaa", sum := "deb3d363f27e84c3f48bab4094c8f893c924d771a518461f7064a5c6e749b349", func := "loop.example/g00907/laws.FnExactPairwiseRounds", spec := "fnExactPairwiseRounds", unfollowed := true, recurses := true, apart := false }
def FnExactPairwiseRoundsSaid : Prop := fnExactPairwiseRoundsRow.holds Try.pinned (OpenSpec.ofChange fnExactPairwiseRoundsSpec)

/-- ITS FALSE NEIGHBOUR: 'it returns false'. Refute it at one input. -/
def fnExactPairwiseRoundsWrong : ChangeSpec := { name := "fnExactPairwiseRounds", fn := fun _ => fun
  | [d] => { results := [.lit (.bool false)], args := [d] }
  | _ => none }
def FnExactPairwiseRoundsWrongFalsely : Prop := fnExactPairwiseRoundsRow.holds Try.pinned (OpenSpec.ofChange fnExactPairwiseRoundsWrong)

/-- 'laws.FnExactMergePathParts': WHATEVER THE INPUT: true; the input reads as it did. -/
def fnExactMergePathPartsSpec : ChangeSpec := { name := "fnExactMergePathParts", fn := fun _ => fun
  | [d1, d2, d3] => { results := [.lit (.bool true)], args := [d1, d2, d3] }
  | _ => none }
def fnExactMergePathPartsRow : OpenClaim := { program := "ytfjmpplpagmpbaa", sum := "deb3d363f27e84c3f48bab4094c8f893c924d771a518461f7064a5c6e749b349", func := "loop.example/g00907/laws.FnExactMergePathParts", spec := "fnExactMergePathParts", unfollowed := true, recurses := true, apart := false }
def FnExactMergePathPartsSaid : Prop := fnExactMergePathPartsRow.holds Try.pinned (OpenSpec.ofChange fnExactMergePathPartsSpec)

/-- ITS FALSE NEIGHBOUR: 'it returns false'. Refute it at one input. -/
def fnExactMergePathPartsWrong : ChangeSpec := { name := "fnExactMergePathParts", fn := fun _ => fun
  | [d1, d2, d3] => { results := [.lit (.bool false)], args := [d1, d2, d3] }
  | _ => none }
def FnExactMergePathPartsWrongFalsely : Prop := fnExactMergePathPartsRow.holds Try.pinned (OpenSpec.ofChange fnExactMergePathPartsWrong)

/-- 'laws.FnExactScheduleJobs': WHATEVER THE INPUT: true; the input reads as it did. -/
def fnExactScheduleJobsSpec : ChangeSpec := { name := "fnExactScheduleJobs", fn := fun _ => fun
  | [d1, d2] => { results := [.lit (.bool true)], args := [d1, d2] }
  | _ => none }
def fnExactScheduleJobsRow : OpenClaim := { program := "ytfjmpplpagmpbaa", sum := "deb3d363f27e84c3f48bab4094c8f893c924d771a518461f7064a5c6e749b349", func := "loop.example/g00907/laws.FnExactScheduleJobs", spec := "fnExactScheduleJobs", unfollowed := true, recurses := true, apart := false }
def FnExactScheduleJobsSaid : Prop := fnExactScheduleJobsRow.holds Try.pinned (OpenSpec.ofChange fnExactScheduleJobsSpec)

/-- ITS FALSE NEIGHBOUR: 'it returns false'. Refute it at one input. -/
def fnExactScheduleJobsWrong : ChangeSpec := { name := "fnExactScheduleJobs", fn := fun _ => fun
  | [d1, d2] => { results := [.lit (.bool false)], args := [d1, d2] }
  | _ => none }
def FnExactScheduleJobsWrongFalsely : Prop := fnExactScheduleJobsRow.holds Try.pinned (OpenSpec.ofChange fnExactScheduleJobsWrong)

/-- 'laws.FnJobs': WHATEVER THE INPUT: true; the input reads as it did. -/
def fnJobsSpec : ChangeSpec := { name := "fnJobs", fn := fun _ => fun
  | [d] => { results := [.lit (.bool true)], args := [d] }
  | _ => none }
def fnJobsRow : OpenClaim := { program := "ytfjmpplpagmpbaa", sum := "deb3d363f27e84c3f48bab4094c8f893c924d771a518461f7064a5c6e749b349", func := "loop.example/g00907/laws.FnJobs", spec := "fnJobs", unfollowed := true, recurses := true, apart := false }
def FnJobsSaid : Prop := fnJobsRow.holds Try.pinned (OpenSpec.ofChange fnJobsSpec)

/-- ITS FALSE NEIGHBOUR: 'it returns false'. Refute it at one input. -/
def fnJobsWrong : ChangeSpec := { name := "fnJobs", fn := fun _ => fun
  | [d] => { results := [.lit (.bool false)], args := [d] }
  | _ => none }
def FnJobsWrongFalsely : Prop := fnJobsRow.holds Try.pinned (OpenSpec.ofChange fnJobsWrong)

/-- 'laws.FnExactRegularSample': WHATEVER THE INPUT: true; the input reads as it did. -/
def fnExactRegularSampleSpec : ChangeSpec := { name := "fnExactRegularSample", fn := fun _ => fun
  | [d1, d2] => { results := [.lit (.bool true)], args := [d1, d2] }
  | _ => none }
def fnExactRegularSampleRow : OpenClaim := { program := "ytfjmpplpagmpbaa", sum := "deb3d363f27e84c3f48bab4094c8f893c924d771a518461f7064a5c6e749b349", func := "loop.example/g00907/laws.FnExactRegularSample", spec := "fnExactRegularSample", unfollowed := true, recurses := true, apart := false }
def FnExactRegularSampleSaid : Prop := fnExactRegularSampleRow.holds Try.pinned (OpenSpec.ofChange fnExactRegularSampleSpec)

/-- ITS FALSE NEIGHBOUR: 'it returns false'. Refute it at one input. -/
def fnExactRegularSampleWrong : ChangeSpec := { name := "fnExactRegularSample", fn := fun _ => fun
  | [d1, d2] => { results := [.lit (.bool false)], args := [d1, d2] }
  | _ => none }
def FnExactRegularSampleWrongFalsely : Prop := fnExactRegularSampleRow.holds Try.pinned (OpenSpec.ofChange fnExactRegularSampleWrong)

/-- 'laws.FnExactSampleSort': WHATEVER THE INPUT: true; the input reads as it did. -/
def fnExactSampleSortSpec : ChangeSpec := { name := "fnExactSampleSort", fn := fun _ => fun
  | [d1, d2] => { results := [.lit (.bool true)], args := [d1, d2] }
  | _ => none }
def fnExactSampleSortRow : OpenClaim := { program := "ytfjmpplpagmpbaa", sum := "deb3d363f27e84c3f48bab4094c8f893c924d771a518461f7064a5c6e749b349", func := "loop.example/g00907/laws.FnExactSampleSort", spec := "fnExactSampleSort", unfollowed := true, recurses := true, apart := false }
def FnExactSampleSortSaid : Prop := fnExactSampleSortRow.holds Try.pinned (OpenSpec.ofChange fnExactSampleSortSpec)

/-- ITS FALSE NEIGHBOUR: 'it returns false'. Refute it at one input. -/
def fnExactSampleSortWrong : ChangeSpec := { name := "fnExactSampleSort", fn := fun _ => fun
  | [d1, d2] => { results := [.lit (.bool false)], args := [d1, d2] }
  | _ => none }
def FnExactSampleSortWrongFalsely : Prop := fnExactSampleSortRow.holds Try.pinned (OpenSpec.ofChange fnExactSampleSortWrong)

/-- 'laws.FnExactParallelMerge': WHATEVER THE INPUT: true; the input reads as it did. -/
def fnExactParallelMergeSpec : ChangeSpec := { name := "fnExactParallelMerge", fn := fun _ => fun
  | [d1, d2, d3] => { results := [.lit (.bool true)], args := [d1, d2, d3] }
  | _ => none }
def fnExactParallelMergeRow : OpenClaim := { program := "ytfjmpplpagmpbaa", sum := "deb3d363f27e84c3f48bab4094c8f893c924d771a518461f7064a5c6e749b349", func := "loop.example/g00907/laws.FnExactParallelMerge", spec := "fnExactParallelMerge", unfollowed := true, recurses := true, apart := false }
def FnExactParallelMergeSaid : Prop := fnExactParallelMergeRow.holds Try.pinned (OpenSpec.ofChange fnExactParallelMergeSpec)

/-- ITS FALSE NEIGHBOUR: 'it returns false'. Refute it at one input. -/
def fnExactParallelMergeWrong : ChangeSpec := { name := "fnExactParallelMerge", fn := fun _ => fun
  | [d1, d2, d3] => { results := [.lit (.bool false)], args := [d1, d2, d3] }
  | _ => none }
def FnExactParallelMergeWrongFalsely : Prop := fnExactParallelMergeRow.holds Try.pinned (OpenSpec.ofChange fnExactParallelMergeWrong)

/-- 'laws.FnSampleSort': WHATEVER THE INPUT: true; the input reads as it did. -/
def fnSampleSortSpec : ChangeSpec := { name := "fnSampleSort", fn := fun _ => fun
  | [d] => { results := [.lit (.bool true)], args := [d] }
  | _ => none }
def fnSampleSortRow : OpenClaim := { program := "ytfjmpplpagmpbaa", sum := "deb3d363f27e84c3f48bab4094c8f893c924d771a518461f7064a5c6e749b349", func := "loop.example/g00907/laws.FnSampleSort", spec := "fnSampleSort", unfollowed := true, recurses := true, apart := false }
def FnSampleSortSaid : Prop := fnSampleSortRow.holds Try.pinned (OpenSpec.ofChange fnSampleSortSpec)

/-- ITS FALSE NEIGHBOUR: 'it returns false'. Refute it at one input. -/
def fnSampleSortWrong : ChangeSpec := { name := "fnSampleSort", fn := fun _ => fun
  | [d] => { results := [.lit (.bool false)], args := [d] }
  | _ => none }
def FnSampleSortWrongFalsely : Prop := fnSampleSortRow.holds Try.pinned (OpenSpec.ofChange fnSampleSortWrong)

/-- 'laws.FnMergePath': WHATEVER THE INPUT: true; the input reads as it did. -/
def fnMergePathSpec : ChangeSpec := { name := "fnMergePath", fn := fun _ => fun
  | [d] => { results := [.lit (.bool true)], args := [d] }
  | _ => none }
def fnMergePathRow : OpenClaim := { program := "ytfjmpplpagmpbaa", sum := "deb3d363f27e84c3f48bab4094c8f893c924d771a518461f7064a5c6e749b349", func := "loop.example/g00907/laws.FnMergePath", spec := "fnMergePath", unfollowed := true, recurses := true, apart := false }
def FnMergePathSaid : Prop := fnMergePathRow.holds Try.pinned (OpenSpec.ofChange fnMergePathSpec)

/-- ITS FALSE NEIGHBOUR: 'it returns false'. Refute it at one input. -/
def fnMergePathWrong : ChangeSpec := { name := "fnMergePath", fn := fun _ => fun
  | [d] => { results := [.lit (.bool false)], args := [d] }
  | _ => none }
def FnMergePathWrongFalsely : Prop := fnMergePathRow.holds Try.pinned (OpenSpec.ofChange fnMergePathWrong)

/- THE SECOND FORM. 'bulk': how many values and letters a reading holds, each counted each time it is reached (what is shared counts as often as it is met; a slice's spare places count too). A statement '..UptoSaid' is the law's where the arguments, and the package variables that the reading takes, are together of bulk at most 1048576: NARROWER than '..Said'. Prove '..Said' where nothing that the law and all that it calls make is longer than what came in: it says more and counts as full. Else prove '..UptoSaid'. A law counts once. -/
mutual
def uptoBulk {H : Type} : DataW H → Nat
  | .lit (.string bytes) => bytes.length + 1
  | .lit _ => 1
  | .nil => 1
  | .ptr d => uptoBulk d + 1
  | .slice elems spare => uptoBulkAll elems + uptoBulkAll spare + 1
  | .agg parts => uptoBulkAll parts + 1
  | .iface _ d => uptoBulk d + 1
  | .map entries => uptoBulkEntries entries + 1
  | .held _ => 1
def uptoBulkAll {H : Type} : List (DataW H) → Nat
  | [] => 0
  | d :: r => uptoBulk d + uptoBulkAll r
def uptoBulkEntries {H : Type} : List (Lit × DataW H) → Nat
  | [] => 0
  | x :: r => uptoBulkEntry x + uptoBulkEntries r
def uptoBulkEntry {H : Type} : Lit × DataW H → Nat
  | (.string bytes, d) => bytes.length + uptoBulk d + 1
  | (_, d) => uptoBulk d + 1
 end
def uptoSmall : (H : Type) → List (DataW H) → Bool := fun _ ds => decide (uptoBulkAll ds ≤ 1048576)
def OpenSpec.upto (s : _root_.Go.ChangeSpec) : _root_.Go.OpenSpec := { _root_.Go.OpenSpec.ofChange s with cond := some uptoSmall }

/-- 'laws.FnExactBucketSizes', WHERE WHAT IT READS IS OF BULK AT MOST 1048576: true; the input reads as it did. -/
def fnExactBucketSizesUptoRow : OpenClaim := { program := "ytfjmpplpagmpbaa", sum := "deb3d363f27e84c3f48bab4094c8f893c924d771a518461f7064a5c6e749b349", func := "loop.example/g00907/laws.FnExactBucketSizes", spec := "fnExactBucketSizes", unfollowed := true, recurses := true, apart := false, narrowed := true }
def FnExactBucketSizesUptoSaid : Prop := fnExactBucketSizesUptoRow.holds Try.pinned (OpenSpec.upto fnExactBucketSizesSpec)

/-- 'laws.FnRounds', WHERE WHAT IT READS IS OF BULK AT MOST 1048576: true; the input reads as it did. -/
def fnRoundsUptoRow : OpenClaim := { program := "ytfjmpplpagmpbaa", sum := "deb3d363f27e84c3f48bab4094c8f893c924d771a518461f7064a5c6e749b349", func := "loop.example/g00907/laws.FnRounds", spec := "fnRounds", unfollowed := true, recurses := true, apart := false, narrowed := true }
def FnRoundsUptoSaid : Prop := fnRoundsUptoRow.holds Try.pinned (OpenSpec.upto fnRoundsSpec)

/-- 'laws.FnExactMergePathSplit', WHERE WHAT IT READS IS OF BULK AT MOST 1048576: true; the input reads as it did. -/
def fnExactMergePathSplitUptoRow : OpenClaim := { program := "ytfjmpplpagmpbaa", sum := "deb3d363f27e84c3f48bab4094c8f893c924d771a518461f7064a5c6e749b349", func := "loop.example/g00907/laws.FnExactMergePathSplit", spec := "fnExactMergePathSplit", unfollowed := true, recurses := true, apart := false, narrowed := true }
def FnExactMergePathSplitUptoSaid : Prop := fnExactMergePathSplitUptoRow.holds Try.pinned (OpenSpec.upto fnExactMergePathSplitSpec)

/-- 'laws.FnExactPairwiseRounds', WHERE WHAT IT READS IS OF BULK AT MOST 1048576: true; the input reads as it did. -/
def fnExactPairwiseRoundsUptoRow : OpenClaim := { program := "ytfjmpplpagmpbaa", sum := "deb3d363f27e84c3f48bab4094c8f893c924d771a518461f7064a5c6e749b349", func := "loop.example/g00907/laws.FnExactPairwiseRounds", spec := "fnExactPairwiseRounds", unfollowed := true, recurses := true, apart := false, narrowed := true }
def FnExactPairwiseRoundsUptoSaid : Prop := fnExactPairwiseRoundsUptoRow.holds Try.pinned (OpenSpec.upto fnExactPairwiseRoundsSpec)

/-- 'laws.FnExactMergePathParts', WHERE WHAT IT READS IS OF BULK AT MOST 1048576: true; the input reads as it did. -/
def fnExactMergePathPartsUptoRow : OpenClaim := { program := "ytfjmpplpagmpbaa", sum := "deb3d363f27e84c3f48bab4094c8f893c924d771a518461f7064a5c6e749b349", func := "loop.example/g00907/laws.FnExactMergePathParts", spec := "fnExactMergePathParts", unfollowed := true, recurses := true, apart := false, narrowed := true }
def FnExactMergePathPartsUptoSaid : Prop := fnExactMergePathPartsUptoRow.holds Try.pinned (OpenSpec.upto fnExactMergePathPartsSpec)

/-- 'laws.FnExactScheduleJobs', WHERE WHAT IT READS IS OF BULK AT MOST 1048576: true; the input reads as it did. -/
def fnExactScheduleJobsUptoRow : OpenClaim := { program := "ytfjmpplpagmpbaa", sum := "deb3d363f27e84c3f48bab4094c8f893c924d771a518461f7064a5c6e749b349", func := "loop.example/g00907/laws.FnExactScheduleJobs", spec := "fnExactScheduleJobs", unfollowed := true, recurses := true, apart := false, narrowed := true }
def FnExactScheduleJobsUptoSaid : Prop := fnExactScheduleJobsUptoRow.holds Try.pinned (OpenSpec.upto fnExactScheduleJobsSpec)

/-- 'laws.FnJobs', WHERE WHAT IT READS IS OF BULK AT MOST 1048576: true; the input reads as it did. -/
def fnJobsUptoRow : OpenClaim := { program := "ytfjmpplpagmpbaa", sum := "deb3d363f27e84c3f48bab4094c8f893c924d771a518461f7064a5c6e749b349", func := "loop.example/g00907/laws.FnJobs", spec := "fnJobs", unfollowed := true, recurses := true, apart := false, narrowed := true }
def FnJobsUptoSaid : Prop := fnJobsUptoRow.holds Try.pinned (OpenSpec.upto fnJobsSpec)

/-- 'laws.FnExactRegularSample', WHERE WHAT IT READS IS OF BULK AT MOST 1048576: true; the input reads as it did. -/
def fnExactRegularSampleUptoRow : OpenClaim := { program := "ytfjmpplpagmpbaa", sum := "deb3d363f27e84c3f48bab4094c8f893c924d771a518461f7064a5c6e749b349", func := "loop.example/g00907/laws.FnExactRegularSample", spec := "fnExactRegularSample", unfollowed := true, recurses := true, apart := false, narrowed := true }
def FnExactRegularSampleUptoSaid : Prop := fnExactRegularSampleUptoRow.holds Try.pinned (OpenSpec.upto fnExactRegularSampleSpec)

/-- 'laws.FnExactSampleSort', WHERE WHAT IT READS IS OF BULK AT MOST 1048576: true; the input reads as it did. -/
def fnExactSampleSortUptoRow : OpenClaim := { program := "ytfjmpplpagmpbaa", sum := "deb3d363f27e84c3f48bab4094c8f893c924d771a518461f7064a5c6e749b349", func := "loop.example/g00907/laws.FnExactSampleSort", spec := "fnExactSampleSort", unfollowed := true, recurses := true, apart := false, narrowed := true }
def FnExactSampleSortUptoSaid : Prop := fnExactSampleSortUptoRow.holds Try.pinned (OpenSpec.upto fnExactSampleSortSpec)

/-- 'laws.FnExactParallelMerge', WHERE WHAT IT READS IS OF BULK AT MOST 1048576: true; the input reads as it did. -/
def fnExactParallelMergeUptoRow : OpenClaim := { program := "ytfjmpplpagmpbaa", sum := "deb3d363f27e84c3f48bab4094c8f893c924d771a518461f7064a5c6e749b349", func := "loop.example/g00907/laws.FnExactParallelMerge", spec := "fnExactParallelMerge", unfollowed := true, recurses := true, apart := false, narrowed := true }
def FnExactParallelMergeUptoSaid : Prop := fnExactParallelMergeUptoRow.holds Try.pinned (OpenSpec.upto fnExactParallelMergeSpec)

/-- 'laws.FnSampleSort', WHERE WHAT IT READS IS OF BULK AT MOST 1048576: true; the input reads as it did. -/
def fnSampleSortUptoRow : OpenClaim := { program := "ytfjmpplpagmpbaa", sum := "deb3d363f27e84c3f48bab4094c8f893c924d771a518461f7064a5c6e749b349", func := "loop.example/g00907/laws.FnSampleSort", spec := "fnSampleSort", unfollowed := true, recurses := true, apart := false, narrowed := true }
def FnSampleSortUptoSaid : Prop := fnSampleSortUptoRow.holds Try.pinned (OpenSpec.upto fnSampleSortSpec)

/-- 'laws.FnMergePath', WHERE WHAT IT READS IS OF BULK AT MOST 1048576: true; the input reads as it did. -/
def fnMergePathUptoRow : OpenClaim := { program := "ytfjmpplpagmpbaa", sum := "deb3d363f27e84c3f48bab4094c8f893c924d771a518461f7064a5c6e749b349", func := "loop.example/g00907/laws.FnMergePath", spec := "fnMergePath", unfollowed := true, recurses := true, apart := false, narrowed := true }
def FnMergePathUptoSaid : Prop := fnMergePathUptoRow.holds Try.pinned (OpenSpec.upto fnMergePathSpec)

end Rows
end Go.Proofs.Ytfjmpplpagmpbaa
