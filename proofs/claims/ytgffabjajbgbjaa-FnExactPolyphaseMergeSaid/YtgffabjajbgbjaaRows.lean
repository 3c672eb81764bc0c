/-
  No cell of these rows narrows 'for every input' (looked for: loops, veiled, ifaces, maps, wideKeys, modest, calm, conditions, laid).
  DERIVED. THE GIVEN ROWS OF THIS SEAT. 11 by the template 'for every input the law returns true; each argument reads behind the call as it read before'; 0 by the template 'total and deterministic' (their statements: YtgffabjajbgbjaaTotals.lean).
  GIVEN WITH THE SEED: the statements are not yours to turn. If you find one false, say at which input.
  Laid BY PROGRAM, IN A SANDBOX (cutbox-rows.mjs): the forced cells as the released guide's own fill.sh prints them over the translation db6df87524bb95b6… (all of the seat's roots in one cut). By AI agents, Wed Nov 11 2026. No macro, syntax, notation, axiom, sorry.
-/
import Derived.Test.YtgffabjajbgbjaaChecked
import GoSem.Claim
import GoSem.ClaimJoined
import GoSem.ClaimMapViews
import Derived.JoinedTies
import Derived.KernelRfl
namespace Go.Proofs.Ytgffabjajbgbjaa
/- THE CELL 'sum', in the pinned program and in every row, IS THE sha256 OF THE DUMP (.gsa) THAT YtgffabjajbgbjaaProg.lean LOADS. Nothing in Lean hashes anything: it is a label: what it is worth is what the hold of that sum in a sandbox is worth. -/
noncomputable def Try.pinned : Pinned := { name := "ytgffabjajbgbjaa", sum := "db6df87524bb95b6ff6092f2b68feb095d48396e16f892618334bc94d49df4bb", checked := Try.checked }
namespace Rows
def none {H : Type} : Left H := { results := [], args := [] }

/-- 'laws.FnExactPolyphaseDistribution': WHATEVER THE INPUT: true; the input reads as it did. -/
def fnExactPolyphaseDistributionSpec : ChangeSpec := { name := "fnExactPolyphaseDistribution", fn := fun _ => fun
  | [d1, d2] => { results := [.lit (.bool true)], args := [d1, d2] }
  | _ => none }
def fnExactPolyphaseDistributionRow : OpenClaim := { program := "ytgffabjajbgbjaa", sum := "db6df87524bb95b6ff6092f2b68feb095d48396e16f892618334bc94d49df4bb", func := "loop.example/g00907/laws.FnExactPolyphaseDistribution", spec := "fnExactPolyphaseDistribution", apart := false }
def FnExactPolyphaseDistributionSaid : Prop := fnExactPolyphaseDistributionRow.holds Try.pinned (OpenSpec.ofChange fnExactPolyphaseDistributionSpec)

/-- ITS FALSE NEIGHBOUR: 'it returns false'. Refute it at one input. -/
def fnExactPolyphaseDistributionWrong : ChangeSpec := { name := "fnExactPolyphaseDistribution", fn := fun _ => fun
  | [d1, d2] => { results := [.lit (.bool false)], args := [d1, d2] }
  | _ => none }
def FnExactPolyphaseDistributionWrongFalsely : Prop := fnExactPolyphaseDistributionRow.holds Try.pinned (OpenSpec.ofChange fnExactPolyphaseDistributionWrong)

/-- 'laws.FnExactPolyphaseLevel': WHATEVER THE INPUT: true; the input reads as it did. -/
def fnExactPolyphaseLevelSpec : ChangeSpec := { name := "fnExactPolyphaseLevel", fn := fun _ => fun
  | [d1, d2] => { results := [.lit (.bool true)], args := [d1, d2] }
  | _ => none }
def fnExactPolyphaseLevelRow : OpenClaim := { program := "ytgffabjajbgbjaa", sum := "db6df87524bb95b6ff6092f2b68feb095d48396e16f892618334bc94d49df4bb", func := "loop.example/g00907/laws.FnExactPolyphaseLevel", spec := "fnExactPolyphaseLevel", apart := false }
def FnExactPolyphaseLevelSaid : Prop := fnExactPolyphaseLevelRow.holds Try.pinned (OpenSpec.ofChange fnExactPolyphaseLevelSpec)

/-- ITS FALSE NEIGHBOUR: 'it returns false'. Refute it at one input. -/
def fnExactPolyphaseLevelWrong : ChangeSpec := { name := "fnExactPolyphaseLevel", fn := fun _ => fun
  | [d1, d2] => { results := [.lit (.bool false)], args := [d1, d2] }
  | _ => none }
def FnExactPolyphaseLevelWrongFalsely : Prop := fnExactPolyphaseLevelRow.holds Try.pinned (OpenSpec.ofChange fnExactPolyphaseLevelWrong)

/-- 'laws.FnDummies': WHATEVER THE INPUT: true; the input reads as it did. -/
def fnDummiesSpec : ChangeSpec := { name := "fnDummies", fn := fun _ => fun
  | [d] => { results := [.lit (.bool true)], args := [d] }
  | _ => none }
def fnDummiesRow : OpenClaim := { program := "ytgffabjajbgbjaa", sum := "db6df87524bb95b6ff6092f2b68feb095d48396e16f892618334bc94d49df4bb", func := "loop.example/g00907/laws.FnDummies", spec := "fnDummies", apart := false }
def FnDummiesSaid : Prop := fnDummiesRow.holds Try.pinned (OpenSpec.ofChange fnDummiesSpec)

/-- ITS FALSE NEIGHBOUR: 'it returns false'. Refute it at one input. -/
def fnDummiesWrong : ChangeSpec := { name := "fnDummies", fn := fun _ => fun
  | [d] => { results := [.lit (.bool false)], args := [d] }
  | _ => none }
def FnDummiesWrongFalsely : Prop := fnDummiesRow.holds Try.pinned (OpenSpec.ofChange fnDummiesWrong)

/-- 'laws.FnExactDummyRuns': WHATEVER THE INPUT: true; the input reads as it did. -/
def fnExactDummyRunsSpec : ChangeSpec := { name := "fnExactDummyRuns", fn := fun _ => fun
  | [d1, d2] => { results := [.lit (.bool true)], args := [d1, d2] }
  | _ => none }
def fnExactDummyRunsRow : OpenClaim := { program := "ytgffabjajbgbjaa", sum := "db6df87524bb95b6ff6092f2b68feb095d48396e16f892618334bc94d49df4bb", func := "loop.example/g00907/laws.FnExactDummyRuns", spec := "fnExactDummyRuns", apart := false }
def FnExactDummyRunsSaid : Prop := fnExactDummyRunsRow.holds Try.pinned (OpenSpec.ofChange fnExactDummyRunsSpec)

/-- ITS FALSE NEIGHBOUR: 'it returns false'. Refute it at one input. -/
def fnExactDummyRunsWrong : ChangeSpec := { name := "fnExactDummyRuns", fn := fun _ => fun
  | [d1, d2] => { results := [.lit (.bool false)], args := [d1, d2] }
  | _ => none }
def FnExactDummyRunsWrongFalsely : Prop := fnExactDummyRunsRow.holds Try.pinned (OpenSpec.ofChange fnExactDummyRunsWrong)

/-- 'laws.FnPerfect': WHATEVER THE INPUT: true; the input reads as it did. -/
def fnPerfectSpec : ChangeSpec := { name := "fnPerfect", fn := fun _ => fun
  | [d] => { results := [.lit (.bool true)], args := [d] }
  | _ => none }
def fnPerfectRow : OpenClaim := { program := "ytgffabjajbgbjaa", sum := "db6df87524bb95b6ff6092f2b68feb095d48396e16f892618334bc94d49df4bb", func := "loop.example/g00907/laws.FnPerfect", spec := "fnPerfect", unfollowed := true, recurses := true, apart := false }
def FnPerfectSaid : Prop := fnPerfectRow.holds Try.pinned (OpenSpec.ofChange fnPerfectSpec)

/-- ITS FALSE NEIGHBOUR: 'it returns false'. Refute it at one input. -/
def fnPerfectWrong : ChangeSpec := { name := "fnPerfect", fn := fun _ => fun
  | [d] => { results := [.lit (.bool false)], args := [d] }
  | _ => none }
def FnPerfectWrongFalsely : Prop := fnPerfectRow.holds Try.pinned (OpenSpec.ofChange fnPerfectWrong)

/-- 'laws.FnExactIsPerfectState': WHATEVER THE INPUT: true; the input reads as it did. -/
def fnExactIsPerfectStateSpec : ChangeSpec := { name := "fnExactIsPerfectState", fn := fun _ => fun
  | [d] => { results := [.lit (.bool true)], args := [d] }
  | _ => none }
def fnExactIsPerfectStateRow : OpenClaim := { program := "ytgffabjajbgbjaa", sum := "db6df87524bb95b6ff6092f2b68feb095d48396e16f892618334bc94d49df4bb", func := "loop.example/g00907/laws.FnExactIsPerfectState", spec := "fnExactIsPerfectState", unfollowed := true, recurses := true, apart := false }
def FnExactIsPerfectStateSaid : Prop := fnExactIsPerfectStateRow.holds Try.pinned (OpenSpec.ofChange fnExactIsPerfectStateSpec)

/-- ITS FALSE NEIGHBOUR: 'it returns false'. Refute it at one input. -/
def fnExactIsPerfectStateWrong : ChangeSpec := { name := "fnExactIsPerfectState", fn := fun _ => fun
  | [d] => { results := [.lit (.bool false)], args := [d] }
  | _ => none }
def FnExactIsPerfectStateWrongFalsely : Prop := fnExactIsPerfectStateRow.holds Try.pinned (OpenSpec.ofChange fnExactIsPerfectStateWrong)

/-- 'laws.FnBalanced': WHATEVER THE INPUT: true; the input reads as it did. -/
def fnBalancedSpec : ChangeSpec := { name := "fnBalanced", fn := fun _ => fun
  | [d] => { results := [.lit (.bool true)], args := [d] }
  | _ => none }
def fnBalancedRow : OpenClaim := { program := "ytgffabjajbgbjaa", sum := "db6df87524bb95b6ff6092f2b68feb095d48396e16f892618334bc94d49df4bb", func := "loop.example/g00907/laws.FnBalanced", spec := "fnBalanced", unfollowed := true, recurses := true, apart := false }
def FnBalancedSaid : Prop := fnBalancedRow.holds Try.pinned (OpenSpec.ofChange fnBalancedSpec)

/-- ITS FALSE NEIGHBOUR: 'it returns false'. Refute it at one input. -/
def fnBalancedWrong : ChangeSpec := { name := "fnBalanced", fn := fun _ => fun
  | [d] => { results := [.lit (.bool false)], args := [d] }
  | _ => none }
def FnBalancedWrongFalsely : Prop := fnBalancedRow.holds Try.pinned (OpenSpec.ofChange fnBalancedWrong)

/-- 'laws.FnExactPolyphasePhases': WHATEVER THE INPUT: true; the input reads as it did. -/
def fnExactPolyphasePhasesSpec : ChangeSpec := { name := "fnExactPolyphasePhases", fn := fun _ => fun
  | [d1, d2] => { results := [.lit (.bool true)], args := [d1, d2] }
  | _ => none }
def fnExactPolyphasePhasesRow : OpenClaim := { program := "ytgffabjajbgbjaa", sum := "db6df87524bb95b6ff6092f2b68feb095d48396e16f892618334bc94d49df4bb", func := "loop.example/g00907/laws.FnExactPolyphasePhases", spec := "fnExactPolyphasePhases", apart := false }
def FnExactPolyphasePhasesSaid : Prop := fnExactPolyphasePhasesRow.holds Try.pinned (OpenSpec.ofChange fnExactPolyphasePhasesSpec)

/-- ITS FALSE NEIGHBOUR: 'it returns false'. Refute it at one input. -/
def fnExactPolyphasePhasesWrong : ChangeSpec := { name := "fnExactPolyphasePhases", fn := fun _ => fun
  | [d1, d2] => { results := [.lit (.bool false)], args := [d1, d2] }
  | _ => none }
def FnExactPolyphasePhasesWrongFalsely : Prop := fnExactPolyphasePhasesRow.holds Try.pinned (OpenSpec.ofChange fnExactPolyphasePhasesWrong)

/-- 'laws.FnExactPolyphaseVolume': WHATEVER THE INPUT: true; the input reads as it did. -/
def fnExactPolyphaseVolumeSpec : ChangeSpec := { name := "fnExactPolyphaseVolume", fn := fun _ => fun
  | [d1, d2] => { results := [.lit (.bool true)], args := [d1, d2] }
  | _ => none }
def fnExactPolyphaseVolumeRow : OpenClaim := { program := "ytgffabjajbgbjaa", sum := "db6df87524bb95b6ff6092f2b68feb095d48396e16f892618334bc94d49df4bb", func := "loop.example/g00907/laws.FnExactPolyphaseVolume", spec := "fnExactPolyphaseVolume", unfollowed := true, recurses := true, apart := false }
def FnExactPolyphaseVolumeSaid : Prop := fnExactPolyphaseVolumeRow.holds Try.pinned (OpenSpec.ofChange fnExactPolyphaseVolumeSpec)

/-- ITS FALSE NEIGHBOUR: 'it returns false'. Refute it at one input. -/
def fnExactPolyphaseVolumeWrong : ChangeSpec := { name := "fnExactPolyphaseVolume", fn := fun _ => fun
  | [d1, d2] => { results := [.lit (.bool false)], args := [d1, d2] }
  | _ => none }
def FnExactPolyphaseVolumeWrongFalsely : Prop := fnExactPolyphaseVolumeRow.holds Try.pinned (OpenSpec.ofChange fnExactPolyphaseVolumeWrong)

/-- 'laws.FnExactMergePass': WHATEVER THE INPUT: true; the input reads as it did. -/
def fnExactMergePassSpec : ChangeSpec := { name := "fnExactMergePass", fn := fun _ => fun
  | [d1, d2] => { results := [.lit (.bool true)], args := [d1, d2] }
  | _ => none }
def fnExactMergePassRow : OpenClaim := { program := "ytgffabjajbgbjaa", sum := "db6df87524bb95b6ff6092f2b68feb095d48396e16f892618334bc94d49df4bb", func := "loop.example/g00907/laws.FnExactMergePass", spec := "fnExactMergePass", unfollowed := true, recurses := true, apart := false }
def FnExactMergePassSaid : Prop := fnExactMergePassRow.holds Try.pinned (OpenSpec.ofChange fnExactMergePassSpec)

/-- ITS FALSE NEIGHBOUR: 'it returns false'. Refute it at one input. -/
def fnExactMergePassWrong : ChangeSpec := { name := "fnExactMergePass", fn := fun _ => fun
  | [d1, d2] => { results := [.lit (.bool false)], args := [d1, d2] }
  | _ => none }
def FnExactMergePassWrongFalsely : Prop := fnExactMergePassRow.holds Try.pinned (OpenSpec.ofChange fnExactMergePassWrong)

/-- 'laws.FnExactPolyphaseMerge': WHATEVER THE INPUT: true; the input reads as it did. -/
def fnExactPolyphaseMergeSpec : ChangeSpec := { name := "fnExactPolyphaseMerge", fn := fun _ => fun
  | [d1, d2] => { results := [.lit (.bool true)], args := [d1, d2] }
  | _ => none }
def fnExactPolyphaseMergeRow : OpenClaim := { program := "ytgffabjajbgbjaa", sum := "db6df87524bb95b6ff6092f2b68feb095d48396e16f892618334bc94d49df4bb", func := "loop.example/g00907/laws.FnExactPolyphaseMerge", spec := "fnExactPolyphaseMerge", unfollowed := true, recurses := true, apart := false }
def FnExactPolyphaseMergeSaid : Prop := fnExactPolyphaseMergeRow.holds Try.pinned (OpenSpec.ofChange fnExactPolyphaseMergeSpec)

/-- ITS FALSE NEIGHBOUR: 'it returns false'. Refute it at one input. -/
def fnExactPolyphaseMergeWrong : ChangeSpec := { name := "fnExactPolyphaseMerge", fn := fun _ => fun
  | [d1, d2] => { results := [.lit (.bool false)], args := [d1, d2] }
  | _ => none }
def FnExactPolyphaseMergeWrongFalsely : Prop := fnExactPolyphaseMergeRow.holds Try.pinned (OpenSpec.ofChange fnExactPolyphaseMergeWrong)

/- THE SECOND FORM. 'bulk': how many values and letters a reading holds, each counted each time it is reached (what is shared counts as often as it is met; a slice's spare places count too). A statement '..UptoSaid' is the law's where the arguments, and the package variables that the reading takes, are together of bulk at most 1048576: NARROWER than '..Said'. Prove '..Said' where nothing that the law and all that it calls make is longer than what came in: it says more and counts as full. Else prove '..UptoSaid'. A law counts once. -/
mutual
def uptoBulk {H : Type} : DataW H → Nat
  | .lit (.string bytes) => bytes.length + 1
  | .lit _ => 1
  | .nil => 1
  | .ptr d => uptoBulk d + 1
  | .slice elems spare => uptoBulkAll elems + uptoBulkAll spare + 1
  | .agg parts => uptoBulkAll parts + 1
  | .iface _ d => uptoBulk d + 1
  | .map entries => uptoBulkEntries entries + 1
  | .held _ => 1
def uptoBulkAll {H : Type} : List (DataW H) → Nat
  | [] => 0
  | d :: r => uptoBulk d + uptoBulkAll r
def uptoBulkEntries {H : Type} : List (Lit × DataW H) → Nat
  | [] => 0
  | x :: r => uptoBulkEntry x + uptoBulkEntries r
def uptoBulkEntry {H : Type} : Lit × DataW H → Nat
  | (.string bytes, d) => bytes.length + uptoBulk d + 1
  | (_, d) => uptoBulk d + 1
 end
def uptoSmall : (H : Type) → List (DataW H) → Bool := fun _ ds => decide (uptoBulkAll ds ≤ 1048576)
def OpenSpec.upto (s : _root_.Go.ChangeSpec) : _root_.Go.OpenSpec := { _root_.Go.OpenSpec.ofChange s with cond := some uptoSmall }

/-- 'laws.FnExactPolyphaseDistribution', WHERE WHAT IT READS IS OF BULK AT MOST 1048576: true; the input reads as it did. -/
def fnExactPolyphaseDistributionUptoRow : OpenClaim := { program := "ytgffabjajbgbjaa", sum := "db6df87524bb95b6ff6092f2b68feb095d48396e16f892618334bc94d49df4bb", func := "loop.example/g00907/laws.FnExactPolyphaseDistribution", spec := "fnExactPolyphaseDistribution", apart := false, narrowed := true }
def FnExactPolyphaseDistributionUptoSaid : Prop := fnExactPolyphaseDistributionUptoRow.holds Try.pinned (OpenSpec.upto fnExactPolyphaseDistributionSpec)

/-- 'laws.FnExactPolyphaseLevel', WHERE WHAT IT READS IS OF BULK AT MOST 1048576: true; the input reads as it did. -/
def fnExactPolyphaseLevelUptoRow : OpenClaim := { program := "ytgffabjajbgbjaa", sum := "db6df87524bb95b6ff6092f2b68feb095d48396e16f892618334bc94d49df4bb", func := "loop.example/g00907/laws.FnExactPolyphaseLevel", spec := "fnExactPolyphaseLevel", apart := false, narrowed := true }
def FnExactPolyphaseLevelUptoSaid : Prop := fnExactPolyphaseLevelUptoRow.holds Try.pinned (OpenSpec.upto fnExactPolyphaseLevelSpec)

/-- 'laws.FnDummies', WHERE WHAT IT READS IS OF BULK AT MOST 1048576: true; the input reads as it did. -/
def fnDummiesUptoRow : OpenClaim := { program := "ytgffabjajbgbjaa", sum := "db6df87524bb95b6ff6092f2b68feb095d48396e16f892618334bc94d49df4bb", func := "loop.example/g00907/laws.FnDummies", spec := "fnDummies", apart := false, narrowed := true }
def FnDummiesUptoSaid : Prop := fnDummiesUptoRow.holds Try.pinned (OpenSpec.upto fnDummiesSpec)

/-- 'laws.FnExactDummyRuns', WHERE WHAT IT READS IS OF BULK AT MOST 1048576: true; the input reads as it did. -/
def fnExactDummyRunsUptoRow : OpenClaim := { program := "ytgffabjajbgbjaa", sum := "db6df87524bb95b6ff6092f2b68feb095d48396e16f892618334bc94d49df4bb", func := "loop.example/g00907/laws.FnExactDummyRuns", spec := "fnExactDummyRuns", apart := false, narrowed := true }
def FnExactDummyRunsUptoSaid : Prop := fnExactDummyRunsUptoRow.holds Try.pinned (OpenSpec.upto fnExactDummyRunsSpec)

/-- 'laws.FnPerfect', WHERE WHAT IT READS IS OF BULK AT MOST 1048576: true; the input reads as it did. -/
def fnPerfectUptoRow : OpenClaim := { program := "ytgffabjajbgbjaa", sum := "db6df87524bb95b6ff6092f2b68feb095d48396e16f892618334bc94d49df4bb", func := "loop.example/g00907/laws.FnPerfect", spec := "fnPerfect", unfollowed := true, recurses := true, apart := false, narrowed := true }
def FnPerfectUptoSaid : Prop := fnPerfectUptoRow.holds Try.pinned (OpenSpec.upto fnPerfectSpec)

/-- 'laws.FnExactIsPerfectState', WHERE WHAT IT READS IS OF BULK AT MOST 1048576: true; the input reads as it did. -/
def fnExactIsPerfectStateUptoRow : OpenClaim := { program := "ytgffabjajbgbjaa", sum := "db6df87524bb95b6ff6092f2b68feb095d48396e16f892618334bc94d49df4bb", func := "loop.example/g00907/laws.FnExactIsPerfectState", spec := "fnExactIsPerfectState", unfollowed := true, recurses := true, apart := false, narrowed := true }
def FnExactIsPerfectStateUptoSaid : Prop := fnExactIsPerfectStateUptoRow.holds Try.pinned (OpenSpec.upto fnExactIsPerfectStateSpec)

/-- 'laws.FnBalanced', WHERE WHAT IT READS IS OF BULK AT MOST 1048576: true; the input reads as it did. -/
def fnBalancedUptoRow : OpenClaim := { program := "ytgffabjajbgbjaa", sum := "db6df87524bb95b6ff6092f2b68feb095d48396e16f892618334bc94d49df4bb", func := "loop.example/g00907/laws.FnBalanced", spec := "fnBalanced", unfollowed := true, recurses := true, apart := false, narrowed := true }
def FnBalancedUptoSaid : Prop := fnBalancedUptoRow.holds Try.pinned (OpenSpec.upto fnBalancedSpec)

/-- 'laws.FnExactPolyphasePhases', WHERE WHAT IT READS IS OF BULK AT MOST 1048576: true; the input reads as it did. -/
def fnExactPolyphasePhasesUptoRow : OpenClaim := { program := "ytgffabjajbgbjaa", sum := "db6df87524bb95b6ff6092f2b68feb095d48396e16f892618334bc94d49df4bb", func := "loop.example/g00907/laws.FnExactPolyphasePhases", spec := "fnExactPolyphasePhases", apart := false, narrowed := true }
def FnExactPolyphasePhasesUptoSaid : Prop := fnExactPolyphasePhasesUptoRow.holds Try.pinned (OpenSpec.upto fnExactPolyphasePhasesSpec)

/-- 'laws.FnExactPolyphaseVolume', WHERE WHAT IT READS IS OF BULK AT MOST 1048576: true; the input reads as it did. -/
def fnExactPolyphaseVolumeUptoRow : OpenClaim := { program := "ytgffabjajbgbjaa", sum := "db6df87524bb95b6ff6092f2b68feb095d48396e16f892618334bc94d49df4bb", func := "loop.example/g00907/laws.FnExactPolyphaseVolume", spec := "fnExactPolyphaseVolume", unfollowed := true, recurses := true, apart := false, narrowed := true }
def FnExactPolyphaseVolumeUptoSaid : Prop := fnExactPolyphaseVolumeUptoRow.holds Try.pinned (OpenSpec.upto fnExactPolyphaseVolumeSpec)

/-- 'laws.FnExactMergePass', WHERE WHAT IT READS IS OF BULK AT MOST 1048576: true; the input reads as it did. -/
def fnExactMergePassUptoRow : OpenClaim := { program := "ytgffabjajbgbjaa", sum := "db6df87524bb95b6ff6092f2b68feb095d48396e16f892618334bc94d49df4bb", func := "loop.example/g00907/laws.FnExactMergePass", spec := "fnExactMergePass", unfollowed := true, recurses := true, apart := false, narrowed := true }
def FnExactMergePassUptoSaid : Prop := fnExactMergePassUptoRow.holds Try.pinned (OpenSpec.upto fnExactMergePassSpec)

/-- 'laws.FnExactPolyphaseMerge', WHERE WHAT IT READS IS OF BULK AT MOST 1048576: true; the input reads as it did. -/
def fnExactPolyphaseMergeUptoRow : OpenClaim := { program := "ytgffabjajbgbjaa", sum := "db6df87524bb95b6ff6092f2b68feb095d48396e16f892618334bc94d49df4bb", func := "loop.example/g00907/laws.FnExactPolyphaseMerge", spec := "fnExactPolyphaseMerge", unfollowed := true, recurses := true, apart := false, narrowed := true }
def FnExactPolyphaseMergeUptoSaid : Prop := fnExactPolyphaseMergeUptoRow.holds Try.pinned (OpenSpec.upto fnExactPolyphaseMergeSpec)

end Rows
end Go.Proofs.Ytgffabjajbgbjaa
