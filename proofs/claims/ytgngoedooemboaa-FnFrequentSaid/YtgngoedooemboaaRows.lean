/-
  No cell of these rows narrows 'for every input' (looked for: loops, veiled, ifaces, maps, wideKeys, modest, calm, conditions, laid).
  DERIVED. THE GIVEN ROWS OF THIS SEAT. 11 by the template 'for every input the law returns true; each argument reads behind the call as it read before'; 0 by the template 'total and deterministic' (their statements: YtgngoedooemboaaTotals.lean).
  GIVEN WITH THE SEED: the statements are not yours to turn. If you find one false, say at which input.
  Laid BY PROGRAM, IN A SANDBOX (cutbox-rows.mjs): the forced cells as the released guide's own fill.sh prints them over the translation c8fb9af173614a7d… (all of the seat's roots in one cut). By AI agents, Wed Nov 11 2026. No macro, syntax, notation, axiom, sorry.
-/
import Derived.Test.YtgngoedooemboaaChecked
import GoSem.Claim
import GoSem.ClaimJoined
import GoSem.ClaimMapViews
import Derived.JoinedTies
import Derived.KernelRfl
namespace Go.Proofs.Ytgngoedooemboaa
/- THE CELL 'sum', in the pinned program and in every row, IS THE sha256 OF THE DUMP (.gsa) THAT YtgngoedooemboaaProg.lean LOADS. Nothing in Lean hashes anything: it is a label: what it is worth is what the hold of that sum in a sandbox is worth. -/
noncomputable def Try.pinned : Pinned := { name := "ytgngoedooemboaa", sum := "c8fb9af173614a7d1a8ac1e7d02d335e28897b04a88290e8182ac8bdbf3ba0a7", checked := Try.checked }
namespace Rows
def none {H : Type} : Left H := { results := [], args := [] }

/-- 'laws.FnExactIsValidGroups': WHATEVER THE INPUT: true; the input reads as it did. -/
def fnExactIsValidGroupsSpec : ChangeSpec := { name := "fnExactIsValidGroups", fn := fun _ => fun
  | [d] => { results := [.lit (.bool true)], args := [d] }
  | _ => none }
def fnExactIsValidGroupsRow : OpenClaim := { program := "ytgngoedooemboaa", sum := "c8fb9af173614a7d1a8ac1e7d02d335e28897b04a88290e8182ac8bdbf3ba0a7", func := "loop.example/g00907/laws.FnExactIsValidGroups", spec := "fnExactIsValidGroups", apart := false }
def FnExactIsValidGroupsSaid : Prop := fnExactIsValidGroupsRow.holds Try.pinned (OpenSpec.ofChange fnExactIsValidGroupsSpec)

/-- ITS FALSE NEIGHBOUR: 'it returns false'. Refute it at one input. -/
def fnExactIsValidGroupsWrong : ChangeSpec := { name := "fnExactIsValidGroups", fn := fun _ => fun
  | [d] => { results := [.lit (.bool false)], args := [d] }
  | _ => none }
def FnExactIsValidGroupsWrongFalsely : Prop := fnExactIsValidGroupsRow.holds Try.pinned (OpenSpec.ofChange fnExactIsValidGroupsWrong)

/-- 'laws.FnExactDistinctStable': WHATEVER THE INPUT: true; the input reads as it did. -/
def fnExactDistinctStableSpec : ChangeSpec := { name := "fnExactDistinctStable", fn := fun _ => fun
  | [d] => { results := [.lit (.bool true)], args := [d] }
  | _ => none }
def fnExactDistinctStableRow : OpenClaim := { program := "ytgngoedooemboaa", sum := "c8fb9af173614a7d1a8ac1e7d02d335e28897b04a88290e8182ac8bdbf3ba0a7", func := "loop.example/g00907/laws.FnExactDistinctStable", spec := "fnExactDistinctStable", unfollowed := true, recurses := true, apart := false }
def FnExactDistinctStableSaid : Prop := fnExactDistinctStableRow.holds Try.pinned (OpenSpec.ofChange fnExactDistinctStableSpec)

/-- ITS FALSE NEIGHBOUR: 'it returns false'. Refute it at one input. -/
def fnExactDistinctStableWrong : ChangeSpec := { name := "fnExactDistinctStable", fn := fun _ => fun
  | [d] => { results := [.lit (.bool false)], args := [d] }
  | _ => none }
def FnExactDistinctStableWrongFalsely : Prop := fnExactDistinctStableRow.holds Try.pinned (OpenSpec.ofChange fnExactDistinctStableWrong)

/-- 'laws.FnExactTopRecords': WHATEVER THE INPUT: true; the input reads as it did. -/
def fnExactTopRecordsSpec : ChangeSpec := { name := "fnExactTopRecords", fn := fun _ => fun
  | [d1, d2] => { results := [.lit (.bool true)], args := [d1, d2] }
  | _ => none }
def fnExactTopRecordsRow : OpenClaim := { program := "ytgngoedooemboaa", sum := "c8fb9af173614a7d1a8ac1e7d02d335e28897b04a88290e8182ac8bdbf3ba0a7", func := "loop.example/g00907/laws.FnExactTopRecords", spec := "fnExactTopRecords", unfollowed := true, recurses := true, apart := false }
def FnExactTopRecordsSaid : Prop := fnExactTopRecordsRow.holds Try.pinned (OpenSpec.ofChange fnExactTopRecordsSpec)

/-- ITS FALSE NEIGHBOUR: 'it returns false'. Refute it at one input. -/
def fnExactTopRecordsWrong : ChangeSpec := { name := "fnExactTopRecords", fn := fun _ => fun
  | [d1, d2] => { results := [.lit (.bool false)], args := [d1, d2] }
  | _ => none }
def FnExactTopRecordsWrongFalsely : Prop := fnExactTopRecordsRow.holds Try.pinned (OpenSpec.ofChange fnExactTopRecordsWrong)

/-- 'laws.FnExactOfferTop': WHATEVER THE INPUT: true; the input reads as it did. -/
def fnExactOfferTopSpec : ChangeSpec := { name := "fnExactOfferTop", fn := fun _ => fun
  | [d1, d2, d3] => { results := [.lit (.bool true)], args := [d1, d2, d3] }
  | _ => none }
def fnExactOfferTopRow : OpenClaim := { program := "ytgngoedooemboaa", sum := "c8fb9af173614a7d1a8ac1e7d02d335e28897b04a88290e8182ac8bdbf3ba0a7", func := "loop.example/g00907/laws.FnExactOfferTop", spec := "fnExactOfferTop", inPlace := ["slices.overlaps[loop.example/g00907/impl.Record]"], unfollowed := true, recurses := true, apart := false }
def FnExactOfferTopSaid : Prop := fnExactOfferTopRow.holds Try.pinned (OpenSpec.ofChange fnExactOfferTopSpec)

/-- ITS FALSE NEIGHBOUR: 'it returns false'. Refute it at one input. -/
def fnExactOfferTopWrong : ChangeSpec := { name := "fnExactOfferTop", fn := fun _ => fun
  | [d1, d2, d3] => { results := [.lit (.bool false)], args := [d1, d2, d3] }
  | _ => none }
def FnExactOfferTopWrongFalsely : Prop := fnExactOfferTopRow.holds Try.pinned (OpenSpec.ofChange fnExactOfferTopWrong)

/-- 'laws.FnExactTopGroups': WHATEVER THE INPUT: true; the input reads as it did. -/
def fnExactTopGroupsSpec : ChangeSpec := { name := "fnExactTopGroups", fn := fun _ => fun
  | [d1, d2] => { results := [.lit (.bool true)], args := [d1, d2] }
  | _ => none }
def fnExactTopGroupsRow : OpenClaim := { program := "ytgngoedooemboaa", sum := "c8fb9af173614a7d1a8ac1e7d02d335e28897b04a88290e8182ac8bdbf3ba0a7", func := "loop.example/g00907/laws.FnExactTopGroups", spec := "fnExactTopGroups", unfollowed := true, recurses := true, apart := false }
def FnExactTopGroupsSaid : Prop := fnExactTopGroupsRow.holds Try.pinned (OpenSpec.ofChange fnExactTopGroupsSpec)

/-- ITS FALSE NEIGHBOUR: 'it returns false'. Refute it at one input. -/
def fnExactTopGroupsWrong : ChangeSpec := { name := "fnExactTopGroups", fn := fun _ => fun
  | [d1, d2] => { results := [.lit (.bool false)], args := [d1, d2] }
  | _ => none }
def FnExactTopGroupsWrongFalsely : Prop := fnExactTopGroupsRow.holds Try.pinned (OpenSpec.ofChange fnExactTopGroupsWrong)

/-- 'laws.FnExactMergeTops': WHATEVER THE INPUT: true; the input reads as it did. -/
def fnExactMergeTopsSpec : ChangeSpec := { name := "fnExactMergeTops", fn := fun _ => fun
  | [d1, d2, d3] => { results := [.lit (.bool true)], args := [d1, d2, d3] }
  | _ => none }
def fnExactMergeTopsRow : OpenClaim := { program := "ytgngoedooemboaa", sum := "c8fb9af173614a7d1a8ac1e7d02d335e28897b04a88290e8182ac8bdbf3ba0a7", func := "loop.example/g00907/laws.FnExactMergeTops", spec := "fnExactMergeTops", unfollowed := true, recurses := true, apart := false }
def FnExactMergeTopsSaid : Prop := fnExactMergeTopsRow.holds Try.pinned (OpenSpec.ofChange fnExactMergeTopsSpec)

/-- ITS FALSE NEIGHBOUR: 'it returns false'. Refute it at one input. -/
def fnExactMergeTopsWrong : ChangeSpec := { name := "fnExactMergeTops", fn := fun _ => fun
  | [d1, d2, d3] => { results := [.lit (.bool false)], args := [d1, d2, d3] }
  | _ => none }
def FnExactMergeTopsWrongFalsely : Prop := fnExactMergeTopsRow.holds Try.pinned (OpenSpec.ofChange fnExactMergeTopsWrong)

/-- 'laws.FnExactGroupRecords': WHATEVER THE INPUT: true; the input reads as it did. -/
def fnExactGroupRecordsSpec : ChangeSpec := { name := "fnExactGroupRecords", fn := fun _ => fun
  | [d] => { results := [.lit (.bool true)], args := [d] }
  | _ => none }
def fnExactGroupRecordsRow : OpenClaim := { program := "ytgngoedooemboaa", sum := "c8fb9af173614a7d1a8ac1e7d02d335e28897b04a88290e8182ac8bdbf3ba0a7", func := "loop.example/g00907/laws.FnExactGroupRecords", spec := "fnExactGroupRecords", unfollowed := true, recurses := true, apart := false }
def FnExactGroupRecordsSaid : Prop := fnExactGroupRecordsRow.holds Try.pinned (OpenSpec.ofChange fnExactGroupRecordsSpec)

/-- ITS FALSE NEIGHBOUR: 'it returns false'. Refute it at one input. -/
def fnExactGroupRecordsWrong : ChangeSpec := { name := "fnExactGroupRecords", fn := fun _ => fun
  | [d] => { results := [.lit (.bool false)], args := [d] }
  | _ => none }
def FnExactGroupRecordsWrongFalsely : Prop := fnExactGroupRecordsRow.holds Try.pinned (OpenSpec.ofChange fnExactGroupRecordsWrong)

/-- 'laws.FnExactMergeGroups': WHATEVER THE INPUT: true; the input reads as it did. -/
def fnExactMergeGroupsSpec : ChangeSpec := { name := "fnExactMergeGroups", fn := fun _ => fun
  | [d1, d2] => { results := [.lit (.bool true)], args := [d1, d2] }
  | _ => none }
def fnExactMergeGroupsRow : OpenClaim := { program := "ytgngoedooemboaa", sum := "c8fb9af173614a7d1a8ac1e7d02d335e28897b04a88290e8182ac8bdbf3ba0a7", func := "loop.example/g00907/laws.FnExactMergeGroups", spec := "fnExactMergeGroups", unfollowed := true, recurses := true, apart := false }
def FnExactMergeGroupsSaid : Prop := fnExactMergeGroupsRow.holds Try.pinned (OpenSpec.ofChange fnExactMergeGroupsSpec)

/-- ITS FALSE NEIGHBOUR: 'it returns false'. Refute it at one input. -/
def fnExactMergeGroupsWrong : ChangeSpec := { name := "fnExactMergeGroups", fn := fun _ => fun
  | [d1, d2] => { results := [.lit (.bool false)], args := [d1, d2] }
  | _ => none }
def FnExactMergeGroupsWrongFalsely : Prop := fnExactMergeGroupsRow.holds Try.pinned (OpenSpec.ofChange fnExactMergeGroupsWrong)

/-- 'laws.FnExactDistinctSorted': WHATEVER THE INPUT: true; the input reads as it did. -/
def fnExactDistinctSortedSpec : ChangeSpec := { name := "fnExactDistinctSorted", fn := fun _ => fun
  | [d] => { results := [.lit (.bool true)], args := [d] }
  | _ => none }
def fnExactDistinctSortedRow : OpenClaim := { program := "ytgngoedooemboaa", sum := "c8fb9af173614a7d1a8ac1e7d02d335e28897b04a88290e8182ac8bdbf3ba0a7", func := "loop.example/g00907/laws.FnExactDistinctSorted", spec := "fnExactDistinctSorted", unfollowed := true, recurses := true, apart := false }
def FnExactDistinctSortedSaid : Prop := fnExactDistinctSortedRow.holds Try.pinned (OpenSpec.ofChange fnExactDistinctSortedSpec)

/-- ITS FALSE NEIGHBOUR: 'it returns false'. Refute it at one input. -/
def fnExactDistinctSortedWrong : ChangeSpec := { name := "fnExactDistinctSorted", fn := fun _ => fun
  | [d] => { results := [.lit (.bool false)], args := [d] }
  | _ => none }
def FnExactDistinctSortedWrongFalsely : Prop := fnExactDistinctSortedRow.holds Try.pinned (OpenSpec.ofChange fnExactDistinctSortedWrong)

/-- 'laws.FnFrequent': WHATEVER THE INPUT: true; the input reads as it did. -/
def fnFrequentSpec : ChangeSpec := { name := "fnFrequent", fn := fun _ => fun
  | [d] => { results := [.lit (.bool true)], args := [d] }
  | _ => none }
def fnFrequentRow : OpenClaim := { program := "ytgngoedooemboaa", sum := "c8fb9af173614a7d1a8ac1e7d02d335e28897b04a88290e8182ac8bdbf3ba0a7", func := "loop.example/g00907/laws.FnFrequent", spec := "fnFrequent", unfollowed := true, recurses := true, apart := false }
def FnFrequentSaid : Prop := fnFrequentRow.holds Try.pinned (OpenSpec.ofChange fnFrequentSpec)

/-- ITS FALSE NEIGHBOUR: 'it returns false'. Refute it at one input. -/
def fnFrequentWrong : ChangeSpec := { name := "fnFrequent", fn := fun _ => fun
  | [d] => { results := [.lit (.bool false)], args := [d] }
  | _ => none }
def FnFrequentWrongFalsely : Prop := fnFrequentRow.holds Try.pinned (OpenSpec.ofChange fnFrequentWrong)

/-- 'laws.FnExactFrequentKeys': WHATEVER THE INPUT: true; the input reads as it did. -/
def fnExactFrequentKeysSpec : ChangeSpec := { name := "fnExactFrequentKeys", fn := fun _ => fun
  | [d1, d2] => { results := [.lit (.bool true)], args := [d1, d2] }
  | _ => none }
def fnExactFrequentKeysRow : OpenClaim := { program := "ytgngoedooemboaa", sum := "c8fb9af173614a7d1a8ac1e7d02d335e28897b04a88290e8182ac8bdbf3ba0a7", func := "loop.example/g00907/laws.FnExactFrequentKeys", spec := "fnExactFrequentKeys", unfollowed := true, recurses := true, apart := false }
def FnExactFrequentKeysSaid : Prop := fnExactFrequentKeysRow.holds Try.pinned (OpenSpec.ofChange fnExactFrequentKeysSpec)

/-- ITS FALSE NEIGHBOUR: 'it returns false'. Refute it at one input. -/
def fnExactFrequentKeysWrong : ChangeSpec := { name := "fnExactFrequentKeys", fn := fun _ => fun
  | [d1, d2] => { results := [.lit (.bool false)], args := [d1, d2] }
  | _ => none }
def FnExactFrequentKeysWrongFalsely : Prop := fnExactFrequentKeysRow.holds Try.pinned (OpenSpec.ofChange fnExactFrequentKeysWrong)

/- THE SECOND FORM. 'bulk': how many values and letters a reading holds, each counted each time it is reached (what is shared counts as often as it is met; a slice's spare places count too). A statement '..UptoSaid' is the law's where the arguments, and the package variables that the reading takes, are together of bulk at most 1048576: NARROWER than '..Said'. Prove '..Said' where nothing that the law and all that it calls make is longer than what came in: it says more and counts as full. Else prove '..UptoSaid'. A law counts once. -/
mutual
def uptoBulk {H : Type} : DataW H → Nat
  | .lit (.string bytes) => bytes.length + 1
  | .lit _ => 1
  | .nil => 1
  | .ptr d => uptoBulk d + 1
  | .slice elems spare => uptoBulkAll elems + uptoBulkAll spare + 1
  | .agg parts => uptoBulkAll parts + 1
  | .iface _ d => uptoBulk d + 1
  | .map entries => uptoBulkEntries entries + 1
  | .held _ => 1
def uptoBulkAll {H : Type} : List (DataW H) → Nat
  | [] => 0
  | d :: r => uptoBulk d + uptoBulkAll r
def uptoBulkEntries {H : Type} : List (Lit × DataW H) → Nat
  | [] => 0
  | x :: r => uptoBulkEntry x + uptoBulkEntries r
def uptoBulkEntry {H : Type} : Lit × DataW H → Nat
  | (.string bytes, d) => bytes.length + uptoBulk d + 1
  | (_, d) => uptoBulk d + 1
 end
def uptoSmall : (H : Type) → List (DataW H) → Bool := fun _ ds => decide (uptoBulkAll ds ≤ 1048576)
def OpenSpec.upto (s : _root_.Go.ChangeSpec) : _root_.Go.OpenSpec := { _root_.Go.OpenSpec.ofChange s with cond := some uptoSmall }

/-- 'laws.FnExactIsValidGroups', WHERE WHAT IT READS IS OF BULK AT MOST 1048576: true; the input reads as it did. -/
def fnExactIsValidGroupsUptoRow : OpenClaim := { program := "ytgngoedooemboaa", sum := "c8fb9af173614a7d1a8ac1e7d02d335e28897b04a88290e8182ac8bdbf3ba0a7", func := "loop.example/g00907/laws.FnExactIsValidGroups", spec := "fnExactIsValidGroups", apart := false, narrowed := true }
def FnExactIsValidGroupsUptoSaid : Prop := fnExactIsValidGroupsUptoRow.holds Try.pinned (OpenSpec.upto fnExactIsValidGroupsSpec)

/-- 'laws.FnExactDistinctStable', WHERE WHAT IT READS IS OF BULK AT MOST 1048576: true; the input reads as it did. -/
def fnExactDistinctStableUptoRow : OpenClaim := { program := "ytgngoedooemboaa", sum := "c8fb9af173614a7d1a8ac1e7d02d335e28897b04a88290e8182ac8bdbf3ba0a7", func := "loop.example/g00907/laws.FnExactDistinctStable", spec := "fnExactDistinctStable", unfollowed := true, recurses := true, apart := false, narrowed := true }
def FnExactDistinctStableUptoSaid : Prop := fnExactDistinctStableUptoRow.holds Try.pinned (OpenSpec.upto fnExactDistinctStableSpec)

/-- 'laws.FnExactTopRecords', WHERE WHAT IT READS IS OF BULK AT MOST 1048576: true; the input reads as it did. -/
def fnExactTopRecordsUptoRow : OpenClaim := { program := "ytgngoedooemboaa", sum := "c8fb9af173614a7d1a8ac1e7d02d335e28897b04a88290e8182ac8bdbf3ba0a7", func := "loop.example/g00907/laws.FnExactTopRecords", spec := "fnExactTopRecords", unfollowed := true, recurses := true, apart := false, narrowed := true }
def FnExactTopRecordsUptoSaid : Prop := fnExactTopRecordsUptoRow.holds Try.pinned (OpenSpec.upto fnExactTopRecordsSpec)

/-- 'laws.FnExactOfferTop', WHERE WHAT IT READS IS OF BULK AT MOST 1048576: true; the input reads as it did. -/
def fnExactOfferTopUptoRow : OpenClaim := { program := "ytgngoedooemboaa", sum := "c8fb9af173614a7d1a8ac1e7d02d335e28897b04a88290e8182ac8bdbf3ba0a7", func := "loop.example/g00907/laws.FnExactOfferTop", spec := "fnExactOfferTop", inPlace := ["slices.overlaps[loop.example/g00907/impl.Record]"], unfollowed := true, recurses := true, apart := false, narrowed := true }
def FnExactOfferTopUptoSaid : Prop := fnExactOfferTopUptoRow.holds Try.pinned (OpenSpec.upto fnExactOfferTopSpec)

/-- 'laws.FnExactTopGroups', WHERE WHAT IT READS IS OF BULK AT MOST 1048576: true; the input reads as it did. -/
def fnExactTopGroupsUptoRow : OpenClaim := { program := "ytgngoedooemboaa", sum := "c8fb9af173614a7d1a8ac1e7d02d335e28897b04a88290e8182ac8bdbf3ba0a7", func := "loop.example/g00907/laws.FnExactTopGroups", spec := "fnExactTopGroups", unfollowed := true, recurses := true, apart := false, narrowed := true }
def FnExactTopGroupsUptoSaid : Prop := fnExactTopGroupsUptoRow.holds Try.pinned (OpenSpec.upto fnExactTopGroupsSpec)

/-- 'laws.FnExactMergeTops', WHERE WHAT IT READS IS OF BULK AT MOST 1048576: true; the input reads as it did. -/
def fnExactMergeTopsUptoRow : OpenClaim := { program := "ytgngoedooemboaa", sum := "c8fb9af173614a7d1a8ac1e7d02d335e28897b04a88290e8182ac8bdbf3ba0a7", func := "loop.example/g00907/laws.FnExactMergeTops", spec := "fnExactMergeTops", unfollowed := true, recurses := true, apart := false, narrowed := true }
def FnExactMergeTopsUptoSaid : Prop := fnExactMergeTopsUptoRow.holds Try.pinned (OpenSpec.upto fnExactMergeTopsSpec)

/-- 'laws.FnExactGroupRecords', WHERE WHAT IT READS IS OF BULK AT MOST 1048576: true; the input reads as it did. -/
def fnExactGroupRecordsUptoRow : OpenClaim := { program := "ytgngoedooemboaa", sum := "c8fb9af173614a7d1a8ac1e7d02d335e28897b04a88290e8182ac8bdbf3ba0a7", func := "loop.example/g00907/laws.FnExactGroupRecords", spec := "fnExactGroupRecords", unfollowed := true, recurses := true, apart := false, narrowed := true }
def FnExactGroupRecordsUptoSaid : Prop := fnExactGroupRecordsUptoRow.holds Try.pinned (OpenSpec.upto fnExactGroupRecordsSpec)

/-- 'laws.FnExactMergeGroups', WHERE WHAT IT READS IS OF BULK AT MOST 1048576: true; the input reads as it did. -/
def fnExactMergeGroupsUptoRow : OpenClaim := { program := "ytgngoedooemboaa", sum := "c8fb9af173614a7d1a8ac1e7d02d335e28897b04a88290e8182ac8bdbf3ba0a7", func := "loop.example/g00907/laws.FnExactMergeGroups", spec := "fnExactMergeGroups", unfollowed := true, recurses := true, apart := false, narrowed := true }
def FnExactMergeGroupsUptoSaid : Prop := fnExactMergeGroupsUptoRow.holds Try.pinned (OpenSpec.upto fnExactMergeGroupsSpec)

/-- 'laws.FnExactDistinctSorted', WHERE WHAT IT READS IS OF BULK AT MOST 1048576: true; the input reads as it did. -/
def fnExactDistinctSortedUptoRow : OpenClaim := { program := "ytgngoedooemboaa", sum := "c8fb9af173614a7d1a8ac1e7d02d335e28897b04a88290e8182ac8bdbf3ba0a7", func := "loop.example/g00907/laws.FnExactDistinctSorted", spec := "fnExactDistinctSorted", unfollowed := true, recurses := true, apart := false, narrowed := true }
def FnExactDistinctSortedUptoSaid : Prop := fnExactDistinctSortedUptoRow.holds Try.pinned (OpenSpec.upto fnExactDistinctSortedSpec)

/-- 'laws.FnFrequent', WHERE WHAT IT READS IS OF BULK AT MOST 1048576: true; the input reads as it did. -/
def fnFrequentUptoRow : OpenClaim := { program := "ytgngoedooemboaa", sum := "c8fb9af173614a7d1a8ac1e7d02d335e28897b04a88290e8182ac8bdbf3ba0a7", func := "loop.example/g00907/laws.FnFrequent", spec := "fnFrequent", unfollowed := true, recurses := true, apart := false, narrowed := true }
def FnFrequentUptoSaid : Prop := fnFrequentUptoRow.holds Try.pinned (OpenSpec.upto fnFrequentSpec)

/-- 'laws.FnExactFrequentKeys', WHERE WHAT IT READS IS OF BULK AT MOST 1048576: true; the input reads as it did. -/
def fnExactFrequentKeysUptoRow : OpenClaim := { program := "ytgngoedooemboaa", sum := "c8fb9af173614a7d1a8ac1e7d02d335e28897b04a88290e8182ac8bdbf3ba0a7", func := "loop.example/g00907/laws.FnExactFrequentKeys", spec := "fnExactFrequentKeys", unfollowed := true, recurses := true, apart := false, narrowed := true }
def FnExactFrequentKeysUptoSaid : Prop := fnExactFrequentKeysUptoRow.holds Try.pinned (OpenSpec.upto fnExactFrequentKeysSpec)

end Rows
end Go.Proofs.Ytgngoedooemboaa
