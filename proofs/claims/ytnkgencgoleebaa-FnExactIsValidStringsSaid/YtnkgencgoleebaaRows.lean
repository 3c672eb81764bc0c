/-
  No cell of these rows narrows 'for every input' (looked for: loops, veiled, ifaces, maps, wideKeys, modest, calm, conditions, laid).
  DERIVED. THE GIVEN ROWS OF THIS SEAT. 4 by the template 'for every input the law returns true; each argument reads behind the call as it read before'; 0 by the template 'total and deterministic' (their statements: YtnkgencgoleebaaTotals.lean).
  GIVEN WITH THE SEED: the statements are not yours to turn. If you find one false, say at which input.
  Laid BY PROGRAM, IN A SANDBOX (cutbox-rows.mjs): the forced cells as the released guide's own fill.sh prints them over the translation 22692ed5832b7d5e… (all of the seat's roots in one cut). By AI agents, Wed Nov 11 2026. No macro, syntax, notation, axiom, sorry.
-/
import Derived.Test.YtnkgencgoleebaaChecked
import GoSem.Claim
import GoSem.ClaimJoined
import GoSem.ClaimMapViews
import Derived.JoinedTies
import Derived.KernelRfl
namespace Go.Proofs.Ytnkgencgoleebaa
/- THE CELL 'sum', in the pinned program and in every row, IS THE sha256 OF THE DUMP (.gsa) THAT YtnkgencgoleebaaProg.lean LOADS. Nothing in Lean hashes anything: it is a label: what it is worth is what the hold of that sum in a sandbox is worth. -/
noncomputable def Try.pinned : Pinned := { name := "ytnkgencgoleebaa", sum := "22692ed5832b7d5e1a8bae9becb167435c7a412238630c505af0abe9fcb624fd", checked := Try.checked }
namespace Rows
def none {H : Type} : Left H := { results := [], args := [] }

/-- 'laws.FnExactCommonPrefix': WHATEVER THE INPUT: true; the input reads as it did. -/
def fnExactCommonPrefixSpec : ChangeSpec := { name := "fnExactCommonPrefix", fn := fun _ => fun
  | [d1, d2] => { results := [.lit (.bool true)], args := [d1, d2] }
  | _ => none }
def fnExactCommonPrefixRow : OpenClaim := { program := "ytnkgencgoleebaa", sum := "22692ed5832b7d5e1a8bae9becb167435c7a412238630c505af0abe9fcb624fd", func := "loop.example/g00907/laws.FnExactCommonPrefix", spec := "fnExactCommonPrefix", apart := false }
def FnExactCommonPrefixSaid : Prop := fnExactCommonPrefixRow.holds Try.pinned (OpenSpec.ofChange fnExactCommonPrefixSpec)

/-- ITS FALSE NEIGHBOUR: 'it returns false'. Refute it at one input. -/
def fnExactCommonPrefixWrong : ChangeSpec := { name := "fnExactCommonPrefix", fn := fun _ => fun
  | [d1, d2] => { results := [.lit (.bool false)], args := [d1, d2] }
  | _ => none }
def FnExactCommonPrefixWrongFalsely : Prop := fnExactCommonPrefixRow.holds Try.pinned (OpenSpec.ofChange fnExactCommonPrefixWrong)

/-- 'laws.FnExactBalancedVolume': WHATEVER THE INPUT: true; the input reads as it did. -/
def fnExactBalancedVolumeSpec : ChangeSpec := { name := "fnExactBalancedVolume", fn := fun _ => fun
  | [d1, d2] => { results := [.lit (.bool true)], args := [d1, d2] }
  | _ => none }
def fnExactBalancedVolumeRow : OpenClaim := { program := "ytnkgencgoleebaa", sum := "22692ed5832b7d5e1a8bae9becb167435c7a412238630c505af0abe9fcb624fd", func := "loop.example/g00907/laws.FnExactBalancedVolume", spec := "fnExactBalancedVolume", apart := false }
def FnExactBalancedVolumeSaid : Prop := fnExactBalancedVolumeRow.holds Try.pinned (OpenSpec.ofChange fnExactBalancedVolumeSpec)

/-- ITS FALSE NEIGHBOUR: 'it returns false'. Refute it at one input. -/
def fnExactBalancedVolumeWrong : ChangeSpec := { name := "fnExactBalancedVolume", fn := fun _ => fun
  | [d1, d2] => { results := [.lit (.bool false)], args := [d1, d2] }
  | _ => none }
def FnExactBalancedVolumeWrongFalsely : Prop := fnExactBalancedVolumeRow.holds Try.pinned (OpenSpec.ofChange fnExactBalancedVolumeWrong)

/-- 'laws.FnExactComparisonBound': WHATEVER THE INPUT: true; the input reads as it did. -/
def fnExactComparisonBoundSpec : ChangeSpec := { name := "fnExactComparisonBound", fn := fun _ => fun
  | [d] => { results := [.lit (.bool true)], args := [d] }
  | _ => none }
def fnExactComparisonBoundRow : OpenClaim := { program := "ytnkgencgoleebaa", sum := "22692ed5832b7d5e1a8bae9becb167435c7a412238630c505af0abe9fcb624fd", func := "loop.example/g00907/laws.FnExactComparisonBound", spec := "fnExactComparisonBound", apart := false }
def FnExactComparisonBoundSaid : Prop := fnExactComparisonBoundRow.holds Try.pinned (OpenSpec.ofChange fnExactComparisonBoundSpec)

/-- ITS FALSE NEIGHBOUR: 'it returns false'. Refute it at one input. -/
def fnExactComparisonBoundWrong : ChangeSpec := { name := "fnExactComparisonBound", fn := fun _ => fun
  | [d] => { results := [.lit (.bool false)], args := [d] }
  | _ => none }
def FnExactComparisonBoundWrongFalsely : Prop := fnExactComparisonBoundRow.holds Try.pinned (OpenSpec.ofChange fnExactComparisonBoundWrong)

/-- 'laws.FnExactIsValidStrings': WHATEVER THE INPUT: true; the input reads as it did. -/
def fnExactIsValidStringsSpec : ChangeSpec := { name := "fnExactIsValidStrings", fn := fun _ => fun
  | [d] => { results := [.lit (.bool true)], args := [d] }
  | _ => none }
def fnExactIsValidStringsRow : OpenClaim := { program := "ytnkgencgoleebaa", sum := "22692ed5832b7d5e1a8bae9becb167435c7a412238630c505af0abe9fcb624fd", func := "loop.example/g00907/laws.FnExactIsValidStrings", spec := "fnExactIsValidStrings", unfollowed := true, recurses := true, apart := false }
def FnExactIsValidStringsSaid : Prop := fnExactIsValidStringsRow.holds Try.pinned (OpenSpec.ofChange fnExactIsValidStringsSpec)

/-- ITS FALSE NEIGHBOUR: 'it returns false'. Refute it at one input. -/
def fnExactIsValidStringsWrong : ChangeSpec := { name := "fnExactIsValidStrings", fn := fun _ => fun
  | [d] => { results := [.lit (.bool false)], args := [d] }
  | _ => none }
def FnExactIsValidStringsWrongFalsely : Prop := fnExactIsValidStringsRow.holds Try.pinned (OpenSpec.ofChange fnExactIsValidStringsWrong)

/- THE SECOND FORM. 'bulk': how many values and letters a reading holds, each counted each time it is reached (what is shared counts as often as it is met; a slice's spare places count too). A statement '..UptoSaid' is the law's where the arguments, and the package variables that the reading takes, are together of bulk at most 1048576: NARROWER than '..Said'. Prove '..Said' where nothing that the law and all that it calls make is longer than what came in: it says more and counts as full. Else prove '..UptoSaid'. A law counts once. -/
mutual
def uptoBulk {H : Type} : DataW H → Nat
  | .lit (.string bytes) => bytes.length + 1
  | .lit _ => 1
  | .nil => 1
  | .ptr d => uptoBulk d + 1
  | .slice elems spare => uptoBulkAll elems + uptoBulkAll spare + 1
  | .agg parts => uptoBulkAll parts + 1
  | .iface _ d => uptoBulk d + 1
  | .map entries => uptoBulkEntries entries + 1
  | .held _ => 1
def uptoBulkAll {H : Type} : List (DataW H) → Nat
  | [] => 0
  | d :: r => uptoBulk d + uptoBulkAll r
def uptoBulkEntries {H : Type} : List (Lit × DataW H) → Nat
  | [] => 0
  | x :: r => uptoBulkEntry x + uptoBulkEntries r
def uptoBulkEntry {H : Type} : Lit × DataW H → Nat
  | (.string bytes, d) => bytes.length + uptoBulk d + 1
  | (_, d) => uptoBulk d + 1
 end
def uptoSmall : (H : Type) → List (DataW H) → Bool := fun _ ds => decide (uptoBulkAll ds ≤ 1048576)
def OpenSpec.upto (s : _root_.Go.ChangeSpec) : _root_.Go.OpenSpec := { _root_.Go.OpenSpec.ofChange s with cond := some uptoSmall }

/-- 'laws.FnExactCommonPrefix', WHERE WHAT IT READS IS OF BULK AT MOST 1048576: true; the input reads as it did. -/
def fnExactCommonPrefixUptoRow : OpenClaim := { program := "ytnkgencgoleebaa", sum := "22692ed5832b7d5e1a8bae9becb167435c7a412238630c505af0abe9fcb624fd", func := "loop.example/g00907/laws.FnExactCommonPrefix", spec := "fnExactCommonPrefix", apart := false, narrowed := true }
def FnExactCommonPrefixUptoSaid : Prop := fnExactCommonPrefixUptoRow.holds Try.pinned (OpenSpec.upto fnExactCommonPrefixSpec)

/-- 'laws.FnExactBalancedVolume', WHERE WHAT IT READS IS OF BULK AT MOST 1048576: true; the input reads as it did. -/
def fnExactBalancedVolumeUptoRow : OpenClaim := { program := "ytnkgencgoleebaa", sum := "22692ed5832b7d5e1a8bae9becb167435c7a412238630c505af0abe9fcb624fd", func := "loop.example/g00907/laws.FnExactBalancedVolume", spec := "fnExactBalancedVolume", apart := false, narrowed := true }
def FnExactBalancedVolumeUptoSaid : Prop := fnExactBalancedVolumeUptoRow.holds Try.pinned (OpenSpec.upto fnExactBalancedVolumeSpec)

/-- 'laws.FnExactComparisonBound', WHERE WHAT IT READS IS OF BULK AT MOST 1048576: true; the input reads as it did. -/
def fnExactComparisonBoundUptoRow : OpenClaim := { program := "ytnkgencgoleebaa", sum := "22692ed5832b7d5e1a8bae9becb167435c7a412238630c505af0abe9fcb624fd", func := "loop.example/g00907/laws.FnExactComparisonBound", spec := "fnExactComparisonBound", apart := false, narrowed := true }
def FnExactComparisonBoundUptoSaid : Prop := fnExactComparisonBoundUptoRow.holds Try.pinned (OpenSpec.upto fnExactComparisonBoundSpec)

/-- 'laws.FnExactIsValidStrings', WHERE WHAT IT READS IS OF BULK AT MOST 1048576: true; the input reads as it did. -/
def fnExactIsValidStringsUptoRow : OpenClaim := { program := "ytnkgencgoleebaa", sum := "22692ed5832b7d5e1a8bae9becb167435c7a412238630c505af0abe9fcb624fd", func := "loop.example/g00907/laws.FnExactIsValidStrings", spec := "fnExactIsValidStrings", unfollowed := true, recurses := true, apart := false, narrowed := true }
def FnExactIsValidStringsUptoSaid : Prop := fnExactIsValidStringsUptoRow.holds Try.pinned (OpenSpec.upto fnExactIsValidStringsSpec)

end Rows
end Go.Proofs.Ytnkgencgoleebaa
