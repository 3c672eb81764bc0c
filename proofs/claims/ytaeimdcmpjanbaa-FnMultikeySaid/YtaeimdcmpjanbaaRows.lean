/-
  No cell of these rows narrows 'for every input' (looked for: loops, veiled, ifaces, maps, wideKeys, modest, calm, conditions, laid).
  DERIVED. THE GIVEN ROWS OF THIS SEAT. 7 by the template 'for every input the law returns true; each argument reads behind the call as it read before'; 0 by the template 'total and deterministic' (their statements: YtaeimdcmpjanbaaTotals.lean).
  GIVEN WITH THE SEED: the statements are not yours to turn. If you find one false, say at which input.
  Laid BY PROGRAM, IN A SANDBOX (cutbox-rows.mjs): the forced cells as the released guide's own fill.sh prints them over the translation 40b2121f3115e21a… (all of the seat's roots in one cut). By AI agents, Wed Nov 11 2026. No macro, syntax, notation, axiom, sorry.
-/
import Derived.Test.YtaeimdcmpjanbaaChecked
import GoSem.Claim
import GoSem.ClaimJoined
import GoSem.ClaimMapViews
import Derived.JoinedTies
import Derived.KernelRfl
namespace Go.Proofs.Ytaeimdcmpjanbaa
/- THE CELL 'sum', in the pinned program and in every row, IS THE sha256 OF THE DUMP (.gsa) THAT YtaeimdcmpjanbaaProg.lean LOADS. Nothing in Lean hashes anything: it is a label: what it is worth is what the hold of that sum in a sandbox is worth. -/
noncomputable def Try.pinned : Pinned := { name := "ytaeimdcmpjanbaa", sum := "40b2121f3115e21a89d9f6bbc79bfe0974024a51b895a0e3d23a406c514904d8", checked := Try.checked }
namespace Rows
def none {H : Type} : Left H := { results := [], args := [] }

/-- 'laws.FnMultikey': WHATEVER THE INPUT: true; the input reads as it did. -/
def fnMultikeySpec : ChangeSpec := { name := "fnMultikey", fn := fun _ => fun
  | [d] => { results := [.lit (.bool true)], args := [d] }
  | _ => none }
def fnMultikeyRow : OpenClaim := { program := "ytaeimdcmpjanbaa", sum := "40b2121f3115e21a89d9f6bbc79bfe0974024a51b895a0e3d23a406c514904d8", func := "loop.example/g00907/laws.FnMultikey", spec := "fnMultikey", unfollowed := true, recurses := true, apart := false }
def FnMultikeySaid : Prop := fnMultikeyRow.holds Try.pinned (OpenSpec.ofChange fnMultikeySpec)

/-- ITS FALSE NEIGHBOUR: 'it returns false'. Refute it at one input. -/
def fnMultikeyWrong : ChangeSpec := { name := "fnMultikey", fn := fun _ => fun
  | [d] => { results := [.lit (.bool false)], args := [d] }
  | _ => none }
def FnMultikeyWrongFalsely : Prop := fnMultikeyRow.holds Try.pinned (OpenSpec.ofChange fnMultikeyWrong)

/-- 'laws.FnExactPrefixLengths': WHATEVER THE INPUT: true; the input reads as it did. -/
def fnExactPrefixLengthsSpec : ChangeSpec := { name := "fnExactPrefixLengths", fn := fun _ => fun
  | [d] => { results := [.lit (.bool true)], args := [d] }
  | _ => none }
def fnExactPrefixLengthsRow : OpenClaim := { program := "ytaeimdcmpjanbaa", sum := "40b2121f3115e21a89d9f6bbc79bfe0974024a51b895a0e3d23a406c514904d8", func := "loop.example/g00907/laws.FnExactPrefixLengths", spec := "fnExactPrefixLengths", unfollowed := true, recurses := true, apart := false }
def FnExactPrefixLengthsSaid : Prop := fnExactPrefixLengthsRow.holds Try.pinned (OpenSpec.ofChange fnExactPrefixLengthsSpec)

/-- ITS FALSE NEIGHBOUR: 'it returns false'. Refute it at one input. -/
def fnExactPrefixLengthsWrong : ChangeSpec := { name := "fnExactPrefixLengths", fn := fun _ => fun
  | [d] => { results := [.lit (.bool false)], args := [d] }
  | _ => none }
def FnExactPrefixLengthsWrongFalsely : Prop := fnExactPrefixLengthsRow.holds Try.pinned (OpenSpec.ofChange fnExactPrefixLengthsWrong)

/-- 'laws.FnExactMultikeySort': WHATEVER THE INPUT: true; the input reads as it did. -/
def fnExactMultikeySortSpec : ChangeSpec := { name := "fnExactMultikeySort", fn := fun _ => fun
  | [d] => { results := [.lit (.bool true)], args := [d] }
  | _ => none }
def fnExactMultikeySortRow : OpenClaim := { program := "ytaeimdcmpjanbaa", sum := "40b2121f3115e21a89d9f6bbc79bfe0974024a51b895a0e3d23a406c514904d8", func := "loop.example/g00907/laws.FnExactMultikeySort", spec := "fnExactMultikeySort", unfollowed := true, recurses := true, apart := false }
def FnExactMultikeySortSaid : Prop := fnExactMultikeySortRow.holds Try.pinned (OpenSpec.ofChange fnExactMultikeySortSpec)

/-- ITS FALSE NEIGHBOUR: 'it returns false'. Refute it at one input. -/
def fnExactMultikeySortWrong : ChangeSpec := { name := "fnExactMultikeySort", fn := fun _ => fun
  | [d] => { results := [.lit (.bool false)], args := [d] }
  | _ => none }
def FnExactMultikeySortWrongFalsely : Prop := fnExactMultikeySortRow.holds Try.pinned (OpenSpec.ofChange fnExactMultikeySortWrong)

/-- 'laws.FnExactFrontCode': WHATEVER THE INPUT: true; the input reads as it did. -/
def fnExactFrontCodeSpec : ChangeSpec := { name := "fnExactFrontCode", fn := fun _ => fun
  | [d] => { results := [.lit (.bool true)], args := [d] }
  | _ => none }
def fnExactFrontCodeRow : OpenClaim := { program := "ytaeimdcmpjanbaa", sum := "40b2121f3115e21a89d9f6bbc79bfe0974024a51b895a0e3d23a406c514904d8", func := "loop.example/g00907/laws.FnExactFrontCode", spec := "fnExactFrontCode", unfollowed := true, recurses := true, apart := false }
def FnExactFrontCodeSaid : Prop := fnExactFrontCodeRow.holds Try.pinned (OpenSpec.ofChange fnExactFrontCodeSpec)

/-- ITS FALSE NEIGHBOUR: 'it returns false'. Refute it at one input. -/
def fnExactFrontCodeWrong : ChangeSpec := { name := "fnExactFrontCode", fn := fun _ => fun
  | [d] => { results := [.lit (.bool false)], args := [d] }
  | _ => none }
def FnExactFrontCodeWrongFalsely : Prop := fnExactFrontCodeRow.holds Try.pinned (OpenSpec.ofChange fnExactFrontCodeWrong)

/-- 'laws.FnExactFrontDecode': WHATEVER THE INPUT: true; the input reads as it did. -/
def fnExactFrontDecodeSpec : ChangeSpec := { name := "fnExactFrontDecode", fn := fun _ => fun
  | [d] => { results := [.lit (.bool true)], args := [d] }
  | _ => none }
def fnExactFrontDecodeRow : OpenClaim := { program := "ytaeimdcmpjanbaa", sum := "40b2121f3115e21a89d9f6bbc79bfe0974024a51b895a0e3d23a406c514904d8", func := "loop.example/g00907/laws.FnExactFrontDecode", spec := "fnExactFrontDecode", unfollowed := true, recurses := true, apart := false }
def FnExactFrontDecodeSaid : Prop := fnExactFrontDecodeRow.holds Try.pinned (OpenSpec.ofChange fnExactFrontDecodeSpec)

/-- ITS FALSE NEIGHBOUR: 'it returns false'. Refute it at one input. -/
def fnExactFrontDecodeWrong : ChangeSpec := { name := "fnExactFrontDecode", fn := fun _ => fun
  | [d] => { results := [.lit (.bool false)], args := [d] }
  | _ => none }
def FnExactFrontDecodeWrongFalsely : Prop := fnExactFrontDecodeRow.holds Try.pinned (OpenSpec.ofChange fnExactFrontDecodeWrong)

/-- 'laws.FnExactSortStrings': WHATEVER THE INPUT: true; the input reads as it did. -/
def fnExactSortStringsSpec : ChangeSpec := { name := "fnExactSortStrings", fn := fun _ => fun
  | [d] => { results := [.lit (.bool true)], args := [d] }
  | _ => none }
def fnExactSortStringsRow : OpenClaim := { program := "ytaeimdcmpjanbaa", sum := "40b2121f3115e21a89d9f6bbc79bfe0974024a51b895a0e3d23a406c514904d8", func := "loop.example/g00907/laws.FnExactSortStrings", spec := "fnExactSortStrings", unfollowed := true, recurses := true, apart := false }
def FnExactSortStringsSaid : Prop := fnExactSortStringsRow.holds Try.pinned (OpenSpec.ofChange fnExactSortStringsSpec)

/-- ITS FALSE NEIGHBOUR: 'it returns false'. Refute it at one input. -/
def fnExactSortStringsWrong : ChangeSpec := { name := "fnExactSortStrings", fn := fun _ => fun
  | [d] => { results := [.lit (.bool false)], args := [d] }
  | _ => none }
def FnExactSortStringsWrongFalsely : Prop := fnExactSortStringsRow.holds Try.pinned (OpenSpec.ofChange fnExactSortStringsWrong)

/-- 'laws.FnExactDistinguishingPrefix': WHATEVER THE INPUT: true; the input reads as it did. -/
def fnExactDistinguishingPrefixSpec : ChangeSpec := { name := "fnExactDistinguishingPrefix", fn := fun _ => fun
  | [d] => { results := [.lit (.bool true)], args := [d] }
  | _ => none }
def fnExactDistinguishingPrefixRow : OpenClaim := { program := "ytaeimdcmpjanbaa", sum := "40b2121f3115e21a89d9f6bbc79bfe0974024a51b895a0e3d23a406c514904d8", func := "loop.example/g00907/laws.FnExactDistinguishingPrefix", spec := "fnExactDistinguishingPrefix", unfollowed := true, recurses := true, apart := false }
def FnExactDistinguishingPrefixSaid : Prop := fnExactDistinguishingPrefixRow.holds Try.pinned (OpenSpec.ofChange fnExactDistinguishingPrefixSpec)

/-- ITS FALSE NEIGHBOUR: 'it returns false'. Refute it at one input. -/
def fnExactDistinguishingPrefixWrong : ChangeSpec := { name := "fnExactDistinguishingPrefix", fn := fun _ => fun
  | [d] => { results := [.lit (.bool false)], args := [d] }
  | _ => none }
def FnExactDistinguishingPrefixWrongFalsely : Prop := fnExactDistinguishingPrefixRow.holds Try.pinned (OpenSpec.ofChange fnExactDistinguishingPrefixWrong)

/- THE SECOND FORM. 'bulk': how many values and letters a reading holds, each counted each time it is reached (what is shared counts as often as it is met; a slice's spare places count too). A statement '..UptoSaid' is the law's where the arguments, and the package variables that the reading takes, are together of bulk at most 1048576: NARROWER than '..Said'. Prove '..Said' where nothing that the law and all that it calls make is longer than what came in: it says more and counts as full. Else prove '..UptoSaid'. A law counts once. -/
mutual
def uptoBulk {H : Type} : DataW H → Nat
  | .lit (.string bytes) => bytes.length + 1
  | .lit _ => 1
  | .nil => 1
  | .ptr d => uptoBulk d + 1
  | .slice elems spare => uptoBulkAll elems + uptoBulkAll spare + 1
  | .agg parts => uptoBulkAll parts + 1
  | .iface _ d => uptoBulk d + 1
  | .map entries => uptoBulkEntries entries + 1
  | .held _ => 1
def uptoBulkAll {H : Type} : List (DataW H) → Nat
  | [] => 0
  | d :: r => uptoBulk d + uptoBulkAll r
def uptoBulkEntries {H : Type} : List (Lit × DataW H) → Nat
  | [] => 0
  | x :: r => uptoBulkEntry x + uptoBulkEntries r
def uptoBulkEntry {H : Type} : Lit × DataW H → Nat
  | (.string bytes, d) => bytes.length + uptoBulk d + 1
  | (_, d) => uptoBulk d + 1
 end
def uptoSmall : (H : Type) → List (DataW H) → Bool := fun _ ds => decide (uptoBulkAll ds ≤ 1048576)
def OpenSpec.upto (s : _root_.Go.ChangeSpec) : _root_.Go.OpenSpec := { _root_.Go.OpenSpec.ofChange s with cond := some uptoSmall }

/-- 'laws.FnMultikey', WHERE WHAT IT READS IS OF BULK AT MOST 1048576: true; the input reads as it did. -/
def fnMultikeyUptoRow : OpenClaim := { program := "ytaeimdcmpjanbaa", sum := "40b2121f3115e21a89d9f6bbc79bfe0974024a51b895a0e3d23a406c514904d8", func := "loop.example/g00907/laws.FnMultikey", spec := "fnMultikey", unfollowed := true, recurses := true, apart := false, narrowed := true }
def FnMultikeyUptoSaid : Prop := fnMultikeyUptoRow.holds Try.pinned (OpenSpec.upto fnMultikeySpec)

/-- 'laws.FnExactPrefixLengths', WHERE WHAT IT READS IS OF BULK AT MOST 1048576: true; the input reads as it did. -/
def fnExactPrefixLengthsUptoRow : OpenClaim := { program := "ytaeimdcmpjanbaa", sum := "40b2121f3115e21a89d9f6bbc79bfe0974024a51b895a0e3d23a406c514904d8", func := "loop.example/g00907/laws.FnExactPrefixLengths", spec := "fnExactPrefixLengths", unfollowed := true, recurses := true, apart := false, narrowed := true }
def FnExactPrefixLengthsUptoSaid : Prop := fnExactPrefixLengthsUptoRow.holds Try.pinned (OpenSpec.upto fnExactPrefixLengthsSpec)

/-- 'laws.FnExactMultikeySort', WHERE WHAT IT READS IS OF BULK AT MOST 1048576: true; the input reads as it did. -/
def fnExactMultikeySortUptoRow : OpenClaim := { program := "ytaeimdcmpjanbaa", sum := "40b2121f3115e21a89d9f6bbc79bfe0974024a51b895a0e3d23a406c514904d8", func := "loop.example/g00907/laws.FnExactMultikeySort", spec := "fnExactMultikeySort", unfollowed := true, recurses := true, apart := false, narrowed := true }
def FnExactMultikeySortUptoSaid : Prop := fnExactMultikeySortUptoRow.holds Try.pinned (OpenSpec.upto fnExactMultikeySortSpec)

/-- 'laws.FnExactFrontCode', WHERE WHAT IT READS IS OF BULK AT MOST 1048576: true; the input reads as it did. -/
def fnExactFrontCodeUptoRow : OpenClaim := { program := "ytaeimdcmpjanbaa", sum := "40b2121f3115e21a89d9f6bbc79bfe0974024a51b895a0e3d23a406c514904d8", func := "loop.example/g00907/laws.FnExactFrontCode", spec := "fnExactFrontCode", unfollowed := true, recurses := true, apart := false, narrowed := true }
def FnExactFrontCodeUptoSaid : Prop := fnExactFrontCodeUptoRow.holds Try.pinned (OpenSpec.upto fnExactFrontCodeSpec)

/-- 'laws.FnExactFrontDecode', WHERE WHAT IT READS IS OF BULK AT MOST 1048576: true; the input reads as it did. -/
def fnExactFrontDecodeUptoRow : OpenClaim := { program := "ytaeimdcmpjanbaa", sum := "40b2121f3115e21a89d9f6bbc79bfe0974024a51b895a0e3d23a406c514904d8", func := "loop.example/g00907/laws.FnExactFrontDecode", spec := "fnExactFrontDecode", unfollowed := true, recurses := true, apart := false, narrowed := true }
def FnExactFrontDecodeUptoSaid : Prop := fnExactFrontDecodeUptoRow.holds Try.pinned (OpenSpec.upto fnExactFrontDecodeSpec)

/-- 'laws.FnExactSortStrings', WHERE WHAT IT READS IS OF BULK AT MOST 1048576: true; the input reads as it did. -/
def fnExactSortStringsUptoRow : OpenClaim := { program := "ytaeimdcmpjanbaa", sum := "40b2121f3115e21a89d9f6bbc79bfe0974024a51b895a0e3d23a406c514904d8", func := "loop.example/g00907/laws.FnExactSortStrings", spec := "fnExactSortStrings", unfollowed := true, recurses := true, apart := false, narrowed := true }
def FnExactSortStringsUptoSaid : Prop := fnExactSortStringsUptoRow.holds Try.pinned (OpenSpec.upto fnExactSortStringsSpec)

/-- 'laws.FnExactDistinguishingPrefix', WHERE WHAT IT READS IS OF BULK AT MOST 1048576: true; the input reads as it did. -/
def fnExactDistinguishingPrefixUptoRow : OpenClaim := { program := "ytaeimdcmpjanbaa", sum := "40b2121f3115e21a89d9f6bbc79bfe0974024a51b895a0e3d23a406c514904d8", func := "loop.example/g00907/laws.FnExactDistinguishingPrefix", spec := "fnExactDistinguishingPrefix", unfollowed := true, recurses := true, apart := false, narrowed := true }
def FnExactDistinguishingPrefixUptoSaid : Prop := fnExactDistinguishingPrefixUptoRow.holds Try.pinned (OpenSpec.upto fnExactDistinguishingPrefixSpec)

end Rows
end Go.Proofs.Ytaeimdcmpjanbaa
