/-
  DERIVED. GIVEN WITH THE SEED: THE CARDS: each row of YtaeimdcmpjanbaaDoorRows.lean that lists a variable, with what it lists TIED to the program's text (the seventh form; the later family's looks); each row that meets fmt, with fmt's text TOLD by the authors' own Lean function (tested against real Go, not proved from fmt's source: count such statements apart). THE CARD IS WHAT COUNTS. Prove the row's statement (the work); the ties are given (YtaeimdcmpjanbaaDoorTie.lean); close each card by the builder's one call (the guide's Derived/Test/ToyasCard.lean, 'card_holds'). Laid BY PROGRAM, IN A SANDBOX (cutbox-door.mjs). By AI agents, Wed Nov 11 2026. No macro, syntax, notation, axiom, sorry.
-/
import Derived.Test.YtaeimdcmpjanbaaDoorRows
import GoSem.ClaimSeven
namespace Go.Proofs.YtaeimdcmpjanbaaDoor
namespace Rows

/-- THE TIED CARD OF 'laws.FnExactCollationKey'. -/
def fnExactCollationKeyCard : Claim7 := { stood := { row := fnExactCollationKeyRow, standIns := [], harness := (true, "07edee5e029a0688c922edc22bb40a9e632f266c0c8bdbc3ab082cabbfdf1916"), looks := false }, kinds := [], alts := [], laidByText := true, laidKinds := [.data, .pinned], laidTests := true, laidLooks := .later }
def FnExactCollationKeyCardSaid : Prop := Claim7.holds Tryd.pinned (.plain (OpenSpec.ofChange fnExactCollationKeySpec)) fnExactCollationKeyCard

/-- THE TIED CARD OF 'laws.FnExactCollationSort'. -/
def fnExactCollationSortCard : Claim7 := { stood := { row := fnExactCollationSortRow, standIns := [], harness := (true, "07edee5e029a0688c922edc22bb40a9e632f266c0c8bdbc3ab082cabbfdf1916"), looks := false }, kinds := [], alts := [], laidByText := true, laidKinds := [.data, .pinned], laidTests := true, laidLooks := .later }
def FnExactCollationSortCardSaid : Prop := Claim7.holds Tryd.pinned (.plain (OpenSpec.ofChange fnExactCollationSortSpec)) fnExactCollationSortCard

/-- THE TIED CARD OF 'laws.FnCollation'. -/
def fnCollationCard : Claim7 := { stood := { row := fnCollationRow, standIns := [], harness := (true, "07edee5e029a0688c922edc22bb40a9e632f266c0c8bdbc3ab082cabbfdf1916"), looks := false }, kinds := [], alts := [], laidByText := true, laidKinds := [.data, .pinned], laidTests := true, laidLooks := .later }
def FnCollationCardSaid : Prop := Claim7.holds Tryd.pinned (.plain (OpenSpec.ofChange fnCollationSpec)) fnCollationCard

/-- THE SECOND FORM's CARD OF 'laws.FnExactCollationKey'. -/
def fnExactCollationKeyUptoCard : Claim7 := { stood := { row := fnExactCollationKeyUptoRow, standIns := [], harness := (true, "07edee5e029a0688c922edc22bb40a9e632f266c0c8bdbc3ab082cabbfdf1916"), looks := false }, kinds := [], alts := [], laidByText := true, laidKinds := [.data, .pinned], laidTests := true, laidLooks := .later }
def FnExactCollationKeyUptoCardSaid : Prop := Claim7.holds Tryd.pinned (.plain (OpenSpec.upto fnExactCollationKeySpec)) fnExactCollationKeyUptoCard

/-- THE SECOND FORM's CARD OF 'laws.FnExactCollationSort'. -/
def fnExactCollationSortUptoCard : Claim7 := { stood := { row := fnExactCollationSortUptoRow, standIns := [], harness := (true, "07edee5e029a0688c922edc22bb40a9e632f266c0c8bdbc3ab082cabbfdf1916"), looks := false }, kinds := [], alts := [], laidByText := true, laidKinds := [.data, .pinned], laidTests := true, laidLooks := .later }
def FnExactCollationSortUptoCardSaid : Prop := Claim7.holds Tryd.pinned (.plain (OpenSpec.upto fnExactCollationSortSpec)) fnExactCollationSortUptoCard

/-- THE SECOND FORM's CARD OF 'laws.FnCollation'. -/
def fnCollationUptoCard : Claim7 := { stood := { row := fnCollationUptoRow, standIns := [], harness := (true, "07edee5e029a0688c922edc22bb40a9e632f266c0c8bdbc3ab082cabbfdf1916"), looks := false }, kinds := [], alts := [], laidByText := true, laidKinds := [.data, .pinned], laidTests := true, laidLooks := .later }
def FnCollationUptoCardSaid : Prop := Claim7.holds Tryd.pinned (.plain (OpenSpec.upto fnCollationSpec)) fnCollationUptoCard
end Rows
end Go.Proofs.YtaeimdcmpjanbaaDoor
