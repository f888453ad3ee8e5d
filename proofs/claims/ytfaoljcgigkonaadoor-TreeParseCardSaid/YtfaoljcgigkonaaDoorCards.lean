/-
  DERIVED. GIVEN WITH THE SEED: THE CARDS: each row of YtfaoljcgigkonaaDoorRows.lean that lists a variable, with what it lists TIED to the program's text (the seventh form; the later family's looks); each row that meets fmt, with fmt's text TOLD by the authors' own Lean function (tested against real Go, not proved from fmt's source: count such statements apart). THE CARD IS WHAT COUNTS. Prove the row's statement (the work); the ties are given (YtfaoljcgigkonaaDoorTie.lean); close each card by the builder's one call (the guide's Derived/Test/ToyasCard.lean, 'card_holds'). Laid BY PROGRAM, IN A SANDBOX (cutbox-door.mjs). By AI agents, Wed Nov 11 2026. No macro, syntax, notation, axiom, sorry.
-/
import Derived.Test.YtfaoljcgigkonaaDoorRows
import GoSem.ClaimSeven
namespace Go.Proofs.YtfaoljcgigkonaaDoor
namespace Rows

/-- THE TIED CARD OF 'emendatelaw23.TreeValid'. -/
def treeValidCard : Claim7 := { stood := { row := treeValidRow, standIns := [], harness := (true, "5c4130923de8101c827670d6a12e4c51c89cdb54c4325216f2d94f1e04ea424d"), looks := true }, kinds := [], alts := [], laidByText := true, laidKinds := [.data, .data, .data], laidTests := true, laidLooks := .later }
def TreeValidCardSaid : Prop := Claim7.holds Tryd.pinned (.plain (OpenSpec.ofChange treeValidSpec)) treeValidCard

/-- THE TIED CARD OF 'emendatelaw23.TreeMeasures'. -/
def treeMeasuresCard : Claim7 := { stood := { row := treeMeasuresRow, standIns := [], harness := (true, "5c4130923de8101c827670d6a12e4c51c89cdb54c4325216f2d94f1e04ea424d"), looks := true }, kinds := [], alts := [], laidByText := true, laidKinds := [.data, .data, .data], laidTests := true, laidLooks := .later }
def TreeMeasuresCardSaid : Prop := Claim7.holds Tryd.pinned (.plain (OpenSpec.ofChange treeMeasuresSpec)) treeMeasuresCard

/-- THE TIED CARD OF 'emendatelaw23.TreeEqual'. -/
def treeEqualCard : Claim7 := { stood := { row := treeEqualRow, standIns := [], harness := (true, "5c4130923de8101c827670d6a12e4c51c89cdb54c4325216f2d94f1e04ea424d"), looks := true }, kinds := [], alts := [], laidByText := true, laidKinds := [.data, .data, .data], laidTests := true, laidLooks := .later }
def TreeEqualCardSaid : Prop := Claim7.holds Tryd.pinned (.plain (OpenSpec.ofChange treeEqualSpec)) treeEqualCard

/-- THE TIED CARD OF 'emendatelaw23.TreeFormat'. -/
def treeFormatCard : Claim7 := { stood := { row := treeFormatRow, standIns := [], harness := (true, "5c4130923de8101c827670d6a12e4c51c89cdb54c4325216f2d94f1e04ea424d"), looks := true }, kinds := [], alts := [], laidByText := true, laidKinds := [.data, .data, .data], laidTests := true, laidLooks := .later }
def TreeFormatCardSaid : Prop := Claim7.holds Tryd.pinned (.plain (OpenSpec.ofChange treeFormatSpec)) treeFormatCard

/-- THE TIED CARD OF 'emendatelaw23.TreeParse'. -/
def treeParseCard : Claim7 := { stood := { row := treeParseRow, standIns := [], harness := (true, "5c4130923de8101c827670d6a12e4c51c89cdb54c4325216f2d94f1e04ea424d"), looks := true }, kinds := [], alts := [], laidByText := true, laidKinds := [.data, .data, .data], laidTests := true, laidLooks := .later }
def TreeParseCardSaid : Prop := Claim7.holds Tryd.pinned (.plain (OpenSpec.ofChange treeParseSpec)) treeParseCard

/-- THE TIED CARD OF 'emendatelaw23.TreeLift'. -/
def treeLiftCard : Claim7 := { stood := { row := treeLiftRow, standIns := [], harness := (true, "5c4130923de8101c827670d6a12e4c51c89cdb54c4325216f2d94f1e04ea424d"), looks := true }, kinds := [], alts := [], laidByText := true, laidKinds := [.data, .data, .data], laidTests := true, laidLooks := .later }
def TreeLiftCardSaid : Prop := Claim7.holds Tryd.pinned (.plain (OpenSpec.ofChange treeLiftSpec)) treeLiftCard

/-- THE SECOND FORM's CARD OF 'emendatelaw23.TreeValid'. -/
def treeValidUptoCard : Claim7 := { stood := { row := treeValidUptoRow, standIns := [], harness := (true, "5c4130923de8101c827670d6a12e4c51c89cdb54c4325216f2d94f1e04ea424d"), looks := true }, kinds := [], alts := [], laidByText := true, laidKinds := [.data, .data, .data], laidTests := true, laidLooks := .later }
def TreeValidUptoCardSaid : Prop := Claim7.holds Tryd.pinned (.plain (OpenSpec.upto treeValidSpec)) treeValidUptoCard

/-- THE SECOND FORM's CARD OF 'emendatelaw23.TreeMeasures'. -/
def treeMeasuresUptoCard : Claim7 := { stood := { row := treeMeasuresUptoRow, standIns := [], harness := (true, "5c4130923de8101c827670d6a12e4c51c89cdb54c4325216f2d94f1e04ea424d"), looks := true }, kinds := [], alts := [], laidByText := true, laidKinds := [.data, .data, .data], laidTests := true, laidLooks := .later }
def TreeMeasuresUptoCardSaid : Prop := Claim7.holds Tryd.pinned (.plain (OpenSpec.upto treeMeasuresSpec)) treeMeasuresUptoCard

/-- THE SECOND FORM's CARD OF 'emendatelaw23.TreeEqual'. -/
def treeEqualUptoCard : Claim7 := { stood := { row := treeEqualUptoRow, standIns := [], harness := (true, "5c4130923de8101c827670d6a12e4c51c89cdb54c4325216f2d94f1e04ea424d"), looks := true }, kinds := [], alts := [], laidByText := true, laidKinds := [.data, .data, .data], laidTests := true, laidLooks := .later }
def TreeEqualUptoCardSaid : Prop := Claim7.holds Tryd.pinned (.plain (OpenSpec.upto treeEqualSpec)) treeEqualUptoCard

/-- THE SECOND FORM's CARD OF 'emendatelaw23.TreeFormat'. -/
def treeFormatUptoCard : Claim7 := { stood := { row := treeFormatUptoRow, standIns := [], harness := (true, "5c4130923de8101c827670d6a12e4c51c89cdb54c4325216f2d94f1e04ea424d"), looks := true }, kinds := [], alts := [], laidByText := true, laidKinds := [.data, .data, .data], laidTests := true, laidLooks := .later }
def TreeFormatUptoCardSaid : Prop := Claim7.holds Tryd.pinned (.plain (OpenSpec.upto treeFormatSpec)) treeFormatUptoCard

/-- THE SECOND FORM's CARD OF 'emendatelaw23.TreeParse'. -/
def treeParseUptoCard : Claim7 := { stood := { row := treeParseUptoRow, standIns := [], harness := (true, "5c4130923de8101c827670d6a12e4c51c89cdb54c4325216f2d94f1e04ea424d"), looks := true }, kinds := [], alts := [], laidByText := true, laidKinds := [.data, .data, .data], laidTests := true, laidLooks := .later }
def TreeParseUptoCardSaid : Prop := Claim7.holds Tryd.pinned (.plain (OpenSpec.upto treeParseSpec)) treeParseUptoCard

/-- THE SECOND FORM's CARD OF 'emendatelaw23.TreeLift'. -/
def treeLiftUptoCard : Claim7 := { stood := { row := treeLiftUptoRow, standIns := [], harness := (true, "5c4130923de8101c827670d6a12e4c51c89cdb54c4325216f2d94f1e04ea424d"), looks := true }, kinds := [], alts := [], laidByText := true, laidKinds := [.data, .data, .data], laidTests := true, laidLooks := .later }
def TreeLiftUptoCardSaid : Prop := Claim7.holds Tryd.pinned (.plain (OpenSpec.upto treeLiftSpec)) treeLiftUptoCard
end Rows
end Go.Proofs.YtfaoljcgigkonaaDoor
