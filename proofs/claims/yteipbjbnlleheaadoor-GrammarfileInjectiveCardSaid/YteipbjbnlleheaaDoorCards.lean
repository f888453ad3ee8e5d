/-
  DERIVED. GIVEN WITH THE SEED: THE CARDS: each row of YteipbjbnlleheaaDoorRows.lean that lists a variable, with what it lists TIED to the program's text (the seventh form; the later family's looks); each row that meets fmt, with fmt's text TOLD by the authors' own Lean function (tested against real Go, not proved from fmt's source: count such statements apart). THE CARD IS WHAT COUNTS. Prove the row's statement (the work); the ties are given (YteipbjbnlleheaaDoorTie.lean); close each card by the builder's one call (the guide's Derived/Test/ToyasCard.lean, 'card_holds'). Laid BY PROGRAM, IN A SANDBOX (cutbox-door.mjs). By AI agents, Wed Nov 11 2026. No macro, syntax, notation, axiom, sorry.
-/
import Derived.Test.YteipbjbnlleheaaDoorRows
import GoSem.ClaimSeven
namespace Go.Proofs.YteipbjbnlleheaaDoor
namespace Rows

/-- THE TIED CARD OF 'emendatelaw16.GrammarfileValid'. -/
def grammarfileValidCard : Claim7 := { stood := { row := grammarfileValidRow, standIns := [], harness := (true, "a71ef5e395d5ffcf675b96ea4e3f2ccac557752f693d679340424a3e21ee5945"), looks := false }, kinds := [], alts := [], laidByText := true, laidKinds := [.data, .data, .data], laidTests := true, laidLooks := .later }
def GrammarfileValidCardSaid : Prop := Claim7.holds Tryd.pinned (.plain (OpenSpec.ofChange grammarfileValidSpec)) grammarfileValidCard

/-- THE TIED CARD OF 'emendatelaw16.GrammarfileEqual'. -/
def grammarfileEqualCard : Claim7 := { stood := { row := grammarfileEqualRow, standIns := [], harness := (true, "a71ef5e395d5ffcf675b96ea4e3f2ccac557752f693d679340424a3e21ee5945"), looks := false }, kinds := [], alts := [], laidByText := true, laidKinds := [.data, .data, .data], laidTests := true, laidLooks := .later }
def GrammarfileEqualCardSaid : Prop := Claim7.holds Tryd.pinned (.plain (OpenSpec.ofChange grammarfileEqualSpec)) grammarfileEqualCard

/-- THE TIED CARD OF 'emendatelaw16.GrammarfileFormat'. -/
def grammarfileFormatCard : Claim7 := { stood := { row := grammarfileFormatRow, standIns := [], harness := (true, "a71ef5e395d5ffcf675b96ea4e3f2ccac557752f693d679340424a3e21ee5945"), looks := false }, kinds := [], alts := [], laidByText := true, laidKinds := [.data, .data, .data], laidTests := true, laidLooks := .later }
def GrammarfileFormatCardSaid : Prop := Claim7.holds Tryd.pinned (.plain (OpenSpec.ofChange grammarfileFormatSpec)) grammarfileFormatCard

/-- THE TIED CARD OF 'emendatelaw16.GrammarfileInjective'. -/
def grammarfileInjectiveCard : Claim7 := { stood := { row := grammarfileInjectiveRow, standIns := [], harness := (true, "a71ef5e395d5ffcf675b96ea4e3f2ccac557752f693d679340424a3e21ee5945"), looks := false }, kinds := [], alts := [], laidByText := true, laidKinds := [.data, .data, .data], laidTests := true, laidLooks := .later }
def GrammarfileInjectiveCardSaid : Prop := Claim7.holds Tryd.pinned (.plain (OpenSpec.ofChange grammarfileInjectiveSpec)) grammarfileInjectiveCard

/-- THE TIED CARD OF 'emendatelaw16.GrammarfileLines'. -/
def grammarfileLinesCard : Claim7 := { stood := { row := grammarfileLinesRow, standIns := [], harness := (true, "a71ef5e395d5ffcf675b96ea4e3f2ccac557752f693d679340424a3e21ee5945"), looks := false }, kinds := [], alts := [], laidByText := true, laidKinds := [.data, .data, .data], laidTests := true, laidLooks := .later }
def GrammarfileLinesCardSaid : Prop := Claim7.holds Tryd.pinned (.plain (OpenSpec.ofChange grammarfileLinesSpec)) grammarfileLinesCard

/-- THE TIED CARD OF 'emendatelaw16.GrammarfileNest'. -/
def grammarfileNestCard : Claim7 := { stood := { row := grammarfileNestRow, standIns := [], harness := (true, "a71ef5e395d5ffcf675b96ea4e3f2ccac557752f693d679340424a3e21ee5945"), looks := false }, kinds := [], alts := [], laidByText := true, laidKinds := [.data, .data, .data], laidTests := true, laidLooks := .later }
def GrammarfileNestCardSaid : Prop := Claim7.holds Tryd.pinned (.plain (OpenSpec.ofChange grammarfileNestSpec)) grammarfileNestCard

/-- THE SECOND FORM's CARD OF 'emendatelaw16.GrammarfileValid'. -/
def grammarfileValidUptoCard : Claim7 := { stood := { row := grammarfileValidUptoRow, standIns := [], harness := (true, "a71ef5e395d5ffcf675b96ea4e3f2ccac557752f693d679340424a3e21ee5945"), looks := false }, kinds := [], alts := [], laidByText := true, laidKinds := [.data, .data, .data], laidTests := true, laidLooks := .later }
def GrammarfileValidUptoCardSaid : Prop := Claim7.holds Tryd.pinned (.plain (OpenSpec.upto grammarfileValidSpec)) grammarfileValidUptoCard

/-- THE SECOND FORM's CARD OF 'emendatelaw16.GrammarfileEqual'. -/
def grammarfileEqualUptoCard : Claim7 := { stood := { row := grammarfileEqualUptoRow, standIns := [], harness := (true, "a71ef5e395d5ffcf675b96ea4e3f2ccac557752f693d679340424a3e21ee5945"), looks := false }, kinds := [], alts := [], laidByText := true, laidKinds := [.data, .data, .data], laidTests := true, laidLooks := .later }
def GrammarfileEqualUptoCardSaid : Prop := Claim7.holds Tryd.pinned (.plain (OpenSpec.upto grammarfileEqualSpec)) grammarfileEqualUptoCard

/-- THE SECOND FORM's CARD OF 'emendatelaw16.GrammarfileFormat'. -/
def grammarfileFormatUptoCard : Claim7 := { stood := { row := grammarfileFormatUptoRow, standIns := [], harness := (true, "a71ef5e395d5ffcf675b96ea4e3f2ccac557752f693d679340424a3e21ee5945"), looks := false }, kinds := [], alts := [], laidByText := true, laidKinds := [.data, .data, .data], laidTests := true, laidLooks := .later }
def GrammarfileFormatUptoCardSaid : Prop := Claim7.holds Tryd.pinned (.plain (OpenSpec.upto grammarfileFormatSpec)) grammarfileFormatUptoCard

/-- THE SECOND FORM's CARD OF 'emendatelaw16.GrammarfileInjective'. -/
def grammarfileInjectiveUptoCard : Claim7 := { stood := { row := grammarfileInjectiveUptoRow, standIns := [], harness := (true, "a71ef5e395d5ffcf675b96ea4e3f2ccac557752f693d679340424a3e21ee5945"), looks := false }, kinds := [], alts := [], laidByText := true, laidKinds := [.data, .data, .data], laidTests := true, laidLooks := .later }
def GrammarfileInjectiveUptoCardSaid : Prop := Claim7.holds Tryd.pinned (.plain (OpenSpec.upto grammarfileInjectiveSpec)) grammarfileInjectiveUptoCard

/-- THE SECOND FORM's CARD OF 'emendatelaw16.GrammarfileLines'. -/
def grammarfileLinesUptoCard : Claim7 := { stood := { row := grammarfileLinesUptoRow, standIns := [], harness := (true, "a71ef5e395d5ffcf675b96ea4e3f2ccac557752f693d679340424a3e21ee5945"), looks := false }, kinds := [], alts := [], laidByText := true, laidKinds := [.data, .data, .data], laidTests := true, laidLooks := .later }
def GrammarfileLinesUptoCardSaid : Prop := Claim7.holds Tryd.pinned (.plain (OpenSpec.upto grammarfileLinesSpec)) grammarfileLinesUptoCard

/-- THE SECOND FORM's CARD OF 'emendatelaw16.GrammarfileNest'. -/
def grammarfileNestUptoCard : Claim7 := { stood := { row := grammarfileNestUptoRow, standIns := [], harness := (true, "a71ef5e395d5ffcf675b96ea4e3f2ccac557752f693d679340424a3e21ee5945"), looks := false }, kinds := [], alts := [], laidByText := true, laidKinds := [.data, .data, .data], laidTests := true, laidLooks := .later }
def GrammarfileNestUptoCardSaid : Prop := Claim7.holds Tryd.pinned (.plain (OpenSpec.upto grammarfileNestSpec)) grammarfileNestUptoCard
end Rows
end Go.Proofs.YteipbjbnlleheaaDoor
