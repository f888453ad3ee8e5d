/-
  DERIVED. GIVEN WITH THE SEED: THE CARDS: each row of YtfaoljcgigkonabDoorRows.lean that lists a variable, with what it lists TIED to the program's text (the seventh form; the later family's looks); each row that meets fmt, with fmt's text TOLD by the authors' own Lean function (tested against real Go, not proved from fmt's source: count such statements apart). THE CARD IS WHAT COUNTS. Prove the row's statement (the work); the ties are given (YtfaoljcgigkonabDoorTie.lean); close each card by the builder's one call (the guide's Derived/Test/ToyasCard.lean, 'card_holds'). Laid BY PROGRAM, IN A SANDBOX (cutbox-door.mjs). By AI agents, Wed Nov 11 2026. No macro, syntax, notation, axiom, sorry.
-/
import Derived.Test.YtfaoljcgigkonabDoorRows
import GoSem.ClaimSeven
namespace Go.Proofs.YtfaoljcgigkonabDoor
namespace Rows

/-- THE TIED CARD OF 'emendatelaw23.TreeLiftStratified'. -/
def treeLiftStratifiedCard : Claim7 := { stood := { row := treeLiftStratifiedRow, standIns := [], harness := (true, "e4e2b627a338623095ab162970f91b09f978c2f6adddd6e89154c8e0140eaaea"), looks := true }, kinds := [], alts := [], laidByText := true, laidKinds := [.data, .data, .data], laidTests := true, laidLooks := .later }
def TreeLiftStratifiedCardSaid : Prop := Claim7.holds Tryd.pinned (.plain (OpenSpec.ofChange treeLiftStratifiedSpec)) treeLiftStratifiedCard

/-- THE SECOND FORM's CARD OF 'emendatelaw23.TreeLiftStratified'. -/
def treeLiftStratifiedUptoCard : Claim7 := { stood := { row := treeLiftStratifiedUptoRow, standIns := [], harness := (true, "e4e2b627a338623095ab162970f91b09f978c2f6adddd6e89154c8e0140eaaea"), looks := true }, kinds := [], alts := [], laidByText := true, laidKinds := [.data, .data, .data], laidTests := true, laidLooks := .later }
def TreeLiftStratifiedUptoCardSaid : Prop := Claim7.holds Tryd.pinned (.plain (OpenSpec.upto treeLiftStratifiedSpec)) treeLiftStratifiedUptoCard
end Rows
end Go.Proofs.YtfaoljcgigkonabDoor
