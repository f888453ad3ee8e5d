/-
  DERIVED. GIVEN WITH THE SEED: THE CARDS: each row of YtpemjdkcabefnabDoorRows.lean that lists a variable, with what it lists TIED to the program's text (the seventh form; the later family's looks); each row that meets fmt, with fmt's text TOLD by the authors' own Lean function (tested against real Go, not proved from fmt's source: count such statements apart). THE CARD IS WHAT COUNTS. Prove the row's statement (the work); the ties are given (YtpemjdkcabefnabDoorTie.lean); close each card by the builder's one call (the guide's Derived/Test/ToyasCard.lean, 'card_holds'). Laid BY PROGRAM, IN A SANDBOX (cutbox-door.mjs). By AI agents, Wed Nov 11 2026. No macro, syntax, notation, axiom, sorry.
-/
import Derived.Test.YtpemjdkcabefnabDoorRows
import GoSem.ClaimSeven
namespace Go.Proofs.YtpemjdkcabefnabDoor
namespace Rows

/-- THE TIED CARD OF 'emendatelaw17.GrammarparserValid'. -/
def grammarparserValidCard : Claim7 := { stood := { row := grammarparserValidRow, standIns := [], harness := (true, "0df4cc81eeeb99a12dbed5e549a069e9c74c485125844f9a3445fb088df36949"), looks := true }, kinds := [], alts := [], laidByText := true, laidKinds := [.data, .data, .data], laidTests := true, laidLooks := .later }
def GrammarparserValidCardSaid : Prop := Claim7.holds Tryd.pinned (.plain (OpenSpec.ofChange grammarparserValidSpec)) grammarparserValidCard

/-- THE SECOND FORM's CARD OF 'emendatelaw17.GrammarparserValid'. -/
def grammarparserValidUptoCard : Claim7 := { stood := { row := grammarparserValidUptoRow, standIns := [], harness := (true, "0df4cc81eeeb99a12dbed5e549a069e9c74c485125844f9a3445fb088df36949"), looks := true }, kinds := [], alts := [], laidByText := true, laidKinds := [.data, .data, .data], laidTests := true, laidLooks := .later }
def GrammarparserValidUptoCardSaid : Prop := Claim7.holds Tryd.pinned (.plain (OpenSpec.upto grammarparserValidSpec)) grammarparserValidUptoCard
end Rows
end Go.Proofs.YtpemjdkcabefnabDoor
