/-
  DERIVED. GIVEN WITH THE SEED: THE CARDS: each row of YtpemjdkcabefnaaDoorRows.lean that lists a variable, with what it lists TIED to the program's text (the seventh form; the later family's looks); each row that meets fmt, with fmt's text TOLD by the authors' own Lean function (tested against real Go, not proved from fmt's source: count such statements apart). THE CARD IS WHAT COUNTS. Prove the row's statement (the work); the ties are given (YtpemjdkcabefnaaDoorTie.lean); close each card by the builder's one call (the guide's Derived/Test/ToyasCard.lean, 'card_holds'). Laid BY PROGRAM, IN A SANDBOX (cutbox-door.mjs). By AI agents, Wed Nov 11 2026. No macro, syntax, notation, axiom, sorry.
-/
import Derived.Test.YtpemjdkcabefnaaDoorRows
import GoSem.ClaimSeven
namespace Go.Proofs.YtpemjdkcabefnaaDoor
namespace Rows

/-- THE TIED CARD OF 'emendatelaw17.GrammarparserRoundTrip'. -/
def grammarparserRoundTripCard : Claim7 := { stood := { row := grammarparserRoundTripRow, standIns := [], harness := (true, "4e67886b0b8bbfa357cff4ff7146a0e575ecfc7eba046876910ed5059ae35e07"), looks := true }, kinds := [], alts := [], laidByText := true, laidKinds := [.data, .data, .data], laidTests := true, laidLooks := .later }
def GrammarparserRoundTripCardSaid : Prop := Claim7.holds Tryd.pinned (.plain (OpenSpec.ofChange grammarparserRoundTripSpec)) grammarparserRoundTripCard

/-- THE SECOND FORM's CARD OF 'emendatelaw17.GrammarparserRoundTrip'. -/
def grammarparserRoundTripUptoCard : Claim7 := { stood := { row := grammarparserRoundTripUptoRow, standIns := [], harness := (true, "4e67886b0b8bbfa357cff4ff7146a0e575ecfc7eba046876910ed5059ae35e07"), looks := true }, kinds := [], alts := [], laidByText := true, laidKinds := [.data, .data, .data], laidTests := true, laidLooks := .later }
def GrammarparserRoundTripUptoCardSaid : Prop := Claim7.holds Tryd.pinned (.plain (OpenSpec.upto grammarparserRoundTripSpec)) grammarparserRoundTripUptoCard
end Rows
end Go.Proofs.YtpemjdkcabefnaaDoor
