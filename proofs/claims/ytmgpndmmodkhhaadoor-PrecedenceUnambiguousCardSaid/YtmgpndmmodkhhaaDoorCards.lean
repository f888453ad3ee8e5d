/-
  DERIVED. GIVEN WITH THE SEED: THE CARDS: each row of YtmgpndmmodkhhaaDoorRows.lean that lists a variable, with what it lists TIED to the program's text (the seventh form; the later family's looks); each row that meets fmt, with fmt's text TOLD by the authors' own Lean function (tested against real Go, not proved from fmt's source: count such statements apart). THE CARD IS WHAT COUNTS. Prove the row's statement (the work); the ties are given (YtmgpndmmodkhhaaDoorTie.lean); close each card by the builder's one call (the guide's Derived/Test/ToyasCard.lean, 'card_holds'). Laid BY PROGRAM, IN A SANDBOX (cutbox-door.mjs). By AI agents, Wed Nov 11 2026. No macro, syntax, notation, axiom, sorry.
-/
import Derived.Test.YtmgpndmmodkhhaaDoorRows
import GoSem.ClaimSeven
namespace Go.Proofs.YtmgpndmmodkhhaaDoor
namespace Rows

/-- THE TIED CARD OF 'emendatelaw20.PrecedenceCheck'. -/
def precedenceCheckCard : Claim7 := { stood := { row := precedenceCheckRow, standIns := [], harness := (true, "c2a031dc71f34548be84c8285f6f47588f1a7a693f25c0ae84bbf7a83237c468"), looks := false }, kinds := [], alts := [], laidByText := true, laidKinds := [.data, .data, .data], laidTests := true, laidLooks := .later }
def PrecedenceCheckCardSaid : Prop := Claim7.holds Tryd.pinned (.plain (OpenSpec.ofChange precedenceCheckSpec)) precedenceCheckCard

/-- THE TIED CARD OF 'emendatelaw20.PrecedenceStratify'. -/
def precedenceStratifyCard : Claim7 := { stood := { row := precedenceStratifyRow, standIns := [], harness := (true, "c2a031dc71f34548be84c8285f6f47588f1a7a693f25c0ae84bbf7a83237c468"), looks := false }, kinds := [], alts := [], laidByText := true, laidKinds := [.data, .data, .data], laidTests := true, laidLooks := .later }
def PrecedenceStratifyCardSaid : Prop := Claim7.holds Tryd.pinned (.plain (OpenSpec.ofChange precedenceStratifySpec)) precedenceStratifyCard

/-- THE TIED CARD OF 'emendatelaw20.PrecedenceRules'. -/
def precedenceRulesCard : Claim7 := { stood := { row := precedenceRulesRow, standIns := [], harness := (true, "c2a031dc71f34548be84c8285f6f47588f1a7a693f25c0ae84bbf7a83237c468"), looks := false }, kinds := [], alts := [], laidByText := true, laidKinds := [.data, .data, .data], laidTests := true, laidLooks := .later }
def PrecedenceRulesCardSaid : Prop := Claim7.holds Tryd.pinned (.plain (OpenSpec.ofChange precedenceRulesSpec)) precedenceRulesCard

/-- THE TIED CARD OF 'emendatelaw20.PrecedenceSameSentences'. -/
def precedenceSameSentencesCard : Claim7 := { stood := { row := precedenceSameSentencesRow, standIns := [], harness := (true, "c2a031dc71f34548be84c8285f6f47588f1a7a693f25c0ae84bbf7a83237c468"), looks := false }, kinds := [], alts := [], laidByText := true, laidKinds := [.data, .data, .data], laidTests := true, laidLooks := .later }
def PrecedenceSameSentencesCardSaid : Prop := Claim7.holds Tryd.pinned (.plain (OpenSpec.ofChange precedenceSameSentencesSpec)) precedenceSameSentencesCard

/-- THE TIED CARD OF 'emendatelaw20.PrecedenceUnambiguous'. -/
def precedenceUnambiguousCard : Claim7 := { stood := { row := precedenceUnambiguousRow, standIns := [], harness := (true, "c2a031dc71f34548be84c8285f6f47588f1a7a693f25c0ae84bbf7a83237c468"), looks := false }, kinds := [], alts := [], laidByText := true, laidKinds := [.data, .data, .data], laidTests := true, laidLooks := .later }
def PrecedenceUnambiguousCardSaid : Prop := Claim7.holds Tryd.pinned (.plain (OpenSpec.ofChange precedenceUnambiguousSpec)) precedenceUnambiguousCard

/-- THE TIED CARD OF 'emendatelaw20.PrecedenceGrouping'. -/
def precedenceGroupingCard : Claim7 := { stood := { row := precedenceGroupingRow, standIns := [], harness := (true, "c2a031dc71f34548be84c8285f6f47588f1a7a693f25c0ae84bbf7a83237c468"), looks := false }, kinds := [], alts := [], laidByText := true, laidKinds := [.data, .data, .data], laidTests := true, laidLooks := .later }
def PrecedenceGroupingCardSaid : Prop := Claim7.holds Tryd.pinned (.plain (OpenSpec.ofChange precedenceGroupingSpec)) precedenceGroupingCard

/-- THE TIED CARD OF 'emendatelaw20.PrecedenceNoLevels'. -/
def precedenceNoLevelsCard : Claim7 := { stood := { row := precedenceNoLevelsRow, standIns := [], harness := (true, "c2a031dc71f34548be84c8285f6f47588f1a7a693f25c0ae84bbf7a83237c468"), looks := false }, kinds := [], alts := [], laidByText := true, laidKinds := [.data, .data, .data], laidTests := true, laidLooks := .later }
def PrecedenceNoLevelsCardSaid : Prop := Claim7.holds Tryd.pinned (.plain (OpenSpec.ofChange precedenceNoLevelsSpec)) precedenceNoLevelsCard

/-- THE SECOND FORM's CARD OF 'emendatelaw20.PrecedenceCheck'. -/
def precedenceCheckUptoCard : Claim7 := { stood := { row := precedenceCheckUptoRow, standIns := [], harness := (true, "c2a031dc71f34548be84c8285f6f47588f1a7a693f25c0ae84bbf7a83237c468"), looks := false }, kinds := [], alts := [], laidByText := true, laidKinds := [.data, .data, .data], laidTests := true, laidLooks := .later }
def PrecedenceCheckUptoCardSaid : Prop := Claim7.holds Tryd.pinned (.plain (OpenSpec.upto precedenceCheckSpec)) precedenceCheckUptoCard

/-- THE SECOND FORM's CARD OF 'emendatelaw20.PrecedenceStratify'. -/
def precedenceStratifyUptoCard : Claim7 := { stood := { row := precedenceStratifyUptoRow, standIns := [], harness := (true, "c2a031dc71f34548be84c8285f6f47588f1a7a693f25c0ae84bbf7a83237c468"), looks := false }, kinds := [], alts := [], laidByText := true, laidKinds := [.data, .data, .data], laidTests := true, laidLooks := .later }
def PrecedenceStratifyUptoCardSaid : Prop := Claim7.holds Tryd.pinned (.plain (OpenSpec.upto precedenceStratifySpec)) precedenceStratifyUptoCard

/-- THE SECOND FORM's CARD OF 'emendatelaw20.PrecedenceRules'. -/
def precedenceRulesUptoCard : Claim7 := { stood := { row := precedenceRulesUptoRow, standIns := [], harness := (true, "c2a031dc71f34548be84c8285f6f47588f1a7a693f25c0ae84bbf7a83237c468"), looks := false }, kinds := [], alts := [], laidByText := true, laidKinds := [.data, .data, .data], laidTests := true, laidLooks := .later }
def PrecedenceRulesUptoCardSaid : Prop := Claim7.holds Tryd.pinned (.plain (OpenSpec.upto precedenceRulesSpec)) precedenceRulesUptoCard

/-- THE SECOND FORM's CARD OF 'emendatelaw20.PrecedenceSameSentences'. -/
def precedenceSameSentencesUptoCard : Claim7 := { stood := { row := precedenceSameSentencesUptoRow, standIns := [], harness := (true, "c2a031dc71f34548be84c8285f6f47588f1a7a693f25c0ae84bbf7a83237c468"), looks := false }, kinds := [], alts := [], laidByText := true, laidKinds := [.data, .data, .data], laidTests := true, laidLooks := .later }
def PrecedenceSameSentencesUptoCardSaid : Prop := Claim7.holds Tryd.pinned (.plain (OpenSpec.upto precedenceSameSentencesSpec)) precedenceSameSentencesUptoCard

/-- THE SECOND FORM's CARD OF 'emendatelaw20.PrecedenceUnambiguous'. -/
def precedenceUnambiguousUptoCard : Claim7 := { stood := { row := precedenceUnambiguousUptoRow, standIns := [], harness := (true, "c2a031dc71f34548be84c8285f6f47588f1a7a693f25c0ae84bbf7a83237c468"), looks := false }, kinds := [], alts := [], laidByText := true, laidKinds := [.data, .data, .data], laidTests := true, laidLooks := .later }
def PrecedenceUnambiguousUptoCardSaid : Prop := Claim7.holds Tryd.pinned (.plain (OpenSpec.upto precedenceUnambiguousSpec)) precedenceUnambiguousUptoCard

/-- THE SECOND FORM's CARD OF 'emendatelaw20.PrecedenceGrouping'. -/
def precedenceGroupingUptoCard : Claim7 := { stood := { row := precedenceGroupingUptoRow, standIns := [], harness := (true, "c2a031dc71f34548be84c8285f6f47588f1a7a693f25c0ae84bbf7a83237c468"), looks := false }, kinds := [], alts := [], laidByText := true, laidKinds := [.data, .data, .data], laidTests := true, laidLooks := .later }
def PrecedenceGroupingUptoCardSaid : Prop := Claim7.holds Tryd.pinned (.plain (OpenSpec.upto precedenceGroupingSpec)) precedenceGroupingUptoCard

/-- THE SECOND FORM's CARD OF 'emendatelaw20.PrecedenceNoLevels'. -/
def precedenceNoLevelsUptoCard : Claim7 := { stood := { row := precedenceNoLevelsUptoRow, standIns := [], harness := (true, "c2a031dc71f34548be84c8285f6f47588f1a7a693f25c0ae84bbf7a83237c468"), looks := false }, kinds := [], alts := [], laidByText := true, laidKinds := [.data, .data, .data], laidTests := true, laidLooks := .later }
def PrecedenceNoLevelsUptoCardSaid : Prop := Claim7.holds Tryd.pinned (.plain (OpenSpec.upto precedenceNoLevelsSpec)) precedenceNoLevelsUptoCard
end Rows
end Go.Proofs.YtmgpndmmodkhhaaDoor
