/-
  DERIVED. GIVEN WITH THE SEED: THE CARDS: each row of YtbjeoainfloiaaaDoorRows.lean that lists a variable, with what it lists TIED to the program's text (the seventh form; the later family's looks); each row that meets fmt, with fmt's text TOLD by the authors' own Lean function (tested against real Go, not proved from fmt's source: count such statements apart). THE CARD IS WHAT COUNTS. Prove the row's statement (the work); the ties are given (YtbjeoainfloiaaaDoorTie.lean); close each card by the builder's one call (the guide's Derived/Test/ToyasCard.lean, 'card_holds'). Laid BY PROGRAM, IN A SANDBOX (cutbox-door.mjs). By AI agents, Wed Nov 11 2026. No macro, syntax, notation, axiom, sorry.
-/
import Derived.Test.YtbjeoainfloiaaaDoorRows
import GoSem.ClaimSeven
namespace Go.Proofs.YtbjeoainfloiaaaDoor
namespace Rows

/-- THE TIED CARD OF 'emendatelaw19.DesugarGrammar'. -/
def desugarGrammarCard : Claim7 := { stood := { row := desugarGrammarRow, standIns := [], harness := (true, "42bff180d358134702136ca83ad8eaebf1220e2e39f82334018af1827fd2277a"), looks := false }, kinds := [], alts := [], laidByText := true, laidKinds := [.data, .data, .data], laidTests := true, laidLooks := .later }
def DesugarGrammarCardSaid : Prop := Claim7.holds Tryd.pinned (.plain (OpenSpec.ofChange desugarGrammarSpec)) desugarGrammarCard

/-- THE TIED CARD OF 'emendatelaw19.DesugarLanguage'. -/
def desugarLanguageCard : Claim7 := { stood := { row := desugarLanguageRow, standIns := [], harness := (true, "42bff180d358134702136ca83ad8eaebf1220e2e39f82334018af1827fd2277a"), looks := false }, kinds := [], alts := [], laidByText := true, laidKinds := [.data, .data, .data], laidTests := true, laidLooks := .later }
def DesugarLanguageCardSaid : Prop := Claim7.holds Tryd.pinned (.plain (OpenSpec.ofChange desugarLanguageSpec)) desugarLanguageCard

/-- THE TIED CARD OF 'emendatelaw19.DesugarFrom'. -/
def desugarFromCard : Claim7 := { stood := { row := desugarFromRow, standIns := [], harness := (true, "42bff180d358134702136ca83ad8eaebf1220e2e39f82334018af1827fd2277a"), looks := false }, kinds := [], alts := [], laidByText := true, laidKinds := [.data, .data, .data], laidTests := true, laidLooks := .later }
def DesugarFromCardSaid : Prop := Claim7.holds Tryd.pinned (.plain (OpenSpec.ofChange desugarFromSpec)) desugarFromCard

/-- THE TIED CARD OF 'emendatelaw19.DesugarPlain'. -/
def desugarPlainCard : Claim7 := { stood := { row := desugarPlainRow, standIns := [], harness := (true, "42bff180d358134702136ca83ad8eaebf1220e2e39f82334018af1827fd2277a"), looks := false }, kinds := [], alts := [], laidByText := true, laidKinds := [.data, .data, .data], laidTests := true, laidLooks := .later }
def DesugarPlainCardSaid : Prop := Claim7.holds Tryd.pinned (.plain (OpenSpec.ofChange desugarPlainSpec)) desugarPlainCard

/-- THE TIED CARD OF 'emendatelaw19.DesugarErrors'. -/
def desugarErrorsCard : Claim7 := { stood := { row := desugarErrorsRow, standIns := [], harness := (true, "42bff180d358134702136ca83ad8eaebf1220e2e39f82334018af1827fd2277a"), looks := false }, kinds := [], alts := [], laidByText := true, laidKinds := [.data, .data, .data], laidTests := true, laidLooks := .later }
def DesugarErrorsCardSaid : Prop := Claim7.holds Tryd.pinned (.plain (OpenSpec.ofChange desugarErrorsSpec)) desugarErrorsCard

/-- THE SECOND FORM's CARD OF 'emendatelaw19.DesugarGrammar'. -/
def desugarGrammarUptoCard : Claim7 := { stood := { row := desugarGrammarUptoRow, standIns := [], harness := (true, "42bff180d358134702136ca83ad8eaebf1220e2e39f82334018af1827fd2277a"), looks := false }, kinds := [], alts := [], laidByText := true, laidKinds := [.data, .data, .data], laidTests := true, laidLooks := .later }
def DesugarGrammarUptoCardSaid : Prop := Claim7.holds Tryd.pinned (.plain (OpenSpec.upto desugarGrammarSpec)) desugarGrammarUptoCard

/-- THE SECOND FORM's CARD OF 'emendatelaw19.DesugarLanguage'. -/
def desugarLanguageUptoCard : Claim7 := { stood := { row := desugarLanguageUptoRow, standIns := [], harness := (true, "42bff180d358134702136ca83ad8eaebf1220e2e39f82334018af1827fd2277a"), looks := false }, kinds := [], alts := [], laidByText := true, laidKinds := [.data, .data, .data], laidTests := true, laidLooks := .later }
def DesugarLanguageUptoCardSaid : Prop := Claim7.holds Tryd.pinned (.plain (OpenSpec.upto desugarLanguageSpec)) desugarLanguageUptoCard

/-- THE SECOND FORM's CARD OF 'emendatelaw19.DesugarFrom'. -/
def desugarFromUptoCard : Claim7 := { stood := { row := desugarFromUptoRow, standIns := [], harness := (true, "42bff180d358134702136ca83ad8eaebf1220e2e39f82334018af1827fd2277a"), looks := false }, kinds := [], alts := [], laidByText := true, laidKinds := [.data, .data, .data], laidTests := true, laidLooks := .later }
def DesugarFromUptoCardSaid : Prop := Claim7.holds Tryd.pinned (.plain (OpenSpec.upto desugarFromSpec)) desugarFromUptoCard

/-- THE SECOND FORM's CARD OF 'emendatelaw19.DesugarPlain'. -/
def desugarPlainUptoCard : Claim7 := { stood := { row := desugarPlainUptoRow, standIns := [], harness := (true, "42bff180d358134702136ca83ad8eaebf1220e2e39f82334018af1827fd2277a"), looks := false }, kinds := [], alts := [], laidByText := true, laidKinds := [.data, .data, .data], laidTests := true, laidLooks := .later }
def DesugarPlainUptoCardSaid : Prop := Claim7.holds Tryd.pinned (.plain (OpenSpec.upto desugarPlainSpec)) desugarPlainUptoCard

/-- THE SECOND FORM's CARD OF 'emendatelaw19.DesugarErrors'. -/
def desugarErrorsUptoCard : Claim7 := { stood := { row := desugarErrorsUptoRow, standIns := [], harness := (true, "42bff180d358134702136ca83ad8eaebf1220e2e39f82334018af1827fd2277a"), looks := false }, kinds := [], alts := [], laidByText := true, laidKinds := [.data, .data, .data], laidTests := true, laidLooks := .later }
def DesugarErrorsUptoCardSaid : Prop := Claim7.holds Tryd.pinned (.plain (OpenSpec.upto desugarErrorsSpec)) desugarErrorsUptoCard
end Rows
end Go.Proofs.YtbjeoainfloiaaaDoor
