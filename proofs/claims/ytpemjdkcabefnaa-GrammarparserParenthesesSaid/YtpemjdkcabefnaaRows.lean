/-
  NARROWER THAN 'FOR EVERY INPUT', by the rows' own cells (each row's printed sentence says how): GrammarparserParentheses: loops.
  DERIVED. THE GIVEN ROWS OF THIS SEAT. 5 by the template 'for every input the law returns true; each argument reads behind the call as it read before'; 0 by the template 'total and deterministic' (their statements: YtpemjdkcabefnaaTotals.lean).
  GIVEN WITH THE SEED: the statements are not yours to turn. If you find one false, say at which input.
  Laid BY PROGRAM, IN A SANDBOX (cutbox-rows.mjs): the forced cells as the released guide's own fill.sh prints them over the translation e5a58d36bf921b51… (all of the seat's roots in one cut). By AI agents, Wed Nov 11 2026. No macro, syntax, notation, axiom, sorry.
-/
import Derived.Test.YtpemjdkcabefnaaChecked
import GoSem.Claim
import GoSem.ClaimJoined
import GoSem.ClaimMapViews
import Derived.JoinedTies
import Derived.KernelRfl
namespace Go.Proofs.Ytpemjdkcabefnaa
/- THE CELL 'sum', in the pinned program and in every row, IS THE sha256 OF THE DUMP (.gsa) THAT YtpemjdkcabefnaaProg.lean LOADS. Nothing in Lean hashes anything: it is a label: what it is worth is what the hold of that sum in a sandbox is worth. -/
noncomputable def Try.pinned : Pinned := { name := "ytpemjdkcabefnaa", sum := "e5a58d36bf921b51fb2b6102cdacf84d765ee2a400bd4c3f130101c114398884", checked := Try.checked }
namespace Rows
def none {H : Type} : Left H := { results := [], args := [] }

/-- 'emendatelaw17.GrammarparserParse': WHATEVER THE INPUT: true; the input reads as it did. -/
def grammarparserParseSpec : ChangeSpec := { name := "grammarparserParse", fn := fun _ => fun
  | [d] => { results := [.lit (.bool true)], args := [d] }
  | _ => none }
def grammarparserParseRow : OpenClaim := { program := "ytpemjdkcabefnaa", sum := "e5a58d36bf921b51fb2b6102cdacf84d765ee2a400bd4c3f130101c114398884", func := "emendate/emendatelaw17.GrammarparserParse", spec := "grammarparserParse", unfollowed := true, recurses := true, apart := false }
def GrammarparserParseSaid : Prop := grammarparserParseRow.holds Try.pinned (OpenSpec.ofChange grammarparserParseSpec)

/-- ITS FALSE NEIGHBOUR: 'it returns false'. Refute it at one input. -/
def grammarparserParseWrong : ChangeSpec := { name := "grammarparserParse", fn := fun _ => fun
  | [d] => { results := [.lit (.bool false)], args := [d] }
  | _ => none }
def GrammarparserParseWrongFalsely : Prop := grammarparserParseRow.holds Try.pinned (OpenSpec.ofChange grammarparserParseWrong)

/-- 'emendatelaw17.GrammarparserWhiteSpace': WHATEVER THE INPUT: true; the input reads as it did. -/
def grammarparserWhiteSpaceSpec : ChangeSpec := { name := "grammarparserWhiteSpace", fn := fun _ => fun
  | [d1, d2] => { results := [.lit (.bool true)], args := [d1, d2] }
  | _ => none }
def grammarparserWhiteSpaceRow : OpenClaim := { program := "ytpemjdkcabefnaa", sum := "e5a58d36bf921b51fb2b6102cdacf84d765ee2a400bd4c3f130101c114398884", func := "emendate/emendatelaw17.GrammarparserWhiteSpace", spec := "grammarparserWhiteSpace", unfollowed := true, recurses := true, apart := false }
def GrammarparserWhiteSpaceSaid : Prop := grammarparserWhiteSpaceRow.holds Try.pinned (OpenSpec.ofChange grammarparserWhiteSpaceSpec)

/-- ITS FALSE NEIGHBOUR: 'it returns false'. Refute it at one input. -/
def grammarparserWhiteSpaceWrong : ChangeSpec := { name := "grammarparserWhiteSpace", fn := fun _ => fun
  | [d1, d2] => { results := [.lit (.bool false)], args := [d1, d2] }
  | _ => none }
def GrammarparserWhiteSpaceWrongFalsely : Prop := grammarparserWhiteSpaceRow.holds Try.pinned (OpenSpec.ofChange grammarparserWhiteSpaceWrong)

/-- 'emendatelaw17.GrammarparserErrorIsFinal': WHATEVER THE INPUT: true; the input reads as it did. -/
def grammarparserErrorIsFinalSpec : ChangeSpec := { name := "grammarparserErrorIsFinal", fn := fun _ => fun
  | [d1, d2] => { results := [.lit (.bool true)], args := [d1, d2] }
  | _ => none }
def grammarparserErrorIsFinalRow : OpenClaim := { program := "ytpemjdkcabefnaa", sum := "e5a58d36bf921b51fb2b6102cdacf84d765ee2a400bd4c3f130101c114398884", func := "emendate/emendatelaw17.GrammarparserErrorIsFinal", spec := "grammarparserErrorIsFinal", unfollowed := true, recurses := true, apart := false }
def GrammarparserErrorIsFinalSaid : Prop := grammarparserErrorIsFinalRow.holds Try.pinned (OpenSpec.ofChange grammarparserErrorIsFinalSpec)

/-- ITS FALSE NEIGHBOUR: 'it returns false'. Refute it at one input. -/
def grammarparserErrorIsFinalWrong : ChangeSpec := { name := "grammarparserErrorIsFinal", fn := fun _ => fun
  | [d1, d2] => { results := [.lit (.bool false)], args := [d1, d2] }
  | _ => none }
def GrammarparserErrorIsFinalWrongFalsely : Prop := grammarparserErrorIsFinalRow.holds Try.pinned (OpenSpec.ofChange grammarparserErrorIsFinalWrong)

/-- 'emendatelaw17.GrammarparserViablePrefix': WHATEVER THE INPUT: true; the input reads as it did. -/
def grammarparserViablePrefixSpec : ChangeSpec := { name := "grammarparserViablePrefix", fn := fun _ => fun
  | [d] => { results := [.lit (.bool true)], args := [d] }
  | _ => none }
def grammarparserViablePrefixRow : OpenClaim := { program := "ytpemjdkcabefnaa", sum := "e5a58d36bf921b51fb2b6102cdacf84d765ee2a400bd4c3f130101c114398884", func := "emendate/emendatelaw17.GrammarparserViablePrefix", spec := "grammarparserViablePrefix", unfollowed := true, recurses := true, apart := false }
def GrammarparserViablePrefixSaid : Prop := grammarparserViablePrefixRow.holds Try.pinned (OpenSpec.ofChange grammarparserViablePrefixSpec)

/-- ITS FALSE NEIGHBOUR: 'it returns false'. Refute it at one input. -/
def grammarparserViablePrefixWrong : ChangeSpec := { name := "grammarparserViablePrefix", fn := fun _ => fun
  | [d] => { results := [.lit (.bool false)], args := [d] }
  | _ => none }
def GrammarparserViablePrefixWrongFalsely : Prop := grammarparserViablePrefixRow.holds Try.pinned (OpenSpec.ofChange grammarparserViablePrefixWrong)

/-- 'emendatelaw17.GrammarparserParentheses': WHATEVER THE INPUT: true; the input reads as it did. -/
def grammarparserParenthesesSpec : ChangeSpec := { name := "grammarparserParentheses", fn := fun _ => fun
  | [d1, d2] => { results := [.lit (.bool true)], args := [d1, d2] }
  | _ => none }
def grammarparserParenthesesRow : OpenClaim := { program := "ytpemjdkcabefnaa", sum := "e5a58d36bf921b51fb2b6102cdacf84d765ee2a400bd4c3f130101c114398884", func := "emendate/emendatelaw17.GrammarparserParentheses", spec := "grammarparserParentheses", unfollowed := true, recurses := true, loops := true, apart := false }
def GrammarparserParenthesesSaid : Prop := grammarparserParenthesesRow.holds Try.pinned (OpenSpec.ofChange grammarparserParenthesesSpec)

/-- ITS FALSE NEIGHBOUR: 'it returns false'. Refute it at one input. -/
def grammarparserParenthesesWrong : ChangeSpec := { name := "grammarparserParentheses", fn := fun _ => fun
  | [d1, d2] => { results := [.lit (.bool false)], args := [d1, d2] }
  | _ => none }
def GrammarparserParenthesesWrongFalsely : Prop := grammarparserParenthesesRow.holds Try.pinned (OpenSpec.ofChange grammarparserParenthesesWrong)

/- THE SECOND FORM. 'bulk': how many values and letters a reading holds, each counted each time it is reached (what is shared counts as often as it is met; a slice's spare places count too). A statement '..UptoSaid' is the law's where the arguments, and the package variables that the reading takes, are together of bulk at most 1048576: NARROWER than '..Said'. Prove '..Said' where nothing that the law and all that it calls make is longer than what came in: it says more and counts as full. Else prove '..UptoSaid'. A law counts once. -/
mutual
def uptoBulk {H : Type} : DataW H → Nat
  | .lit (.string bytes) => bytes.length + 1
  | .lit _ => 1
  | .nil => 1
  | .ptr d => uptoBulk d + 1
  | .slice elems spare => uptoBulkAll elems + uptoBulkAll spare + 1
  | .agg parts => uptoBulkAll parts + 1
  | .iface _ d => uptoBulk d + 1
  | .map entries => uptoBulkEntries entries + 1
  | .held _ => 1
def uptoBulkAll {H : Type} : List (DataW H) → Nat
  | [] => 0
  | d :: r => uptoBulk d + uptoBulkAll r
def uptoBulkEntries {H : Type} : List (Lit × DataW H) → Nat
  | [] => 0
  | x :: r => uptoBulkEntry x + uptoBulkEntries r
def uptoBulkEntry {H : Type} : Lit × DataW H → Nat
  | (.string bytes, d) => bytes.length + uptoBulk d + 1
  | (_, d) => uptoBulk d + 1
 end
def uptoSmall : (H : Type) → List (DataW H) → Bool := fun _ ds => decide (uptoBulkAll ds ≤ 1048576)
def OpenSpec.upto (s : _root_.Go.ChangeSpec) : _root_.Go.OpenSpec := { _root_.Go.OpenSpec.ofChange s with cond := some uptoSmall }

/-- 'emendatelaw17.GrammarparserParse', WHERE WHAT IT READS IS OF BULK AT MOST 1048576: true; the input reads as it did. -/
def grammarparserParseUptoRow : OpenClaim := { program := "ytpemjdkcabefnaa", sum := "e5a58d36bf921b51fb2b6102cdacf84d765ee2a400bd4c3f130101c114398884", func := "emendate/emendatelaw17.GrammarparserParse", spec := "grammarparserParse", unfollowed := true, recurses := true, apart := false, narrowed := true }
def GrammarparserParseUptoSaid : Prop := grammarparserParseUptoRow.holds Try.pinned (OpenSpec.upto grammarparserParseSpec)

/-- 'emendatelaw17.GrammarparserWhiteSpace', WHERE WHAT IT READS IS OF BULK AT MOST 1048576: true; the input reads as it did. -/
def grammarparserWhiteSpaceUptoRow : OpenClaim := { program := "ytpemjdkcabefnaa", sum := "e5a58d36bf921b51fb2b6102cdacf84d765ee2a400bd4c3f130101c114398884", func := "emendate/emendatelaw17.GrammarparserWhiteSpace", spec := "grammarparserWhiteSpace", unfollowed := true, recurses := true, apart := false, narrowed := true }
def GrammarparserWhiteSpaceUptoSaid : Prop := grammarparserWhiteSpaceUptoRow.holds Try.pinned (OpenSpec.upto grammarparserWhiteSpaceSpec)

/-- 'emendatelaw17.GrammarparserErrorIsFinal', WHERE WHAT IT READS IS OF BULK AT MOST 1048576: true; the input reads as it did. -/
def grammarparserErrorIsFinalUptoRow : OpenClaim := { program := "ytpemjdkcabefnaa", sum := "e5a58d36bf921b51fb2b6102cdacf84d765ee2a400bd4c3f130101c114398884", func := "emendate/emendatelaw17.GrammarparserErrorIsFinal", spec := "grammarparserErrorIsFinal", unfollowed := true, recurses := true, apart := false, narrowed := true }
def GrammarparserErrorIsFinalUptoSaid : Prop := grammarparserErrorIsFinalUptoRow.holds Try.pinned (OpenSpec.upto grammarparserErrorIsFinalSpec)

/-- 'emendatelaw17.GrammarparserViablePrefix', WHERE WHAT IT READS IS OF BULK AT MOST 1048576: true; the input reads as it did. -/
def grammarparserViablePrefixUptoRow : OpenClaim := { program := "ytpemjdkcabefnaa", sum := "e5a58d36bf921b51fb2b6102cdacf84d765ee2a400bd4c3f130101c114398884", func := "emendate/emendatelaw17.GrammarparserViablePrefix", spec := "grammarparserViablePrefix", unfollowed := true, recurses := true, apart := false, narrowed := true }
def GrammarparserViablePrefixUptoSaid : Prop := grammarparserViablePrefixUptoRow.holds Try.pinned (OpenSpec.upto grammarparserViablePrefixSpec)

/-- 'emendatelaw17.GrammarparserParentheses', WHERE WHAT IT READS IS OF BULK AT MOST 1048576: true; the input reads as it did. -/
def grammarparserParenthesesUptoRow : OpenClaim := { program := "ytpemjdkcabefnaa", sum := "e5a58d36bf921b51fb2b6102cdacf84d765ee2a400bd4c3f130101c114398884", func := "emendate/emendatelaw17.GrammarparserParentheses", spec := "grammarparserParentheses", unfollowed := true, recurses := true, loops := true, apart := false, narrowed := true }
def GrammarparserParenthesesUptoSaid : Prop := grammarparserParenthesesUptoRow.holds Try.pinned (OpenSpec.upto grammarparserParenthesesSpec)

end Rows
end Go.Proofs.Ytpemjdkcabefnaa
