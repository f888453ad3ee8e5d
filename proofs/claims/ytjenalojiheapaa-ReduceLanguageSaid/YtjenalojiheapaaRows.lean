/-
  No cell of these rows narrows 'for every input' (looked for: loops, veiled, ifaces, maps, wideKeys, modest, calm, conditions, laid).
  DERIVED. THE GIVEN ROWS OF THIS SEAT. 5 by the template 'for every input the law returns true; each argument reads behind the call as it read before'; 0 by the template 'total and deterministic' (their statements: YtjenalojiheapaaTotals.lean).
  GIVEN WITH THE SEED: the statements are not yours to turn. If you find one false, say at which input.
  Laid BY PROGRAM, IN A SANDBOX (cutbox-rows.mjs): the forced cells as the released guide's own fill.sh prints them over the translation 1b1a0d8c7ff650a0… (all of the seat's roots in one cut). By AI agents, Wed Nov 11 2026. No macro, syntax, notation, axiom, sorry.
-/
import Derived.Test.YtjenalojiheapaaChecked
import GoSem.Claim
import GoSem.ClaimJoined
import GoSem.ClaimMapViews
import Derived.JoinedTies
import Derived.KernelRfl
namespace Go.Proofs.Ytjenalojiheapaa
/- THE CELL 'sum', in the pinned program and in every row, IS THE sha256 OF THE DUMP (.gsa) THAT YtjenalojiheapaaProg.lean LOADS. Nothing in Lean hashes anything: it is a label: what it is worth is what the hold of that sum in a sandbox is worth. -/
noncomputable def Try.pinned : Pinned := { name := "ytjenalojiheapaa", sum := "1b1a0d8c7ff650a07410658ed2f6e443d22ec25b5e95041f2771d277e4c8541d", checked := Try.checked }
namespace Rows
def none {H : Type} : Left H := { results := [], args := [] }

/-- 'emendatelaw22.ReduceGrammar': WHATEVER THE INPUT: true; the input reads as it did. -/
def reduceGrammarSpec : ChangeSpec := { name := "reduceGrammar", fn := fun _ => fun
  | [d] => { results := [.lit (.bool true)], args := [d] }
  | _ => none }
def reduceGrammarRow : OpenClaim := { program := "ytjenalojiheapaa", sum := "1b1a0d8c7ff650a07410658ed2f6e443d22ec25b5e95041f2771d277e4c8541d", func := "emendate/emendatelaw22.ReduceGrammar", spec := "reduceGrammar", inPlace := ["internal/bytealg.IndexByteString", "internal/bytealg.IndexString"], unfollowed := true, recurses := true, named := ["internal/bytealg.MaxLen"], apart := false }
def ReduceGrammarSaid : Prop := reduceGrammarRow.holds Try.pinned (OpenSpec.ofChange reduceGrammarSpec)

/-- ITS FALSE NEIGHBOUR: 'it returns false'. Refute it at one input. -/
def reduceGrammarWrong : ChangeSpec := { name := "reduceGrammar", fn := fun _ => fun
  | [d] => { results := [.lit (.bool false)], args := [d] }
  | _ => none }
def ReduceGrammarWrongFalsely : Prop := reduceGrammarRow.holds Try.pinned (OpenSpec.ofChange reduceGrammarWrong)

/-- 'emendatelaw22.ReduceLanguage': WHATEVER THE INPUT: true; the input reads as it did. -/
def reduceLanguageSpec : ChangeSpec := { name := "reduceLanguage", fn := fun _ => fun
  | [d1, d2] => { results := [.lit (.bool true)], args := [d1, d2] }
  | _ => none }
def reduceLanguageRow : OpenClaim := { program := "ytjenalojiheapaa", sum := "1b1a0d8c7ff650a07410658ed2f6e443d22ec25b5e95041f2771d277e4c8541d", func := "emendate/emendatelaw22.ReduceLanguage", spec := "reduceLanguage", inPlace := ["internal/bytealg.IndexByteString", "internal/bytealg.IndexString"], unfollowed := true, recurses := true, named := ["internal/bytealg.MaxLen"], apart := false }
def ReduceLanguageSaid : Prop := reduceLanguageRow.holds Try.pinned (OpenSpec.ofChange reduceLanguageSpec)

/-- ITS FALSE NEIGHBOUR: 'it returns false'. Refute it at one input. -/
def reduceLanguageWrong : ChangeSpec := { name := "reduceLanguage", fn := fun _ => fun
  | [d1, d2] => { results := [.lit (.bool false)], args := [d1, d2] }
  | _ => none }
def ReduceLanguageWrongFalsely : Prop := reduceLanguageRow.holds Try.pinned (OpenSpec.ofChange reduceLanguageWrong)

/-- 'emendatelaw22.ReduceIdempotent': WHATEVER THE INPUT: true; the input reads as it did. -/
def reduceIdempotentSpec : ChangeSpec := { name := "reduceIdempotent", fn := fun _ => fun
  | [d] => { results := [.lit (.bool true)], args := [d] }
  | _ => none }
def reduceIdempotentRow : OpenClaim := { program := "ytjenalojiheapaa", sum := "1b1a0d8c7ff650a07410658ed2f6e443d22ec25b5e95041f2771d277e4c8541d", func := "emendate/emendatelaw22.ReduceIdempotent", spec := "reduceIdempotent", inPlace := ["internal/bytealg.IndexByteString", "internal/bytealg.IndexString"], unfollowed := true, recurses := true, named := ["internal/bytealg.MaxLen"], apart := false }
def ReduceIdempotentSaid : Prop := reduceIdempotentRow.holds Try.pinned (OpenSpec.ofChange reduceIdempotentSpec)

/-- ITS FALSE NEIGHBOUR: 'it returns false'. Refute it at one input. -/
def reduceIdempotentWrong : ChangeSpec := { name := "reduceIdempotent", fn := fun _ => fun
  | [d] => { results := [.lit (.bool false)], args := [d] }
  | _ => none }
def ReduceIdempotentWrongFalsely : Prop := reduceIdempotentRow.holds Try.pinned (OpenSpec.ofChange reduceIdempotentWrong)

/-- 'emendatelaw22.ReduceFrom': WHATEVER THE INPUT: true; the input reads as it did. -/
def reduceFromSpec : ChangeSpec := { name := "reduceFrom", fn := fun _ => fun
  | [d] => { results := [.lit (.bool true)], args := [d] }
  | _ => none }
def reduceFromRow : OpenClaim := { program := "ytjenalojiheapaa", sum := "1b1a0d8c7ff650a07410658ed2f6e443d22ec25b5e95041f2771d277e4c8541d", func := "emendate/emendatelaw22.ReduceFrom", spec := "reduceFrom", inPlace := ["internal/bytealg.IndexByteString", "internal/bytealg.IndexString"], unfollowed := true, recurses := true, named := ["internal/bytealg.MaxLen"], apart := false }
def ReduceFromSaid : Prop := reduceFromRow.holds Try.pinned (OpenSpec.ofChange reduceFromSpec)

/-- ITS FALSE NEIGHBOUR: 'it returns false'. Refute it at one input. -/
def reduceFromWrong : ChangeSpec := { name := "reduceFrom", fn := fun _ => fun
  | [d] => { results := [.lit (.bool false)], args := [d] }
  | _ => none }
def ReduceFromWrongFalsely : Prop := reduceFromRow.holds Try.pinned (OpenSpec.ofChange reduceFromWrong)

/-- 'emendatelaw22.ReduceUseful': WHATEVER THE INPUT: true; the input reads as it did. -/
def reduceUsefulSpec : ChangeSpec := { name := "reduceUseful", fn := fun _ => fun
  | [d] => { results := [.lit (.bool true)], args := [d] }
  | _ => none }
def reduceUsefulRow : OpenClaim := { program := "ytjenalojiheapaa", sum := "1b1a0d8c7ff650a07410658ed2f6e443d22ec25b5e95041f2771d277e4c8541d", func := "emendate/emendatelaw22.ReduceUseful", spec := "reduceUseful", inPlace := ["internal/bytealg.IndexByteString", "internal/bytealg.IndexString"], unfollowed := true, recurses := true, named := ["internal/bytealg.MaxLen"], apart := false }
def ReduceUsefulSaid : Prop := reduceUsefulRow.holds Try.pinned (OpenSpec.ofChange reduceUsefulSpec)

/-- ITS FALSE NEIGHBOUR: 'it returns false'. Refute it at one input. -/
def reduceUsefulWrong : ChangeSpec := { name := "reduceUseful", fn := fun _ => fun
  | [d] => { results := [.lit (.bool false)], args := [d] }
  | _ => none }
def ReduceUsefulWrongFalsely : Prop := reduceUsefulRow.holds Try.pinned (OpenSpec.ofChange reduceUsefulWrong)

/- THE SECOND FORM. 'bulk': how many values and letters a reading holds, each counted each time it is reached (what is shared counts as often as it is met; a slice's spare places count too). A statement '..UptoSaid' is the law's where the arguments, and the package variables that the reading takes, are together of bulk at most 1048576: NARROWER than '..Said'. Prove '..Said' where nothing that the law and all that it calls make is longer than what came in: it says more and counts as full. Else prove '..UptoSaid'. A law counts once. -/
mutual
def uptoBulk {H : Type} : DataW H → Nat
  | .lit (.string bytes) => bytes.length + 1
  | .lit _ => 1
  | .nil => 1
  | .ptr d => uptoBulk d + 1
  | .slice elems spare => uptoBulkAll elems + uptoBulkAll spare + 1
  | .agg parts => uptoBulkAll parts + 1
  | .iface _ d => uptoBulk d + 1
  | .map entries => uptoBulkEntries entries + 1
  | .held _ => 1
def uptoBulkAll {H : Type} : List (DataW H) → Nat
  | [] => 0
  | d :: r => uptoBulk d + uptoBulkAll r
def uptoBulkEntries {H : Type} : List (Lit × DataW H) → Nat
  | [] => 0
  | x :: r => uptoBulkEntry x + uptoBulkEntries r
def uptoBulkEntry {H : Type} : Lit × DataW H → Nat
  | (.string bytes, d) => bytes.length + uptoBulk d + 1
  | (_, d) => uptoBulk d + 1
 end
def uptoSmall : (H : Type) → List (DataW H) → Bool := fun _ ds => decide (uptoBulkAll ds ≤ 1048576)
def OpenSpec.upto (s : _root_.Go.ChangeSpec) : _root_.Go.OpenSpec := { _root_.Go.OpenSpec.ofChange s with cond := some uptoSmall }

/-- 'emendatelaw22.ReduceGrammar', WHERE WHAT IT READS IS OF BULK AT MOST 1048576: true; the input reads as it did. -/
def reduceGrammarUptoRow : OpenClaim := { program := "ytjenalojiheapaa", sum := "1b1a0d8c7ff650a07410658ed2f6e443d22ec25b5e95041f2771d277e4c8541d", func := "emendate/emendatelaw22.ReduceGrammar", spec := "reduceGrammar", inPlace := ["internal/bytealg.IndexByteString", "internal/bytealg.IndexString"], unfollowed := true, recurses := true, named := ["internal/bytealg.MaxLen"], apart := false, narrowed := true }
def ReduceGrammarUptoSaid : Prop := reduceGrammarUptoRow.holds Try.pinned (OpenSpec.upto reduceGrammarSpec)

/-- 'emendatelaw22.ReduceLanguage', WHERE WHAT IT READS IS OF BULK AT MOST 1048576: true; the input reads as it did. -/
def reduceLanguageUptoRow : OpenClaim := { program := "ytjenalojiheapaa", sum := "1b1a0d8c7ff650a07410658ed2f6e443d22ec25b5e95041f2771d277e4c8541d", func := "emendate/emendatelaw22.ReduceLanguage", spec := "reduceLanguage", inPlace := ["internal/bytealg.IndexByteString", "internal/bytealg.IndexString"], unfollowed := true, recurses := true, named := ["internal/bytealg.MaxLen"], apart := false, narrowed := true }
def ReduceLanguageUptoSaid : Prop := reduceLanguageUptoRow.holds Try.pinned (OpenSpec.upto reduceLanguageSpec)

/-- 'emendatelaw22.ReduceIdempotent', WHERE WHAT IT READS IS OF BULK AT MOST 1048576: true; the input reads as it did. -/
def reduceIdempotentUptoRow : OpenClaim := { program := "ytjenalojiheapaa", sum := "1b1a0d8c7ff650a07410658ed2f6e443d22ec25b5e95041f2771d277e4c8541d", func := "emendate/emendatelaw22.ReduceIdempotent", spec := "reduceIdempotent", inPlace := ["internal/bytealg.IndexByteString", "internal/bytealg.IndexString"], unfollowed := true, recurses := true, named := ["internal/bytealg.MaxLen"], apart := false, narrowed := true }
def ReduceIdempotentUptoSaid : Prop := reduceIdempotentUptoRow.holds Try.pinned (OpenSpec.upto reduceIdempotentSpec)

/-- 'emendatelaw22.ReduceFrom', WHERE WHAT IT READS IS OF BULK AT MOST 1048576: true; the input reads as it did. -/
def reduceFromUptoRow : OpenClaim := { program := "ytjenalojiheapaa", sum := "1b1a0d8c7ff650a07410658ed2f6e443d22ec25b5e95041f2771d277e4c8541d", func := "emendate/emendatelaw22.ReduceFrom", spec := "reduceFrom", inPlace := ["internal/bytealg.IndexByteString", "internal/bytealg.IndexString"], unfollowed := true, recurses := true, named := ["internal/bytealg.MaxLen"], apart := false, narrowed := true }
def ReduceFromUptoSaid : Prop := reduceFromUptoRow.holds Try.pinned (OpenSpec.upto reduceFromSpec)

/-- 'emendatelaw22.ReduceUseful', WHERE WHAT IT READS IS OF BULK AT MOST 1048576: true; the input reads as it did. -/
def reduceUsefulUptoRow : OpenClaim := { program := "ytjenalojiheapaa", sum := "1b1a0d8c7ff650a07410658ed2f6e443d22ec25b5e95041f2771d277e4c8541d", func := "emendate/emendatelaw22.ReduceUseful", spec := "reduceUseful", inPlace := ["internal/bytealg.IndexByteString", "internal/bytealg.IndexString"], unfollowed := true, recurses := true, named := ["internal/bytealg.MaxLen"], apart := false, narrowed := true }
def ReduceUsefulUptoSaid : Prop := reduceUsefulUptoRow.holds Try.pinned (OpenSpec.upto reduceUsefulSpec)

end Rows
end Go.Proofs.Ytjenalojiheapaa
