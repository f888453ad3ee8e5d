/-
  NARROWER THAN 'FOR EVERY INPUT', by the rows' own cells (each row's printed sentence says how): PrecedenceCheck: laid · PrecedenceStratify: laid · PrecedenceRules: laid · PrecedenceSameSentences: laid · PrecedenceUnambiguous: laid · PrecedenceGrouping: laid · PrecedenceNoLevels: laid.
  DERIVED. THE GIVEN ROWS OF THIS SEAT. 7 by the template 'for every input the law returns true; each argument reads behind the call as it read before'; 0 by the template 'total and deterministic' (their statements: YtmgpndmmodkhhaaDoorTotals.lean).
  GIVEN WITH THE SEED: the statements are not yours to turn. If you find one false, say at which input.
  Laid BY PROGRAM, IN A SANDBOX (cutbox-rows.mjs): the forced cells as the released guide's own fill.sh prints them over the translation a7f1dbb0288cbed9… (all of the seat's roots in one cut). By AI agents, Wed Nov 11 2026. No macro, syntax, notation, axiom, sorry.
-/
import Derived.Test.YtmgpndmmodkhhaaDoorChecked
import GoSem.Claim
import GoSem.ClaimJoined
import GoSem.ClaimMapViews
import Derived.JoinedTies
import Derived.KernelRfl
namespace Go.Proofs.YtmgpndmmodkhhaaDoor
/- THE CELL 'sum', in the pinned program and in every row, IS THE sha256 OF THE DUMP (.gsa) THAT YtmgpndmmodkhhaaDoorProg.lean LOADS. Nothing in Lean hashes anything: it is a label: what it is worth is what the hold of that sum in a sandbox is worth. -/
noncomputable def Tryd.pinned : Pinned := { name := "ytmgpndmmodkhhaadoor", sum := "a7f1dbb0288cbed9d17a0addb716eecfa38f68409e0a55dddad6970360b5ec51", checked := Tryd.checked }
namespace Rows
def none {H : Type} : Left H := { results := [], args := [] }

/- WHAT THE LISTED PACKAGE-LEVEL VARIABLES READ AS WHEN THE CALL BEGINS. Each datum BY PROGRAM (the guide's laid-datum.mjs) off the statement by which the dump's own 'gosem.cut.vars' lays the variable. In a bare row this is a premise. The card (YtmgpndmmodkhhaaDoorCards.lean) ties it to the program's text. -/
def laid_math_bits_deBruijn32tab {H : Type} : DataW H := .agg [.lit (.int .u8 0), .lit (.int .u8 1), .lit (.int .u8 28), .lit (.int .u8 2), .lit (.int .u8 29), .lit (.int .u8 14), .lit (.int .u8 24), .lit (.int .u8 3), .lit (.int .u8 30), .lit (.int .u8 22), .lit (.int .u8 20), .lit (.int .u8 15), .lit (.int .u8 25), .lit (.int .u8 17), .lit (.int .u8 4), .lit (.int .u8 8), .lit (.int .u8 31), .lit (.int .u8 27), .lit (.int .u8 13), .lit (.int .u8 23), .lit (.int .u8 21), .lit (.int .u8 19), .lit (.int .u8 16), .lit (.int .u8 7), .lit (.int .u8 26), .lit (.int .u8 12), .lit (.int .u8 18), .lit (.int .u8 6), .lit (.int .u8 11), .lit (.int .u8 5), .lit (.int .u8 10), .lit (.int .u8 9)]
def laid_math_bits_deBruijn64tab {H : Type} : DataW H := .agg [.lit (.int .u8 0), .lit (.int .u8 1), .lit (.int .u8 56), .lit (.int .u8 2), .lit (.int .u8 57), .lit (.int .u8 49), .lit (.int .u8 28), .lit (.int .u8 3), .lit (.int .u8 61), .lit (.int .u8 58), .lit (.int .u8 42), .lit (.int .u8 50), .lit (.int .u8 38), .lit (.int .u8 29), .lit (.int .u8 17), .lit (.int .u8 4), .lit (.int .u8 62), .lit (.int .u8 47), .lit (.int .u8 59), .lit (.int .u8 36), .lit (.int .u8 45), .lit (.int .u8 43), .lit (.int .u8 51), .lit (.int .u8 22), .lit (.int .u8 53), .lit (.int .u8 39), .lit (.int .u8 33), .lit (.int .u8 30), .lit (.int .u8 24), .lit (.int .u8 18), .lit (.int .u8 12), .lit (.int .u8 5), .lit (.int .u8 63), .lit (.int .u8 55), .lit (.int .u8 48), .lit (.int .u8 27), .lit (.int .u8 60), .lit (.int .u8 41), .lit (.int .u8 37), .lit (.int .u8 16), .lit (.int .u8 46), .lit (.int .u8 35), .lit (.int .u8 44), .lit (.int .u8 21), .lit (.int .u8 52), .lit (.int .u8 32), .lit (.int .u8 23), .lit (.int .u8 11), .lit (.int .u8 54), .lit (.int .u8 26), .lit (.int .u8 40), .lit (.int .u8 15), .lit (.int .u8 34), .lit (.int .u8 20), .lit (.int .u8 31), .lit (.int .u8 10), .lit (.int .u8 25), .lit (.int .u8 14), .lit (.int .u8 19), .lit (.int .u8 9), .lit (.int .u8 13), .lit (.int .u8 8), .lit (.int .u8 7), .lit (.int .u8 6)]
def laid_internal_strconv_uint64pow10 {H : Type} : DataW H := .agg [.lit (.int .u64 1), .lit (.int .u64 10), .lit (.int .u64 100), .lit (.int .u64 1000), .lit (.int .u64 10000), .lit (.int .u64 100000), .lit (.int .u64 1000000), .lit (.int .u64 10000000), .lit (.int .u64 100000000), .lit (.int .u64 1000000000), .lit (.int .u64 10000000000), .lit (.int .u64 100000000000), .lit (.int .u64 1000000000000), .lit (.int .u64 10000000000000), .lit (.int .u64 100000000000000), .lit (.int .u64 1000000000000000), .lit (.int .u64 10000000000000000), .lit (.int .u64 100000000000000000), .lit (.int .u64 1000000000000000000), .lit (.int .u64 10000000000000000000)]

/-- 'emendatelaw20.PrecedenceCheck': WHATEVER THE INPUT: true; the input reads as it did. -/
def precedenceCheckSpec : ChangeSpec := { name := "precedenceCheck", fn := fun _ => fun
  | [d1, d2] => { results := [.lit (.bool true)], args := [d1, d2] }
  | _ => none }
def precedenceCheckRow : OpenClaim := { program := "ytmgpndmmodkhhaadoor", sum := "a7f1dbb0288cbed9d17a0addb716eecfa38f68409e0a55dddad6970360b5ec51", func := "emendate/emendatelaw20.PrecedenceCheck", spec := "precedenceCheck", inPlace := ["internal/bytealg.IndexByteString", "internal/bytealg.IndexString"], unfollowed := true, recurses := true, named := ["internal/bytealg.MaxLen", "internal/strconv.uint64pow10", "math/bits.deBruijn32tab", "math/bits.deBruijn64tab"], plainKeys := false, apart := false, laid := [("math/bits.deBruijn32tab", laid_math_bits_deBruijn32tab), ("math/bits.deBruijn64tab", laid_math_bits_deBruijn64tab), ("internal/strconv.uint64pow10", laid_internal_strconv_uint64pow10)] }
def PrecedenceCheckSaid : Prop := precedenceCheckRow.holds Tryd.pinned (OpenSpec.ofChange precedenceCheckSpec)

/-- ITS FALSE NEIGHBOUR: 'it returns false'. Refute it at one input. -/
def precedenceCheckWrong : ChangeSpec := { name := "precedenceCheck", fn := fun _ => fun
  | [d1, d2] => { results := [.lit (.bool false)], args := [d1, d2] }
  | _ => none }
def PrecedenceCheckWrongFalsely : Prop := precedenceCheckRow.holds Tryd.pinned (OpenSpec.ofChange precedenceCheckWrong)

/-- 'emendatelaw20.PrecedenceStratify': WHATEVER THE INPUT: true; the input reads as it did. -/
def precedenceStratifySpec : ChangeSpec := { name := "precedenceStratify", fn := fun _ => fun
  | [d1, d2] => { results := [.lit (.bool true)], args := [d1, d2] }
  | _ => none }
def precedenceStratifyRow : OpenClaim := { program := "ytmgpndmmodkhhaadoor", sum := "a7f1dbb0288cbed9d17a0addb716eecfa38f68409e0a55dddad6970360b5ec51", func := "emendate/emendatelaw20.PrecedenceStratify", spec := "precedenceStratify", inPlace := ["internal/bytealg.IndexByteString", "internal/bytealg.IndexString"], unfollowed := true, recurses := true, named := ["internal/bytealg.MaxLen", "internal/strconv.uint64pow10", "math/bits.deBruijn32tab", "math/bits.deBruijn64tab"], plainKeys := false, apart := false, laid := [("math/bits.deBruijn32tab", laid_math_bits_deBruijn32tab), ("math/bits.deBruijn64tab", laid_math_bits_deBruijn64tab), ("internal/strconv.uint64pow10", laid_internal_strconv_uint64pow10)] }
def PrecedenceStratifySaid : Prop := precedenceStratifyRow.holds Tryd.pinned (OpenSpec.ofChange precedenceStratifySpec)

/-- ITS FALSE NEIGHBOUR: 'it returns false'. Refute it at one input. -/
def precedenceStratifyWrong : ChangeSpec := { name := "precedenceStratify", fn := fun _ => fun
  | [d1, d2] => { results := [.lit (.bool false)], args := [d1, d2] }
  | _ => none }
def PrecedenceStratifyWrongFalsely : Prop := precedenceStratifyRow.holds Tryd.pinned (OpenSpec.ofChange precedenceStratifyWrong)

/-- 'emendatelaw20.PrecedenceRules': WHATEVER THE INPUT: true; the input reads as it did. -/
def precedenceRulesSpec : ChangeSpec := { name := "precedenceRules", fn := fun _ => fun
  | [d1, d2] => { results := [.lit (.bool true)], args := [d1, d2] }
  | _ => none }
def precedenceRulesRow : OpenClaim := { program := "ytmgpndmmodkhhaadoor", sum := "a7f1dbb0288cbed9d17a0addb716eecfa38f68409e0a55dddad6970360b5ec51", func := "emendate/emendatelaw20.PrecedenceRules", spec := "precedenceRules", inPlace := ["internal/bytealg.IndexByteString", "internal/bytealg.IndexString"], unfollowed := true, recurses := true, named := ["internal/bytealg.MaxLen", "internal/strconv.uint64pow10", "math/bits.deBruijn32tab", "math/bits.deBruijn64tab"], plainKeys := false, apart := false, laid := [("math/bits.deBruijn32tab", laid_math_bits_deBruijn32tab), ("math/bits.deBruijn64tab", laid_math_bits_deBruijn64tab), ("internal/strconv.uint64pow10", laid_internal_strconv_uint64pow10)] }
def PrecedenceRulesSaid : Prop := precedenceRulesRow.holds Tryd.pinned (OpenSpec.ofChange precedenceRulesSpec)

/-- ITS FALSE NEIGHBOUR: 'it returns false'. Refute it at one input. -/
def precedenceRulesWrong : ChangeSpec := { name := "precedenceRules", fn := fun _ => fun
  | [d1, d2] => { results := [.lit (.bool false)], args := [d1, d2] }
  | _ => none }
def PrecedenceRulesWrongFalsely : Prop := precedenceRulesRow.holds Tryd.pinned (OpenSpec.ofChange precedenceRulesWrong)

/-- 'emendatelaw20.PrecedenceSameSentences': WHATEVER THE INPUT: true; the input reads as it did. -/
def precedenceSameSentencesSpec : ChangeSpec := { name := "precedenceSameSentences", fn := fun _ => fun
  | [d1, d2, d3] => { results := [.lit (.bool true)], args := [d1, d2, d3] }
  | _ => none }
def precedenceSameSentencesRow : OpenClaim := { program := "ytmgpndmmodkhhaadoor", sum := "a7f1dbb0288cbed9d17a0addb716eecfa38f68409e0a55dddad6970360b5ec51", func := "emendate/emendatelaw20.PrecedenceSameSentences", spec := "precedenceSameSentences", inPlace := ["internal/bytealg.IndexByteString", "internal/bytealg.IndexString"], unfollowed := true, recurses := true, named := ["internal/bytealg.MaxLen", "internal/strconv.uint64pow10", "math/bits.deBruijn32tab", "math/bits.deBruijn64tab"], plainKeys := false, apart := false, laid := [("math/bits.deBruijn32tab", laid_math_bits_deBruijn32tab), ("math/bits.deBruijn64tab", laid_math_bits_deBruijn64tab), ("internal/strconv.uint64pow10", laid_internal_strconv_uint64pow10)] }
def PrecedenceSameSentencesSaid : Prop := precedenceSameSentencesRow.holds Tryd.pinned (OpenSpec.ofChange precedenceSameSentencesSpec)

/-- ITS FALSE NEIGHBOUR: 'it returns false'. Refute it at one input. -/
def precedenceSameSentencesWrong : ChangeSpec := { name := "precedenceSameSentences", fn := fun _ => fun
  | [d1, d2, d3] => { results := [.lit (.bool false)], args := [d1, d2, d3] }
  | _ => none }
def PrecedenceSameSentencesWrongFalsely : Prop := precedenceSameSentencesRow.holds Tryd.pinned (OpenSpec.ofChange precedenceSameSentencesWrong)

/-- 'emendatelaw20.PrecedenceUnambiguous': WHATEVER THE INPUT: true; the input reads as it did. -/
def precedenceUnambiguousSpec : ChangeSpec := { name := "precedenceUnambiguous", fn := fun _ => fun
  | [d1, d2, d3] => { results := [.lit (.bool true)], args := [d1, d2, d3] }
  | _ => none }
def precedenceUnambiguousRow : OpenClaim := { program := "ytmgpndmmodkhhaadoor", sum := "a7f1dbb0288cbed9d17a0addb716eecfa38f68409e0a55dddad6970360b5ec51", func := "emendate/emendatelaw20.PrecedenceUnambiguous", spec := "precedenceUnambiguous", inPlace := ["internal/bytealg.IndexByteString", "internal/bytealg.IndexString"], unfollowed := true, recurses := true, named := ["internal/bytealg.MaxLen", "internal/strconv.uint64pow10", "math/bits.deBruijn32tab", "math/bits.deBruijn64tab"], plainKeys := false, apart := false, laid := [("math/bits.deBruijn32tab", laid_math_bits_deBruijn32tab), ("math/bits.deBruijn64tab", laid_math_bits_deBruijn64tab), ("internal/strconv.uint64pow10", laid_internal_strconv_uint64pow10)] }
def PrecedenceUnambiguousSaid : Prop := precedenceUnambiguousRow.holds Tryd.pinned (OpenSpec.ofChange precedenceUnambiguousSpec)

/-- ITS FALSE NEIGHBOUR: 'it returns false'. Refute it at one input. -/
def precedenceUnambiguousWrong : ChangeSpec := { name := "precedenceUnambiguous", fn := fun _ => fun
  | [d1, d2, d3] => { results := [.lit (.bool false)], args := [d1, d2, d3] }
  | _ => none }
def PrecedenceUnambiguousWrongFalsely : Prop := precedenceUnambiguousRow.holds Tryd.pinned (OpenSpec.ofChange precedenceUnambiguousWrong)

/-- 'emendatelaw20.PrecedenceGrouping': WHATEVER THE INPUT: true; the input reads as it did. -/
def precedenceGroupingSpec : ChangeSpec := { name := "precedenceGrouping", fn := fun _ => fun
  | [d1, d2, d3] => { results := [.lit (.bool true)], args := [d1, d2, d3] }
  | _ => none }
def precedenceGroupingRow : OpenClaim := { program := "ytmgpndmmodkhhaadoor", sum := "a7f1dbb0288cbed9d17a0addb716eecfa38f68409e0a55dddad6970360b5ec51", func := "emendate/emendatelaw20.PrecedenceGrouping", spec := "precedenceGrouping", inPlace := ["internal/bytealg.IndexByteString", "internal/bytealg.IndexString"], unfollowed := true, recurses := true, named := ["internal/bytealg.MaxLen", "internal/strconv.uint64pow10", "math/bits.deBruijn32tab", "math/bits.deBruijn64tab"], plainKeys := false, apart := false, laid := [("math/bits.deBruijn32tab", laid_math_bits_deBruijn32tab), ("math/bits.deBruijn64tab", laid_math_bits_deBruijn64tab), ("internal/strconv.uint64pow10", laid_internal_strconv_uint64pow10)] }
def PrecedenceGroupingSaid : Prop := precedenceGroupingRow.holds Tryd.pinned (OpenSpec.ofChange precedenceGroupingSpec)

/-- ITS FALSE NEIGHBOUR: 'it returns false'. Refute it at one input. -/
def precedenceGroupingWrong : ChangeSpec := { name := "precedenceGrouping", fn := fun _ => fun
  | [d1, d2, d3] => { results := [.lit (.bool false)], args := [d1, d2, d3] }
  | _ => none }
def PrecedenceGroupingWrongFalsely : Prop := precedenceGroupingRow.holds Tryd.pinned (OpenSpec.ofChange precedenceGroupingWrong)

/-- 'emendatelaw20.PrecedenceNoLevels': WHATEVER THE INPUT: true; the input reads as it did. -/
def precedenceNoLevelsSpec : ChangeSpec := { name := "precedenceNoLevels", fn := fun _ => fun
  | [d] => { results := [.lit (.bool true)], args := [d] }
  | _ => none }
def precedenceNoLevelsRow : OpenClaim := { program := "ytmgpndmmodkhhaadoor", sum := "a7f1dbb0288cbed9d17a0addb716eecfa38f68409e0a55dddad6970360b5ec51", func := "emendate/emendatelaw20.PrecedenceNoLevels", spec := "precedenceNoLevels", inPlace := ["internal/bytealg.IndexByteString", "internal/bytealg.IndexString"], unfollowed := true, recurses := true, named := ["internal/bytealg.MaxLen", "internal/strconv.uint64pow10", "math/bits.deBruijn32tab", "math/bits.deBruijn64tab"], plainKeys := false, apart := false, laid := [("math/bits.deBruijn32tab", laid_math_bits_deBruijn32tab), ("math/bits.deBruijn64tab", laid_math_bits_deBruijn64tab), ("internal/strconv.uint64pow10", laid_internal_strconv_uint64pow10)] }
def PrecedenceNoLevelsSaid : Prop := precedenceNoLevelsRow.holds Tryd.pinned (OpenSpec.ofChange precedenceNoLevelsSpec)

/-- ITS FALSE NEIGHBOUR: 'it returns false'. Refute it at one input. -/
def precedenceNoLevelsWrong : ChangeSpec := { name := "precedenceNoLevels", fn := fun _ => fun
  | [d] => { results := [.lit (.bool false)], args := [d] }
  | _ => none }
def PrecedenceNoLevelsWrongFalsely : Prop := precedenceNoLevelsRow.holds Tryd.pinned (OpenSpec.ofChange precedenceNoLevelsWrong)

/- THE SECOND FORM. 'bulk': how many values and letters a reading holds, each counted each time it is reached (what is shared counts as often as it is met; a slice's spare places count too). A statement '..UptoSaid' is the law's where the arguments, and the package variables that the reading takes, are together of bulk at most 1048576: NARROWER than '..Said'. Prove '..Said' where nothing that the law and all that it calls make is longer than what came in: it says more and counts as full. Else prove '..UptoSaid'. A law counts once. -/
mutual
def uptoBulk {H : Type} : DataW H → Nat
  | .lit (.string bytes) => bytes.length + 1
  | .lit _ => 1
  | .nil => 1
  | .ptr d => uptoBulk d + 1
  | .slice elems spare => uptoBulkAll elems + uptoBulkAll spare + 1
  | .agg parts => uptoBulkAll parts + 1
  | .iface _ d => uptoBulk d + 1
  | .map entries => uptoBulkEntries entries + 1
  | .held _ => 1
def uptoBulkAll {H : Type} : List (DataW H) → Nat
  | [] => 0
  | d :: r => uptoBulk d + uptoBulkAll r
def uptoBulkEntries {H : Type} : List (Lit × DataW H) → Nat
  | [] => 0
  | x :: r => uptoBulkEntry x + uptoBulkEntries r
def uptoBulkEntry {H : Type} : Lit × DataW H → Nat
  | (.string bytes, d) => bytes.length + uptoBulk d + 1
  | (_, d) => uptoBulk d + 1
 end
def uptoSmall : (H : Type) → List (DataW H) → Bool := fun _ ds => decide (uptoBulkAll ds ≤ 1048576)
def OpenSpec.upto (s : _root_.Go.ChangeSpec) : _root_.Go.OpenSpec := { _root_.Go.OpenSpec.ofChange s with cond := some uptoSmall }

/-- 'emendatelaw20.PrecedenceCheck', WHERE WHAT IT READS IS OF BULK AT MOST 1048576: true; the input reads as it did. -/
def precedenceCheckUptoRow : OpenClaim := { program := "ytmgpndmmodkhhaadoor", sum := "a7f1dbb0288cbed9d17a0addb716eecfa38f68409e0a55dddad6970360b5ec51", func := "emendate/emendatelaw20.PrecedenceCheck", spec := "precedenceCheck", inPlace := ["internal/bytealg.IndexByteString", "internal/bytealg.IndexString"], unfollowed := true, recurses := true, named := ["internal/bytealg.MaxLen", "internal/strconv.uint64pow10", "math/bits.deBruijn32tab", "math/bits.deBruijn64tab"], plainKeys := false, apart := false, laid := [("math/bits.deBruijn32tab", laid_math_bits_deBruijn32tab), ("math/bits.deBruijn64tab", laid_math_bits_deBruijn64tab), ("internal/strconv.uint64pow10", laid_internal_strconv_uint64pow10)], narrowed := true }
def PrecedenceCheckUptoSaid : Prop := precedenceCheckUptoRow.holds Tryd.pinned (OpenSpec.upto precedenceCheckSpec)

/-- 'emendatelaw20.PrecedenceStratify', WHERE WHAT IT READS IS OF BULK AT MOST 1048576: true; the input reads as it did. -/
def precedenceStratifyUptoRow : OpenClaim := { program := "ytmgpndmmodkhhaadoor", sum := "a7f1dbb0288cbed9d17a0addb716eecfa38f68409e0a55dddad6970360b5ec51", func := "emendate/emendatelaw20.PrecedenceStratify", spec := "precedenceStratify", inPlace := ["internal/bytealg.IndexByteString", "internal/bytealg.IndexString"], unfollowed := true, recurses := true, named := ["internal/bytealg.MaxLen", "internal/strconv.uint64pow10", "math/bits.deBruijn32tab", "math/bits.deBruijn64tab"], plainKeys := false, apart := false, laid := [("math/bits.deBruijn32tab", laid_math_bits_deBruijn32tab), ("math/bits.deBruijn64tab", laid_math_bits_deBruijn64tab), ("internal/strconv.uint64pow10", laid_internal_strconv_uint64pow10)], narrowed := true }
def PrecedenceStratifyUptoSaid : Prop := precedenceStratifyUptoRow.holds Tryd.pinned (OpenSpec.upto precedenceStratifySpec)

/-- 'emendatelaw20.PrecedenceRules', WHERE WHAT IT READS IS OF BULK AT MOST 1048576: true; the input reads as it did. -/
def precedenceRulesUptoRow : OpenClaim := { program := "ytmgpndmmodkhhaadoor", sum := "a7f1dbb0288cbed9d17a0addb716eecfa38f68409e0a55dddad6970360b5ec51", func := "emendate/emendatelaw20.PrecedenceRules", spec := "precedenceRules", inPlace := ["internal/bytealg.IndexByteString", "internal/bytealg.IndexString"], unfollowed := true, recurses := true, named := ["internal/bytealg.MaxLen", "internal/strconv.uint64pow10", "math/bits.deBruijn32tab", "math/bits.deBruijn64tab"], plainKeys := false, apart := false, laid := [("math/bits.deBruijn32tab", laid_math_bits_deBruijn32tab), ("math/bits.deBruijn64tab", laid_math_bits_deBruijn64tab), ("internal/strconv.uint64pow10", laid_internal_strconv_uint64pow10)], narrowed := true }
def PrecedenceRulesUptoSaid : Prop := precedenceRulesUptoRow.holds Tryd.pinned (OpenSpec.upto precedenceRulesSpec)

/-- 'emendatelaw20.PrecedenceSameSentences', WHERE WHAT IT READS IS OF BULK AT MOST 1048576: true; the input reads as it did. -/
def precedenceSameSentencesUptoRow : OpenClaim := { program := "ytmgpndmmodkhhaadoor", sum := "a7f1dbb0288cbed9d17a0addb716eecfa38f68409e0a55dddad6970360b5ec51", func := "emendate/emendatelaw20.PrecedenceSameSentences", spec := "precedenceSameSentences", inPlace := ["internal/bytealg.IndexByteString", "internal/bytealg.IndexString"], unfollowed := true, recurses := true, named := ["internal/bytealg.MaxLen", "internal/strconv.uint64pow10", "math/bits.deBruijn32tab", "math/bits.deBruijn64tab"], plainKeys := false, apart := false, laid := [("math/bits.deBruijn32tab", laid_math_bits_deBruijn32tab), ("math/bits.deBruijn64tab", laid_math_bits_deBruijn64tab), ("internal/strconv.uint64pow10", laid_internal_strconv_uint64pow10)], narrowed := true }
def PrecedenceSameSentencesUptoSaid : Prop := precedenceSameSentencesUptoRow.holds Tryd.pinned (OpenSpec.upto precedenceSameSentencesSpec)

/-- 'emendatelaw20.PrecedenceUnambiguous', WHERE WHAT IT READS IS OF BULK AT MOST 1048576: true; the input reads as it did. -/
def precedenceUnambiguousUptoRow : OpenClaim := { program := "ytmgpndmmodkhhaadoor", sum := "a7f1dbb0288cbed9d17a0addb716eecfa38f68409e0a55dddad6970360b5ec51", func := "emendate/emendatelaw20.PrecedenceUnambiguous", spec := "precedenceUnambiguous", inPlace := ["internal/bytealg.IndexByteString", "internal/bytealg.IndexString"], unfollowed := true, recurses := true, named := ["internal/bytealg.MaxLen", "internal/strconv.uint64pow10", "math/bits.deBruijn32tab", "math/bits.deBruijn64tab"], plainKeys := false, apart := false, laid := [("math/bits.deBruijn32tab", laid_math_bits_deBruijn32tab), ("math/bits.deBruijn64tab", laid_math_bits_deBruijn64tab), ("internal/strconv.uint64pow10", laid_internal_strconv_uint64pow10)], narrowed := true }
def PrecedenceUnambiguousUptoSaid : Prop := precedenceUnambiguousUptoRow.holds Tryd.pinned (OpenSpec.upto precedenceUnambiguousSpec)

/-- 'emendatelaw20.PrecedenceGrouping', WHERE WHAT IT READS IS OF BULK AT MOST 1048576: true; the input reads as it did. -/
def precedenceGroupingUptoRow : OpenClaim := { program := "ytmgpndmmodkhhaadoor", sum := "a7f1dbb0288cbed9d17a0addb716eecfa38f68409e0a55dddad6970360b5ec51", func := "emendate/emendatelaw20.PrecedenceGrouping", spec := "precedenceGrouping", inPlace := ["internal/bytealg.IndexByteString", "internal/bytealg.IndexString"], unfollowed := true, recurses := true, named := ["internal/bytealg.MaxLen", "internal/strconv.uint64pow10", "math/bits.deBruijn32tab", "math/bits.deBruijn64tab"], plainKeys := false, apart := false, laid := [("math/bits.deBruijn32tab", laid_math_bits_deBruijn32tab), ("math/bits.deBruijn64tab", laid_math_bits_deBruijn64tab), ("internal/strconv.uint64pow10", laid_internal_strconv_uint64pow10)], narrowed := true }
def PrecedenceGroupingUptoSaid : Prop := precedenceGroupingUptoRow.holds Tryd.pinned (OpenSpec.upto precedenceGroupingSpec)

/-- 'emendatelaw20.PrecedenceNoLevels', WHERE WHAT IT READS IS OF BULK AT MOST 1048576: true; the input reads as it did. -/
def precedenceNoLevelsUptoRow : OpenClaim := { program := "ytmgpndmmodkhhaadoor", sum := "a7f1dbb0288cbed9d17a0addb716eecfa38f68409e0a55dddad6970360b5ec51", func := "emendate/emendatelaw20.PrecedenceNoLevels", spec := "precedenceNoLevels", inPlace := ["internal/bytealg.IndexByteString", "internal/bytealg.IndexString"], unfollowed := true, recurses := true, named := ["internal/bytealg.MaxLen", "internal/strconv.uint64pow10", "math/bits.deBruijn32tab", "math/bits.deBruijn64tab"], plainKeys := false, apart := false, laid := [("math/bits.deBruijn32tab", laid_math_bits_deBruijn32tab), ("math/bits.deBruijn64tab", laid_math_bits_deBruijn64tab), ("internal/strconv.uint64pow10", laid_internal_strconv_uint64pow10)], narrowed := true }
def PrecedenceNoLevelsUptoSaid : Prop := precedenceNoLevelsUptoRow.holds Tryd.pinned (OpenSpec.upto precedenceNoLevelsSpec)

end Rows
end Go.Proofs.YtmgpndmmodkhhaaDoor
