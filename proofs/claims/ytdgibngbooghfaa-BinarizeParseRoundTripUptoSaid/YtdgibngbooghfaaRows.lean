/-
  NARROWER THAN 'FOR EVERY INPUT', by the rows' own cells (each row's printed sentence says how): BinarizeValidParseMatchesReference: loops · BinarizeTreesMatchReference: loops · BinarizeTreeRoundTrip: loops · BinarizeParseRoundTrip: loops.
  DERIVED. THE GIVEN ROWS OF THIS SEAT. 6 by the template 'for every input the law returns true; each argument reads behind the call as it read before'; 0 by the template 'total and deterministic' (their statements: YtdgibngbooghfaaTotals.lean).
  GIVEN WITH THE SEED: the statements are not yours to turn. If you find one false, say at which input.
  Laid BY PROGRAM, IN A SANDBOX (cutbox-rows.mjs): the forced cells as the released guide's own fill.sh prints them over the translation b0644c3ac9a408c6… (all of the seat's roots in one cut). By AI agents, Wed Nov 11 2026. No macro, syntax, notation, axiom, sorry.
-/
import Derived.Test.YtdgibngbooghfaaChecked
import GoSem.Claim
import GoSem.ClaimJoined
import GoSem.ClaimMapViews
import Derived.JoinedTies
import Derived.KernelRfl
namespace Go.Proofs.Ytdgibngbooghfaa
/- THE CELL 'sum', in the pinned program and in every row, IS THE sha256 OF THE DUMP (.gsa) THAT YtdgibngbooghfaaProg.lean LOADS. Nothing in Lean hashes anything: it is a label: what it is worth is what the hold of that sum in a sandbox is worth. -/
noncomputable def Try.pinned : Pinned := { name := "ytdgibngbooghfaa", sum := "b0644c3ac9a408c672c2124bad0c27872410c9872aa3792848c84cf09b287d5c", checked := Try.checked }
namespace Rows
def none {H : Type} : Left H := { results := [], args := [] }

/-- 'emendatelaw24.BinarizeValidMatchesReference': WHATEVER THE INPUT: true; the input reads as it did. -/
def binarizeValidMatchesReferenceSpec : ChangeSpec := { name := "binarizeValidMatchesReference", fn := fun _ => fun
  | [d] => { results := [.lit (.bool true)], args := [d] }
  | _ => none }
def binarizeValidMatchesReferenceRow : OpenClaim := { program := "ytdgibngbooghfaa", sum := "b0644c3ac9a408c672c2124bad0c27872410c9872aa3792848c84cf09b287d5c", func := "emendate/emendatelaw24.BinarizeValidMatchesReference", spec := "binarizeValidMatchesReference", inPlace := ["internal/bytealg.IndexByteString", "internal/bytealg.IndexString"], unfollowed := true, recurses := true, named := ["internal/bytealg.MaxLen"], apart := false }
def BinarizeValidMatchesReferenceSaid : Prop := binarizeValidMatchesReferenceRow.holds Try.pinned (OpenSpec.ofChange binarizeValidMatchesReferenceSpec)

/-- ITS FALSE NEIGHBOUR: 'it returns false'. Refute it at one input. -/
def binarizeValidMatchesReferenceWrong : ChangeSpec := { name := "binarizeValidMatchesReference", fn := fun _ => fun
  | [d] => { results := [.lit (.bool false)], args := [d] }
  | _ => none }
def BinarizeValidMatchesReferenceWrongFalsely : Prop := binarizeValidMatchesReferenceRow.holds Try.pinned (OpenSpec.ofChange binarizeValidMatchesReferenceWrong)

/-- 'emendatelaw24.BinarizeMatchesReference': WHATEVER THE INPUT: true; the input reads as it did. -/
def binarizeMatchesReferenceSpec : ChangeSpec := { name := "binarizeMatchesReference", fn := fun _ => fun
  | [d] => { results := [.lit (.bool true)], args := [d] }
  | _ => none }
def binarizeMatchesReferenceRow : OpenClaim := { program := "ytdgibngbooghfaa", sum := "b0644c3ac9a408c672c2124bad0c27872410c9872aa3792848c84cf09b287d5c", func := "emendate/emendatelaw24.BinarizeMatchesReference", spec := "binarizeMatchesReference", inPlace := ["internal/bytealg.IndexByteString", "internal/bytealg.IndexString"], unfollowed := true, recurses := true, named := ["internal/bytealg.MaxLen"], apart := false }
def BinarizeMatchesReferenceSaid : Prop := binarizeMatchesReferenceRow.holds Try.pinned (OpenSpec.ofChange binarizeMatchesReferenceSpec)

/-- ITS FALSE NEIGHBOUR: 'it returns false'. Refute it at one input. -/
def binarizeMatchesReferenceWrong : ChangeSpec := { name := "binarizeMatchesReference", fn := fun _ => fun
  | [d] => { results := [.lit (.bool false)], args := [d] }
  | _ => none }
def BinarizeMatchesReferenceWrongFalsely : Prop := binarizeMatchesReferenceRow.holds Try.pinned (OpenSpec.ofChange binarizeMatchesReferenceWrong)

/-- 'emendatelaw24.BinarizeValidParseMatchesReference': WHATEVER THE INPUT: true; the input reads as it did. -/
def binarizeValidParseMatchesReferenceSpec : ChangeSpec := { name := "binarizeValidParseMatchesReference", fn := fun _ => fun
  | [d1, d2, d3] => { results := [.lit (.bool true)], args := [d1, d2, d3] }
  | _ => none }
def binarizeValidParseMatchesReferenceRow : OpenClaim := { program := "ytdgibngbooghfaa", sum := "b0644c3ac9a408c672c2124bad0c27872410c9872aa3792848c84cf09b287d5c", func := "emendate/emendatelaw24.BinarizeValidParseMatchesReference", spec := "binarizeValidParseMatchesReference", inPlace := ["internal/bytealg.IndexByteString", "internal/bytealg.IndexString"], unfollowed := true, recurses := true, named := ["internal/bytealg.MaxLen"], loops := true, apart := false }
def BinarizeValidParseMatchesReferenceSaid : Prop := binarizeValidParseMatchesReferenceRow.holds Try.pinned (OpenSpec.ofChange binarizeValidParseMatchesReferenceSpec)

/-- ITS FALSE NEIGHBOUR: 'it returns false'. Refute it at one input. -/
def binarizeValidParseMatchesReferenceWrong : ChangeSpec := { name := "binarizeValidParseMatchesReference", fn := fun _ => fun
  | [d1, d2, d3] => { results := [.lit (.bool false)], args := [d1, d2, d3] }
  | _ => none }
def BinarizeValidParseMatchesReferenceWrongFalsely : Prop := binarizeValidParseMatchesReferenceRow.holds Try.pinned (OpenSpec.ofChange binarizeValidParseMatchesReferenceWrong)

/-- 'emendatelaw24.BinarizeTreesMatchReference': WHATEVER THE INPUT: true; the input reads as it did. -/
def binarizeTreesMatchReferenceSpec : ChangeSpec := { name := "binarizeTreesMatchReference", fn := fun _ => fun
  | [d] => { results := [.lit (.bool true)], args := [d] }
  | _ => none }
def binarizeTreesMatchReferenceRow : OpenClaim := { program := "ytdgibngbooghfaa", sum := "b0644c3ac9a408c672c2124bad0c27872410c9872aa3792848c84cf09b287d5c", func := "emendate/emendatelaw24.BinarizeTreesMatchReference", spec := "binarizeTreesMatchReference", inPlace := ["internal/bytealg.IndexByteString", "internal/bytealg.IndexString"], unfollowed := true, recurses := true, named := ["internal/bytealg.MaxLen"], loops := true, apart := false }
def BinarizeTreesMatchReferenceSaid : Prop := binarizeTreesMatchReferenceRow.holds Try.pinned (OpenSpec.ofChange binarizeTreesMatchReferenceSpec)

/-- ITS FALSE NEIGHBOUR: 'it returns false'. Refute it at one input. -/
def binarizeTreesMatchReferenceWrong : ChangeSpec := { name := "binarizeTreesMatchReference", fn := fun _ => fun
  | [d] => { results := [.lit (.bool false)], args := [d] }
  | _ => none }
def BinarizeTreesMatchReferenceWrongFalsely : Prop := binarizeTreesMatchReferenceRow.holds Try.pinned (OpenSpec.ofChange binarizeTreesMatchReferenceWrong)

/-- 'emendatelaw24.BinarizeTreeRoundTrip': WHATEVER THE INPUT: true; the input reads as it did. -/
def binarizeTreeRoundTripSpec : ChangeSpec := { name := "binarizeTreeRoundTrip", fn := fun _ => fun
  | [d] => { results := [.lit (.bool true)], args := [d] }
  | _ => none }
def binarizeTreeRoundTripRow : OpenClaim := { program := "ytdgibngbooghfaa", sum := "b0644c3ac9a408c672c2124bad0c27872410c9872aa3792848c84cf09b287d5c", func := "emendate/emendatelaw24.BinarizeTreeRoundTrip", spec := "binarizeTreeRoundTrip", inPlace := ["internal/bytealg.IndexByteString", "internal/bytealg.IndexString"], unfollowed := true, recurses := true, named := ["internal/bytealg.MaxLen"], loops := true, apart := false }
def BinarizeTreeRoundTripSaid : Prop := binarizeTreeRoundTripRow.holds Try.pinned (OpenSpec.ofChange binarizeTreeRoundTripSpec)

/-- ITS FALSE NEIGHBOUR: 'it returns false'. Refute it at one input. -/
def binarizeTreeRoundTripWrong : ChangeSpec := { name := "binarizeTreeRoundTrip", fn := fun _ => fun
  | [d] => { results := [.lit (.bool false)], args := [d] }
  | _ => none }
def BinarizeTreeRoundTripWrongFalsely : Prop := binarizeTreeRoundTripRow.holds Try.pinned (OpenSpec.ofChange binarizeTreeRoundTripWrong)

/-- 'emendatelaw24.BinarizeParseRoundTrip': WHATEVER THE INPUT: true; the input reads as it did. -/
def binarizeParseRoundTripSpec : ChangeSpec := { name := "binarizeParseRoundTrip", fn := fun _ => fun
  | [d] => { results := [.lit (.bool true)], args := [d] }
  | _ => none }
def binarizeParseRoundTripRow : OpenClaim := { program := "ytdgibngbooghfaa", sum := "b0644c3ac9a408c672c2124bad0c27872410c9872aa3792848c84cf09b287d5c", func := "emendate/emendatelaw24.BinarizeParseRoundTrip", spec := "binarizeParseRoundTrip", inPlace := ["internal/bytealg.IndexByteString", "internal/bytealg.IndexString"], unfollowed := true, recurses := true, named := ["internal/bytealg.MaxLen"], loops := true, apart := false }
def BinarizeParseRoundTripSaid : Prop := binarizeParseRoundTripRow.holds Try.pinned (OpenSpec.ofChange binarizeParseRoundTripSpec)

/-- ITS FALSE NEIGHBOUR: 'it returns false'. Refute it at one input. -/
def binarizeParseRoundTripWrong : ChangeSpec := { name := "binarizeParseRoundTrip", fn := fun _ => fun
  | [d] => { results := [.lit (.bool false)], args := [d] }
  | _ => none }
def BinarizeParseRoundTripWrongFalsely : Prop := binarizeParseRoundTripRow.holds Try.pinned (OpenSpec.ofChange binarizeParseRoundTripWrong)

/- THE SECOND FORM. 'bulk': how many values and letters a reading holds, each counted each time it is reached (what is shared counts as often as it is met; a slice's spare places count too). A statement '..UptoSaid' is the law's where the arguments, and the package variables that the reading takes, are together of bulk at most 1048576: NARROWER than '..Said'. Prove '..Said' where nothing that the law and all that it calls make is longer than what came in: it says more and counts as full. Else prove '..UptoSaid'. A law counts once. -/
mutual
def uptoBulk {H : Type} : DataW H → Nat
  | .lit (.string bytes) => bytes.length + 1
  | .lit _ => 1
  | .nil => 1
  | .ptr d => uptoBulk d + 1
  | .slice elems spare => uptoBulkAll elems + uptoBulkAll spare + 1
  | .agg parts => uptoBulkAll parts + 1
  | .iface _ d => uptoBulk d + 1
  | .map entries => uptoBulkEntries entries + 1
  | .held _ => 1
def uptoBulkAll {H : Type} : List (DataW H) → Nat
  | [] => 0
  | d :: r => uptoBulk d + uptoBulkAll r
def uptoBulkEntries {H : Type} : List (Lit × DataW H) → Nat
  | [] => 0
  | x :: r => uptoBulkEntry x + uptoBulkEntries r
def uptoBulkEntry {H : Type} : Lit × DataW H → Nat
  | (.string bytes, d) => bytes.length + uptoBulk d + 1
  | (_, d) => uptoBulk d + 1
 end
def uptoSmall : (H : Type) → List (DataW H) → Bool := fun _ ds => decide (uptoBulkAll ds ≤ 1048576)
def OpenSpec.upto (s : _root_.Go.ChangeSpec) : _root_.Go.OpenSpec := { _root_.Go.OpenSpec.ofChange s with cond := some uptoSmall }

/-- 'emendatelaw24.BinarizeValidMatchesReference', WHERE WHAT IT READS IS OF BULK AT MOST 1048576: true; the input reads as it did. -/
def binarizeValidMatchesReferenceUptoRow : OpenClaim := { program := "ytdgibngbooghfaa", sum := "b0644c3ac9a408c672c2124bad0c27872410c9872aa3792848c84cf09b287d5c", func := "emendate/emendatelaw24.BinarizeValidMatchesReference", spec := "binarizeValidMatchesReference", inPlace := ["internal/bytealg.IndexByteString", "internal/bytealg.IndexString"], unfollowed := true, recurses := true, named := ["internal/bytealg.MaxLen"], apart := false, narrowed := true }
def BinarizeValidMatchesReferenceUptoSaid : Prop := binarizeValidMatchesReferenceUptoRow.holds Try.pinned (OpenSpec.upto binarizeValidMatchesReferenceSpec)

/-- 'emendatelaw24.BinarizeMatchesReference', WHERE WHAT IT READS IS OF BULK AT MOST 1048576: true; the input reads as it did. -/
def binarizeMatchesReferenceUptoRow : OpenClaim := { program := "ytdgibngbooghfaa", sum := "b0644c3ac9a408c672c2124bad0c27872410c9872aa3792848c84cf09b287d5c", func := "emendate/emendatelaw24.BinarizeMatchesReference", spec := "binarizeMatchesReference", inPlace := ["internal/bytealg.IndexByteString", "internal/bytealg.IndexString"], unfollowed := true, recurses := true, named := ["internal/bytealg.MaxLen"], apart := false, narrowed := true }
def BinarizeMatchesReferenceUptoSaid : Prop := binarizeMatchesReferenceUptoRow.holds Try.pinned (OpenSpec.upto binarizeMatchesReferenceSpec)

/-- 'emendatelaw24.BinarizeValidParseMatchesReference', WHERE WHAT IT READS IS OF BULK AT MOST 1048576: true; the input reads as it did. -/
def binarizeValidParseMatchesReferenceUptoRow : OpenClaim := { program := "ytdgibngbooghfaa", sum := "b0644c3ac9a408c672c2124bad0c27872410c9872aa3792848c84cf09b287d5c", func := "emendate/emendatelaw24.BinarizeValidParseMatchesReference", spec := "binarizeValidParseMatchesReference", inPlace := ["internal/bytealg.IndexByteString", "internal/bytealg.IndexString"], unfollowed := true, recurses := true, named := ["internal/bytealg.MaxLen"], loops := true, apart := false, narrowed := true }
def BinarizeValidParseMatchesReferenceUptoSaid : Prop := binarizeValidParseMatchesReferenceUptoRow.holds Try.pinned (OpenSpec.upto binarizeValidParseMatchesReferenceSpec)

/-- 'emendatelaw24.BinarizeTreesMatchReference', WHERE WHAT IT READS IS OF BULK AT MOST 1048576: true; the input reads as it did. -/
def binarizeTreesMatchReferenceUptoRow : OpenClaim := { program := "ytdgibngbooghfaa", sum := "b0644c3ac9a408c672c2124bad0c27872410c9872aa3792848c84cf09b287d5c", func := "emendate/emendatelaw24.BinarizeTreesMatchReference", spec := "binarizeTreesMatchReference", inPlace := ["internal/bytealg.IndexByteString", "internal/bytealg.IndexString"], unfollowed := true, recurses := true, named := ["internal/bytealg.MaxLen"], loops := true, apart := false, narrowed := true }
def BinarizeTreesMatchReferenceUptoSaid : Prop := binarizeTreesMatchReferenceUptoRow.holds Try.pinned (OpenSpec.upto binarizeTreesMatchReferenceSpec)

/-- 'emendatelaw24.BinarizeTreeRoundTrip', WHERE WHAT IT READS IS OF BULK AT MOST 1048576: true; the input reads as it did. -/
def binarizeTreeRoundTripUptoRow : OpenClaim := { program := "ytdgibngbooghfaa", sum := "b0644c3ac9a408c672c2124bad0c27872410c9872aa3792848c84cf09b287d5c", func := "emendate/emendatelaw24.BinarizeTreeRoundTrip", spec := "binarizeTreeRoundTrip", inPlace := ["internal/bytealg.IndexByteString", "internal/bytealg.IndexString"], unfollowed := true, recurses := true, named := ["internal/bytealg.MaxLen"], loops := true, apart := false, narrowed := true }
def BinarizeTreeRoundTripUptoSaid : Prop := binarizeTreeRoundTripUptoRow.holds Try.pinned (OpenSpec.upto binarizeTreeRoundTripSpec)

/-- 'emendatelaw24.BinarizeParseRoundTrip', WHERE WHAT IT READS IS OF BULK AT MOST 1048576: true; the input reads as it did. -/
def binarizeParseRoundTripUptoRow : OpenClaim := { program := "ytdgibngbooghfaa", sum := "b0644c3ac9a408c672c2124bad0c27872410c9872aa3792848c84cf09b287d5c", func := "emendate/emendatelaw24.BinarizeParseRoundTrip", spec := "binarizeParseRoundTrip", inPlace := ["internal/bytealg.IndexByteString", "internal/bytealg.IndexString"], unfollowed := true, recurses := true, named := ["internal/bytealg.MaxLen"], loops := true, apart := false, narrowed := true }
def BinarizeParseRoundTripUptoSaid : Prop := binarizeParseRoundTripUptoRow.holds Try.pinned (OpenSpec.upto binarizeParseRoundTripSpec)

end Rows
end Go.Proofs.Ytdgibngbooghfaa
