/-
  Part 9 of the proof of GrammarparserValidCard: the logic over the model, the functions' contracts and the plain laws.
-/
import Derived.Test.YtpemjdkcabefnabDoorKg8
import Derived.Test.YtpemjdkcabefnabDoorRows

set_option linter.unusedSimpArgs false
set_option linter.unusedVariables false
set_option linter.unusedSectionVars false
set_option linter.defProp false

namespace Go.Lg
open Go.Proofs Go.RowKit Go.ChangeShapes Go.WideShapes
def SzOk (s : ByteArray) : Prop := s.size ≤ 9223372036854775807
mutual
def GEx.fit : GEx → Prop
  | .mk _ n l => SzOk n ∧ GEx.fitL l
def GEx.fitL : List GEx → Prop
  | [] => True
  | e :: l => e.fit ∧ GEx.fitL l
end
def GLe.fit (l : GLe) : Prop := ∀ t, t ∈ l.tokens → SzOk t
def GRu.fit (r : GRu) : Prop := SzOk r.name ∧ ∀ a, a ∈ r.alts → a.body.fit
def GFi.fit (f : GFi) : Prop := SzOk f.start ∧ (∀ l, l ∈ f.levels → l.fit) ∧ ∀ r, r ∈ f.rules → r.fit
set_option maxRecDepth 20000
theorem ownk : ownKnob Tryd.prog.godebug = none := by kernel_rfl
theorem laidk : laidOutB Tryd.prog = true := by kernel_rfl
end Go.Lg

namespace Go.Lg
open Go.Proofs Go.RowKit Go.ChangeShapes Go.WideShapes
set_option maxRecDepth 20000
instance dat_str_s : Dat Tryd.prog 9 strA := dat_string (by kernel_rfl)
theorem arg_str {H : Type} {enc : TypeId × Value → H} {w : World} {v : Value} {d : DataW H} {ps : List MemPlace} (h : DataW.Trod enc Tryd.prog w 0 (fun _ => true) true 9 v d ps) {r : Reach} {b0 : Nat} (hval : Value.okWide Tryd.prog w r b0 9 v) : ∃ s : ByteArray, RW0 w (strA s) v := by
  have hu : Tryd.prog.underlying 9 = some .string := by kernel_rfl
  exact arg_dat (f := strA) h hval fun _ => .inl ⟨rfl, by rw [hu]; trivial⟩
end Go.Lg
