/-
  Part 9 of the proof of GrammarparserWhiteSpace: the logic over the model, the functions' contracts and the plain laws.
-/
import Derived.Test.YtpemjdkcabefnaaKw8
import Derived.Test.YtpemjdkcabefnaaRows

set_option linter.unusedSimpArgs false
set_option linter.unusedVariables false
set_option linter.unusedSectionVars false

namespace Go.Lg
open Go.Proofs Go.RowKit Go.ChangeShapes Go.WideShapes
def SzOk (s : ByteArray) : Prop := s.size ≤ 9223372036854775807
mutual
def GEx.fit : GEx → Prop
  | .mk _ n l => SzOk n ∧ GEx.fitL l
def GEx.fitL : List GEx → Prop
  | [] => True
  | e :: l => e.fit ∧ GEx.fitL l
end
theorem GEx.fitL_iff : ∀ {l : List GEx}, GEx.fitL l ↔ ∀ e, e ∈ l → e.fit
  | [] => by simp [GEx.fitL]
  | e :: l => by simp [GEx.fitL, GEx.fitL_iff (l := l)]
theorem GEx.fit_iff {e : GEx} : e.fit ↔ SzOk e.name ∧ ∀ k, k ∈ e.kids → k.fit := by cases e; rw [GEx.fit, GEx.fitL_iff]; rfl
def GLe.fit (l : GLe) : Prop := ∀ t, t ∈ l.tokens → SzOk t
def GRu.fit (r : GRu) : Prop := SzOk r.name ∧ ∀ a, a ∈ r.alts → a.body.fit
def GFi.fit (f : GFi) : Prop := SzOk f.start ∧ (∀ l, l ∈ f.levels → l.fit) ∧ ∀ r, r ∈ f.rules → r.fit
set_option maxRecDepth 20000
theorem ownk : ownKnob Try.prog.godebug = none := by kernel_rfl
theorem laidk : laidOutB Try.prog = true := by kernel_rfl
end Go.Lg

namespace Go.Lg
open Go.Proofs Go.RowKit Go.ChangeShapes Go.WideShapes
instance dat_str_s : Dat Try.prog 9 strA := dat_string (by kernel_rfl)
theorem arg_str {H : Type} {enc : TypeId × Value → H} {w : World} {v : Value} {d : DataW H} {ps : List MemPlace} (h : DataW.Trod enc Try.prog w 0 (fun _ => true) true 9 v d ps) {r : Reach} {b0 : Nat} (hval : Value.okWide Try.prog w r b0 9 v) : ∃ s : ByteArray, RW0 w (strA s) v := by
  have hu : Try.prog.underlying 9 = some .string := by kernel_rfl
  exact arg_dat (f := strA) h hval fun _ => .inl ⟨rfl, by rw [hu]; trivial⟩
theorem arg_u64 {H : Type} {enc : TypeId × Value → H} {w : World} {v : Value} {d : DataW H} {ps : List MemPlace} (h : DataW.Trod enc Try.prog w 0 (fun _ => true) true 33 v d ps) {r : Reach} {b0 : Nat} (hval : Value.okWide Try.prog w r b0 33 v) : ∃ n : Int, (0 ≤ n ∧ n ≤ 18446744073709551615) ∧ RW0 w (.val (.int .u64 n)) v := by
  have hu : Try.prog.underlying 33 = some (.int .u64) := by kernel_rfl
  obtain ⟨n, rfl, _, _, hw⟩ := open_int hu hval h
  refine ⟨n, ?_, .val rfl⟩
  simpa [Lit.wf, IntKind.min, IntKind.max, IntKind.signed, IntKind.bits] using hw
end Go.Lg
