/-
  Part 11 of the proof of PrecedenceNoLevelsCard: the logic over the model, the functions' contracts and the plain laws.
-/
import Derived.Test.YtmgpndmmodkhhaaDoorPn10
import Derived.Test.YtmgpndmmodkhhaaDoorRows

set_option linter.unusedSimpArgs false
set_option linter.unusedVariables false
set_option linter.unusedSectionVars false
set_option linter.defProp false

namespace Go.Lg
open Go.Proofs Go.RowKit Go.ChangeShapes Go.WideShapes
set_option maxRecDepth 20000
instance dat_int_i : Dat Tryd.prog 3 intA := dat_int (k := .i64) (by kernel_rfl)
instance dat_str_i : Dat Tryd.prog 9 strA := dat_string (by kernel_rfl)
instance dat_ints_i : Dat Tryd.prog 32 intsA := dat_slice (e := 3) (k := 1) (f := intA) (by kernel_rfl) (by kernel_rfl) (by decide) (fun _ => rfl)
instance dat_strs_i : Dat Tryd.prog 22 strsA := dat_slice (e := 9) (k := 1) (f := strA) (by kernel_rfl) (by kernel_rfl) (by decide) (fun _ => rfl)
instance dat_rule_i : Dat Tryd.prog 39 ruleA := dat_fields (l := [(3, 0), (32, 1), (3, 2)]) (m := 3) (by kernel_rfl) (by kernel_rfl) fun hc ⟨h0, h1, h2, _⟩ => by
  obtain ⟨a0, h0⟩ := field_dat h0 (n := 1) (by kernel_rfl)
  obtain ⟨a1, h1⟩ := field_dat h1 (n := 1) (by kernel_rfl)
  obtain ⟨a2, h2⟩ := field_dat h2 (n := 1) (by kernel_rfl)
  exact ⟨⟨a0, a1, a2⟩, CR.seg h0 (CR.seg h1 (CR.seg h2 (CR.fin (by omega))))⟩
instance dat_rules_i : Dat Tryd.prog 23 rulesA := dat_slice (e := 39) (k := 3) (f := ruleA) (by kernel_rfl) (by kernel_rfl) (by decide) (fun _ => rfl)
instance dat_gram_i : Dat Tryd.prog 25 gramA := dat_fields (l := [(22, 0), (22, 1), (3, 2), (23, 3)]) (m := 4) (by kernel_rfl) (by kernel_rfl) fun hc ⟨h0, h1, h2, h3, _⟩ => by
  obtain ⟨a0, h0⟩ := field_dat h0 (n := 1) (by kernel_rfl)
  obtain ⟨a1, h1⟩ := field_dat h1 (n := 1) (by kernel_rfl)
  obtain ⟨a2, h2⟩ := field_dat h2 (n := 1) (by kernel_rfl)
  obtain ⟨a3, h3⟩ := field_dat h3 (n := 1) (by kernel_rfl)
  exact ⟨⟨a0, a1, a2, a3⟩, CR.seg h0 (CR.seg h1 (CR.seg h2 (CR.seg h3 (CR.fin (by omega)))))⟩
theorem ownk : ownKnob Tryd.prog.godebug = none := by kernel_rfl
theorem laidk : laidOutB Tryd.prog = true := by kernel_rfl
theorem agg_gram : ∃ fs, Tryd.prog.underlying 25 = some (.struct fs) := by
  have h : ((Tryd.prog.underlying 25).map fun d => match d with | .struct _ => true | _ => false) = some true := by kernel_rfl
  cases hu : Tryd.prog.underlying 25 with
  | none => rw [hu] at h; cases h
  | some d => rw [hu] at h; cases d <;> first | exact ⟨_, rfl⟩ | cases h
theorem arg_gram {H : Type} {enc : TypeId × Value → H} {w : World} {v : Value} {d : DataW H} {ps : List MemPlace} (h : DataW.Trod enc Tryd.prog w 0 (fun _ => true) true 25 v d ps) {r : Reach} {b0 : Nat} (hval : Value.okWide Tryd.prog w r b0 25 v) : ∃ g : Gram, RW0 w (gramA g) v := by
  obtain ⟨fs, hfs⟩ := agg_gram
  exact arg_dat (f := gramA) h hval fun _ => .inr ⟨_, fs, rfl, hfs⟩
end Go.Lg
