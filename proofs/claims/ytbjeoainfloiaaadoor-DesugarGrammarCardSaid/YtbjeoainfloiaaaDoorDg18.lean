/-
  The law DesugarGrammar holds of the given program: Desugar returns the grammar, the indices and the error of the reference implementation.
-/
import Derived.Test.YtbjeoainfloiaaaDoorDg17
import Derived.Test.YtbjeoainfloiaaaDoorCards
import Derived.Test.YtbjeoainfloiaaaDoorTie

set_option linter.unusedSimpArgs false
set_option linter.unusedVariables false
set_option linter.unusedSectionVars false
set_option linter.defProp false

namespace Go.Proofs.YtbjeoainfloiaaaDoor
open Go.Lg Go.RowKit Go.ChangeShapes Go.WideShapes
set_option maxRecDepth 20000
theorem dgram_said : Rows.DesugarGrammarSaid := by
  have lifted : ∀ (os : Os) (started : os.Started) (H : Type) (enc : TypeId × Value → H),
      ReturnsInHanded {} Tryd.checked os 3 .any (fun w args => (Rows.desugarGrammarSpec.pre enc Tryd.prog Tryd.f3 [] false w args ∧ laidMetH Tryd.prog laid0 w) ∧ sizedMet enc Tryd.prog Tryd.f3 (OpenSpec.ofChange Rows.desugarGrammarSpec) false w args) (Rows.desugarGrammarSpec.post enc Tryd.prog Tryd.f3 false true false false) := by
    intro os started H enc
    refine handed_laidW (C := Tryd.checked) (X := fun w _ => laidMetH Tryd.prog laid0 w) (fun _ _ _ hh h => h.of_heap hh) ownk started (by kernel_rfl) Tryd.func3
      (ChangeSpec.witness_shaped (enc := enc) (C := Tryd.checked) (os := os) (X := fun w _ => laidMetH Tryd.prog laid0 w) false (World.doorLaid Tryd.prog 400 os) #[.agg #[.string .empty, .slice none 0 0, .slice none 0 0], .slice none 0 0] 8 rfl (door_sh os _) (by kernel_rfl) (by kernel_rfl) (by kernel_rfl) (door_met os _)) ?_
    intro W base args ds gs before hval hW hsh hX hwt
    have hW' := hW
    obtain ⟨hG, hgl⟩ := gw_open hsh hX
    obtain ⟨p, q, hA0, hV, rfl, hfz, hnd⟩ := hW
    have hA : DataW.TrodAll enc Tryd.prog W 0 (fun _ => true) true Tryd.f3.params.toList args.toList ds p := hA0
    rw [Tryd.params3] at hA hval hwt
    obtain ⟨v0, vs0, d0, ds0, p0, q0, hargs, rfl, rfl, h0, r0⟩ := trodAll_cons hA
    obtain ⟨v1, vs1, d1, ds1, p1, q1, rfl, rfl, rfl, h1, r1⟩ := trodAll_cons r0
    obtain ⟨rfl, rfl, rfl⟩ := trodAll_nil r1
    simp only [List.toList_toArray, List.cons_append, DataW.weightsEach, wtOk_app] at hwt
    obtain rfl : args = #[v0, v1] := by cases args; simp_all
    obtain ⟨g0, b0, a0⟩ := arg_fileW h0 (hval 0 _ v0 rfl rfl) hwt.1
    obtain ⟨g1, a1⟩ := arg_strs h1 (hval 1 _ v1 rfl rfl)
    refine ((law_grammar g0 b0 g1).calls hG hgl (vs := #[v0, v1]) rfl fun i x v hx hu => ?_).mono fun e W' ⟨v, he, ⟨_, _, _, hv⟩, hb⟩ => ?_
    · match i, hx, hu with
      | 0, hx, hu => simp at hx hu; subst hx hu; exact a0
      | 1, hx, hu => simp at hx hu; subst hx hu; exact a1
      | i + 2, hx, hu => simp at hx
    · obtain rfl := hv.val_eq
      exact ⟨_, he, law_post laidk (by kernel_rfl) (by kernel_rfl) (tb := 4) (by kernel_rfl) rfl hW' (fun hg => by subst hg; rfl) hb⟩
  exact OpenClaim.holds_of_wide 3 Tryd.f3 rfl rfl rfl rfl rfl rfl rfl ⟨rfl, rfl, rfl, rfl, rfl⟩ rfl rfl rfl rfl rfl (by kernel_rfl) Tryd.func3 (by kernel_rfl)
    (of_decide_eq_true (by kernel_rfl)) (by unfold Func.isWrapper; first | (rw [if_pos (by decide +kernel)]; kernel_rfl) | (rw [if_neg (by decide +kernel)]; exact ⟨rfl, rfl⟩))
    (fun os started H enc _ => lifted os started H enc)
theorem dgram_card : Rows.DesugarGrammarCardSaid :=
  Claim7.holds_tied_plain_at .later [] [.data, .data, .data] true (true, "42bff180d358134702136ca83ad8eaebf1220e2e39f82334018af1827fd2277a") false
    dgram_said (fun _ h => by cases h) (by kernel_rfl) (fun _ h => by cases h) desugarGrammar_row_tie rfl ⟨rfl, rfl⟩ (by kernel_rfl) rfl
    (fun f fn hf hfn => by
      obtain rfl : f = 3 := Option.some.inj ((show Tryd.prog.funcNamed "emendate/emendatelaw19.DesugarGrammar" = some 3 by kernel_rfl).symm.trans hf) |>.symm
      obtain rfl : fn = Tryd.f3 := (Option.some.inj (Tryd.func3.symm.trans hfn)).symm
      exact ⟨by kernel_rfl, fun j t ht => by
        rw [Tryd.params3] at ht
        have hm : t ∈ [25, 26] := by simpa using Array.mem_of_getElem? ht
        have hall : ([25, 26].all fun u => !Tryd.prog.wantsStandIn u) = true := by kernel_rfl
        exact (show Tryd.prog.wantsStandIn t = false by simpa using List.all_eq_true.1 hall t hm)⟩)
    (by kernel_rfl)
#print axioms dgram_card
end Go.Proofs.YtbjeoainfloiaaaDoor
