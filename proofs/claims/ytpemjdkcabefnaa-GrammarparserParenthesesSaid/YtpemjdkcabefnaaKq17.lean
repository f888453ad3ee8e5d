/-
  GrammarparserParentheses: for every grammar file handed in and every number, awake holds and, for valid files of at most 60 nodes, parentheses around names in the bodies of rules do not change the tree. Conditions: none beyond the given statement.
-/
import Derived.Test.YtpemjdkcabefnaaKq16

set_option linter.unusedSimpArgs false
set_option linter.unusedVariables false
set_option linter.unusedSectionVars false
set_option linter.defProp false

namespace Go.Proofs.Ytpemjdkcabefnaa
open Go.Lg Go.RowKit Go.ChangeShapes Go.WideShapes
set_option maxRecDepth 20000
theorem gpar_said : Rows.GrammarparserParenthesesSaid := by
  have lifted : ∀ (os : Os) (started : os.Started) (H : Type) (enc : TypeId × Value → H),
      ReturnsInHanded {} Try.checked os 7 .any (Rows.grammarparserParenthesesSpec.pre6 enc Try.prog Try.f7 Rows.grammarparserParenthesesRow.domain false) (Rows.grammarparserParenthesesSpec.post enc Try.prog Try.f7 false true false false) := by
    intro os started H enc
    refine returnsInHanded_of_change_shaped (C := Try.checked) ownk started (by kernel_rfl) Try.func7
      (ChangeSpec.witness6 (enc := enc) (C := Try.checked) false ⟨#[], #[.agg #[.string .empty, .slice none 0 0, .slice none 0 0], .int .u8 0], []⟩ 8 (by kernel_rfl) (by kernel_rfl) (by kernel_rfl) (by kernel_rfl)) ?_
    intro W base args ds gs before hval hW _ hwt0 hsh _
    have hW' := hW
    have hwt := (show wtOk _ = true from hwt0)
    obtain ⟨hG, hgl⟩ := gw_open hsh
    obtain ⟨p, q, hA0, hV, rfl, hfz, hnd⟩ := hW
    have hA : DataW.TrodAll enc Try.prog W 0 (fun _ => true) true Try.f7.params.toList args.toList ds p := hA0
    rw [Try.params7] at hA hval hwt
    obtain ⟨v0, vs0, d0, ds0, p0, q0, hargs, rfl, rfl, h0, r0⟩ := trodAll_cons hA
    obtain ⟨v1, vs1, d1, ds1, p1, q1, rfl, rfl, rfl, h1, r1⟩ := trodAll_cons r0
    obtain ⟨rfl, rfl, rfl⟩ := trodAll_nil r1
    simp only [List.toList_toArray, List.cons_append, DataW.weightsEach, wtOk_app] at hwt
    obtain rfl : args = #[v0, v1] := by cases args; simp_all
    obtain ⟨g0, b0, a0⟩ := arg_fileW h0 (hval 0 _ v0 rfl rfl) hwt.1
    obtain ⟨g1, b1, a1⟩ := arg_u8 h1 (hval 1 _ v1 rfl rfl)
    refine ((law_par g0 b0 g1 b1).calls hG hgl (vs := #[v0, v1]) rfl fun i x v hx hu => ?_).mono fun e W' ⟨v, he, ⟨_, _, _, hv⟩, hb⟩ => ?_
    · match i, hx, hu with
      | 0, hx, hu => simp at hx hu; subst hx hu; exact a0
      | 1, hx, hu => simp at hx hu; subst hx hu; exact a1
      | i + 2, hx, hu => simp at hx
    · obtain rfl := hv.val_eq
      exact ⟨_, he, law_post laidk (by kernel_rfl) (by kernel_rfl) (tb := 4) (by kernel_rfl) rfl hW' (fun hg => by subst hg; rfl) hb⟩
  exact OpenClaim.holds_of_wide 7 Try.f7 rfl rfl rfl rfl rfl rfl rfl ⟨rfl, rfl, rfl, rfl, rfl⟩ rfl rfl rfl rfl rfl (by kernel_rfl) Try.func7 (by kernel_rfl)
    (of_decide_eq_true (by kernel_rfl)) (by unfold Func.isWrapper; first | (rw [if_pos (by decide +kernel)]; kernel_rfl) | (rw [if_neg (by decide +kernel)]; exact ⟨rfl, rfl⟩))
    (fun os started H enc _ => lifted os started H enc)
#print axioms gpar_said
end Go.Proofs.Ytpemjdkcabefnaa
