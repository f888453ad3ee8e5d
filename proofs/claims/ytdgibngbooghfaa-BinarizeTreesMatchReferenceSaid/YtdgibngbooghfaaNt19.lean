/-
  the law holds for every case: ToTree, FromTree and their references compute the same functions
-/
import Derived.Test.YtdgibngbooghfaaNt18

set_option linter.unusedSimpArgs false
set_option linter.unusedVariables false
set_option linter.unusedSectionVars false
set_option linter.defProp false

namespace Go.Proofs.Ytdgibngbooghfaa
open Go.Lg Go.RowKit Go.ChangeShapes Go.WideShapes
set_option maxRecDepth 20000
theorem btrees_said : Rows.BinarizeTreesMatchReferenceSaid := by
  have lifted : ∀ (os : Os) (started : os.Started) (H : Type) (enc : TypeId × Value → H),
      ReturnsInHanded {} Try.checked os 6 .any (Rows.binarizeTreesMatchReferenceSpec.pre6 enc Try.prog Try.f6 Rows.binarizeTreesMatchReferenceRow.domain false) (Rows.binarizeTreesMatchReferenceSpec.post enc Try.prog Try.f6 false true false false) := by
    intro os started H enc
    refine returnsInHanded_of_change_shaped (C := Try.checked) ownk started (by kernel_rfl) Try.func6
      (ChangeSpec.witness6 (enc := enc) (C := Try.checked) false ⟨#[], #[.agg #[.slice none 0 0, .slice none 0 0, .int .i64 0, .slice none 0 0, .int .i64 0, .int .i64 0, .slice none 0 0, .int .i64 0, .slice none 0 0]], []⟩ 8 (by kernel_rfl) (by kernel_rfl) (by kernel_rfl) (by kernel_rfl)) ?_
    intro W base args ds gs before hval hW _ _ hsh _
    have hW' := hW
    obtain ⟨hG, hgl⟩ := gw_open hsh
    obtain ⟨p, q, hA0, hV, rfl, hfz, hnd⟩ := hW
    have hA : DataW.TrodAll enc Try.prog W 0 (fun _ => true) true Try.f6.params.toList args.toList ds p := hA0
    rw [Try.params6] at hA hval
    obtain ⟨v0, vs0, d0, ds0, p0, q0, hargs, rfl, rfl, h0, r0⟩ := trodAll_cons hA
    obtain ⟨rfl, rfl, rfl⟩ := trodAll_nil r0
    obtain rfl : args = #[v0] := by cases args; simp_all
    obtain ⟨g0, a0⟩ := arg_case h0 (hval 0 _ v0 rfl rfl)
    refine ((law_btrees g0).calls hG hgl (vs := #[v0]) rfl fun i x v hx hu => ?_).mono fun e W' ⟨v, he, ⟨_, _, _, hv⟩, hb⟩ => ?_
    · match i, hx, hu with
      | 0, hx, hu => simp at hx hu; subst hx hu; exact a0
      | i + 1, hx, hu => simp at hx
    · obtain rfl := hv.val_eq
      exact ⟨_, he, law_post laidk (by kernel_rfl) (by kernel_rfl) (tb := 4) (by kernel_rfl) rfl hW' (fun hg => by subst hg; rfl) hb⟩
  exact OpenClaim.holds_of_wide 6 Try.f6 rfl rfl rfl rfl rfl rfl rfl ⟨rfl, rfl, rfl, rfl, rfl⟩ rfl rfl rfl rfl rfl (by kernel_rfl) Try.func6 (by kernel_rfl)
    (of_decide_eq_true (by kernel_rfl)) (by unfold Func.isWrapper; first | (rw [if_pos (by decide +kernel)]; kernel_rfl) | (rw [if_neg (by decide +kernel)]; exact ⟨rfl, rfl⟩))
    (fun os started H enc _ => lifted os started H enc)
#print axioms btrees_said
end Go.Proofs.Ytdgibngbooghfaa
