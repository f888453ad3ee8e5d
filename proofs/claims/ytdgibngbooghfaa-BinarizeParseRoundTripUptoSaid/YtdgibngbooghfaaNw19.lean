/-
  the law holds wherever what is read is of bulk at most 1048576: a parse is mapped to a tree and back
-/
import Derived.Test.YtdgibngbooghfaaNw18

set_option linter.unusedSimpArgs false
set_option linter.unusedVariables false
set_option linter.unusedSectionVars false
set_option linter.defProp false

namespace Go.Proofs.Ytdgibngbooghfaa
open Go.Lg Go.RowKit Go.ChangeShapes Go.WideShapes
set_option maxRecDepth 100000
theorem pround_upto : Rows.BinarizeParseRoundTripUptoSaid := by
  have lifted : ∀ (os : Os) (started : os.Started) (H : Type) (enc : TypeId × Value → H) (F : Stop.Interp),
      ReturnsInHanded {} Try.checked os 8 .any ((Rows.OpenSpec.upto Rows.binarizeParseRoundTripSpec).pre6 enc Try.prog Try.f8 Rows.binarizeParseRoundTripUptoRow.domain false) (((Rows.OpenSpec.upto Rows.binarizeParseRoundTripSpec).at F).post enc Try.prog Try.f8 false true false false) := by
    intro os started H enc F
    refine handed_cond (C := Try.checked) (s := (Rows.OpenSpec.upto Rows.binarizeParseRoundTripSpec)) (k := Rows.uptoSmall) rfl ownk started (by kernel_rfl) Try.func8
      (OpenSpec.witness (enc := enc) (C := Try.checked) (s := (Rows.OpenSpec.upto Rows.binarizeParseRoundTripSpec)) (k := Rows.uptoSmall) rfl false ⟨#[], #[.agg #[.slice none 0 0, .slice none 0 0, .int .i64 0, .slice none 0 0, .int .i64 0, .int .i64 0, .slice none 0 0, .int .i64 0, .slice none 0 0]], []⟩ 8 (by kernel_rfl) (by kernel_rfl) (by kernel_rfl)
        (x := ([.agg [.agg [.nil, .nil, .lit (.int .i64 0), .nil], .agg [.lit (.int .i64 0), .lit (.int .i64 0), .nil], .agg [.lit (.int .i64 0), .nil]]], [], [])) (by kernel_rfl) rfl (by kernel_rfl)) ?_
    intro W base args ds gs before hval hW hk hsh
    have hW' := hW
    obtain ⟨hG, hgl⟩ := gw_open hsh
    obtain ⟨p, q, hA0, hV, rfl, hfz, hnd⟩ := hW
    have hA : DataW.TrodAll enc Try.prog W 0 (fun _ => true) true Try.f8.params.toList args.toList ds p := hA0
    rw [Try.params8] at hA hval
    obtain ⟨v0, vs0, d0, ds0, p0, q0, hargs, rfl, rfl, h0, r0⟩ := trodAll_cons hA
    obtain ⟨rfl, rfl, rfl⟩ := trodAll_nil r0
    obtain rfl : args = #[v0] := by cases args; simp_all
    have hb0 := bulk_bound hk
    simp only [List.cons_append, Rows.uptoBulkAll] at hb0
    obtain ⟨g0, a0, z0⟩ := argz_case h0 (hval 0 _ v0 rfl rfl)
    refine ((law_pround g0 (by unfold szC at z0; omega)).calls hG hgl (vs := #[v0]) rfl fun i x v hx hu => ?_).mono fun e W' ⟨v, he, ⟨_, _, _, hv⟩, hb⟩ => ?_
    · match i, hx, hu with
      | 0, hx, hu => simp at hx hu; subst hx hu; exact a0
      | i + 1, hx, hu => simp at hx
    · obtain rfl := hv.val_eq
      exact ⟨_, he, law_post laidk (by kernel_rfl) (by kernel_rfl) (tb := 4) (by kernel_rfl) rfl hW' (fun hg => by subst hg; rfl) hb⟩
  exact OpenClaim.holds_of_cond 8 Try.f8 rfl rfl rfl rfl rfl rfl rfl ⟨rfl, rfl, rfl, rfl, rfl⟩ rfl rfl rfl rfl rfl (by kernel_rfl) Try.func8 (by kernel_rfl)
    (of_decide_eq_true (by kernel_rfl)) (by unfold Func.isWrapper; first | (rw [if_pos (by decide +kernel)]; kernel_rfl) | (rw [if_neg (by decide +kernel)]; exact ⟨rfl, rfl⟩))
    (fun os started H enc _ F => lifted os started H enc F)
#print axioms pround_upto
end Go.Proofs.Ytdgibngbooghfaa
