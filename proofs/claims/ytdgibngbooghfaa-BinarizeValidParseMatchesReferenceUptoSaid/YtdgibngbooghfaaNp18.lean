/-
  the law holds wherever what is read is of bulk at most 1048576: sizes do not wrap there
-/
import Derived.Test.YtdgibngbooghfaaNp17

set_option linter.unusedSimpArgs false
set_option linter.unusedVariables false
set_option linter.unusedSectionVars false
set_option linter.defProp false

namespace Go.Proofs.Ytdgibngbooghfaa
open Go.Lg Go.RowKit Go.ChangeShapes Go.WideShapes
set_option maxRecDepth 100000
theorem vparse_upto : Rows.BinarizeValidParseMatchesReferenceUptoSaid := by
  have lifted : ∀ (os : Os) (started : os.Started) (H : Type) (enc : TypeId × Value → H) (F : Stop.Interp),
      ReturnsInHanded {} Try.checked os 5 .any ((Rows.OpenSpec.upto Rows.binarizeValidParseMatchesReferenceSpec).pre6 enc Try.prog Try.f5 Rows.binarizeValidParseMatchesReferenceUptoRow.domain false) (((Rows.OpenSpec.upto Rows.binarizeValidParseMatchesReferenceSpec).at F).post enc Try.prog Try.f5 false true false false) := by
    intro os started H enc F
    refine handed_cond (C := Try.checked) (s := (Rows.OpenSpec.upto Rows.binarizeValidParseMatchesReferenceSpec)) (k := Rows.uptoSmall) rfl ownk started (by kernel_rfl) Try.func5
      (OpenSpec.witness (enc := enc) (C := Try.checked) (s := (Rows.OpenSpec.upto Rows.binarizeValidParseMatchesReferenceSpec)) (k := Rows.uptoSmall) rfl false ⟨#[], #[.agg #[.int .i64 0, .int .i64 0, .int .i64 0, .slice none 0 0], .int .i64 0, .agg #[.int .i64 0, .slice none 0 0]], []⟩ 8 (by kernel_rfl) (by kernel_rfl) (by kernel_rfl)
        (x := ([.agg [.lit (.int .i64 0), .lit (.int .i64 0), .lit (.int .i64 0), .nil], .lit (.int .i64 0), .agg [.lit (.int .i64 0), .nil]], [], [])) (by kernel_rfl) rfl (by kernel_rfl)) ?_
    intro W base args ds gs before hval hW hk hsh
    have hW' := hW
    obtain ⟨hG, hgl⟩ := gw_open hsh
    obtain ⟨p, q, hA0, hV, rfl, hfz, hnd⟩ := hW
    have hA : DataW.TrodAll enc Try.prog W 0 (fun _ => true) true Try.f5.params.toList args.toList ds p := hA0
    rw [Try.params5] at hA hval
    obtain ⟨v0, vs0, d0, ds0, p0, q0, hargs, rfl, rfl, h0, r0⟩ := trodAll_cons hA
    obtain ⟨v1, vs1, d1, ds1, p1, q1, rfl, rfl, rfl, h1, r1⟩ := trodAll_cons r0
    obtain ⟨v2, vs2, d2, ds2, p2, q2, rfl, rfl, rfl, h2, r2⟩ := trodAll_cons r1
    obtain ⟨rfl, rfl, rfl⟩ := trodAll_nil r2
    obtain rfl : args = #[v0, v1, v2] := by cases args; simp_all
    have hb0 := bulk_bound hk
    simp only [List.cons_append, Rows.uptoBulkAll] at hb0
    obtain ⟨g0, a0⟩ := arg_normal h0 (hval 0 _ v0 rfl rfl)
    obtain ⟨g1, a1⟩ := arg_int24 h1 (hval 1 _ v1 rfl rfl)
    obtain ⟨g2, a2, z2⟩ := argz_parse h2 (hval 2 _ v2 rfl rfl)
    refine ((law_vparse g0 g1 g2 (by omega)).calls hG hgl (vs := #[v0, v1, v2]) rfl fun i x v hx hu => ?_).mono fun e W' ⟨v, he, ⟨_, _, _, hv⟩, hb⟩ => ?_
    · match i, hx, hu with
      | 0, hx, hu => simp at hx hu; subst hx hu; exact a0
      | 1, hx, hu => simp at hx hu; subst hx hu; exact a1
      | 2, hx, hu => simp at hx hu; subst hx hu; exact a2
      | i + 3, hx, hu => simp at hx
    · obtain rfl := hv.val_eq
      exact ⟨_, he, law_post laidk (by kernel_rfl) (by kernel_rfl) (tb := 4) (by kernel_rfl) rfl hW' (fun hg => by subst hg; rfl) hb⟩
  exact OpenClaim.holds_of_cond 5 Try.f5 rfl rfl rfl rfl rfl rfl rfl ⟨rfl, rfl, rfl, rfl, rfl⟩ rfl rfl rfl rfl rfl (by kernel_rfl) Try.func5 (by kernel_rfl)
    (of_decide_eq_true (by kernel_rfl)) (by unfold Func.isWrapper; first | (rw [if_pos (by decide +kernel)]; kernel_rfl) | (rw [if_neg (by decide +kernel)]; exact ⟨rfl, rfl⟩))
    (fun os started H enc _ F => lifted os started H enc F)
#print axioms vparse_upto
end Go.Proofs.Ytdgibngbooghfaa
