/-
  Whatever the grammar, the law PrecedenceNoLevels returns true: without levels the grammar stays as it was.
-/
import Derived.Test.YtmgpndmmodkhhaaDoorPn24
import Derived.Test.YtmgpndmmodkhhaaDoorCards
import Derived.Test.YtmgpndmmodkhhaaDoorTie

set_option linter.unusedSimpArgs false
set_option linter.unusedVariables false
set_option linter.unusedSectionVars false
set_option linter.defProp false

namespace Go.Proofs.YtmgpndmmodkhhaaDoor
open Go.Lg Go.RowKit Go.ChangeShapes Go.WideShapes
set_option maxRecDepth 20000
theorem pnol_said : Rows.PrecedenceNoLevelsSaid := by
  have lifted : ∀ (os : Os) (started : os.Started) (H : Type) (enc : TypeId × Value → H),
      ReturnsInHanded {} Tryd.checked os 9 .any (fun w args => (Rows.precedenceNoLevelsSpec.pre enc Tryd.prog Tryd.f9 [] false w args ∧ laidMetH Tryd.prog laid0 w) ∧ sizedMet enc Tryd.prog Tryd.f9 (OpenSpec.ofChange Rows.precedenceNoLevelsSpec) false w args) (Rows.precedenceNoLevelsSpec.post enc Tryd.prog Tryd.f9 false true false false) := by
    intro os started H enc
    refine handed_laid (C := Tryd.checked) (X := fun w _ => laidMetH Tryd.prog laid0 w) (fun _ _ _ hh h => h.of_heap hh) ownk started (by kernel_rfl) Tryd.func9
      (ChangeSpec.witness_shaped (enc := enc) (C := Tryd.checked) (os := os) (X := fun w _ => laidMetH Tryd.prog laid0 w) false (World.doorLaid Tryd.prog 400 os) #[.agg #[.slice none 0 0, .slice none 0 0, .int .i64 0, .slice none 0 0]] 8 rfl (door_sh os _) (by kernel_rfl) (by kernel_rfl) (by kernel_rfl) (door_met os _)) ?_
    intro W base args ds gs before hval hW hsh hX
    have hW' := hW
    obtain ⟨hG, hgl⟩ := gw_open hsh hX
    obtain ⟨p, q, hA0, hV, rfl, hfz, hnd⟩ := hW
    have hA : DataW.TrodAll enc Tryd.prog W 0 (fun _ => true) true Tryd.f9.params.toList args.toList ds p := hA0
    rw [Tryd.params9] at hA hval
    obtain ⟨v0, vs0, d0, ds0, p0, q0, hargs, rfl, rfl, h0, r0⟩ := trodAll_cons hA
    obtain ⟨rfl, rfl, rfl⟩ := trodAll_nil r0
    obtain rfl : args = #[v0] := by cases args; simp_all
    obtain ⟨g0, a0⟩ := arg_gram h0 (hval 0 _ v0 rfl rfl)
    refine ((law_pnone g0).calls hG hgl (vs := #[v0]) rfl fun i x v hx hu => ?_).mono fun e W' ⟨v, he, ⟨_, _, _, hv⟩, hb⟩ => ?_
    · match i, hx, hu with
      | 0, hx, hu => simp at hx hu; subst hx hu; exact a0
      | i + 1, hx, hu => simp at hx
    · obtain rfl := hv.val_eq
      exact ⟨_, he, law_post laidk (by kernel_rfl) (by kernel_rfl) (tb := 4) (by kernel_rfl) rfl hW' (fun hg => by subst hg; rfl) hb⟩
  exact OpenClaim.holds_of_wide 9 Tryd.f9 rfl rfl rfl rfl rfl rfl rfl ⟨rfl, rfl, rfl, rfl, rfl⟩ rfl rfl rfl rfl rfl (by kernel_rfl) Tryd.func9 (by kernel_rfl)
    (of_decide_eq_true (by kernel_rfl)) (by unfold Func.isWrapper; first | (rw [if_pos (by decide +kernel)]; kernel_rfl) | (rw [if_neg (by decide +kernel)]; exact ⟨rfl, rfl⟩))
    (fun os started H enc _ => lifted os started H enc)
theorem pnol_card : Rows.PrecedenceNoLevelsCardSaid :=
  Claim7.holds_tied_plain_at .later [] [.data, .data, .data] true (true, "c2a031dc71f34548be84c8285f6f47588f1a7a693f25c0ae84bbf7a83237c468") false
    pnol_said (fun _ h => by cases h) (by kernel_rfl) (fun _ h => by cases h) precedenceNoLevels_row_tie rfl ⟨rfl, rfl⟩ (by kernel_rfl) rfl
    (fun f fn hf hfn => by
      obtain rfl : f = 9 := Option.some.inj ((show Tryd.prog.funcNamed "emendate/emendatelaw20.PrecedenceNoLevels" = some 9 by kernel_rfl).symm.trans hf) |>.symm
      obtain rfl : fn = Tryd.f9 := (Option.some.inj (Tryd.func9.symm.trans hfn)).symm
      exact ⟨by kernel_rfl, fun j t ht => by
        rw [Tryd.params9] at ht
        have hm : t ∈ [25] := by simpa using Array.mem_of_getElem? ht
        have hall : ([25].all fun u => !Tryd.prog.wantsStandIn u) = true := by kernel_rfl
        exact (show Tryd.prog.wantsStandIn t = false by simpa using List.all_eq_true.1 hall t hm)⟩)
    (by kernel_rfl)
#print axioms pnol_card
end Go.Proofs.YtmgpndmmodkhhaaDoor
