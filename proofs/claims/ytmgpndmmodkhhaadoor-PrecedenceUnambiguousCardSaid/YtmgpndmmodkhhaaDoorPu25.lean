/-
  Whatever the grammar, the levels and the eight bytes, the law PrecedenceUnambiguous returns true: a sequence has at most one derivation, an expression has one.
-/
import Derived.Test.YtmgpndmmodkhhaaDoorPu24
import Derived.Test.YtmgpndmmodkhhaaDoorCards
import Derived.Test.YtmgpndmmodkhhaaDoorTie

set_option linter.unusedSimpArgs false
set_option linter.unusedVariables false
set_option linter.unusedSectionVars false
set_option linter.defProp false
set_option maxRecDepth 20000

namespace Go.Proofs.YtmgpndmmodkhhaaDoor
open Go.Lg Go.RowKit Go.ChangeShapes Go.WideShapes
theorem puna_said : Rows.PrecedenceUnambiguousSaid := by
 have lifted : ∀ (os : Os) (started : os.Started) (H : Type) (enc : TypeId × Value -> H),
   ReturnsInHanded {} Tryd.checked os 7 .any (fun w args => (Rows.precedenceUnambiguousSpec.pre enc Tryd.prog Tryd.f7 [] false w args /\ laidMetH Tryd.prog laid0 w) /\ sizedMet enc Tryd.prog Tryd.f7 (OpenSpec.ofChange Rows.precedenceUnambiguousSpec) false w args) (Rows.precedenceUnambiguousSpec.post enc Tryd.prog Tryd.f7 false true false false) := by
  intro os started H enc
  refine handed_laid (C := Tryd.checked) (X := fun w _ => laidMetH Tryd.prog laid0 w) (fun _ _ _ hh h => h.of_heap hh) ownk started (by kernel_rfl) Tryd.func7
   (ChangeSpec.witness_shaped (enc := enc) (C := Tryd.checked) (os := os) (X := fun w _ => laidMetH Tryd.prog laid0 w) false (World.doorLaid Tryd.prog 400 os) #[.agg #[.slice none 0 0, .slice none 0 0, .int .i64 0, .slice none 0 0], .slice none 0 0, .agg #[.int .u8 0, .int .u8 0, .int .u8 0, .int .u8 0, .int .u8 0, .int .u8 0, .int .u8 0, .int .u8 0]] 8 rfl (door_sh os _) (by kernel_rfl) (by kernel_rfl) (by kernel_rfl) (door_met os _)) ?_
  intro W base args ds gs before hval hW hsh hX
  have hW' := hW
  obtain ⟨hG, hgl⟩ := gw_open hsh hX
  obtain ⟨p, q, hA0, hV, rfl, hfz, hnd⟩ := hW
  have hA : DataW.TrodAll enc Tryd.prog W 0 (fun _ => true) true Tryd.f7.params.toList args.toList ds p := hA0
  rw [Tryd.params7] at hA hval
  obtain ⟨v0, vs0, d0, ds0, p0, q0, hargs, rfl, rfl, h0, r0⟩ := trodAll_cons hA
  obtain ⟨v1, vs1, d1, ds1, p1, q1, rfl, rfl, rfl, h1, r1⟩ := trodAll_cons r0
  obtain ⟨v2, vs2, d2, ds2, p2, q2, rfl, rfl, rfl, h2, r2⟩ := trodAll_cons r1
  obtain ⟨rfl, rfl, rfl⟩ := trodAll_nil r2
  obtain rfl : args = #[v0, v1, v2] := by cases args; simp_all
  obtain ⟨g0, a0⟩ := arg_gram h0 (hval 0 _ v0 rfl rfl)
  obtain ⟨g1, a1⟩ := arg_levels h1 (hval 1 _ v1 rfl rfl)
  obtain ⟨g2, b2, a2⟩ := arg_arr8 h2 (hval 2 _ v2 rfl rfl)
  refine ((law_puna g0 g1 g2 b2).calls hG hgl (vs := #[v0, v1, v2]) rfl fun i x v hx hu => ?_).mono fun e W' ⟨v, he, ⟨_, _, _, hv⟩, hb⟩ => ?_
  ·match i, hx, hu with
   | 0, hx, hu => simp at hx hu; subst hx hu; exact a0
   | 1, hx, hu => simp at hx hu; subst hx hu; exact a1
   | 2, hx, hu => simp at hx hu; subst hx hu; exact a2
   | i + 3, hx, hu => simp at hx
  ·obtain rfl := hv.val_eq
   exact ⟨_, he, law_post laidk (by kernel_rfl) (by kernel_rfl) (tb := 4) (by kernel_rfl) rfl hW' (fun hg => by subst hg; rfl) hb⟩
 exact OpenClaim.holds_of_wide 7 Tryd.f7 rfl rfl rfl rfl rfl rfl rfl ⟨rfl, rfl, rfl, rfl, rfl⟩ rfl rfl rfl rfl rfl (by kernel_rfl) Tryd.func7 (by kernel_rfl)
  (of_decide_eq_true (by kernel_rfl)) (by unfold Func.isWrapper; first | (rw [if_pos (by decide +kernel)]; kernel_rfl) | (rw [if_neg (by decide +kernel)]; exact ⟨rfl, rfl⟩))
  (fun os started H enc _ => lifted os started H enc)
theorem puna_card : Rows.PrecedenceUnambiguousCardSaid :=
 Claim7.holds_tied_plain_at .later [] [.data, .data, .data] true (true, "c2a031dc71f34548be84c8285f6f47588f1a7a693f25c0ae84bbf7a83237c468") false
  puna_said (fun _ h => by cases h) (by kernel_rfl) (fun _ h => by cases h) precedenceUnambiguous_row_tie rfl ⟨rfl, rfl⟩ (by kernel_rfl) rfl
  (fun f fn hf hfn => by
   obtain rfl : f = 7 := Option.some.inj ((show Tryd.prog.funcNamed "emendate/emendatelaw20.PrecedenceUnambiguous" = some 7 by kernel_rfl).symm.trans hf) |>.symm
   obtain rfl : fn = Tryd.f7 := (Option.some.inj (Tryd.func7.symm.trans hfn)).symm
   exact ⟨by kernel_rfl, fun j t ht => by
    rw [Tryd.params7] at ht
    have hm : t ∈ [25, 26, 40] := by simpa using Array.mem_of_getElem? ht
    have hall : ([25, 26, 40].all fun u => !Tryd.prog.wantsStandIn u) = true := by kernel_rfl
    exact (show Tryd.prog.wantsStandIn t = false by simpa using List.all_eq_true.1 hall t hm)⟩)
  (by kernel_rfl)
#print axioms puna_card
end Go.Proofs.YtmgpndmmodkhhaaDoor
