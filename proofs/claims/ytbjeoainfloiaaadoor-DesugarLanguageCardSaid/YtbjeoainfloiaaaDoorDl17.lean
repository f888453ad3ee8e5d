/-
  The law DesugarLanguage holds of the given program: the nonterminal of a rule derives a sequence of at most 4 terminals if and only if the sequence matches the expressions of the rule (files of at most 30 nodes).
-/
import Derived.Test.YtbjeoainfloiaaaDoorDl16
import Derived.Test.YtbjeoainfloiaaaDoorCards
import Derived.Test.YtbjeoainfloiaaaDoorTie

set_option linter.unusedSimpArgs false
set_option linter.unusedVariables false
set_option linter.unusedSectionVars false
set_option linter.defProp false

namespace Go.Lg
set_option maxRecDepth 20000
open Go.Proofs Go.RowKit Go.ChangeShapes Go.WideShapes
instance dat_byte_i : Dat Tryd.prog 5 byteA := ⟨fun {H} {enc} {w} {fuel} {cs} {x} h => by
  obtain ⟨n, rfl, rfl, hw⟩ := DataW.trod_int (k := .u8) (by kernel_rfl) h
  have hw : 0 ≤ n ∧ n ≤ 255 := by simpa [Lit.wf, IntKind.min, IntKind.max, IntKind.signed, IntKind.bits] using hw
  refine ⟨UInt8.ofNat n.toNat, CR.one ?_ rfl⟩
  have e : ((UInt8.ofNat n.toNat).toNat : Int) = n := by simp; omega
  have : byteA (UInt8.ofNat n.toNat) = .val (.int .u8 n) := by unfold byteA; rw [e]
  rw [this]; exact .val rfl⟩
instance dat_bytes_i : Dat Tryd.prog 40 (fun l : List UInt8 => AV.sl 1 (l.map byteA)) := dat_slice (e := 5) (k := 1) (f := byteA) (by kernel_rfl) (by kernel_rfl) (by decide) (fun _ => rfl)
theorem arg_bytes {H : Type} {enc : TypeId × Value → H} {w : World} {v : Value} {d : DataW H} {ps : List MemPlace} (h : DataW.Trod enc Tryd.prog w 0 (fun _ => true) true 40 v d ps) {r : Reach} {b0 : Nat} (hval : Value.okWide Tryd.prog w r b0 40 v) : ∃ l : List UInt8, RW0 w (.sl 1 (l.map byteA)) v := by
  have hu : Tryd.prog.underlying 40 = some (.slice 5) := by kernel_rfl
  exact arg_dat (f := fun l : List UInt8 => AV.sl 1 (l.map byteA)) h hval fun _ => .inl ⟨rfl, by rw [hu]; trivial⟩
end Go.Lg
namespace Go.Proofs.YtbjeoainfloiaaaDoor
open Go.Lg Go.RowKit Go.ChangeShapes Go.WideShapes
set_option maxRecDepth 20000
theorem dlang_said : Rows.DesugarLanguageSaid := by
  have lifted : ∀ (os : Os) (started : os.Started) (H : Type) (enc : TypeId × Value → H),
      ReturnsInHanded {} Tryd.checked os 4 .any (fun w args => (Rows.desugarLanguageSpec.pre enc Tryd.prog Tryd.f4 [] false w args ∧ laidMetH Tryd.prog laid0 w) ∧ sizedMet enc Tryd.prog Tryd.f4 (OpenSpec.ofChange Rows.desugarLanguageSpec) false w args) (Rows.desugarLanguageSpec.post enc Tryd.prog Tryd.f4 false true false false) := by
    intro os started H enc
    refine handed_laidW (C := Tryd.checked) (X := fun w _ => laidMetH Tryd.prog laid0 w) (fun _ _ _ hh h => h.of_heap hh) ownk started (by kernel_rfl) Tryd.func4
      (ChangeSpec.witness_shaped (enc := enc) (C := Tryd.checked) (os := os) (X := fun w _ => laidMetH Tryd.prog laid0 w) false (World.doorLaid Tryd.prog 400 os) #[.agg #[.string .empty, .slice none 0 0, .slice none 0 0], .slice none 0 0] 8 rfl (door_sh os _) (by kernel_rfl) (by kernel_rfl) (by kernel_rfl) (door_met os _)) ?_
    intro W base args ds gs before hval hW hsh hX hwt
    have hW' := hW
    obtain ⟨hG, hgl⟩ := gw_open hsh hX
    obtain ⟨p, q, hA0, hV, rfl, hfz, hnd⟩ := hW
    have hA : DataW.TrodAll enc Tryd.prog W 0 (fun _ => true) true Tryd.f4.params.toList args.toList ds p := hA0
    rw [Tryd.params4] at hA hval hwt
    obtain ⟨v0, vs0, d0, ds0, p0, q0, hargs, rfl, rfl, h0, r0⟩ := trodAll_cons hA
    obtain ⟨v1, vs1, d1, ds1, p1, q1, rfl, rfl, rfl, h1, r1⟩ := trodAll_cons r0
    obtain ⟨rfl, rfl, rfl⟩ := trodAll_nil r1
    simp only [List.toList_toArray, List.cons_append, DataW.weightsEach, wtOk_app] at hwt
    obtain rfl : args = #[v0, v1] := by cases args; simp_all
    obtain ⟨g0, b0, a0⟩ := arg_fileW h0 (hval 0 _ v0 rfl rfl) hwt.1
    obtain ⟨g1, a1⟩ := arg_bytes h1 (hval 1 _ v1 rfl rfl)
    refine ((law_lang19 g0 b0 g1).calls hG hgl (vs := #[v0, v1]) rfl fun i x v hx hu => ?_).mono fun e W' ⟨v, he, ⟨_, _, _, hv⟩, hb⟩ => ?_
    · match i, hx, hu with
      | 0, hx, hu => simp at hx hu; subst hx hu; exact a0
      | 1, hx, hu => simp at hx hu; subst hx hu; exact a1
      | i + 2, hx, hu => simp at hx
    · obtain rfl := hv.val_eq
      exact ⟨_, he, law_post laidk (by kernel_rfl) (by kernel_rfl) (tb := 4) (by kernel_rfl) rfl hW' (fun hg => by subst hg; rfl) hb⟩
  exact OpenClaim.holds_of_wide 4 Tryd.f4 rfl rfl rfl rfl rfl rfl rfl ⟨rfl, rfl, rfl, rfl, rfl⟩ rfl rfl rfl rfl rfl (by kernel_rfl) Tryd.func4 (by kernel_rfl)
    (of_decide_eq_true (by kernel_rfl)) (by unfold Func.isWrapper; first | (rw [if_pos (by decide +kernel)]; kernel_rfl) | (rw [if_neg (by decide +kernel)]; exact ⟨rfl, rfl⟩))
    (fun os started H enc _ => lifted os started H enc)
theorem dlang_card : Rows.DesugarLanguageCardSaid :=
  Claim7.holds_tied_plain_at .later [] [.data, .data, .data] true (true, "42bff180d358134702136ca83ad8eaebf1220e2e39f82334018af1827fd2277a") false
    dlang_said (fun _ h => by cases h) (by kernel_rfl) (fun _ h => by cases h) desugarLanguage_row_tie rfl ⟨rfl, rfl⟩ (by kernel_rfl) rfl
    (fun f fn hf hfn => by
      obtain rfl : f = 4 := Option.some.inj ((show Tryd.prog.funcNamed "emendate/emendatelaw19.DesugarLanguage" = some 4 by kernel_rfl).symm.trans hf) |>.symm
      obtain rfl : fn = Tryd.f4 := (Option.some.inj (Tryd.func4.symm.trans hfn)).symm
      exact ⟨by kernel_rfl, fun j t ht => by
        rw [Tryd.params4] at ht
        have hm : t ∈ [25, 40] := by simpa using Array.mem_of_getElem? ht
        have hall : ([25, 40].all fun u => !Tryd.prog.wantsStandIn u) = true := by kernel_rfl
        exact (show Tryd.prog.wantsStandIn t = false by simpa using List.all_eq_true.1 hall t hm)⟩)
    (by kernel_rfl)
#print axioms dlang_card
end Go.Proofs.YtbjeoainfloiaaaDoor
