/-
  The law ReduceLanguage holds of the given program: the reduced grammar derives a sequence of at most 4 terminals if and only if the original grammar does; if Reduce returns ErrEmpty, it derives none (at most 20 rules).
-/
import Derived.Test.YtjenalojiheapaaRl14

set_option linter.unusedSimpArgs false
set_option linter.unusedVariables false
set_option linter.unusedSectionVars false
set_option linter.defProp false

namespace Go.Lg
open Go.Proofs Go.RowKit Go.ChangeShapes Go.WideShapes
instance dat_byte_i : Dat Try.prog 5 byteA := ⟨fun {H} {enc} {w} {fuel} {cs} {x} h => by
  obtain ⟨n, rfl, rfl, hw⟩ := DataW.trod_int (k := .u8) (by kernel_rfl) h
  have hw : 0 ≤ n ∧ n ≤ 255 := by simpa [Lit.wf, IntKind.min, IntKind.max, IntKind.signed, IntKind.bits] using hw
  refine ⟨UInt8.ofNat n.toNat, CR.one ?_ rfl⟩
  have e : ((UInt8.ofNat n.toNat).toNat : Int) = n := by simp; omega
  have : byteA (UInt8.ofNat n.toNat) = .val (.int .u8 n) := by unfold byteA; rw [e]
  rw [this]; exact .val rfl⟩
instance dat_bytes_i : Dat Try.prog 35 (fun l : List UInt8 => AV.sl 1 (l.map byteA)) := dat_slice (e := 5) (k := 1) (f := byteA) (by kernel_rfl) (by kernel_rfl) (by decide) (fun _ => rfl)
theorem arg_bytes {H : Type} {enc : TypeId × Value → H} {w : World} {v : Value} {d : DataW H} {ps : List MemPlace} (h : DataW.Trod enc Try.prog w 0 (fun _ => true) true 35 v d ps) {r : Reach} {b0 : Nat} (hval : Value.okWide Try.prog w r b0 35 v) : ∃ l : List UInt8, RW0 w (.sl 1 (l.map byteA)) v := by
  have hu : Try.prog.underlying 35 = some (.slice 5) := by kernel_rfl
  exact arg_dat (f := fun l : List UInt8 => AV.sl 1 (l.map byteA)) h hval fun _ => .inl ⟨rfl, by rw [hu]; trivial⟩
end Go.Lg
namespace Go.Proofs.Ytjenalojiheapaa
open Go.Lg Go.RowKit Go.ChangeShapes Go.WideShapes
theorem lang_said : Rows.ReduceLanguageSaid := by
  have h := Go.Lg.law_language
  have lifted : ∀ (os : Os) (started : os.Started) (H : Type) (enc : TypeId × Value → H),
      ReturnsInHanded {} Try.checked os 4 .any (Rows.reduceLanguageSpec.pre6 enc Try.prog Try.f4 Rows.reduceLanguageRow.domain false) (Rows.reduceLanguageSpec.post enc Try.prog Try.f4 false true false false) := by
    intro os started H enc
    refine returnsInHanded_of_change_shaped (C := Try.checked) ownk started (by kernel_rfl) Try.func4
      (ChangeSpec.witness6 (enc := enc) (C := Try.checked) false ⟨#[], #[.agg #[.slice none 0 0, .slice none 0 0, .int .i64 0, .slice none 0 0], .slice none 0 0], []⟩ 8 (by kernel_rfl) (by kernel_rfl) (by kernel_rfl) (by kernel_rfl)) ?_
    intro W base args ds gs before hval hW _ _ hsh _
    have hW' := hW
    obtain ⟨hG, hgl⟩ := gw_open hsh
    obtain ⟨p, q, hA0, hV, rfl, hfz, hnd⟩ := hW
    have hA : DataW.TrodAll enc Try.prog W 0 (fun _ => true) true Try.f4.params.toList args.toList ds p := hA0
    rw [Try.params4] at hA hval
    obtain ⟨v0, vs0, d0, ds0, p0, q0, hargs, rfl, rfl, h0, r0⟩ := trodAll_cons hA
    obtain ⟨v1, vs1, d1, ds1, p1, q1, rfl, rfl, rfl, h1, r1⟩ := trodAll_cons r0
    obtain ⟨rfl, rfl, rfl⟩ := trodAll_nil r1
    obtain rfl : args = #[v0, v1] := by cases args; simp_all
    obtain ⟨g0, a0⟩ := arg_gram h0 (hval 0 _ v0 rfl rfl)
    obtain ⟨g1, a1⟩ := arg_bytes h1 (hval 1 _ v1 rfl rfl)
    refine ((h g0 g1).calls hG hgl (vs := #[v0, v1]) rfl fun i x v hx hu => ?_).mono fun e W' ⟨v, he, ⟨_, _, _, hv⟩, hb⟩ => ?_
    · match i, hx, hu with
      | 0, hx, hu => simp at hx hu; subst hx hu; exact a0
      | 1, hx, hu => simp at hx hu; subst hx hu; exact a1
      | i + 2, hx, hu => simp at hx
    · obtain rfl := hv.val_eq
      exact ⟨_, he, law_post laidk (by kernel_rfl) (by kernel_rfl) (tb := 4) (by kernel_rfl) rfl hW' (fun hg => by subst hg; rfl) hb⟩
  exact OpenClaim.holds_of_wide 4 Try.f4 rfl rfl rfl rfl rfl rfl rfl ⟨rfl, rfl, rfl, rfl, rfl⟩ rfl rfl rfl rfl rfl (by kernel_rfl) Try.func4 (by kernel_rfl)
    (of_decide_eq_true (by kernel_rfl)) (by unfold Func.isWrapper; first | (rw [if_pos (by decide +kernel)]; kernel_rfl) | (rw [if_neg (by decide +kernel)]; exact ⟨rfl, rfl⟩))
    (fun os started H enc _ => lifted os started H enc)
#print axioms lang_said
end Go.Proofs.Ytjenalojiheapaa
