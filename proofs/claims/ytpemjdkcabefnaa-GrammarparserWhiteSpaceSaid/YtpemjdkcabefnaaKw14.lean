/-
  Part 14 of the proof of GrammarparserWhiteSpace: the logic over the model, the functions' contracts and the plain laws.
-/
import Derived.Test.YtpemjdkcabefnaaKw13

set_option linter.unusedSimpArgs false
set_option linter.unusedVariables false
set_option linter.unusedSectionVars false

namespace Go.Lg
open Go.Proofs
set_option linter.unusedSimpArgs false
set_option linter.unusedVariables false
attribute [local irreducible] Ap Rq asemC WP RunD Ret Gq thenA inBlockA bodyQ noGotoA RqL RqP OpP
set_option maxHeartbeats 8000000
set_option maxRecDepth 20000
attribute [local simp] psA psR
def Inv17 {α : Type} (b b1 : Bool) (l l1 : List (Nat × Tx)) (fin : PR α) (p : PR α) (err : List Tx → Prop) : Prop := l1 <:+ l ∧ (b = true → b1 = true ∧ l1 = l) ∧ (b = false → b1 = false → fin = p) ∧ (b = false → b1 = true → err (l1.map (·.2)))
theorem items17_of (s : ByteArray) (l : List (Nat × Tx)) (h : At s l) (b : Bool) (hB : l.length ≤ 1000000) (hi : ∀ l' b', l' <:+ l → FnM Try.prog 84 [.ptr 0 4 0 0] [psA s l' b'] (post17 exprA s b' (pItem (l'.map (·.2))) l')) :
    FnM Try.prog 76 [.ptr 0 4 0 0] [psA s l b] (post17 exprA s b (pSeq (l.map (·.2))) l) := by
  refine FnM.intro (by kernel_rfl) Try.func76 rfl rfl Try.ntmps76 (by exact Nat.le_of_ble_eq_true rfl) ?_; intro Γ hm
  (repeat' (first | refine WP.seq ?_ | refine WP.block ?_ | refine go_n ?_ | (refine WP.regionC (id := 0) ?_; (refine se_alloc (by rfl) ?_); refine asemC_end ?_) | (refine WP.regionC (id := 1) ?_; (refine su (ap_assign (rq_p rfl rfl)) ?_); refine asemC_end ?_)))
  refine wp_nil 3 3 rfl ?_
  refine wp_loop (fun (σ : List GEx × List (Nat × Tx) × Bool) => σ.1.length + σ.2.1.length ≤ l.length + (if σ.2.2 then 1 else 0) ∧ Inv17 b σ.2.2 l σ.2.1 (finI σ.1 (σ.2.1.map (·.2))) (pItems (l.map (·.2))) (fun r => pItems (l.map (·.2)) = .err r)) (fun σ => 2 * σ.2.1.length + (if σ.2.2 then 0 else 1))
    (fun σ => (S 30 [(0, .ptr 0 4 0 0), (2, .ptr 1 3 0 0), (3, .ref 2 3 0 σ.1.length)] 3 [(0, some (psA s σ.2.1 σ.2.2)), (1, some (.arr 3 [.agg [intA 0, strA ⟨#[]⟩, .val (.slice none 0 0)]])), (2, some (.arr 3 (σ.1.map exprA)))])) ([], l, b) ⟨[0, 1, 2], ToR.S rfl (by repeat' (first | exact rt_nil | refine rt_r (by rfl) (by rfl) ?_ | refine rt_t (by rfl) (by rfl) ?_)) (by repeat' (first | exact ro_nil | refine ro_e (by rfl) (by rfl) ?_)) (by rfl) (by (rw [hm]; exact rfl)) (by rfl) (by (simp [bdT, AV.bd, bdL, bdL_append]; done)) (by repeat' (first | exact True.intro | exact rfl | refine And.intro ?_ ?_)) (by (rw [hm]; exact Nat.le_of_ble_eq_true rfl))⟩ ⟨by simp, List.suffix_refl _, fun hb => ⟨hb, rfl⟩, fun _ _ => finI_nil _, fun h1 h2 => by simp only at h2; rw [h1] at h2; cases h2⟩ ?_
  rintro ⟨acc, l1, b1⟩ ⟨hn1, hs1, hv1, hv2, hv3⟩
  simp only at hn1 hs1 hv1 hv2 hv3 ⊢
  have h1 := h.suf hs1
  have hi1 := hi l1 b1 hs1
  cases b1 with
  | true =>
    have hpost : post17 exprA s b (pSeq (l.map (·.2))) l (exprA (seqOf acc)) [psA s l1 true] := by
      refine ⟨seqOf acc, l1, true, rfl, rfl, hs1, hv1, fun _ q => (by cases q), fun hb _ => ?_⟩
      unfold pSeq
      rw [hv3 hb rfl]
    (repeat' (first | refine WP.seq ?_ | refine WP.block ?_ | refine go_n ?_ | refine WP.skip ?_ | refine WP.exit ?_ | refine go_x ?_ | refine bl_x ?_ | (refine wp_cond (by rfl) (fun hc => ?_) (fun hc => ?_) <;> (try simp only [sB, ne_eq, reduceCtorEq] at hc) <;> (try (exfalso; omega))) | (refine WP.regionC (id := 2) ?_ <;> (refine su (ap_move (rq_p rfl rfl)) ?_) <;> (refine su (ap_nilc (rq_p rfl rfl)) ?_) <;> (refine su (ap_field_p (rq_p rfl rfl) (by rfl) (by rfl)) ?_) <;> (refine su (ap_load_p (rq_p rfl rfl) (by rfl) (by rfl) (by rfl)) ?_) <;> (refine su (ap_not (rq_p rfl rfl)) ?_) <;> (refine su (ap_move (rq_p rfl rfl)) ?_) <;> (first | refine sg (x := .val (.bool true)) (gq_vt rfl rfl) (fun he => absurd he (by first | decide | fail)) ?_ | fail) <;> (first | refine sg (x := .val (.bool true)) (gq_vt rfl rfl) (fun he => absurd he (by first | decide | fail)) ?_ | fail) <;> (first | refine sg (x := .val (.bool true)) (gq_vt rfl rfl) (fun he => absurd he (by first | decide | fail)) ?_ | fail) <;> (first | refine sg (x := .val (.bool true)) (gq_cf rfl rfl) (fun he => absurd he (by first | decide | fail)) ?_ | fail) <;> (first | refine sg (x := .val (.bool true)) (gq_cf rfl rfl) (fun he => absurd he (by first | decide | fail)) ?_ | fail) <;> (first | refine sg (x := .val (.bool true)) (gq_vt rfl rfl) (fun he => absurd he (by first | decide | fail)) ?_ | fail) <;> (refine su (ap_and (rq_p rfl rfl) (rq_c rfl rfl)) ?_) <;> refine asemC_end ?_)))
    · exfalso; simp_all
    · skip
      refine wp_frzm 3 hm rfl rfl rfl (bd_exprA 0) (fun _ => rfl) (by rfl) ?_
      cases acc with
      | nil =>
        (repeat' (first | refine WP.seq ?_ | refine go_n ?_ | refine WP.skip ?_ | refine WP.ret ?_ | refine bo_r ?_ | (refine wp_cond (by rfl) (fun hc => ?_) (fun hc => ?_) <;> (try simp only [sB, ne_eq, reduceCtorEq] at hc) <;> (try (exfalso; omega))) | (refine WP.regionC (id := 4) ?_; (refine su (ap_move (rq_p rfl rfl)) ?_); (refine su (ap_len_m (by rfl) (rq_p rfl rfl)) ?_); (refine su (ap_eql (rq_p rfl rfl) (rq_p rfl rfl)) ?_); refine asemC_end ?_) | (refine WP.regionC (id := 6) ?_; (refine su (ap_move (rq_p rfl rfl)) ?_); (refine su (ap_build (RqP.cons (rq_p rfl rfl) (RqP.cons (rq_p rfl rfl) (RqP.nil))) (by rfl)) ?_); (refine se_store_b (by rfl) (by rfl) (by rfl) (by rfl) ?_); refine asemC_end ?_)))
        all_goals (first | (exfalso; simp at hc; done) | skip)
        refine retM_L (x := exprA (seqOf [])) (os1 := [(0, some (psA s l1 true))]) [psA s l1 true] (.cellT (by rfl) (by rfl) (by rfl) (by rfl) .nil) (by rfl) (by rfl) ⟨[0], ToR.S rfl (by repeat' (exact rt_nil)) (by repeat' (first | exact ro_nil | refine ro_e (by rfl) (by rfl) ?_)) (by rfl) (by rfl) (by rfl) (by (simp [bdT, AV.bd, bdL, bdL_append]; done)) (by repeat' (first | exact True.intro | exact rfl | refine And.intro ?_ ?_)) (by exact Nat.le_of_ble_eq_true rfl)⟩ (by rfl) ?_
        exact hpost
      | cons y acc' =>
        cases acc' with
        | nil =>
          (repeat' (first | refine WP.seq ?_ | refine go_n ?_ | refine WP.skip ?_ | refine WP.ret ?_ | refine go_r ?_ | refine bo_r ?_ | (refine wp_cond (by rfl) (fun hc => ?_) (fun hc => ?_) <;> (try simp only [sB, ne_eq, reduceCtorEq] at hc) <;> (try (exfalso; omega))) | (refine WP.regionC (id := 4) ?_; (refine su (ap_move (rq_p rfl rfl)) ?_); (refine su (ap_len_m (by rfl) (rq_p rfl rfl)) ?_); (refine su (ap_eql (rq_p rfl rfl) (rq_p rfl rfl)) ?_); refine asemC_end ?_) | (refine WP.regionC (id := 5) ?_; (refine su (ap_move (rq_p rfl rfl)) ?_); (refine su (ap_idx_n (rq_p rfl rfl) (rq_p rfl rfl) (by (simp only [sL] <;> omega))) ?_); (refine su (ap_load_w (rq_p rfl rfl) (by rfl)) ?_); (refine se_store_b (by rfl) (by rfl) (by rfl) (by rfl) ?_); refine asemC_end ?_)))
          all_goals (first | (exfalso; simp at hc; done) | skip)
          refine retM_L (x := exprA (seqOf [y])) (os1 := [(0, some (psA s l1 true))]) [psA s l1 true] (.cellT (by rfl) (by rfl) (by rfl) (by rfl) .nil) (by rfl) (by (simp [AV.bd, bdL, bdL_append]; done)) ⟨[0], ToR.S rfl (by repeat' (exact rt_nil)) (by repeat' (first | exact ro_nil | refine ro_e (by rfl) (by rfl) ?_)) (by rfl) (by rfl) (by rfl) (by (simp [bdT, AV.bd, bdL, bdL_append]; done)) (by repeat' (first | exact True.intro | exact rfl | refine And.intro ?_ ?_)) (by exact Nat.le_of_ble_eq_true rfl)⟩ (by rfl) ?_
          exact hpost
        | cons y' acc2 =>
          (repeat' (first | refine WP.seq ?_ | refine go_n ?_ | refine WP.skip ?_ | refine WP.ret ?_ | refine bo_r ?_ | (refine wp_cond (by rfl) (fun hc => ?_) (fun hc => ?_) <;> (try simp only [sB, ne_eq, reduceCtorEq] at hc) <;> (try (exfalso; omega))) | (refine WP.regionC (id := 4) ?_; (refine su (ap_move (rq_p rfl rfl)) ?_); (refine su (ap_len_m (by rfl) (rq_p rfl rfl)) ?_); (refine su (ap_eql (rq_p rfl rfl) (rq_p rfl rfl)) ?_); refine asemC_end ?_) | (refine WP.regionC (id := 6) ?_; (refine su (ap_move (rq_p rfl rfl)) ?_); (refine su (ap_build (RqP.cons (rq_p rfl rfl) (RqP.cons (rq_p rfl rfl) (RqP.nil))) (by rfl)) ?_); (refine se_store_b (by rfl) (by rfl) (by rfl) (by rfl) ?_); refine asemC_end ?_)))
          all_goals (first | (exfalso; simp at hc; omega) | skip)
          have he : exprA (seqOf (y :: y' :: acc2)) = .agg [intA 2, strA ⟨#[]⟩, .sl 3 ((y :: y' :: acc2).map exprA)] := exprA_mk _ _ _
          rw [he] at hpost
          refine retM_L (x := .agg [intA 2, strA ⟨#[]⟩, .sl 3 ((y :: y' :: acc2).map exprA)]) (os1 := [(0, some (psA s l1 true))]) [psA s l1 true] (.cellT (by rfl) (by rfl) (by rfl) (by rfl) .nil) (by rfl) (by (simp [AV.bd, bdL, bdL_append]; done)) ⟨[0], ToR.S rfl (by repeat' (exact rt_nil)) (by repeat' (first | exact ro_nil | refine ro_e (by rfl) (by rfl) ?_)) (by rfl) (by rfl) (by rfl) (by (simp [bdT, AV.bd, bdL, bdL_append]; done)) (by repeat' (first | exact True.intro | exact rfl | refine And.intro ?_ ?_)) (by exact Nat.le_of_ble_eq_true rfl)⟩ (by rfl) ?_
          exact hpost
  | false =>
    have hbf : b = false := by
      cases b with
      | false => rfl
      | true => exact absurd (hv1 rfl).1 (by decide)
    cases hgo : (isN (l1.map (·.2)) || decide (hd (l1.map (·.2)) = [40])) with
    | false =>
      have hpost : post17 exprA s b (pSeq (l.map (·.2))) l (exprA (seqOf acc)) [psA s l1 false] := by
        refine ⟨seqOf acc, l1, false, rfl, rfl, hs1, hv1, fun hb _ => ?_, fun _ q => (by cases q)⟩
        have := finI_stop (acc := acc) hgo
        rw [hv2 hb rfl] at this
        unfold pSeq
        rw [this]
      rw [← hd40, Bool.or_eq_false_iff] at hgo
      (repeat' (first | refine WP.seq ?_ | refine WP.block ?_ | refine go_n ?_ | refine WP.skip ?_ | refine WP.exit ?_ | refine go_x ?_ | refine bl_x ?_ | (refine wp_cond (by rfl) (fun hc => ?_) (fun hc => ?_) <;> (try simp only [sB, ne_eq, reduceCtorEq] at hc) <;> (try (exfalso; omega))) | (refine WP.regionC (id := 2) ?_ <;> (refine su (ap_move (rq_p rfl rfl)) ?_) <;> (refine su (ap_nilc (rq_p rfl rfl)) ?_) <;> (refine su (ap_field_p (rq_p rfl rfl) (by rfl) (by rfl)) ?_) <;> (refine su (ap_load_p (rq_p rfl rfl) (by rfl) (by rfl) (by rfl)) ?_) <;> (refine su (ap_not (rq_p rfl rfl)) ?_) <;> (refine su (ap_move (rq_p rfl rfl)) ?_) <;> (first | refine sgt_u rfl (by rfl) (by rfl) (by rfl) rfl (ap_move (rq_p rfl rfl)) ?_ | fail) <;> (first | refine sgt_o [0] rfl (by rfl) (by rfl) rfl rfl (isname17_fn (by assumption) _) (Lend.S (by first | ((repeat' first | exact RenL.nil | refine RenL.cons (by rfl) ?_); done) | fail) (by first | ((repeat' first | exact LendO.nil | refine LendO.arr (by rfl) (by rfl) ?_); done) | fail) (by decide) (by rfl) (by simp [AV.bd, bdL, bdL_append]) (by repeat' (first | exact True.intro | refine And.intro ?_ ?_ | simp [AV.bd, bdL, bdL_append]))) ?_; simp only [updN, newO, AObj.ren, renL, AV.ren, apx, ap, if_true, if_false, Nat.reduceLT, Nat.reduceAdd, Nat.reduceSub, sO, intA, boolA, strA, psA, psR] | fail) <;> (first | refine sgt_u rfl (by rfl) (by rfl) (by rfl) rfl (ap_move (rq_p rfl rfl)) ?_ | fail) <;> (first | (refine as_split (t := 12) (by rfl) (fun hc => ?_) (fun hc => ?_) <;> (try simp only [sB, ne_eq, reduceCtorEq] at hc) <;> (try (exfalso; omega)) <;> (first | refine sgt_u rfl (by rfl) (by rfl) (by rfl) rfl (ap_move (rq_p rfl rfl)) ?_ | refine sg (x := .val (.bool true)) (gq_vf rfl rfl) (fun he => absurd he (by first | decide | fail)) ?_ | fail)) | fail) <;> (first | refine sgt_o [0] rfl (by rfl) (by rfl) rfl rfl (is17_fn (by assumption) _ _) (Lend.S (by first | ((repeat' first | exact RenL.nil | refine RenL.cons (by rfl) ?_); done) | fail) (by first | ((repeat' first | exact LendO.nil | refine LendO.arr (by rfl) (by rfl) ?_); done) | fail) (by decide) (by rfl) (by simp [AV.bd, bdL, bdL_append]) (by repeat' (first | exact True.intro | refine And.intro ?_ ?_ | simp [AV.bd, bdL, bdL_append]))) ?_; simp only [updN, newO, AObj.ren, renL, AV.ren, apx, ap, if_true, if_false, Nat.reduceLT, Nat.reduceAdd, Nat.reduceSub, sO, intA, boolA, strA, psA, psR] | refine sg (x := .val (.bool true)) (gq_vf rfl rfl) (fun he => absurd he (by first | decide | fail)) ?_ | fail) <;> (first | refine sgt_pk rfl (by rfl) (by rfl) (by rfl) (by rfl) ?_ | fail) <;> (refine su (ap_and (rq_p rfl rfl) (rq_p rfl rfl)) ?_) <;> refine asemC_end ?_)))
      all_goals (first | (exfalso; simp_all; done) | skip)
      refine wp_frzm 3 hm rfl rfl rfl (bd_exprA 0) (fun _ => rfl) (by rfl) ?_
      cases acc with
      | nil =>
        (repeat' (first | refine WP.seq ?_ | refine go_n ?_ | refine WP.skip ?_ | refine WP.ret ?_ | refine bo_r ?_ | (refine wp_cond (by rfl) (fun hc => ?_) (fun hc => ?_) <;> (try simp only [sB, ne_eq, reduceCtorEq] at hc) <;> (try (exfalso; omega))) | (refine WP.regionC (id := 4) ?_; (refine su (ap_move (rq_p rfl rfl)) ?_); (refine su (ap_len_m (by rfl) (rq_p rfl rfl)) ?_); (refine su (ap_eql (rq_p rfl rfl) (rq_p rfl rfl)) ?_); refine asemC_end ?_) | (refine WP.regionC (id := 6) ?_; (refine su (ap_move (rq_p rfl rfl)) ?_); (refine su (ap_build (RqP.cons (rq_p rfl rfl) (RqP.cons (rq_p rfl rfl) (RqP.nil))) (by rfl)) ?_); (refine se_store_b (by rfl) (by rfl) (by rfl) (by rfl) ?_); refine asemC_end ?_)))
        all_goals (first | (exfalso; simp at hc; done) | skip)
        refine retM_L (x := exprA (seqOf [])) (os1 := [(0, some (psA s l1 false))]) [psA s l1 false] (.cellT (by rfl) (by rfl) (by rfl) (by rfl) .nil) (by rfl) (by rfl) ⟨[0], ToR.S rfl (by repeat' (exact rt_nil)) (by repeat' (first | exact ro_nil | refine ro_e (by rfl) (by rfl) ?_)) (by rfl) (by rfl) (by rfl) (by (simp [bdT, AV.bd, bdL, bdL_append]; done)) (by repeat' (first | exact True.intro | exact rfl | refine And.intro ?_ ?_)) (by exact Nat.le_of_ble_eq_true rfl)⟩ (by rfl) ?_
        exact hpost
      | cons y acc' =>
        cases acc' with
        | nil =>
          (repeat' (first | refine WP.seq ?_ | refine go_n ?_ | refine WP.skip ?_ | refine WP.ret ?_ | refine go_r ?_ | refine bo_r ?_ | (refine wp_cond (by rfl) (fun hc => ?_) (fun hc => ?_) <;> (try simp only [sB, ne_eq, reduceCtorEq] at hc) <;> (try (exfalso; omega))) | (refine WP.regionC (id := 4) ?_; (refine su (ap_move (rq_p rfl rfl)) ?_); (refine su (ap_len_m (by rfl) (rq_p rfl rfl)) ?_); (refine su (ap_eql (rq_p rfl rfl) (rq_p rfl rfl)) ?_); refine asemC_end ?_) | (refine WP.regionC (id := 5) ?_; (refine su (ap_move (rq_p rfl rfl)) ?_); (refine su (ap_idx_n (rq_p rfl rfl) (rq_p rfl rfl) (by (simp only [sL] <;> omega))) ?_); (refine su (ap_load_w (rq_p rfl rfl) (by rfl)) ?_); (refine se_store_b (by rfl) (by rfl) (by rfl) (by rfl) ?_); refine asemC_end ?_)))
          all_goals (first | (exfalso; simp at hc; done) | skip)
          refine retM_L (x := exprA (seqOf [y])) (os1 := [(0, some (psA s l1 false))]) [psA s l1 false] (.cellT (by rfl) (by rfl) (by rfl) (by rfl) .nil) (by rfl) (by (simp [AV.bd, bdL, bdL_append]; done)) ⟨[0], ToR.S rfl (by repeat' (exact rt_nil)) (by repeat' (first | exact ro_nil | refine ro_e (by rfl) (by rfl) ?_)) (by rfl) (by rfl) (by rfl) (by (simp [bdT, AV.bd, bdL, bdL_append]; done)) (by repeat' (first | exact True.intro | exact rfl | refine And.intro ?_ ?_)) (by exact Nat.le_of_ble_eq_true rfl)⟩ (by rfl) ?_
          exact hpost
        | cons y' acc2 =>
          (repeat' (first | refine WP.seq ?_ | refine go_n ?_ | refine WP.skip ?_ | refine WP.ret ?_ | refine bo_r ?_ | (refine wp_cond (by rfl) (fun hc => ?_) (fun hc => ?_) <;> (try simp only [sB, ne_eq, reduceCtorEq] at hc) <;> (try (exfalso; omega))) | (refine WP.regionC (id := 4) ?_; (refine su (ap_move (rq_p rfl rfl)) ?_); (refine su (ap_len_m (by rfl) (rq_p rfl rfl)) ?_); (refine su (ap_eql (rq_p rfl rfl) (rq_p rfl rfl)) ?_); refine asemC_end ?_) | (refine WP.regionC (id := 6) ?_; (refine su (ap_move (rq_p rfl rfl)) ?_); (refine su (ap_build (RqP.cons (rq_p rfl rfl) (RqP.cons (rq_p rfl rfl) (RqP.nil))) (by rfl)) ?_); (refine se_store_b (by rfl) (by rfl) (by rfl) (by rfl) ?_); refine asemC_end ?_)))
          all_goals (first | (exfalso; simp at hc; omega) | skip)
          have he : exprA (seqOf (y :: y' :: acc2)) = .agg [intA 2, strA ⟨#[]⟩, .sl 3 ((y :: y' :: acc2).map exprA)] := exprA_mk _ _ _
          rw [he] at hpost
          refine retM_L (x := .agg [intA 2, strA ⟨#[]⟩, .sl 3 ((y :: y' :: acc2).map exprA)]) (os1 := [(0, some (psA s l1 false))]) [psA s l1 false] (.cellT (by rfl) (by rfl) (by rfl) (by rfl) .nil) (by rfl) (by (simp [AV.bd, bdL, bdL_append]; done)) ⟨[0], ToR.S rfl (by repeat' (exact rt_nil)) (by repeat' (first | exact ro_nil | refine ro_e (by rfl) (by rfl) ?_)) (by rfl) (by rfl) (by rfl) (by (simp [bdT, AV.bd, bdL, bdL_append]; done)) (by repeat' (first | exact True.intro | exact rfl | refine And.intro ?_ ?_)) (by exact Nat.le_of_ble_eq_true rfl)⟩ (by rfl) ?_
          exact hpost
    | true =>
      have go : finI acc (l1.map (·.2)) = match pItem (l1.map (·.2)) with | .err q => .err q | .ok x r => finI (acc ++ [x]) r := finI_step hgo
      rw [← hd40] at hgo
      have hn1' : acc.length + l1.length ≤ l.length := by simpa using hn1
      have hnext : ∀ y l2 b2, Out17 false (pItem (l1.map (·.2))) l1 l2 y b2 → (2 * l2.length + (if b2 = true then 0 else 1) < 2 * l1.length + (if false = true then 0 else 1) ∧ (acc ++ [y]).length + l2.length ≤ l.length + (if b2 = true then 1 else 0) ∧ Inv17 b b2 l l2 (finI (acc ++ [y]) (l2.map (·.2))) (pItems (l.map (·.2))) (fun r => pItems (l.map (·.2)) = .err r)) := by
        rintro y l2 b2 ⟨o1, o2, o3, o4⟩
        have hle := o1.length_le
        cases b2 with
        | false =>
          have hp := o3 rfl rfl
          have hlt := pItem_lt hp
          simp only [List.length_map] at hlt
          refine ⟨by simp only [Bool.false_eq_true, if_false]; omega, by simp only [Bool.false_eq_true, if_false, List.length_append, List.length_cons, List.length_nil]; omega, o1.trans hs1, fun q => (by rw [hbf] at q; cases q), fun _ _ => ?_, fun _ q => (by cases q)⟩
          rw [← hv2 hbf rfl, go, hp]
        | true =>
          have hp := o4 rfl rfl
          refine ⟨by simp only [Bool.false_eq_true, if_false, if_true]; omega, by simp only [if_true, List.length_append, List.length_cons, List.length_nil]; omega, o1.trans hs1, fun q => (by rw [hbf] at q; cases q), fun _ q => (by cases q), fun _ _ => ?_⟩
          rw [← hv2 hbf rfl, go, hp]
      (repeat' (first | refine WP.seq ?_ | refine WP.block ?_ | refine go_n ?_ | refine WP.skip ?_ | refine WP.exit ?_ | refine go_x ?_ | refine bl_x ?_ | (refine wp_cond (by rfl) (fun hc => ?_) (fun hc => ?_) <;> (try simp only [sB, ne_eq, reduceCtorEq] at hc) <;> (try (exfalso; omega))) | (refine WP.regionC (id := 2) ?_ <;> (refine su (ap_move (rq_p rfl rfl)) ?_) <;> (refine su (ap_nilc (rq_p rfl rfl)) ?_) <;> (refine su (ap_field_p (rq_p rfl rfl) (by rfl) (by rfl)) ?_) <;> (refine su (ap_load_p (rq_p rfl rfl) (by rfl) (by rfl) (by rfl)) ?_) <;> (refine su (ap_not (rq_p rfl rfl)) ?_) <;> (refine su (ap_move (rq_p rfl rfl)) ?_) <;> (first | refine sgt_u rfl (by rfl) (by rfl) (by rfl) rfl (ap_move (rq_p rfl rfl)) ?_ | fail) <;> (first | refine sgt_o [0] rfl (by rfl) (by rfl) rfl rfl (isname17_fn (by assumption) _) (Lend.S (by first | ((repeat' first | exact RenL.nil | refine RenL.cons (by rfl) ?_); done) | fail) (by first | ((repeat' first | exact LendO.nil | refine LendO.arr (by rfl) (by rfl) ?_); done) | fail) (by decide) (by rfl) (by simp [AV.bd, bdL, bdL_append]) (by repeat' (first | exact True.intro | refine And.intro ?_ ?_ | simp [AV.bd, bdL, bdL_append]))) ?_; simp only [updN, newO, AObj.ren, renL, AV.ren, apx, ap, if_true, if_false, Nat.reduceLT, Nat.reduceAdd, Nat.reduceSub, sO, intA, boolA, strA, psA, psR] | fail) <;> (first | refine sgt_u rfl (by rfl) (by rfl) (by rfl) rfl (ap_move (rq_p rfl rfl)) ?_ | fail) <;> (first | (refine as_split (t := 12) (by rfl) (fun hc => ?_) (fun hc => ?_) <;> (try simp only [sB, ne_eq, reduceCtorEq] at hc) <;> (try (exfalso; omega)) <;> (first | refine sgt_u rfl (by rfl) (by rfl) (by rfl) rfl (ap_move (rq_p rfl rfl)) ?_ | refine sg (x := .val (.bool true)) (gq_vf rfl rfl) (fun he => absurd he (by first | decide | fail)) ?_ | fail)) | fail) <;> (first | refine sgt_o [0] rfl (by rfl) (by rfl) rfl rfl (is17_fn (by assumption) _ _) (Lend.S (by first | ((repeat' first | exact RenL.nil | refine RenL.cons (by rfl) ?_); done) | fail) (by first | ((repeat' first | exact LendO.nil | refine LendO.arr (by rfl) (by rfl) ?_); done) | fail) (by decide) (by rfl) (by simp [AV.bd, bdL, bdL_append]) (by repeat' (first | exact True.intro | refine And.intro ?_ ?_ | simp [AV.bd, bdL, bdL_append]))) ?_; simp only [updN, newO, AObj.ren, renL, AV.ren, apx, ap, if_true, if_false, Nat.reduceLT, Nat.reduceAdd, Nat.reduceSub, sO, intA, boolA, strA, psA, psR] | refine sg (x := .val (.bool true)) (gq_vf rfl rfl) (fun he => absurd he (by first | decide | fail)) ?_ | fail) <;> (first | refine sgt_pk rfl (by rfl) (by rfl) (by rfl) (by rfl) ?_ | fail) <;> (refine su (ap_and (rq_p rfl rfl) (rq_p rfl rfl)) ?_) <;> refine asemC_end ?_)))
      all_goals (first | (exfalso; simp_all; done) | skip)
      all_goals
        clear hn1
        (repeat' (first | refine go_n ?_ | refine bl_n ?_ | (refine WP.regionC (id := 3) ?_; (refine su (ap_move (rq_p rfl rfl)) ?_); (refine su (ap_move (rq_p rfl rfl)) ?_); (refine sc_v [0] rfl rfl (hi1) (Lend.o1 (by rfl) (by rfl) (by rfl) (by rfl) (by simp [AV.bd, bdL, bdL_append]) (by simp [AV.bd, bdL, bdL_append])) ?_; rintro r os' hlen ⟨y, l2, b2, rfl, rfl, ho⟩; simp only [psA, psR, ren_exprA, upd, AObj.ren, renL, AV.ren, renL_pure, bdL_boolA, bdL_intA, bdL_strA, bd_boolA, bd_intA, bd_strA, apx, ap, List.length_cons, List.length_nil, List.getD_cons_zero, List.getD_cons_succ, Nat.lt_irrefl, if_true, if_false, Nat.zero_lt_succ, Nat.reduceLT, Nat.reduceAdd, intA, boolA, strA]); (refine se_lit (OpP.cons (by rfl) (OpP.nil)) (by rfl) (by rfl) (by rfl) (by rfl) (by rfl) (by rfl) ?_); (refine se_app1 (by rfl) (by rfl) (by rfl) (by rfl) (by rfl) (by rfl) (by rfl) (by rfl) (by omega) ?_); (refine su (ap_assign (rq_p rfl rfl)) ?_); refine asemC_end ?_)))
        exact ⟨(acc ++ [y], l2, b2), hnext y l2 b2 ho, ⟨[0, 1, 4], ToR.S rfl (by repeat' (first | exact rt_nil | refine rt_r (by rfl) (by rfl) ?_ | refine rt_t (by rfl) (by rfl) ?_)) (by repeat' (first | exact ro_nil | refine ro_e (by rfl) (by rfl) ?_ | refine ro_p (by rfl) (by first | exact rfl | fail) (by first | exact bdL_map (fun _ => by simp [AV.bd, bdL, bdL_append]) _ | fail) ?_)) (by rfl) (by (rw [hm]; exact rfl)) (by rfl) (by (simp [bdT, AV.bd, bdL, bdL_append]; done)) (by repeat' (first | exact True.intro | exact rfl | refine And.intro ?_ ?_ | exact bdL_map (fun _ => by simp [AV.bd, bdL, bdL_append]) _)) (by (rw [hm]; exact Nat.le_of_ble_eq_true rfl))⟩⟩
end Go.Lg

namespace Go.Lg
open Go.Proofs
set_option linter.unusedSimpArgs false
set_option linter.unusedVariables false
attribute [local irreducible] Ap Rq asemC WP RunD Ret Gq thenA inBlockA bodyQ noGotoA RqL RqP OpP
set_option maxHeartbeats 8000000
set_option maxRecDepth 20000
attribute [local simp] psA psR AV.cells
theorem item17_of (s : ByteArray) (l : List (Nat × Tx)) (h : At s l) (b : Bool) (hp : FnM Try.prog 87 [.ptr 0 4 0 0] [psA s l b] (post17 exprA s b (pPrim (l.map (·.2))) l)) :
    FnM Try.prog 84 [.ptr 0 4 0 0] [psA s l b] (post17 exprA s b (pItem (l.map (·.2))) l) := by
  refine FnM.intro (by kernel_rfl) Try.func84 rfl rfl Try.ntmps84 (by exact Nat.le_of_ble_eq_true rfl) ?_; intro Γ hm
  (repeat' (first | refine WP.seq ?_ | refine WP.block ?_ | refine go_n ?_ | (refine WP.regionC (id := 0) ?_; (refine se_alloc (by rfl) ?_); refine asemC_end ?_) | (refine WP.regionC (id := 1) ?_; (refine su (ap_move (rq_p rfl rfl)) ?_); (refine sc_v [0] rfl rfl (hp) (Lend.o1 (by rfl) (by rfl) (by rfl) (by rfl) (by simp [AV.bd, bdL, bdL_append]) (by simp [AV.bd, bdL, bdL_append])) ?_; rintro r os' hlen ⟨x0, l0, b0, rfl, rfl, ho1, ho2, ho3, ho4⟩; simp only [psA, psR, ren_exprA, upd, AObj.ren, renL, AV.ren, renL_pure, bdL_boolA, bdL_intA, bdL_strA, bd_boolA, bd_intA, bd_strA, apx, ap, List.length_cons, List.length_nil, List.getD_cons_zero, List.getD_cons_succ, Nat.lt_irrefl, if_true, if_false, Nat.zero_lt_succ, Nat.reduceLT, Nat.reduceAdd, intA, boolA, strA]); (refine se_alloc (by rfl) ?_); (refine se_store_b (by rfl) (by rfl) (by rfl) (by rfl) ?_); refine asemC_end ?_)))
  have h0 := h.suf ho1
  refine wp_loop (fun (σ : GEx × List (Nat × Tx)) => σ.2 <:+ l0 ∧ sufT σ.1 (σ.2.map (·.2)) = sufT x0 (l0.map (·.2)) ∧ (b0 = true → σ = (x0, l0))) (fun σ => σ.2.length)
    (fun σ => (S 32 [(0, .ptr 0 4 0 0), (2, .ptr 1 3 0 0), (3, .ptr 2 3 0 0)] 3 [(0, some (psA s σ.2 b0)), (1, some (.arr 3 [.agg [intA 0, strA ⟨#[]⟩, .val (.slice none 0 0)]])), (2, some (.arr 3 [exprA σ.1]))])) (x0, l0) ⟨[0, 1, 2], ToR.S rfl (by repeat' (first | exact rt_nil | refine rt_t (by rfl) (by rfl) ?_)) (by repeat' (first | exact ro_nil | refine ro_e (by rfl) (by rfl) ?_ | refine ro_p (by rfl) (by first | exact rfl | fail) (by first | (simp [bdL, bdL_append, AV.bd]; done) | fail) ?_)) (by rfl) (by (rw [hm]; exact rfl)) (by rfl) (by (simp [bdT, AV.bd, bdL, bdL_append]; done)) (by repeat' (first | exact True.intro | exact rfl | refine And.intro ?_ ?_ | (simp [bdOq, bdL, bdL_append, AV.bd]; done))) (by (rw [hm]; exact Nat.le_of_ble_eq_true rfl))⟩ ⟨List.suffix_refl _, rfl, fun _ => rfl⟩ ?_
  rintro ⟨x, l1⟩ ⟨hs1, hf1, hb0⟩
  simp only at hs1 hf1 hb0 ⊢
  have h1 := h0.suf hs1
  cases b0 with
  | true =>
    have e := hb0 rfl
    injection e with e1 e2
    subst e1 e2
    (repeat' (first | refine WP.seq ?_ | refine go_n ?_ | refine WP.exit ?_ | refine WP.ret ?_ | refine go_x ?_ | refine bl_x ?_ | refine bo_r ?_ | (refine wp_cond (by rfl) (fun hc => ?_) (fun hc => ?_) <;> (try simp only [sB, ne_eq, reduceCtorEq] at hc) <;> (try (exfalso; omega))) | (refine WP.regionC (id := 2) ?_; (refine su (ap_move (rq_p rfl rfl)) ?_); (refine su (ap_nilc (rq_p rfl rfl)) ?_); (refine su (ap_field_p (rq_p rfl rfl) (by rfl) (by rfl)) ?_); (refine su (ap_load_p (rq_p rfl rfl) (by rfl) (by rfl) (by rfl)) ?_); (refine su (ap_not (rq_p rfl rfl)) ?_); refine asemC_end ?_) | (refine WP.regionC (id := 12) ?_; (refine su (ap_load_pw (rq_p rfl rfl) (by rfl) (by rfl) (by rfl)) ?_); (refine se_store_b (by rfl) (by rfl) (by rfl) (by rfl) ?_); refine asemC_end ?_)))
    all_goals (skip)
    refine retM_L (x := exprA x) (os1 := [(0, some (psA s l1 true))]) [psA s l1 true] (.cellT (by rfl) (by rfl) (by rfl) (by rfl) .nil) (by rfl) (by (simp [AV.bd, bdL, bdL_append]; done)) ⟨[0], ToR.S rfl (by repeat' (exact rt_nil)) (by repeat' (first | exact ro_nil | refine ro_e (by rfl) (by rfl) ?_)) (by rfl) (by rfl) (by rfl) (by (simp [bdT, AV.bd, bdL, bdL_append]; done)) (by repeat' (first | exact True.intro | exact rfl | refine And.intro ?_ ?_)) (by exact Nat.le_of_ble_eq_true rfl)⟩ (by rfl) ?_
    refine ⟨x, l1, true, rfl, rfl, ho1, ho2, fun _ q => (by cases q), fun hb q => ?_⟩
    have := ho4 hb q
    unfold pItem
    rw [this]
  | false =>
    have hbf : b = false := by
      cases b with
      | false => rfl
      | true => exact absurd (ho2 rfl).1 (by decide)
    have hpp := ho3 hbf rfl
    by_cases h3 : hdT l1 = [42] ∨ hdT l1 = [43] ∨ hdT l1 = [63]
    · obtain ⟨p, l2, hl1⟩ : ∃ p l2, l1 = p :: l2 := by
        cases l1 with
        | nil => simp [hdT, hd] at h3
        | cons p l2 => exact ⟨_, _, rfl⟩
      have hO : FnO Try.prog 25 [.ptr 0 4 0 0] [psA s l1 false] (.tup []) [some (psA s l2 false)] := by rw [hl1]; exact adv17 (hl1 ▸ h1) false
      have hpt : hdT l1 = p.2 := by rw [hl1]; rfl
      rw [hpt] at h3
      have go : ∀ (k : Int), sufT x (p.2 :: l2.map (·.2)) = sufT (.mk k ⟨#[]⟩ [x]) (l2.map (·.2)) → l2.length < l1.length ∧ l2 <:+ l0 ∧ sufT (.mk k ⟨#[]⟩ [x]) (l2.map (·.2)) = sufT x0 (l0.map (·.2)) ∧ (false = true → ((.mk k ⟨#[]⟩ [x], l2) : GEx × List (Nat × Tx)) = (x0, l0)) := by
        intro k hk
        refine ⟨by rw [hl1]; simp, by rw [hl1] at hs1; exact (List.suffix_cons p l2).trans hs1, ?_, fun q => by cases q⟩
        rw [← hk, ← hf1, hl1]; rfl
      have hno3 : ¬ tx (hdT l1) = (⟨#[42]⟩ : ByteArray) → ¬ tx (hdT l1) = (⟨#[43]⟩ : ByteArray) → ¬ tx (hdT l1) = (⟨#[63]⟩ : ByteArray) → False := by
        intro n1 n2 n3
        rcases h3 with h3 | h3 | h3
        · exact n1 (by rw [hpt, h3]; rfl)
        · exact n2 (by rw [hpt, h3]; rfl)
        · exact n3 (by rw [hpt, h3]; rfl)
      (repeat' (first | refine WP.seq ?_ | refine WP.block ?_ | refine go_n ?_ | refine WP.skip ?_ | refine bl_n ?_ | (refine wp_cond (by rfl) (fun hc => ?_) (fun hc => ?_) <;> (try simp only [sB, ne_eq, reduceCtorEq] at hc) <;> (try (exfalso; omega))) | (refine WP.regionC (id := 2) ?_; (refine su (ap_move (rq_p rfl rfl)) ?_); (refine su (ap_nilc (rq_p rfl rfl)) ?_); (refine su (ap_field_p (rq_p rfl rfl) (by rfl) (by rfl)) ?_); (refine su (ap_load_p (rq_p rfl rfl) (by rfl) (by rfl) (by rfl)) ?_); (refine su (ap_not (rq_p rfl rfl)) ?_); refine asemC_end ?_) | (refine WP.regionC (id := 3) ?_; (refine su (ap_move (rq_p rfl rfl)) ?_); (refine sc_o [0] rfl rfl (txt17 (by assumption) _) (Lend.o1 (by rfl) (by rfl) (by rfl) (by rfl) (by simp [AV.bd, bdL, bdL_append]) (by simp [AV.bd, bdL, bdL_append])) ?_; simp only [updN, newO, AObj.ren, renL, AV.ren, apx, ap, if_true, if_false, Nat.reduceLT, Nat.reduceAdd, Nat.reduceSub, sO, intA, boolA, strA, psA, psR]); refine asemC_end ?_) | (refine WP.regionC (id := 5) ?_; (refine su (ap_eqs (rq_p rfl rfl) (rq_p rfl rfl)) ?_); (refine su (ap_assign (rq_p rfl rfl)) ?_); refine asemC_end ?_) | (refine wpl_region (id := 6) ?_; (refine wpl_step rfl ?_); (refine su (ap_load_pw (rq_p rfl rfl) (by rfl) (by rfl) (by rfl)) ?_); (refine asemC_end ?_); (refine wpl_step rfl ?_); (refine se_lit (OpP.cons (by rfl) (OpP.nil)) (by rfl) (by rfl) (by rfl) (by rfl) (by rfl) (by rfl) ?_); (refine asemC_end ?_); (refine wpl_frzm 17 hm (by rfl) (by rfl) (by first | exact rfl | fail) (by first | (simp [AV.bd, bdL, bdL_append]; done) | fail) (by rfl) (by rfl) ?_); (refine wpl_step rfl ?_); (refine su (ap_build (RqP.cons (rq_p rfl rfl) (RqP.cons (rq_p rfl rfl) (RqP.nil))) (by rfl)) ?_); (refine asemC_end ?_); (refine wpl_step rfl ?_); (refine se_store_b (by rfl) (by rfl) (by rfl) (by rfl) ?_); (refine asemC_end ?_); (refine wpl_end ?_)) | (refine WP.regionC (id := 7) ?_; (refine su (ap_eqs (rq_p rfl rfl) (rq_p rfl rfl)) ?_); (refine su (ap_assign (rq_p rfl rfl)) ?_); refine asemC_end ?_) | (refine wpl_region (id := 8) ?_; (refine wpl_step rfl ?_); (refine su (ap_load_pw (rq_p rfl rfl) (by rfl) (by rfl) (by rfl)) ?_); (refine asemC_end ?_); (refine wpl_step rfl ?_); (refine se_lit (OpP.cons (by rfl) (OpP.nil)) (by rfl) (by rfl) (by rfl) (by rfl) (by rfl) (by rfl) ?_); (refine asemC_end ?_); (refine wpl_frzm 22 hm (by rfl) (by rfl) (by first | exact rfl | fail) (by first | (simp [AV.bd, bdL, bdL_append]; done) | fail) (by rfl) (by rfl) ?_); (refine wpl_step rfl ?_); (refine su (ap_build (RqP.cons (rq_p rfl rfl) (RqP.cons (rq_p rfl rfl) (RqP.nil))) (by rfl)) ?_); (refine asemC_end ?_); (refine wpl_step rfl ?_); (refine se_store_b (by rfl) (by rfl) (by rfl) (by rfl) ?_); (refine asemC_end ?_); (refine wpl_end ?_)) | (refine WP.regionC (id := 9) ?_; (refine su (ap_eqs (rq_p rfl rfl) (rq_p rfl rfl)) ?_); (refine su (ap_assign (rq_p rfl rfl)) ?_); refine asemC_end ?_) | (refine wpl_region (id := 10) ?_; (refine wpl_step rfl ?_); (refine su (ap_load_pw (rq_p rfl rfl) (by rfl) (by rfl) (by rfl)) ?_); (refine asemC_end ?_); (refine wpl_step rfl ?_); (refine se_lit (OpP.cons (by rfl) (OpP.nil)) (by rfl) (by rfl) (by rfl) (by rfl) (by rfl) (by rfl) ?_); (refine asemC_end ?_); (refine wpl_frzm 27 hm (by rfl) (by rfl) (by first | exact rfl | fail) (by first | (simp [AV.bd, bdL, bdL_append]; done) | fail) (by rfl) (by rfl) ?_); (refine wpl_step rfl ?_); (refine su (ap_build (RqP.cons (rq_p rfl rfl) (RqP.cons (rq_p rfl rfl) (RqP.nil))) (by rfl)) ?_); (refine asemC_end ?_); (refine wpl_step rfl ?_); (refine se_store_b (by rfl) (by rfl) (by rfl) (by rfl) ?_); (refine asemC_end ?_); (refine wpl_end ?_)) | (refine WP.regionC (id := 11) ?_; (refine su (ap_move (rq_p rfl rfl)) ?_); (refine sc_o [0] rfl rfl (hO) (Lend.o1 (by rfl) (by rfl) (by rfl) (by rfl) (by simp [AV.bd, bdL, bdL_append]) (by simp [AV.bd, bdL, bdL_append])) ?_; simp only [updN, newO, AObj.ren, renL, AV.ren, apx, ap, if_true, if_false, Nat.reduceLT, Nat.reduceAdd, Nat.reduceSub, sO, intA, boolA, strA, psA, psR]); refine asemC_end ?_)))
      · have h2 : p.2 = [42] := by rw [← hpt]; exact tx_inj (hc.trans rfl)
        refine ⟨(.mk 5 ⟨#[]⟩ [x], l2), go 5 (by rw [sufT, h2]; rfl), ?_⟩
        simp only
        rw [exprA_mk]
        exact ⟨[0, 1, 2], ToR.S rfl (by repeat' (first | exact rt_nil | refine rt_t (by rfl) (by rfl) ?_)) (by repeat' (first | exact ro_nil | refine ro_e (by rfl) (by rfl) ?_ | refine ro_p (by rfl) (by first | exact rfl | fail) (by first | (simp [bdL, bdL_append, AV.bd]; done) | fail) ?_)) (by rfl) (by (rw [hm]; exact rfl)) (by rfl) (by (simp [bdT, AV.bd, bdL, bdL_append]; done)) (by repeat' (first | exact True.intro | exact rfl | refine And.intro ?_ ?_ | (simp [bdOq, bdL, bdL_append, AV.bd]; done))) (by (rw [hm]; exact Nat.le_of_ble_eq_true rfl))⟩
      · have h2 : p.2 = [43] := by rw [← hpt]; exact tx_inj (hc.trans rfl)
        refine ⟨(.mk 6 ⟨#[]⟩ [x], l2), go 6 (by rw [sufT, h2]; rfl), ?_⟩
        simp only
        rw [exprA_mk]
        exact ⟨[0, 1, 2], ToR.S rfl (by repeat' (first | exact rt_nil | refine rt_t (by rfl) (by rfl) ?_)) (by repeat' (first | exact ro_nil | refine ro_e (by rfl) (by rfl) ?_ | refine ro_p (by rfl) (by first | exact rfl | fail) (by first | (simp [bdL, bdL_append, AV.bd]; done) | fail) ?_)) (by rfl) (by (rw [hm]; exact rfl)) (by rfl) (by (simp [bdT, AV.bd, bdL, bdL_append]; done)) (by repeat' (first | exact True.intro | exact rfl | refine And.intro ?_ ?_ | (simp [bdOq, bdL, bdL_append, AV.bd]; done))) (by (rw [hm]; exact Nat.le_of_ble_eq_true rfl))⟩
      · have h2 : p.2 = [63] := by rw [← hpt]; exact tx_inj (hc.trans rfl)
        refine ⟨(.mk 4 ⟨#[]⟩ [x], l2), go 4 (by rw [sufT, h2]; rfl), ?_⟩
        simp only
        rw [exprA_mk]
        exact ⟨[0, 1, 2], ToR.S rfl (by repeat' (first | exact rt_nil | refine rt_t (by rfl) (by rfl) ?_)) (by repeat' (first | exact ro_nil | refine ro_e (by rfl) (by rfl) ?_ | refine ro_p (by rfl) (by first | exact rfl | fail) (by first | (simp [bdL, bdL_append, AV.bd]; done) | fail) ?_)) (by rfl) (by (rw [hm]; exact rfl)) (by rfl) (by (simp [bdT, AV.bd, bdL, bdL_append]; done)) (by repeat' (first | exact True.intro | exact rfl | refine And.intro ?_ ?_ | (simp [bdOq, bdL, bdL_append, AV.bd]; done))) (by (rw [hm]; exact Nat.le_of_ble_eq_true rfl))⟩
      all_goals exfalso
      all_goals ((simp_all; done))
    · have hst : sufT x (l1.map (·.2)) = (x, l1.map (·.2)) := by
        cases l1 with
        | nil => rfl
        | cons p l2 =>
          have h2 : ¬ (p.2 = [42] ∨ p.2 = [43] ∨ p.2 = [63]) := h3
          simp only [not_or] at h2
          rw [List.map_cons, sufT, if_neg h2.1, if_neg h2.2.1, if_neg h2.2.2]
      rw [hst] at hf1
      simp only [not_or] at h3
      (repeat' (first | refine WP.seq ?_ | refine WP.block ?_ | refine go_n ?_ | refine WP.skip ?_ | refine WP.ret ?_ | refine go_r ?_ | refine bl_r ?_ | refine bo_r ?_ | (refine wp_cond (by rfl) (fun hc => ?_) (fun hc => ?_) <;> (try simp only [sB, ne_eq, reduceCtorEq] at hc) <;> (try (exfalso; omega))) | (refine WP.regionC (id := 2) ?_; (refine su (ap_move (rq_p rfl rfl)) ?_); (refine su (ap_nilc (rq_p rfl rfl)) ?_); (refine su (ap_field_p (rq_p rfl rfl) (by rfl) (by rfl)) ?_); (refine su (ap_load_p (rq_p rfl rfl) (by rfl) (by rfl) (by rfl)) ?_); (refine su (ap_not (rq_p rfl rfl)) ?_); refine asemC_end ?_) | (refine WP.regionC (id := 3) ?_; (refine su (ap_move (rq_p rfl rfl)) ?_); (refine sc_o [0] rfl rfl (txt17 (by assumption) _) (Lend.o1 (by rfl) (by rfl) (by rfl) (by rfl) (by simp [AV.bd, bdL, bdL_append]) (by simp [AV.bd, bdL, bdL_append])) ?_; simp only [updN, newO, AObj.ren, renL, AV.ren, apx, ap, if_true, if_false, Nat.reduceLT, Nat.reduceAdd, Nat.reduceSub, sO, intA, boolA, strA, psA, psR]); refine asemC_end ?_) | (refine WP.regionC (id := 5) ?_; (refine su (ap_eqs (rq_p rfl rfl) (rq_p rfl rfl)) ?_); (refine su (ap_assign (rq_p rfl rfl)) ?_); refine asemC_end ?_) | (refine WP.regionC (id := 7) ?_; (refine su (ap_eqs (rq_p rfl rfl) (rq_p rfl rfl)) ?_); (refine su (ap_assign (rq_p rfl rfl)) ?_); refine asemC_end ?_) | (refine WP.regionC (id := 9) ?_; (refine su (ap_eqs (rq_p rfl rfl) (rq_p rfl rfl)) ?_); (refine su (ap_assign (rq_p rfl rfl)) ?_); refine asemC_end ?_) | (refine WP.regionC (id := 4) ?_; (refine su (ap_load_pw (rq_p rfl rfl) (by rfl) (by rfl) (by rfl)) ?_); (refine se_store_b (by rfl) (by rfl) (by rfl) (by rfl) ?_); refine asemC_end ?_)))
      · exact absurd (tx_inj (hc.trans rfl)) h3.1
      · exact absurd (tx_inj (hc.trans rfl)) h3.2.1
      · exact absurd (tx_inj (hc.trans rfl)) h3.2.2
      · refine retM_L (x := exprA x) (os1 := [(0, some (psA s l1 false))]) [psA s l1 false] (.cellT (by rfl) (by rfl) (by rfl) (by rfl) .nil) (by rfl) (by (simp [AV.bd, bdL, bdL_append]; done)) ⟨[0], ToR.S rfl (by repeat' (exact rt_nil)) (by repeat' (first | exact ro_nil | refine ro_e (by rfl) (by rfl) ?_)) (by rfl) (by rfl) (by rfl) (by (simp [bdT, AV.bd, bdL, bdL_append]; done)) (by repeat' (first | exact True.intro | exact rfl | refine And.intro ?_ ?_)) (by exact Nat.le_of_ble_eq_true rfl)⟩ (by rfl) ?_
        refine ⟨x, l1, false, rfl, rfl, hs1.trans ho1, fun q => (by rw [hbf] at q; cases q), fun _ _ => ?_, fun _ q => (by cases q)⟩
        unfold pItem
        rw [hpp]
        simp only
        rw [← hf1]
      all_goals (exfalso; simp_all; done)
end Go.Lg

namespace Go.Lg
open Go.Proofs
set_option linter.unusedSimpArgs false
set_option linter.unusedVariables false
attribute [local irreducible] Ap Rq asemC WP RunD Ret Gq thenA inBlockA bodyQ noGotoA RqL RqP OpP
set_option maxHeartbeats 8000000
set_option maxRecDepth 20000
attribute [local simp] psA psR
theorem prim17_of (s : ByteArray) (l : List (Nat × Tx)) (h : At s l) (b : Bool) (hB : l.length ≤ 1000000) (hs : ∀ l' b', l' <:+ l → l'.length < l.length → FnM Try.prog 76 [.ptr 0 4 0 0] [psA s l' b'] (post17 exprA s b' (pSeq (l'.map (·.2))) l')) :
    FnM Try.prog 87 [.ptr 0 4 0 0] [psA s l b] (post17 exprA s b (pPrim (l.map (·.2))) l) := by
  cases h40 : (!b && decide (tx (hdT l) = (⟨#[40]⟩ : ByteArray))) with
  | false =>
    have hnm := name17_fn h b
    refine FnM.intro (by kernel_rfl) Try.func87 rfl rfl Try.ntmps87 (by exact Nat.le_of_ble_eq_true rfl) ?_; intro Γ hm
    (repeat' (first | refine WP.seq ?_ | refine go_n ?_ | refine WP.skip ?_ | (refine wp_cond (by rfl) (fun hc => ?_) (fun hc => ?_) <;> (try simp only [sB, ne_eq, reduceCtorEq] at hc) <;> (try (exfalso; omega))) | (refine WP.regionC (id := 0) ?_; (refine se_alloc (by rfl) ?_); refine asemC_end ?_) | (refine WP.regionC (id := 1) ?_; (refine su (ap_move (rq_p rfl rfl)) ?_); (refine sc_o [0] rfl rfl (is17_fn (by assumption) _ _) (Lend.o1 (by rfl) (by rfl) (by rfl) (by rfl) (by simp [AV.bd, bdL, bdL_append]) (by simp [AV.bd, bdL, bdL_append])) ?_; simp only [updN, newO, AObj.ren, renL, AV.ren, apx, ap, if_true, if_false, Nat.reduceLT, Nat.reduceAdd, Nat.reduceSub, sO, intA, boolA, strA, psA, psR]); (refine su (ap_not (rq_p rfl rfl)) ?_); refine asemC_end ?_) | (refine WP.regionC (id := 2) ?_; (refine su (ap_move (rq_p rfl rfl)) ?_); (refine sc_v [0] rfl rfl (hnm) (Lend.o1 (by rfl) (by rfl) (by rfl) (by rfl) (by simp [AV.bd, bdL, bdL_append]) (by simp [AV.bd, bdL, bdL_append])) ?_; rintro r os' hlen ⟨nm, l0, b0, rfl, rfl, ho1, ho2, ho3, ho4⟩; simp only [psA, psR, upd, AObj.ren, renL, AV.ren, renL_pure, bdL_boolA, bdL_intA, bdL_strA, bd_boolA, bd_intA, bd_strA, apx, ap, List.length_cons, List.length_nil, List.getD_cons_zero, List.getD_cons_succ, Nat.lt_irrefl, if_true, if_false, Nat.zero_lt_succ, Nat.reduceLT, Nat.reduceAdd, intA, boolA, strA]); (refine su (ap_build (RqP.cons (rq_p rfl rfl) (RqP.cons (rq_p rfl rfl) (RqP.nil))) (by rfl)) ?_); (refine se_store_b (by rfl) (by rfl) (by rfl) (by rfl) ?_); refine asemC_end ?_)))
    · refine wp_nilo 1 2 3 rfl rfl ?_
      refine wp_frzom (L := ([] : List GEx)) (f := exprA) 1 2 hm rfl rfl rfl rfl rfl (bd_exprA 0) (fun _ => rfl) (by rfl) ?_
      refine WP.ret ?_
      refine go_r ?_
      refine bo_r ?_
      refine retM_L (x := exprA (.mk 1 nm [])) (os1 := [(0, some (psA s l0 b0))]) [psA s l0 b0] (.cellT (by rfl) (by rfl) (by rfl) (by rfl) .nil) (by rfl) (by rfl) ⟨[0], ToR.S rfl (by repeat' (exact rt_nil)) (by repeat' (first | exact ro_nil | refine ro_e (by rfl) (by rfl) ?_)) (by rfl) (by rfl) (by rfl) (by (simp [bdT, AV.bd, bdL, bdL_append]; done)) (by repeat' (first | exact True.intro | exact rfl | refine And.intro ?_ ?_)) (by exact Nat.le_of_ble_eq_true rfl)⟩ (by rfl) ?_
      refine ⟨.mk 1 nm [], l0, b0, rfl, rfl, ho1, ho2, fun hb q => ?_, fun hb q => ?_⟩
      · have hq := ho3 hb q
        cases l with
        | nil => cases hq
        | cons p l' =>
          simp only [List.map_cons, pName] at hq
          split at hq
          · rename_i hn
            injection hq with e1 e2
            rw [List.map_cons, pPrim, if_pos hn, e1, e2]
          · cases hq
      · have hq := ho4 hb q
        have hnn : isN (l.map (·.2)) = false ∧ l0.map (·.2) = l.map (·.2) := by
          cases l with
          | nil => cases l0 with
            | nil => exact ⟨rfl, rfl⟩
            | cons p l' => have := ho1.length_le; simp at this
          | cons p l' =>
            simp only [List.map_cons, pName] at hq
            split at hq
            · cases hq
            · rename_i hn
              injection hq with e1
              exact ⟨by simpa [isN] using hn, by rw [List.map_cons]; exact e1.symm⟩
        rw [hnn.2]
        refine pPrim_bad hnn.1 ?_
        intro h2
        rw [hb] at h40
        have : tx (hdT l) = (⟨#[40]⟩ : ByteArray) := by unfold hdT; rw [h2]; rfl
        simp [this] at h40
    · exfalso; simp_all
  | true =>
    simp only [Bool.and_eq_true, Bool.not_eq_true', decide_eq_true_eq] at h40
    obtain ⟨hbf, h40⟩ := h40
    subst hbf
    obtain ⟨p, l2, hl, hp⟩ := hdT_cons (c := [40]) (by simp) (tx_inj (h40.trans rfl))
    have hlt : l2.length < l.length := by rw [hl]; simp
    have hs2 : l2 <:+ l := by rw [hl]; exact List.suffix_cons _ _
    have hA2 := h.suf hs2
    have hO : FnO Try.prog 25 [.ptr 0 4 0 0] [psA s l false] (.tup []) [some (psA s l2 false)] := by rw [hl]; exact adv17 (hl ▸ h) false
    have hpp : pPrim (l.map (·.2)) = match pAlts (l2.map (·.2)) with
        | .err q => .err q
        | .ok es q => match pTake [41] q with
          | .err q => .err q
          | .ok _ q' => .ok (altOf es) q' := by rw [hl, List.map_cons, hp]; exact pPrim_par _
    have hsq := hs l2 false hs2 hlt
    refine FnM.intro (by kernel_rfl) Try.func87 rfl rfl Try.ntmps87 (by exact Nat.le_of_ble_eq_true rfl) ?_; intro Γ hm
    (repeat' (first | refine WP.seq ?_ | refine WP.block ?_ | refine go_n ?_ | refine WP.skip ?_ | (refine wp_cond (by rfl) (fun hc => ?_) (fun hc => ?_) <;> (try simp only [sB, ne_eq, reduceCtorEq] at hc) <;> (try (exfalso; omega))) | (refine WP.regionC (id := 0) ?_; (refine se_alloc (by rfl) ?_); refine asemC_end ?_) | (refine WP.regionC (id := 1) ?_; (refine su (ap_move (rq_p rfl rfl)) ?_); (refine sc_o [0] rfl rfl (is17_fn h _ _) (Lend.o1 (by rfl) (by rfl) (by rfl) (by rfl) (by simp [AV.bd, bdL, bdL_append]) (by simp [AV.bd, bdL, bdL_append])) ?_; simp only [updN, newO, AObj.ren, renL, AV.ren, apx, ap, if_true, if_false, Nat.reduceLT, Nat.reduceAdd, Nat.reduceSub, sO, intA, boolA, strA, psA, psR]); (refine su (ap_not (rq_p rfl rfl)) ?_); refine asemC_end ?_) | (refine WP.regionC (id := 3) ?_; (refine su (ap_move (rq_p rfl rfl)) ?_); (refine sc_o [0] rfl rfl (hO) (Lend.o1 (by rfl) (by rfl) (by rfl) (by rfl) (by simp [AV.bd, bdL, bdL_append]) (by simp [AV.bd, bdL, bdL_append])) ?_; simp only [updN, newO, AObj.ren, renL, AV.ren, apx, ap, if_true, if_false, Nat.reduceLT, Nat.reduceAdd, Nat.reduceSub, sO, intA, boolA, strA, psA, psR]); refine asemC_end ?_) | (refine WP.regionC (id := 4) ?_; (refine su (ap_move (rq_p rfl rfl)) ?_); (refine sc_v [0] rfl rfl (hsq) (Lend.o1 (by rfl) (by rfl) (by rfl) (by rfl) (by simp [AV.bd, bdL, bdL_append]) (by simp [AV.bd, bdL, bdL_append])) ?_; rintro r os' hlen ⟨y0, l0, b0, rfl, rfl, ho1, ho2, ho3, ho4⟩; simp only [psA, psR, ren_exprA, upd, AObj.ren, renL, AV.ren, renL_pure, bdL_boolA, bdL_intA, bdL_strA, bd_boolA, bd_intA, bd_strA, apx, ap, List.length_cons, List.length_nil, List.getD_cons_zero, List.getD_cons_succ, Nat.lt_irrefl, if_true, if_false, Nat.zero_lt_succ, Nat.reduceLT, Nat.reduceAdd, intA, boolA, strA]); (refine se_lit (OpP.cons (by rfl) (OpP.nil)) (by rfl) (by rfl) (by rfl) (by rfl) (by rfl) (by rfl) ?_); (refine su (ap_assign (rq_p rfl rfl)) ?_); refine asemC_end ?_)))
    all_goals (first | (exfalso; simp_all; done) | skip)
    have hlen0 := ho1.length_le
    refine wp_loop (fun (σ : List GEx × List (Nat × Tx) × Bool) => σ.1.length + σ.2.1.length ≤ l.length + (if σ.2.2 then 1 else 0) ∧ σ.2.1 <:+ l2 ∧ σ.1 ≠ [] ∧ (σ.2.2 = false → finA σ.1 (σ.2.1.map (·.2)) = pAlts (l2.map (·.2))) ∧ (σ.2.2 = true → pAlts (l2.map (·.2)) = .err (σ.2.1.map (·.2)))) (fun σ => 2 * σ.2.1.length + (if σ.2.2 then 0 else 1))
      (fun σ => (S 34 [(0, .ptr 0 4 0 0), (2, .ptr 1 3 0 0), (3, .ref 2 3 0 σ.1.length)] 3 [(0, some (psA s σ.2.1 σ.2.2)), (1, some (.arr 3 [.agg [intA 0, strA ⟨#[]⟩, .val (.slice none 0 0)]])), (2, some (.arr 3 (σ.1.map exprA)))])) ([y0], l0, b0) ⟨[0, 1, 2], ToR.S rfl (by repeat' (first | exact rt_nil | refine rt_r (by rfl) (by rfl) ?_ | refine rt_t (by rfl) (by rfl) ?_)) (by repeat' (first | exact ro_nil | refine ro_e (by rfl) (by rfl) ?_ | refine ro_p (by rfl) (by first | exact rfl | fail) (by first | exact bdL_map (fun _ => by simp [AV.bd, bdL, bdL_append]) _ | fail) ?_)) (by rfl) (by (rw [hm]; exact rfl)) (by rfl) (by (simp [bdT, AV.bd, bdL, bdL_append]; done)) (by repeat' (first | exact True.intro | exact rfl | refine And.intro ?_ ?_ | exact bdL_map (fun _ => by simp [AV.bd, bdL, bdL_append]) _)) (by (rw [hm]; exact Nat.le_of_ble_eq_true rfl))⟩ ⟨by simp only [List.length_cons, List.length_nil]; omega, ho1, by simp, fun hb => ?_, fun hb => ?_⟩ ?_
    · simp only at hb ⊢
      have hq := ho3 rfl hb
      rw [pAlts_eq]
      unfold pSeq at hq
      cases hpi : pItems (l2.map (·.2)) with
      | err q => rw [hpi] at hq; cases hq
      | ok xs q => rw [hpi] at hq; injection hq with e1 e2; simp only; rw [e1, e2]
    · simp only at hb ⊢
      have hq := ho4 rfl hb
      rw [pAlts_eq]
      unfold pSeq at hq
      cases hpi : pItems (l2.map (·.2)) with
      | err q => rw [hpi] at hq; injection hq with e1; rw [e1]
      | ok xs q => rw [hpi] at hq; cases hq
    rintro ⟨acc, l1, b1⟩ ⟨hn1, hs1, hne, hv1, hv2⟩
    simp only at hn1 hs1 hne hv1 hv2 ⊢
    have h1 := hA2.suf hs1
    cases hbar : (!b1 && decide (tx (hdT l1) = (⟨#[124]⟩ : ByteArray))) with
    | true =>
      simp only [Bool.and_eq_true, Bool.not_eq_true', decide_eq_true_eq] at hbar
      obtain ⟨hb1, hbar⟩ := hbar
      subst hb1
      obtain ⟨p3, l4, hl3, hp3⟩ := hdT_cons (c := [124]) (by simp) (tx_inj (hbar.trans rfl))
      have hO3 : FnO Try.prog 25 [.ptr 0 4 0 0] [psA s l1 false] (.tup []) [some (psA s l4 false)] := by rw [hl3]; exact adv17 (hl3 ▸ h1) false
      have hs4 : l4 <:+ l2 := by rw [hl3] at hs1; exact (List.suffix_cons _ _).trans hs1
      have hlen4 : l4.length + 1 = l1.length := by rw [hl3]; rfl
      have hle4 := hs4.length_le
      have hsq4 := hs l4 false (hs4.trans hs2) (by omega)
      have hbb : finA acc (l1.map (·.2)) = match pItems (l4.map (·.2)) with
          | .err q' => .err q'
          | .ok xs q' => finA (acc ++ [seqOf xs]) q' := by rw [hl3, List.map_cons, hp3]; exact finA_bar _ _
      have hn1' : acc.length + l1.length ≤ l.length := by simpa using hn1
      have hnext : ∀ y l5 b5, Out17 false (pSeq (l4.map (·.2))) l4 l5 y b5 → (2 * l5.length + (if b5 = true then 0 else 1) < 2 * l1.length + (if false = true then 0 else 1) ∧ (acc ++ [y]).length + l5.length ≤ l.length + (if b5 = true then 1 else 0) ∧ l5 <:+ l2 ∧ acc ++ [y] ≠ [] ∧ (b5 = false → finA (acc ++ [y]) (l5.map (·.2)) = pAlts (l2.map (·.2))) ∧ (b5 = true → pAlts (l2.map (·.2)) = .err (l5.map (·.2)))) := by
        rintro y l5 b5 ⟨o1, o2, o3, o4⟩
        have hle := o1.length_le
        refine ⟨by cases b5 <;> simp only [Bool.false_eq_true, if_false, if_true] <;> omega, by cases b5 <;> simp only [Bool.false_eq_true, if_false, if_true, List.length_append, List.length_cons, List.length_nil] <;> omega, o1.trans hs4, by simp, fun q => ?_, fun q => ?_⟩
        · have hq := o3 rfl q
          unfold pSeq at hq
          rw [← hv1 rfl, hbb]
          cases hpi : pItems (l4.map (·.2)) with
          | err q => rw [hpi] at hq; cases hq
          | ok xs q => rw [hpi] at hq; injection hq with e1 e2; simp only; rw [e1, e2]
        · have hq := o4 rfl q
          unfold pSeq at hq
          rw [← hv1 rfl, hbb]
          cases hpi : pItems (l4.map (·.2)) with
          | err q => rw [hpi] at hq; injection hq with e1; rw [e1]
          | ok xs q => rw [hpi] at hq; cases hq
      (repeat' (first | refine WP.seq ?_ | refine WP.block ?_ | refine go_n ?_ | refine WP.skip ?_ | refine WP.exit ?_ | refine go_x ?_ | refine bl_n ?_ | refine bl_x ?_ | (refine wp_cond (by rfl) (fun hc => ?_) (fun hc => ?_) <;> (try simp only [sB, ne_eq, reduceCtorEq] at hc) <;> (try (exfalso; omega))) | (refine WP.regionC (id := 5) ?_; (refine su (ap_move (rq_p rfl rfl)) ?_); (refine sc_o [0] rfl rfl (is17_fn (by assumption) _ _) (Lend.o1 (by rfl) (by rfl) (by rfl) (by rfl) (by simp [AV.bd, bdL, bdL_append]) (by simp [AV.bd, bdL, bdL_append])) ?_; simp only [updN, newO, AObj.ren, renL, AV.ren, apx, ap, if_true, if_false, Nat.reduceLT, Nat.reduceAdd, Nat.reduceSub, sO, intA, boolA, strA, psA, psR]); refine asemC_end ?_) | (refine WP.regionC (id := 6) ?_; (refine su (ap_move (rq_p rfl rfl)) ?_); (refine sc_o [0] rfl rfl (hO3) (Lend.o1 (by rfl) (by rfl) (by rfl) (by rfl) (by simp [AV.bd, bdL, bdL_append]) (by simp [AV.bd, bdL, bdL_append])) ?_; simp only [updN, newO, AObj.ren, renL, AV.ren, apx, ap, if_true, if_false, Nat.reduceLT, Nat.reduceAdd, Nat.reduceSub, sO, intA, boolA, strA, psA, psR]); refine asemC_end ?_) | (refine WP.regionC (id := 7) ?_; (refine su (ap_move (rq_p rfl rfl)) ?_); (refine su (ap_move (rq_p rfl rfl)) ?_); (refine sc_v [0] rfl rfl (hsq4) (Lend.o1 (by rfl) (by rfl) (by rfl) (by rfl) (by simp [AV.bd, bdL, bdL_append]) (by simp [AV.bd, bdL, bdL_append])) ?_; rintro r os' hlen ⟨y, l5, b5, rfl, rfl, ho⟩; simp only [psA, psR, ren_exprA, upd, AObj.ren, renL, AV.ren, renL_pure, bdL_boolA, bdL_intA, bdL_strA, bd_boolA, bd_intA, bd_strA, apx, ap, List.length_cons, List.length_nil, List.getD_cons_zero, List.getD_cons_succ, Nat.lt_irrefl, if_true, if_false, Nat.zero_lt_succ, Nat.reduceLT, Nat.reduceAdd, intA, boolA, strA]); (refine se_lit (OpP.cons (by rfl) (OpP.nil)) (by rfl) (by rfl) (by rfl) (by rfl) (by rfl) (by rfl) ?_); (refine se_app1 (by rfl) (by rfl) (by rfl) (by rfl) (by rfl) (by rfl) (by rfl) (by rfl) (by omega) ?_); (refine su (ap_assign (rq_p rfl rfl)) ?_); refine asemC_end ?_)))
      · exact ⟨(acc ++ [y], l5, b5), hnext y l5 b5 ho, ⟨[0, 1, 4], ToR.S rfl (by repeat' (first | exact rt_nil | refine rt_r (by rfl) (by rfl) ?_ | refine rt_t (by rfl) (by rfl) ?_)) (by repeat' (first | exact ro_nil | refine ro_e (by rfl) (by rfl) ?_ | refine ro_p (by rfl) (by first | exact rfl | fail) (by first | exact bdL_map (fun _ => by simp [AV.bd, bdL, bdL_append]) _ | fail) ?_)) (by rfl) (by (rw [hm]; exact rfl)) (by rfl) (by (simp [bdT, AV.bd, bdL, bdL_append]; done)) (by repeat' (first | exact True.intro | exact rfl | refine And.intro ?_ ?_ | exact bdL_map (fun _ => by simp [AV.bd, bdL, bdL_append]) _)) (by (rw [hm]; exact Nat.le_of_ble_eq_true rfl))⟩⟩
      all_goals exfalso
      all_goals (exact (hc.resolve_left (by simp)) hbar)
    | false =>
      have htk := take17_fn h1 ⟨#[41]⟩ (by decide) b1
      (repeat' (first | refine WP.seq ?_ | refine WP.block ?_ | refine go_n ?_ | refine WP.skip ?_ | refine WP.exit ?_ | refine go_x ?_ | refine bl_x ?_ | (refine wp_cond (by rfl) (fun hc => ?_) (fun hc => ?_) <;> (try simp only [sB, ne_eq, reduceCtorEq] at hc) <;> (try (exfalso; omega))) | (refine WP.regionC (id := 5) ?_; (refine su (ap_move (rq_p rfl rfl)) ?_); (refine sc_o [0] rfl rfl (is17_fn (by assumption) _ _) (Lend.o1 (by rfl) (by rfl) (by rfl) (by rfl) (by simp [AV.bd, bdL, bdL_append]) (by simp [AV.bd, bdL, bdL_append])) ?_; simp only [updN, newO, AObj.ren, renL, AV.ren, apx, ap, if_true, if_false, Nat.reduceLT, Nat.reduceAdd, Nat.reduceSub, sO, intA, boolA, strA, psA, psR]); refine asemC_end ?_) | (refine WP.regionC (id := 8) ?_; (refine su (ap_move (rq_p rfl rfl)) ?_); (refine sc_v [0] rfl rfl (htk) (Lend.o1 (by rfl) (by rfl) (by rfl) (by rfl) (by simp [AV.bd, bdL, bdL_append]) (by simp [AV.bd, bdL, bdL_append])) ?_; rintro r os' hlen ⟨u, l5, b5, rfl, rfl, ho⟩; simp only [psA, psR, upd, AObj.ren, renL, AV.ren, renL_pure, bdL_boolA, bdL_intA, bdL_strA, bd_boolA, bd_intA, bd_strA, apx, ap, List.length_cons, List.length_nil, List.getD_cons_zero, List.getD_cons_succ, Nat.lt_irrefl, if_true, if_false, Nat.zero_lt_succ, Nat.reduceLT, Nat.reduceAdd, intA, boolA, strA]); refine asemC_end ?_)))
      all_goals (first | (exfalso; simp_all; done) | skip)
      have hpost : post17 exprA s false (pPrim (l.map (·.2))) l (exprA (altOf acc)) [psA s l5 b5] := by
        obtain ⟨o1, o2, o3, o4⟩ := ho
        refine ⟨altOf acc, l5, b5, rfl, rfl, (o1.trans hs1).trans hs2, fun q => (by cases q), fun _ q => ?_, fun _ q => ?_⟩
        · cases b1 with
          | true => have := (o2 rfl).1; rw [q] at this; cases this
          | false =>
            have hq := o3 rfl q
            have hfe : pAlts (l2.map (·.2)) = .ok acc (l1.map (·.2)) := by
              rw [← hv1 rfl]
              refine finA_stop fun h2 => ?_
              have : tx (hdT l1) = (⟨#[124]⟩ : ByteArray) := by unfold hdT; rw [h2]; rfl
              rw [this] at hbar; revert hbar; decide
            have hq' : pTake [41] (l1.map (·.2)) = .ok u (l5.map (·.2)) := hq
            rw [hpp, hfe]
            simp only
            rw [hq']
        · cases b1 with
          | true =>
            have e := (o2 rfl).2
            rw [hpp, hv2 rfl, e]
          | false =>
            have hq := o4 rfl q
            have hfe : pAlts (l2.map (·.2)) = .ok acc (l1.map (·.2)) := by
              rw [← hv1 rfl]
              refine finA_stop fun h2 => ?_
              have : tx (hdT l1) = (⟨#[124]⟩ : ByteArray) := by unfold hdT; rw [h2]; rfl
              rw [this] at hbar; revert hbar; decide
            have hq' : pTake [41] (l1.map (·.2)) = .err (l5.map (·.2)) := hq
            rw [hpp, hfe]
            simp only
            rw [hq']
      refine wp_frzm 3 hm rfl rfl rfl (bd_exprA 0) (fun _ => rfl) (by rfl) ?_
      cases acc with
      | nil =>
        (repeat' (first | refine WP.seq ?_ | refine go_n ?_ | refine WP.skip ?_ | refine WP.ret ?_ | refine bo_r ?_ | (refine wp_cond (by rfl) (fun hc => ?_) (fun hc => ?_) <;> (try simp only [sB, ne_eq, reduceCtorEq] at hc) <;> (try (exfalso; omega))) | (refine WP.regionC (id := 9) ?_; (refine su (ap_move (rq_p rfl rfl)) ?_); (refine su (ap_len_m (by rfl) (rq_p rfl rfl)) ?_); (refine su (ap_eql (rq_p rfl rfl) (rq_p rfl rfl)) ?_); refine asemC_end ?_) | (refine WP.regionC (id := 11) ?_; (refine su (ap_move (rq_p rfl rfl)) ?_); (refine su (ap_build (RqP.cons (rq_p rfl rfl) (RqP.cons (rq_p rfl rfl) (RqP.nil))) (by rfl)) ?_); (refine se_store_b (by rfl) (by rfl) (by rfl) (by rfl) ?_); refine asemC_end ?_)))
        all_goals (first | (exfalso; simp at hc; done) | skip)
        refine retM_L (x := exprA (altOf [])) (os1 := [(0, some (psA s l5 b5))]) [psA s l5 b5] (.cellT (by rfl) (by rfl) (by rfl) (by rfl) .nil) (by rfl) (by rfl) ⟨[0], ToR.S rfl (by repeat' (exact rt_nil)) (by repeat' (first | exact ro_nil | refine ro_e (by rfl) (by rfl) ?_)) (by rfl) (by rfl) (by rfl) (by (simp [bdT, AV.bd, bdL, bdL_append]; done)) (by repeat' (first | exact True.intro | exact rfl | refine And.intro ?_ ?_)) (by exact Nat.le_of_ble_eq_true rfl)⟩ (by rfl) ?_
        exact hpost
      | cons y acc' =>
        cases acc' with
        | nil =>
          (repeat' (first | refine WP.seq ?_ | refine go_n ?_ | refine WP.skip ?_ | refine WP.ret ?_ | refine go_r ?_ | refine bo_r ?_ | (refine wp_cond (by rfl) (fun hc => ?_) (fun hc => ?_) <;> (try simp only [sB, ne_eq, reduceCtorEq] at hc) <;> (try (exfalso; omega))) | (refine WP.regionC (id := 9) ?_; (refine su (ap_move (rq_p rfl rfl)) ?_); (refine su (ap_len_m (by rfl) (rq_p rfl rfl)) ?_); (refine su (ap_eql (rq_p rfl rfl) (rq_p rfl rfl)) ?_); refine asemC_end ?_) | (refine WP.regionC (id := 10) ?_; (refine su (ap_move (rq_p rfl rfl)) ?_); (refine su (ap_idx_n (rq_p rfl rfl) (rq_p rfl rfl) (by (simp only [sL] <;> omega))) ?_); (refine su (ap_load_w (rq_p rfl rfl) (by rfl)) ?_); (refine se_store_b (by rfl) (by rfl) (by rfl) (by rfl) ?_); refine asemC_end ?_)))
          all_goals (first | (exfalso; simp at hc; done) | skip)
          refine retM_L (x := exprA (altOf [y])) (os1 := [(0, some (psA s l5 b5))]) [psA s l5 b5] (.cellT (by rfl) (by rfl) (by rfl) (by rfl) .nil) (by rfl) (by (simp [AV.bd, bdL, bdL_append]; done)) ⟨[0], ToR.S rfl (by repeat' (exact rt_nil)) (by repeat' (first | exact ro_nil | refine ro_e (by rfl) (by rfl) ?_)) (by rfl) (by rfl) (by rfl) (by (simp [bdT, AV.bd, bdL, bdL_append]; done)) (by repeat' (first | exact True.intro | exact rfl | refine And.intro ?_ ?_)) (by exact Nat.le_of_ble_eq_true rfl)⟩ (by rfl) ?_
          exact hpost
        | cons y' acc2 =>
          (repeat' (first | refine WP.seq ?_ | refine go_n ?_ | refine WP.skip ?_ | refine WP.ret ?_ | refine bo_r ?_ | (refine wp_cond (by rfl) (fun hc => ?_) (fun hc => ?_) <;> (try simp only [sB, ne_eq, reduceCtorEq] at hc) <;> (try (exfalso; omega))) | (refine WP.regionC (id := 9) ?_; (refine su (ap_move (rq_p rfl rfl)) ?_); (refine su (ap_len_m (by rfl) (rq_p rfl rfl)) ?_); (refine su (ap_eql (rq_p rfl rfl) (rq_p rfl rfl)) ?_); refine asemC_end ?_) | (refine WP.regionC (id := 11) ?_; (refine su (ap_move (rq_p rfl rfl)) ?_); (refine su (ap_build (RqP.cons (rq_p rfl rfl) (RqP.cons (rq_p rfl rfl) (RqP.nil))) (by rfl)) ?_); (refine se_store_b (by rfl) (by rfl) (by rfl) (by rfl) ?_); refine asemC_end ?_)))
          all_goals (first | (exfalso; simp at hc; omega) | skip)
          have he : exprA (altOf (y :: y' :: acc2)) = .agg [intA 3, strA ⟨#[]⟩, .sl 3 ((y :: y' :: acc2).map exprA)] := exprA_mk _ _ _
          rw [he] at hpost
          refine retM_L (x := .agg [intA 3, strA ⟨#[]⟩, .sl 3 ((y :: y' :: acc2).map exprA)]) (os1 := [(0, some (psA s l5 b5))]) [psA s l5 b5] (.cellT (by rfl) (by rfl) (by rfl) (by rfl) .nil) (by rfl) (by (simp [AV.bd, bdL, bdL_append]; done)) ⟨[0], ToR.S rfl (by repeat' (exact rt_nil)) (by repeat' (first | exact ro_nil | refine ro_e (by rfl) (by rfl) ?_)) (by rfl) (by rfl) (by rfl) (by (simp [bdT, AV.bd, bdL, bdL_append]; done)) (by repeat' (first | exact True.intro | exact rfl | refine And.intro ?_ ?_)) (by exact Nat.le_of_ble_eq_true rfl)⟩ (by rfl) ?_
          exact hpost
theorem ref17_exprs (s : ByteArray) (n : Nat) : ∀ (l : List (Nat × Tx)) (b : Bool), l.length ≤ n → l.length ≤ 1000000 → At s l → FnM Try.prog 76 [.ptr 0 4 0 0] [psA s l b] (post17 exprA s b (pSeq (l.map (·.2))) l) := by
  induction n with
  | zero =>
    intro l b hl hB h
    refine items17_of s l h b hB fun l1 b1 h1 => item17_of s l1 (h.suf h1) b1 (prim17_of s l1 (h.suf h1) b1 (by have := h1.length_le; omega) fun l2 b2 h2 h3 => ?_)
    have := h1.length_le; omega
  | succ n ih =>
    intro l b hl hB h
    refine items17_of s l h b hB fun l1 b1 h1 => item17_of s l1 (h.suf h1) b1 (prim17_of s l1 (h.suf h1) b1 (by have := h1.length_le; omega) fun l2 b2 h2 h3 => ih l2 b2 ?_ ?_ ((h.suf h1).suf h2))
    · have := h1.length_le; omega
    · have := h1.length_le; omega
theorem items17_fn {s : ByteArray} {l : List (Nat × Tx)} (h : At s l) (hB : l.length ≤ 1000000) (b : Bool) : FnM Try.prog 76 [.ptr 0 4 0 0] [psA s l b] (post17 exprA s b (pSeq (l.map (·.2))) l) := ref17_exprs s _ l b (Nat.le_refl _) hB h
end Go.Lg

namespace Go.Lg
open Go.Proofs
set_option maxHeartbeats 8000000
set_option maxRecDepth 20000
theorem lexL_num (n : Nat) : ∀ (l : Tx) (k : Nat), l.length ≤ n → ∀ p, p ∈ lexL l k → p.2.length ≤ l.length ∧ (isNum p.2 = true → p.2.all isD = true) := by
  induction n with
  | zero =>
    intro l k hl p hp
    obtain rfl : l = [] := List.eq_nil_of_length_eq_zero (by omega)
    rw [lexL_nil] at hp; cases hp
  | succ n ih =>
    intro l k hl p hp
    cases l with
    | nil => rw [lexL_nil] at hp; cases hp
    | cons c r =>
      simp only [List.length_cons] at hl ⊢
      rw [lexL_cons] at hp
      split at hp
      · have := ih r (k + 1) (by omega) p hp
        exact ⟨by omega, this.2⟩
      · split at hp
        · have := ih (r.drop (comN r)) _ (by rw [List.length_drop]; omega) p hp
          rw [List.length_drop] at this
          exact ⟨by omega, this.2⟩
        · rcases List.mem_cons.1 hp with rfl | hp
          · refine ⟨by rw [List.length_take]; simp only [List.length_cons]; omega, fun hq => ?_⟩
            simp only at hq ⊢
            have htp := tokN_pos c r
            obtain ⟨m, hm⟩ : ∃ m, tokN (c :: r) = m + 1 := ⟨_, (Nat.sub_add_cancel htp).symm⟩
            rw [hm, List.take_succ_cons] at hq
            have hD : isD c = true := hq
            have hL : isL c = false := by
              cases hq : isL c with
              | false => rfl
              | true =>
                simp only [isL, letB, isD, digB, Bool.or_eq_true, Bool.and_eq_true, decide_eq_true_eq] at hD hq
                omega
            simp only [tokN, hL, hD, Bool.false_eq_true, if_false, if_true]
            rw [Nat.add_comm, List.take_succ_cons, List.all_cons, hD, Bool.true_and]
            rw [List.all_eq_true]
            intro x hx
            have h1 : r.take (r.takeWhile isD).length = r.takeWhile isD := (List.prefix_iff_eq_take.1 (List.takeWhile_prefix isD)).symm
            rw [h1] at hx
            exact List.all_eq_true.1 List.all_takeWhile x hx
          · have htp := tokN_pos c r
            have := ih ((c :: r).drop (tokN (c :: r))) _ (by rw [List.length_drop]; simp only [List.length_cons]; omega) p hp
            rw [List.length_drop] at this
            simp only [List.length_cons] at this
            exact ⟨by omega, this.2⟩
theorem lexL_numW (s : ByteArray) (k : Nat) : NumW (lexL ((bl s).drop k) k) := fun p hp hn => (numV_nn p.2 ((lexL_num _ _ k (Nat.le_refl _) p hp).2 hn)).1
end Go.Lg

namespace Go.Lg
open Go.Proofs
set_option linter.unusedSimpArgs false
set_option linter.unusedVariables false
attribute [local irreducible] Ap Rq asemC WP RunD Ret Gq thenA inBlockA bodyQ noGotoA RqL RqP OpP
set_option maxHeartbeats 8000000
set_option maxRecDepth 20000
attribute [local simp] psA psR tx_nil
theorem At.num {s : ByteArray} {l : List (Nat × Tx)} (h : At s l) (hn : isNum (hdT l) = true) : (hdT l).all isD = true := by
  obtain ⟨_, k, hk, he⟩ := h
  cases l with
  | nil => cases hn
  | cons p l =>
    have : p ∈ lexL ((bl s).drop k) k := by rw [← he]; simp
    exact (lexL_num _ _ k (Nat.le_refl _) p this).2 hn
def pNum (l : List Tx) : PR Int := match l with
  | [] => .err []
  | t :: r => if isNum t then .ok (numV t) r else .err (t :: r)
theorem num17 (b : Bool) (l : List (Nat × Tx)) : (b || decide (tx (hdT l) = (⟨#[]⟩ : ByteArray)) || !digB (bAt (tx (hdT l)) 0)) = (b || !isNum (hdT l)) := by
  rw [Bool.or_assoc]
  congr 1
  cases hq : hdT l with
  | nil => rfl
  | cons c t =>
    have : ¬ tx (c :: t) = (⟨#[]⟩ : ByteArray) := fun e => by have := tx_inj (e.trans (tx_nil.symm)); cases this
    simp only [this, decide_false, Bool.false_or]
    rfl
theorem number17_fn {s : ByteArray} {l : List (Nat × Tx)} (h : At s l) (b : Bool) : FnM Try.prog 77 [.ptr 0 4 0 0] [psA s l b] (post17 intA s b (pNum (l.map (·.2))) l) := by
  have hsz : (tx (hdT l)).size = (hdT l).length := tx_size _
  have hlen : (hdT l).length ≤ 100000 := by have := h.text.1; have := h.sz; omega
  cases hb : (b || !isNum (hdT l)) with
  | true =>
    have hb' := hb
    rw [← num17] at hb'
    have hbad : post17 intA s b (pNum (l.map (·.2))) l (intA 0) [psA s l true] := by
      refine ⟨0, l, true, rfl, rfl, List.suffix_refl _, fun _ => ⟨rfl, rfl⟩, fun _ q => (by cases q), fun hb0 _ => ?_⟩
      rw [hb0] at hb
      cases l with
      | nil => rfl
      | cons p l2 =>
        have h3' : isNum (hdT (p :: l2)) = false := by simpa using hb
        have h3 : isNum p.2 = false := h3'
        simp only [List.map_cons, pNum, h3, Bool.false_eq_true, if_false]
    cases hq : hdT l with
    | nil =>
      rw [hq] at hsz
      have hz : tx (hdT l) = (⟨#[]⟩ : ByteArray) := by rw [hq]; rfl
      refine FnM.intro (by kernel_rfl) Try.func77 rfl rfl Try.ntmps77 (by exact Nat.le_of_ble_eq_true rfl) ?_; intro Γ hm
      (repeat' (first | refine WP.seq ?_ | refine go_n ?_ | refine WP.skip ?_ | refine WP.ret ?_ | refine go_r ?_ | refine bo_r ?_ | (refine wp_cond (by rfl) (fun hc => ?_) (fun hc => ?_) <;> (try simp only [sB, ne_eq, reduceCtorEq] at hc) <;> (try (exfalso; omega))) | (refine WP.regionC (id := 0) ?_; (refine su (ap_assign (rq_p rfl rfl)) ?_); refine asemC_end ?_) | (refine WP.regionC (id := 1) ?_; (refine su (ap_move (rq_p rfl rfl)) ?_); (refine sc_o [0] rfl rfl (txt17 (by assumption) _) (Lend.o1 (by rfl) (by rfl) (by rfl) (by rfl) (by simp [AV.bd, bdL, bdL_append]) (by simp [AV.bd, bdL, bdL_append])) ?_; simp only [updN, newO, AObj.ren, renL, AV.ren, apx, ap, if_true, if_false, Nat.reduceLT, Nat.reduceAdd, Nat.reduceSub, sO, intA, boolA, strA, psA, psR]); (refine su (ap_assign (rq_p rfl rfl)) ?_); refine asemC_end ?_) | (refine WP.regionC (id := 2) ?_; (refine su (ap_move (rq_p rfl rfl)) ?_); (refine su (ap_nilc (rq_p rfl rfl)) ?_); (refine su (ap_field_p (rq_p rfl rfl) (by rfl) (by rfl)) ?_); (refine su (ap_load_p (rq_p rfl rfl) (by rfl) (by rfl) (by rfl)) ?_); (refine su (ap_move (rq_p rfl rfl)) ?_); (refine sg (gq_vf rfl rfl) (fun he => ap_move (rq_p rfl rfl)) ?_); (refine sg (gq_vf rfl rfl) (fun he => ap_eqs (rq_c rfl rfl) (rq_p rfl rfl)) ?_); (refine su (ap_or (rq_p rfl rfl) (rq_c rfl rfl)) ?_); (refine su (ap_move (rq_p rfl rfl)) ?_); (refine sg (gq_vf rfl rfl) (fun he => ap_move (rq_p rfl rfl)) ?_); (refine sg (gq_vf rfl rfl) (fun he => ap_sidx_n (rq_c rfl rfl) (rq_p rfl rfl) (by rfl) (by (try simp only [sH, id, sB, ne_eq, reduceCtorEq] at he); (exfalso; simp [*] at he; done))) ?_); (refine sg_p (gq_vf rfl rfl) (fun he => ⟨(rq_p rfl rfl), (RqL.cons (rq_c rfl rfl) (RqL.nil)), (by first | ((repeat' first | exact SubL.nil | refine SubL.cons ?_ ?_ | exact Sub.refl); done) | fail), (by first | (simp [bdL, bdL_append, AV.bd]; done) | fail), rdigit17_fn _⟩) ?_); (refine sg (gq_vf rfl rfl) (fun he => ap_not (rq_c rfl rfl)) ?_); (refine su (ap_or (rq_p rfl rfl) (rq_c rfl rfl)) ?_); refine asemC_end ?_) | (refine WP.regionC (id := 3) ?_; (refine su (ap_move (rq_p rfl rfl)) ?_); (refine su (ap_nilc (rq_p rfl rfl)) ?_); (refine su (ap_field_p (rq_p rfl rfl) (by rfl) (by rfl)) ?_); (refine se_store_b (by rfl) (by rfl) (by rfl) (by rfl) ?_); refine asemC_end ?_) | (refine WP.regionC (id := 4) ?_; (refine su (ap_assign (rq_p rfl rfl)) ?_); refine asemC_end ?_)))
      all_goals (first | (exfalso; simp_all; done) | skip)
      refine retM_L (x := intA 0) (os1 := [(0, some (psA s l true))]) [psA s l true] (.tmp (by rfl) .nil) (by rfl) (by rfl) ⟨[0], ToR.S rfl (by repeat' (exact rt_nil)) (by repeat' (first | exact ro_nil | refine ro_e (by rfl) (by rfl) ?_)) (by rfl) (by rfl) (by rfl) (by (simp [bdT, AV.bd, bdL, bdL_append]; done)) (by repeat' (first | exact True.intro | exact rfl | refine And.intro ?_ ?_)) (by exact Nat.le_of_ble_eq_true rfl)⟩ (by rfl) ?_
      exact hbad
    | cons c t =>
      have hz : (tx (hdT l)).size = t.length + 1 := by rw [hsz, hq]; rfl
      refine FnM.intro (by kernel_rfl) Try.func77 rfl rfl Try.ntmps77 (by exact Nat.le_of_ble_eq_true rfl) ?_; intro Γ hm
      (repeat' (first | refine WP.seq ?_ | refine go_n ?_ | refine WP.skip ?_ | refine WP.ret ?_ | refine go_r ?_ | refine bo_r ?_ | (refine wp_cond (by rfl) (fun hc => ?_) (fun hc => ?_) <;> (try simp only [sB, ne_eq, reduceCtorEq] at hc) <;> (try (exfalso; omega))) | (refine WP.regionC (id := 0) ?_; (refine su (ap_assign (rq_p rfl rfl)) ?_); refine asemC_end ?_) | (refine WP.regionC (id := 1) ?_; (refine su (ap_move (rq_p rfl rfl)) ?_); (refine sc_o [0] rfl rfl (txt17 (by assumption) _) (Lend.o1 (by rfl) (by rfl) (by rfl) (by rfl) (by simp [AV.bd, bdL, bdL_append]) (by simp [AV.bd, bdL, bdL_append])) ?_; simp only [updN, newO, AObj.ren, renL, AV.ren, apx, ap, if_true, if_false, Nat.reduceLT, Nat.reduceAdd, Nat.reduceSub, sO, intA, boolA, strA, psA, psR]); (refine su (ap_assign (rq_p rfl rfl)) ?_); refine asemC_end ?_) | (refine WP.regionC (id := 2) ?_; (refine su (ap_move (rq_p rfl rfl)) ?_); (refine su (ap_nilc (rq_p rfl rfl)) ?_); (refine su (ap_field_p (rq_p rfl rfl) (by rfl) (by rfl)) ?_); (refine su (ap_load_p (rq_p rfl rfl) (by rfl) (by rfl) (by rfl)) ?_); (refine su (ap_move (rq_p rfl rfl)) ?_); (refine sg (gq_vf rfl rfl) (fun he => ap_move (rq_p rfl rfl)) ?_); (refine sg (gq_vf rfl rfl) (fun he => ap_eqs (rq_c rfl rfl) (rq_p rfl rfl)) ?_); (refine su (ap_or (rq_p rfl rfl) (rq_c rfl rfl)) ?_); (refine su (ap_move (rq_p rfl rfl)) ?_); (refine sg (gq_vf rfl rfl) (fun he => ap_move (rq_p rfl rfl)) ?_); (refine sg (gq_vf rfl rfl) (fun he => ap_sidx_n (rq_c rfl rfl) (rq_p rfl rfl) (by rfl) (by (try simp only [sH, id, sB, ne_eq, reduceCtorEq] at he); (simp only [sL] <;> omega))) ?_); (refine sg_p (gq_vf rfl rfl) (fun he => ⟨(rq_p rfl rfl), (RqL.cons (rq_c rfl rfl) (RqL.nil)), (by first | ((repeat' first | exact SubL.nil | refine SubL.cons ?_ ?_ | exact Sub.refl); done) | fail), (by first | (simp [bdL, bdL_append, AV.bd]; done) | fail), rdigit17_fn _⟩) ?_); (refine sg (gq_vf rfl rfl) (fun he => ap_not (rq_c rfl rfl)) ?_); (refine su (ap_or (rq_p rfl rfl) (rq_c rfl rfl)) ?_); refine asemC_end ?_) | (refine WP.regionC (id := 3) ?_; (refine su (ap_move (rq_p rfl rfl)) ?_); (refine su (ap_nilc (rq_p rfl rfl)) ?_); (refine su (ap_field_p (rq_p rfl rfl) (by rfl) (by rfl)) ?_); (refine se_store_b (by rfl) (by rfl) (by rfl) (by rfl) ?_); refine asemC_end ?_) | (refine WP.regionC (id := 4) ?_; (refine su (ap_assign (rq_p rfl rfl)) ?_); refine asemC_end ?_)))
      · refine retM_L (x := intA 0) (os1 := [(0, some (psA s l true))]) [psA s l true] (.tmp (by rfl) .nil) (by rfl) (by rfl) ⟨[0], ToR.S rfl (by repeat' (exact rt_nil)) (by repeat' (first | exact ro_nil | refine ro_e (by rfl) (by rfl) ?_)) (by rfl) (by rfl) (by rfl) (by (simp [bdT, AV.bd, bdL, bdL_append]; done)) (by repeat' (first | exact True.intro | exact rfl | refine And.intro ?_ ?_)) (by exact Nat.le_of_ble_eq_true rfl)⟩ (by rfl) ?_
        exact hbad
      · exfalso; simp [hc.1.1, hc.1.2, hc.2] at hb'
  | false =>
    rw [Bool.or_eq_false_iff] at hb
    obtain ⟨hbf, hnn⟩ := hb
    subst hbf
    have hnm : isNum (hdT l) = true := by simpa using hnn
    have hdg := h.num hnm
    obtain ⟨p, l2, hl⟩ : ∃ p l2, l = p :: l2 := by
      cases l with
      | nil => cases hnm
      | cons p l2 => exact ⟨_, _, rfl⟩
    have hO : FnO Try.prog 25 [.ptr 0 4 0 0] [psA s l false] (.tup []) [some (psA s l2 false)] := by rw [hl]; exact adv17 (hl ▸ h) false
    have hpost : post17 intA s false (pNum (l.map (·.2))) l (intA (numV (hdT l))) [psA s l2 false] := by
      refine ⟨numV (hdT l), l2, false, rfl, rfl, by rw [hl]; exact List.suffix_cons _ _, fun q => (by cases q), fun _ _ => ?_, fun _ q => (by cases q)⟩
      rw [hl] at hnm ⊢
      have hnm' : isNum p.2 = true := hnm
      simp only [List.map_cons, pNum, hnm', if_true]
      rfl
    have hz : 1 ≤ (tx (hdT l)).size := by
      rw [hsz]
      cases hq : hdT l with
      | nil => rw [hq] at hnm; cases hnm
      | cons c t => simp
    have hb' := num17 false l
    rw [hnm] at hb'
    refine FnM.intro (by kernel_rfl) Try.func77 rfl rfl Try.ntmps77 (by exact Nat.le_of_ble_eq_true rfl) ?_; intro Γ hm
    (repeat' (first | refine WP.seq ?_ | refine WP.block ?_ | refine go_n ?_ | refine WP.skip ?_ | (refine wp_cond (by rfl) (fun hc => ?_) (fun hc => ?_) <;> (try simp only [sB, ne_eq, reduceCtorEq] at hc) <;> (try (exfalso; omega))) | (refine WP.regionC (id := 0) ?_; (refine su (ap_assign (rq_p rfl rfl)) ?_); refine asemC_end ?_) | (refine WP.regionC (id := 1) ?_; (refine su (ap_move (rq_p rfl rfl)) ?_); (refine sc_o [0] rfl rfl (txt17 (by assumption) _) (Lend.o1 (by rfl) (by rfl) (by rfl) (by rfl) (by simp [AV.bd, bdL, bdL_append]) (by simp [AV.bd, bdL, bdL_append])) ?_; simp only [updN, newO, AObj.ren, renL, AV.ren, apx, ap, if_true, if_false, Nat.reduceLT, Nat.reduceAdd, Nat.reduceSub, sO, intA, boolA, strA, psA, psR]); (refine su (ap_assign (rq_p rfl rfl)) ?_); refine asemC_end ?_) | (refine WP.regionC (id := 2) ?_; (refine su (ap_move (rq_p rfl rfl)) ?_); (refine su (ap_nilc (rq_p rfl rfl)) ?_); (refine su (ap_field_p (rq_p rfl rfl) (by rfl) (by rfl)) ?_); (refine su (ap_load_p (rq_p rfl rfl) (by rfl) (by rfl) (by rfl)) ?_); (refine su (ap_move (rq_p rfl rfl)) ?_); (refine sg (gq_vf rfl rfl) (fun he => ap_move (rq_p rfl rfl)) ?_); (refine sg (gq_vf rfl rfl) (fun he => ap_eqs (rq_c rfl rfl) (rq_p rfl rfl)) ?_); (refine su (ap_or (rq_p rfl rfl) (rq_c rfl rfl)) ?_); (refine su (ap_move (rq_p rfl rfl)) ?_); (refine sg (gq_vf rfl rfl) (fun he => ap_move (rq_p rfl rfl)) ?_); (refine sg (gq_vf rfl rfl) (fun he => ap_sidx_n (rq_c rfl rfl) (rq_p rfl rfl) (by rfl) (by (try simp only [sH, id, sB, ne_eq, reduceCtorEq] at he); (simp only [sL] <;> omega))) ?_); (refine sg_p (gq_vf rfl rfl) (fun he => ⟨(rq_p rfl rfl), (RqL.cons (rq_c rfl rfl) (RqL.nil)), (by first | ((repeat' first | exact SubL.nil | refine SubL.cons ?_ ?_ | exact Sub.refl); done) | fail), (by first | (simp [bdL, bdL_append, AV.bd]; done) | fail), rdigit17_fn _⟩) ?_); (refine sg (gq_vf rfl rfl) (fun he => ap_not (rq_c rfl rfl)) ?_); (refine su (ap_or (rq_p rfl rfl) (rq_c rfl rfl)) ?_); refine asemC_end ?_) | (refine WP.regionC (id := 5) ?_; (refine su (ap_assign (rq_p rfl rfl)) ?_); refine asemC_end ?_) | (refine WP.regionC (id := 6) ?_; (refine su (ap_assign (rq_p rfl rfl)) ?_); refine asemC_end ?_)))
    · exfalso; simp_all
    refine wp_loop (fun (j : Nat) => j ≤ (hdT l).length) (fun j => (hdT l).length - j) (fun j => (S 43 [(0, .ptr 0 4 0 0), (3, strA (tx (hdT l))), (4, intA (numV ((hdT l).take j))), (5, intA (j : Nat))] 1 [(0, some (psA s l false))])) 0 ⟨[0], ToR.S rfl (by repeat' (first | exact rt_nil | refine rt_t (by rfl) (by rfl) ?_ | refine rt_e (by rfl) (by rfl) ?_)) (by repeat' (first | exact ro_nil | refine ro_e (by rfl) (by rfl) ?_)) (by rfl) (by (rw [hm]; exact rfl)) (by rfl) (by (simp [bdT, AV.bd, bdL, bdL_append]; done)) (by repeat' (first | exact True.intro | exact rfl | refine And.intro ?_ ?_)) (by (rw [hm]; exact Nat.le_of_ble_eq_true rfl))⟩ (Nat.zero_le _) ?_
    rintro j hj
    by_cases hlt : j < (hdT l).length
    · have h1 := numV_nn ((hdT l).take j) (by rw [List.all_eq_true] at hdg ⊢; exact fun x hx => hdg x (List.mem_of_mem_take hx))
      have h2 : bAt (tx (hdT l)) j = (((hdT l)[j]'hlt).toNat : Int) := by
        unfold bAt
        show (((bl (tx (hdT l))).getD j 0).toNat : Int) = _
        have : bl (tx (hdT l)) = hdT l := rfl
        rw [this]
        simp [List.getD, hlt]
      have h3 : 48 ≤ bAt (tx (hdT l)) j ∧ bAt (tx (hdT l)) j ≤ 57 := by
        have := List.all_eq_true.1 hdg _ (List.getElem_mem hlt)
        simp only [isD, digB, Bool.and_eq_true, decide_eq_true_eq] at this
        rw [h2]; exact this
      have h4 : (hdT l).take (j + 1) = (hdT l).take j ++ [(hdT l)[j]'hlt] := by rw [List.take_succ_eq_append_getElem hlt]
      have h5 : numV ((hdT l).take (j + 1)) = min (10 * numV ((hdT l).take j) + (bAt (tx (hdT l)) j - 48)) 1001 := by rw [h4, numV_snoc', h2]
      (repeat' (first | refine WP.seq ?_ | refine WP.block ?_ | refine go_n ?_ | refine WP.skip ?_ | refine bl_n ?_ | (refine wp_cond (by rfl) (fun hc => ?_) (fun hc => ?_) <;> (try simp only [sB, ne_eq, reduceCtorEq] at hc) <;> (try (exfalso; omega))) | (refine WP.regionC (id := 7) ?_; (refine su (ap_move (rq_p rfl rfl)) ?_); (refine su (ap_move (rq_p rfl rfl)) ?_); (refine su (ap_len_str (by rfl) (rq_p rfl rfl)) ?_); (refine su (ap_lss (rq_p rfl rfl) (rq_p rfl rfl)) ?_); refine asemC_end ?_) | (refine WP.regionC (id := 9) ?_; (refine su (ap_move (rq_p rfl rfl)) ?_); (refine su (ap_mul (rq_p rfl rfl) (rq_p rfl rfl) (by exact inr_i64_of (by omega))) ?_); (refine su (ap_move (rq_p rfl rfl)) ?_); (refine su (ap_move (rq_p rfl rfl)) ?_); (refine su (ap_sidx_n (rq_p rfl rfl) (rq_p rfl rfl) (by rfl) (by omega)) ?_); (refine su (ap_sub (rq_p rfl rfl) (rq_p rfl rfl) (by exact inr_u8_of (by omega))) ?_); (refine su (ap_conv (rq_p rfl rfl) (by rfl) (by kernel_rfl) (by exact inr_i64_of (by omega))) ?_); (refine su (ap_add (rq_p rfl rfl) (rq_p rfl rfl) (by exact inr_i64_of (by omega))) ?_); (refine su (ap_min (rq_p rfl rfl) (rq_p rfl rfl)) ?_); (refine su (ap_assign (rq_p rfl rfl)) ?_); refine asemC_end ?_) | (refine WP.regionC (id := 8) ?_; (refine su (ap_move (rq_p rfl rfl)) ?_); (refine su (ap_add (rq_p rfl rfl) (rq_p rfl rfl) (by exact inr_i64_of (by omega))) ?_); (refine su (ap_assign (rq_p rfl rfl)) ?_); refine asemC_end ?_)))
      refine ⟨j + 1, ⟨by omega, by omega⟩, ?_⟩
      rw [h5]
      exact ⟨[0], ToR.S rfl (by repeat' (first | exact rt_nil | refine rt_t (by rfl) (by rfl) ?_ | refine rt_e (by rfl) (by rfl) ?_)) (by repeat' (first | exact ro_nil | refine ro_e (by rfl) (by rfl) ?_)) (by rfl) (by (rw [hm]; exact rfl)) (by rfl) (by (simp [bdT, AV.bd, bdL, bdL_append]; done)) (by repeat' (first | exact True.intro | exact rfl | refine And.intro ?_ ?_)) (by (rw [hm]; exact Nat.le_of_ble_eq_true rfl))⟩
    · (repeat' (first | refine WP.seq ?_ | refine go_n ?_ | refine WP.exit ?_ | refine WP.ret ?_ | refine go_x ?_ | refine bl_x ?_ | refine bo_r ?_ | (refine wp_cond (by rfl) (fun hc => ?_) (fun hc => ?_) <;> (try simp only [sB, ne_eq, reduceCtorEq] at hc) <;> (try (exfalso; omega))) | (refine WP.regionC (id := 7) ?_; (refine su (ap_move (rq_p rfl rfl)) ?_); (refine su (ap_move (rq_p rfl rfl)) ?_); (refine su (ap_len_str (by rfl) (rq_p rfl rfl)) ?_); (refine su (ap_lss (rq_p rfl rfl) (rq_p rfl rfl)) ?_); refine asemC_end ?_) | (refine WP.regionC (id := 10) ?_; (refine su (ap_move (rq_p rfl rfl)) ?_); (refine sc_o [0] rfl rfl (hO) (Lend.o1 (by rfl) (by rfl) (by rfl) (by rfl) (by simp [AV.bd, bdL, bdL_append]) (by simp [AV.bd, bdL, bdL_append])) ?_; simp only [updN, newO, AObj.ren, renL, AV.ren, apx, ap, if_true, if_false, Nat.reduceLT, Nat.reduceAdd, Nat.reduceSub, sO, intA, boolA, strA, psA, psR]); refine asemC_end ?_) | (refine WP.regionC (id := 11) ?_; (refine su (ap_move (rq_p rfl rfl)) ?_); (refine su (ap_assign (rq_p rfl rfl)) ?_); refine asemC_end ?_)))
      rw [List.take_of_length_le (by omega)]
      refine retM_L (x := intA (numV (hdT l))) (os1 := [(0, some (psA s l2 false))]) [psA s l2 false] (.tmp (by rfl) .nil) (by rfl) (by rfl) ⟨[0], ToR.S rfl (by repeat' (exact rt_nil)) (by repeat' (first | exact ro_nil | refine ro_e (by rfl) (by rfl) ?_)) (by rfl) (by rfl) (by rfl) (by (simp [bdT, AV.bd, bdL, bdL_append]; done)) (by repeat' (first | exact True.intro | exact rfl | refine And.intro ?_ ?_)) (by exact Nat.le_of_ble_eq_true rfl)⟩ (by rfl) ?_
      exact hpost
end Go.Lg

namespace Go.Lg
open Go.Proofs
set_option linter.unusedSimpArgs false
set_option linter.unusedVariables false
attribute [local irreducible] Ap Rq asemC WP RunD Ret Gq thenA inBlockA bodyQ noGotoA RqL RqP OpP
set_option maxHeartbeats 8000000
set_option maxRecDepth 20000
attribute [local simp] psA psR tx_nil
theorem pAlt_seq (l : List Tx) : pAlt l = match pSeq l with
    | .err q => .err q
    | .ok x r => match pPrice r with
      | .err q => .err q
      | .ok p q => .ok ⟨x, p⟩ q := by
  unfold pAlt pSeq
  cases pItems l with
  | err q => rfl
  | ok xs r => simp only; cases pPrice r <;> rfl
theorem pPrice_num (r : List Tx) : pPrice (bl kw4 :: r) = pNum r := by
  unfold pPrice pNum
  cases r with
  | nil => simp
  | cons t q => simp
theorem pPrice_none {r : List Tx} (h : hd r ≠ bl kw4) : pPrice r = .ok 0 r := by
  cases r with
  | nil => rfl
  | cons t q => have h' : ¬ t = bl kw4 := h; simp only [pPrice, if_neg h']
theorem flag {b b0 : Bool} (h : b = true → b0 = true) (h0 : b0 = false) : b = false := by
  cases b with
  | false => rfl
  | true => rw [h rfl] at h0; cases h0
theorem alt17_fn {s : ByteArray} {l : List (Nat × Tx)} (h : At s l) (hB : l.length ≤ 1000000) (b : Bool) : FnM Try.prog 65 [.ptr 0 4 0 0] [psA s l b] (post17 altA s b (pAlt (l.map (·.2))) l) := by
  refine FnM.intro (by kernel_rfl) Try.func65 rfl rfl Try.ntmps65 (by exact Nat.le_of_ble_eq_true rfl) ?_; intro Γ hm
  (repeat' (first | refine WP.seq ?_ | refine go_n ?_ | (refine WP.regionC (id := 0) ?_; (refine se_alloc (by rfl) ?_); refine asemC_end ?_) | (refine WP.regionC (id := 1) ?_; (refine su (ap_move (rq_p rfl rfl)) ?_); (refine sc_v [0] rfl rfl (items17_fn h hB b) (Lend.o1 (by rfl) (by rfl) (by rfl) (by rfl) (by simp [AV.bd, bdL, bdL_append]) (by simp [AV.bd, bdL, bdL_append])) ?_; rintro r os' hlen ⟨y0, l0, b0, rfl, rfl, ho1, ho2, ho3, ho4⟩; simp only [psA, psR, ren_exprA, upd, AObj.ren, renL, AV.ren, renL_pure, bdL_boolA, bdL_intA, bdL_strA, bd_boolA, bd_intA, bd_strA, apx, ap, List.length_cons, List.length_nil, List.getD_cons_zero, List.getD_cons_succ, Nat.lt_irrefl, if_true, if_false, Nat.zero_lt_succ, Nat.reduceLT, Nat.reduceAdd, intA, boolA, strA]); (refine su (ap_build (RqP.cons (rq_p rfl rfl) (RqP.nil)) (by rfl)) ?_); (refine se_alloc (by rfl) ?_); (refine se_store_b (by rfl) (by rfl) (by rfl) (by rfl) ?_); refine asemC_end ?_)))
  have h0 := h.suf ho1
  cases hpr : (!b0 && decide (tx (hdT l0) = (⟨#[112, 114, 105, 99, 101]⟩ : ByteArray))) with
  | false =>
    (repeat' (first | refine WP.seq ?_ | refine go_n ?_ | refine WP.skip ?_ | refine WP.ret ?_ | refine bo_r ?_ | (refine wp_cond (by rfl) (fun hc => ?_) (fun hc => ?_) <;> (try simp only [sB, ne_eq, reduceCtorEq] at hc) <;> (try (exfalso; omega))) | (refine WP.regionC (id := 2) ?_; (refine su (ap_move (rq_p rfl rfl)) ?_); (refine sc_o [0] rfl rfl (is17_fn (by assumption) _ _) (Lend.o1 (by rfl) (by rfl) (by rfl) (by rfl) (by simp [AV.bd, bdL, bdL_append]) (by simp [AV.bd, bdL, bdL_append])) ?_; simp only [updN, newO, AObj.ren, renL, AV.ren, apx, ap, if_true, if_false, Nat.reduceLT, Nat.reduceAdd, Nat.reduceSub, sO, intA, boolA, strA, psA, psR]); refine asemC_end ?_) | (refine WP.regionC (id := 5) ?_; (refine su (ap_load_pw (rq_p rfl rfl) (by rfl) (by rfl) (by rfl)) ?_); (refine se_store_b (by rfl) (by rfl) (by rfl) (by rfl) ?_); refine asemC_end ?_)))
    · exfalso; simp_all
    · refine retM_L (x := altA ⟨y0, 0⟩) (os1 := [(0, some (psA s l0 b0))]) [psA s l0 b0] (.cellT (by rfl) (by rfl) (by rfl) (by rfl) .nil) (by rfl) (by (simp [AV.bd, bdL, bdL_append]; done)) ⟨[0], ToR.S rfl (by repeat' (exact rt_nil)) (by repeat' (first | exact ro_nil | refine ro_e (by rfl) (by rfl) ?_)) (by rfl) (by rfl) (by rfl) (by (simp [bdT, AV.bd, bdL, bdL_append]; done)) (by repeat' (first | exact True.intro | exact rfl | refine And.intro ?_ ?_)) (by exact Nat.le_of_ble_eq_true rfl)⟩ (by rfl) ?_
      refine ⟨⟨y0, 0⟩, l0, b0, rfl, rfl, ho1, ho2, fun hb q => ?_, fun hb q => ?_⟩
      · have hq := ho3 hb q
        rw [pAlt_seq, hq]
        simp only
        rw [pPrice_none fun h2 => ?_]
        have : tx (hdT l0) = (⟨#[112, 114, 105, 99, 101]⟩ : ByteArray) := by unfold hdT; rw [h2]; rfl
        rw [this, q] at hpr
        revert hpr; decide
      · rw [pAlt_seq, ho4 hb q]
  | true =>
    simp only [Bool.and_eq_true, Bool.not_eq_true', decide_eq_true_eq] at hpr
    obtain ⟨hb0, hpr⟩ := hpr
    subst hb0
    have hbf := flag (fun q => (ho2 q).1) rfl
    obtain ⟨p, l2, hl, hp⟩ := hdT_cons (c := bl kw4) (by decide) (tx_eq hpr)
    have hO : FnO Try.prog 25 [.ptr 0 4 0 0] [psA s l0 false] (.tup []) [some (psA s l2 false)] := by rw [hl]; exact adv17 (hl ▸ h0) false
    have hs2 : l2 <:+ l0 := by rw [hl]; exact List.suffix_cons _ _
    have h2 := h0.suf hs2
    have hnu := number17_fn h2 false
    have hpn : pPrice (l0.map (·.2)) = pNum (l2.map (·.2)) := by rw [hl, List.map_cons, hp, pPrice_num]
    (repeat' (first | refine WP.seq ?_ | refine go_n ?_ | refine WP.skip ?_ | refine WP.ret ?_ | refine bo_r ?_ | (refine wp_cond (by rfl) (fun hc => ?_) (fun hc => ?_) <;> (try simp only [sB, ne_eq, reduceCtorEq] at hc) <;> (try (exfalso; omega))) | (refine WP.regionC (id := 2) ?_; (refine su (ap_move (rq_p rfl rfl)) ?_); (refine sc_o [0] rfl rfl (is17_fn h0 _ _) (Lend.o1 (by rfl) (by rfl) (by rfl) (by rfl) (by simp [AV.bd, bdL, bdL_append]) (by simp [AV.bd, bdL, bdL_append])) ?_; simp only [updN, newO, AObj.ren, renL, AV.ren, apx, ap, if_true, if_false, Nat.reduceLT, Nat.reduceAdd, Nat.reduceSub, sO, intA, boolA, strA, psA, psR]); refine asemC_end ?_) | (refine WP.regionC (id := 3) ?_; (refine su (ap_move (rq_p rfl rfl)) ?_); (refine sc_o [0] rfl rfl (hO) (Lend.o1 (by rfl) (by rfl) (by rfl) (by rfl) (by simp [AV.bd, bdL, bdL_append]) (by simp [AV.bd, bdL, bdL_append])) ?_; simp only [updN, newO, AObj.ren, renL, AV.ren, apx, ap, if_true, if_false, Nat.reduceLT, Nat.reduceAdd, Nat.reduceSub, sO, intA, boolA, strA, psA, psR]); refine asemC_end ?_) | (refine WP.regionC (id := 4) ?_; (refine su (ap_move (rq_p rfl rfl)) ?_); (refine sc_v [0] rfl rfl (hnu) (Lend.o1 (by rfl) (by rfl) (by rfl) (by rfl) (by simp [AV.bd, bdL, bdL_append]) (by simp [AV.bd, bdL, bdL_append])) ?_; rintro r os' hlen ⟨v, l3, b3, rfl, rfl, o1, o2, o3, o4⟩; simp only [psA, psR, upd, AObj.ren, renL, AV.ren, renL_pure, bdL_boolA, bdL_intA, bdL_strA, bd_boolA, bd_intA, bd_strA, apx, ap, List.length_cons, List.length_nil, List.getD_cons_zero, List.getD_cons_succ, Nat.lt_irrefl, if_true, if_false, Nat.zero_lt_succ, Nat.reduceLT, Nat.reduceAdd, intA, boolA, strA]); (refine su (ap_field_p (rq_p rfl rfl) (by rfl) (by rfl)) ?_); (refine se_store_b (by rfl) (by rfl) (by rfl) (by rfl) ?_); refine asemC_end ?_) | (refine WP.regionC (id := 5) ?_; (refine su (ap_load_pw (rq_p rfl rfl) (by rfl) (by rfl) (by rfl)) ?_); (refine se_store_b (by rfl) (by rfl) (by rfl) (by rfl) ?_); refine asemC_end ?_)))
    · refine retM_L (x := altA ⟨y0, v⟩) (os1 := [(0, some (psA s l3 b3))]) [psA s l3 b3] (.cellT (by rfl) (by rfl) (by rfl) (by rfl) .nil) (by rfl) (by (simp [AV.bd, bdL, bdL_append]; done)) ⟨[0], ToR.S rfl (by repeat' (exact rt_nil)) (by repeat' (first | exact ro_nil | refine ro_e (by rfl) (by rfl) ?_)) (by rfl) (by rfl) (by rfl) (by (simp [bdT, AV.bd, bdL, bdL_append]; done)) (by repeat' (first | exact True.intro | exact rfl | refine And.intro ?_ ?_)) (by exact Nat.le_of_ble_eq_true rfl)⟩ (by rfl) ?_
      refine ⟨⟨y0, v⟩, l3, b3, rfl, rfl, (o1.trans hs2).trans ho1, fun q => (by rw [hbf] at q; cases q), fun hb q => ?_, fun hb q => ?_⟩
      · rw [pAlt_seq, ho3 hb rfl]
        simp only
        rw [hpn, o3 rfl q]
      · rw [pAlt_seq, ho3 hb rfl]
        simp only
        rw [hpn, o4 rfl q]
    all_goals (exfalso; simp_all; done)
end Go.Lg

namespace Go.Lg
open Go.Proofs
set_option linter.unusedSimpArgs false
set_option linter.unusedVariables false
attribute [local irreducible] Ap Rq asemC WP RunD Ret Gq thenA inBlockA bodyQ noGotoA RqL RqP OpP
set_option maxHeartbeats 4000000
set_option maxRecDepth 20000
attribute [local simp] rdA pkA tokA toks_bd
theorem gpname_ok (p : Nat × Tx) (l : List (Nat × Tx)) (e : Int) (h : nmT p.2 = true) : FnO Try.prog 21 [.ptr 0 2 0 0] [rdA (p :: l) e] (strA (tx p.2)) [some (rdA l e)] :=
  (gpname_fn (p :: l) e).oks (by simp only [List.map_cons, pName, h, if_true, pout, cut_tail])
theorem gplevel_fn (a : Int) (p : Nat × Tx) (l : List (Nat × Tx)) (e : Int) (hB : l.length ≤ 1000000) : FnP Try.prog 57 [.ptr 0 2 0 0, intA a] [rdA (p :: l) e] (pout l e levelA (pLevel a (l.map (·.2)))) := by
  have hN := next_fn p l e
  have hnm := gpname_fn l e
  generalize hL : p :: l = L at *
  cases hq : pName (l.map (·.2)) with
  | err q =>
    have hX : FnX Try.prog 21 [.ptr 0 2 0 0] [rdA l e] (synV (pos (cut l q) e)) := hnm.dies (by rw [hq]; simp only [pout])
    have hout : pout l e levelA (pLevel a (l.map (·.2))) = .die (synV (pos (cut l q) e)) := by simp only [pLevel, hq, pout]
    rw [hout]
    refine FnP.intro ?_ (by kernel_rfl) Try.func57 rfl rfl Try.ntmps57 (by exact Nat.le_of_ble_eq_true rfl) ?_; rotate_left; intro Γ hm
    · (repeat' (first | refine WP.seq ?_ | refine go_n ?_ | refine go_p ?_ | (refine WP.regionC (id := 0) ?_; (refine se_alloc (by rfl) ?_); refine asemC_end ?_) | (refine wpl_region (id := 1) ?_; (refine wpl_step rfl ?_; (refine su (ap_move (rq_p rfl rfl)) ?_); refine asemC_end ?_; ((refine wpl_step rfl ?_; (refine sc_o [0] rfl rfl (hN) (Lend.o1 (by rfl) (by rfl) (by (exact (renL_pure (by simp [AV.bd, bdL, bdL_append])).symm)) (by rfl) (by simp [AV.bd, bdL, bdL_append]) (by simp [AV.bd, bdL, bdL_append])) ?_; simp only [updN, newO, AObj.ren, renL, AV.ren, apx, ap, if_true, if_false, Nat.reduceLT, Nat.reduceAdd, Nat.reduceSub, sO, intA, boolA, strA, rdA, ren_toks]); refine asemC_end ?_; (refine wpl_end ?_))))) | (refine wpl_region (id := 2) ?_; (refine wpl_step rfl ?_; (refine su (ap_move (rq_p rfl rfl)) ?_); refine asemC_end ?_; (refine wpl_step rfl ?_; (refine su (ap_move (rq_p rfl rfl)) ?_); refine asemC_end ?_; ((refine wpl_x [0] rfl rfl (hX) (Lend.S (by first | ((repeat' first | exact RenL.nil | refine RenL.cons (by rfl) ?_); done) | fail) (by first | ((repeat' first | exact LendO.nil | refine LendO.arr (by rfl) (by (exact (renL_pure (by simp [AV.bd, bdL, bdL_append])).symm)) ?_); done) | fail) (by decide) (by rfl) (by simp [AV.bd, bdL, bdL_append]) (by repeat' (first | exact True.intro | refine And.intro ?_ ?_ | simp [AV.bd, bdL, bdL_append]))) ?_)))))))
      exact bp_p rfl
    · trivial
  | ok n r =>
    have hr : r <:+ l.map (·.2) := by have := pName_suf (l.map (·.2)); rw [hq] at this; exact this
    have hO : FnO Try.prog 21 [.ptr 0 2 0 0] [rdA l e] (strA n) [some (rdA (cut l r) e)] := hnm.oks (by rw [hq]; simp only [pout])
    have hs1 := cut_suf l r
    have hm1 := cut_map hr
    generalize hl1 : cut l r = l1 at *
    have hpl : pLevel a (l.map (·.2)) = match pTake [59] (pNames (l1.map (·.2))).2 with
        | .err q => .err q
        | .ok _ q => .ok ⟨a, n :: (pNames (l1.map (·.2))).1⟩ q := by rw [hm1]; simp only [pLevel, hq] <;> cases pTake [59] (pNames r).2 <;> rfl
    have hlen1 := hs1.length_le
    refine FnP.intro ?_ (by kernel_rfl) Try.func57 rfl rfl Try.ntmps57 (by exact Nat.le_of_ble_eq_true rfl) ?_; rotate_left; intro Γ hm
    · (repeat' (first | refine WP.seq ?_ | refine WP.block ?_ | refine go_n ?_ | (refine WP.regionC (id := 0) ?_; (refine se_alloc (by rfl) ?_); refine asemC_end ?_) | (refine WP.regionC (id := 1) ?_; (refine su (ap_move (rq_p rfl rfl)) ?_); (refine sc_o [0] rfl rfl (hN) (Lend.o1 (by rfl) (by rfl) (by (exact (renL_pure (by simp [AV.bd, bdL, bdL_append])).symm)) (by rfl) (by simp [AV.bd, bdL, bdL_append]) (by simp [AV.bd, bdL, bdL_append])) ?_; simp only [updN, newO, AObj.ren, renL, AV.ren, apx, ap, if_true, if_false, Nat.reduceLT, Nat.reduceAdd, Nat.reduceSub, sO, intA, boolA, strA, rdA, ren_toks]); refine asemC_end ?_) | (refine WP.regionC (id := 2) ?_; (refine su (ap_move (rq_p rfl rfl)) ?_); (refine su (ap_move (rq_p rfl rfl)) ?_); (refine sc_o [0] rfl rfl (hO) (Lend.o1 (by rfl) (by rfl) (by (exact (renL_pure (by simp [AV.bd, bdL, bdL_append])).symm)) (by rfl) (by simp [AV.bd, bdL, bdL_append]) (by simp [AV.bd, bdL, bdL_append])) ?_; simp only [updN, newO, AObj.ren, renL, AV.ren, apx, ap, if_true, if_false, Nat.reduceLT, Nat.reduceAdd, Nat.reduceSub, sO, intA, boolA, strA, rdA, ren_toks]); (refine se_lit (OpP.cons (by rfl) (OpP.nil)) (by rfl) (by rfl) (by rfl) (by rfl) (by rfl) (by rfl) ?_); (refine su (ap_build (RqP.cons (rq_p rfl rfl) (RqP.cons (rq_p rfl rfl) (RqP.nil))) (by rfl)) ?_); (refine se_alloc (by rfl) ?_); (refine se_store_b (by rfl) (by rfl) (by rfl) (by rfl) ?_); refine asemC_end ?_)))
      refine wp_loop (fun (σ : List ByteArray × List (Nat × Tx)) => σ.2 <:+ l1 ∧ σ.1.length + σ.2.length ≤ l.length + 1 ∧ σ.1 ++ (pNames (σ.2.map (·.2))).1 = n :: (pNames (l1.map (·.2))).1 ∧ (pNames (σ.2.map (·.2))).2 = (pNames (l1.map (·.2))).2) (fun σ => σ.2.length)
        (fun σ => (S 25 [(0, .ptr 0 2 0 0), (4, .ptr 1 2 0 0), (5, .ptr 3 2 0 0)] 4 [(0, some (rdA σ.2 e)), (1, some (.arr 2 [.agg [intA 0, .val (.slice none 0 0)]])), (2, some (.arr 1 (σ.1.map strA))), (3, some (.arr 2 [.agg [intA a, .ref 2 1 0 σ.1.length]]))])) ([n], l1) ⟨[0, 1, 2, 3], ToR.S rfl (by repeat' (first | exact rt_nil | refine rt_t (by rfl) (by rfl) ?_)) (by repeat' (first | exact ro_nil | refine ro_e (by rfl) (by rfl) ?_ | refine ro_p (by rfl) (by first | exact rfl | fail) (by first | (simp [bdL, bdL_append, AV.bd]; done) | fail) ?_)) (by rfl) (by (rw [hm]; exact rfl)) (by rfl) (by (simp [bdT, AV.bd, bdL, bdL_append]; done)) (by repeat' (first | exact True.intro | exact rfl | refine And.intro ?_ ?_ | (simp [bdOq, bdL, bdL_append, AV.bd]; done))) (by (rw [hm]; exact Nat.le_of_ble_eq_true rfl))⟩ ⟨List.suffix_refl _, by simp only [List.length_cons, List.length_nil]; omega, rfl, rfl⟩ ?_
      rintro ⟨acc, l2⟩ ⟨hs2, hn2, hf2, hg2⟩
      simp only at hs2 hn2 hf2 hg2 ⊢
      cases hnn : isN (l2.map (·.2)) with
      | true =>
        obtain ⟨p3, l3, hl3⟩ : ∃ p3 l3, l2 = p3 :: l3 := by
          cases l2 with
          | nil => cases hnn
          | cons p3 l3 => exact ⟨_, _, rfl⟩
        have hnm3 : nmT p3.2 = true := by rw [hl3] at hnn; exact hnn
        have hO3 : FnO Try.prog 21 [.ptr 0 2 0 0] [rdA l2 e] (strA (tx p3.2)) [some (rdA l3 e)] := by rw [hl3]; exact gpname_ok p3 l3 e hnm3
        have hpn : pNames (l2.map (·.2)) = (tx p3.2 :: (pNames (l3.map (·.2))).1, (pNames (l3.map (·.2))).2) := by rw [hl3, List.map_cons, pNames, if_pos hnm3]
        have hlen3 : l2.length = l3.length + 1 := by rw [hl3]; rfl
        have hnext : l3.length < l2.length ∧ l3 <:+ l1 ∧ (acc ++ [tx p3.2]).length + l3.length ≤ l.length + 1 ∧ (acc ++ [tx p3.2]) ++ (pNames (l3.map (·.2))).1 = n :: (pNames (l1.map (·.2))).1 ∧ (pNames (l3.map (·.2))).2 = (pNames (l1.map (·.2))).2 := by
          refine ⟨by omega, ?_, by simp only [List.length_append, List.length_cons, List.length_nil]; omega, ?_, ?_⟩
          · rw [hl3] at hs2; exact (List.suffix_cons _ _).trans hs2
          · rw [← hf2, hpn]; simp
          · rw [← hg2, hpn]
        (repeat' (first | refine WP.seq ?_ | refine WP.block ?_ | refine go_n ?_ | refine WP.skip ?_ | refine WP.exit ?_ | refine go_x ?_ | refine bl_n ?_ | refine bl_x ?_ | (refine wp_cond (by rfl) (fun hc => ?_) (fun hc => ?_) <;> (try simp only [sB, ne_eq, reduceCtorEq] at hc) <;> (try (exfalso; omega))) | (refine WP.regionC (id := 3) ?_; (refine su (ap_move (rq_p rfl rfl)) ?_); (refine sc_o [0] rfl rfl (isname_fn _ _) (Lend.o1 (by rfl) (by rfl) (by (exact (renL_pure (by simp [AV.bd, bdL, bdL_append])).symm)) (by rfl) (by simp [AV.bd, bdL, bdL_append]) (by simp [AV.bd, bdL, bdL_append])) ?_; simp only [updN, newO, AObj.ren, renL, AV.ren, apx, ap, if_true, if_false, Nat.reduceLT, Nat.reduceAdd, Nat.reduceSub, sO, intA, boolA, strA, ren_pkA, rdA, ren_toks]); refine asemC_end ?_) | (refine wp_tree (id := 4) 8 mixed rfl ?_ <;> (refine wpt_take 0 (by rfl) (by exact still_fieldAddr (by rfl) (by rfl)) (by exact ap_field_p (rq_p rfl rfl) (by rfl) (by rfl)) (by kernel_rfl) (by kernel_rfl) (by kernel_rfl) (by repeat (first | exact pind_p | apply pind_then | apply pind_block)) ?_; (refine wpt_take 2 (by rfl) still_move (by exact ap_move (rq_p rfl rfl)) (by kernel_rfl) (by kernel_rfl) (by kernel_rfl) (by repeat (first | exact pind_p | apply pind_then | apply pind_block)) ?_; (refine wpt_all (rs := [1, 3]) (by kernel_rfl) rfl ⟨?_, ?_, trivial⟩ <;> (first | (refine wpo_do (i := 1) (by rfl) (by rfl) ?_; (refine su (ap_load_p (rq_p rfl rfl) (by rfl) (by rfl) (by rfl)) ?_); refine asemC_end ?_; (refine wpt_all (rs := [3]) (by kernel_rfl) rfl ⟨?_, trivial⟩; (refine wpo_do (i := 3) (by rfl) (by rfl) ?_; (refine sc_o [0] rfl rfl (hO3) (Lend.o1 (by rfl) (by rfl) (by (exact (renL_pure (by simp [AV.bd, bdL, bdL_append])).symm)) (by rfl) (by simp [AV.bd, bdL, bdL_append]) (by simp [AV.bd, bdL, bdL_append])) ?_; simp only [updN, newO, AObj.ren, renL, AV.ren, apx, ap, if_true, if_false, Nat.reduceLT, Nat.reduceAdd, Nat.reduceSub, sO, intA, boolA, strA, rdA, ren_toks]); refine asemC_end ?_; (refine wpt_all (rs := [4]) (by kernel_rfl) rfl ⟨?_, trivial⟩; (refine wpo_do (i := 4) (by rfl) (by rfl) ?_; (refine se_lit (OpP.cons (by rfl) (OpP.nil)) (by rfl) (by rfl) (by rfl) (by rfl) (by rfl) (by rfl) ?_); refine asemC_end ?_; (refine wpt_all (rs := [5]) (by kernel_rfl) rfl ⟨?_, trivial⟩; (refine wpo_do (i := 5) (by rfl) (by rfl) ?_; (refine se_app1 (by rfl) (by rfl) (by rfl) (by rfl) (by rfl) (by rfl) (by rfl) (by rfl) (by omega) ?_); refine asemC_end ?_; (refine wpt_take 6 (by rfl) (by exact still_fieldAddr (by rfl) (by rfl)) (by exact ap_field_p (rq_p rfl rfl) (by rfl) (by rfl)) (by kernel_rfl) (by kernel_rfl) (by kernel_rfl) (by repeat (first | exact pind_p | apply pind_then | apply pind_block)) ?_; (refine wpt_all (rs := [7]) (by kernel_rfl) rfl ⟨?_, trivial⟩; (refine wpo_do (i := 7) (by rfl) (by rfl) ?_; (refine se_store_b (by rfl) (by rfl) (by rfl) (by rfl) ?_); refine asemC_end ?_; (refine wpt_end (by kernel_rfl) ?_))))))))))) | (refine wpo_do (i := 3) (by rfl) (by rfl) ?_; (refine sc_o [0] rfl rfl (hO3) (Lend.o1 (by rfl) (by rfl) (by (exact (renL_pure (by simp [AV.bd, bdL, bdL_append])).symm)) (by rfl) (by simp [AV.bd, bdL, bdL_append]) (by simp [AV.bd, bdL, bdL_append])) ?_; simp only [updN, newO, AObj.ren, renL, AV.ren, apx, ap, if_true, if_false, Nat.reduceLT, Nat.reduceAdd, Nat.reduceSub, sO, intA, boolA, strA, rdA, ren_toks]); refine asemC_end ?_; (refine wpt_all (rs := [1, 4]) (by kernel_rfl) rfl ⟨?_, ?_, trivial⟩ <;> (first | (refine wpo_do (i := 1) (by rfl) (by rfl) ?_; (refine su (ap_load_p (rq_p rfl rfl) (by rfl) (by rfl) (by rfl)) ?_); refine asemC_end ?_; (refine wpt_all (rs := [4]) (by kernel_rfl) rfl ⟨?_, trivial⟩; (refine wpo_do (i := 4) (by rfl) (by rfl) ?_; (refine se_lit (OpP.cons (by rfl) (OpP.nil)) (by rfl) (by rfl) (by rfl) (by rfl) (by rfl) (by rfl) ?_); refine asemC_end ?_; (refine wpt_all (rs := [5]) (by kernel_rfl) rfl ⟨?_, trivial⟩; (refine wpo_do (i := 5) (by rfl) (by rfl) ?_; (refine se_app1 (by rfl) (by rfl) (by rfl) (by rfl) (by rfl) (by rfl) (by rfl) (by rfl) (by omega) ?_); refine asemC_end ?_; (refine wpt_take 6 (by rfl) (by exact still_fieldAddr (by rfl) (by rfl)) (by exact ap_field_p (rq_p rfl rfl) (by rfl) (by rfl)) (by kernel_rfl) (by kernel_rfl) (by kernel_rfl) (by repeat (first | exact pind_p | apply pind_then | apply pind_block)) ?_; (refine wpt_all (rs := [7]) (by kernel_rfl) rfl ⟨?_, trivial⟩; (refine wpo_do (i := 7) (by rfl) (by rfl) ?_; (refine se_store_b (by rfl) (by rfl) (by rfl) (by rfl) ?_); refine asemC_end ?_; (refine wpt_end (by kernel_rfl) ?_))))))))) | (refine wpo_do (i := 4) (by rfl) (by rfl) ?_; (refine se_lit (OpP.cons (by rfl) (OpP.nil)) (by rfl) (by rfl) (by rfl) (by rfl) (by rfl) (by rfl) ?_); refine asemC_end ?_; (refine wpt_all (rs := [1]) (by kernel_rfl) rfl ⟨?_, trivial⟩; (refine wpo_do (i := 1) (by rfl) (by rfl) ?_; (refine su (ap_load_p (rq_p rfl rfl) (by rfl) (by rfl) (by rfl)) ?_); refine asemC_end ?_; (refine wpt_all (rs := [5]) (by kernel_rfl) rfl ⟨?_, trivial⟩; (refine wpo_do (i := 5) (by rfl) (by rfl) ?_; (refine se_app1 (by rfl) (by rfl) (by rfl) (by rfl) (by rfl) (by rfl) (by rfl) (by rfl) (by omega) ?_); refine asemC_end ?_; (refine wpt_take 6 (by rfl) (by exact still_fieldAddr (by rfl) (by rfl)) (by exact ap_field_p (rq_p rfl rfl) (by rfl) (by rfl)) (by kernel_rfl) (by kernel_rfl) (by kernel_rfl) (by repeat (first | exact pind_p | apply pind_then | apply pind_block)) ?_; (refine wpt_all (rs := [7]) (by kernel_rfl) rfl ⟨?_, trivial⟩; (refine wpo_do (i := 7) (by rfl) (by rfl) ?_; (refine se_store_b (by rfl) (by rfl) (by rfl) (by rfl) ?_); refine asemC_end ?_; (refine wpt_end (by kernel_rfl) ?_)))))))))))))))))))
        · exact ⟨(acc ++ [tx p3.2], l3), hnext, ⟨[0, 1, 5, 3], ToR.S rfl (by repeat' (first | exact rt_nil | refine rt_t (by rfl) (by rfl) ?_)) (by repeat' (first | exact ro_nil | refine ro_e (by rfl) (by rfl) ?_ | refine ro_p (by rfl) (by first | exact rfl | fail) (by first | exact bdL_map (fun _ => by exact rfl) _ | (simp [bdL, bdL_append, AV.bd]; done) | fail) ?_)) (by rfl) (by (rw [hm]; exact rfl)) (by rfl) (by (simp [bdT, AV.bd, bdL, bdL_append]; done)) (by repeat' (first | exact True.intro | exact rfl | refine And.intro ?_ ?_ | exact bdL_map (fun _ => by exact rfl) _ | (simp [bdOq, bdL, bdL_append, AV.bd]; done))) (by (rw [hm]; exact Nat.le_of_ble_eq_true rfl))⟩⟩
        · exact ⟨(acc ++ [tx p3.2], l3), hnext, ⟨[0, 1, 5, 3], ToR.S rfl (by repeat' (first | exact rt_nil | refine rt_t (by rfl) (by rfl) ?_)) (by repeat' (first | exact ro_nil | refine ro_e (by rfl) (by rfl) ?_ | refine ro_p (by rfl) (by first | exact rfl | fail) (by first | exact bdL_map (fun _ => by exact rfl) _ | (simp [bdL, bdL_append, AV.bd]; done) | fail) ?_)) (by rfl) (by (rw [hm]; exact rfl)) (by rfl) (by (simp [bdT, AV.bd, bdL, bdL_append]; done)) (by repeat' (first | exact True.intro | exact rfl | refine And.intro ?_ ?_ | exact bdL_map (fun _ => by exact rfl) _ | (simp [bdOq, bdL, bdL_append, AV.bd]; done))) (by (rw [hm]; exact Nat.le_of_ble_eq_true rfl))⟩⟩
        · exact ⟨(acc ++ [tx p3.2], l3), hnext, ⟨[0, 1, 5, 3], ToR.S rfl (by repeat' (first | exact rt_nil | refine rt_t (by rfl) (by rfl) ?_)) (by repeat' (first | exact ro_nil | refine ro_e (by rfl) (by rfl) ?_ | refine ro_p (by rfl) (by first | exact rfl | fail) (by first | exact bdL_map (fun _ => by exact rfl) _ | (simp [bdL, bdL_append, AV.bd]; done) | fail) ?_)) (by rfl) (by (rw [hm]; exact rfl)) (by rfl) (by (simp [bdT, AV.bd, bdL, bdL_append]; done)) (by repeat' (first | exact True.intro | exact rfl | refine And.intro ?_ ?_ | exact bdL_map (fun _ => by exact rfl) _ | (simp [bdOq, bdL, bdL_append, AV.bd]; done))) (by (rw [hm]; exact Nat.le_of_ble_eq_true rfl))⟩⟩
        · exfalso; simp_all
      | false =>
        have hpn : pNames (l2.map (·.2)) = ([], l2.map (·.2)) := by
          cases l2 with
          | nil => rfl
          | cons p3 l3 => have h3 : nmT p3.2 = false := hnn; simp only [List.map_cons, pNames, h3, Bool.false_eq_true, if_false]
        rw [hpn] at hf2 hg2
        simp only [List.append_nil] at hf2
        rw [hpl, ← hg2, ← hf2]
        by_cases h59 : hdT l2 = [59]
        · obtain ⟨p3, l3, hl3, hp3⟩ := hdT_cons (by simp) h59
          have hE : FnO Try.prog 20 [.ptr 0 2 0 0, strA (tx [59])] [rdA l2 e] (.tup []) [some (rdA l3 e)] := by rw [hl3]; exact expect_ok [59] (by simp) p3 l3 e hp3
          have hpt : pTake [59] (l2.map (·.2)) = .ok () (l3.map (·.2)) := by rw [hl3, List.map_cons, pTake, if_pos hp3]
          have hs3 : l3 <:+ l := by rw [hl3] at hs2; exact ((List.suffix_cons _ _).trans hs2).trans hs1
          have hout : pout l e levelA (.ok ⟨a, acc⟩ (l3.map (·.2))) = .ok (levelA ⟨a, acc⟩) [some (rdA l3 e)] := by simp only [pout, cut_of hs3]
          rw [hpt]
          simp only
          rw [hout]
          (repeat' (first | refine WP.seq ?_ | refine WP.block ?_ | refine go_n ?_ | refine WP.skip ?_ | refine WP.exit ?_ | refine go_x ?_ | refine bl_x ?_ | (refine wp_cond (by rfl) (fun hc => ?_) (fun hc => ?_) <;> (try simp only [sB, ne_eq, reduceCtorEq] at hc) <;> (try (exfalso; omega))) | (refine WP.regionC (id := 3) ?_; (refine su (ap_move (rq_p rfl rfl)) ?_); (refine sc_o [0] rfl rfl (isname_fn _ _) (Lend.o1 (by rfl) (by rfl) (by (exact (renL_pure (by simp [AV.bd, bdL, bdL_append])).symm)) (by rfl) (by simp [AV.bd, bdL, bdL_append]) (by simp [AV.bd, bdL, bdL_append])) ?_; simp only [updN, newO, AObj.ren, renL, AV.ren, apx, ap, if_true, if_false, Nat.reduceLT, Nat.reduceAdd, Nat.reduceSub, sO, intA, boolA, strA, ren_pkA, rdA, ren_toks]); refine asemC_end ?_) | (refine WP.regionC (id := 5) ?_; (refine su (ap_move (rq_p rfl rfl)) ?_); (refine sc_o [0] rfl rfl (hE) (Lend.o1 (by rfl) (by rfl) (by (exact (renL_pure (by simp [AV.bd, bdL, bdL_append])).symm)) (by rfl) (by simp [AV.bd, bdL, bdL_append]) (by simp [AV.bd, bdL, bdL_append])) ?_; simp only [updN, newO, AObj.ren, renL, AV.ren, apx, ap, if_true, if_false, Nat.reduceLT, Nat.reduceAdd, Nat.reduceSub, sO, intA, boolA, strA, rdA, ren_toks]); refine asemC_end ?_)))
          · exfalso; simp_all
          · refine wp_frzom 3 1 hm rfl rfl rfl rfl rfl (fun x => rfl) (fun _ => rfl) (by rfl) ?_
            (repeat' (first | refine go_n ?_ | refine WP.ret ?_ | (refine WP.regionC (id := 6) ?_; (refine su (ap_load_pw (rq_p rfl rfl) (by rfl) (by rfl) (by rfl)) ?_); (refine se_store_b (by rfl) (by rfl) (by rfl) (by rfl) ?_); refine asemC_end ?_)))
            refine bp_r rfl ?_
            refine retO_L (x := levelA ⟨a, acc⟩) (k := 1) (os1 := [(0, some (rdA l3 e))]) (.cellT (by rfl) (by rfl) (by rfl) (by rfl) .nil) (by rfl) ⟨[0], ToR.S rfl (by repeat' (first | exact rt_nil | refine rt_p (by rfl) (by rfl) (by first | (simp [AV.bd, bdL, bdL_append]; done) | fail) ?_)) (by repeat' (first | exact ro_nil | refine ro_p (by rfl) (by first | exact rfl | fail) (by first | (simp [bdL, bdL_append, AV.bd]; done) | fail) ?_)) (by rfl) (by rfl) (by rfl) (by (simp [bdT, AV.bd, bdL, bdL_append]; done)) (by repeat' (first | exact True.intro | refine And.intro ?_ ?_ | (simp [bdOq, bdL, bdL_append, AV.bd]; done))) (by exact Nat.le_of_ble_eq_true rfl)⟩ (by rfl)
        · have hX2 := expect_x [59] (by simp) l2 e h59
          rw [pTake_bad (by simp) h59]
          have hout : pout l e levelA (.err (l2.map (·.2))) = .die (synV (pos l2 e)) := by simp only [pout, cut_of (hs2.trans hs1)]
          simp only
          rw [hout]
          (repeat' (first | refine WP.seq ?_ | refine WP.block ?_ | refine go_n ?_ | refine WP.skip ?_ | refine WP.exit ?_ | refine go_x ?_ | refine bl_x ?_ | refine go_p ?_ | (refine wp_cond (by rfl) (fun hc => ?_) (fun hc => ?_) <;> (try simp only [sB, ne_eq, reduceCtorEq] at hc) <;> (try (exfalso; omega))) | (refine WP.regionC (id := 3) ?_; (refine su (ap_move (rq_p rfl rfl)) ?_); (refine sc_o [0] rfl rfl (isname_fn _ _) (Lend.o1 (by rfl) (by rfl) (by (exact (renL_pure (by simp [AV.bd, bdL, bdL_append])).symm)) (by rfl) (by simp [AV.bd, bdL, bdL_append]) (by simp [AV.bd, bdL, bdL_append])) ?_; simp only [updN, newO, AObj.ren, renL, AV.ren, apx, ap, if_true, if_false, Nat.reduceLT, Nat.reduceAdd, Nat.reduceSub, sO, intA, boolA, strA, ren_pkA, rdA, ren_toks]); refine asemC_end ?_) | (refine wpl_region (id := 5) ?_; (refine wpl_step rfl ?_; (refine su (ap_move (rq_p rfl rfl)) ?_); refine asemC_end ?_; ((refine wpl_x [0] rfl rfl (hX2) (Lend.S (by first | ((repeat' first | exact RenL.nil | refine RenL.cons (by rfl) ?_); done) | fail) (by first | ((repeat' first | exact LendO.nil | refine LendO.arr (by rfl) (by (exact (renL_pure (by simp [AV.bd, bdL, bdL_append])).symm)) ?_); done) | fail) (by decide) (by rfl) (by simp [AV.bd, bdL, bdL_append]) (by repeat' (first | exact True.intro | refine And.intro ?_ ?_ | simp [AV.bd, bdL, bdL_append]))) ?_))))))
          · exfalso; simp_all
          · exact bp_p rfl
    · exact pout_fine l e levelA (fun x => bd_levelA 1 x) _
end Go.Lg

namespace Go.Lg
open Go.Proofs
set_option linter.unusedSimpArgs false
set_option linter.unusedVariables false
attribute [local irreducible] Ap Rq asemC WP RunD Ret Gq thenA inBlockA bodyQ noGotoA RqL RqP OpP
set_option maxHeartbeats 4000000
set_option maxRecDepth 20000
attribute [local simp] rdA pkA tokA toks_bd
theorem ren_levelA (π : Nat → Nat) (x : GLe) : AV.ren π (levelA x) = levelA x := ren_pure (bd_levelA 0 x)
theorem gplevels_fn (l : List (Nat × Tx)) (e : Int) (hB : l.length ≤ 1000000) : FnP Try.prog 22 [.ptr 0 2 0 0] [rdA l e] (pout l e levelsA (pLevels (l.map (·.2)))) := by
  refine FnP.intro ?_ (by kernel_rfl) Try.func22 rfl rfl Try.ntmps22 (by exact Nat.le_of_ble_eq_true rfl) ?_; rotate_left; intro Γ hm
  · (repeat' (first | refine WP.seq ?_ | refine WP.block ?_ | refine go_n ?_ | (refine WP.regionC (id := 0) ?_; (refine su (ap_assign (rq_p rfl rfl)) ?_); refine asemC_end ?_) | (refine WP.regionC (id := 1) ?_; (refine su (ap_assign (rq_p rfl rfl)) ?_); refine asemC_end ?_)))
    refine wp_nil 3 2 rfl ?_
    refine wp_loop (fun (σ : List GLe × List (Nat × Tx)) => σ.2 <:+ l ∧ σ.1.length + σ.2.length ≤ l.length ∧ finL σ.1 (σ.2.map (·.2)) = pLevels (l.map (·.2))) (fun σ => σ.2.length)
      (fun σ => (S 29 [(0, .ptr 0 2 0 0), (3, .ref 1 2 0 σ.1.length)] 2 [(0, some (rdA σ.2 e)), (1, some (.arr 2 (σ.1.map levelA)))])) ([], l) ⟨[0, 1], ToR.S rfl (by repeat' (first | exact rt_nil | refine rt_r (by rfl) (by rfl) ?_ | refine rt_t (by rfl) (by rfl) ?_)) (by repeat' (first | exact ro_nil | refine ro_e (by rfl) (by rfl) ?_ | refine ro_p (by rfl) (by first | exact rfl | fail) (by first | (simp [bdL, bdL_append, AV.bd]; done) | fail) ?_)) (by rfl) (by (rw [hm]; exact rfl)) (by rfl) (by (simp [bdT, AV.bd, bdL, bdL_append]; done)) (by repeat' (first | exact True.intro | exact rfl | refine And.intro ?_ ?_ | (simp [bdOq, bdL, bdL_append, AV.bd]; done))) (by (rw [hm]; exact Nat.le_of_ble_eq_true rfl))⟩ ⟨List.suffix_refl _, by simp, finL_nil _⟩ ?_
    rintro ⟨acc, l1⟩ ⟨hs1, hn1, hf1⟩
    simp only at hs1 hf1 hn1 ⊢
    by_cases hk : hdT l1 = bl kw1
    · skip
      obtain ⟨p, l2, hl2, hp2⟩ := hdT_cons (by decide) hk
      have htx : tx (hdT l1) = (⟨#[108, 101, 102, 116]⟩ : ByteArray) := by rw [hk]; rfl
      have has : assocOf p.2 = some 1 := by rw [hp2]; decide
      have hst := finL_step (acc := acc) (r := l2.map (·.2)) has
      have hl2m : l1.map (·.2) = p.2 :: l2.map (·.2) := by rw [hl2]; rfl
      rw [hl2m] at hf1
      have hs2 : l2 <:+ l := by rw [hl2] at hs1; exact (List.suffix_cons _ _).trans hs1
      have hlen2 : l1.length = l2.length + 1 := by rw [hl2]; rfl
      have hlv := gplevel_fn 1 p l2 e (by omega)
      rw [← hl2] at hlv
      cases hq : pLevel 1 (l2.map (·.2)) with
      | err q =>
        have hr : q <:+ l2.map (·.2) := by have := pLevel_suf 1 (l2.map (·.2)); rw [hq] at this; exact this
        have hX : FnX Try.prog 57 [.ptr 0 2 0 0, intA 1] [rdA l1 e] (synV (pos (cut l2 q) e)) := hlv.dies (by rw [hq]; simp only [pout])
        have hout : pout l e levelsA (pLevels (l.map (·.2))) = .die (synV (pos (cut l2 q) e)) := by rw [← hf1, hst, hq]; simp only [pout, cut_cut hs2 hr]
        rw [hout]
        (repeat' (first | refine WP.seq ?_ | refine WP.block ?_ | refine go_n ?_ | refine go_p ?_ | refine bl_p ?_ | (refine wp_cond (by rfl) (fun hc => ?_) (fun hc => ?_) <;> (try simp only [sB, ne_eq, reduceCtorEq] at hc) <;> (try (exfalso; omega))) | (refine WP.regionC (id := 2) ?_; (refine su (ap_move (rq_p rfl rfl)) ?_); (refine sc_o [0] rfl rfl (peek_fn _ _) (Lend.o1 (by rfl) (by rfl) (by (exact (renL_pure (by simp [AV.bd, bdL, bdL_append])).symm)) (by rfl) (by simp [AV.bd, bdL, bdL_append]) (by simp [AV.bd, bdL, bdL_append])) ?_; simp only [updN, newO, AObj.ren, renL, AV.ren, apx, ap, if_true, if_false, Nat.reduceLT, Nat.reduceAdd, Nat.reduceSub, sO, intA, boolA, strA, ren_pkA, rdA, ren_toks]); (refine su (ap_fieldv (rq_p rfl rfl) (by rfl)) ?_); refine asemC_end ?_) | (refine WP.regionC (id := 4) ?_; (refine su (ap_eqs (rq_p rfl rfl) (rq_p rfl rfl)) ?_); (refine su (ap_assign (rq_p rfl rfl)) ?_); refine asemC_end ?_) | (refine wpl_region (id := 5) ?_; (refine wpl_step rfl ?_; (refine su (ap_move (rq_p rfl rfl)) ?_); refine asemC_end ?_; (refine wpl_step rfl ?_; (refine su (ap_move (rq_p rfl rfl)) ?_); refine asemC_end ?_; ((refine wpl_x [0] rfl rfl (hX) (Lend.S (by first | ((repeat' first | exact RenL.nil | refine RenL.cons (by rfl) ?_); done) | fail) (by first | ((repeat' first | exact LendO.nil | refine LendO.arr (by rfl) (by (exact (renL_pure (by simp [AV.bd, bdL, bdL_append])).symm)) ?_); done) | fail) (by decide) (by rfl) (by simp [AV.bd, bdL, bdL_append]) (by repeat' (first | exact True.intro | refine And.intro ?_ ?_ | simp [AV.bd, bdL, bdL_append]))) ?_))))) | (refine WP.regionC (id := 6) ?_; (refine su (ap_eqs (rq_p rfl rfl) (rq_p rfl rfl)) ?_); (refine su (ap_assign (rq_p rfl rfl)) ?_); refine asemC_end ?_) | (refine WP.regionC (id := 8) ?_; (refine su (ap_eqs (rq_p rfl rfl) (rq_p rfl rfl)) ?_); (refine su (ap_assign (rq_p rfl rfl)) ?_); refine asemC_end ?_)))
        all_goals (first | exact bp_p rfl | exact absurd htx (by assumption))
      | ok x r =>
        have hr : r <:+ l2.map (·.2) := by have := pLevel_suf 1 (l2.map (·.2)); rw [hq] at this; exact this
        have hO : FnO Try.prog 57 [.ptr 0 2 0 0, intA 1] [rdA l1 e] (levelA x) [some (rdA (cut l2 r) e)] := hlv.oks (by rw [hq]; simp only [pout])
        have hcl := (cut_suf l2 r).length_le
        have hnext : (cut l2 r).length < l1.length ∧ cut l2 r <:+ l ∧ (acc ++ [x]).length + (cut l2 r).length ≤ l.length ∧ finL (acc ++ [x]) ((cut l2 r).map (·.2)) = pLevels (l.map (·.2)) := by
          refine ⟨by omega, (cut_suf _ _).trans hs2, by simp only [List.length_append, List.length_cons, List.length_nil]; omega, ?_⟩
          rw [cut_map hr, ← hf1, hst, hq]
        (repeat' (first | refine WP.seq ?_ | refine WP.block ?_ | refine go_n ?_ | refine bl_n ?_ | (refine wp_cond (by rfl) (fun hc => ?_) (fun hc => ?_) <;> (try simp only [sB, ne_eq, reduceCtorEq] at hc) <;> (try (exfalso; omega))) | (refine WP.regionC (id := 2) ?_; (refine su (ap_move (rq_p rfl rfl)) ?_); (refine sc_o [0] rfl rfl (peek_fn _ _) (Lend.o1 (by rfl) (by rfl) (by (exact (renL_pure (by simp [AV.bd, bdL, bdL_append])).symm)) (by rfl) (by simp [AV.bd, bdL, bdL_append]) (by simp [AV.bd, bdL, bdL_append])) ?_; simp only [updN, newO, AObj.ren, renL, AV.ren, apx, ap, if_true, if_false, Nat.reduceLT, Nat.reduceAdd, Nat.reduceSub, sO, intA, boolA, strA, ren_pkA, rdA, ren_toks]); (refine su (ap_fieldv (rq_p rfl rfl) (by rfl)) ?_); refine asemC_end ?_) | (refine WP.regionC (id := 4) ?_; (refine su (ap_eqs (rq_p rfl rfl) (rq_p rfl rfl)) ?_); (refine su (ap_assign (rq_p rfl rfl)) ?_); refine asemC_end ?_) | (refine WP.regionC (id := 5) ?_; (refine su (ap_move (rq_p rfl rfl)) ?_); (refine su (ap_move (rq_p rfl rfl)) ?_); (refine sc_o [0] rfl rfl (hO) (Lend.o1 (by rfl) (by rfl) (by (exact (renL_pure (by simp [AV.bd, bdL, bdL_append])).symm)) (by rfl) (by simp [AV.bd, bdL, bdL_append]) (by simp [AV.bd, bdL, bdL_append])) ?_; simp only [updN, newO, AObj.ren, renL, AV.ren, apx, ap, if_true, if_false, Nat.reduceLT, Nat.reduceAdd, Nat.reduceSub, sO, intA, boolA, strA, rdA, ren_toks, ren_levelA]); (refine se_lit (OpP.cons (by rfl) (OpP.nil)) (by rfl) (by rfl) (by rfl) (by rfl) (by rfl) (by rfl) ?_); (refine se_app1 (by rfl) (by rfl) (by rfl) (by rfl) (by rfl) (by rfl) (by rfl) (by rfl) (by omega) ?_); (refine su (ap_assign (rq_p rfl rfl)) ?_); refine asemC_end ?_) | (refine WP.regionC (id := 6) ?_; (refine su (ap_eqs (rq_p rfl rfl) (rq_p rfl rfl)) ?_); (refine su (ap_assign (rq_p rfl rfl)) ?_); refine asemC_end ?_) | (refine WP.regionC (id := 8) ?_; (refine su (ap_eqs (rq_p rfl rfl) (rq_p rfl rfl)) ?_); (refine su (ap_assign (rq_p rfl rfl)) ?_); refine asemC_end ?_)))
        all_goals (first | exact absurd htx (by assumption) | exact ⟨(acc ++ [x], cut l2 r), hnext, ⟨[0, 3], ToR.S rfl (by repeat' (first | exact rt_nil | refine rt_r (by rfl) (by rfl) ?_ | refine rt_t (by rfl) (by rfl) ?_)) (by repeat' (first | exact ro_nil | refine ro_p (by rfl) (by first | exact rfl | fail) (by first | exact bdL_map (fun _ => by simp [AV.bd, bdL, bdL_append]) _ | (simp [bdL, bdL_append, AV.bd]; done) | fail) ?_)) (by rfl) (by (rw [hm]; exact rfl)) (by rfl) (by (simp [bdT, AV.bd, bdL, bdL_append]; done)) (by repeat' (first | exact True.intro | refine And.intro ?_ ?_ | exact bdL_map (fun _ => by simp [AV.bd, bdL, bdL_append]) _ | (simp [bdOq, bdL, bdL_append, AV.bd]; done))) (by (rw [hm]; exact Nat.le_of_ble_eq_true rfl))⟩⟩)
    · by_cases hk2 : hdT l1 = bl kw2
      · have hk := hk2
        obtain ⟨p, l2, hl2, hp2⟩ := hdT_cons (by decide) hk
        have htx : tx (hdT l1) = (⟨#[114, 105, 103, 104, 116]⟩ : ByteArray) := by rw [hk]; rfl
        have has : assocOf p.2 = some 2 := by rw [hp2]; decide
        have hst := finL_step (acc := acc) (r := l2.map (·.2)) has
        have hl2m : l1.map (·.2) = p.2 :: l2.map (·.2) := by rw [hl2]; rfl
        rw [hl2m] at hf1
        have hs2 : l2 <:+ l := by rw [hl2] at hs1; exact (List.suffix_cons _ _).trans hs1
        have hlen2 : l1.length = l2.length + 1 := by rw [hl2]; rfl
        have hlv := gplevel_fn 2 p l2 e (by omega)
        rw [← hl2] at hlv
        cases hq : pLevel 2 (l2.map (·.2)) with
        | err q =>
          have hr : q <:+ l2.map (·.2) := by have := pLevel_suf 2 (l2.map (·.2)); rw [hq] at this; exact this
          have hX : FnX Try.prog 57 [.ptr 0 2 0 0, intA 2] [rdA l1 e] (synV (pos (cut l2 q) e)) := hlv.dies (by rw [hq]; simp only [pout])
          have hout : pout l e levelsA (pLevels (l.map (·.2))) = .die (synV (pos (cut l2 q) e)) := by rw [← hf1, hst, hq]; simp only [pout, cut_cut hs2 hr]
          rw [hout]
          (repeat' (first | refine WP.seq ?_ | refine WP.block ?_ | refine go_n ?_ | refine go_p ?_ | refine bl_p ?_ | (refine wp_cond (by rfl) (fun hc => ?_) (fun hc => ?_) <;> (try simp only [sB, ne_eq, reduceCtorEq] at hc) <;> (try (exfalso; omega))) | (refine WP.regionC (id := 2) ?_; (refine su (ap_move (rq_p rfl rfl)) ?_); (refine sc_o [0] rfl rfl (peek_fn _ _) (Lend.o1 (by rfl) (by rfl) (by (exact (renL_pure (by simp [AV.bd, bdL, bdL_append])).symm)) (by rfl) (by simp [AV.bd, bdL, bdL_append]) (by simp [AV.bd, bdL, bdL_append])) ?_; simp only [updN, newO, AObj.ren, renL, AV.ren, apx, ap, if_true, if_false, Nat.reduceLT, Nat.reduceAdd, Nat.reduceSub, sO, intA, boolA, strA, ren_pkA, rdA, ren_toks]); (refine su (ap_fieldv (rq_p rfl rfl) (by rfl)) ?_); refine asemC_end ?_) | (refine WP.regionC (id := 4) ?_; (refine su (ap_eqs (rq_p rfl rfl) (rq_p rfl rfl)) ?_); (refine su (ap_assign (rq_p rfl rfl)) ?_); refine asemC_end ?_) | (refine WP.regionC (id := 6) ?_; (refine su (ap_eqs (rq_p rfl rfl) (rq_p rfl rfl)) ?_); (refine su (ap_assign (rq_p rfl rfl)) ?_); refine asemC_end ?_) | (refine wpl_region (id := 7) ?_; (refine wpl_step rfl ?_; (refine su (ap_move (rq_p rfl rfl)) ?_); refine asemC_end ?_; (refine wpl_step rfl ?_; (refine su (ap_move (rq_p rfl rfl)) ?_); refine asemC_end ?_; ((refine wpl_x [0] rfl rfl (hX) (Lend.S (by first | ((repeat' first | exact RenL.nil | refine RenL.cons (by rfl) ?_); done) | fail) (by first | ((repeat' first | exact LendO.nil | refine LendO.arr (by rfl) (by (exact (renL_pure (by simp [AV.bd, bdL, bdL_append])).symm)) ?_); done) | fail) (by decide) (by rfl) (by simp [AV.bd, bdL, bdL_append]) (by repeat' (first | exact True.intro | refine And.intro ?_ ?_ | simp [AV.bd, bdL, bdL_append]))) ?_))))) | (refine WP.regionC (id := 8) ?_; (refine su (ap_eqs (rq_p rfl rfl) (rq_p rfl rfl)) ?_); (refine su (ap_assign (rq_p rfl rfl)) ?_); refine asemC_end ?_)))
          all_goals (first | exact bp_p rfl | exact absurd htx (by assumption) | (rw [htx] at hc; exact absurd hc (by decide)))
        | ok x r =>
          have hr : r <:+ l2.map (·.2) := by have := pLevel_suf 2 (l2.map (·.2)); rw [hq] at this; exact this
          have hO : FnO Try.prog 57 [.ptr 0 2 0 0, intA 2] [rdA l1 e] (levelA x) [some (rdA (cut l2 r) e)] := hlv.oks (by rw [hq]; simp only [pout])
          have hcl := (cut_suf l2 r).length_le
          have hnext : (cut l2 r).length < l1.length ∧ cut l2 r <:+ l ∧ (acc ++ [x]).length + (cut l2 r).length ≤ l.length ∧ finL (acc ++ [x]) ((cut l2 r).map (·.2)) = pLevels (l.map (·.2)) := by
            refine ⟨by omega, (cut_suf _ _).trans hs2, by simp only [List.length_append, List.length_cons, List.length_nil]; omega, ?_⟩
            rw [cut_map hr, ← hf1, hst, hq]
          (repeat' (first | refine WP.seq ?_ | refine WP.block ?_ | refine go_n ?_ | refine bl_n ?_ | (refine wp_cond (by rfl) (fun hc => ?_) (fun hc => ?_) <;> (try simp only [sB, ne_eq, reduceCtorEq] at hc) <;> (try (exfalso; omega))) | (refine WP.regionC (id := 2) ?_; (refine su (ap_move (rq_p rfl rfl)) ?_); (refine sc_o [0] rfl rfl (peek_fn _ _) (Lend.o1 (by rfl) (by rfl) (by (exact (renL_pure (by simp [AV.bd, bdL, bdL_append])).symm)) (by rfl) (by simp [AV.bd, bdL, bdL_append]) (by simp [AV.bd, bdL, bdL_append])) ?_; simp only [updN, newO, AObj.ren, renL, AV.ren, apx, ap, if_true, if_false, Nat.reduceLT, Nat.reduceAdd, Nat.reduceSub, sO, intA, boolA, strA, ren_pkA, rdA, ren_toks]); (refine su (ap_fieldv (rq_p rfl rfl) (by rfl)) ?_); refine asemC_end ?_) | (refine WP.regionC (id := 4) ?_; (refine su (ap_eqs (rq_p rfl rfl) (rq_p rfl rfl)) ?_); (refine su (ap_assign (rq_p rfl rfl)) ?_); refine asemC_end ?_) | (refine WP.regionC (id := 6) ?_; (refine su (ap_eqs (rq_p rfl rfl) (rq_p rfl rfl)) ?_); (refine su (ap_assign (rq_p rfl rfl)) ?_); refine asemC_end ?_) | (refine WP.regionC (id := 7) ?_; (refine su (ap_move (rq_p rfl rfl)) ?_); (refine su (ap_move (rq_p rfl rfl)) ?_); (refine sc_o [0] rfl rfl (hO) (Lend.o1 (by rfl) (by rfl) (by (exact (renL_pure (by simp [AV.bd, bdL, bdL_append])).symm)) (by rfl) (by simp [AV.bd, bdL, bdL_append]) (by simp [AV.bd, bdL, bdL_append])) ?_; simp only [updN, newO, AObj.ren, renL, AV.ren, apx, ap, if_true, if_false, Nat.reduceLT, Nat.reduceAdd, Nat.reduceSub, sO, intA, boolA, strA, rdA, ren_toks, ren_levelA]); (refine se_lit (OpP.cons (by rfl) (OpP.nil)) (by rfl) (by rfl) (by rfl) (by rfl) (by rfl) (by rfl) ?_); (refine se_app1 (by rfl) (by rfl) (by rfl) (by rfl) (by rfl) (by rfl) (by rfl) (by rfl) (by omega) ?_); (refine su (ap_assign (rq_p rfl rfl)) ?_); refine asemC_end ?_) | (refine WP.regionC (id := 8) ?_; (refine su (ap_eqs (rq_p rfl rfl) (rq_p rfl rfl)) ?_); (refine su (ap_assign (rq_p rfl rfl)) ?_); refine asemC_end ?_)))
          all_goals (first | exact absurd htx (by assumption) | (rw [htx] at hc; exact absurd hc (by decide)) | exact ⟨(acc ++ [x], cut l2 r), hnext, ⟨[0, 3], ToR.S rfl (by repeat' (first | exact rt_nil | refine rt_r (by rfl) (by rfl) ?_ | refine rt_t (by rfl) (by rfl) ?_)) (by repeat' (first | exact ro_nil | refine ro_p (by rfl) (by first | exact rfl | fail) (by first | exact bdL_map (fun _ => by simp [AV.bd, bdL, bdL_append]) _ | (simp [bdL, bdL_append, AV.bd]; done) | fail) ?_)) (by rfl) (by (rw [hm]; exact rfl)) (by rfl) (by (simp [bdT, AV.bd, bdL, bdL_append]; done)) (by repeat' (first | exact True.intro | refine And.intro ?_ ?_ | exact bdL_map (fun _ => by simp [AV.bd, bdL, bdL_append]) _ | (simp [bdOq, bdL, bdL_append, AV.bd]; done))) (by (rw [hm]; exact Nat.le_of_ble_eq_true rfl))⟩⟩)
      · by_cases hk3 : hdT l1 = bl kw3
        · have hk := hk3
          obtain ⟨p, l2, hl2, hp2⟩ := hdT_cons (by decide) hk
          have htx : tx (hdT l1) = (⟨#[110, 111, 110, 101]⟩ : ByteArray) := by rw [hk]; rfl
          have has : assocOf p.2 = some 3 := by rw [hp2]; decide
          have hst := finL_step (acc := acc) (r := l2.map (·.2)) has
          have hl2m : l1.map (·.2) = p.2 :: l2.map (·.2) := by rw [hl2]; rfl
          rw [hl2m] at hf1
          have hs2 : l2 <:+ l := by rw [hl2] at hs1; exact (List.suffix_cons _ _).trans hs1
          have hlen2 : l1.length = l2.length + 1 := by rw [hl2]; rfl
          have hlv := gplevel_fn 3 p l2 e (by omega)
          rw [← hl2] at hlv
          cases hq : pLevel 3 (l2.map (·.2)) with
          | err q =>
            have hr : q <:+ l2.map (·.2) := by have := pLevel_suf 3 (l2.map (·.2)); rw [hq] at this; exact this
            have hX : FnX Try.prog 57 [.ptr 0 2 0 0, intA 3] [rdA l1 e] (synV (pos (cut l2 q) e)) := hlv.dies (by rw [hq]; simp only [pout])
            have hout : pout l e levelsA (pLevels (l.map (·.2))) = .die (synV (pos (cut l2 q) e)) := by rw [← hf1, hst, hq]; simp only [pout, cut_cut hs2 hr]
            rw [hout]
            (repeat' (first | refine WP.seq ?_ | refine WP.block ?_ | refine go_n ?_ | refine go_p ?_ | refine bl_p ?_ | (refine wp_cond (by rfl) (fun hc => ?_) (fun hc => ?_) <;> (try simp only [sB, ne_eq, reduceCtorEq] at hc) <;> (try (exfalso; omega))) | (refine WP.regionC (id := 2) ?_; (refine su (ap_move (rq_p rfl rfl)) ?_); (refine sc_o [0] rfl rfl (peek_fn _ _) (Lend.o1 (by rfl) (by rfl) (by (exact (renL_pure (by simp [AV.bd, bdL, bdL_append])).symm)) (by rfl) (by simp [AV.bd, bdL, bdL_append]) (by simp [AV.bd, bdL, bdL_append])) ?_; simp only [updN, newO, AObj.ren, renL, AV.ren, apx, ap, if_true, if_false, Nat.reduceLT, Nat.reduceAdd, Nat.reduceSub, sO, intA, boolA, strA, ren_pkA, rdA, ren_toks]); (refine su (ap_fieldv (rq_p rfl rfl) (by rfl)) ?_); refine asemC_end ?_) | (refine WP.regionC (id := 4) ?_; (refine su (ap_eqs (rq_p rfl rfl) (rq_p rfl rfl)) ?_); (refine su (ap_assign (rq_p rfl rfl)) ?_); refine asemC_end ?_) | (refine WP.regionC (id := 6) ?_; (refine su (ap_eqs (rq_p rfl rfl) (rq_p rfl rfl)) ?_); (refine su (ap_assign (rq_p rfl rfl)) ?_); refine asemC_end ?_) | (refine WP.regionC (id := 8) ?_; (refine su (ap_eqs (rq_p rfl rfl) (rq_p rfl rfl)) ?_); (refine su (ap_assign (rq_p rfl rfl)) ?_); refine asemC_end ?_) | (refine wpl_region (id := 9) ?_; (refine wpl_step rfl ?_; (refine su (ap_move (rq_p rfl rfl)) ?_); refine asemC_end ?_; (refine wpl_step rfl ?_; (refine su (ap_move (rq_p rfl rfl)) ?_); refine asemC_end ?_; ((refine wpl_x [0] rfl rfl (hX) (Lend.S (by first | ((repeat' first | exact RenL.nil | refine RenL.cons (by rfl) ?_); done) | fail) (by first | ((repeat' first | exact LendO.nil | refine LendO.arr (by rfl) (by (exact (renL_pure (by simp [AV.bd, bdL, bdL_append])).symm)) ?_); done) | fail) (by decide) (by rfl) (by simp [AV.bd, bdL, bdL_append]) (by repeat' (first | exact True.intro | refine And.intro ?_ ?_ | simp [AV.bd, bdL, bdL_append]))) ?_)))))))
            all_goals (first | exact bp_p rfl | exact absurd htx (by assumption) | (rw [htx] at hc; exact absurd hc (by decide)))
          | ok x r =>
            have hr : r <:+ l2.map (·.2) := by have := pLevel_suf 3 (l2.map (·.2)); rw [hq] at this; exact this
            have hO : FnO Try.prog 57 [.ptr 0 2 0 0, intA 3] [rdA l1 e] (levelA x) [some (rdA (cut l2 r) e)] := hlv.oks (by rw [hq]; simp only [pout])
            have hcl := (cut_suf l2 r).length_le
            have hnext : (cut l2 r).length < l1.length ∧ cut l2 r <:+ l ∧ (acc ++ [x]).length + (cut l2 r).length ≤ l.length ∧ finL (acc ++ [x]) ((cut l2 r).map (·.2)) = pLevels (l.map (·.2)) := by
              refine ⟨by omega, (cut_suf _ _).trans hs2, by simp only [List.length_append, List.length_cons, List.length_nil]; omega, ?_⟩
              rw [cut_map hr, ← hf1, hst, hq]
            (repeat' (first | refine WP.seq ?_ | refine WP.block ?_ | refine go_n ?_ | refine bl_n ?_ | (refine wp_cond (by rfl) (fun hc => ?_) (fun hc => ?_) <;> (try simp only [sB, ne_eq, reduceCtorEq] at hc) <;> (try (exfalso; omega))) | (refine WP.regionC (id := 2) ?_; (refine su (ap_move (rq_p rfl rfl)) ?_); (refine sc_o [0] rfl rfl (peek_fn _ _) (Lend.o1 (by rfl) (by rfl) (by (exact (renL_pure (by simp [AV.bd, bdL, bdL_append])).symm)) (by rfl) (by simp [AV.bd, bdL, bdL_append]) (by simp [AV.bd, bdL, bdL_append])) ?_; simp only [updN, newO, AObj.ren, renL, AV.ren, apx, ap, if_true, if_false, Nat.reduceLT, Nat.reduceAdd, Nat.reduceSub, sO, intA, boolA, strA, ren_pkA, rdA, ren_toks]); (refine su (ap_fieldv (rq_p rfl rfl) (by rfl)) ?_); refine asemC_end ?_) | (refine WP.regionC (id := 4) ?_; (refine su (ap_eqs (rq_p rfl rfl) (rq_p rfl rfl)) ?_); (refine su (ap_assign (rq_p rfl rfl)) ?_); refine asemC_end ?_) | (refine WP.regionC (id := 6) ?_; (refine su (ap_eqs (rq_p rfl rfl) (rq_p rfl rfl)) ?_); (refine su (ap_assign (rq_p rfl rfl)) ?_); refine asemC_end ?_) | (refine WP.regionC (id := 8) ?_; (refine su (ap_eqs (rq_p rfl rfl) (rq_p rfl rfl)) ?_); (refine su (ap_assign (rq_p rfl rfl)) ?_); refine asemC_end ?_) | (refine WP.regionC (id := 9) ?_; (refine su (ap_move (rq_p rfl rfl)) ?_); (refine su (ap_move (rq_p rfl rfl)) ?_); (refine sc_o [0] rfl rfl (hO) (Lend.o1 (by rfl) (by rfl) (by (exact (renL_pure (by simp [AV.bd, bdL, bdL_append])).symm)) (by rfl) (by simp [AV.bd, bdL, bdL_append]) (by simp [AV.bd, bdL, bdL_append])) ?_; simp only [updN, newO, AObj.ren, renL, AV.ren, apx, ap, if_true, if_false, Nat.reduceLT, Nat.reduceAdd, Nat.reduceSub, sO, intA, boolA, strA, rdA, ren_toks, ren_levelA]); (refine se_lit (OpP.cons (by rfl) (OpP.nil)) (by rfl) (by rfl) (by rfl) (by rfl) (by rfl) (by rfl) ?_); (refine se_app1 (by rfl) (by rfl) (by rfl) (by rfl) (by rfl) (by rfl) (by rfl) (by rfl) (by omega) ?_); (refine su (ap_assign (rq_p rfl rfl)) ?_); refine asemC_end ?_)))
            all_goals (first | exact absurd htx (by assumption) | (rw [htx] at hc; exact absurd hc (by decide)) | exact ⟨(acc ++ [x], cut l2 r), hnext, ⟨[0, 3], ToR.S rfl (by repeat' (first | exact rt_nil | refine rt_r (by rfl) (by rfl) ?_ | refine rt_t (by rfl) (by rfl) ?_)) (by repeat' (first | exact ro_nil | refine ro_p (by rfl) (by first | exact rfl | fail) (by first | exact bdL_map (fun _ => by simp [AV.bd, bdL, bdL_append]) _ | (simp [bdL, bdL_append, AV.bd]; done) | fail) ?_)) (by rfl) (by (rw [hm]; exact rfl)) (by rfl) (by (simp [bdT, AV.bd, bdL, bdL_append]; done)) (by repeat' (first | exact True.intro | refine And.intro ?_ ?_ | exact bdL_map (fun _ => by simp [AV.bd, bdL, bdL_append]) _ | (simp [bdOq, bdL, bdL_append, AV.bd]; done))) (by (rw [hm]; exact Nat.le_of_ble_eq_true rfl))⟩⟩)
        · have has : asT (l1.map (·.2)) = none := by
            cases l1 with
            | nil => rfl
            | cons p l2 =>
              have h1 : ¬ p.2 = bl kw1 := hk
              have h2 : ¬ p.2 = bl kw2 := hk2
              have h3 : ¬ p.2 = bl kw3 := hk3
              simp only [List.map_cons, asT, assocOf, if_neg h1, if_neg h2, if_neg h3]
          have hout : pout l e levelsA (pLevels (l.map (·.2))) = .ok (levelsA acc) [some (rdA l1 e)] := by rw [← hf1, finL_stop has]; simp only [pout, cut_of hs1]
          rw [hout]
          (repeat' (first | refine WP.seq ?_ | refine WP.block ?_ | refine go_n ?_ | (refine wp_cond (by rfl) (fun hc => ?_) (fun hc => ?_) <;> (try simp only [sB, ne_eq, reduceCtorEq] at hc) <;> (try (exfalso; omega))) | (refine WP.regionC (id := 2) ?_; (refine su (ap_move (rq_p rfl rfl)) ?_); (refine sc_o [0] rfl rfl (peek_fn _ _) (Lend.o1 (by rfl) (by rfl) (by (exact (renL_pure (by simp [AV.bd, bdL, bdL_append])).symm)) (by rfl) (by simp [AV.bd, bdL, bdL_append]) (by simp [AV.bd, bdL, bdL_append])) ?_; simp only [updN, newO, AObj.ren, renL, AV.ren, apx, ap, if_true, if_false, Nat.reduceLT, Nat.reduceAdd, Nat.reduceSub, sO, intA, boolA, strA, ren_pkA, rdA, ren_toks]); (refine su (ap_fieldv (rq_p rfl rfl) (by rfl)) ?_); refine asemC_end ?_) | (refine WP.regionC (id := 4) ?_; (refine su (ap_eqs (rq_p rfl rfl) (rq_p rfl rfl)) ?_); (refine su (ap_assign (rq_p rfl rfl)) ?_); refine asemC_end ?_) | (refine WP.regionC (id := 6) ?_; (refine su (ap_eqs (rq_p rfl rfl) (rq_p rfl rfl)) ?_); (refine su (ap_assign (rq_p rfl rfl)) ?_); refine asemC_end ?_) | (refine WP.regionC (id := 8) ?_; (refine su (ap_eqs (rq_p rfl rfl) (rq_p rfl rfl)) ?_); (refine su (ap_assign (rq_p rfl rfl)) ?_); refine asemC_end ?_)))
          · exact absurd (tx_eq hc) hk
          · exact absurd (tx_eq hc) hk2
          · exact absurd (tx_eq hc) hk3
          · refine wp_frzm 3 hm rfl rfl rfl (bd_levelA 0) (fun _ => rfl) (by rfl) ?_
            (repeat' (first | refine go_n ?_ | refine WP.ret ?_ | refine go_r ?_ | refine bl_r ?_ | (refine WP.regionC (id := 3) ?_; (refine su (ap_move (rq_p rfl rfl)) ?_); (refine su (ap_assign (rq_p rfl rfl)) ?_); refine asemC_end ?_)))
            refine bp_r rfl ?_
            refine retO_L (x := levelsA acc) (k := 1) (os1 := [(0, some (rdA l1 e))]) (.tmp (by rfl) .nil) (by rfl) ⟨[0], ToR.S rfl (by repeat' (first | exact rt_nil | refine rt_p (by rfl) (by rfl) (by first | (simp [AV.bd, bdL, bdL_append]; done) | fail) ?_)) (by repeat' (first | exact ro_nil | refine ro_p (by rfl) (by first | exact rfl | fail) (by first | (simp [bdL, bdL_append, AV.bd]; done) | fail) ?_)) (by rfl) (by rfl) (by rfl) (by (simp [bdT, AV.bd, bdL, bdL_append]; done)) (by repeat' (first | exact True.intro | refine And.intro ?_ ?_ | (simp [bdOq, bdL, bdL_append, AV.bd]; done))) (by exact Nat.le_of_ble_eq_true rfl)⟩ (by rfl)
  · exact pout_fine l e levelsA (fun x => by simp [levelsA, AV.bd]) _
end Go.Lg

namespace Go.Lg
open Go.Proofs
set_option linter.unusedSimpArgs false
set_option linter.unusedVariables false
attribute [local irreducible] Ap Rq asemC WP RunD Ret Gq thenA inBlockA bodyQ noGotoA RqL RqP OpP
set_option maxHeartbeats 4000000
set_option maxRecDepth 20000
attribute [local simp] rdA pkA tokA toks_bd
theorem ren_altA (π : Nat → Nat) (x : GAl) : AV.ren π (altA x) = altA x := ren_pure (bd_altA 0 x)
theorem gprule_fn (l : List (Nat × Tx)) (e : Int) (hB : l.length ≤ 1000000) (hW : NumW l) : FnP Try.prog 23 [.ptr 0 2 0 0] [rdA l e] (pout l e gruleA (pRule (l.map (·.2)))) := by
  have hnm := gpname_fn l e
  cases hq : pName (l.map (·.2)) with
  | err q =>
    have hX : FnX Try.prog 21 [.ptr 0 2 0 0] [rdA l e] (synV (pos (cut l q) e)) := hnm.dies (by rw [hq]; simp only [pout])
    have hout : pout l e gruleA (pRule (l.map (·.2))) = .die (synV (pos (cut l q) e)) := by simp only [pRule, hq, pout]
    rw [hout]
    refine FnP.intro ?_ (by kernel_rfl) Try.func23 rfl rfl Try.ntmps23 (by exact Nat.le_of_ble_eq_true rfl) ?_; rotate_left; intro Γ hm
    · (repeat' (first | refine WP.seq ?_ | refine go_n ?_ | refine go_p ?_ | (refine WP.regionC (id := 0) ?_; (refine se_alloc (by rfl) ?_); refine asemC_end ?_) | (refine wpl_region (id := 1) ?_; (refine wpl_step rfl ?_; (refine su (ap_move (rq_p rfl rfl)) ?_); refine asemC_end ?_; ((refine wpl_x [0] rfl rfl (hX) (Lend.S (by first | ((repeat' first | exact RenL.nil | refine RenL.cons (by rfl) ?_); done) | fail) (by first | ((repeat' first | exact LendO.nil | refine LendO.arr (by rfl) (by (exact (renL_pure (by simp [AV.bd, bdL, bdL_append])).symm)) ?_); done) | fail) (by decide) (by rfl) (by simp [AV.bd, bdL, bdL_append]) (by repeat' (first | exact True.intro | refine And.intro ?_ ?_ | simp [AV.bd, bdL, bdL_append]))) ?_))))))
      exact bp_p rfl
    · trivial
  | ok n r =>
    have hr : r <:+ l.map (·.2) := by have := pName_suf (l.map (·.2)); rw [hq] at this; exact this
    have hO : FnO Try.prog 21 [.ptr 0 2 0 0] [rdA l e] (strA n) [some (rdA (cut l r) e)] := hnm.oks (by rw [hq]; simp only [pout])
    have hs1 := cut_suf l r
    have hm1 := cut_map hr
    have hlt1 := pName_lt hq
    generalize hl1 : cut l r = l1 at *
    by_cases h61 : hdT l1 = [61]
    · obtain ⟨p, l2, hl2, hp2⟩ := hdT_cons (by simp) h61
      have hE : FnO Try.prog 20 [.ptr 0 2 0 0, strA (tx [61])] [rdA l1 e] (.tup []) [some (rdA l2 e)] := by rw [hl2]; exact expect_ok [61] (by simp) p l2 e hp2
      have hs2 : l2 <:+ l := by rw [hl2] at hs1; exact (List.suffix_cons _ _).trans hs1
      have hlen2 : l2.length + 1 ≤ l.length := by have := hs1.length_le; rw [hl2] at this; simp only [List.length_cons] at this; omega
      have hpr : pRule (l.map (·.2)) = match pAltsR (l2.map (·.2)) with
          | .err q => .err q
          | .ok ys r2 => match pTake [59] r2 with
            | .err q => .err q
            | .ok _ r3 => .ok ⟨n, ys⟩ r3 := by
        have hpt : pTake [61] r = .ok () (l2.map (·.2)) := by rw [← hm1, hl2, List.map_cons, pTake, if_pos hp2]
        simp only [pRule, hq, hpt]
        cases pAltsR (l2.map (·.2)) <;> rfl
      have hal := gpalt_fn l2 e (by omega) (hW.suf hs2)
      cases hq2 : pAlt (l2.map (·.2)) with
      | err q =>
        have hqs : q <:+ l2.map (·.2) := by have := pAlt_suf (l2.map (·.2)); rw [hq2] at this; exact this
        have hX : FnX Try.prog 58 [.ptr 0 2 0 0] [rdA l2 e] (synV (pos (cut l2 q) e)) := hal.dies (by rw [hq2]; simp only [pout])
        have hout : pout l e gruleA (pRule (l.map (·.2))) = .die (synV (pos (cut l2 q) e)) := by rw [hpr, pAltsR_eq, hq2]; simp only [pout, cut_cut hs2 hqs]
        rw [hout]
        refine FnP.intro ?_ (by kernel_rfl) Try.func23 rfl rfl Try.ntmps23 (by exact Nat.le_of_ble_eq_true rfl) ?_; rotate_left; intro Γ hm
        · (repeat' (first | refine WP.seq ?_ | refine go_n ?_ | refine go_p ?_ | (refine WP.regionC (id := 0) ?_; (refine se_alloc (by rfl) ?_); refine asemC_end ?_) | (refine wpl_region (id := 1) ?_; (refine wpl_step rfl ?_; (refine su (ap_move (rq_p rfl rfl)) ?_); refine asemC_end ?_; ((refine wpl_step rfl ?_; (refine sc_o [0] rfl rfl (hO) (Lend.o1 (by rfl) (by rfl) (by (exact (renL_pure (by simp [AV.bd, bdL, bdL_append])).symm)) (by rfl) (by simp [AV.bd, bdL, bdL_append]) (by simp [AV.bd, bdL, bdL_append])) ?_; simp only [updN, newO, AObj.ren, renL, AV.ren, apx, ap, if_true, if_false, Nat.reduceLT, Nat.reduceAdd, Nat.reduceSub, sO, intA, boolA, strA, rdA, ren_toks]); refine asemC_end ?_; (refine wpl_step rfl ?_; (refine su (ap_build (RqP.cons (rq_p rfl rfl) (RqP.nil)) (by rfl)) ?_); refine asemC_end ?_; (refine wpl_step rfl ?_; (refine se_alloc (by rfl) ?_); refine asemC_end ?_; (refine wpl_step rfl ?_; (refine se_store_b (by rfl) (by rfl) (by rfl) (by rfl) ?_); refine asemC_end ?_; (refine wpl_end ?_)))))))) | (refine wpl_region (id := 2) ?_; (refine wpl_step rfl ?_; (refine su (ap_move (rq_p rfl rfl)) ?_); refine asemC_end ?_; ((refine wpl_step rfl ?_; (refine sc_o [0] rfl rfl (hE) (Lend.o1 (by rfl) (by rfl) (by (exact (renL_pure (by simp [AV.bd, bdL, bdL_append])).symm)) (by rfl) (by simp [AV.bd, bdL, bdL_append]) (by simp [AV.bd, bdL, bdL_append])) ?_; simp only [updN, newO, AObj.ren, renL, AV.ren, apx, ap, if_true, if_false, Nat.reduceLT, Nat.reduceAdd, Nat.reduceSub, sO, intA, boolA, strA, rdA, ren_toks]); refine asemC_end ?_; (refine wpl_end ?_))))) | (refine wpl_region (id := 3) ?_; (refine wpl_step rfl ?_; (refine se_lit0 ?_); refine asemC_end ?_; (refine wpl_step rfl ?_; (refine su (ap_move (rq_p rfl rfl)) ?_); refine asemC_end ?_; ((refine wpl_x [0] rfl rfl (hX) (Lend.S (by first | ((repeat' first | exact RenL.nil | refine RenL.cons (by rfl) ?_); done) | fail) (by first | ((repeat' first | exact LendO.nil | refine LendO.arr (by rfl) (by (exact (renL_pure (by simp [AV.bd, bdL, bdL_append])).symm)) ?_); done) | fail) (by decide) (by rfl) (by simp [AV.bd, bdL, bdL_append]) (by repeat' (first | exact True.intro | refine And.intro ?_ ?_ | simp [AV.bd, bdL, bdL_append]))) ?_)))))))
          exact bp_p rfl
        · trivial
      | ok a0 r0 =>
        have hqs : r0 <:+ l2.map (·.2) := by have := pAlt_suf (l2.map (·.2)); rw [hq2] at this; exact this
        have hOa : FnO Try.prog 58 [.ptr 0 2 0 0] [rdA l2 e] (altA a0) [some (rdA (cut l2 r0) e)] := hal.oks (by rw [hq2]; simp only [pout])
        have hfin : finR [a0] r0 = pAltsR (l2.map (·.2)) := by rw [pAltsR_eq, hq2]
        have hcl := (cut_suf l2 r0).length_le
        refine FnP.intro ?_ (by kernel_rfl) Try.func23 rfl rfl Try.ntmps23 (by exact Nat.le_of_ble_eq_true rfl) ?_; rotate_left; intro Γ hm
        · (repeat' (first | refine WP.seq ?_ | refine WP.block ?_ | refine go_n ?_ | (refine WP.regionC (id := 0) ?_; (refine se_alloc (by rfl) ?_); refine asemC_end ?_) | (refine WP.regionC (id := 1) ?_; (refine su (ap_move (rq_p rfl rfl)) ?_); (refine sc_o [0] rfl rfl (hO) (Lend.o1 (by rfl) (by rfl) (by (exact (renL_pure (by simp [AV.bd, bdL, bdL_append])).symm)) (by rfl) (by simp [AV.bd, bdL, bdL_append]) (by simp [AV.bd, bdL, bdL_append])) ?_; simp only [updN, newO, AObj.ren, renL, AV.ren, apx, ap, if_true, if_false, Nat.reduceLT, Nat.reduceAdd, Nat.reduceSub, sO, intA, boolA, strA, rdA, ren_toks]); (refine su (ap_build (RqP.cons (rq_p rfl rfl) (RqP.nil)) (by rfl)) ?_); (refine se_alloc (by rfl) ?_); (refine se_store_b (by rfl) (by rfl) (by rfl) (by rfl) ?_); refine asemC_end ?_) | (refine WP.regionC (id := 2) ?_; (refine su (ap_move (rq_p rfl rfl)) ?_); (refine sc_o [0] rfl rfl (hE) (Lend.o1 (by rfl) (by rfl) (by (exact (renL_pure (by simp [AV.bd, bdL, bdL_append])).symm)) (by rfl) (by simp [AV.bd, bdL, bdL_append]) (by simp [AV.bd, bdL, bdL_append])) ?_; simp only [updN, newO, AObj.ren, renL, AV.ren, apx, ap, if_true, if_false, Nat.reduceLT, Nat.reduceAdd, Nat.reduceSub, sO, intA, boolA, strA, rdA, ren_toks]); refine asemC_end ?_) | (refine WP.regionC (id := 3) ?_; (refine se_lit0 ?_); (refine su (ap_move (rq_p rfl rfl)) ?_); (refine sc_o [0] rfl rfl (hOa) (Lend.o1 (by rfl) (by rfl) (by (exact (renL_pure (by simp [AV.bd, bdL, bdL_append])).symm)) (by rfl) (by simp [AV.bd, bdL, bdL_append]) (by simp [AV.bd, bdL, bdL_append])) ?_; simp only [updN, newO, AObj.ren, renL, AV.ren, apx, ap, if_true, if_false, Nat.reduceLT, Nat.reduceAdd, Nat.reduceSub, sO, intA, boolA, strA, rdA, ren_toks, ren_altA]); (refine se_lit (OpP.cons (by rfl) (OpP.nil)) (by rfl) (by rfl) (by rfl) (by rfl) (by rfl) (by rfl) ?_); (refine se_app (by rfl) (by rfl) (by rfl) (by rfl) (by rfl) (by rfl) (by rfl) (by rfl) (by (simp only [sL] <;> omega)) ?_); (refine su (ap_field_p (rq_p rfl rfl) (by rfl) (by rfl)) ?_); (refine se_store_b (by rfl) (by rfl) (by rfl) (by rfl) ?_); refine asemC_end ?_)))
          refine wp_loop (fun (σ : List GAl × List (Nat × Tx)) => σ.2 <:+ l2 ∧ σ.1.length + σ.2.length ≤ l.length ∧ finR σ.1 (σ.2.map (·.2)) = pAltsR (l2.map (·.2))) (fun σ => σ.2.length)
            (fun σ => (S 33 [(0, .ptr 0 2 0 0), (2, .ptr 1 2 0 0), (3, .ptr 2 2 0 0)] 4 [(0, some (rdA σ.2 e)), (1, some (.arr 2 [.agg [strA ⟨#[]⟩, .val (.slice none 0 0)]])), (2, some (.arr 2 [.agg [strA n, .ref 3 4 0 σ.1.length]])), (3, some (.arr 4 (σ.1.map altA)))])) ([a0], cut l2 r0) ⟨[0, 1, 2, 5], ToR.S rfl (by repeat' (first | exact rt_nil | refine rt_t (by rfl) (by rfl) ?_)) (by repeat' (first | exact ro_nil | refine ro_e (by rfl) (by rfl) ?_ | refine ro_p (by rfl) (by first | exact rfl | fail) (by first | exact bdL_map (fun _ => by simp [AV.bd, bdL, bdL_append]) _ | (simp [bdL, bdL_append, AV.bd]; done) | fail) ?_)) (by rfl) (by (rw [hm]; exact rfl)) (by rfl) (by (simp [bdT, AV.bd, bdL, bdL_append]; done)) (by repeat' (first | exact True.intro | exact rfl | refine And.intro ?_ ?_ | exact bdL_map (fun _ => by simp [AV.bd, bdL, bdL_append]) _ | (simp [bdOq, bdL, bdL_append, AV.bd]; done))) (by (rw [hm]; exact Nat.le_of_ble_eq_true rfl))⟩ ⟨cut_suf _ _, by simp only [List.length_cons, List.length_nil]; omega, by rw [cut_map hqs]; exact hfin⟩ ?_
          rintro ⟨acc, l3⟩ ⟨hs3, hn3, hf3⟩
          simp only at hs3 hn3 hf3 ⊢
          by_cases hbar : hdT l3 = [124]
          · obtain ⟨p3, l4, hl3, hp3⟩ := hdT_cons (by simp) hbar
            have hN : FnO Try.prog 55 [.ptr 0 2 0 0] [rdA l3 e] (tokA p3) [some (rdA l4 e)] := by rw [hl3]; exact next_fn p3 l4 e
            have hbb : finR acc (l3.map (·.2)) = match pAlt (l4.map (·.2)) with
                | .err q' => .err q'
                | .ok a q' => finR (acc ++ [a]) q' := by rw [hl3, List.map_cons, hp3]; exact finR_bar _ _
            have hs4 : l4 <:+ l2 := by rw [hl3] at hs3; exact (List.suffix_cons _ _).trans hs3
            have hlen4 : l4.length < l3.length := by rw [hl3]; simp
            have hle4 := hs4.length_le
            have hal4 := gpalt_fn l4 e (by omega) (hW.suf (hs4.trans hs2))
            cases hq4 : pAlt (l4.map (·.2)) with
            | err q =>
              have hq4s : q <:+ l4.map (·.2) := by have := pAlt_suf (l4.map (·.2)); rw [hq4] at this; exact this
              have hX : FnX Try.prog 58 [.ptr 0 2 0 0] [rdA l4 e] (synV (pos (cut l4 q) e)) := hal4.dies (by rw [hq4]; simp only [pout])
              have hout : pout l e gruleA (pRule (l.map (·.2))) = .die (synV (pos (cut l4 q) e)) := by
                rw [hpr, ← hf3, hbb, hq4]; simp only [pout, cut_cut (hs4.trans hs2) hq4s]
              rw [hout]
              (repeat' (first | refine WP.seq ?_ | refine WP.block ?_ | refine go_n ?_ | refine WP.skip ?_ | refine WP.exit ?_ | refine go_x ?_ | refine bl_x ?_ | refine go_p ?_ | refine bl_p ?_ | (refine wp_cond (by rfl) (fun hc => ?_) (fun hc => ?_) <;> (try simp only [sB, ne_eq, reduceCtorEq] at hc) <;> (try (exfalso; omega))) | (refine WP.regionC (id := 4) ?_; (refine su (ap_move (rq_p rfl rfl)) ?_); (refine sc_o [0] rfl rfl (peek_fn _ _) (Lend.o1 (by rfl) (by rfl) (by (exact (renL_pure (by simp [AV.bd, bdL, bdL_append])).symm)) (by rfl) (by simp [AV.bd, bdL, bdL_append]) (by simp [AV.bd, bdL, bdL_append])) ?_; simp only [updN, newO, AObj.ren, renL, AV.ren, apx, ap, if_true, if_false, Nat.reduceLT, Nat.reduceAdd, Nat.reduceSub, sO, intA, boolA, strA, ren_pkA, rdA, ren_toks]); (refine su (ap_fieldv (rq_p rfl rfl) (by rfl)) ?_); (refine su (ap_eqs (rq_p rfl rfl) (rq_p rfl rfl)) ?_); refine asemC_end ?_) | (refine wpl_region (id := 5) ?_; (refine wpl_step rfl ?_; (refine su (ap_move (rq_p rfl rfl)) ?_); refine asemC_end ?_; ((refine wpl_step rfl ?_; (refine sc_o [0] rfl rfl (hN) (Lend.o1 (by rfl) (by rfl) (by (exact (renL_pure (by simp [AV.bd, bdL, bdL_append])).symm)) (by rfl) (by simp [AV.bd, bdL, bdL_append]) (by simp [AV.bd, bdL, bdL_append])) ?_; simp only [updN, newO, AObj.ren, renL, AV.ren, apx, ap, if_true, if_false, Nat.reduceLT, Nat.reduceAdd, Nat.reduceSub, sO, intA, boolA, strA, rdA, ren_toks]); refine asemC_end ?_; (refine wpl_end ?_))))) | (refine wp_tree (id := 6) 7 mixed rfl ?_ <;> (refine wpt_take 0 (by rfl) (by exact still_fieldAddr (by rfl) (by rfl)) (by exact ap_field_p (rq_p rfl rfl) (by rfl) (by rfl)) (by kernel_rfl) (by kernel_rfl) (by kernel_rfl) (by repeat (first | exact pind_p | apply pind_then | apply pind_block)) ?_; (refine wpt_take 2 (by rfl) still_move (by exact ap_move (rq_p rfl rfl)) (by kernel_rfl) (by kernel_rfl) (by kernel_rfl) (by repeat (first | exact pind_p | apply pind_then | apply pind_block)) ?_; (refine wpt_all (rs := [1, 3]) (by kernel_rfl) rfl ⟨?_, ?_, trivial⟩ <;> (first | (refine wpo_do (i := 1) (by rfl) (by rfl) ?_; (refine su (ap_load_p (rq_p rfl rfl) (by rfl) (by rfl) (by rfl)) ?_); refine asemC_end ?_; (refine wpt_all (rs := [3]) (by kernel_rfl) rfl ⟨?_, trivial⟩; ((refine wpo_x (i := 3) [0] (by rfl) (by rfl) (by rfl) (hX) (Lend.S (by first | ((repeat' first | exact RenL.nil | refine RenL.cons (by rfl) ?_); done) | fail) (by first | ((repeat' first | exact LendO.nil | refine LendO.arr (by rfl) (by (exact (renL_pure (by simp [AV.bd, bdL, bdL_append])).symm)) ?_); done) | fail) (by decide) (by rfl) (by simp [AV.bd, bdL, bdL_append]) (by repeat' (first | exact True.intro | refine And.intro ?_ ?_ | simp [AV.bd, bdL, bdL_append]))) ?_)))) | ((refine wpo_x (i := 3) [0] (by rfl) (by rfl) (by rfl) (hX) (Lend.S (by first | ((repeat' first | exact RenL.nil | refine RenL.cons (by rfl) ?_); done) | fail) (by first | ((repeat' first | exact LendO.nil | refine LendO.arr (by rfl) (by (exact (renL_pure (by simp [AV.bd, bdL, bdL_append])).symm)) ?_); done) | fail) (by decide) (by rfl) (by simp [AV.bd, bdL, bdL_append]) (by repeat' (first | exact True.intro | refine And.intro ?_ ?_ | simp [AV.bd, bdL, bdL_append]))) ?_)))))))))
              all_goals (first | exact bp_p rfl | exact absurd (by rw [hbar]; rfl) hc)
            | ok a r =>
              have hq4s : r <:+ l4.map (·.2) := by have := pAlt_suf (l4.map (·.2)); rw [hq4] at this; exact this
              have hO4 : FnO Try.prog 58 [.ptr 0 2 0 0] [rdA l4 e] (altA a) [some (rdA (cut l4 r) e)] := hal4.oks (by rw [hq4]; simp only [pout])
              have hcl4 := (cut_suf l4 r).length_le
              have hnext : (cut l4 r).length < l3.length ∧ cut l4 r <:+ l2 ∧ (acc ++ [a]).length + (cut l4 r).length ≤ l.length ∧ finR (acc ++ [a]) ((cut l4 r).map (·.2)) = pAltsR (l2.map (·.2)) := by
                refine ⟨by omega, (cut_suf _ _).trans hs4, by simp only [List.length_append, List.length_cons, List.length_nil]; omega, ?_⟩
                rw [cut_map hq4s, ← hf3, hbb, hq4]
              (repeat' (first | refine WP.seq ?_ | refine WP.block ?_ | refine go_n ?_ | refine WP.skip ?_ | refine WP.exit ?_ | refine go_x ?_ | refine bl_n ?_ | refine bl_x ?_ | (refine wp_cond (by rfl) (fun hc => ?_) (fun hc => ?_) <;> (try simp only [sB, ne_eq, reduceCtorEq] at hc) <;> (try (exfalso; omega))) | (refine WP.regionC (id := 4) ?_; (refine su (ap_move (rq_p rfl rfl)) ?_); (refine sc_o [0] rfl rfl (peek_fn _ _) (Lend.o1 (by rfl) (by rfl) (by (exact (renL_pure (by simp [AV.bd, bdL, bdL_append])).symm)) (by rfl) (by simp [AV.bd, bdL, bdL_append]) (by simp [AV.bd, bdL, bdL_append])) ?_; simp only [updN, newO, AObj.ren, renL, AV.ren, apx, ap, if_true, if_false, Nat.reduceLT, Nat.reduceAdd, Nat.reduceSub, sO, intA, boolA, strA, ren_pkA, rdA, ren_toks]); (refine su (ap_fieldv (rq_p rfl rfl) (by rfl)) ?_); (refine su (ap_eqs (rq_p rfl rfl) (rq_p rfl rfl)) ?_); refine asemC_end ?_) | (refine WP.regionC (id := 5) ?_; (refine su (ap_move (rq_p rfl rfl)) ?_); (refine sc_o [0] rfl rfl (hN) (Lend.o1 (by rfl) (by rfl) (by (exact (renL_pure (by simp [AV.bd, bdL, bdL_append])).symm)) (by rfl) (by simp [AV.bd, bdL, bdL_append]) (by simp [AV.bd, bdL, bdL_append])) ?_; simp only [updN, newO, AObj.ren, renL, AV.ren, apx, ap, if_true, if_false, Nat.reduceLT, Nat.reduceAdd, Nat.reduceSub, sO, intA, boolA, strA, rdA, ren_toks]); refine asemC_end ?_) | (refine wp_tree (id := 6) 7 mixed rfl ?_ <;> (refine wpt_take 0 (by rfl) (by exact still_fieldAddr (by rfl) (by rfl)) (by exact ap_field_p (rq_p rfl rfl) (by rfl) (by rfl)) (by kernel_rfl) (by kernel_rfl) (by kernel_rfl) (by repeat (first | exact pind_p | apply pind_then | apply pind_block)) ?_; (refine wpt_take 2 (by rfl) still_move (by exact ap_move (rq_p rfl rfl)) (by kernel_rfl) (by kernel_rfl) (by kernel_rfl) (by repeat (first | exact pind_p | apply pind_then | apply pind_block)) ?_; (refine wpt_all (rs := [1, 3]) (by kernel_rfl) rfl ⟨?_, ?_, trivial⟩ <;> (first | (refine wpo_do (i := 1) (by rfl) (by rfl) ?_; (refine su (ap_load_p (rq_p rfl rfl) (by rfl) (by rfl) (by rfl)) ?_); refine asemC_end ?_; (refine wpt_all (rs := [3]) (by kernel_rfl) rfl ⟨?_, trivial⟩; (refine wpo_do (i := 3) (by rfl) (by rfl) ?_; (refine sc_o [0] rfl rfl (hO4) (Lend.o1 (by rfl) (by rfl) (by (exact (renL_pure (by simp [AV.bd, bdL, bdL_append])).symm)) (by rfl) (by simp [AV.bd, bdL, bdL_append]) (by simp [AV.bd, bdL, bdL_append])) ?_; simp only [updN, newO, AObj.ren, renL, AV.ren, apx, ap, if_true, if_false, Nat.reduceLT, Nat.reduceAdd, Nat.reduceSub, sO, intA, boolA, strA, rdA, ren_toks, ren_altA]); refine asemC_end ?_; (refine wpt_all (rs := [4]) (by kernel_rfl) rfl ⟨?_, trivial⟩; (refine wpo_do (i := 4) (by rfl) (by rfl) ?_; (refine se_lit (OpP.cons (by rfl) (OpP.nil)) (by rfl) (by rfl) (by rfl) (by rfl) (by rfl) (by rfl) ?_); refine asemC_end ?_; (refine wpt_all (rs := [5]) (by kernel_rfl) rfl ⟨?_, trivial⟩; (refine wpo_do (i := 5) (by rfl) (by rfl) ?_; (refine se_app1 (by rfl) (by rfl) (by rfl) (by rfl) (by rfl) (by rfl) (by rfl) (by rfl) (by omega) ?_); refine asemC_end ?_; (refine wpt_take 6 (by rfl) still_assign (by exact ap_assign (rq_p rfl rfl)) (by kernel_rfl) (by kernel_rfl) (by kernel_rfl) (by repeat (first | exact pind_p | apply pind_then | apply pind_block)) ?_; (refine wpt_end (by kernel_rfl) ?_))))))))) | (refine wpo_do (i := 3) (by rfl) (by rfl) ?_; (refine sc_o [0] rfl rfl (hO4) (Lend.o1 (by rfl) (by rfl) (by (exact (renL_pure (by simp [AV.bd, bdL, bdL_append])).symm)) (by rfl) (by simp [AV.bd, bdL, bdL_append]) (by simp [AV.bd, bdL, bdL_append])) ?_; simp only [updN, newO, AObj.ren, renL, AV.ren, apx, ap, if_true, if_false, Nat.reduceLT, Nat.reduceAdd, Nat.reduceSub, sO, intA, boolA, strA, rdA, ren_toks, ren_altA]); refine asemC_end ?_; (refine wpt_all (rs := [1, 4]) (by kernel_rfl) rfl ⟨?_, ?_, trivial⟩ <;> (first | (refine wpo_do (i := 1) (by rfl) (by rfl) ?_; (refine su (ap_load_p (rq_p rfl rfl) (by rfl) (by rfl) (by rfl)) ?_); refine asemC_end ?_; (refine wpt_all (rs := [4]) (by kernel_rfl) rfl ⟨?_, trivial⟩; (refine wpo_do (i := 4) (by rfl) (by rfl) ?_; (refine se_lit (OpP.cons (by rfl) (OpP.nil)) (by rfl) (by rfl) (by rfl) (by rfl) (by rfl) (by rfl) ?_); refine asemC_end ?_; (refine wpt_all (rs := [5]) (by kernel_rfl) rfl ⟨?_, trivial⟩; (refine wpo_do (i := 5) (by rfl) (by rfl) ?_; (refine se_app1 (by rfl) (by rfl) (by rfl) (by rfl) (by rfl) (by rfl) (by rfl) (by rfl) (by omega) ?_); refine asemC_end ?_; (refine wpt_take 6 (by rfl) still_assign (by exact ap_assign (rq_p rfl rfl)) (by kernel_rfl) (by kernel_rfl) (by kernel_rfl) (by repeat (first | exact pind_p | apply pind_then | apply pind_block)) ?_; (refine wpt_end (by kernel_rfl) ?_))))))) | (refine wpo_do (i := 4) (by rfl) (by rfl) ?_; (refine se_lit (OpP.cons (by rfl) (OpP.nil)) (by rfl) (by rfl) (by rfl) (by rfl) (by rfl) (by rfl) ?_); refine asemC_end ?_; (refine wpt_all (rs := [1]) (by kernel_rfl) rfl ⟨?_, trivial⟩; (refine wpo_do (i := 1) (by rfl) (by rfl) ?_; (refine su (ap_load_p (rq_p rfl rfl) (by rfl) (by rfl) (by rfl)) ?_); refine asemC_end ?_; (refine wpt_all (rs := [5]) (by kernel_rfl) rfl ⟨?_, trivial⟩; (refine wpo_do (i := 5) (by rfl) (by rfl) ?_; (refine se_app1 (by rfl) (by rfl) (by rfl) (by rfl) (by rfl) (by rfl) (by rfl) (by rfl) (by omega) ?_); refine asemC_end ?_; (refine wpt_take 6 (by rfl) still_assign (by exact ap_assign (rq_p rfl rfl)) (by kernel_rfl) (by kernel_rfl) (by kernel_rfl) (by repeat (first | exact pind_p | apply pind_then | apply pind_block)) ?_; (refine wpt_end (by kernel_rfl) ?_))))))))))))))) | (refine WP.regionC (id := 7) ?_; (refine su (ap_move (rq_p rfl rfl)) ?_); (refine su (ap_field_p (rq_p rfl rfl) (by rfl) (by rfl)) ?_); (refine se_store_b (by rfl) (by rfl) (by rfl) (by rfl) ?_); refine asemC_end ?_)))
              all_goals (first | exact absurd (by rw [hbar]; rfl) hc | exact ⟨(acc ++ [a], cut l4 r), hnext, ⟨[0, 1, 2, 5], ToR.S rfl (by repeat' (first | exact rt_nil | refine rt_t (by rfl) (by rfl) ?_)) (by repeat' (first | exact ro_nil | refine ro_e (by rfl) (by rfl) ?_ | refine ro_p (by rfl) (by first | exact rfl | fail) (by first | exact bdL_map (fun _ => by simp [AV.bd, bdL, bdL_append]) _ | (simp [bdL, bdL_append, AV.bd]; done) | fail) ?_)) (by rfl) (by (rw [hm]; exact rfl)) (by rfl) (by (simp [bdT, AV.bd, bdL, bdL_append]; done)) (by repeat' (first | exact True.intro | exact rfl | refine And.intro ?_ ?_ | exact bdL_map (fun _ => by simp [AV.bd, bdL, bdL_append]) _ | (simp [bdOq, bdL, bdL_append, AV.bd]; done))) (by (rw [hm]; exact Nat.le_of_ble_eq_true rfl))⟩⟩)
          · have hfe : pAltsR (l2.map (·.2)) = .ok acc (l3.map (·.2)) := by rw [← hf3]; exact finR_stop hbar
            rw [hpr, hfe]
            simp only
            by_cases h59 : hdT l3 = [59]
            · obtain ⟨p3, l4, hl3, hp3⟩ := hdT_cons (by simp) h59
              have hE2 : FnO Try.prog 20 [.ptr 0 2 0 0, strA (tx [59])] [rdA l3 e] (.tup []) [some (rdA l4 e)] := by rw [hl3]; exact expect_ok [59] (by simp) p3 l4 e hp3
              have hpt : pTake [59] (l3.map (·.2)) = .ok () (l4.map (·.2)) := by rw [hl3, List.map_cons, pTake, if_pos hp3]
              rw [hpt]
              have hout : pout l e gruleA (.ok ⟨n, acc⟩ (l4.map (·.2))) = .ok (gruleA ⟨n, acc⟩) [some (rdA l4 e)] := by
                have : l4 <:+ l := (by rw [hl3] at hs3; exact ((List.suffix_cons _ _).trans hs3).trans hs2)
                simp only [pout, cut_of this]
              simp only
              rw [hout]
              (repeat' (first | refine WP.seq ?_ | refine WP.block ?_ | refine go_n ?_ | refine WP.skip ?_ | refine WP.exit ?_ | refine go_x ?_ | refine bl_x ?_ | (refine wp_cond (by rfl) (fun hc => ?_) (fun hc => ?_) <;> (try simp only [sB, ne_eq, reduceCtorEq] at hc) <;> (try (exfalso; omega))) | (refine WP.regionC (id := 4) ?_; (refine su (ap_move (rq_p rfl rfl)) ?_); (refine sc_o [0] rfl rfl (peek_fn _ _) (Lend.o1 (by rfl) (by rfl) (by (exact (renL_pure (by simp [AV.bd, bdL, bdL_append])).symm)) (by rfl) (by simp [AV.bd, bdL, bdL_append]) (by simp [AV.bd, bdL, bdL_append])) ?_; simp only [updN, newO, AObj.ren, renL, AV.ren, apx, ap, if_true, if_false, Nat.reduceLT, Nat.reduceAdd, Nat.reduceSub, sO, intA, boolA, strA, ren_pkA, rdA, ren_toks]); (refine su (ap_fieldv (rq_p rfl rfl) (by rfl)) ?_); (refine su (ap_eqs (rq_p rfl rfl) (rq_p rfl rfl)) ?_); refine asemC_end ?_) | (refine WP.regionC (id := 8) ?_; (refine su (ap_move (rq_p rfl rfl)) ?_); (refine sc_o [0] rfl rfl (hE2) (Lend.o1 (by rfl) (by rfl) (by (exact (renL_pure (by simp [AV.bd, bdL, bdL_append])).symm)) (by rfl) (by simp [AV.bd, bdL, bdL_append]) (by simp [AV.bd, bdL, bdL_append])) ?_; simp only [updN, newO, AObj.ren, renL, AV.ren, apx, ap, if_true, if_false, Nat.reduceLT, Nat.reduceAdd, Nat.reduceSub, sO, intA, boolA, strA, rdA, ren_toks]); refine asemC_end ?_)))
              · exact absurd (tx_inj (hc.trans rfl)) hbar
              · refine wp_frzom 2 1 hm rfl rfl rfl rfl rfl (bd_altA 0) (fun _ => rfl) (by rfl) ?_
                (repeat' (first | refine go_n ?_ | refine WP.ret ?_ | (refine WP.regionC (id := 9) ?_; (refine su (ap_load_pw (rq_p rfl rfl) (by rfl) (by rfl) (by rfl)) ?_); (refine se_store_b (by rfl) (by rfl) (by rfl) (by rfl) ?_); refine asemC_end ?_)))
                refine bp_r rfl ?_
                refine retO_L (x := gruleA ⟨n, acc⟩) (k := 1) (os1 := [(0, some (rdA l4 e))]) (.cellT (by rfl) (by rfl) (by rfl) (by rfl) .nil) (by rfl) ⟨[0], ToR.S rfl (by repeat' (first | exact rt_nil | refine rt_p (by rfl) (by rfl) (by first | (simp [AV.bd, bdL, bdL_append]; done) | fail) ?_)) (by repeat' (first | exact ro_nil | refine ro_p (by rfl) (by first | exact rfl | fail) (by first | (simp [bdL, bdL_append, AV.bd]; done) | fail) ?_)) (by rfl) (by rfl) (by rfl) (by (simp [bdT, AV.bd, bdL, bdL_append]; done)) (by repeat' (first | exact True.intro | refine And.intro ?_ ?_ | (simp [bdOq, bdL, bdL_append, AV.bd]; done))) (by exact Nat.le_of_ble_eq_true rfl)⟩ (by rfl)
            · have hX2 := expect_x [59] (by simp) l3 e h59
              rw [pTake_bad (by simp) h59]
              have hout : pout l e gruleA (.err (l3.map (·.2))) = .die (synV (pos l3 e)) := by simp only [pout, cut_of (hs3.trans hs2)]
              simp only
              rw [hout]
              (repeat' (first | refine WP.seq ?_ | refine WP.block ?_ | refine go_n ?_ | refine WP.skip ?_ | refine WP.exit ?_ | refine go_x ?_ | refine bl_x ?_ | refine go_p ?_ | (refine wp_cond (by rfl) (fun hc => ?_) (fun hc => ?_) <;> (try simp only [sB, ne_eq, reduceCtorEq] at hc) <;> (try (exfalso; omega))) | (refine WP.regionC (id := 4) ?_; (refine su (ap_move (rq_p rfl rfl)) ?_); (refine sc_o [0] rfl rfl (peek_fn _ _) (Lend.o1 (by rfl) (by rfl) (by (exact (renL_pure (by simp [AV.bd, bdL, bdL_append])).symm)) (by rfl) (by simp [AV.bd, bdL, bdL_append]) (by simp [AV.bd, bdL, bdL_append])) ?_; simp only [updN, newO, AObj.ren, renL, AV.ren, apx, ap, if_true, if_false, Nat.reduceLT, Nat.reduceAdd, Nat.reduceSub, sO, intA, boolA, strA, ren_pkA, rdA, ren_toks]); (refine su (ap_fieldv (rq_p rfl rfl) (by rfl)) ?_); (refine su (ap_eqs (rq_p rfl rfl) (rq_p rfl rfl)) ?_); refine asemC_end ?_) | (refine wpl_region (id := 8) ?_; (refine wpl_step rfl ?_; (refine su (ap_move (rq_p rfl rfl)) ?_); refine asemC_end ?_; ((refine wpl_x [0] rfl rfl (hX2) (Lend.S (by first | ((repeat' first | exact RenL.nil | refine RenL.cons (by rfl) ?_); done) | fail) (by first | ((repeat' first | exact LendO.nil | refine LendO.arr (by rfl) (by (exact (renL_pure (by simp [AV.bd, bdL, bdL_append])).symm)) ?_); done) | fail) (by decide) (by rfl) (by simp [AV.bd, bdL, bdL_append]) (by repeat' (first | exact True.intro | refine And.intro ?_ ?_ | simp [AV.bd, bdL, bdL_append]))) ?_))))))
              · exact absurd (tx_inj (hc.trans rfl)) hbar
              · exact bp_p rfl
        · exact pout_fine l e gruleA (fun x => bd_gruleA 1 x) _
    · have hX := expect_x [61] (by simp) l1 e h61
      have hout : pout l e gruleA (pRule (l.map (·.2))) = .die (synV (pos l1 e)) := by
        have : pTake [61] r = .err r := by rw [← hm1]; exact pTake_bad (by simp) h61
        simp only [pRule, hq, this, pout, hl1]
      rw [hout]
      refine FnP.intro ?_ (by kernel_rfl) Try.func23 rfl rfl Try.ntmps23 (by exact Nat.le_of_ble_eq_true rfl) ?_; rotate_left; intro Γ hm
      · (repeat' (first | refine WP.seq ?_ | refine go_n ?_ | refine go_p ?_ | (refine WP.regionC (id := 0) ?_; (refine se_alloc (by rfl) ?_); refine asemC_end ?_) | (refine wpl_region (id := 1) ?_; (refine wpl_step rfl ?_; (refine su (ap_move (rq_p rfl rfl)) ?_); refine asemC_end ?_; ((refine wpl_step rfl ?_; (refine sc_o [0] rfl rfl (hO) (Lend.o1 (by rfl) (by rfl) (by (exact (renL_pure (by simp [AV.bd, bdL, bdL_append])).symm)) (by rfl) (by simp [AV.bd, bdL, bdL_append]) (by simp [AV.bd, bdL, bdL_append])) ?_; simp only [updN, newO, AObj.ren, renL, AV.ren, apx, ap, if_true, if_false, Nat.reduceLT, Nat.reduceAdd, Nat.reduceSub, sO, intA, boolA, strA, rdA, ren_toks]); refine asemC_end ?_; (refine wpl_step rfl ?_; (refine su (ap_build (RqP.cons (rq_p rfl rfl) (RqP.nil)) (by rfl)) ?_); refine asemC_end ?_; (refine wpl_step rfl ?_; (refine se_alloc (by rfl) ?_); refine asemC_end ?_; (refine wpl_step rfl ?_; (refine se_store_b (by rfl) (by rfl) (by rfl) (by rfl) ?_); refine asemC_end ?_; (refine wpl_end ?_)))))))) | (refine wpl_region (id := 2) ?_; (refine wpl_step rfl ?_; (refine su (ap_move (rq_p rfl rfl)) ?_); refine asemC_end ?_; ((refine wpl_x [0] rfl rfl (hX) (Lend.S (by first | ((repeat' first | exact RenL.nil | refine RenL.cons (by rfl) ?_); done) | fail) (by first | ((repeat' first | exact LendO.nil | refine LendO.arr (by rfl) (by (exact (renL_pure (by simp [AV.bd, bdL, bdL_append])).symm)) ?_); done) | fail) (by decide) (by rfl) (by simp [AV.bd, bdL, bdL_append]) (by repeat' (first | exact True.intro | refine And.intro ?_ ?_ | simp [AV.bd, bdL, bdL_append]))) ?_))))))
        exact bp_p rfl
      · trivial
end Go.Lg

namespace Go.Lg
open Go.Proofs
set_option linter.unusedSimpArgs false
set_option linter.unusedVariables false
attribute [local irreducible] Ap Rq asemC WP RunD Ret Gq thenA inBlockA bodyQ noGotoA RqL RqP OpP
set_option maxHeartbeats 8000000
set_option maxRecDepth 20000
attribute [local simp] psA psR tx_nil
def PR.bind {α β : Type} (p : PR α) (k : α → List Tx → PR β) : PR β := match p with
  | .err q => .err q
  | .ok x r => k x r
theorem Out17.bind {α β : Type} {b b0 b1 : Bool} {p : PR α} {k : α → List Tx → PR β} {l l0 l1 : List (Nat × Tx)} {x : α} {y : β} (h1 : Out17 b p l l0 x b0) (h2 : Out17 b0 (k x (l0.map (·.2))) l0 l1 y b1) : Out17 b (p.bind k) l l1 y b1 := by
  obtain ⟨a1, a2, a3, a4⟩ := h1
  obtain ⟨c1, c2, c3, c4⟩ := h2
  refine ⟨c1.trans a1, fun hb => ?_, fun hb hb1 => ?_, fun hb hb1 => ?_⟩
  · obtain ⟨e1, e2⟩ := a2 hb
    obtain ⟨e3, e4⟩ := c2 e1
    exact ⟨e3, e4.trans e2⟩
  · have h0 : b0 = false := flag (fun q => (c2 q).1) hb1
    rw [a3 hb h0]
    exact c3 h0 hb1
  · cases b0 with
    | true =>
      rw [a4 hb rfl, (c2 rfl).2]
      rfl
    | false =>
      rw [a3 hb rfl]
      exact c4 rfl hb1
theorem Out17.pure {α : Type} (b : Bool) (l : List (Nat × Tx)) (y : α) : Out17 b (.ok y (l.map (·.2))) l l y b := ⟨List.suffix_refl _, fun h => ⟨h, rfl⟩, fun _ _ => rfl, fun h h1 => by rw [h] at h1; cases h1⟩
theorem Out17.to {α : Type} {b b1 : Bool} {p p' : PR α} {l l1 : List (Nat × Tx)} {y : α} (h : Out17 b p l l1 y b1) (e : p = p') : Out17 b p' l l1 y b1 := e ▸ h
theorem pRule_bind (l : List Tx) : pRule l = (pName l).bind fun n r => (pTake [61] r).bind fun _ r1 => (pAltsR r1).bind fun ys r2 => (pTake [59] r2).bind fun _ r3 => .ok ⟨n, ys⟩ r3 := by
  unfold pRule PR.bind
  cases pName l with
  | err q => rfl
  | ok n r =>
    simp only
    cases pTake [61] r with
    | err q => rfl
    | ok u r1 =>
      simp only
      cases pAltsR r1 with
      | err q => rfl
      | ok ys r2 => simp only; cases pTake [59] r2 <;> rfl
theorem rule17_fn {s : ByteArray} {l : List (Nat × Tx)} (h : At s l) (hB : l.length ≤ 1000000) (b : Bool) : FnM Try.prog 31 [.ptr 0 4 0 0] [psA s l b] (post17 gruleA s b (pRule (l.map (·.2))) l) := by
  refine FnM.intro (by kernel_rfl) Try.func31 rfl rfl Try.ntmps31 (by exact Nat.le_of_ble_eq_true rfl) ?_; intro Γ hm
  (repeat' (first | refine WP.seq ?_ | refine go_n ?_ | (refine WP.regionC (id := 0) ?_; (refine se_alloc (by rfl) ?_); refine asemC_end ?_) | (refine WP.regionC (id := 1) ?_; (refine su (ap_move (rq_p rfl rfl)) ?_); (refine sc_v [0] rfl rfl (name17_fn h b) (Lend.o1 (by rfl) (by rfl) (by rfl) (by rfl) (by simp [AV.bd, bdL, bdL_append]) (by simp [AV.bd, bdL, bdL_append])) ?_; rintro r os' hlen ⟨n, l0, b0, rfl, rfl, ho⟩; simp only [psA, psR, upd, AObj.ren, renL, AV.ren, renL_pure, bdL_boolA, bdL_intA, bdL_strA, bd_boolA, bd_intA, bd_strA, apx, ap, List.length_cons, List.length_nil, List.getD_cons_zero, List.getD_cons_succ, Nat.lt_irrefl, if_true, if_false, Nat.zero_lt_succ, Nat.reduceLT, Nat.reduceAdd, intA, boolA, strA]); (refine su (ap_build (RqP.cons (rq_p rfl rfl) (RqP.nil)) (by rfl)) ?_); (refine se_alloc (by rfl) ?_); (refine se_store_b (by rfl) (by rfl) (by rfl) (by rfl) ?_); refine asemC_end ?_)))
  have h0 := h.suf ho.1
  (repeat' (first | refine WP.seq ?_ | refine go_n ?_ | (refine WP.regionC (id := 2) ?_; (refine su (ap_move (rq_p rfl rfl)) ?_); (refine sc_v [0] rfl rfl (take17_fn h0 ⟨#[61]⟩ (by decide) b0) (Lend.o1 (by rfl) (by rfl) (by rfl) (by rfl) (by simp [AV.bd, bdL, bdL_append]) (by simp [AV.bd, bdL, bdL_append])) ?_; rintro r os' hlen ⟨u, l1, b1, rfl, rfl, hp⟩; simp only [psA, psR, upd, AObj.ren, renL, AV.ren, renL_pure, bdL_boolA, bdL_intA, bdL_strA, bd_boolA, bd_intA, bd_strA, apx, ap, List.length_cons, List.length_nil, List.getD_cons_zero, List.getD_cons_succ, Nat.lt_irrefl, if_true, if_false, Nat.zero_lt_succ, Nat.reduceLT, Nat.reduceAdd, intA, boolA, strA]); refine asemC_end ?_)))
  have h1 := h0.suf hp.1
  have hle1 := hp.1.length_le
  have hle0 := ho.1.length_le
  (repeat' (first | refine WP.seq ?_ | refine WP.block ?_ | refine go_n ?_ | (refine WP.regionC (id := 3) ?_; (refine su (ap_move (rq_p rfl rfl)) ?_); (refine sc_v [0] rfl rfl (alt17_fn h1 (by omega) b1) (Lend.o1 (by rfl) (by rfl) (by rfl) (by rfl) (by simp [AV.bd, bdL, bdL_append]) (by simp [AV.bd, bdL, bdL_append])) ?_; rintro r os' hlen ⟨a0, l2, b2, rfl, rfl, hq⟩; simp only [psA, psR, ren_altA, upd, AObj.ren, renL, AV.ren, renL_pure, bdL_boolA, bdL_intA, bdL_strA, bd_boolA, bd_intA, bd_strA, apx, ap, List.length_cons, List.length_nil, List.getD_cons_zero, List.getD_cons_succ, Nat.lt_irrefl, if_true, if_false, Nat.zero_lt_succ, Nat.reduceLT, Nat.reduceAdd, intA, boolA, strA]); (refine se_lit (OpP.cons (by rfl) (OpP.nil)) (by rfl) (by rfl) (by rfl) (by rfl) (by rfl) (by rfl) ?_); (refine su (ap_assign (rq_p rfl rfl)) ?_); refine asemC_end ?_)))
  have hle2 := hq.1.length_le
  refine wp_loop (fun (σ : List GAl × List (Nat × Tx) × Bool) => σ.1.length + σ.2.1.length ≤ l.length + 1 ∧ σ.2.1 <:+ l1 ∧ (b1 = true → σ.2.2 = true ∧ σ.2.1 = l1) ∧ (b1 = false → σ.2.2 = false → finR σ.1 (σ.2.1.map (·.2)) = pAltsR (l1.map (·.2))) ∧ (b1 = false → σ.2.2 = true → pAltsR (l1.map (·.2)) = .err (σ.2.1.map (·.2)))) (fun σ => σ.2.1.length)
    (fun σ => (S 27 [(0, .ptr 0 4 0 0), (2, .ptr 1 2 0 0), (3, .ptr 2 2 0 0), (4, .ref 3 4 0 σ.1.length)] 4 [(0, some (psA s σ.2.1 σ.2.2)), (1, some (.arr 2 [.agg [strA ⟨#[]⟩, .val (.slice none 0 0)]])), (2, some (.arr 2 [.agg [strA n, .val (.slice none 0 0)]])), (3, some (.arr 4 (σ.1.map altA)))])) ([a0], l2, b2) ⟨[0, 1, 2, 3], ToR.S rfl (by repeat' (first | exact rt_nil | refine rt_r (by rfl) (by rfl) ?_ | refine rt_t (by rfl) (by rfl) ?_)) (by repeat' (first | exact ro_nil | refine ro_e (by rfl) (by rfl) ?_ | refine ro_p (by rfl) (by first | exact rfl | fail) (by first | exact bdL_map (fun _ => by simp [AV.bd, bdL, bdL_append]) _ | fail) ?_)) (by rfl) (by (rw [hm]; exact rfl)) (by rfl) (by (simp [bdT, AV.bd, bdL, bdL_append]; done)) (by repeat' (first | exact True.intro | exact rfl | refine And.intro ?_ ?_ | exact bdL_map (fun _ => by simp [AV.bd, bdL, bdL_append]) _)) (by (rw [hm]; exact Nat.le_of_ble_eq_true rfl))⟩ ⟨by simp only [List.length_cons, List.length_nil]; omega, hq.1, hq.2.1, fun hb q => ?_, fun hb q => ?_⟩ ?_
  · rw [pAltsR_eq, hq.2.2.1 hb q]
  · rw [pAltsR_eq, hq.2.2.2 hb q]
  rintro ⟨acc, l3, b3⟩ ⟨hn3, hs3, hv1, hv2, hv3⟩
  simp only at hn3 hs3 hv1 hv2 hv3 ⊢
  have h3 := h1.suf hs3
  cases hbar : (!b3 && decide (tx (hdT l3) = (⟨#[124]⟩ : ByteArray))) with
  | true =>
    simp only [Bool.and_eq_true, Bool.not_eq_true', decide_eq_true_eq] at hbar
    obtain ⟨hb3, hbar⟩ := hbar
    subst hb3
    have hb1 : b1 = false := flag (fun q => (hv1 q).1) rfl
    obtain ⟨p3, l4, hl3, hp3⟩ := hdT_cons (c := [124]) (by simp) (tx_inj (hbar.trans rfl))
    have hO3 : FnO Try.prog 25 [.ptr 0 4 0 0] [psA s l3 false] (.tup []) [some (psA s l4 false)] := by rw [hl3]; exact adv17 (hl3 ▸ h3) false
    have hs4 : l4 <:+ l1 := by rw [hl3] at hs3; exact (List.suffix_cons _ _).trans hs3
    have hlen4 : l4.length + 1 = l3.length := by rw [hl3]; rfl
    have hle4 := hs4.length_le
    have h4 := h1.suf hs4
    have hbb : finR acc (l3.map (·.2)) = match pAlt (l4.map (·.2)) with
        | .err q' => .err q'
        | .ok a q' => finR (acc ++ [a]) q' := by rw [hl3, List.map_cons, hp3]; exact finR_bar _ _
    have hnext : ∀ y l5 b5, Out17 false (pAlt (l4.map (·.2))) l4 l5 y b5 → (l5.length < l3.length ∧ (acc ++ [y]).length + l5.length ≤ l.length + 1 ∧ l5 <:+ l1 ∧ (b1 = true → b5 = true ∧ l5 = l1) ∧ (b1 = false → b5 = false → finR (acc ++ [y]) (l5.map (·.2)) = pAltsR (l1.map (·.2))) ∧ (b1 = false → b5 = true → pAltsR (l1.map (·.2)) = .err (l5.map (·.2)))) := by
      rintro y l5 b5 ⟨o1, o2, o3, o4⟩
      have hle := o1.length_le
      refine ⟨by omega, by simp only [List.length_append, List.length_cons, List.length_nil]; omega, o1.trans hs4, fun q => (by rw [hb1] at q; cases q), fun hb q => ?_, fun hb q => ?_⟩
      · rw [← hv2 hb rfl, hbb, o3 rfl q]
      · rw [← hv2 hb rfl, hbb, o4 rfl q]
    (repeat' (first | refine WP.seq ?_ | refine WP.block ?_ | refine go_n ?_ | refine WP.skip ?_ | refine WP.exit ?_ | refine go_x ?_ | refine bl_n ?_ | refine bl_x ?_ | (refine wp_cond (by rfl) (fun hc => ?_) (fun hc => ?_) <;> (try simp only [sB, ne_eq, reduceCtorEq] at hc) <;> (try (exfalso; omega))) | (refine WP.regionC (id := 4) ?_; (refine su (ap_move (rq_p rfl rfl)) ?_); (refine sc_o [0] rfl rfl (is17_fn h3 _ _) (Lend.o1 (by rfl) (by rfl) (by rfl) (by rfl) (by simp [AV.bd, bdL, bdL_append]) (by simp [AV.bd, bdL, bdL_append])) ?_; simp only [updN, newO, AObj.ren, renL, AV.ren, apx, ap, if_true, if_false, Nat.reduceLT, Nat.reduceAdd, Nat.reduceSub, sO, intA, boolA, strA, psA, psR]); refine asemC_end ?_) | (refine WP.regionC (id := 5) ?_; (refine su (ap_move (rq_p rfl rfl)) ?_); (refine sc_o [0] rfl rfl (hO3) (Lend.o1 (by rfl) (by rfl) (by rfl) (by rfl) (by simp [AV.bd, bdL, bdL_append]) (by simp [AV.bd, bdL, bdL_append])) ?_; simp only [updN, newO, AObj.ren, renL, AV.ren, apx, ap, if_true, if_false, Nat.reduceLT, Nat.reduceAdd, Nat.reduceSub, sO, intA, boolA, strA, psA, psR]); refine asemC_end ?_) | (refine WP.regionC (id := 6) ?_; (refine su (ap_move (rq_p rfl rfl)) ?_); (refine su (ap_move (rq_p rfl rfl)) ?_); (refine sc_v [0] rfl rfl (alt17_fn h4 (by omega) false) (Lend.o1 (by rfl) (by rfl) (by rfl) (by rfl) (by simp [AV.bd, bdL, bdL_append]) (by simp [AV.bd, bdL, bdL_append])) ?_; rintro r os' hlen ⟨y, l5, b5, rfl, rfl, ho'⟩; simp only [psA, psR, ren_altA, upd, AObj.ren, renL, AV.ren, renL_pure, bdL_boolA, bdL_intA, bdL_strA, bd_boolA, bd_intA, bd_strA, apx, ap, List.length_cons, List.length_nil, List.getD_cons_zero, List.getD_cons_succ, Nat.lt_irrefl, if_true, if_false, Nat.zero_lt_succ, Nat.reduceLT, Nat.reduceAdd, intA, boolA, strA]); (refine se_lit (OpP.cons (by rfl) (OpP.nil)) (by rfl) (by rfl) (by rfl) (by rfl) (by rfl) (by rfl) ?_); (refine se_app1 (by rfl) (by rfl) (by rfl) (by rfl) (by rfl) (by rfl) (by rfl) (by rfl) (by omega) ?_); (refine su (ap_assign (rq_p rfl rfl)) ?_); refine asemC_end ?_)))
    · exact ⟨(acc ++ [y], l5, b5), hnext y l5 b5 ho', ⟨[0, 1, 2, 5], ToR.S rfl (by repeat' (first | exact rt_nil | refine rt_r (by rfl) (by rfl) ?_ | refine rt_t (by rfl) (by rfl) ?_)) (by repeat' (first | exact ro_nil | refine ro_e (by rfl) (by rfl) ?_ | refine ro_p (by rfl) (by first | exact rfl | fail) (by first | exact bdL_map (fun _ => by simp [AV.bd, bdL, bdL_append]) _ | fail) ?_)) (by rfl) (by (rw [hm]; exact rfl)) (by rfl) (by (simp [bdT, AV.bd, bdL, bdL_append]; done)) (by repeat' (first | exact True.intro | exact rfl | refine And.intro ?_ ?_ | exact bdL_map (fun _ => by simp [AV.bd, bdL, bdL_append]) _)) (by (rw [hm]; exact Nat.le_of_ble_eq_true rfl))⟩⟩
    all_goals exfalso
    all_goals (exact (hc.resolve_left (by simp)) hbar)
  | false =>
    (repeat' (first | refine WP.seq ?_ | refine WP.block ?_ | refine go_n ?_ | refine WP.skip ?_ | refine WP.exit ?_ | refine go_x ?_ | refine bl_x ?_ | (refine wp_cond (by rfl) (fun hc => ?_) (fun hc => ?_) <;> (try simp only [sB, ne_eq, reduceCtorEq] at hc) <;> (try (exfalso; omega))) | (refine WP.regionC (id := 4) ?_; (refine su (ap_move (rq_p rfl rfl)) ?_); (refine sc_o [0] rfl rfl (is17_fn (by assumption) _ _) (Lend.o1 (by rfl) (by rfl) (by rfl) (by rfl) (by simp [AV.bd, bdL, bdL_append]) (by simp [AV.bd, bdL, bdL_append])) ?_; simp only [updN, newO, AObj.ren, renL, AV.ren, apx, ap, if_true, if_false, Nat.reduceLT, Nat.reduceAdd, Nat.reduceSub, sO, intA, boolA, strA, psA, psR]); refine asemC_end ?_) | (refine WP.regionC (id := 7) ?_; (refine su (ap_move (rq_p rfl rfl)) ?_); (refine sc_v [0] rfl rfl (take17_fn h3 ⟨#[59]⟩ (by decide) b3) (Lend.o1 (by rfl) (by rfl) (by rfl) (by rfl) (by simp [AV.bd, bdL, bdL_append]) (by simp [AV.bd, bdL, bdL_append])) ?_; rintro r os' hlen ⟨u', l5, b5, rfl, rfl, hr⟩; simp only [psA, psR, upd, AObj.ren, renL, AV.ren, renL_pure, bdL_boolA, bdL_intA, bdL_strA, bd_boolA, bd_intA, bd_strA, apx, ap, List.length_cons, List.length_nil, List.getD_cons_zero, List.getD_cons_succ, Nat.lt_irrefl, if_true, if_false, Nat.zero_lt_succ, Nat.reduceLT, Nat.reduceAdd, intA, boolA, strA]); refine asemC_end ?_)))
    all_goals (first | (exfalso; simp_all; done) | skip)
    have hpost : post17 gruleA s b (pRule (l.map (·.2))) l (gruleA ⟨n, acc⟩) [psA s l5 b5] := by
      have hA : Out17 b1 (pAltsR (l1.map (·.2))) l1 l3 acc b3 := by
        refine ⟨hs3, hv1, fun hb q => ?_, hv3⟩
        rw [← hv2 hb q]
        refine finR_stop fun h2 => ?_
        have : tx (hdT l3) = (⟨#[124]⟩ : ByteArray) := by unfold hdT; rw [h2]; rfl
        rw [this, q] at hbar
        revert hbar; decide
      refine ⟨⟨n, acc⟩, l5, b5, rfl, rfl, Out17.to (ho.bind (hp.bind (hA.bind (hr.bind (k := fun _ r3 => .ok (⟨n, acc⟩ : GRu) r3) (Out17.pure b5 l5 (⟨n, acc⟩ : GRu)))))) (pRule_bind _).symm⟩
    refine wp_frzm 4 hm rfl rfl rfl (bd_altA 0) (fun _ => rfl) (by rfl) ?_
    (repeat' (first | refine WP.seq ?_ | refine go_n ?_ | refine WP.ret ?_ | refine bo_r ?_ | (refine WP.regionC (id := 8) ?_; (refine su (ap_move (rq_p rfl rfl)) ?_); (refine su (ap_field_p (rq_p rfl rfl) (by rfl) (by rfl)) ?_); (refine se_store_b (by rfl) (by rfl) (by rfl) (by rfl) ?_); refine asemC_end ?_) | (refine WP.regionC (id := 9) ?_; (refine su (ap_load_pw (rq_p rfl rfl) (by rfl) (by rfl) (by rfl)) ?_); (refine se_store_b (by rfl) (by rfl) (by rfl) (by rfl) ?_); refine asemC_end ?_)))
    refine retM_L (x := gruleA ⟨n, acc⟩) (os1 := [(0, some (psA s l5 b5))]) [psA s l5 b5] (.cellT (by rfl) (by rfl) (by rfl) (by rfl) .nil) (by rfl) (by (simp [AV.bd, bdL, bdL_append]; done)) ⟨[0], ToR.S rfl (by repeat' (exact rt_nil)) (by repeat' (first | exact ro_nil | refine ro_e (by rfl) (by rfl) ?_)) (by rfl) (by rfl) (by rfl) (by (simp [bdT, AV.bd, bdL, bdL_append]; done)) (by repeat' (first | exact True.intro | exact rfl | refine And.intro ?_ ?_)) (by exact Nat.le_of_ble_eq_true rfl)⟩ (by rfl) ?_
    exact hpost
end Go.Lg

namespace Go.Lg
open Go.Proofs
set_option linter.unusedSimpArgs false
set_option linter.unusedVariables false
attribute [local irreducible] Ap Rq asemC WP RunD Ret Gq thenA inBlockA bodyQ noGotoA RqL RqP OpP
set_option maxHeartbeats 8000000
set_option maxRecDepth 20000
attribute [local simp] psA psR tx_nil
theorem pLevel_bind (a : Int) (l : List Tx) : pLevel a l = (pName l).bind fun n r => (pTake [59] (pNames r).2).bind fun _ q => .ok ⟨a, n :: (pNames r).1⟩ q := by
  unfold pLevel PR.bind
  cases pName l with
  | err q => rfl
  | ok n r => simp only; cases pTake [59] (pNames r).2 <;> rfl
theorem assoc_cases {t : Tx} {a : Int} (h : assocOf t = some a) : (a = 1 ∧ tx t = (⟨#[108, 101, 102, 116]⟩ : ByteArray)) ∨ (a = 2 ∧ tx t = (⟨#[114, 105, 103, 104, 116]⟩ : ByteArray)) ∨ (a = 3 ∧ tx t = (⟨#[110, 111, 110, 101]⟩ : ByteArray)) := by
  unfold assocOf at h
  split at h
  · rename_i e; injection h with h; exact .inl ⟨h.symm, by rw [e]; rfl⟩
  · split at h
    · rename_i e; injection h with h; exact .inr (.inl ⟨h.symm, by rw [e]; rfl⟩)
    · split at h
      · rename_i e; injection h with h; exact .inr (.inr ⟨h.symm, by rw [e]; rfl⟩)
      · cases h
theorem level17_fn {s : ByteArray} {p : Nat × Tx} {l : List (Nat × Tx)} (h : At s (p :: l)) (hB : l.length ≤ 1000000) {a : Int} (ha : assocOf p.2 = some a) : FnM Try.prog 29 [.ptr 0 4 0 0] [psA s (p :: l) false] (post17 levelA s false (pLevel a (l.map (·.2))) l) := by
  have hO := adv17 h false
  have hA := h.tail
  have hnm := name17_fn hA false
  have hpt : hdT (p :: l) = p.2 := rfl
  generalize hL : p :: l = L at *
  refine FnM.intro (by kernel_rfl) Try.func29 rfl rfl Try.ntmps29 (by exact Nat.le_of_ble_eq_true rfl) ?_; intro Γ hm
  rcases assoc_cases ha with ⟨rfl, ht⟩ | ⟨rfl, ht⟩ | ⟨rfl, ht⟩
  · rw [← hpt] at ht
    (repeat' (first | refine WP.seq ?_ | refine WP.block ?_ | refine go_n ?_ | refine WP.skip ?_ | (refine wp_cond (by rfl) (fun hc => ?_) (fun hc => ?_) <;> (try simp only [sB, ne_eq, reduceCtorEq] at hc) <;> (try (exfalso; omega))) | (refine WP.regionC (id := 0) ?_; (refine se_alloc (by rfl) ?_); refine asemC_end ?_) | (refine WP.regionC (id := 1) ?_; (refine su (ap_build (RqP.cons (rq_p rfl rfl) (RqP.nil)) (by rfl)) ?_); (refine se_alloc (by rfl) ?_); (refine se_store_b (by rfl) (by rfl) (by rfl) (by rfl) ?_); refine asemC_end ?_) | (refine WP.regionC (id := 2) ?_; (refine su (ap_move (rq_p rfl rfl)) ?_); (refine sc_o [0] rfl rfl (is17_fn (by assumption) _ _) (Lend.o1 (by rfl) (by rfl) (by rfl) (by rfl) (by simp [AV.bd, bdL, bdL_append]) (by simp [AV.bd, bdL, bdL_append])) ?_; simp only [updN, newO, AObj.ren, renL, AV.ren, apx, ap, if_true, if_false, Nat.reduceLT, Nat.reduceAdd, Nat.reduceSub, sO, intA, boolA, strA, psA, psR]); refine asemC_end ?_) | (refine WP.regionC (id := 3) ?_; (refine su (ap_field_p (rq_p rfl rfl) (by rfl) (by rfl)) ?_); (refine se_store_b (by rfl) (by rfl) (by rfl) (by rfl) ?_); refine asemC_end ?_) | (refine WP.regionC (id := 4) ?_; (refine su (ap_move (rq_p rfl rfl)) ?_); (refine sc_o [0] rfl rfl (is17_fn (by assumption) _ _) (Lend.o1 (by rfl) (by rfl) (by rfl) (by rfl) (by simp [AV.bd, bdL, bdL_append]) (by simp [AV.bd, bdL, bdL_append])) ?_; simp only [updN, newO, AObj.ren, renL, AV.ren, apx, ap, if_true, if_false, Nat.reduceLT, Nat.reduceAdd, Nat.reduceSub, sO, intA, boolA, strA, psA, psR]); refine asemC_end ?_) | (refine WP.regionC (id := 6) ?_; (refine su (ap_move (rq_p rfl rfl)) ?_); (refine sc_o [0] rfl rfl (hO) (Lend.o1 (by rfl) (by rfl) (by rfl) (by rfl) (by simp [AV.bd, bdL, bdL_append]) (by simp [AV.bd, bdL, bdL_append])) ?_; simp only [updN, newO, AObj.ren, renL, AV.ren, apx, ap, if_true, if_false, Nat.reduceLT, Nat.reduceAdd, Nat.reduceSub, sO, intA, boolA, strA, psA, psR]); refine asemC_end ?_) | (refine WP.regionC (id := 7) ?_; (refine su (ap_move (rq_p rfl rfl)) ?_); (refine sc_v [0] rfl rfl (hnm) (Lend.o1 (by rfl) (by rfl) (by rfl) (by rfl) (by simp [AV.bd, bdL, bdL_append]) (by simp [AV.bd, bdL, bdL_append])) ?_; rintro r os' hlen ⟨n, l0, b0, rfl, rfl, ho⟩; simp only [psA, psR, upd, AObj.ren, renL, AV.ren, renL_pure, bdL_boolA, bdL_intA, bdL_strA, bd_boolA, bd_intA, bd_strA, apx, ap, List.length_cons, List.length_nil, List.getD_cons_zero, List.getD_cons_succ, Nat.lt_irrefl, if_true, if_false, Nat.zero_lt_succ, Nat.reduceLT, Nat.reduceAdd, intA, boolA, strA]); (refine se_lit (OpP.cons (by rfl) (OpP.nil)) (by rfl) (by rfl) (by rfl) (by rfl) (by rfl) (by rfl) ?_); (refine su (ap_assign (rq_p rfl rfl)) ?_); refine asemC_end ?_)))
    all_goals (first | (exfalso; simp_all; done) | skip)
    have h0 := hA.suf ho.1
    have hle0 := ho.1.length_le
    refine wp_loop (fun (σ : List ByteArray × List (Nat × Tx)) => σ.1.length + σ.2.length ≤ l.length + 1 ∧ σ.2 <:+ l0 ∧ (b0 = true → σ.2 = l0) ∧ (b0 = false → σ.1 ++ (pNames (σ.2.map (·.2))).1 = n :: (pNames (l0.map (·.2))).1 ∧ (pNames (σ.2.map (·.2))).2 = (pNames (l0.map (·.2))).2)) (fun σ => σ.2.length)
      (fun σ => (S 29 [(0, .ptr 0 4 0 0), (2, .ptr 1 2 0 0), (3, .ptr 2 2 0 0), (4, .ref 3 1 0 σ.1.length)] 4 [(0, some (psA s σ.2 b0)), (1, some (.arr 2 [.agg [intA 0, .val (.slice none 0 0)]])), (2, some (.arr 2 [.agg [intA 1, .val (.slice none 0 0)]])), (3, some (.arr 1 (σ.1.map strA)))])) ([n], l0) ⟨[0, 1, 2, 3], ToR.S rfl (by repeat' (first | exact rt_nil | refine rt_r (by rfl) (by rfl) ?_ | refine rt_t (by rfl) (by rfl) ?_)) (by repeat' (first | exact ro_nil | refine ro_e (by rfl) (by rfl) ?_)) (by rfl) (by (rw [hm]; exact rfl)) (by rfl) (by (simp [bdT, AV.bd, bdL, bdL_append]; done)) (by repeat' (first | exact True.intro | exact rfl | refine And.intro ?_ ?_)) (by (rw [hm]; exact Nat.le_of_ble_eq_true rfl))⟩ ⟨by simp only [List.length_cons, List.length_nil]; omega, List.suffix_refl _, fun _ => rfl, fun _ => ⟨rfl, rfl⟩⟩ ?_
    rintro ⟨acc, l2⟩ ⟨hn2, hs2, hv1, hv2⟩
    simp only at hn2 hs2 hv1 hv2 ⊢
    have h2 := h0.suf hs2
    cases hgo : (!b0 && isN (l2.map (·.2))) with
    | true =>
      simp only [Bool.and_eq_true, Bool.not_eq_true'] at hgo
      obtain ⟨hb0, hnn⟩ := hgo
      subst hb0
      obtain ⟨p3, l3, hl3⟩ : ∃ p3 l3, l2 = p3 :: l3 := by
        cases l2 with
        | nil => cases hnn
        | cons p3 l3 => exact ⟨_, _, rfl⟩
      have hnm3 : nmT p3.2 = true := by rw [hl3] at hnn; exact hnn
      have hpn : pNames (l2.map (·.2)) = (tx p3.2 :: (pNames (l3.map (·.2))).1, (pNames (l3.map (·.2))).2) := by rw [hl3, List.map_cons, pNames, if_pos hnm3]
      have hnext : ∀ y l5 b5, Out17 false (pName (l2.map (·.2))) l2 l5 y b5 → b5 = false ∧ (l5.length < l2.length ∧ (acc ++ [y]).length + l5.length ≤ l.length + 1 ∧ l5 <:+ l0 ∧ (false = true → l5 = l0) ∧ (false = false → (acc ++ [y]) ++ (pNames (l5.map (·.2))).1 = n :: (pNames (l0.map (·.2))).1 ∧ (pNames (l5.map (·.2))).2 = (pNames (l0.map (·.2))).2)) := by
        rintro y l5 b5 ⟨o1, o2, o3, o4⟩
        have hok : pName (l2.map (·.2)) = .ok (tx p3.2) (l3.map (·.2)) := by rw [hl3, List.map_cons, pName, if_pos hnm3]
        cases b5 with
        | true => have := o4 rfl rfl; rw [hok] at this; cases this
        | false =>
          have hq := o3 rfl rfl
          rw [hok] at hq
          injection hq with e1 e2
          have hlt : l5.length = l3.length := by have := congrArg List.length e2; simpa using this.symm
          have hl23 : l2.length = l3.length + 1 := by rw [hl3]; rfl
          refine ⟨rfl, by omega, by simp only [List.length_append, List.length_cons, List.length_nil]; omega, o1.trans hs2, fun q => (by cases q), fun _ => ⟨?_, ?_⟩⟩
          · rw [← e2, ← e1, ← (hv2 rfl).1, hpn]; simp
          · rw [← e2, ← (hv2 rfl).2, hpn]
      (repeat' (first | refine WP.seq ?_ | refine WP.block ?_ | refine go_n ?_ | refine WP.skip ?_ | refine WP.exit ?_ | refine go_x ?_ | refine bl_n ?_ | refine bl_x ?_ | (refine wp_cond (by rfl) (fun hc => ?_) (fun hc => ?_) <;> (try simp only [sB, ne_eq, reduceCtorEq] at hc) <;> (try (exfalso; omega))) | (refine WP.regionC (id := 8) ?_; (refine su (ap_move (rq_p rfl rfl)) ?_); (refine sc_o [0] rfl rfl (isname17_fn (by assumption) _) (Lend.o1 (by rfl) (by rfl) (by rfl) (by rfl) (by simp [AV.bd, bdL, bdL_append]) (by simp [AV.bd, bdL, bdL_append])) ?_; simp only [updN, newO, AObj.ren, renL, AV.ren, apx, ap, if_true, if_false, Nat.reduceLT, Nat.reduceAdd, Nat.reduceSub, sO, intA, boolA, strA, psA, psR]); refine asemC_end ?_) | (refine WP.regionC (id := 9) ?_; (refine su (ap_move (rq_p rfl rfl)) ?_); (refine su (ap_move (rq_p rfl rfl)) ?_); (refine sc_v [0] rfl rfl (name17_fn h2 false) (Lend.o1 (by rfl) (by rfl) (by rfl) (by rfl) (by simp [AV.bd, bdL, bdL_append]) (by simp [AV.bd, bdL, bdL_append])) ?_; rintro r os' hlen ⟨y, l5, b5, rfl, rfl, ho'⟩; simp only [psA, psR, upd, AObj.ren, renL, AV.ren, renL_pure, bdL_boolA, bdL_intA, bdL_strA, bd_boolA, bd_intA, bd_strA, apx, ap, List.length_cons, List.length_nil, List.getD_cons_zero, List.getD_cons_succ, Nat.lt_irrefl, if_true, if_false, Nat.zero_lt_succ, Nat.reduceLT, Nat.reduceAdd, intA, boolA, strA]); (refine se_lit (OpP.cons (by rfl) (OpP.nil)) (by rfl) (by rfl) (by rfl) (by rfl) (by rfl) (by rfl) ?_); (refine se_app1 (by rfl) (by rfl) (by rfl) (by rfl) (by rfl) (by rfl) (by rfl) (by rfl) (by omega) ?_); (refine su (ap_assign (rq_p rfl rfl)) ?_); refine asemC_end ?_)))
      · obtain ⟨hb5, hnx⟩ := hnext y l5 b5 ho'
        subst hb5
        exact ⟨(acc ++ [y], l5), by simpa using hnx, ⟨[0, 1, 2, 5], ToR.S rfl (by repeat' (first | exact rt_nil | refine rt_r (by rfl) (by rfl) ?_ | refine rt_t (by rfl) (by rfl) ?_)) (by repeat' (first | exact ro_nil | refine ro_e (by rfl) (by rfl) ?_ | refine ro_p (by rfl) (by first | exact rfl | fail) (by first | exact bdL_map (fun _ => by exact rfl) _ | fail) ?_)) (by rfl) (by (rw [hm]; exact rfl)) (by rfl) (by (simp [bdT, AV.bd, bdL, bdL_append]; done)) (by repeat' (first | exact True.intro | exact rfl | refine And.intro ?_ ?_ | exact bdL_map (fun _ => by exact rfl) _)) (by (rw [hm]; exact Nat.le_of_ble_eq_true rfl))⟩⟩
      all_goals (exfalso; simp_all; done)
    | false =>
      (repeat' (first | refine WP.seq ?_ | refine WP.block ?_ | refine go_n ?_ | refine WP.skip ?_ | refine WP.exit ?_ | refine go_x ?_ | refine bl_x ?_ | (refine wp_cond (by rfl) (fun hc => ?_) (fun hc => ?_) <;> (try simp only [sB, ne_eq, reduceCtorEq] at hc) <;> (try (exfalso; omega))) | (refine WP.regionC (id := 8) ?_; (refine su (ap_move (rq_p rfl rfl)) ?_); (refine sc_o [0] rfl rfl (isname17_fn (by assumption) _) (Lend.o1 (by rfl) (by rfl) (by rfl) (by rfl) (by simp [AV.bd, bdL, bdL_append]) (by simp [AV.bd, bdL, bdL_append])) ?_; simp only [updN, newO, AObj.ren, renL, AV.ren, apx, ap, if_true, if_false, Nat.reduceLT, Nat.reduceAdd, Nat.reduceSub, sO, intA, boolA, strA, psA, psR]); refine asemC_end ?_) | (refine WP.regionC (id := 10) ?_; (refine su (ap_move (rq_p rfl rfl)) ?_); (refine sc_v [0] rfl rfl (take17_fn h2 ⟨#[59]⟩ (by decide) b0) (Lend.o1 (by rfl) (by rfl) (by rfl) (by rfl) (by simp [AV.bd, bdL, bdL_append]) (by simp [AV.bd, bdL, bdL_append])) ?_; rintro r os' hlen ⟨u', l5, b5, rfl, rfl, hr⟩; simp only [psA, psR, upd, AObj.ren, renL, AV.ren, renL_pure, bdL_boolA, bdL_intA, bdL_strA, bd_boolA, bd_intA, bd_strA, apx, ap, List.length_cons, List.length_nil, List.getD_cons_zero, List.getD_cons_succ, Nat.lt_irrefl, if_true, if_false, Nat.zero_lt_succ, Nat.reduceLT, Nat.reduceAdd, intA, boolA, strA]); refine asemC_end ?_)))
      all_goals (first | (exfalso; simp_all; done) | skip)
      have hpost : post17 levelA s false (pLevel 1 (l.map (·.2))) l (levelA ⟨1, acc⟩) [psA s l5 b5] := by
        have hB2 : Out17 b0 ((pTake [59] (pNames (l0.map (·.2))).2).bind fun _ q => .ok (⟨1, n :: (pNames (l0.map (·.2))).1⟩ : GLe) q) l0 l5 ⟨1, acc⟩ b5 := by
          cases b0 with
          | true =>
            have e := hv1 rfl
            subst e
            obtain ⟨r1, r2, r3, r4⟩ := hr
            exact ⟨r1, r2, fun q => (by cases q), fun q => (by cases q)⟩
          | false =>
            have hnf : isN (l2.map (·.2)) = false := by simpa using hgo
            have hpn : pNames (l2.map (·.2)) = ([], l2.map (·.2)) := by
              cases l2 with
              | nil => rfl
              | cons p3 l3 => have h3 : nmT p3.2 = false := hnf; simp only [List.map_cons, pNames, h3, Bool.false_eq_true, if_false]
            obtain ⟨e1, e2⟩ := hv2 rfl
            rw [hpn] at e1 e2
            simp only [List.append_nil] at e1
            rw [← e2, ← e1]
            have hx := hr.bind (k := fun _ r3 => .ok (⟨1, acc⟩ : GLe) r3) (Out17.pure b5 l5 (⟨1, acc⟩ : GLe))
            obtain ⟨r1, r2, r3, r4⟩ := hx
            exact ⟨r1.trans hs2, fun q => (by cases q), r3, r4⟩
        exact ⟨⟨1, acc⟩, l5, b5, rfl, rfl, Out17.to (ho.bind hB2) (pLevel_bind _ _).symm⟩
      refine wp_frzm 4 hm rfl rfl rfl (fun x => rfl) (fun _ => rfl) (by rfl) ?_
      (repeat' (first | refine WP.seq ?_ | refine go_n ?_ | refine WP.ret ?_ | refine bo_r ?_ | (refine WP.regionC (id := 11) ?_; (refine su (ap_move (rq_p rfl rfl)) ?_); (refine su (ap_field_p (rq_p rfl rfl) (by rfl) (by rfl)) ?_); (refine se_store_b (by rfl) (by rfl) (by rfl) (by rfl) ?_); refine asemC_end ?_) | (refine WP.regionC (id := 12) ?_; (refine su (ap_load_pw (rq_p rfl rfl) (by rfl) (by rfl) (by rfl)) ?_); (refine se_store_b (by rfl) (by rfl) (by rfl) (by rfl) ?_); refine asemC_end ?_)))
      refine retM_L (x := levelA ⟨1, acc⟩) (os1 := [(0, some (psA s l5 b5))]) [psA s l5 b5] (.cellT (by rfl) (by rfl) (by rfl) (by rfl) .nil) (by rfl) (by (simp [AV.bd, bdL, bdL_append]; done)) ⟨[0], ToR.S rfl (by repeat' (exact rt_nil)) (by repeat' (first | exact ro_nil | refine ro_e (by rfl) (by rfl) ?_)) (by rfl) (by rfl) (by rfl) (by (simp [bdT, AV.bd, bdL, bdL_append]; done)) (by repeat' (first | exact True.intro | exact rfl | refine And.intro ?_ ?_)) (by exact Nat.le_of_ble_eq_true rfl)⟩ (by rfl) ?_
      exact hpost
  · rw [← hpt] at ht
    (repeat' (first | refine WP.seq ?_ | refine WP.block ?_ | refine go_n ?_ | refine WP.skip ?_ | (refine wp_cond (by rfl) (fun hc => ?_) (fun hc => ?_) <;> (try simp only [sB, ne_eq, reduceCtorEq] at hc) <;> (try (exfalso; omega))) | (refine WP.regionC (id := 0) ?_; (refine se_alloc (by rfl) ?_); refine asemC_end ?_) | (refine WP.regionC (id := 1) ?_; (refine su (ap_build (RqP.cons (rq_p rfl rfl) (RqP.nil)) (by rfl)) ?_); (refine se_alloc (by rfl) ?_); (refine se_store_b (by rfl) (by rfl) (by rfl) (by rfl) ?_); refine asemC_end ?_) | (refine WP.regionC (id := 2) ?_; (refine su (ap_move (rq_p rfl rfl)) ?_); (refine sc_o [0] rfl rfl (is17_fn (by assumption) _ _) (Lend.o1 (by rfl) (by rfl) (by rfl) (by rfl) (by simp [AV.bd, bdL, bdL_append]) (by simp [AV.bd, bdL, bdL_append])) ?_; simp only [updN, newO, AObj.ren, renL, AV.ren, apx, ap, if_true, if_false, Nat.reduceLT, Nat.reduceAdd, Nat.reduceSub, sO, intA, boolA, strA, psA, psR]); refine asemC_end ?_) | (refine WP.regionC (id := 4) ?_; (refine su (ap_move (rq_p rfl rfl)) ?_); (refine sc_o [0] rfl rfl (is17_fn (by assumption) _ _) (Lend.o1 (by rfl) (by rfl) (by rfl) (by rfl) (by simp [AV.bd, bdL, bdL_append]) (by simp [AV.bd, bdL, bdL_append])) ?_; simp only [updN, newO, AObj.ren, renL, AV.ren, apx, ap, if_true, if_false, Nat.reduceLT, Nat.reduceAdd, Nat.reduceSub, sO, intA, boolA, strA, psA, psR]); refine asemC_end ?_) | (refine WP.regionC (id := 5) ?_; (refine su (ap_field_p (rq_p rfl rfl) (by rfl) (by rfl)) ?_); (refine se_store_b (by rfl) (by rfl) (by rfl) (by rfl) ?_); refine asemC_end ?_) | (refine WP.regionC (id := 6) ?_; (refine su (ap_move (rq_p rfl rfl)) ?_); (refine sc_o [0] rfl rfl (hO) (Lend.o1 (by rfl) (by rfl) (by rfl) (by rfl) (by simp [AV.bd, bdL, bdL_append]) (by simp [AV.bd, bdL, bdL_append])) ?_; simp only [updN, newO, AObj.ren, renL, AV.ren, apx, ap, if_true, if_false, Nat.reduceLT, Nat.reduceAdd, Nat.reduceSub, sO, intA, boolA, strA, psA, psR]); refine asemC_end ?_) | (refine WP.regionC (id := 7) ?_; (refine su (ap_move (rq_p rfl rfl)) ?_); (refine sc_v [0] rfl rfl (hnm) (Lend.o1 (by rfl) (by rfl) (by rfl) (by rfl) (by simp [AV.bd, bdL, bdL_append]) (by simp [AV.bd, bdL, bdL_append])) ?_; rintro r os' hlen ⟨n, l0, b0, rfl, rfl, ho⟩; simp only [psA, psR, upd, AObj.ren, renL, AV.ren, renL_pure, bdL_boolA, bdL_intA, bdL_strA, bd_boolA, bd_intA, bd_strA, apx, ap, List.length_cons, List.length_nil, List.getD_cons_zero, List.getD_cons_succ, Nat.lt_irrefl, if_true, if_false, Nat.zero_lt_succ, Nat.reduceLT, Nat.reduceAdd, intA, boolA, strA]); (refine se_lit (OpP.cons (by rfl) (OpP.nil)) (by rfl) (by rfl) (by rfl) (by rfl) (by rfl) (by rfl) ?_); (refine su (ap_assign (rq_p rfl rfl)) ?_); refine asemC_end ?_)))
    all_goals (first | (exfalso; simp_all; done) | skip)
    have h0 := hA.suf ho.1
    have hle0 := ho.1.length_le
    refine wp_loop (fun (σ : List ByteArray × List (Nat × Tx)) => σ.1.length + σ.2.length ≤ l.length + 1 ∧ σ.2 <:+ l0 ∧ (b0 = true → σ.2 = l0) ∧ (b0 = false → σ.1 ++ (pNames (σ.2.map (·.2))).1 = n :: (pNames (l0.map (·.2))).1 ∧ (pNames (σ.2.map (·.2))).2 = (pNames (l0.map (·.2))).2)) (fun σ => σ.2.length)
      (fun σ => (S 29 [(0, .ptr 0 4 0 0), (2, .ptr 1 2 0 0), (3, .ptr 2 2 0 0), (4, .ref 3 1 0 σ.1.length)] 4 [(0, some (psA s σ.2 b0)), (1, some (.arr 2 [.agg [intA 0, .val (.slice none 0 0)]])), (2, some (.arr 2 [.agg [intA 2, .val (.slice none 0 0)]])), (3, some (.arr 1 (σ.1.map strA)))])) ([n], l0) ⟨[0, 1, 2, 3], ToR.S rfl (by repeat' (first | exact rt_nil | refine rt_r (by rfl) (by rfl) ?_ | refine rt_t (by rfl) (by rfl) ?_)) (by repeat' (first | exact ro_nil | refine ro_e (by rfl) (by rfl) ?_)) (by rfl) (by (rw [hm]; exact rfl)) (by rfl) (by (simp [bdT, AV.bd, bdL, bdL_append]; done)) (by repeat' (first | exact True.intro | exact rfl | refine And.intro ?_ ?_)) (by (rw [hm]; exact Nat.le_of_ble_eq_true rfl))⟩ ⟨by simp only [List.length_cons, List.length_nil]; omega, List.suffix_refl _, fun _ => rfl, fun _ => ⟨rfl, rfl⟩⟩ ?_
    rintro ⟨acc, l2⟩ ⟨hn2, hs2, hv1, hv2⟩
    simp only at hn2 hs2 hv1 hv2 ⊢
    have h2 := h0.suf hs2
    cases hgo : (!b0 && isN (l2.map (·.2))) with
    | true =>
      simp only [Bool.and_eq_true, Bool.not_eq_true'] at hgo
      obtain ⟨hb0, hnn⟩ := hgo
      subst hb0
      obtain ⟨p3, l3, hl3⟩ : ∃ p3 l3, l2 = p3 :: l3 := by
        cases l2 with
        | nil => cases hnn
        | cons p3 l3 => exact ⟨_, _, rfl⟩
      have hnm3 : nmT p3.2 = true := by rw [hl3] at hnn; exact hnn
      have hpn : pNames (l2.map (·.2)) = (tx p3.2 :: (pNames (l3.map (·.2))).1, (pNames (l3.map (·.2))).2) := by rw [hl3, List.map_cons, pNames, if_pos hnm3]
      have hnext : ∀ y l5 b5, Out17 false (pName (l2.map (·.2))) l2 l5 y b5 → b5 = false ∧ (l5.length < l2.length ∧ (acc ++ [y]).length + l5.length ≤ l.length + 1 ∧ l5 <:+ l0 ∧ (false = true → l5 = l0) ∧ (false = false → (acc ++ [y]) ++ (pNames (l5.map (·.2))).1 = n :: (pNames (l0.map (·.2))).1 ∧ (pNames (l5.map (·.2))).2 = (pNames (l0.map (·.2))).2)) := by
        rintro y l5 b5 ⟨o1, o2, o3, o4⟩
        have hok : pName (l2.map (·.2)) = .ok (tx p3.2) (l3.map (·.2)) := by rw [hl3, List.map_cons, pName, if_pos hnm3]
        cases b5 with
        | true => have := o4 rfl rfl; rw [hok] at this; cases this
        | false =>
          have hq := o3 rfl rfl
          rw [hok] at hq
          injection hq with e1 e2
          have hlt : l5.length = l3.length := by have := congrArg List.length e2; simpa using this.symm
          have hl23 : l2.length = l3.length + 1 := by rw [hl3]; rfl
          refine ⟨rfl, by omega, by simp only [List.length_append, List.length_cons, List.length_nil]; omega, o1.trans hs2, fun q => (by cases q), fun _ => ⟨?_, ?_⟩⟩
          · rw [← e2, ← e1, ← (hv2 rfl).1, hpn]; simp
          · rw [← e2, ← (hv2 rfl).2, hpn]
      (repeat' (first | refine WP.seq ?_ | refine WP.block ?_ | refine go_n ?_ | refine WP.skip ?_ | refine WP.exit ?_ | refine go_x ?_ | refine bl_n ?_ | refine bl_x ?_ | (refine wp_cond (by rfl) (fun hc => ?_) (fun hc => ?_) <;> (try simp only [sB, ne_eq, reduceCtorEq] at hc) <;> (try (exfalso; omega))) | (refine WP.regionC (id := 8) ?_; (refine su (ap_move (rq_p rfl rfl)) ?_); (refine sc_o [0] rfl rfl (isname17_fn (by assumption) _) (Lend.o1 (by rfl) (by rfl) (by rfl) (by rfl) (by simp [AV.bd, bdL, bdL_append]) (by simp [AV.bd, bdL, bdL_append])) ?_; simp only [updN, newO, AObj.ren, renL, AV.ren, apx, ap, if_true, if_false, Nat.reduceLT, Nat.reduceAdd, Nat.reduceSub, sO, intA, boolA, strA, psA, psR]); refine asemC_end ?_) | (refine WP.regionC (id := 9) ?_; (refine su (ap_move (rq_p rfl rfl)) ?_); (refine su (ap_move (rq_p rfl rfl)) ?_); (refine sc_v [0] rfl rfl (name17_fn h2 false) (Lend.o1 (by rfl) (by rfl) (by rfl) (by rfl) (by simp [AV.bd, bdL, bdL_append]) (by simp [AV.bd, bdL, bdL_append])) ?_; rintro r os' hlen ⟨y, l5, b5, rfl, rfl, ho'⟩; simp only [psA, psR, upd, AObj.ren, renL, AV.ren, renL_pure, bdL_boolA, bdL_intA, bdL_strA, bd_boolA, bd_intA, bd_strA, apx, ap, List.length_cons, List.length_nil, List.getD_cons_zero, List.getD_cons_succ, Nat.lt_irrefl, if_true, if_false, Nat.zero_lt_succ, Nat.reduceLT, Nat.reduceAdd, intA, boolA, strA]); (refine se_lit (OpP.cons (by rfl) (OpP.nil)) (by rfl) (by rfl) (by rfl) (by rfl) (by rfl) (by rfl) ?_); (refine se_app1 (by rfl) (by rfl) (by rfl) (by rfl) (by rfl) (by rfl) (by rfl) (by rfl) (by omega) ?_); (refine su (ap_assign (rq_p rfl rfl)) ?_); refine asemC_end ?_)))
      · obtain ⟨hb5, hnx⟩ := hnext y l5 b5 ho'
        subst hb5
        exact ⟨(acc ++ [y], l5), by simpa using hnx, ⟨[0, 1, 2, 5], ToR.S rfl (by repeat' (first | exact rt_nil | refine rt_r (by rfl) (by rfl) ?_ | refine rt_t (by rfl) (by rfl) ?_)) (by repeat' (first | exact ro_nil | refine ro_e (by rfl) (by rfl) ?_ | refine ro_p (by rfl) (by first | exact rfl | fail) (by first | exact bdL_map (fun _ => by exact rfl) _ | fail) ?_)) (by rfl) (by (rw [hm]; exact rfl)) (by rfl) (by (simp [bdT, AV.bd, bdL, bdL_append]; done)) (by repeat' (first | exact True.intro | exact rfl | refine And.intro ?_ ?_ | exact bdL_map (fun _ => by exact rfl) _)) (by (rw [hm]; exact Nat.le_of_ble_eq_true rfl))⟩⟩
      all_goals (exfalso; simp_all; done)
    | false =>
      (repeat' (first | refine WP.seq ?_ | refine WP.block ?_ | refine go_n ?_ | refine WP.skip ?_ | refine WP.exit ?_ | refine go_x ?_ | refine bl_x ?_ | (refine wp_cond (by rfl) (fun hc => ?_) (fun hc => ?_) <;> (try simp only [sB, ne_eq, reduceCtorEq] at hc) <;> (try (exfalso; omega))) | (refine WP.regionC (id := 8) ?_; (refine su (ap_move (rq_p rfl rfl)) ?_); (refine sc_o [0] rfl rfl (isname17_fn (by assumption) _) (Lend.o1 (by rfl) (by rfl) (by rfl) (by rfl) (by simp [AV.bd, bdL, bdL_append]) (by simp [AV.bd, bdL, bdL_append])) ?_; simp only [updN, newO, AObj.ren, renL, AV.ren, apx, ap, if_true, if_false, Nat.reduceLT, Nat.reduceAdd, Nat.reduceSub, sO, intA, boolA, strA, psA, psR]); refine asemC_end ?_) | (refine WP.regionC (id := 10) ?_; (refine su (ap_move (rq_p rfl rfl)) ?_); (refine sc_v [0] rfl rfl (take17_fn h2 ⟨#[59]⟩ (by decide) b0) (Lend.o1 (by rfl) (by rfl) (by rfl) (by rfl) (by simp [AV.bd, bdL, bdL_append]) (by simp [AV.bd, bdL, bdL_append])) ?_; rintro r os' hlen ⟨u', l5, b5, rfl, rfl, hr⟩; simp only [psA, psR, upd, AObj.ren, renL, AV.ren, renL_pure, bdL_boolA, bdL_intA, bdL_strA, bd_boolA, bd_intA, bd_strA, apx, ap, List.length_cons, List.length_nil, List.getD_cons_zero, List.getD_cons_succ, Nat.lt_irrefl, if_true, if_false, Nat.zero_lt_succ, Nat.reduceLT, Nat.reduceAdd, intA, boolA, strA]); refine asemC_end ?_)))
      all_goals (first | (exfalso; simp_all; done) | skip)
      have hpost : post17 levelA s false (pLevel 2 (l.map (·.2))) l (levelA ⟨2, acc⟩) [psA s l5 b5] := by
        have hB2 : Out17 b0 ((pTake [59] (pNames (l0.map (·.2))).2).bind fun _ q => .ok (⟨2, n :: (pNames (l0.map (·.2))).1⟩ : GLe) q) l0 l5 ⟨2, acc⟩ b5 := by
          cases b0 with
          | true =>
            have e := hv1 rfl
            subst e
            obtain ⟨r1, r2, r3, r4⟩ := hr
            exact ⟨r1, r2, fun q => (by cases q), fun q => (by cases q)⟩
          | false =>
            have hnf : isN (l2.map (·.2)) = false := by simpa using hgo
            have hpn : pNames (l2.map (·.2)) = ([], l2.map (·.2)) := by
              cases l2 with
              | nil => rfl
              | cons p3 l3 => have h3 : nmT p3.2 = false := hnf; simp only [List.map_cons, pNames, h3, Bool.false_eq_true, if_false]
            obtain ⟨e1, e2⟩ := hv2 rfl
            rw [hpn] at e1 e2
            simp only [List.append_nil] at e1
            rw [← e2, ← e1]
            have hx := hr.bind (k := fun _ r3 => .ok (⟨2, acc⟩ : GLe) r3) (Out17.pure b5 l5 (⟨2, acc⟩ : GLe))
            obtain ⟨r1, r2, r3, r4⟩ := hx
            exact ⟨r1.trans hs2, fun q => (by cases q), r3, r4⟩
        exact ⟨⟨2, acc⟩, l5, b5, rfl, rfl, Out17.to (ho.bind hB2) (pLevel_bind _ _).symm⟩
      refine wp_frzm 4 hm rfl rfl rfl (fun x => rfl) (fun _ => rfl) (by rfl) ?_
      (repeat' (first | refine WP.seq ?_ | refine go_n ?_ | refine WP.ret ?_ | refine bo_r ?_ | (refine WP.regionC (id := 11) ?_; (refine su (ap_move (rq_p rfl rfl)) ?_); (refine su (ap_field_p (rq_p rfl rfl) (by rfl) (by rfl)) ?_); (refine se_store_b (by rfl) (by rfl) (by rfl) (by rfl) ?_); refine asemC_end ?_) | (refine WP.regionC (id := 12) ?_; (refine su (ap_load_pw (rq_p rfl rfl) (by rfl) (by rfl) (by rfl)) ?_); (refine se_store_b (by rfl) (by rfl) (by rfl) (by rfl) ?_); refine asemC_end ?_)))
      refine retM_L (x := levelA ⟨2, acc⟩) (os1 := [(0, some (psA s l5 b5))]) [psA s l5 b5] (.cellT (by rfl) (by rfl) (by rfl) (by rfl) .nil) (by rfl) (by (simp [AV.bd, bdL, bdL_append]; done)) ⟨[0], ToR.S rfl (by repeat' (exact rt_nil)) (by repeat' (first | exact ro_nil | refine ro_e (by rfl) (by rfl) ?_)) (by rfl) (by rfl) (by rfl) (by (simp [bdT, AV.bd, bdL, bdL_append]; done)) (by repeat' (first | exact True.intro | exact rfl | refine And.intro ?_ ?_)) (by exact Nat.le_of_ble_eq_true rfl)⟩ (by rfl) ?_
      exact hpost
  · rw [← hpt] at ht
    (repeat' (first | refine WP.seq ?_ | refine WP.block ?_ | refine go_n ?_ | refine WP.skip ?_ | (refine wp_cond (by rfl) (fun hc => ?_) (fun hc => ?_) <;> (try simp only [sB, ne_eq, reduceCtorEq] at hc) <;> (try (exfalso; omega))) | (refine WP.regionC (id := 0) ?_; (refine se_alloc (by rfl) ?_); refine asemC_end ?_) | (refine WP.regionC (id := 1) ?_; (refine su (ap_build (RqP.cons (rq_p rfl rfl) (RqP.nil)) (by rfl)) ?_); (refine se_alloc (by rfl) ?_); (refine se_store_b (by rfl) (by rfl) (by rfl) (by rfl) ?_); refine asemC_end ?_) | (refine WP.regionC (id := 2) ?_; (refine su (ap_move (rq_p rfl rfl)) ?_); (refine sc_o [0] rfl rfl (is17_fn (by assumption) _ _) (Lend.o1 (by rfl) (by rfl) (by rfl) (by rfl) (by simp [AV.bd, bdL, bdL_append]) (by simp [AV.bd, bdL, bdL_append])) ?_; simp only [updN, newO, AObj.ren, renL, AV.ren, apx, ap, if_true, if_false, Nat.reduceLT, Nat.reduceAdd, Nat.reduceSub, sO, intA, boolA, strA, psA, psR]); refine asemC_end ?_) | (refine WP.regionC (id := 4) ?_; (refine su (ap_move (rq_p rfl rfl)) ?_); (refine sc_o [0] rfl rfl (is17_fn (by assumption) _ _) (Lend.o1 (by rfl) (by rfl) (by rfl) (by rfl) (by simp [AV.bd, bdL, bdL_append]) (by simp [AV.bd, bdL, bdL_append])) ?_; simp only [updN, newO, AObj.ren, renL, AV.ren, apx, ap, if_true, if_false, Nat.reduceLT, Nat.reduceAdd, Nat.reduceSub, sO, intA, boolA, strA, psA, psR]); refine asemC_end ?_) | (refine WP.regionC (id := 6) ?_; (refine su (ap_move (rq_p rfl rfl)) ?_); (refine sc_o [0] rfl rfl (hO) (Lend.o1 (by rfl) (by rfl) (by rfl) (by rfl) (by simp [AV.bd, bdL, bdL_append]) (by simp [AV.bd, bdL, bdL_append])) ?_; simp only [updN, newO, AObj.ren, renL, AV.ren, apx, ap, if_true, if_false, Nat.reduceLT, Nat.reduceAdd, Nat.reduceSub, sO, intA, boolA, strA, psA, psR]); refine asemC_end ?_) | (refine WP.regionC (id := 7) ?_; (refine su (ap_move (rq_p rfl rfl)) ?_); (refine sc_v [0] rfl rfl (hnm) (Lend.o1 (by rfl) (by rfl) (by rfl) (by rfl) (by simp [AV.bd, bdL, bdL_append]) (by simp [AV.bd, bdL, bdL_append])) ?_; rintro r os' hlen ⟨n, l0, b0, rfl, rfl, ho⟩; simp only [psA, psR, upd, AObj.ren, renL, AV.ren, renL_pure, bdL_boolA, bdL_intA, bdL_strA, bd_boolA, bd_intA, bd_strA, apx, ap, List.length_cons, List.length_nil, List.getD_cons_zero, List.getD_cons_succ, Nat.lt_irrefl, if_true, if_false, Nat.zero_lt_succ, Nat.reduceLT, Nat.reduceAdd, intA, boolA, strA]); (refine se_lit (OpP.cons (by rfl) (OpP.nil)) (by rfl) (by rfl) (by rfl) (by rfl) (by rfl) (by rfl) ?_); (refine su (ap_assign (rq_p rfl rfl)) ?_); refine asemC_end ?_)))
    all_goals (first | (exfalso; simp_all; done) | skip)
    have h0 := hA.suf ho.1
    have hle0 := ho.1.length_le
    refine wp_loop (fun (σ : List ByteArray × List (Nat × Tx)) => σ.1.length + σ.2.length ≤ l.length + 1 ∧ σ.2 <:+ l0 ∧ (b0 = true → σ.2 = l0) ∧ (b0 = false → σ.1 ++ (pNames (σ.2.map (·.2))).1 = n :: (pNames (l0.map (·.2))).1 ∧ (pNames (σ.2.map (·.2))).2 = (pNames (l0.map (·.2))).2)) (fun σ => σ.2.length)
      (fun σ => (S 29 [(0, .ptr 0 4 0 0), (2, .ptr 1 2 0 0), (3, .ptr 2 2 0 0), (4, .ref 3 1 0 σ.1.length)] 4 [(0, some (psA s σ.2 b0)), (1, some (.arr 2 [.agg [intA 0, .val (.slice none 0 0)]])), (2, some (.arr 2 [.agg [intA 3, .val (.slice none 0 0)]])), (3, some (.arr 1 (σ.1.map strA)))])) ([n], l0) ⟨[0, 1, 2, 3], ToR.S rfl (by repeat' (first | exact rt_nil | refine rt_r (by rfl) (by rfl) ?_ | refine rt_t (by rfl) (by rfl) ?_)) (by repeat' (first | exact ro_nil | refine ro_e (by rfl) (by rfl) ?_)) (by rfl) (by (rw [hm]; exact rfl)) (by rfl) (by (simp [bdT, AV.bd, bdL, bdL_append]; done)) (by repeat' (first | exact True.intro | exact rfl | refine And.intro ?_ ?_)) (by (rw [hm]; exact Nat.le_of_ble_eq_true rfl))⟩ ⟨by simp only [List.length_cons, List.length_nil]; omega, List.suffix_refl _, fun _ => rfl, fun _ => ⟨rfl, rfl⟩⟩ ?_
    rintro ⟨acc, l2⟩ ⟨hn2, hs2, hv1, hv2⟩
    simp only at hn2 hs2 hv1 hv2 ⊢
    have h2 := h0.suf hs2
    cases hgo : (!b0 && isN (l2.map (·.2))) with
    | true =>
      simp only [Bool.and_eq_true, Bool.not_eq_true'] at hgo
      obtain ⟨hb0, hnn⟩ := hgo
      subst hb0
      obtain ⟨p3, l3, hl3⟩ : ∃ p3 l3, l2 = p3 :: l3 := by
        cases l2 with
        | nil => cases hnn
        | cons p3 l3 => exact ⟨_, _, rfl⟩
      have hnm3 : nmT p3.2 = true := by rw [hl3] at hnn; exact hnn
      have hpn : pNames (l2.map (·.2)) = (tx p3.2 :: (pNames (l3.map (·.2))).1, (pNames (l3.map (·.2))).2) := by rw [hl3, List.map_cons, pNames, if_pos hnm3]
      have hnext : ∀ y l5 b5, Out17 false (pName (l2.map (·.2))) l2 l5 y b5 → b5 = false ∧ (l5.length < l2.length ∧ (acc ++ [y]).length + l5.length ≤ l.length + 1 ∧ l5 <:+ l0 ∧ (false = true → l5 = l0) ∧ (false = false → (acc ++ [y]) ++ (pNames (l5.map (·.2))).1 = n :: (pNames (l0.map (·.2))).1 ∧ (pNames (l5.map (·.2))).2 = (pNames (l0.map (·.2))).2)) := by
        rintro y l5 b5 ⟨o1, o2, o3, o4⟩
        have hok : pName (l2.map (·.2)) = .ok (tx p3.2) (l3.map (·.2)) := by rw [hl3, List.map_cons, pName, if_pos hnm3]
        cases b5 with
        | true => have := o4 rfl rfl; rw [hok] at this; cases this
        | false =>
          have hq := o3 rfl rfl
          rw [hok] at hq
          injection hq with e1 e2
          have hlt : l5.length = l3.length := by have := congrArg List.length e2; simpa using this.symm
          have hl23 : l2.length = l3.length + 1 := by rw [hl3]; rfl
          refine ⟨rfl, by omega, by simp only [List.length_append, List.length_cons, List.length_nil]; omega, o1.trans hs2, fun q => (by cases q), fun _ => ⟨?_, ?_⟩⟩
          · rw [← e2, ← e1, ← (hv2 rfl).1, hpn]; simp
          · rw [← e2, ← (hv2 rfl).2, hpn]
      (repeat' (first | refine WP.seq ?_ | refine WP.block ?_ | refine go_n ?_ | refine WP.skip ?_ | refine WP.exit ?_ | refine go_x ?_ | refine bl_n ?_ | refine bl_x ?_ | (refine wp_cond (by rfl) (fun hc => ?_) (fun hc => ?_) <;> (try simp only [sB, ne_eq, reduceCtorEq] at hc) <;> (try (exfalso; omega))) | (refine WP.regionC (id := 8) ?_; (refine su (ap_move (rq_p rfl rfl)) ?_); (refine sc_o [0] rfl rfl (isname17_fn (by assumption) _) (Lend.o1 (by rfl) (by rfl) (by rfl) (by rfl) (by simp [AV.bd, bdL, bdL_append]) (by simp [AV.bd, bdL, bdL_append])) ?_; simp only [updN, newO, AObj.ren, renL, AV.ren, apx, ap, if_true, if_false, Nat.reduceLT, Nat.reduceAdd, Nat.reduceSub, sO, intA, boolA, strA, psA, psR]); refine asemC_end ?_) | (refine WP.regionC (id := 9) ?_; (refine su (ap_move (rq_p rfl rfl)) ?_); (refine su (ap_move (rq_p rfl rfl)) ?_); (refine sc_v [0] rfl rfl (name17_fn h2 false) (Lend.o1 (by rfl) (by rfl) (by rfl) (by rfl) (by simp [AV.bd, bdL, bdL_append]) (by simp [AV.bd, bdL, bdL_append])) ?_; rintro r os' hlen ⟨y, l5, b5, rfl, rfl, ho'⟩; simp only [psA, psR, upd, AObj.ren, renL, AV.ren, renL_pure, bdL_boolA, bdL_intA, bdL_strA, bd_boolA, bd_intA, bd_strA, apx, ap, List.length_cons, List.length_nil, List.getD_cons_zero, List.getD_cons_succ, Nat.lt_irrefl, if_true, if_false, Nat.zero_lt_succ, Nat.reduceLT, Nat.reduceAdd, intA, boolA, strA]); (refine se_lit (OpP.cons (by rfl) (OpP.nil)) (by rfl) (by rfl) (by rfl) (by rfl) (by rfl) (by rfl) ?_); (refine se_app1 (by rfl) (by rfl) (by rfl) (by rfl) (by rfl) (by rfl) (by rfl) (by rfl) (by omega) ?_); (refine su (ap_assign (rq_p rfl rfl)) ?_); refine asemC_end ?_)))
      · obtain ⟨hb5, hnx⟩ := hnext y l5 b5 ho'
        subst hb5
        exact ⟨(acc ++ [y], l5), by simpa using hnx, ⟨[0, 1, 2, 5], ToR.S rfl (by repeat' (first | exact rt_nil | refine rt_r (by rfl) (by rfl) ?_ | refine rt_t (by rfl) (by rfl) ?_)) (by repeat' (first | exact ro_nil | refine ro_e (by rfl) (by rfl) ?_ | refine ro_p (by rfl) (by first | exact rfl | fail) (by first | exact bdL_map (fun _ => by exact rfl) _ | fail) ?_)) (by rfl) (by (rw [hm]; exact rfl)) (by rfl) (by (simp [bdT, AV.bd, bdL, bdL_append]; done)) (by repeat' (first | exact True.intro | exact rfl | refine And.intro ?_ ?_ | exact bdL_map (fun _ => by exact rfl) _)) (by (rw [hm]; exact Nat.le_of_ble_eq_true rfl))⟩⟩
      all_goals (exfalso; simp_all; done)
    | false =>
      (repeat' (first | refine WP.seq ?_ | refine WP.block ?_ | refine go_n ?_ | refine WP.skip ?_ | refine WP.exit ?_ | refine go_x ?_ | refine bl_x ?_ | (refine wp_cond (by rfl) (fun hc => ?_) (fun hc => ?_) <;> (try simp only [sB, ne_eq, reduceCtorEq] at hc) <;> (try (exfalso; omega))) | (refine WP.regionC (id := 8) ?_; (refine su (ap_move (rq_p rfl rfl)) ?_); (refine sc_o [0] rfl rfl (isname17_fn (by assumption) _) (Lend.o1 (by rfl) (by rfl) (by rfl) (by rfl) (by simp [AV.bd, bdL, bdL_append]) (by simp [AV.bd, bdL, bdL_append])) ?_; simp only [updN, newO, AObj.ren, renL, AV.ren, apx, ap, if_true, if_false, Nat.reduceLT, Nat.reduceAdd, Nat.reduceSub, sO, intA, boolA, strA, psA, psR]); refine asemC_end ?_) | (refine WP.regionC (id := 10) ?_; (refine su (ap_move (rq_p rfl rfl)) ?_); (refine sc_v [0] rfl rfl (take17_fn h2 ⟨#[59]⟩ (by decide) b0) (Lend.o1 (by rfl) (by rfl) (by rfl) (by rfl) (by simp [AV.bd, bdL, bdL_append]) (by simp [AV.bd, bdL, bdL_append])) ?_; rintro r os' hlen ⟨u', l5, b5, rfl, rfl, hr⟩; simp only [psA, psR, upd, AObj.ren, renL, AV.ren, renL_pure, bdL_boolA, bdL_intA, bdL_strA, bd_boolA, bd_intA, bd_strA, apx, ap, List.length_cons, List.length_nil, List.getD_cons_zero, List.getD_cons_succ, Nat.lt_irrefl, if_true, if_false, Nat.zero_lt_succ, Nat.reduceLT, Nat.reduceAdd, intA, boolA, strA]); refine asemC_end ?_)))
      all_goals (first | (exfalso; simp_all; done) | skip)
      have hpost : post17 levelA s false (pLevel 3 (l.map (·.2))) l (levelA ⟨3, acc⟩) [psA s l5 b5] := by
        have hB2 : Out17 b0 ((pTake [59] (pNames (l0.map (·.2))).2).bind fun _ q => .ok (⟨3, n :: (pNames (l0.map (·.2))).1⟩ : GLe) q) l0 l5 ⟨3, acc⟩ b5 := by
          cases b0 with
          | true =>
            have e := hv1 rfl
            subst e
            obtain ⟨r1, r2, r3, r4⟩ := hr
            exact ⟨r1, r2, fun q => (by cases q), fun q => (by cases q)⟩
          | false =>
            have hnf : isN (l2.map (·.2)) = false := by simpa using hgo
            have hpn : pNames (l2.map (·.2)) = ([], l2.map (·.2)) := by
              cases l2 with
              | nil => rfl
              | cons p3 l3 => have h3 : nmT p3.2 = false := hnf; simp only [List.map_cons, pNames, h3, Bool.false_eq_true, if_false]
            obtain ⟨e1, e2⟩ := hv2 rfl
            rw [hpn] at e1 e2
            simp only [List.append_nil] at e1
            rw [← e2, ← e1]
            have hx := hr.bind (k := fun _ r3 => .ok (⟨3, acc⟩ : GLe) r3) (Out17.pure b5 l5 (⟨3, acc⟩ : GLe))
            obtain ⟨r1, r2, r3, r4⟩ := hx
            exact ⟨r1.trans hs2, fun q => (by cases q), r3, r4⟩
        exact ⟨⟨3, acc⟩, l5, b5, rfl, rfl, Out17.to (ho.bind hB2) (pLevel_bind _ _).symm⟩
      refine wp_frzm 4 hm rfl rfl rfl (fun x => rfl) (fun _ => rfl) (by rfl) ?_
      (repeat' (first | refine WP.seq ?_ | refine go_n ?_ | refine WP.ret ?_ | refine bo_r ?_ | (refine WP.regionC (id := 11) ?_; (refine su (ap_move (rq_p rfl rfl)) ?_); (refine su (ap_field_p (rq_p rfl rfl) (by rfl) (by rfl)) ?_); (refine se_store_b (by rfl) (by rfl) (by rfl) (by rfl) ?_); refine asemC_end ?_) | (refine WP.regionC (id := 12) ?_; (refine su (ap_load_pw (rq_p rfl rfl) (by rfl) (by rfl) (by rfl)) ?_); (refine se_store_b (by rfl) (by rfl) (by rfl) (by rfl) ?_); refine asemC_end ?_)))
      refine retM_L (x := levelA ⟨3, acc⟩) (os1 := [(0, some (psA s l5 b5))]) [psA s l5 b5] (.cellT (by rfl) (by rfl) (by rfl) (by rfl) .nil) (by rfl) (by (simp [AV.bd, bdL, bdL_append]; done)) ⟨[0], ToR.S rfl (by repeat' (exact rt_nil)) (by repeat' (first | exact ro_nil | refine ro_e (by rfl) (by rfl) ?_)) (by rfl) (by rfl) (by rfl) (by (simp [bdT, AV.bd, bdL, bdL_append]; done)) (by repeat' (first | exact True.intro | exact rfl | refine And.intro ?_ ?_)) (by exact Nat.le_of_ble_eq_true rfl)⟩ (by rfl) ?_
      exact hpost
end Go.Lg
