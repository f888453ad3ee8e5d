/-
  Part 13 of the proof of GrammarparserParentheses: the logic over the model, the functions' contracts and the plain laws.
-/
import Derived.Test.YtpemjdkcabefnaaKq12

set_option linter.unusedSimpArgs false
set_option linter.unusedVariables false
set_option linter.unusedSectionVars false
set_option linter.defProp false

namespace Go.Lg
open Go.Proofs
set_option linter.unusedSimpArgs false
set_option linter.unusedVariables false
attribute [local irreducible] Ap Rq asemC WP RunD Ret Gq thenA inBlockA bodyQ noGotoA RqL RqP OpP
set_option maxHeartbeats 4000000
set_option maxRecDepth 20000
attribute [local simp] rdA pkA tokA toks_bd
theorem cut_map {l : List (Nat × Tx)} {r : List Tx} (h : r <:+ l.map (·.2)) : (cut l r).map (·.2) = r := by
  obtain ⟨t, ht⟩ := h
  unfold cut
  rw [List.map_drop, ← ht]
  have : l.length = t.length + r.length := by rw [← List.length_append, ht, List.length_map]
  rw [show l.length - r.length = t.length by omega]
  simp
theorem cut_suf (l : List (Nat × Tx)) (r : List Tx) : cut l r <:+ l := List.drop_suffix _ _
theorem cut_of {l l' : List (Nat × Tx)} (h : l' <:+ l) : cut l (l'.map (·.2)) = l' := by
  obtain ⟨t, rfl⟩ := h
  simp [cut]
theorem cut_cut {l l' : List (Nat × Tx)} {r : List Tx} (h : l' <:+ l) (hr : r <:+ l'.map (·.2)) : cut l' r = cut l r := by
  have h1 := cut_map hr
  have h2 := cut_of ((cut_suf l' r).trans h)
  rw [h1] at h2
  exact h2.symm
theorem ren_exprA (π : Nat → Nat) (x : GEx) : AV.ren π (exprA x) = exprA x := ren_pure (bd_exprA 0 x)
theorem pItem_lt {l : List Tx} {x : GEx} {r : List Tx} (h : pItem l = .ok x r) : r.length < l.length := by
  unfold pItem at h
  cases h1 : pPrim l with
  | err q => rw [h1] at h; cases h
  | ok y q =>
    rw [h1] at h
    have := pPrim_lt h1
    have := sufT_len y q
    injection h with h2 h3
    subst h3
    omega
theorem hd40 (l : List (Nat × Tx)) : decide (tx (hdT l) = (⟨#[40]⟩ : ByteArray)) = decide (hd (l.map (·.2)) = [40]) := by
  have : (tx (hdT l) = (⟨#[40]⟩ : ByteArray)) ↔ (hd (l.map (·.2)) = [40]) := ⟨fun h => tx_inj (h.trans rfl), fun h => by unfold hdT; rw [h]; rfl⟩
  simp only [this]
theorem exprA_mk (k : Int) (n : ByteArray) (l : List GEx) : exprA (.mk k n l) = .agg [intA k, strA n, .sl 3 (l.map exprA)] := by
  unfold exprA
  rw [kidsL_map]
  rfl
theorem gpseq_of (l : List (Nat × Tx)) (e : Int) (hB : l.length ≤ 1000000) (hi : ∀ l', l' <:+ l → FnP Try.prog 79 [.ptr 0 2 0 0] [rdA l' e] (pout l' e exprA (pItem (l'.map (·.2))))) :
    FnP Try.prog 70 [.ptr 0 2 0 0] [rdA l e] (pout l e exprA (pSeq (l.map (·.2)))) := by
  refine FnP.intro ?_ (by kernel_rfl) Try.func70 rfl rfl Try.ntmps70 (by exact Nat.le_of_ble_eq_true rfl) ?_; rotate_left; intro Γ hm
  · (repeat' (first | apply jA | apply jF | apply jH | (refine WP.regionC (id := 0) ?_; (refine se_alloc rfl ?_); apply jW) | (refine WP.regionC (id := 1) ?_; (refine sassign rfl ?_); apply jW)))
    refine wp_nil 3 3 rfl ?_
    refine wp_loop (fun (σ : List GEx × List (Nat × Tx)) => σ.2 <:+ l ∧ σ.1.length + σ.2.length ≤ l.length ∧ finI σ.1 (σ.2.map (·.2)) = pItems (l.map (·.2))) (fun σ => σ.2.length)
      (fun σ => (S 25 [(0, .ptr 0 2 0 0), (2, .ptr 1 3 0 0), (3, .ref 2 3 0 σ.1.length)] 3 [(0, some (rdA σ.2 e)), (1, some (.arr 3 [.agg [intA 0, strA ⟨#[]⟩, .val (.slice none 0 0)]])), (2, some (.arr 3 (σ.1.map exprA)))])) ([], l) ⟨[0, 1, 2], ToR.S rfl (by repeat' (first | exact rt_nil | refine rt_r rfl rfl ?_ | refine rt_t rfl rfl ?_)) (by repeat' (first | exact ro_nil | refine ro_e rfl rfl ?_ | refine ro_p rfl (by first | exact rfl | fail) (by first | (simp [bdL, bdL_append, AV.bd]; done) | fail) ?_)) rfl (by (rw [hm]; exact rfl)) rfl (by (simp [bdT, AV.bd, bdL, bdL_append]; done)) (by repeat' (first | exact True.intro | exact rfl | refine And.intro ?_ ?_ | (simp [bdOq, bdL, bdL_append, AV.bd]; done))) (by (rw [hm]; exact Nat.le_of_ble_eq_true rfl))⟩ ⟨List.suffix_refl _, by simp, finI_nil _⟩ ?_
    rintro ⟨acc, l1⟩ ⟨hs1, hn1, hf1⟩
    simp only at hs1 hf1 hn1 ⊢
    have hi1 := hi l1 hs1
    cases hgo : (isN (l1.map (·.2)) || decide (hd (l1.map (·.2)) = [40])) with
    | false =>
      have hst : pSeq (l.map (·.2)) = .ok (seqOf acc) (l1.map (·.2)) := by
        have := finI_stop (acc := acc) hgo
        rw [hf1] at this
        simp [pSeq, this]
      have hout : pout l e exprA (pSeq (l.map (·.2))) = .ok (exprA (seqOf acc)) [some (rdA l1 e)] := by rw [hst]; simp only [pout, cut_of hs1]
      rw [← hd40, Bool.or_eq_false_iff] at hgo
      (repeat' (first | apply jA | apply jF | apply jH | apply jI | apply jJ | apply jL | apply jP | (refine wp_cond rfl (fun hc => ?_) (fun hc => ?_) <;> (try simp only [sB, ne_eq, reduceCtorEq] at hc) <;> (try (exfalso; omega))) | (refine WP.regionC (id := 2) ?_ <;> (refine smove rfl ?_) <;> (refine sc_o [0] rfl rfl (isname_fn _ _) (Lend.o1 rfl rfl (by (exact (renL_pure (by simp [AV.bd, bdL, bdL_append])).symm)) rfl (by simp [AV.bd, bdL, bdL_append]) (by simp [AV.bd, bdL, bdL_append])) ?_; simp only [updN, newO, AObj.ren, renL, AV.ren, apx, ap, if_true, if_false, Nat.reduceLT, Nat.reduceAdd, Nat.reduceSub, sO, intA, boolA, strA, ren_pkA, rdA, ren_toks]) <;> (refine smove rfl ?_) <;> (first | (refine as_split (t := 6) rfl (fun hc => ?_) (fun hc => ?_) <;> (try simp only [sB, ne_eq, reduceCtorEq] at hc) <;> (try (exfalso; omega)) <;> (first | refine sgt_u rfl rfl rfl rfl rfl (amove rfl) ?_ | refine skZ (gq_vf rfl rfl) rfl ?_ | fail)) | fail) <;> (first | refine sgt_o [0] rfl rfl rfl rfl rfl (peek_fn _ _) (Lend.S (by first | ((repeat' first | exact RenL.nil | refine RenL.cons rfl ?_); done) | fail) (by first | ((repeat' first | exact LendO.nil | refine LendO.arr rfl (by (exact (renL_pure (by simp [AV.bd, bdL, bdL_append])).symm)) ?_); done) | fail) (by decide) rfl (by simp [AV.bd, bdL, bdL_append]) (by repeat' (first | exact True.intro | refine And.intro ?_ ?_ | simp [AV.bd, bdL, bdL_append]))) ?_; simp only [updN, newO, AObj.ren, renL, AV.ren, apx, ap, if_true, if_false, Nat.reduceLT, Nat.reduceAdd, Nat.reduceSub, sO, intA, boolA, strA, ren_pkA, rdA, ren_toks] | refine skZ (gq_vf rfl rfl) rfl ?_ | fail) <;> (first | refine sgt_u rfl rfl rfl rfl rfl (afieldv rfl rfl) ?_ | refine skZ (gq_vf rfl rfl) rfl ?_ | fail) <;> (first | refine sgt_u rfl rfl rfl rfl rfl (aeqs rfl rfl) ?_ | refine skZ (gq_vf rfl rfl) rfl ?_ | fail) <;> (refine su (ap_or (rq_p rfl rfl) (by first | exact rq_p rfl rfl | exact rq_c rfl rfl)) ?_) <;> apply jW)))
      all_goals (first | (exfalso; simp_all; done) | skip)
      · rw [hout]
        refine wp_frzm 3 hm rfl rfl rfl (bd_exprA 0) (fun _ => rfl) rfl ?_
        cases acc with
        | nil =>
          (repeat' (first | apply jA | apply jH | apply jI | apply jK | (refine wp_cond rfl (fun hc => ?_) (fun hc => ?_) <;> (try simp only [sB, ne_eq, reduceCtorEq] at hc) <;> (try (exfalso; omega))) | (refine WP.regionC (id := 4) ?_; (refine smove rfl ?_); (refine slenm rfl rfl ?_); (refine seql rfl rfl ?_); apply jW) | (refine WP.regionC (id := 6) ?_; (refine smove rfl ?_); (refine su (ap_build (RqP.cons (rq_p rfl rfl) (RqP.cons (rq_p rfl rfl) (RqP.nil))) rfl) ?_); (refine se_store_b rfl rfl rfl rfl ?_); apply jW)))
          · exfalso; simp at hc
          · refine bp_r rfl ?_
            refine retO_L (x := exprA (seqOf [])) (k := 1) (os1 := [(0, some (rdA l1 e))]) (.cellT rfl rfl rfl rfl .nil) rfl ⟨[0], ToR.S rfl (by repeat' (first | exact rt_nil | refine rt_e rfl rfl ?_)) (by repeat' (first | exact ro_nil | refine ro_p rfl (by first | exact rfl | fail) (by first | (simp [bdL, bdL_append, AV.bd]; done) | fail) ?_)) rfl rfl rfl (by (simp [bdT, AV.bd, bdL, bdL_append]; done)) (by repeat' (first | exact True.intro | refine And.intro ?_ ?_ | (simp [bdOq, bdL, bdL_append, AV.bd]; done))) (by exact Nat.le_of_ble_eq_true rfl)⟩ rfl
        | cons y acc' =>
          cases acc' with
          | nil =>
            (repeat' (first | apply jA | apply jH | apply jI | apply jK | apply jM | (refine wp_cond rfl (fun hc => ?_) (fun hc => ?_) <;> (try simp only [sB, ne_eq, reduceCtorEq] at hc) <;> (try (exfalso; omega))) | (refine WP.regionC (id := 4) ?_; (refine smove rfl ?_); (refine slenm rfl rfl ?_); (refine seql rfl rfl ?_); apply jW) | (refine WP.regionC (id := 5) ?_; (refine smove rfl ?_); (refine sidxn rfl rfl (by (simp only [sL] <;> omega)) ?_); (refine sloadw rfl rfl ?_); (refine se_store_b rfl rfl rfl rfl ?_); apply jW)))
            · refine bp_r rfl ?_
              refine retO_L (x := exprA (seqOf [y])) (k := 1) (os1 := [(0, some (rdA l1 e))]) (.cellT rfl rfl rfl rfl .nil) rfl ⟨[0], ToR.S rfl (by repeat' (first | exact rt_nil | refine rt_p rfl rfl (by first | (simp [AV.bd, bdL, bdL_append]; done) | fail) ?_)) (by repeat' (first | exact ro_nil | refine ro_p rfl (by first | exact rfl | fail) (by first | (simp [bdL, bdL_append, AV.bd]; done) | fail) ?_)) rfl rfl rfl (by (simp [bdT, AV.bd, bdL, bdL_append]; done)) (by repeat' (first | exact True.intro | refine And.intro ?_ ?_ | (simp [bdOq, bdL, bdL_append, AV.bd]; done))) (by exact Nat.le_of_ble_eq_true rfl)⟩ rfl
            · exfalso; simp at hc
          | cons y' acc2 =>
            (repeat' (first | apply jA | apply jH | apply jI | apply jK | (refine wp_cond rfl (fun hc => ?_) (fun hc => ?_) <;> (try simp only [sB, ne_eq, reduceCtorEq] at hc) <;> (try (exfalso; omega))) | (refine WP.regionC (id := 4) ?_; (refine smove rfl ?_); (refine slenm rfl rfl ?_); (refine seql rfl rfl ?_); apply jW) | (refine WP.regionC (id := 6) ?_; (refine smove rfl ?_); (refine su (ap_build (RqP.cons (rq_p rfl rfl) (RqP.cons (rq_p rfl rfl) (RqP.nil))) rfl) ?_); (refine se_store_b rfl rfl rfl rfl ?_); apply jW)))
            · exfalso; simp at hc; omega
            · refine bp_r rfl ?_
              have he : exprA (seqOf (y :: y' :: acc2)) = .agg [intA 2, strA ⟨#[]⟩, .sl 3 ((y :: y' :: acc2).map exprA)] := exprA_mk _ _ _
              rw [he]
              refine retO_L (x := .agg [intA 2, strA ⟨#[]⟩, .sl 3 ((y :: y' :: acc2).map exprA)]) (k := 1) (os1 := [(0, some (rdA l1 e))]) (.cellT rfl rfl rfl rfl .nil) rfl ⟨[0], ToR.S rfl (by repeat' (first | exact rt_nil | refine rt_p rfl rfl (by first | (simp [AV.bd, bdL, bdL_append]; done) | fail) ?_)) (by repeat' (first | exact ro_nil | refine ro_p rfl (by first | exact rfl | fail) (by first | (simp [bdL, bdL_append, AV.bd]; done) | fail) ?_)) rfl rfl rfl (by (simp [bdT, AV.bd, bdL, bdL_append]; done)) (by repeat' (first | exact True.intro | refine And.intro ?_ ?_ | (simp [bdOq, bdL, bdL_append, AV.bd]; done))) (by exact Nat.le_of_ble_eq_true rfl)⟩ rfl
    | true =>
      have hi1 := hi l1 hs1
      have go : finI acc (l1.map (·.2)) = match pItem (l1.map (·.2)) with | .err q => .err q | .ok x r => finI (acc ++ [x]) r := finI_step hgo
      rw [← hd40] at hgo
      cases hp : pItem (l1.map (·.2)) with
      | ok x r =>
        have hO : FnO Try.prog 79 [.ptr 0 2 0 0] [rdA l1 e] (exprA x) [some (rdA (cut l1 r) e)] := hi1.oks (by rw [hp]; rfl)
        have hr : r <:+ l1.map (·.2) := by have := pItem_suf (l1.map (·.2)); rw [hp] at this; exact this
        have hlt := pItem_lt hp
        rw [List.length_map] at hlt
        have hcl : (cut l1 r).length = r.length := by have := congrArg List.length (cut_map hr); rwa [List.length_map] at this
        have hnext : (cut l1 r).length < l1.length ∧ cut l1 r <:+ l ∧ (acc ++ [x]).length + (cut l1 r).length ≤ l.length ∧ finI (acc ++ [x]) ((cut l1 r).map (·.2)) = pItems (l.map (·.2)) := by
          refine ⟨by omega, (cut_suf _ _).trans hs1, by simp; omega, ?_⟩
          rw [cut_map hr, ← hf1, go, hp]
        (repeat' (first | apply jA | apply jF | apply jH | apply jI | apply jJ | apply jL | apply jN | apply jP | (refine wp_cond rfl (fun hc => ?_) (fun hc => ?_) <;> (try simp only [sB, ne_eq, reduceCtorEq] at hc) <;> (try (exfalso; omega))) | (refine WP.regionC (id := 2) ?_ <;> (refine smove rfl ?_) <;> (refine sc_o [0] rfl rfl (isname_fn _ _) (Lend.o1 rfl rfl (by (exact (renL_pure (by simp [AV.bd, bdL, bdL_append])).symm)) rfl (by simp [AV.bd, bdL, bdL_append]) (by simp [AV.bd, bdL, bdL_append])) ?_; simp only [updN, newO, AObj.ren, renL, AV.ren, apx, ap, if_true, if_false, Nat.reduceLT, Nat.reduceAdd, Nat.reduceSub, sO, intA, boolA, strA, ren_pkA, rdA, ren_toks]) <;> (refine smove rfl ?_) <;> (first | (refine as_split (t := 6) rfl (fun hc => ?_) (fun hc => ?_) <;> (try simp only [sB, ne_eq, reduceCtorEq] at hc) <;> (try (exfalso; omega)) <;> (first | refine sgt_u rfl rfl rfl rfl rfl (amove rfl) ?_ | refine skZ (gq_vf rfl rfl) rfl ?_ | fail)) | fail) <;> (first | refine sgt_o [0] rfl rfl rfl rfl rfl (peek_fn _ _) (Lend.S (by first | ((repeat' first | exact RenL.nil | refine RenL.cons rfl ?_); done) | fail) (by first | ((repeat' first | exact LendO.nil | refine LendO.arr rfl (by (exact (renL_pure (by simp [AV.bd, bdL, bdL_append])).symm)) ?_); done) | fail) (by decide) rfl (by simp [AV.bd, bdL, bdL_append]) (by repeat' (first | exact True.intro | refine And.intro ?_ ?_ | simp [AV.bd, bdL, bdL_append]))) ?_; simp only [updN, newO, AObj.ren, renL, AV.ren, apx, ap, if_true, if_false, Nat.reduceLT, Nat.reduceAdd, Nat.reduceSub, sO, intA, boolA, strA, ren_pkA, rdA, ren_toks] | refine skZ (gq_vf rfl rfl) rfl ?_ | fail) <;> (first | refine sgt_u rfl rfl rfl rfl rfl (afieldv rfl rfl) ?_ | refine skZ (gq_vf rfl rfl) rfl ?_ | fail) <;> (first | refine sgt_u rfl rfl rfl rfl rfl (aeqs rfl rfl) ?_ | refine skZ (gq_vf rfl rfl) rfl ?_ | fail) <;> (refine su (ap_or (rq_p rfl rfl) (by first | exact rq_p rfl rfl | exact rq_c rfl rfl)) ?_) <;> apply jW) | (refine WP.regionC (id := 3) ?_; (refine smove rfl ?_); (refine smove rfl ?_); (refine sc_o [0] rfl rfl (hO) (Lend.o1 rfl rfl (by (exact (renL_pure (by simp [AV.bd, bdL, bdL_append])).symm)) rfl (by simp [AV.bd, bdL, bdL_append]) (by simp [AV.bd, bdL, bdL_append])) ?_; simp only [updN, newO, AObj.ren, renL, AV.ren, apx, ap, if_true, if_false, Nat.reduceLT, Nat.reduceAdd, Nat.reduceSub, sO, intA, boolA, strA, rdA, ren_toks, ren_exprA]); (refine se_lit (OpP.cons rfl (OpP.nil)) rfl rfl rfl rfl rfl rfl ?_); (refine se_app1 rfl rfl rfl rfl rfl rfl rfl rfl (by omega) ?_); (refine sassign rfl ?_); apply jW)))
        all_goals (first | exact ⟨(acc ++ [x], cut l1 r), hnext, ⟨[0, 1, 4], ToR.S rfl (by repeat' (first | exact rt_nil | refine rt_r rfl rfl ?_ | refine rt_t rfl rfl ?_)) (by repeat' (first | exact ro_nil | refine ro_e rfl rfl ?_ | refine ro_p rfl (by first | exact rfl | fail) (by first | exact bdL_map (fun _ => by simp [AV.bd, bdL, bdL_append]) _ | (simp [bdL, bdL_append, AV.bd]; done) | fail) ?_)) rfl (by (rw [hm]; exact rfl)) rfl (by (simp [bdT, AV.bd, bdL, bdL_append]; done)) (by repeat' (first | exact True.intro | exact rfl | refine And.intro ?_ ?_ | exact bdL_map (fun _ => by simp [AV.bd, bdL, bdL_append]) _ | (simp [bdOq, bdL, bdL_append, AV.bd]; done))) (by (rw [hm]; exact Nat.le_of_ble_eq_true rfl))⟩⟩ | (exfalso; simp_all; done))
      | err q =>
        have hX : FnX Try.prog 79 [.ptr 0 2 0 0] [rdA l1 e] (synV (pos (cut l1 q) e)) := hi1.dies (by rw [hp]; rfl)
        have hr : q <:+ l1.map (·.2) := by have := pItem_suf (l1.map (·.2)); rw [hp] at this; exact this
        have hout : pout l e exprA (pSeq (l.map (·.2))) = .die (synV (pos (cut l1 q) e)) := by
          rw [hp, hf1] at go
          simp only [pSeq, go, pout, cut_cut hs1 hr]
        (repeat' (first | apply jA | apply jF | apply jH | apply jI | apply jJ | apply jL | apply jP | apply jT | apply jU | (refine wp_cond rfl (fun hc => ?_) (fun hc => ?_) <;> (try simp only [sB, ne_eq, reduceCtorEq] at hc) <;> (try (exfalso; omega))) | (refine WP.regionC (id := 2) ?_ <;> (refine smove rfl ?_) <;> (refine sc_o [0] rfl rfl (isname_fn _ _) (Lend.o1 rfl rfl (by (exact (renL_pure (by simp [AV.bd, bdL, bdL_append])).symm)) rfl (by simp [AV.bd, bdL, bdL_append]) (by simp [AV.bd, bdL, bdL_append])) ?_; simp only [updN, newO, AObj.ren, renL, AV.ren, apx, ap, if_true, if_false, Nat.reduceLT, Nat.reduceAdd, Nat.reduceSub, sO, intA, boolA, strA, ren_pkA, rdA, ren_toks]) <;> (refine smove rfl ?_) <;> (first | (refine as_split (t := 6) rfl (fun hc => ?_) (fun hc => ?_) <;> (try simp only [sB, ne_eq, reduceCtorEq] at hc) <;> (try (exfalso; omega)) <;> (first | refine sgt_u rfl rfl rfl rfl rfl (amove rfl) ?_ | refine skZ (gq_vf rfl rfl) rfl ?_ | fail)) | fail) <;> (first | refine sgt_o [0] rfl rfl rfl rfl rfl (peek_fn _ _) (Lend.S (by first | ((repeat' first | exact RenL.nil | refine RenL.cons rfl ?_); done) | fail) (by first | ((repeat' first | exact LendO.nil | refine LendO.arr rfl (by (exact (renL_pure (by simp [AV.bd, bdL, bdL_append])).symm)) ?_); done) | fail) (by decide) rfl (by simp [AV.bd, bdL, bdL_append]) (by repeat' (first | exact True.intro | refine And.intro ?_ ?_ | simp [AV.bd, bdL, bdL_append]))) ?_; simp only [updN, newO, AObj.ren, renL, AV.ren, apx, ap, if_true, if_false, Nat.reduceLT, Nat.reduceAdd, Nat.reduceSub, sO, intA, boolA, strA, ren_pkA, rdA, ren_toks] | refine skZ (gq_vf rfl rfl) rfl ?_ | fail) <;> (first | refine sgt_u rfl rfl rfl rfl rfl (afieldv rfl rfl) ?_ | refine skZ (gq_vf rfl rfl) rfl ?_ | fail) <;> (first | refine sgt_u rfl rfl rfl rfl rfl (aeqs rfl rfl) ?_ | refine skZ (gq_vf rfl rfl) rfl ?_ | fail) <;> (refine su (ap_or (rq_p rfl rfl) (by first | exact rq_p rfl rfl | exact rq_c rfl rfl)) ?_) <;> apply jW) | (refine wpl_region (id := 3) ?_; (refine wpl_step rfl ?_; (refine smove rfl ?_); apply jW; (refine wpl_step rfl ?_; (refine smove rfl ?_); apply jW; ((refine wpl_x [0] rfl rfl (hX) (Lend.S (by first | ((repeat' first | exact RenL.nil | refine RenL.cons rfl ?_); done) | fail) (by first | ((repeat' first | exact LendO.nil | refine LendO.arr rfl (by (exact (renL_pure (by simp [AV.bd, bdL, bdL_append])).symm)) ?_); done) | fail) (by decide) rfl (by simp [AV.bd, bdL, bdL_append]) (by repeat' (first | exact True.intro | refine And.intro ?_ ?_ | simp [AV.bd, bdL, bdL_append]))) ?_)))))))
        all_goals (first | exact bp_p hout | (exfalso; simp_all; done))
  · exact pout_fine l e exprA (fun x => bd_exprA 1 x) _
end Go.Lg

namespace Go.Lg
def jX := @wpl_end
end Go.Lg

namespace Go.Lg
open Go.Proofs
set_option linter.unusedSimpArgs false
set_option linter.unusedVariables false
attribute [local irreducible] Ap Rq asemC WP RunD Ret Gq thenA inBlockA bodyQ noGotoA RqL RqP OpP
set_option maxHeartbeats 4000000
set_option maxRecDepth 20000
attribute [local simp] rdA pkA tokA toks_bd AV.cells
theorem gpitem_of (l : List (Nat × Tx)) (e : Int) (hp : FnP Try.prog 85 [.ptr 0 2 0 0] [rdA l e] (pout l e exprA (pPrim (l.map (·.2))))) :
    FnP Try.prog 79 [.ptr 0 2 0 0] [rdA l e] (pout l e exprA (pItem (l.map (·.2)))) := by
  cases hq : pPrim (l.map (·.2)) with
  | err q =>
    have hX : FnX Try.prog 85 [.ptr 0 2 0 0] [rdA l e] (synV (pos (cut l q) e)) := hp.dies (by rw [hq]; rfl)
    have hout : pout l e exprA (pItem (l.map (·.2))) = .die (synV (pos (cut l q) e)) := by simp only [pItem, hq, pout]
    rw [hout]
    unfold rdA
    refine FnP.intro ?_ (by kernel_rfl) Try.func79 rfl rfl Try.ntmps79 (by exact Nat.le_of_ble_eq_true rfl) ?_; rotate_left; intro Γ hm
    · (repeat' (first | apply jA | apply jH | apply jT | (refine WP.regionC (id := 0) ?_; (refine se_alloc rfl ?_); apply jW) | (refine wpl_region (id := 1) ?_; (refine wpl_step rfl ?_; (refine smove rfl ?_); apply jW; ((refine wpl_x [0] rfl rfl (hX) (Lend.S (by first | ((repeat' first | exact RenL.nil | refine RenL.cons rfl ?_); done) | fail) (by first | ((repeat' first | exact LendO.nil | refine LendO.arr rfl (by (exact (renL_pure (by simp [AV.bd, bdL, bdL_append])).symm)) ?_); done) | fail) (by decide) rfl (by simp [AV.bd, bdL, bdL_append]) (by repeat' (first | exact True.intro | refine And.intro ?_ ?_ | simp [AV.bd, bdL, bdL_append]))) ?_))))))
      exact bp_p rfl
    · trivial
  | ok x0 r0 =>
    have hO : FnO Try.prog 85 [.ptr 0 2 0 0] [rdA l e] (exprA x0) [some (rdA (cut l r0) e)] := hp.oks (by rw [hq]; rfl)
    have hr : r0 <:+ l.map (·.2) := by have := pPrim_suf (l.map (·.2)); rw [hq] at this; exact this
    have hout : pout l e exprA (pItem (l.map (·.2))) = .ok (exprA (sufT x0 r0).1) [some (rdA (cut l (sufT x0 r0).2) e)] := by simp only [pItem, hq, pout]
    rw [hout]
    refine FnP.intro ?_ (by kernel_rfl) Try.func79 rfl rfl Try.ntmps79 (by exact Nat.le_of_ble_eq_true rfl) ?_; rotate_left; intro Γ hm
    · (repeat' (first | apply jA | apply jF | apply jH | (refine WP.regionC (id := 0) ?_; (refine se_alloc rfl ?_); apply jW) | (refine WP.regionC (id := 1) ?_; (refine smove rfl ?_); (refine sc_o [0] rfl rfl (hO) (Lend.o1 rfl rfl (by (exact (renL_pure (by simp [AV.bd, bdL, bdL_append])).symm)) rfl (by simp [AV.bd, bdL, bdL_append]) (by simp [AV.bd, bdL, bdL_append])) ?_; simp only [updN, newO, AObj.ren, renL, AV.ren, apx, ap, if_true, if_false, Nat.reduceLT, Nat.reduceAdd, Nat.reduceSub, sO, intA, boolA, strA, rdA, ren_toks, ren_exprA]); (refine se_alloc rfl ?_); (refine se_store_b rfl rfl rfl rfl ?_); apply jW)))
      refine wp_loop (fun (σ : GEx × List (Nat × Tx)) => σ.2 <:+ l ∧ sufT σ.1 (σ.2.map (·.2)) = sufT x0 r0) (fun σ => σ.2.length)
        (fun σ => (S 23 [(0, .ptr 0 2 0 0), (2, .ptr 1 3 0 0), (3, .ptr 2 3 0 0)] 3 [(0, some (rdA σ.2 e)), (1, some (.arr 3 [.agg [intA 0, strA ⟨#[]⟩, .val (.slice none 0 0)]])), (2, some (.arr 3 [exprA σ.1]))])) (x0, cut l r0) ⟨[0, 1, 2], ToR.S rfl (by repeat' (first | exact rt_nil | refine rt_t rfl rfl ?_)) (by repeat' (first | exact ro_nil | refine ro_e rfl rfl ?_ | refine ro_p rfl (by first | exact rfl | fail) (by first | (simp [bdL, bdL_append, AV.bd]; done) | fail) ?_)) rfl (by (rw [hm]; exact rfl)) rfl (by (simp [bdT, AV.bd, bdL, bdL_append]; done)) (by repeat' (first | exact True.intro | exact rfl | refine And.intro ?_ ?_ | (simp [bdOq, bdL, bdL_append, AV.bd]; done))) (by (rw [hm]; exact Nat.le_of_ble_eq_true rfl))⟩ ⟨cut_suf _ _, by rw [cut_map hr]⟩ ?_
      rintro ⟨x, l1⟩ ⟨hs1, hf1⟩
      simp only at hs1 hf1 ⊢
      have go : ∀ (p : Nat × Tx) (l2 : List (Nat × Tx)) (k : Int), l1 = p :: l2 → sufT x (p.2 :: l2.map (·.2)) = sufT (.mk k ⟨#[]⟩ [x]) (l2.map (·.2)) → l2.length < l1.length ∧ l2 <:+ l ∧ sufT (.mk k ⟨#[]⟩ [x]) (l2.map (·.2)) = sufT x0 r0 := by
        rintro p l2 k rfl h
        refine ⟨by simp, (List.suffix_cons p l2).trans hs1, ?_⟩
        rw [← h, ← hf1]; rfl
      have hex : ∀ k : Int, AV.agg [intA k, strA ⟨#[]⟩, .sl 3 [exprA x]] = exprA (.mk k ⟨#[]⟩ [x]) := fun k => (exprA_mk k ⟨#[]⟩ [x]).symm
      by_cases h1 : hdT l1 = [42] ∨ hdT l1 = [43] ∨ hdT l1 = [63]
      · obtain ⟨p, l2, hl1⟩ : ∃ p l2, l1 = p :: l2 := by
          cases l1 with
          | nil => simp [hdT, hd] at h1
          | cons p l2 => exact ⟨_, _, rfl⟩
        have hn : FnO Try.prog 55 [.ptr 0 2 0 0] [rdA l1 e] (tokA p) [some (rdA l2 e)] := by rw [hl1]; exact next_fn p l2 e
        have hpt : hdT l1 = p.2 := by rw [hl1]; rfl
        rw [hpt] at h1
        (repeat' (first | apply jA | apply jF | apply jH | apply jN | (refine wp_cond rfl (fun hc => ?_) (fun hc => ?_) <;> (try simp only [sB, ne_eq, reduceCtorEq] at hc) <;> (try (exfalso; omega))) | (refine WP.regionC ?_; (refine sassign rfl ?_); apply jW) | (refine WP.regionC (id := 3) ?_; (refine smove rfl ?_); (refine sc_o [0] rfl rfl (peek_fn _ _) (Lend.o1 rfl rfl (by (exact (renL_pure (by simp [AV.bd, bdL, bdL_append])).symm)) rfl (by simp [AV.bd, bdL, bdL_append]) (by simp [AV.bd, bdL, bdL_append])) ?_; simp only [updN, newO, AObj.ren, renL, AV.ren, apx, ap, if_true, if_false, Nat.reduceLT, Nat.reduceAdd, Nat.reduceSub, sO, intA, boolA, strA, ren_pkA, rdA, ren_toks]); (refine su (afieldv rfl rfl) ?_); apply jW) | (refine WP.regionC ?_; (refine seqs rfl rfl ?_); (refine sassign rfl ?_); apply jW) | (refine WP.regionC (id := 11) ?_; (refine smove rfl ?_); (refine sc_o [0] rfl rfl (hn) (Lend.o1 rfl rfl (by (exact (renL_pure (by simp [AV.bd, bdL, bdL_append])).symm)) rfl (by simp [AV.bd, bdL, bdL_append]) (by simp [AV.bd, bdL, bdL_append])) ?_; simp only [updN, newO, AObj.ren, renL, AV.ren, apx, ap, if_true, if_false, Nat.reduceLT, Nat.reduceAdd, Nat.reduceSub, sO, intA, boolA, strA, rdA, ren_toks]); apply jW) | (refine wpl_region (id := 12) ?_; (refine wpl_step rfl ?_); (refine smove rfl ?_); (apply jW); (refine wpl_step rfl ?_); (refine sloadpw rfl rfl rfl rfl ?_); (apply jW); (refine wpl_step rfl ?_); (refine se_lit (OpP.cons rfl (OpP.nil)) rfl rfl rfl rfl rfl rfl ?_); (apply jW); (refine wpl_frzm 21 hm rfl rfl (by first | exact rfl | fail) (by first | (simp [AV.bd, bdL, bdL_append]; done) | fail) rfl rfl ?_); (refine wpl_step rfl ?_); (refine su (ap_build (RqP.cons (rq_p rfl rfl) (RqP.cons (rq_p rfl rfl) (RqP.nil))) rfl) ?_); (apply jW); (refine wpl_step rfl ?_); (refine se_store_b rfl rfl rfl rfl ?_); (apply jW); (apply jX))))
        · have h2 : p.2 = [42] := by rw [← hpt]; exact tx_inj (hc.trans rfl)
          refine ⟨(.mk 5 ⟨#[]⟩ [x], l2), go p l2 5 hl1 (by rw [sufT, h2]; rfl), ?_⟩
          simp only
          rw [exprA_mk]
          exact ⟨[0, 1, 2], ToR.S rfl (by repeat' (first | exact rt_nil | refine rt_t rfl rfl ?_)) (by repeat' (first | exact ro_nil | refine ro_e rfl rfl ?_ | refine ro_p rfl (by first | exact rfl | fail) (by first | (simp [bdL, bdL_append, AV.bd]; done) | fail) ?_)) rfl (by (rw [hm]; exact rfl)) rfl (by (simp [bdT, AV.bd, bdL, bdL_append]; done)) (by repeat' (first | exact True.intro | exact rfl | refine And.intro ?_ ?_ | (simp [bdOq, bdL, bdL_append, AV.bd]; done))) (by (rw [hm]; exact Nat.le_of_ble_eq_true rfl))⟩
        · have h2 : p.2 = [43] := by rw [← hpt]; exact tx_inj (hc.trans rfl)
          refine ⟨(.mk 6 ⟨#[]⟩ [x], l2), go p l2 6 hl1 (by rw [sufT, h2]; rfl), ?_⟩
          simp only
          rw [exprA_mk]
          exact ⟨[0, 1, 2], ToR.S rfl (by repeat' (first | exact rt_nil | refine rt_t rfl rfl ?_)) (by repeat' (first | exact ro_nil | refine ro_e rfl rfl ?_ | refine ro_p rfl (by first | exact rfl | fail) (by first | (simp [bdL, bdL_append, AV.bd]; done) | fail) ?_)) rfl (by (rw [hm]; exact rfl)) rfl (by (simp [bdT, AV.bd, bdL, bdL_append]; done)) (by repeat' (first | exact True.intro | exact rfl | refine And.intro ?_ ?_ | (simp [bdOq, bdL, bdL_append, AV.bd]; done))) (by (rw [hm]; exact Nat.le_of_ble_eq_true rfl))⟩
        · have h2 : p.2 = [63] := by rw [← hpt]; exact tx_inj (hc.trans rfl)
          refine ⟨(.mk 4 ⟨#[]⟩ [x], l2), go p l2 4 hl1 (by rw [sufT, h2]; rfl), ?_⟩
          simp only
          rw [exprA_mk]
          exact ⟨[0, 1, 2], ToR.S rfl (by repeat' (first | exact rt_nil | refine rt_t rfl rfl ?_)) (by repeat' (first | exact ro_nil | refine ro_e rfl rfl ?_ | refine ro_p rfl (by first | exact rfl | fail) (by first | (simp [bdL, bdL_append, AV.bd]; done) | fail) ?_)) rfl (by (rw [hm]; exact rfl)) rfl (by (simp [bdT, AV.bd, bdL, bdL_append]; done)) (by repeat' (first | exact True.intro | exact rfl | refine And.intro ?_ ?_ | (simp [bdOq, bdL, bdL_append, AV.bd]; done))) (by (rw [hm]; exact Nat.le_of_ble_eq_true rfl))⟩
        · exfalso
          have e : ∀ c : UInt8, ¬ tx (hdT l1) = (⟨#[c]⟩ : ByteArray) → p.2 ≠ [c] := fun c h h2 => h (by rw [hpt, h2]; rfl)
          rcases h1 with h1 | h1 | h1
          · exact e 42 (by assumption) h1
          · exact e 43 (by assumption) h1
          · exact e 63 (by assumption) h1
      · have hst : sufT x (l1.map (·.2)) = (x, l1.map (·.2)) := by
          cases l1 with
          | nil => rfl
          | cons p l2 =>
            have h2 : ¬ (p.2 = [42] ∨ p.2 = [43] ∨ p.2 = [63]) := h1
            simp only [not_or] at h2
            rw [List.map_cons, sufT, if_neg h2.1, if_neg h2.2.1, if_neg h2.2.2]
        rw [hst] at hf1
        rw [← hf1]
        simp only [cut_of hs1]
        simp only [not_or] at h1
        (repeat' (first | apply jA | apply jF | apply jH | apply jK | apply jM | apply jN | apply jO | (refine wp_cond rfl (fun hc => ?_) (fun hc => ?_) <;> (try simp only [sB, ne_eq, reduceCtorEq] at hc) <;> (try (exfalso; omega))) | (refine WP.regionC ?_; (refine sassign rfl ?_); apply jW) | (refine WP.regionC (id := 3) ?_; (refine smove rfl ?_); (refine sc_o [0] rfl rfl (peek_fn _ _) (Lend.o1 rfl rfl (by (exact (renL_pure (by simp [AV.bd, bdL, bdL_append])).symm)) rfl (by simp [AV.bd, bdL, bdL_append]) (by simp [AV.bd, bdL, bdL_append])) ?_; simp only [updN, newO, AObj.ren, renL, AV.ren, apx, ap, if_true, if_false, Nat.reduceLT, Nat.reduceAdd, Nat.reduceSub, sO, intA, boolA, strA, ren_pkA, rdA, ren_toks]); (refine su (afieldv rfl rfl) ?_); apply jW) | (refine WP.regionC ?_; (refine seqs rfl rfl ?_); (refine sassign rfl ?_); apply jW) | (refine WP.regionC (id := 4) ?_; (refine sloadpw rfl rfl rfl rfl ?_); (refine se_store_b rfl rfl rfl rfl ?_); apply jW)))
        · exact absurd (tx_inj (hc.trans rfl)) h1.1
        · exact absurd (tx_inj (hc.trans rfl)) h1.2.1
        · exact absurd (tx_inj (hc.trans rfl)) h1.2.2
        · refine bp_r rfl ?_
          refine retO_L (x := exprA x) (k := 1) (os1 := [(0, some (rdA l1 e))]) (.cellT rfl rfl rfl rfl .nil) rfl ⟨[0], ToR.S rfl (by repeat' (first | exact rt_nil | refine rt_p rfl rfl (by first | (simp [AV.bd, bdL, bdL_append]; done) | fail) ?_)) (by repeat' (first | exact ro_nil | refine ro_p rfl (by first | exact rfl | fail) (by first | (simp [bdL, bdL_append, AV.bd]; done) | fail) ?_)) rfl rfl rfl (by (simp [bdT, AV.bd, bdL, bdL_append]; done)) (by repeat' (first | exact True.intro | refine And.intro ?_ ?_ | (simp [bdOq, bdL, bdL_append, AV.bd]; done))) (by exact Nat.le_of_ble_eq_true rfl)⟩ rfl
    · exact ⟨Nat.le_refl _, bd_exprA 1 _⟩
end Go.Lg

namespace Go.Lg
open Go.Proofs
set_option linter.unusedSimpArgs false
set_option linter.unusedVariables false
attribute [local irreducible] Ap Rq asemC WP RunD Ret Gq thenA inBlockA bodyQ noGotoA RqL RqP OpP
set_option maxHeartbeats 4000000
set_option maxRecDepth 20000
attribute [local simp] rdA pkA tokA toks_bd
theorem finA_stop {acc : List GEx} {l : List Tx} (h : hd l ≠ [124]) : finA acc l = .ok acc l := by
  cases l with
  | nil => rfl
  | cons t r => have h' : ¬ t = [124] := h; simp only [finA, if_neg h']
theorem pPrim_name {l : List Tx} (t : Tx) (r : List Tx) (hl : l = t :: r) (h : nmT t = true) : pPrim l = .ok (.mk 1 (tx t) []) r := by rw [hl, pPrim, if_pos h]
theorem pPrim_bad {l : List Tx} (h : isN l = false) (h2 : hd l ≠ [40]) : pPrim l = .err l := by
  cases l with
  | nil => rw [pPrim]
  | cons t r =>
    have h3 : nmT t = false := h
    have h4 : ¬ t = [40] := h2
    rw [pPrim, h3]
    simp [h4]
theorem pPrim_par (r : List Tx) : pPrim ([40] :: r) = match pAlts r with
    | .err q => .err q
    | .ok es q => match pTake [41] q with
      | .err q => .err q
      | .ok _ q' => .ok (altOf es) q' := by
  have nm : nmT [40] = false := by decide
  rw [pPrim, nm]
  simp only [Bool.false_eq_true, if_false, if_true]
  cases pAlts r with
  | err q => rfl
  | ok es q =>
    cases q with
    | nil => rfl
    | cons t q => simp only [pTake]; split <;> rfl
theorem hdT_cons {l : List (Nat × Tx)} {c : Tx} (hc : c ≠ []) (h : hdT l = c) : ∃ p l2, l = p :: l2 ∧ p.2 = c := by
  cases l with
  | nil => exact absurd h.symm hc
  | cons p l2 => exact ⟨p, l2, rfl, h⟩
theorem expect_ok (c : Tx) (hc : c ≠ []) (p : Nat × Tx) (l : List (Nat × Tx)) (e : Int) (h : p.2 = c) : FnO Try.prog 20 [.ptr 0 2 0 0, strA (tx c)] [rdA (p :: l) e] (.tup []) [some (rdA l e)] :=
  (expect_fn (tx c) hc (p :: l) e).oks (by
    have : pTake (bl (tx c)) ((p :: l).map (·.2)) = .ok () (l.map (·.2)) := by have h' : p.2 = bl (tx c) := h; simp only [List.map_cons, pTake, if_pos h']
    rw [this]; simp only [pout, cut_tail])
theorem pTake_bad {c : Tx} {l : List Tx} (hc : c ≠ []) (h : hd l ≠ c) : pTake c l = .err l := by
  cases l with
  | nil => rfl
  | cons t r => have h' : ¬ t = c := h; simp only [pTake, if_neg h']
theorem expect_x (c : Tx) (hc : c ≠ []) (l : List (Nat × Tx)) (e : Int) (h : hdT l ≠ c) : FnX Try.prog 20 [.ptr 0 2 0 0, strA (tx c)] [rdA l e] (synV (pos l e)) :=
  (expect_fn (tx c) hc l e).dies (by
    have : pTake (bl (tx c)) (l.map (·.2)) = .err (l.map (·.2)) := pTake_bad hc h
    rw [this]; simp only [pout, cut_self])
theorem gpprim_of (l : List (Nat × Tx)) (e : Int) (hB : l.length ≤ 1000000) (hs : ∀ l', l' <:+ l → l'.length < l.length → FnP Try.prog 70 [.ptr 0 2 0 0] [rdA l' e] (pout l' e exprA (pSeq (l'.map (·.2))))) :
    FnP Try.prog 85 [.ptr 0 2 0 0] [rdA l e] (pout l e exprA (pPrim (l.map (·.2)))) := by
  cases hn : isN (l.map (·.2)) with
  | true =>
    obtain ⟨p, l2, hl⟩ : ∃ p l2, l = p :: l2 := by
      cases l with
      | nil => cases hn
      | cons p l2 => exact ⟨_, _, rfl⟩
    have hnm : nmT p.2 = true := by rw [hl] at hn; exact hn
    have hO : FnO Try.prog 21 [.ptr 0 2 0 0] [rdA l e] (strA (tx p.2)) [some (rdA l2 e)] := (gpname_fn l e).oks (by rw [hl]; simp only [List.map_cons, pName, hnm, if_true, pout, cut_tail])
    have hout : pout l e exprA (pPrim (l.map (·.2))) = .ok (exprA (.mk 1 (tx p.2) [])) [some (rdA l2 e)] := by
      rw [pPrim_name p.2 (l2.map (·.2)) (by rw [hl]; rfl) hnm]
      simp only [pout, hl, cut_tail]
    rw [hout]
    refine FnP.intro ?_ (by kernel_rfl) Try.func85 rfl rfl Try.ntmps85 (by exact Nat.le_of_ble_eq_true rfl) ?_; rotate_left; intro Γ hm
    · (repeat' (first | apply jA | apply jH | apply jI | (refine wp_cond rfl (fun hc => ?_) (fun hc => ?_) <;> (try simp only [sB, ne_eq, reduceCtorEq] at hc) <;> (try (exfalso; omega))) | (refine WP.regionC (id := 0) ?_; (refine se_alloc rfl ?_); apply jW) | (refine WP.regionC (id := 1) ?_; (refine smove rfl ?_); (refine sc_o [0] rfl rfl (isname_fn _ _) (Lend.o1 rfl rfl (by (exact (renL_pure (by simp [AV.bd, bdL, bdL_append])).symm)) rfl (by simp [AV.bd, bdL, bdL_append]) (by simp [AV.bd, bdL, bdL_append])) ?_; simp only [updN, newO, AObj.ren, renL, AV.ren, apx, ap, if_true, if_false, Nat.reduceLT, Nat.reduceAdd, Nat.reduceSub, sO, intA, boolA, strA, ren_pkA, rdA, ren_toks]); apply jW) | (refine WP.regionC (id := 2) ?_; (refine smove rfl ?_); (refine sc_o [0] rfl rfl (hO) (Lend.o1 rfl rfl (by (exact (renL_pure (by simp [AV.bd, bdL, bdL_append])).symm)) rfl (by simp [AV.bd, bdL, bdL_append]) (by simp [AV.bd, bdL, bdL_append])) ?_; simp only [updN, newO, AObj.ren, renL, AV.ren, apx, ap, if_true, if_false, Nat.reduceLT, Nat.reduceAdd, Nat.reduceSub, sO, intA, boolA, strA, rdA, ren_toks]); (refine su (ap_build (RqP.cons (rq_p rfl rfl) (RqP.cons (rq_p rfl rfl) (RqP.nil))) rfl) ?_); (refine se_store_b rfl rfl rfl rfl ?_); apply jW)))
      · refine wp_nilo 1 2 3 rfl rfl ?_
        refine wp_frzom (L := ([] : List GEx)) (f := exprA) 1 2 hm rfl rfl rfl rfl rfl (bd_exprA 0) (fun _ => rfl) rfl ?_
        refine WP.ret ?_
        refine go_r ?_
        refine bp_r rfl ?_
        refine retO_L (x := exprA (.mk 1 (tx p.2) [])) (k := 1) (os1 := [(0, some (rdA l2 e))]) (.cellT rfl rfl rfl rfl .nil) rfl ⟨[0], ToR.S rfl (by repeat' (first | exact rt_nil | refine rt_e rfl rfl ?_)) (by repeat' (first | exact ro_nil | refine ro_p rfl (by first | exact rfl | fail) (by first | (simp [bdL, bdL_append, AV.bd]; done) | fail) ?_)) rfl rfl rfl (by (simp [bdT, AV.bd, bdL, bdL_append]; done)) (by repeat' (first | exact True.intro | refine And.intro ?_ ?_ | (simp [bdOq, bdL, bdL_append, AV.bd]; done))) (by exact Nat.le_of_ble_eq_true rfl)⟩ rfl
      · exfalso; simp_all
    · exact ⟨Nat.le_refl _, bd_exprA 1 _⟩
  | false =>
    by_cases h40 : hdT l = [40]
    · obtain ⟨p, l2, hl, hp⟩ := hdT_cons (by simp) h40
      have hE : FnO Try.prog 20 [.ptr 0 2 0 0, strA (tx [40])] [rdA l e] (.tup []) [some (rdA l2 e)] := by rw [hl]; exact expect_ok [40] (by simp) p l2 e hp
      have hlt : l2.length < l.length := by rw [hl]; simp
      have hs2 : l2 <:+ l := by rw [hl]; exact List.suffix_cons _ _
      have hpp : pPrim (l.map (·.2)) = match pAlts (l2.map (·.2)) with
          | .err q => .err q
          | .ok es q => match pTake [41] q with
            | .err q => .err q
            | .ok _ q' => .ok (altOf es) q' := by rw [hl, List.map_cons, hp]; exact pPrim_par _
      have hsq := hs l2 hs2 hlt
      cases hq : pItems (l2.map (·.2)) with
      | err q =>
        have hqs : q <:+ l2.map (·.2) := by have := pItems_suf (l2.map (·.2)); rw [hq] at this; exact this
        have hX : FnX Try.prog 70 [.ptr 0 2 0 0] [rdA l2 e] (synV (pos (cut l2 q) e)) := hsq.dies (by simp only [pSeq, hq, pout])
        have hout : pout l e exprA (pPrim (l.map (·.2))) = .die (synV (pos (cut l2 q) e)) := by
          rw [hpp, pAlts_eq, hq]; simp only [pout, cut_cut hs2 hqs]
        rw [hout]
        refine FnP.intro ?_ (by kernel_rfl) Try.func85 rfl rfl Try.ntmps85 (by exact Nat.le_of_ble_eq_true rfl) ?_; rotate_left; intro Γ hm
        · (repeat' (first | apply jA | apply jH | apply jI | apply jT | (refine wp_cond rfl (fun hc => ?_) (fun hc => ?_) <;> (try simp only [sB, ne_eq, reduceCtorEq] at hc) <;> (try (exfalso; omega))) | (refine WP.regionC (id := 0) ?_; (refine se_alloc rfl ?_); apply jW) | (refine WP.regionC (id := 1) ?_; (refine smove rfl ?_); (refine sc_o [0] rfl rfl (isname_fn _ _) (Lend.o1 rfl rfl (by (exact (renL_pure (by simp [AV.bd, bdL, bdL_append])).symm)) rfl (by simp [AV.bd, bdL, bdL_append]) (by simp [AV.bd, bdL, bdL_append])) ?_; simp only [updN, newO, AObj.ren, renL, AV.ren, apx, ap, if_true, if_false, Nat.reduceLT, Nat.reduceAdd, Nat.reduceSub, sO, intA, boolA, strA, ren_pkA, rdA, ren_toks]); apply jW) | (refine wpl_region (id := 3) ?_; (refine wpl_step rfl ?_; (refine smove rfl ?_); apply jW; ((refine wpl_step rfl ?_; (refine sc_o [0] rfl rfl (hE) (Lend.o1 rfl rfl (by (exact (renL_pure (by simp [AV.bd, bdL, bdL_append])).symm)) rfl (by simp [AV.bd, bdL, bdL_append]) (by simp [AV.bd, bdL, bdL_append])) ?_; simp only [updN, newO, AObj.ren, renL, AV.ren, apx, ap, if_true, if_false, Nat.reduceLT, Nat.reduceAdd, Nat.reduceSub, sO, intA, boolA, strA, rdA, ren_toks]); apply jW; (apply jX))))) | (refine wpl_region (id := 4) ?_; (refine wpl_step rfl ?_; (refine smove rfl ?_); apply jW; ((refine wpl_x [0] rfl rfl (hX) (Lend.S (by first | ((repeat' first | exact RenL.nil | refine RenL.cons rfl ?_); done) | fail) (by first | ((repeat' first | exact LendO.nil | refine LendO.arr rfl (by (exact (renL_pure (by simp [AV.bd, bdL, bdL_append])).symm)) ?_); done) | fail) (by decide) rfl (by simp [AV.bd, bdL, bdL_append]) (by repeat' (first | exact True.intro | refine And.intro ?_ ?_ | simp [AV.bd, bdL, bdL_append]))) ?_))))))
          · exfalso; simp_all
          · exact bp_p rfl
        · trivial
      | ok xs0 r0 =>
        have hqs : r0 <:+ l2.map (·.2) := by have := pItems_suf (l2.map (·.2)); rw [hq] at this; exact this
        have hO : FnO Try.prog 70 [.ptr 0 2 0 0] [rdA l2 e] (exprA (seqOf xs0)) [some (rdA (cut l2 r0) e)] := hsq.oks (by simp only [pSeq, hq, pout])
        have hfin : finA [seqOf xs0] r0 = pAlts (l2.map (·.2)) := by rw [pAlts_eq, hq]
        have hcl : (cut l2 r0).length ≤ l2.length := (cut_suf l2 r0).length_le
        refine FnP.intro ?_ (by kernel_rfl) Try.func85 rfl rfl Try.ntmps85 (by exact Nat.le_of_ble_eq_true rfl) ?_; rotate_left; intro Γ hm
        · (repeat' (first | apply jA | apply jF | apply jH | apply jI | (refine wp_cond rfl (fun hc => ?_) (fun hc => ?_) <;> (try simp only [sB, ne_eq, reduceCtorEq] at hc) <;> (try (exfalso; omega))) | (refine WP.regionC (id := 0) ?_; (refine se_alloc rfl ?_); apply jW) | (refine WP.regionC (id := 1) ?_; (refine smove rfl ?_); (refine sc_o [0] rfl rfl (isname_fn _ _) (Lend.o1 rfl rfl (by (exact (renL_pure (by simp [AV.bd, bdL, bdL_append])).symm)) rfl (by simp [AV.bd, bdL, bdL_append]) (by simp [AV.bd, bdL, bdL_append])) ?_; simp only [updN, newO, AObj.ren, renL, AV.ren, apx, ap, if_true, if_false, Nat.reduceLT, Nat.reduceAdd, Nat.reduceSub, sO, intA, boolA, strA, ren_pkA, rdA, ren_toks]); apply jW) | (refine WP.regionC (id := 3) ?_; (refine smove rfl ?_); (refine sc_o [0] rfl rfl (hE) (Lend.o1 rfl rfl (by (exact (renL_pure (by simp [AV.bd, bdL, bdL_append])).symm)) rfl (by simp [AV.bd, bdL, bdL_append]) (by simp [AV.bd, bdL, bdL_append])) ?_; simp only [updN, newO, AObj.ren, renL, AV.ren, apx, ap, if_true, if_false, Nat.reduceLT, Nat.reduceAdd, Nat.reduceSub, sO, intA, boolA, strA, rdA, ren_toks]); apply jW) | (refine WP.regionC (id := 4) ?_; (refine smove rfl ?_); (refine sc_o [0] rfl rfl (hO) (Lend.o1 rfl rfl (by (exact (renL_pure (by simp [AV.bd, bdL, bdL_append])).symm)) rfl (by simp [AV.bd, bdL, bdL_append]) (by simp [AV.bd, bdL, bdL_append])) ?_; simp only [updN, newO, AObj.ren, renL, AV.ren, apx, ap, if_true, if_false, Nat.reduceLT, Nat.reduceAdd, Nat.reduceSub, sO, intA, boolA, strA, rdA, ren_toks, ren_exprA]); (refine se_lit (OpP.cons rfl (OpP.nil)) rfl rfl rfl rfl rfl rfl ?_); (refine sassign rfl ?_); apply jW)))
          · exfalso; simp_all
          refine wp_loop (fun (σ : List GEx × List (Nat × Tx)) => σ.2 <:+ l2 ∧ σ.1 ≠ [] ∧ σ.1.length + σ.2.length ≤ l.length ∧ finA σ.1 (σ.2.map (·.2)) = pAlts (l2.map (·.2))) (fun σ => σ.2.length)
            (fun σ => (S 35 [(0, .ptr 0 2 0 0), (2, .ptr 1 3 0 0), (3, .ref 2 3 0 σ.1.length)] 3 [(0, some (rdA σ.2 e)), (1, some (.arr 3 [.agg [intA 0, strA ⟨#[]⟩, .val (.slice none 0 0)]])), (2, some (.arr 3 (σ.1.map exprA)))])) ([seqOf xs0], cut l2 r0) ⟨[0, 1, 2], ToR.S rfl (by repeat' (first | exact rt_nil | refine rt_r rfl rfl ?_ | refine rt_t rfl rfl ?_)) (by repeat' (first | exact ro_nil | refine ro_e rfl rfl ?_ | refine ro_p rfl (by first | exact rfl | fail) (by first | exact bdL_map (fun _ => by simp [AV.bd, bdL, bdL_append]) _ | (simp [bdL, bdL_append, AV.bd]; done) | fail) ?_)) rfl (by (rw [hm]; exact rfl)) rfl (by (simp [bdT, AV.bd, bdL, bdL_append]; done)) (by repeat' (first | exact True.intro | exact rfl | refine And.intro ?_ ?_ | exact bdL_map (fun _ => by simp [AV.bd, bdL, bdL_append]) _ | (simp [bdOq, bdL, bdL_append, AV.bd]; done))) (by (rw [hm]; exact Nat.le_of_ble_eq_true rfl))⟩ ⟨cut_suf _ _, by simp, by simp only [List.length_cons, List.length_nil]; omega, by rw [cut_map hqs]; exact hfin⟩ ?_
          rintro ⟨acc, l3⟩ ⟨hs3, hne, hn3, hf3⟩
          simp only at hs3 hne hn3 hf3 ⊢
          by_cases hbar : hdT l3 = [124]
          · obtain ⟨p3, l4, hl3, hp3⟩ := hdT_cons (by simp) hbar
            have hN : FnO Try.prog 55 [.ptr 0 2 0 0] [rdA l3 e] (tokA p3) [some (rdA l4 e)] := by rw [hl3]; exact next_fn p3 l4 e
            have hbb : finA acc (l3.map (·.2)) = match pItems (l4.map (·.2)) with
                | .err q' => .err q'
                | .ok xs q' => finA (acc ++ [seqOf xs]) q' := by rw [hl3, List.map_cons, hp3]; exact finA_bar _ _
            have hs4 : l4 <:+ l2 := by rw [hl3] at hs3; exact (List.suffix_cons _ _).trans hs3
            have hlen4 : l4.length < l3.length := by rw [hl3]; simp
            have hle4 := hs4.length_le
            have hsq4 := hs l4 (hs4.trans hs2) (by omega)
            cases hq4 : pItems (l4.map (·.2)) with
            | err q =>
              have hq4s : q <:+ l4.map (·.2) := by have := pItems_suf (l4.map (·.2)); rw [hq4] at this; exact this
              have hX : FnX Try.prog 70 [.ptr 0 2 0 0] [rdA l4 e] (synV (pos (cut l4 q) e)) := hsq4.dies (by simp only [pSeq, hq4, pout])
              have hout : pout l e exprA (pPrim (l.map (·.2))) = .die (synV (pos (cut l4 q) e)) := by
                rw [hpp, ← hf3, hbb, hq4]; simp only [pout, cut_cut (hs4.trans hs2) hq4s]
              rw [hout]
              (repeat' (first | apply jA | apply jF | apply jH | apply jI | apply jJ | apply jL | apply jP | apply jT | apply jU | (refine wp_cond rfl (fun hc => ?_) (fun hc => ?_) <;> (try simp only [sB, ne_eq, reduceCtorEq] at hc) <;> (try (exfalso; omega))) | (refine WP.regionC (id := 5) ?_; (refine smove rfl ?_); (refine sc_o [0] rfl rfl (peek_fn _ _) (Lend.o1 rfl rfl (by (exact (renL_pure (by simp [AV.bd, bdL, bdL_append])).symm)) rfl (by simp [AV.bd, bdL, bdL_append]) (by simp [AV.bd, bdL, bdL_append])) ?_; simp only [updN, newO, AObj.ren, renL, AV.ren, apx, ap, if_true, if_false, Nat.reduceLT, Nat.reduceAdd, Nat.reduceSub, sO, intA, boolA, strA, ren_pkA, rdA, ren_toks]); (refine su (afieldv rfl rfl) ?_); (refine seqs rfl rfl ?_); apply jW) | (refine wpl_region (id := 6) ?_; (refine wpl_step rfl ?_; (refine smove rfl ?_); apply jW; ((refine wpl_step rfl ?_; (refine sc_o [0] rfl rfl (hN) (Lend.o1 rfl rfl (by (exact (renL_pure (by simp [AV.bd, bdL, bdL_append])).symm)) rfl (by simp [AV.bd, bdL, bdL_append]) (by simp [AV.bd, bdL, bdL_append])) ?_; simp only [updN, newO, AObj.ren, renL, AV.ren, apx, ap, if_true, if_false, Nat.reduceLT, Nat.reduceAdd, Nat.reduceSub, sO, intA, boolA, strA, rdA, ren_toks]); apply jW; (apply jX))))) | (refine wpl_region (id := 7) ?_; (refine wpl_step rfl ?_; (refine smove rfl ?_); apply jW; (refine wpl_step rfl ?_; (refine smove rfl ?_); apply jW; ((refine wpl_x [0] rfl rfl (hX) (Lend.S (by first | ((repeat' first | exact RenL.nil | refine RenL.cons rfl ?_); done) | fail) (by first | ((repeat' first | exact LendO.nil | refine LendO.arr rfl (by (exact (renL_pure (by simp [AV.bd, bdL, bdL_append])).symm)) ?_); done) | fail) (by decide) rfl (by simp [AV.bd, bdL, bdL_append]) (by repeat' (first | exact True.intro | refine And.intro ?_ ?_ | simp [AV.bd, bdL, bdL_append]))) ?_)))))))
              · exact bp_p rfl
              · exact absurd (by rw [hbar]; rfl) hc
            | ok xs r =>
              have hq4s : r <:+ l4.map (·.2) := by have := pItems_suf (l4.map (·.2)); rw [hq4] at this; exact this
              have hO4 : FnO Try.prog 70 [.ptr 0 2 0 0] [rdA l4 e] (exprA (seqOf xs)) [some (rdA (cut l4 r) e)] := hsq4.oks (by simp only [pSeq, hq4, pout])
              have hcl4 := (cut_suf l4 r).length_le
              have hnext : (cut l4 r).length < l3.length ∧ cut l4 r <:+ l2 ∧ acc ++ [seqOf xs] ≠ [] ∧ (acc ++ [seqOf xs]).length + (cut l4 r).length ≤ l.length ∧ finA (acc ++ [seqOf xs]) ((cut l4 r).map (·.2)) = pAlts (l2.map (·.2)) := by
                refine ⟨by omega, (cut_suf _ _).trans hs4, by simp, by simp only [List.length_append, List.length_cons, List.length_nil]; omega, ?_⟩
                rw [cut_map hq4s, ← hf3, hbb, hq4]
              (repeat' (first | apply jA | apply jF | apply jH | apply jI | apply jJ | apply jL | apply jN | apply jP | (refine wp_cond rfl (fun hc => ?_) (fun hc => ?_) <;> (try simp only [sB, ne_eq, reduceCtorEq] at hc) <;> (try (exfalso; omega))) | (refine WP.regionC (id := 5) ?_; (refine smove rfl ?_); (refine sc_o [0] rfl rfl (peek_fn _ _) (Lend.o1 rfl rfl (by (exact (renL_pure (by simp [AV.bd, bdL, bdL_append])).symm)) rfl (by simp [AV.bd, bdL, bdL_append]) (by simp [AV.bd, bdL, bdL_append])) ?_; simp only [updN, newO, AObj.ren, renL, AV.ren, apx, ap, if_true, if_false, Nat.reduceLT, Nat.reduceAdd, Nat.reduceSub, sO, intA, boolA, strA, ren_pkA, rdA, ren_toks]); (refine su (afieldv rfl rfl) ?_); (refine seqs rfl rfl ?_); apply jW) | (refine WP.regionC (id := 6) ?_; (refine smove rfl ?_); (refine sc_o [0] rfl rfl (hN) (Lend.o1 rfl rfl (by (exact (renL_pure (by simp [AV.bd, bdL, bdL_append])).symm)) rfl (by simp [AV.bd, bdL, bdL_append]) (by simp [AV.bd, bdL, bdL_append])) ?_; simp only [updN, newO, AObj.ren, renL, AV.ren, apx, ap, if_true, if_false, Nat.reduceLT, Nat.reduceAdd, Nat.reduceSub, sO, intA, boolA, strA, rdA, ren_toks]); apply jW) | (refine WP.regionC (id := 7) ?_; (refine smove rfl ?_); (refine smove rfl ?_); (refine sc_o [0] rfl rfl (hO4) (Lend.o1 rfl rfl (by (exact (renL_pure (by simp [AV.bd, bdL, bdL_append])).symm)) rfl (by simp [AV.bd, bdL, bdL_append]) (by simp [AV.bd, bdL, bdL_append])) ?_; simp only [updN, newO, AObj.ren, renL, AV.ren, apx, ap, if_true, if_false, Nat.reduceLT, Nat.reduceAdd, Nat.reduceSub, sO, intA, boolA, strA, rdA, ren_toks, ren_exprA]); (refine se_lit (OpP.cons rfl (OpP.nil)) rfl rfl rfl rfl rfl rfl ?_); (refine se_app1 rfl rfl rfl rfl rfl rfl rfl rfl (by omega) ?_); (refine sassign rfl ?_); apply jW)))
              · exact ⟨(acc ++ [seqOf xs], cut l4 r), hnext, ⟨[0, 1, 4], ToR.S rfl (by repeat' (first | exact rt_nil | refine rt_r rfl rfl ?_ | refine rt_t rfl rfl ?_)) (by repeat' (first | exact ro_nil | refine ro_e rfl rfl ?_ | refine ro_p rfl (by first | exact rfl | fail) (by first | exact bdL_map (fun _ => by simp [AV.bd, bdL, bdL_append]) _ | (simp [bdL, bdL_append, AV.bd]; done) | fail) ?_)) rfl (by (rw [hm]; exact rfl)) rfl (by (simp [bdT, AV.bd, bdL, bdL_append]; done)) (by repeat' (first | exact True.intro | exact rfl | refine And.intro ?_ ?_ | exact bdL_map (fun _ => by simp [AV.bd, bdL, bdL_append]) _ | (simp [bdOq, bdL, bdL_append, AV.bd]; done))) (by (rw [hm]; exact Nat.le_of_ble_eq_true rfl))⟩⟩
              · exact absurd (by rw [hbar]; rfl) hc
          · have hfe : pAlts (l2.map (·.2)) = .ok acc (l3.map (·.2)) := by rw [← hf3]; exact finA_stop hbar
            rw [hpp, hfe]
            simp only
            by_cases h41 : hdT l3 = [41]
            · obtain ⟨p3, l4, hl3, hp3⟩ := hdT_cons (by simp) h41
              have hE2 : FnO Try.prog 20 [.ptr 0 2 0 0, strA (tx [41])] [rdA l3 e] (.tup []) [some (rdA l4 e)] := by rw [hl3]; exact expect_ok [41] (by simp) p3 l4 e hp3
              have hpt : pTake [41] (l3.map (·.2)) = .ok () (l4.map (·.2)) := by rw [hl3, List.map_cons, pTake, if_pos hp3]
              rw [hpt]
              have hout : pout l e exprA (.ok (altOf acc) (l4.map (·.2))) = .ok (exprA (altOf acc)) [some (rdA l4 e)] := by
                have : l4 <:+ l := (by rw [hl3] at hs3; exact ((List.suffix_cons _ _).trans hs3).trans hs2)
                simp only [pout, cut_of this]
              simp only
              rw [hout]
              (repeat' (first | apply jA | apply jF | apply jH | apply jI | apply jJ | apply jL | apply jP | (refine wp_cond rfl (fun hc => ?_) (fun hc => ?_) <;> (try simp only [sB, ne_eq, reduceCtorEq] at hc) <;> (try (exfalso; omega))) | (refine WP.regionC (id := 5) ?_; (refine smove rfl ?_); (refine sc_o [0] rfl rfl (peek_fn _ _) (Lend.o1 rfl rfl (by (exact (renL_pure (by simp [AV.bd, bdL, bdL_append])).symm)) rfl (by simp [AV.bd, bdL, bdL_append]) (by simp [AV.bd, bdL, bdL_append])) ?_; simp only [updN, newO, AObj.ren, renL, AV.ren, apx, ap, if_true, if_false, Nat.reduceLT, Nat.reduceAdd, Nat.reduceSub, sO, intA, boolA, strA, ren_pkA, rdA, ren_toks]); (refine su (afieldv rfl rfl) ?_); (refine seqs rfl rfl ?_); apply jW) | (refine WP.regionC (id := 8) ?_; (refine smove rfl ?_); (refine sc_o [0] rfl rfl (hE2) (Lend.o1 rfl rfl (by (exact (renL_pure (by simp [AV.bd, bdL, bdL_append])).symm)) rfl (by simp [AV.bd, bdL, bdL_append]) (by simp [AV.bd, bdL, bdL_append])) ?_; simp only [updN, newO, AObj.ren, renL, AV.ren, apx, ap, if_true, if_false, Nat.reduceLT, Nat.reduceAdd, Nat.reduceSub, sO, intA, boolA, strA, rdA, ren_toks]); apply jW)))
              · exact absurd (tx_inj (hc.trans rfl)) hbar
              · refine wp_frzm 3 hm rfl rfl rfl (bd_exprA 0) (fun _ => rfl) rfl ?_
                cases acc with
                | nil => exact absurd rfl hne
                | cons y acc' =>
                  cases acc' with
                  | nil =>
                    (repeat' (first | apply jA | apply jH | apply jI | apply jK | apply jM | (refine wp_cond rfl (fun hc => ?_) (fun hc => ?_) <;> (try simp only [sB, ne_eq, reduceCtorEq] at hc) <;> (try (exfalso; omega))) | (refine WP.regionC (id := 9) ?_; (refine smove rfl ?_); (refine slenm rfl rfl ?_); (refine seql rfl rfl ?_); apply jW) | (refine WP.regionC (id := 10) ?_; (refine smove rfl ?_); (refine sidxn rfl rfl (by (simp only [sL] <;> omega)) ?_); (refine sloadw rfl rfl ?_); (refine se_store_b rfl rfl rfl rfl ?_); apply jW)))
                    · refine bp_r rfl ?_
                      refine retO_L (x := exprA (altOf [y])) (k := 1) (os1 := [(0, some (rdA l4 e))]) (.cellT rfl rfl rfl rfl .nil) rfl ⟨[0], ToR.S rfl (by repeat' (first | exact rt_nil | refine rt_p rfl rfl (by first | (simp [AV.bd, bdL, bdL_append]; done) | fail) ?_)) (by repeat' (first | exact ro_nil | refine ro_p rfl (by first | exact rfl | fail) (by first | (simp [bdL, bdL_append, AV.bd]; done) | fail) ?_)) rfl rfl rfl (by (simp [bdT, AV.bd, bdL, bdL_append]; done)) (by repeat' (first | exact True.intro | refine And.intro ?_ ?_ | (simp [bdOq, bdL, bdL_append, AV.bd]; done))) (by exact Nat.le_of_ble_eq_true rfl)⟩ rfl
                    · exfalso; simp at hc
                  | cons y' acc2 =>
                    (repeat' (first | apply jA | apply jH | apply jI | apply jK | (refine wp_cond rfl (fun hc => ?_) (fun hc => ?_) <;> (try simp only [sB, ne_eq, reduceCtorEq] at hc) <;> (try (exfalso; omega))) | (refine WP.regionC (id := 9) ?_; (refine smove rfl ?_); (refine slenm rfl rfl ?_); (refine seql rfl rfl ?_); apply jW) | (refine WP.regionC (id := 11) ?_; (refine smove rfl ?_); (refine su (ap_build (RqP.cons (rq_p rfl rfl) (RqP.cons (rq_p rfl rfl) (RqP.nil))) rfl) ?_); (refine se_store_b rfl rfl rfl rfl ?_); apply jW)))
                    · exfalso; simp at hc; omega
                    · refine bp_r rfl ?_
                      have he : exprA (altOf (y :: y' :: acc2)) = .agg [intA 3, strA ⟨#[]⟩, .sl 3 ((y :: y' :: acc2).map exprA)] := exprA_mk _ _ _
                      rw [he]
                      refine retO_L (x := .agg [intA 3, strA ⟨#[]⟩, .sl 3 ((y :: y' :: acc2).map exprA)]) (k := 1) (os1 := [(0, some (rdA l4 e))]) (.cellT rfl rfl rfl rfl .nil) rfl ⟨[0], ToR.S rfl (by repeat' (first | exact rt_nil | refine rt_p rfl rfl (by first | (simp [AV.bd, bdL, bdL_append]; done) | fail) ?_)) (by repeat' (first | exact ro_nil | refine ro_p rfl (by first | exact rfl | fail) (by first | (simp [bdL, bdL_append, AV.bd]; done) | fail) ?_)) rfl rfl rfl (by (simp [bdT, AV.bd, bdL, bdL_append]; done)) (by repeat' (first | exact True.intro | refine And.intro ?_ ?_ | (simp [bdOq, bdL, bdL_append, AV.bd]; done))) (by exact Nat.le_of_ble_eq_true rfl)⟩ rfl
            · have hX2 := expect_x [41] (by simp) l3 e h41
              rw [pTake_bad (by simp) h41]
              have hout : pout l e exprA (.err (l3.map (·.2))) = .die (synV (pos l3 e)) := by simp only [pout, cut_of (hs3.trans hs2)]
              simp only
              rw [hout]
              (repeat' (first | apply jA | apply jF | apply jH | apply jI | apply jJ | apply jL | apply jP | apply jT | (refine wp_cond rfl (fun hc => ?_) (fun hc => ?_) <;> (try simp only [sB, ne_eq, reduceCtorEq] at hc) <;> (try (exfalso; omega))) | (refine WP.regionC (id := 5) ?_; (refine smove rfl ?_); (refine sc_o [0] rfl rfl (peek_fn _ _) (Lend.o1 rfl rfl (by (exact (renL_pure (by simp [AV.bd, bdL, bdL_append])).symm)) rfl (by simp [AV.bd, bdL, bdL_append]) (by simp [AV.bd, bdL, bdL_append])) ?_; simp only [updN, newO, AObj.ren, renL, AV.ren, apx, ap, if_true, if_false, Nat.reduceLT, Nat.reduceAdd, Nat.reduceSub, sO, intA, boolA, strA, ren_pkA, rdA, ren_toks]); (refine su (afieldv rfl rfl) ?_); (refine seqs rfl rfl ?_); apply jW) | (refine wpl_region (id := 8) ?_; (refine wpl_step rfl ?_; (refine smove rfl ?_); apply jW; ((refine wpl_x [0] rfl rfl (hX2) (Lend.S (by first | ((repeat' first | exact RenL.nil | refine RenL.cons rfl ?_); done) | fail) (by first | ((repeat' first | exact LendO.nil | refine LendO.arr rfl (by (exact (renL_pure (by simp [AV.bd, bdL, bdL_append])).symm)) ?_); done) | fail) (by decide) rfl (by simp [AV.bd, bdL, bdL_append]) (by repeat' (first | exact True.intro | refine And.intro ?_ ?_ | simp [AV.bd, bdL, bdL_append]))) ?_))))))
              · exact absurd (tx_inj (hc.trans rfl)) hbar
              · exact bp_p rfl
        · exact pout_fine l e exprA (fun x => bd_exprA 1 x) _
    · have hX := expect_x [40] (by simp) l e h40
      have hout : pout l e exprA (pPrim (l.map (·.2))) = .die (synV (pos l e)) := by
        rw [pPrim_bad hn h40]
        simp only [pout, cut_self]
      rw [hout]
      refine FnP.intro ?_ (by kernel_rfl) Try.func85 rfl rfl Try.ntmps85 (by exact Nat.le_of_ble_eq_true rfl) ?_; rotate_left; intro Γ hm
      · (repeat' (first | apply jA | apply jH | apply jI | apply jT | (refine wp_cond rfl (fun hc => ?_) (fun hc => ?_) <;> (try simp only [sB, ne_eq, reduceCtorEq] at hc) <;> (try (exfalso; omega))) | (refine WP.regionC (id := 0) ?_; (refine se_alloc rfl ?_); apply jW) | (refine WP.regionC (id := 1) ?_; (refine smove rfl ?_); (refine sc_o [0] rfl rfl (isname_fn _ _) (Lend.o1 rfl rfl (by (exact (renL_pure (by simp [AV.bd, bdL, bdL_append])).symm)) rfl (by simp [AV.bd, bdL, bdL_append]) (by simp [AV.bd, bdL, bdL_append])) ?_; simp only [updN, newO, AObj.ren, renL, AV.ren, apx, ap, if_true, if_false, Nat.reduceLT, Nat.reduceAdd, Nat.reduceSub, sO, intA, boolA, strA, ren_pkA, rdA, ren_toks]); apply jW) | (refine wpl_region (id := 3) ?_; (refine wpl_step rfl ?_; (refine smove rfl ?_); apply jW; ((refine wpl_x [0] rfl rfl (hX) (Lend.S (by first | ((repeat' first | exact RenL.nil | refine RenL.cons rfl ?_); done) | fail) (by first | ((repeat' first | exact LendO.nil | refine LendO.arr rfl (by (exact (renL_pure (by simp [AV.bd, bdL, bdL_append])).symm)) ?_); done) | fail) (by decide) rfl (by simp [AV.bd, bdL, bdL_append]) (by repeat' (first | exact True.intro | refine And.intro ?_ ?_ | simp [AV.bd, bdL, bdL_append]))) ?_))))))
        · exfalso; simp_all
        · exact bp_p rfl
      · trivial
theorem gp_exprs (n : Nat) : ∀ (l : List (Nat × Tx)) (e : Int), l.length ≤ n → l.length ≤ 1000000 → FnP Try.prog 70 [.ptr 0 2 0 0] [rdA l e] (pout l e exprA (pSeq (l.map (·.2)))) := by
  induction n with
  | zero =>
    intro l e hl hB
    refine gpseq_of l e hB fun l1 h1 => gpitem_of l1 e (gpprim_of l1 e (by have := h1.length_le; omega) fun l2 h2 h3 => ?_)
    have := h1.length_le; omega
  | succ n ih =>
    intro l e hl hB
    refine gpseq_of l e hB fun l1 h1 => gpitem_of l1 e (gpprim_of l1 e (by have := h1.length_le; omega) fun l2 h2 h3 => ih l2 e ?_ ?_)
    · have := h1.length_le; omega
    · have := h1.length_le; omega
theorem gpseq_fn (l : List (Nat × Tx)) (e : Int) (hB : l.length ≤ 1000000) : FnP Try.prog 70 [.ptr 0 2 0 0] [rdA l e] (pout l e exprA (pSeq (l.map (·.2)))) := gp_exprs _ l e (Nat.le_refl _) hB
end Go.Lg

namespace Go.Lg
set_option linter.unusedVariables false
theorem pName_suf (l : List Tx) : (pName l).rest <:+ l := by
  cases l with
  | nil => exact List.suffix_refl _
  | cons t r =>
    simp only [pName]
    split
    · exact List.suffix_cons _ _
    · exact List.suffix_refl _
theorem pName_lt {l : List Tx} {s : ByteArray} {r : List Tx} (h : pName l = .ok s r) : r.length < l.length := by
  cases l with
  | nil => cases h
  | cons t q =>
    simp only [pName] at h
    split at h
    · injection h with h1 h2; subst h2; simp
    · cases h
theorem pTake_suf (c : Tx) (l : List Tx) : (pTake c l).rest <:+ l := by
  cases l with
  | nil => exact List.suffix_refl _
  | cons t r =>
    simp only [pTake]
    split
    · exact List.suffix_cons _ _
    · exact List.suffix_refl _
theorem pTake_lt {c : Tx} {l : List Tx} {r : List Tx} (h : pTake c l = .ok () r) : r.length < l.length := by
  cases l with
  | nil => cases h
  | cons t q =>
    simp only [pTake] at h
    split at h
    · injection h with h1 h2; subst h2; simp
    · cases h
theorem pNames_suf : ∀ l : List Tx, (pNames l).2 <:+ l
  | [] => List.suffix_refl _
  | t :: r => by
    rw [pNames]
    split
    · exact suf_tail (pNames_suf r)
    · exact List.suffix_refl _
theorem pPrice_suf (l : List Tx) : (pPrice l).rest <:+ l := by
  unfold pPrice
  split
  · exact List.suffix_refl _
  · rename_i t r
    split
    · split
      · exact List.nil_suffix
      · split
        · exact suf_tail (List.suffix_cons _ _)
        · exact List.suffix_cons _ _
    · exact List.suffix_refl _
theorem pAlt_suf (l : List Tx) : (pAlt l).rest <:+ l := by
  have h1 := pItems_suf l
  unfold pAlt
  cases h : pItems l with
  | err q => rw [h] at h1; exact h1
  | ok xs r =>
    rw [h] at h1
    have h2 := pPrice_suf r
    simp only
    cases h3 : pPrice r with
    | err q => rw [h3] at h2; exact h2.trans h1
    | ok p q => rw [h3] at h2; exact h2.trans h1
def pLevel (a : Int) (l : List Tx) : PR GLe := match pName l with
  | .err q => .err q
  | .ok n r => match pTake [59] (pNames r).2 with
    | .err q => .err q
    | .ok _ q => .ok ⟨a, n :: (pNames r).1⟩ q
theorem pLevel_suf (a : Int) (l : List Tx) : (pLevel a l).rest <:+ l := by
  have h1 := pName_suf l
  unfold pLevel
  cases h : pName l with
  | err q => rw [h] at h1; exact h1
  | ok n r =>
    rw [h] at h1
    have h2 := pTake_suf [59] (pNames r).2
    simp only
    cases h3 : pTake [59] (pNames r).2 with
    | err q => rw [h3] at h2; exact (h2.trans (pNames_suf r)).trans h1
    | ok p q => rw [h3] at h2; exact (h2.trans (pNames_suf r)).trans h1
def finL (acc : List GLe) (l : List Tx) : PR (List GLe) := match pLevels l with
  | .err q => .err q
  | .ok ls q => .ok (acc ++ ls) q
theorem pLevels_nil : pLevels [] = .ok [] [] := by rw [pLevels]
theorem pLevels_cons (t : Tx) (r : List Tx) : pLevels (t :: r) = match assocOf t with
    | none => .ok [] (t :: r)
    | some a => match pLevel a r with
      | .err q => .err q
      | .ok x q => match pLevels q with
        | .err q => .err q
        | .ok ls q => .ok (x :: ls) q := by
  conv => lhs; rw [pLevels]
  cases assocOf t with
  | none => rfl
  | some a =>
    unfold pLevel
    cases h : pName r with
    | err q => rfl
    | ok n r1 =>
      simp only
      have h0 := pName_lt h
      have h1 := (pNames_suf r1).length_le
      cases h2 : pTake [59] (pNames r1).2 with
      | err q => rfl
      | ok u q =>
        have h3 := pTake_lt h2
        simp only
        rw [dif_pos (by simp only [List.length_cons]; omega)] <;> rfl
def asT (l : List Tx) : Option Int := match l with
  | [] => none
  | t :: _ => assocOf t
theorem finL_stop {acc : List GLe} {l : List Tx} (h : asT l = none) : finL acc l = .ok acc l := by
  cases l with
  | nil => simp [finL, pLevels_nil]
  | cons t r =>
    have h' : assocOf t = none := h
    simp [finL, pLevels_cons, h']
theorem finL_step {acc : List GLe} {t : Tx} {r : List Tx} {a : Int} (h : assocOf t = some a) : finL acc (t :: r) = match pLevel a r with
    | .err q => .err q
    | .ok x q => finL (acc ++ [x]) q := by
  simp only [finL, pLevels_cons, h]
  cases pLevel a r with
  | err q => rfl
  | ok x q =>
    simp only [finL]
    cases pLevels q with
    | err q => rfl
    | ok ls q => simp
theorem finL_nil (l : List Tx) : finL [] l = pLevels l := by unfold finL; cases pLevels l <;> rfl
def finR (acc : List GAl) (r : List Tx) : PR (List GAl) := match r with
  | [] => .ok acc []
  | t :: q => if t = [124] then (match pAltsR q with
    | .err q' => .err q'
    | .ok es q' => .ok (acc ++ es) q') else .ok acc (t :: q)
theorem pAltsR_eq (l : List Tx) : pAltsR l = match pAlt l with
    | .err q => .err q
    | .ok a q => finR [a] q := by
  conv => lhs; rw [pAltsR]
  cases h : pAlt l with
  | err q => rfl
  | ok xs q =>
    cases q with
    | nil => rfl
    | cons t q =>
      have h1 := (pAlt_suf l).length_le
      rw [h] at h1
      simp [PR.rest] at h1
      simp only [finR]
      split
      · rw [dif_pos (by omega)]; rfl
      · rfl
theorem finR_bar (acc : List GAl) (q : List Tx) : finR acc ([124] :: q) = match pAlt q with
    | .err q' => .err q'
    | .ok a q' => finR (acc ++ [a]) q' := by
  simp only [finR, if_true]
  rw [pAltsR_eq]
  cases h : pAlt q with
  | err q' => rfl
  | ok xs q' =>
    cases q' with
    | nil => rfl
    | cons t r =>
      simp only [finR]
      by_cases ht : t = [124]
      · simp only [if_pos ht]
        cases h2 : pAltsR r with
        | err q2 => rfl
        | ok es q2 => simp
      · simp only [if_neg ht]
theorem finR_stop {acc : List GAl} {l : List Tx} (h : hd l ≠ [124]) : finR acc l = .ok acc l := by
  cases l with
  | nil => rfl
  | cons t r => have h' : ¬ t = [124] := h; simp only [finR, if_neg h']
theorem pAltsR_suf (n : Nat) : ∀ l : List Tx, l.length ≤ n → (pAltsR l).rest <:+ l := by
  induction n with
  | zero =>
    intro l hl
    obtain rfl : l = [] := List.eq_nil_of_length_eq_zero (by omega)
    rw [pAltsR_eq]
    have h1 := pAlt_suf []
    cases h : pAlt [] with
    | err q => rw [h] at h1; exact h1
    | ok a q =>
      rw [h] at h1
      obtain rfl : q = [] := List.suffix_nil.1 h1
      exact List.suffix_refl _
  | succ n ih =>
    intro l hl
    rw [pAltsR_eq]
    have h1 := pAlt_suf l
    cases h : pAlt l with
    | err q => rw [h] at h1; exact h1
    | ok a q =>
      rw [h] at h1
      cases q with
      | nil => exact List.nil_suffix
      | cons t q =>
        have h2 := h1.length_le
        simp only [PR.rest, List.length_cons] at h2
        simp only [finR]
        split
        · have h3 := ih q (by omega)
          cases h4 : pAltsR q with
          | err q' => rw [h4] at h3; exact (suf_tail h3).trans h1
          | ok es q' => rw [h4] at h3; exact (suf_tail h3).trans h1
        · exact h1
theorem pRule_suf (l : List Tx) : (pRule l).rest <:+ l := by
  unfold pRule
  have h1 := pName_suf l
  cases e1 : pName l with
  | err q => rw [e1] at h1; exact h1
  | ok n r =>
    rw [e1] at h1
    have h2 := pTake_suf [61] r
    simp only
    cases e2 : pTake [61] r with
    | err q => rw [e2] at h2; exact h2.trans h1
    | ok u r1 =>
      rw [e2] at h2
      have h3 := pAltsR_suf _ r1 (Nat.le_refl _)
      simp only
      cases e3 : pAltsR r1 with
      | err q => rw [e3] at h3; exact (h3.trans h2).trans h1
      | ok ys r2 =>
        rw [e3] at h3
        have h4 := pTake_suf [59] r2
        simp only
        cases e4 : pTake [59] r2 with
        | err q => rw [e4] at h4; exact ((h4.trans h3).trans h2).trans h1
        | ok u r3 => rw [e4] at h4; exact ((h4.trans h3).trans h2).trans h1
theorem pRule_lt {l : List Tx} {x : GRu} {r : List Tx} (h : pRule l = .ok x r) : r.length < l.length := by
  unfold pRule at h
  cases e1 : pName l with
  | err q => rw [e1] at h; cases h
  | ok n r0 =>
    have h1 := pName_lt e1
    rw [e1] at h
    simp only at h
    cases e2 : pTake [61] r0 with
    | err q => rw [e2] at h; cases h
    | ok u r1 =>
      have h2 := pTake_lt e2
      rw [e2] at h
      have h3 := (pAltsR_suf _ r1 (Nat.le_refl _)).length_le
      simp only at h
      cases e3 : pAltsR r1 with
      | err q => rw [e3] at h; cases h
      | ok ys r2 =>
        rw [e3] at h h3
        simp only [PR.rest] at h h3
        cases e4 : pTake [59] r2 with
        | err q => rw [e4] at h; cases h
        | ok u r3 =>
          rw [e4] at h
          have h4 := pTake_lt e4
          injection h with h5 h6
          subst h6
          omega
def finU (acc : List GRu) (l : List Tx) : PR (List GRu) := match pRules l with
  | .err q => .err q
  | .ok xs q => .ok (acc ++ xs) q
theorem finU_nil (l : List Tx) : finU [] l = pRules l := by unfold finU; cases pRules l <;> rfl
theorem finU_stop (acc : List GRu) : finU acc [] = .ok acc [] := by
  have : pRules [] = .ok [] [] := by rw [pRules]
  simp [finU, this]
theorem finU_step (acc : List GRu) (t : Tx) (r : List Tx) : finU acc (t :: r) = match pRule (t :: r) with
    | .err q => .err q
    | .ok x q => finU (acc ++ [x]) q := by
  have h0 : pRules (t :: r) = match pRule (t :: r) with
      | .err q => .err q
      | .ok x q => match pRules q with
        | .err q' => .err q'
        | .ok xs q' => .ok (x :: xs) q' := by
    conv => lhs; rw [pRules]
    cases h : pRule (t :: r) with
    | err q => rfl
    | ok x q =>
      have := pRule_lt h
      simp only
      rw [dif_pos this] <;> rfl
  unfold finU
  rw [h0]
  cases h : pRule (t :: r) with
  | err q => rfl
  | ok x q =>
    simp only
    cases pRules q with
    | err q' => rfl
    | ok xs q' => simp
theorem pLevels_suf (n : Nat) : ∀ l : List Tx, l.length ≤ n → (pLevels l).rest <:+ l := by
  induction n with
  | zero =>
    intro l hl
    obtain rfl : l = [] := List.eq_nil_of_length_eq_zero (by omega)
    rw [pLevels_nil]; exact List.suffix_refl _
  | succ n ih =>
    intro l hl
    cases l with
    | nil => rw [pLevels_nil]; exact List.suffix_refl _
    | cons t r =>
      rw [pLevels_cons]
      cases assocOf t with
      | none => exact List.suffix_refl _
      | some a =>
        have h1 := pLevel_suf a r
        simp only
        cases h : pLevel a r with
        | err q => rw [h] at h1; exact suf_tail h1
        | ok x q =>
          rw [h] at h1
          simp only [PR.rest] at h1
          have hle := h1.length_le
          have h2 := ih q (by simp at hl; omega)
          simp only
          cases h3 : pLevels q with
          | err q' => rw [h3] at h2; exact suf_tail (h2.trans h1)
          | ok ls q' => rw [h3] at h2; exact suf_tail (h2.trans h1)
end Go.Lg

namespace Go.Lg
open Go.Proofs
set_option linter.unusedSimpArgs false
set_option linter.unusedVariables false
attribute [local irreducible] Ap Rq asemC WP RunD Ret Gq thenA inBlockA bodyQ noGotoA RqL RqP OpP
set_option maxHeartbeats 4000000
set_option maxRecDepth 20000
attribute [local simp] rdA pkA tokA toks_bd
def NumW (l : List (Nat × Tx)) : Prop := ∀ p, p ∈ l → isNum p.2 = true → 0 ≤ numV p.2
theorem NumW.suf {l l' : List (Nat × Tx)} (h : NumW l) (hs : l' <:+ l) : NumW l' := fun p hp => h p (hs.subset hp)
theorem tx_eq {t : Tx} {k : ByteArray} (h : tx t = k) : t = bl k := by rw [← h]; rfl
theorem gpalt_fn (l : List (Nat × Tx)) (e : Int) (hB : l.length ≤ 1000000) (hW : NumW l) : FnP Try.prog 58 [.ptr 0 2 0 0] [rdA l e] (pout l e altA (pAlt (l.map (·.2)))) := by
  have hsq := gpseq_fn l e hB
  cases hq : pItems (l.map (·.2)) with
  | err q =>
    have hX : FnX Try.prog 70 [.ptr 0 2 0 0] [rdA l e] (synV (pos (cut l q) e)) := hsq.dies (by simp only [pSeq, hq, pout])
    have hout : pout l e altA (pAlt (l.map (·.2))) = .die (synV (pos (cut l q) e)) := by simp only [pAlt, hq, pout]
    rw [hout]
    refine FnP.intro ?_ (by kernel_rfl) Try.func58 rfl rfl Try.ntmps58 (by exact Nat.le_of_ble_eq_true rfl) ?_; rotate_left; intro Γ hm
    · (repeat' (first | apply jA | apply jH | apply jT | (refine WP.regionC (id := 0) ?_; (refine se_alloc rfl ?_); apply jW) | (refine wpl_region (id := 1) ?_; (refine wpl_step rfl ?_; (refine smove rfl ?_); apply jW; ((refine wpl_x [0] rfl rfl (hX) (Lend.S (by first | ((repeat' first | exact RenL.nil | refine RenL.cons rfl ?_); done) | fail) (by first | ((repeat' first | exact LendO.nil | refine LendO.arr rfl (by (exact (renL_pure (by simp [AV.bd, bdL, bdL_append])).symm)) ?_); done) | fail) (by decide) rfl (by simp [AV.bd, bdL, bdL_append]) (by repeat' (first | exact True.intro | refine And.intro ?_ ?_ | simp [AV.bd, bdL, bdL_append]))) ?_))))))
      exact bp_p rfl
    · trivial
  | ok xs r =>
    have hr : r <:+ l.map (·.2) := by have := pItems_suf (l.map (·.2)); rw [hq] at this; exact this
    have hO : FnO Try.prog 70 [.ptr 0 2 0 0] [rdA l e] (exprA (seqOf xs)) [some (rdA (cut l r) e)] := hsq.oks (by simp only [pSeq, hq, pout])
    have hs1 := cut_suf l r
    have hm1 := cut_map hr
    generalize hl1 : cut l r = l1 at *
    have hpa : pAlt (l.map (·.2)) = match pPrice (l1.map (·.2)) with
        | .err q => .err q
        | .ok p q => .ok ⟨seqOf xs, p⟩ q := by rw [hm1]; simp only [pAlt, hq] <;> cases pPrice r <;> rfl
    by_cases hpr : hdT l1 = bl kw4
    · obtain ⟨p, l2, hl2, hp2⟩ := hdT_cons (by decide) hpr
      have hN : FnO Try.prog 55 [.ptr 0 2 0 0] [rdA l1 e] (tokA p) [some (rdA l2 e)] := by rw [hl2]; exact next_fn p l2 e
      have hs2 : l2 <:+ l := by rw [hl2] at hs1; exact (List.suffix_cons _ _).trans hs1
      have htx : tx (hdT l1) = kw4 := by rw [hpr, tx_bl]
      cases hnm : isNum (hdT l2) with
      | false =>
        have hpp : pPrice (l1.map (·.2)) = .err (l2.map (·.2)) := by
          rw [hl2, List.map_cons]
          cases l2 with
          | nil => simp only [pPrice, hp2, if_true, List.map_nil]
          | cons p2 l3 =>
            have : isNum p2.2 = false := hnm
            simp only [pPrice, hp2, if_true, List.map_cons, this, Bool.false_eq_true, if_false]
        have htk : tkNum (hdT l2) = -1 := by simp only [tkNum, hnm, Bool.false_eq_true, if_false]
        have hout : pout l e altA (pAlt (l.map (·.2))) = .die (synV (pos l2 e)) := by rw [hpa, hpp]; simp only [pout, cut_of hs2]
        rw [hout]
        refine FnP.intro ?_ (by kernel_rfl) Try.func58 rfl rfl Try.ntmps58 (by exact Nat.le_of_ble_eq_true rfl) ?_; rotate_left; intro Γ hm
        · (repeat' (first | apply jA | apply jH | apply jI | apply jT | (refine wp_cond rfl (fun hc => ?_) (fun hc => ?_) <;> (try simp only [sB, ne_eq, reduceCtorEq] at hc) <;> (try (exfalso; omega))) | (refine WP.regionC (id := 0) ?_; (refine se_alloc rfl ?_); apply jW) | (refine wpl_region (id := 1) ?_; (refine wpl_step rfl ?_; (refine smove rfl ?_); apply jW; ((refine wpl_step rfl ?_; (refine sc_o [0] rfl rfl (hO) (Lend.o1 rfl rfl (by (exact (renL_pure (by simp [AV.bd, bdL, bdL_append])).symm)) rfl (by simp [AV.bd, bdL, bdL_append]) (by simp [AV.bd, bdL, bdL_append])) ?_; simp only [updN, newO, AObj.ren, renL, AV.ren, apx, ap, if_true, if_false, Nat.reduceLT, Nat.reduceAdd, Nat.reduceSub, sO, intA, boolA, strA, rdA, ren_toks, ren_exprA]); apply jW; (refine wpl_step rfl ?_; (refine su (ap_build (RqP.cons (rq_p rfl rfl) (RqP.nil)) rfl) ?_); apply jW; (refine wpl_step rfl ?_; (refine se_alloc rfl ?_); apply jW; (refine wpl_step rfl ?_; (refine se_store_b rfl rfl rfl rfl ?_); apply jW; (apply jX)))))))) | (refine WP.regionC (id := 2) ?_; (refine smove rfl ?_); (refine sc_o [0] rfl rfl (peek_fn _ _) (Lend.o1 rfl rfl (by (exact (renL_pure (by simp [AV.bd, bdL, bdL_append])).symm)) rfl (by simp [AV.bd, bdL, bdL_append]) (by simp [AV.bd, bdL, bdL_append])) ?_; simp only [updN, newO, AObj.ren, renL, AV.ren, apx, ap, if_true, if_false, Nat.reduceLT, Nat.reduceAdd, Nat.reduceSub, sO, intA, boolA, strA, ren_pkA, rdA, ren_toks]); (refine su (afieldv rfl rfl) ?_); (refine seqs rfl rfl ?_); apply jW) | (refine wpl_region (id := 3) ?_; (refine wpl_step rfl ?_; (refine smove rfl ?_); apply jW; ((refine wpl_step rfl ?_; (refine sc_o [0] rfl rfl (hN) (Lend.o1 rfl rfl (by (exact (renL_pure (by simp [AV.bd, bdL, bdL_append])).symm)) rfl (by simp [AV.bd, bdL, bdL_append]) (by simp [AV.bd, bdL, bdL_append])) ?_; simp only [updN, newO, AObj.ren, renL, AV.ren, apx, ap, if_true, if_false, Nat.reduceLT, Nat.reduceAdd, Nat.reduceSub, sO, intA, boolA, strA, rdA, ren_toks]); apply jW; (apply jX))))) | (refine WP.regionC (id := 4) ?_; (refine smove rfl ?_); (refine sc_o [0] rfl rfl (peek_fn _ _) (Lend.o1 rfl rfl (by (exact (renL_pure (by simp [AV.bd, bdL, bdL_append])).symm)) rfl (by simp [AV.bd, bdL, bdL_append]) (by simp [AV.bd, bdL, bdL_append])) ?_; simp only [updN, newO, AObj.ren, renL, AV.ren, apx, ap, if_true, if_false, Nat.reduceLT, Nat.reduceAdd, Nat.reduceSub, sO, intA, boolA, strA, ren_pkA, rdA, ren_toks]); (refine su (afieldv rfl rfl) ?_); (refine slss rfl rfl ?_); apply jW) | (refine wpl_region (id := 5) ?_; (refine wpl_step rfl ?_; (refine smove rfl ?_); apply jW; ((refine wpl_x [0] rfl rfl (fail_fn l2 e) (Lend.S (by first | ((repeat' first | exact RenL.nil | refine RenL.cons rfl ?_); done) | fail) (by first | ((repeat' first | exact LendO.nil | refine LendO.arr rfl (by (exact (renL_pure (by simp [AV.bd, bdL, bdL_append])).symm)) ?_); done) | fail) (by decide) rfl (by simp [AV.bd, bdL, bdL_append]) (by repeat' (first | exact True.intro | refine And.intro ?_ ?_ | simp [AV.bd, bdL, bdL_append]))) ?_))))))
          · exact bp_p rfl
          · exact absurd htx hc
        · trivial
      | true =>
        obtain ⟨p2, l3, hl3⟩ : ∃ p2 l3, l2 = p2 :: l3 := by
          cases l2 with
          | nil => cases hnm
          | cons p2 l3 => exact ⟨_, _, rfl⟩
        have hn2 : isNum p2.2 = true := by rw [hl3] at hnm; exact hnm
        have hN2 : FnO Try.prog 55 [.ptr 0 2 0 0] [rdA l2 e] (tokA p2) [some (rdA l3 e)] := by rw [hl3]; exact next_fn p2 l3 e
        have hpp : pPrice (l1.map (·.2)) = .ok (numV p2.2) (l3.map (·.2)) := by
          rw [hl2, hl3]
          simp only [pPrice, hp2, if_true, List.map_cons, hn2]
        have h0 : 0 ≤ numV p2.2 := hW p2 (hs2.subset (by rw [hl3]; simp)) hn2
        have htk : tkNum (hdT l2) = numV p2.2 := by rw [hl3]; show tkNum p2.2 = _; simp only [tkNum, hn2, if_true]
        have htk2 : tkNum p2.2 = numV p2.2 := by simp only [tkNum, hn2, if_true]
        have hs3 : l3 <:+ l := by rw [hl3] at hs2; exact (List.suffix_cons _ _).trans hs2
        have hout : pout l e altA (pAlt (l.map (·.2))) = .ok (altA ⟨seqOf xs, tkNum p2.2⟩) [some (rdA l3 e)] := by rw [hpa, hpp, htk2]; simp only [pout, cut_of hs3]
        rw [hout]
        refine FnP.intro ?_ (by kernel_rfl) Try.func58 rfl rfl Try.ntmps58 (by exact Nat.le_of_ble_eq_true rfl) ?_; rotate_left; intro Γ hm
        · (repeat' (first | apply jA | apply jH | apply jI | apply jK | (refine wp_cond rfl (fun hc => ?_) (fun hc => ?_) <;> (try simp only [sB, ne_eq, reduceCtorEq] at hc) <;> (try (exfalso; omega))) | (refine WP.regionC (id := 0) ?_; (refine se_alloc rfl ?_); apply jW) | (refine WP.regionC (id := 1) ?_; (refine smove rfl ?_); (refine sc_o [0] rfl rfl (hO) (Lend.o1 rfl rfl (by (exact (renL_pure (by simp [AV.bd, bdL, bdL_append])).symm)) rfl (by simp [AV.bd, bdL, bdL_append]) (by simp [AV.bd, bdL, bdL_append])) ?_; simp only [updN, newO, AObj.ren, renL, AV.ren, apx, ap, if_true, if_false, Nat.reduceLT, Nat.reduceAdd, Nat.reduceSub, sO, intA, boolA, strA, rdA, ren_toks, ren_exprA]); (refine su (ap_build (RqP.cons (rq_p rfl rfl) (RqP.nil)) rfl) ?_); (refine se_alloc rfl ?_); (refine se_store_b rfl rfl rfl rfl ?_); apply jW) | (refine WP.regionC (id := 2) ?_; (refine smove rfl ?_); (refine sc_o [0] rfl rfl (peek_fn _ _) (Lend.o1 rfl rfl (by (exact (renL_pure (by simp [AV.bd, bdL, bdL_append])).symm)) rfl (by simp [AV.bd, bdL, bdL_append]) (by simp [AV.bd, bdL, bdL_append])) ?_; simp only [updN, newO, AObj.ren, renL, AV.ren, apx, ap, if_true, if_false, Nat.reduceLT, Nat.reduceAdd, Nat.reduceSub, sO, intA, boolA, strA, ren_pkA, rdA, ren_toks]); (refine su (afieldv rfl rfl) ?_); (refine seqs rfl rfl ?_); apply jW) | (refine WP.regionC (id := 3) ?_; (refine smove rfl ?_); (refine sc_o [0] rfl rfl (hN) (Lend.o1 rfl rfl (by (exact (renL_pure (by simp [AV.bd, bdL, bdL_append])).symm)) rfl (by simp [AV.bd, bdL, bdL_append]) (by simp [AV.bd, bdL, bdL_append])) ?_; simp only [updN, newO, AObj.ren, renL, AV.ren, apx, ap, if_true, if_false, Nat.reduceLT, Nat.reduceAdd, Nat.reduceSub, sO, intA, boolA, strA, rdA, ren_toks]); apply jW) | (refine WP.regionC (id := 4) ?_; (refine smove rfl ?_); (refine sc_o [0] rfl rfl (peek_fn _ _) (Lend.o1 rfl rfl (by (exact (renL_pure (by simp [AV.bd, bdL, bdL_append])).symm)) rfl (by simp [AV.bd, bdL, bdL_append]) (by simp [AV.bd, bdL, bdL_append])) ?_; simp only [updN, newO, AObj.ren, renL, AV.ren, apx, ap, if_true, if_false, Nat.reduceLT, Nat.reduceAdd, Nat.reduceSub, sO, intA, boolA, strA, ren_pkA, rdA, ren_toks]); (refine su (afieldv rfl rfl) ?_); (refine slss rfl rfl ?_); apply jW) | (refine WP.regionC (id := 6) ?_; (refine smove rfl ?_); (refine sc_o [0] rfl rfl (hN2) (Lend.o1 rfl rfl (by (exact (renL_pure (by simp [AV.bd, bdL, bdL_append])).symm)) rfl (by simp [AV.bd, bdL, bdL_append]) (by simp [AV.bd, bdL, bdL_append])) ?_; simp only [updN, newO, AObj.ren, renL, AV.ren, apx, ap, if_true, if_false, Nat.reduceLT, Nat.reduceAdd, Nat.reduceSub, sO, intA, boolA, strA, rdA, ren_toks]); (refine su (afieldv rfl rfl) ?_); (refine sfieldp rfl rfl rfl ?_); (refine se_store_b rfl rfl rfl rfl ?_); apply jW) | (refine WP.regionC (id := 7) ?_; (refine sloadpw rfl rfl rfl rfl ?_); (refine se_store_b rfl rfl rfl rfl ?_); apply jW)))
          · refine bp_r rfl ?_
            refine retO_L (x := altA ⟨seqOf xs, tkNum p2.2⟩) (k := 1) (os1 := [(0, some (rdA l3 e))]) (.cellT rfl rfl rfl rfl .nil) rfl ⟨[0], ToR.S rfl (by repeat' (first | exact rt_nil | refine rt_p rfl rfl (by first | (simp [AV.bd, bdL, bdL_append]; done) | fail) ?_)) (by repeat' (first | exact ro_nil | refine ro_p rfl (by first | exact rfl | fail) (by first | (simp [bdL, bdL_append, AV.bd]; done) | fail) ?_)) rfl rfl rfl (by (simp [bdT, AV.bd, bdL, bdL_append]; done)) (by repeat' (first | exact True.intro | refine And.intro ?_ ?_ | (simp [bdOq, bdL, bdL_append, AV.bd]; done))) (by exact Nat.le_of_ble_eq_true rfl)⟩ rfl
          · exact absurd htx hc
        · exact ⟨Nat.le_refl _, bd_altA 1 _⟩
    · have hpp : pPrice (l1.map (·.2)) = .ok 0 (l1.map (·.2)) := by
        cases l1 with
        | nil => rfl
        | cons p l2 => have h' : ¬ p.2 = bl kw4 := hpr; simp only [pPrice, List.map_cons, if_neg h']
      have hout : pout l e altA (pAlt (l.map (·.2))) = .ok (altA ⟨seqOf xs, 0⟩) [some (rdA l1 e)] := by rw [hpa, hpp]; simp only [pout, cut_of hs1]
      rw [hout]
      refine FnP.intro ?_ (by kernel_rfl) Try.func58 rfl rfl Try.ntmps58 (by exact Nat.le_of_ble_eq_true rfl) ?_; rotate_left; intro Γ hm
      · (repeat' (first | apply jA | apply jH | apply jI | apply jK | (refine wp_cond rfl (fun hc => ?_) (fun hc => ?_) <;> (try simp only [sB, ne_eq, reduceCtorEq] at hc) <;> (try (exfalso; omega))) | (refine WP.regionC (id := 0) ?_; (refine se_alloc rfl ?_); apply jW) | (refine WP.regionC (id := 1) ?_; (refine smove rfl ?_); (refine sc_o [0] rfl rfl (hO) (Lend.o1 rfl rfl (by (exact (renL_pure (by simp [AV.bd, bdL, bdL_append])).symm)) rfl (by simp [AV.bd, bdL, bdL_append]) (by simp [AV.bd, bdL, bdL_append])) ?_; simp only [updN, newO, AObj.ren, renL, AV.ren, apx, ap, if_true, if_false, Nat.reduceLT, Nat.reduceAdd, Nat.reduceSub, sO, intA, boolA, strA, rdA, ren_toks, ren_exprA]); (refine su (ap_build (RqP.cons (rq_p rfl rfl) (RqP.nil)) rfl) ?_); (refine se_alloc rfl ?_); (refine se_store_b rfl rfl rfl rfl ?_); apply jW) | (refine WP.regionC (id := 2) ?_; (refine smove rfl ?_); (refine sc_o [0] rfl rfl (peek_fn _ _) (Lend.o1 rfl rfl (by (exact (renL_pure (by simp [AV.bd, bdL, bdL_append])).symm)) rfl (by simp [AV.bd, bdL, bdL_append]) (by simp [AV.bd, bdL, bdL_append])) ?_; simp only [updN, newO, AObj.ren, renL, AV.ren, apx, ap, if_true, if_false, Nat.reduceLT, Nat.reduceAdd, Nat.reduceSub, sO, intA, boolA, strA, ren_pkA, rdA, ren_toks]); (refine su (afieldv rfl rfl) ?_); (refine seqs rfl rfl ?_); apply jW) | (refine WP.regionC (id := 7) ?_; (refine sloadpw rfl rfl rfl rfl ?_); (refine se_store_b rfl rfl rfl rfl ?_); apply jW)))
        · exact absurd (tx_eq hc) hpr
        · refine bp_r rfl ?_
          refine retO_L (x := altA ⟨seqOf xs, 0⟩) (k := 1) (os1 := [(0, some (rdA l1 e))]) (.cellT rfl rfl rfl rfl .nil) rfl ⟨[0], ToR.S rfl (by repeat' (first | exact rt_nil | refine rt_p rfl rfl (by first | (simp [AV.bd, bdL, bdL_append]; done) | fail) ?_)) (by repeat' (first | exact ro_nil | refine ro_p rfl (by first | exact rfl | fail) (by first | (simp [bdL, bdL_append, AV.bd]; done) | fail) ?_)) rfl rfl rfl (by (simp [bdT, AV.bd, bdL, bdL_append]; done)) (by repeat' (first | exact True.intro | refine And.intro ?_ ?_ | (simp [bdOq, bdL, bdL_append, AV.bd]; done))) (by exact Nat.le_of_ble_eq_true rfl)⟩ rfl
      · exact ⟨Nat.le_refl _, bd_altA 1 _⟩
end Go.Lg

namespace Go.Lg
open Go.Proofs
set_option linter.unusedSimpArgs false
set_option linter.unusedVariables false
attribute [local irreducible] Ap Rq asemC WP RunD Ret Gq thenA inBlockA bodyQ noGotoA RqL RqP OpP
set_option maxHeartbeats 4000000
set_option maxRecDepth 20000
attribute [local simp] rdA pkA tokA toks_bd
theorem gpname_ok (p : Nat × Tx) (l : List (Nat × Tx)) (e : Int) (h : nmT p.2 = true) : FnO Try.prog 21 [.ptr 0 2 0 0] [rdA (p :: l) e] (strA (tx p.2)) [some (rdA l e)] :=
  (gpname_fn (p :: l) e).oks (by simp only [List.map_cons, pName, h, if_true, pout, cut_tail])
theorem gplevel_fn (a : Int) (p : Nat × Tx) (l : List (Nat × Tx)) (e : Int) (hB : l.length ≤ 1000000) : FnP Try.prog 57 [.ptr 0 2 0 0, intA a] [rdA (p :: l) e] (pout l e levelA (pLevel a (l.map (·.2)))) := by
  have hN := next_fn p l e
  have hnm := gpname_fn l e
  generalize hL : p :: l = L at *
  cases hq : pName (l.map (·.2)) with
  | err q =>
    have hX : FnX Try.prog 21 [.ptr 0 2 0 0] [rdA l e] (synV (pos (cut l q) e)) := hnm.dies (by rw [hq]; simp only [pout])
    have hout : pout l e levelA (pLevel a (l.map (·.2))) = .die (synV (pos (cut l q) e)) := by simp only [pLevel, hq, pout]
    rw [hout]
    refine FnP.intro ?_ (by kernel_rfl) Try.func57 rfl rfl Try.ntmps57 (by exact Nat.le_of_ble_eq_true rfl) ?_; rotate_left; intro Γ hm
    · (repeat' (first | apply jA | apply jH | apply jT | (refine WP.regionC (id := 0) ?_; (refine se_alloc rfl ?_); apply jW) | (refine wpl_region (id := 1) ?_; (refine wpl_step rfl ?_; (refine smove rfl ?_); apply jW; ((refine wpl_step rfl ?_; (refine sc_o [0] rfl rfl (hN) (Lend.o1 rfl rfl (by (exact (renL_pure (by simp [AV.bd, bdL, bdL_append])).symm)) rfl (by simp [AV.bd, bdL, bdL_append]) (by simp [AV.bd, bdL, bdL_append])) ?_; simp only [updN, newO, AObj.ren, renL, AV.ren, apx, ap, if_true, if_false, Nat.reduceLT, Nat.reduceAdd, Nat.reduceSub, sO, intA, boolA, strA, rdA, ren_toks]); apply jW; (apply jX))))) | (refine wpl_region (id := 2) ?_; (refine wpl_step rfl ?_; (refine smove rfl ?_); apply jW; (refine wpl_step rfl ?_; (refine smove rfl ?_); apply jW; ((refine wpl_x [0] rfl rfl (hX) (Lend.S (by first | ((repeat' first | exact RenL.nil | refine RenL.cons rfl ?_); done) | fail) (by first | ((repeat' first | exact LendO.nil | refine LendO.arr rfl (by (exact (renL_pure (by simp [AV.bd, bdL, bdL_append])).symm)) ?_); done) | fail) (by decide) rfl (by simp [AV.bd, bdL, bdL_append]) (by repeat' (first | exact True.intro | refine And.intro ?_ ?_ | simp [AV.bd, bdL, bdL_append]))) ?_)))))))
      exact bp_p rfl
    · trivial
  | ok n r =>
    have hr : r <:+ l.map (·.2) := by have := pName_suf (l.map (·.2)); rw [hq] at this; exact this
    have hO : FnO Try.prog 21 [.ptr 0 2 0 0] [rdA l e] (strA n) [some (rdA (cut l r) e)] := hnm.oks (by rw [hq]; simp only [pout])
    have hs1 := cut_suf l r
    have hm1 := cut_map hr
    generalize hl1 : cut l r = l1 at *
    have hpl : pLevel a (l.map (·.2)) = match pTake [59] (pNames (l1.map (·.2))).2 with
        | .err q => .err q
        | .ok _ q => .ok ⟨a, n :: (pNames (l1.map (·.2))).1⟩ q := by rw [hm1]; simp only [pLevel, hq] <;> cases pTake [59] (pNames r).2 <;> rfl
    have hlen1 := hs1.length_le
    refine FnP.intro ?_ (by kernel_rfl) Try.func57 rfl rfl Try.ntmps57 (by exact Nat.le_of_ble_eq_true rfl) ?_; rotate_left; intro Γ hm
    · (repeat' (first | apply jA | apply jF | apply jH | (refine WP.regionC (id := 0) ?_; (refine se_alloc rfl ?_); apply jW) | (refine WP.regionC (id := 1) ?_; (refine smove rfl ?_); (refine sc_o [0] rfl rfl (hN) (Lend.o1 rfl rfl (by (exact (renL_pure (by simp [AV.bd, bdL, bdL_append])).symm)) rfl (by simp [AV.bd, bdL, bdL_append]) (by simp [AV.bd, bdL, bdL_append])) ?_; simp only [updN, newO, AObj.ren, renL, AV.ren, apx, ap, if_true, if_false, Nat.reduceLT, Nat.reduceAdd, Nat.reduceSub, sO, intA, boolA, strA, rdA, ren_toks]); apply jW) | (refine WP.regionC (id := 2) ?_; (refine smove rfl ?_); (refine smove rfl ?_); (refine sc_o [0] rfl rfl (hO) (Lend.o1 rfl rfl (by (exact (renL_pure (by simp [AV.bd, bdL, bdL_append])).symm)) rfl (by simp [AV.bd, bdL, bdL_append]) (by simp [AV.bd, bdL, bdL_append])) ?_; simp only [updN, newO, AObj.ren, renL, AV.ren, apx, ap, if_true, if_false, Nat.reduceLT, Nat.reduceAdd, Nat.reduceSub, sO, intA, boolA, strA, rdA, ren_toks]); (refine se_lit (OpP.cons rfl (OpP.nil)) rfl rfl rfl rfl rfl rfl ?_); (refine su (ap_build (RqP.cons (rq_p rfl rfl) (RqP.cons (rq_p rfl rfl) (RqP.nil))) rfl) ?_); (refine se_alloc rfl ?_); (refine se_store_b rfl rfl rfl rfl ?_); apply jW)))
      refine wp_loop (fun (σ : List ByteArray × List (Nat × Tx)) => σ.2 <:+ l1 ∧ σ.1.length + σ.2.length ≤ l.length + 1 ∧ σ.1 ++ (pNames (σ.2.map (·.2))).1 = n :: (pNames (l1.map (·.2))).1 ∧ (pNames (σ.2.map (·.2))).2 = (pNames (l1.map (·.2))).2) (fun σ => σ.2.length)
        (fun σ => (S 25 [(0, .ptr 0 2 0 0), (4, .ptr 1 2 0 0), (5, .ptr 3 2 0 0)] 4 [(0, some (rdA σ.2 e)), (1, some (.arr 2 [.agg [intA 0, .val (.slice none 0 0)]])), (2, some (.arr 1 (σ.1.map strA))), (3, some (.arr 2 [.agg [intA a, .ref 2 1 0 σ.1.length]]))])) ([n], l1) ⟨[0, 1, 2, 3], ToR.S rfl (by repeat' (first | exact rt_nil | refine rt_t rfl rfl ?_)) (by repeat' (first | exact ro_nil | refine ro_e rfl rfl ?_ | refine ro_p rfl (by first | exact rfl | fail) (by first | (simp [bdL, bdL_append, AV.bd]; done) | fail) ?_)) rfl (by (rw [hm]; exact rfl)) rfl (by (simp [bdT, AV.bd, bdL, bdL_append]; done)) (by repeat' (first | exact True.intro | exact rfl | refine And.intro ?_ ?_ | (simp [bdOq, bdL, bdL_append, AV.bd]; done))) (by (rw [hm]; exact Nat.le_of_ble_eq_true rfl))⟩ ⟨List.suffix_refl _, by simp only [List.length_cons, List.length_nil]; omega, rfl, rfl⟩ ?_
      rintro ⟨acc, l2⟩ ⟨hs2, hn2, hf2, hg2⟩
      simp only at hs2 hn2 hf2 hg2 ⊢
      cases hnn : isN (l2.map (·.2)) with
      | true =>
        obtain ⟨p3, l3, hl3⟩ : ∃ p3 l3, l2 = p3 :: l3 := by
          cases l2 with
          | nil => cases hnn
          | cons p3 l3 => exact ⟨_, _, rfl⟩
        have hnm3 : nmT p3.2 = true := by rw [hl3] at hnn; exact hnn
        have hO3 : FnO Try.prog 21 [.ptr 0 2 0 0] [rdA l2 e] (strA (tx p3.2)) [some (rdA l3 e)] := by rw [hl3]; exact gpname_ok p3 l3 e hnm3
        have hpn : pNames (l2.map (·.2)) = (tx p3.2 :: (pNames (l3.map (·.2))).1, (pNames (l3.map (·.2))).2) := by rw [hl3, List.map_cons, pNames, if_pos hnm3]
        have hlen3 : l2.length = l3.length + 1 := by rw [hl3]; rfl
        have hnext : l3.length < l2.length ∧ l3 <:+ l1 ∧ (acc ++ [tx p3.2]).length + l3.length ≤ l.length + 1 ∧ (acc ++ [tx p3.2]) ++ (pNames (l3.map (·.2))).1 = n :: (pNames (l1.map (·.2))).1 ∧ (pNames (l3.map (·.2))).2 = (pNames (l1.map (·.2))).2 := by
          refine ⟨by omega, ?_, by simp only [List.length_append, List.length_cons, List.length_nil]; omega, ?_, ?_⟩
          · rw [hl3] at hs2; exact (List.suffix_cons _ _).trans hs2
          · rw [← hf2, hpn]; simp
          · rw [← hg2, hpn]
        (repeat' (first | apply jA | apply jF | apply jH | apply jI | apply jJ | apply jL | apply jN | apply jP | (refine wp_cond rfl (fun hc => ?_) (fun hc => ?_) <;> (try simp only [sB, ne_eq, reduceCtorEq] at hc) <;> (try (exfalso; omega))) | (refine WP.regionC (id := 3) ?_; (refine smove rfl ?_); (refine sc_o [0] rfl rfl (isname_fn _ _) (Lend.o1 rfl rfl (by (exact (renL_pure (by simp [AV.bd, bdL, bdL_append])).symm)) rfl (by simp [AV.bd, bdL, bdL_append]) (by simp [AV.bd, bdL, bdL_append])) ?_; simp only [updN, newO, AObj.ren, renL, AV.ren, apx, ap, if_true, if_false, Nat.reduceLT, Nat.reduceAdd, Nat.reduceSub, sO, intA, boolA, strA, ren_pkA, rdA, ren_toks]); apply jW) | (refine wp_tree (id := 4) 8 mixed rfl ?_ <;> (refine wpt_take 0 rfl (by exact still_fieldAddr rfl rfl) (by exact ap_field_p (rq_p rfl rfl) rfl rfl) (by kernel_rfl) (by kernel_rfl) (by kernel_rfl) (by repeat (first | exact pind_p | apply pind_then | apply pind_block)) ?_; (refine wpt_take 2 rfl still_move (by exact ap_move (rq_p rfl rfl)) (by kernel_rfl) (by kernel_rfl) (by kernel_rfl) (by repeat (first | exact pind_p | apply pind_then | apply pind_block)) ?_; (refine wpt_all (rs := [1, 3]) (by kernel_rfl) rfl ⟨?_, ?_, trivial⟩ <;> (first | (refine wpo_do (i := 1) rfl rfl ?_; (refine sloadp rfl rfl rfl rfl ?_); apply jW; (refine wpt_all (rs := [3]) (by kernel_rfl) rfl ⟨?_, trivial⟩; (refine wpo_do (i := 3) rfl rfl ?_; (refine sc_o [0] rfl rfl (hO3) (Lend.o1 rfl rfl (by (exact (renL_pure (by simp [AV.bd, bdL, bdL_append])).symm)) rfl (by simp [AV.bd, bdL, bdL_append]) (by simp [AV.bd, bdL, bdL_append])) ?_; simp only [updN, newO, AObj.ren, renL, AV.ren, apx, ap, if_true, if_false, Nat.reduceLT, Nat.reduceAdd, Nat.reduceSub, sO, intA, boolA, strA, rdA, ren_toks]); apply jW; (refine wpt_all (rs := [4]) (by kernel_rfl) rfl ⟨?_, trivial⟩; (refine wpo_do (i := 4) rfl rfl ?_; (refine se_lit (OpP.cons rfl (OpP.nil)) rfl rfl rfl rfl rfl rfl ?_); apply jW; (refine wpt_all (rs := [5]) (by kernel_rfl) rfl ⟨?_, trivial⟩; (refine wpo_do (i := 5) rfl rfl ?_; (refine se_app1 rfl rfl rfl rfl rfl rfl rfl rfl (by omega) ?_); apply jW; (refine wpt_take 6 rfl (by exact still_fieldAddr rfl rfl) (by exact ap_field_p (rq_p rfl rfl) rfl rfl) (by kernel_rfl) (by kernel_rfl) (by kernel_rfl) (by repeat (first | exact pind_p | apply pind_then | apply pind_block)) ?_; (refine wpt_all (rs := [7]) (by kernel_rfl) rfl ⟨?_, trivial⟩; (refine wpo_do (i := 7) rfl rfl ?_; (refine se_store_b rfl rfl rfl rfl ?_); apply jW; (refine wpt_end (by kernel_rfl) ?_))))))))))) | (refine wpo_do (i := 3) rfl rfl ?_; (refine sc_o [0] rfl rfl (hO3) (Lend.o1 rfl rfl (by (exact (renL_pure (by simp [AV.bd, bdL, bdL_append])).symm)) rfl (by simp [AV.bd, bdL, bdL_append]) (by simp [AV.bd, bdL, bdL_append])) ?_; simp only [updN, newO, AObj.ren, renL, AV.ren, apx, ap, if_true, if_false, Nat.reduceLT, Nat.reduceAdd, Nat.reduceSub, sO, intA, boolA, strA, rdA, ren_toks]); apply jW; (refine wpt_all (rs := [1, 4]) (by kernel_rfl) rfl ⟨?_, ?_, trivial⟩ <;> (first | (refine wpo_do (i := 1) rfl rfl ?_; (refine sloadp rfl rfl rfl rfl ?_); apply jW; (refine wpt_all (rs := [4]) (by kernel_rfl) rfl ⟨?_, trivial⟩; (refine wpo_do (i := 4) rfl rfl ?_; (refine se_lit (OpP.cons rfl (OpP.nil)) rfl rfl rfl rfl rfl rfl ?_); apply jW; (refine wpt_all (rs := [5]) (by kernel_rfl) rfl ⟨?_, trivial⟩; (refine wpo_do (i := 5) rfl rfl ?_; (refine se_app1 rfl rfl rfl rfl rfl rfl rfl rfl (by omega) ?_); apply jW; (refine wpt_take 6 rfl (by exact still_fieldAddr rfl rfl) (by exact ap_field_p (rq_p rfl rfl) rfl rfl) (by kernel_rfl) (by kernel_rfl) (by kernel_rfl) (by repeat (first | exact pind_p | apply pind_then | apply pind_block)) ?_; (refine wpt_all (rs := [7]) (by kernel_rfl) rfl ⟨?_, trivial⟩; (refine wpo_do (i := 7) rfl rfl ?_; (refine se_store_b rfl rfl rfl rfl ?_); apply jW; (refine wpt_end (by kernel_rfl) ?_))))))))) | (refine wpo_do (i := 4) rfl rfl ?_; (refine se_lit (OpP.cons rfl (OpP.nil)) rfl rfl rfl rfl rfl rfl ?_); apply jW; (refine wpt_all (rs := [1]) (by kernel_rfl) rfl ⟨?_, trivial⟩; (refine wpo_do (i := 1) rfl rfl ?_; (refine sloadp rfl rfl rfl rfl ?_); apply jW; (refine wpt_all (rs := [5]) (by kernel_rfl) rfl ⟨?_, trivial⟩; (refine wpo_do (i := 5) rfl rfl ?_; (refine se_app1 rfl rfl rfl rfl rfl rfl rfl rfl (by omega) ?_); apply jW; (refine wpt_take 6 rfl (by exact still_fieldAddr rfl rfl) (by exact ap_field_p (rq_p rfl rfl) rfl rfl) (by kernel_rfl) (by kernel_rfl) (by kernel_rfl) (by repeat (first | exact pind_p | apply pind_then | apply pind_block)) ?_; (refine wpt_all (rs := [7]) (by kernel_rfl) rfl ⟨?_, trivial⟩; (refine wpo_do (i := 7) rfl rfl ?_; (refine se_store_b rfl rfl rfl rfl ?_); apply jW; (refine wpt_end (by kernel_rfl) ?_)))))))))))))))))))
        · exact ⟨(acc ++ [tx p3.2], l3), hnext, ⟨[0, 1, 5, 3], ToR.S rfl (by repeat' (first | exact rt_nil | refine rt_t rfl rfl ?_)) (by repeat' (first | exact ro_nil | refine ro_e rfl rfl ?_ | refine ro_p rfl (by first | exact rfl | fail) (by first | exact bdL_map (fun _ => by exact rfl) _ | (simp [bdL, bdL_append, AV.bd]; done) | fail) ?_)) rfl (by (rw [hm]; exact rfl)) rfl (by (simp [bdT, AV.bd, bdL, bdL_append]; done)) (by repeat' (first | exact True.intro | exact rfl | refine And.intro ?_ ?_ | exact bdL_map (fun _ => by exact rfl) _ | (simp [bdOq, bdL, bdL_append, AV.bd]; done))) (by (rw [hm]; exact Nat.le_of_ble_eq_true rfl))⟩⟩
        · exact ⟨(acc ++ [tx p3.2], l3), hnext, ⟨[0, 1, 5, 3], ToR.S rfl (by repeat' (first | exact rt_nil | refine rt_t rfl rfl ?_)) (by repeat' (first | exact ro_nil | refine ro_e rfl rfl ?_ | refine ro_p rfl (by first | exact rfl | fail) (by first | exact bdL_map (fun _ => by exact rfl) _ | (simp [bdL, bdL_append, AV.bd]; done) | fail) ?_)) rfl (by (rw [hm]; exact rfl)) rfl (by (simp [bdT, AV.bd, bdL, bdL_append]; done)) (by repeat' (first | exact True.intro | exact rfl | refine And.intro ?_ ?_ | exact bdL_map (fun _ => by exact rfl) _ | (simp [bdOq, bdL, bdL_append, AV.bd]; done))) (by (rw [hm]; exact Nat.le_of_ble_eq_true rfl))⟩⟩
        · exact ⟨(acc ++ [tx p3.2], l3), hnext, ⟨[0, 1, 5, 3], ToR.S rfl (by repeat' (first | exact rt_nil | refine rt_t rfl rfl ?_)) (by repeat' (first | exact ro_nil | refine ro_e rfl rfl ?_ | refine ro_p rfl (by first | exact rfl | fail) (by first | exact bdL_map (fun _ => by exact rfl) _ | (simp [bdL, bdL_append, AV.bd]; done) | fail) ?_)) rfl (by (rw [hm]; exact rfl)) rfl (by (simp [bdT, AV.bd, bdL, bdL_append]; done)) (by repeat' (first | exact True.intro | exact rfl | refine And.intro ?_ ?_ | exact bdL_map (fun _ => by exact rfl) _ | (simp [bdOq, bdL, bdL_append, AV.bd]; done))) (by (rw [hm]; exact Nat.le_of_ble_eq_true rfl))⟩⟩
        · exfalso; simp_all
      | false =>
        have hpn : pNames (l2.map (·.2)) = ([], l2.map (·.2)) := by
          cases l2 with
          | nil => rfl
          | cons p3 l3 => have h3 : nmT p3.2 = false := hnn; simp only [List.map_cons, pNames, h3, Bool.false_eq_true, if_false]
        rw [hpn] at hf2 hg2
        simp only [List.append_nil] at hf2
        rw [hpl, ← hg2, ← hf2]
        by_cases h59 : hdT l2 = [59]
        · obtain ⟨p3, l3, hl3, hp3⟩ := hdT_cons (by simp) h59
          have hE : FnO Try.prog 20 [.ptr 0 2 0 0, strA (tx [59])] [rdA l2 e] (.tup []) [some (rdA l3 e)] := by rw [hl3]; exact expect_ok [59] (by simp) p3 l3 e hp3
          have hpt : pTake [59] (l2.map (·.2)) = .ok () (l3.map (·.2)) := by rw [hl3, List.map_cons, pTake, if_pos hp3]
          have hs3 : l3 <:+ l := by rw [hl3] at hs2; exact ((List.suffix_cons _ _).trans hs2).trans hs1
          have hout : pout l e levelA (.ok ⟨a, acc⟩ (l3.map (·.2))) = .ok (levelA ⟨a, acc⟩) [some (rdA l3 e)] := by simp only [pout, cut_of hs3]
          rw [hpt]
          simp only
          rw [hout]
          (repeat' (first | apply jA | apply jF | apply jH | apply jI | apply jJ | apply jL | apply jP | (refine wp_cond rfl (fun hc => ?_) (fun hc => ?_) <;> (try simp only [sB, ne_eq, reduceCtorEq] at hc) <;> (try (exfalso; omega))) | (refine WP.regionC (id := 3) ?_; (refine smove rfl ?_); (refine sc_o [0] rfl rfl (isname_fn _ _) (Lend.o1 rfl rfl (by (exact (renL_pure (by simp [AV.bd, bdL, bdL_append])).symm)) rfl (by simp [AV.bd, bdL, bdL_append]) (by simp [AV.bd, bdL, bdL_append])) ?_; simp only [updN, newO, AObj.ren, renL, AV.ren, apx, ap, if_true, if_false, Nat.reduceLT, Nat.reduceAdd, Nat.reduceSub, sO, intA, boolA, strA, ren_pkA, rdA, ren_toks]); apply jW) | (refine WP.regionC (id := 5) ?_; (refine smove rfl ?_); (refine sc_o [0] rfl rfl (hE) (Lend.o1 rfl rfl (by (exact (renL_pure (by simp [AV.bd, bdL, bdL_append])).symm)) rfl (by simp [AV.bd, bdL, bdL_append]) (by simp [AV.bd, bdL, bdL_append])) ?_; simp only [updN, newO, AObj.ren, renL, AV.ren, apx, ap, if_true, if_false, Nat.reduceLT, Nat.reduceAdd, Nat.reduceSub, sO, intA, boolA, strA, rdA, ren_toks]); apply jW)))
          · exfalso; simp_all
          · refine wp_frzom 3 1 hm rfl rfl rfl rfl rfl (fun x => rfl) (fun _ => rfl) rfl ?_
            (repeat' (first | apply jH | apply jK | (refine WP.regionC (id := 6) ?_; (refine sloadpw rfl rfl rfl rfl ?_); (refine se_store_b rfl rfl rfl rfl ?_); apply jW)))
            refine bp_r rfl ?_
            refine retO_L (x := levelA ⟨a, acc⟩) (k := 1) (os1 := [(0, some (rdA l3 e))]) (.cellT rfl rfl rfl rfl .nil) rfl ⟨[0], ToR.S rfl (by repeat' (first | exact rt_nil | refine rt_p rfl rfl (by first | (simp [AV.bd, bdL, bdL_append]; done) | fail) ?_)) (by repeat' (first | exact ro_nil | refine ro_p rfl (by first | exact rfl | fail) (by first | (simp [bdL, bdL_append, AV.bd]; done) | fail) ?_)) rfl rfl rfl (by (simp [bdT, AV.bd, bdL, bdL_append]; done)) (by repeat' (first | exact True.intro | refine And.intro ?_ ?_ | (simp [bdOq, bdL, bdL_append, AV.bd]; done))) (by exact Nat.le_of_ble_eq_true rfl)⟩ rfl
        · have hX2 := expect_x [59] (by simp) l2 e h59
          rw [pTake_bad (by simp) h59]
          have hout : pout l e levelA (.err (l2.map (·.2))) = .die (synV (pos l2 e)) := by simp only [pout, cut_of (hs2.trans hs1)]
          simp only
          rw [hout]
          (repeat' (first | apply jA | apply jF | apply jH | apply jI | apply jJ | apply jL | apply jP | apply jT | (refine wp_cond rfl (fun hc => ?_) (fun hc => ?_) <;> (try simp only [sB, ne_eq, reduceCtorEq] at hc) <;> (try (exfalso; omega))) | (refine WP.regionC (id := 3) ?_; (refine smove rfl ?_); (refine sc_o [0] rfl rfl (isname_fn _ _) (Lend.o1 rfl rfl (by (exact (renL_pure (by simp [AV.bd, bdL, bdL_append])).symm)) rfl (by simp [AV.bd, bdL, bdL_append]) (by simp [AV.bd, bdL, bdL_append])) ?_; simp only [updN, newO, AObj.ren, renL, AV.ren, apx, ap, if_true, if_false, Nat.reduceLT, Nat.reduceAdd, Nat.reduceSub, sO, intA, boolA, strA, ren_pkA, rdA, ren_toks]); apply jW) | (refine wpl_region (id := 5) ?_; (refine wpl_step rfl ?_; (refine smove rfl ?_); apply jW; ((refine wpl_x [0] rfl rfl (hX2) (Lend.S (by first | ((repeat' first | exact RenL.nil | refine RenL.cons rfl ?_); done) | fail) (by first | ((repeat' first | exact LendO.nil | refine LendO.arr rfl (by (exact (renL_pure (by simp [AV.bd, bdL, bdL_append])).symm)) ?_); done) | fail) (by decide) rfl (by simp [AV.bd, bdL, bdL_append]) (by repeat' (first | exact True.intro | refine And.intro ?_ ?_ | simp [AV.bd, bdL, bdL_append]))) ?_))))))
          · exfalso; simp_all
          · exact bp_p rfl
    · exact pout_fine l e levelA (fun x => bd_levelA 1 x) _
end Go.Lg

namespace Go.Lg
open Go.Proofs
set_option linter.unusedSimpArgs false
set_option linter.unusedVariables false
attribute [local irreducible] Ap Rq asemC WP RunD Ret Gq thenA inBlockA bodyQ noGotoA RqL RqP OpP
set_option maxHeartbeats 4000000
set_option maxRecDepth 20000
attribute [local simp] rdA pkA tokA toks_bd
theorem ren_levelA (π : Nat → Nat) (x : GLe) : AV.ren π (levelA x) = levelA x := ren_pure (bd_levelA 0 x)
theorem gplevels_fn (l : List (Nat × Tx)) (e : Int) (hB : l.length ≤ 1000000) : FnP Try.prog 22 [.ptr 0 2 0 0] [rdA l e] (pout l e levelsA (pLevels (l.map (·.2)))) := by
  refine FnP.intro ?_ (by kernel_rfl) Try.func22 rfl rfl Try.ntmps22 (by exact Nat.le_of_ble_eq_true rfl) ?_; rotate_left; intro Γ hm
  · (repeat' (first | apply jA | apply jF | apply jH | (refine WP.regionC ?_; (refine sassign rfl ?_); apply jW)))
    refine wp_nil 3 2 rfl ?_
    refine wp_loop (fun (σ : List GLe × List (Nat × Tx)) => σ.2 <:+ l ∧ σ.1.length + σ.2.length ≤ l.length ∧ finL σ.1 (σ.2.map (·.2)) = pLevels (l.map (·.2))) (fun σ => σ.2.length)
      (fun σ => (S 29 [(0, .ptr 0 2 0 0), (3, .ref 1 2 0 σ.1.length)] 2 [(0, some (rdA σ.2 e)), (1, some (.arr 2 (σ.1.map levelA)))])) ([], l) ⟨[0, 1], ToR.S rfl (by repeat' (first | exact rt_nil | refine rt_r rfl rfl ?_ | refine rt_t rfl rfl ?_)) (by repeat' (first | exact ro_nil | refine ro_e rfl rfl ?_ | refine ro_p rfl (by first | exact rfl | fail) (by first | (simp [bdL, bdL_append, AV.bd]; done) | fail) ?_)) rfl (by (rw [hm]; exact rfl)) rfl (by (simp [bdT, AV.bd, bdL, bdL_append]; done)) (by repeat' (first | exact True.intro | exact rfl | refine And.intro ?_ ?_ | (simp [bdOq, bdL, bdL_append, AV.bd]; done))) (by (rw [hm]; exact Nat.le_of_ble_eq_true rfl))⟩ ⟨List.suffix_refl _, by simp, finL_nil _⟩ ?_
    rintro ⟨acc, l1⟩ ⟨hs1, hn1, hf1⟩
    simp only at hs1 hf1 hn1 ⊢
    by_cases hk : hdT l1 = bl kw1
    · skip
      obtain ⟨p, l2, hl2, hp2⟩ := hdT_cons (by decide) hk
      have htx : tx (hdT l1) = (⟨#[108, 101, 102, 116]⟩ : ByteArray) := by rw [hk]; rfl
      have has : assocOf p.2 = some 1 := by rw [hp2]; decide
      have hst := finL_step (acc := acc) (r := l2.map (·.2)) has
      have hl2m : l1.map (·.2) = p.2 :: l2.map (·.2) := by rw [hl2]; rfl
      rw [hl2m] at hf1
      have hs2 : l2 <:+ l := by rw [hl2] at hs1; exact (List.suffix_cons _ _).trans hs1
      have hlen2 : l1.length = l2.length + 1 := by rw [hl2]; rfl
      have hlv := gplevel_fn 1 p l2 e (by omega)
      rw [← hl2] at hlv
      cases hq : pLevel 1 (l2.map (·.2)) with
      | err q =>
        have hr : q <:+ l2.map (·.2) := by have := pLevel_suf 1 (l2.map (·.2)); rw [hq] at this; exact this
        have hX : FnX Try.prog 57 [.ptr 0 2 0 0, intA 1] [rdA l1 e] (synV (pos (cut l2 q) e)) := hlv.dies (by rw [hq]; simp only [pout])
        have hout : pout l e levelsA (pLevels (l.map (·.2))) = .die (synV (pos (cut l2 q) e)) := by rw [← hf1, hst, hq]; simp only [pout, cut_cut hs2 hr]
        rw [hout]
        (repeat' (first | apply jA | apply jF | apply jH | apply jT | apply jU | (refine wp_cond rfl (fun hc => ?_) (fun hc => ?_) <;> (try simp only [sB, ne_eq, reduceCtorEq] at hc) <;> (try (exfalso; omega))) | (refine WP.regionC (id := 2) ?_; (refine smove rfl ?_); (refine sc_o [0] rfl rfl (peek_fn _ _) (Lend.o1 rfl rfl (by (exact (renL_pure (by simp [AV.bd, bdL, bdL_append])).symm)) rfl (by simp [AV.bd, bdL, bdL_append]) (by simp [AV.bd, bdL, bdL_append])) ?_; simp only [updN, newO, AObj.ren, renL, AV.ren, apx, ap, if_true, if_false, Nat.reduceLT, Nat.reduceAdd, Nat.reduceSub, sO, intA, boolA, strA, ren_pkA, rdA, ren_toks]); (refine su (afieldv rfl rfl) ?_); apply jW) | (refine WP.regionC ?_; (refine seqs rfl rfl ?_); (refine sassign rfl ?_); apply jW) | (refine wpl_region (id := 5) ?_; (refine wpl_step rfl ?_; (refine smove rfl ?_); apply jW; (refine wpl_step rfl ?_; (refine smove rfl ?_); apply jW; ((refine wpl_x [0] rfl rfl (hX) (Lend.S (by first | ((repeat' first | exact RenL.nil | refine RenL.cons rfl ?_); done) | fail) (by first | ((repeat' first | exact LendO.nil | refine LendO.arr rfl (by (exact (renL_pure (by simp [AV.bd, bdL, bdL_append])).symm)) ?_); done) | fail) (by decide) rfl (by simp [AV.bd, bdL, bdL_append]) (by repeat' (first | exact True.intro | refine And.intro ?_ ?_ | simp [AV.bd, bdL, bdL_append]))) ?_)))))))
        all_goals (first | exact bp_p rfl | exact absurd htx (by assumption))
      | ok x r =>
        have hr : r <:+ l2.map (·.2) := by have := pLevel_suf 1 (l2.map (·.2)); rw [hq] at this; exact this
        have hO : FnO Try.prog 57 [.ptr 0 2 0 0, intA 1] [rdA l1 e] (levelA x) [some (rdA (cut l2 r) e)] := hlv.oks (by rw [hq]; simp only [pout])
        have hcl := (cut_suf l2 r).length_le
        have hnext : (cut l2 r).length < l1.length ∧ cut l2 r <:+ l ∧ (acc ++ [x]).length + (cut l2 r).length ≤ l.length ∧ finL (acc ++ [x]) ((cut l2 r).map (·.2)) = pLevels (l.map (·.2)) := by
          refine ⟨by omega, (cut_suf _ _).trans hs2, by simp only [List.length_append, List.length_cons, List.length_nil]; omega, ?_⟩
          rw [cut_map hr, ← hf1, hst, hq]
        (repeat' (first | apply jA | apply jF | apply jH | apply jN | (refine wp_cond rfl (fun hc => ?_) (fun hc => ?_) <;> (try simp only [sB, ne_eq, reduceCtorEq] at hc) <;> (try (exfalso; omega))) | (refine WP.regionC (id := 2) ?_; (refine smove rfl ?_); (refine sc_o [0] rfl rfl (peek_fn _ _) (Lend.o1 rfl rfl (by (exact (renL_pure (by simp [AV.bd, bdL, bdL_append])).symm)) rfl (by simp [AV.bd, bdL, bdL_append]) (by simp [AV.bd, bdL, bdL_append])) ?_; simp only [updN, newO, AObj.ren, renL, AV.ren, apx, ap, if_true, if_false, Nat.reduceLT, Nat.reduceAdd, Nat.reduceSub, sO, intA, boolA, strA, ren_pkA, rdA, ren_toks]); (refine su (afieldv rfl rfl) ?_); apply jW) | (refine WP.regionC ?_; (refine seqs rfl rfl ?_); (refine sassign rfl ?_); apply jW) | (refine WP.regionC (id := 5) ?_; (refine smove rfl ?_); (refine smove rfl ?_); (refine sc_o [0] rfl rfl (hO) (Lend.o1 rfl rfl (by (exact (renL_pure (by simp [AV.bd, bdL, bdL_append])).symm)) rfl (by simp [AV.bd, bdL, bdL_append]) (by simp [AV.bd, bdL, bdL_append])) ?_; simp only [updN, newO, AObj.ren, renL, AV.ren, apx, ap, if_true, if_false, Nat.reduceLT, Nat.reduceAdd, Nat.reduceSub, sO, intA, boolA, strA, rdA, ren_toks, ren_levelA]); (refine se_lit (OpP.cons rfl (OpP.nil)) rfl rfl rfl rfl rfl rfl ?_); (refine se_app1 rfl rfl rfl rfl rfl rfl rfl rfl (by omega) ?_); (refine sassign rfl ?_); apply jW)))
        all_goals (first | exact absurd htx (by assumption) | exact ⟨(acc ++ [x], cut l2 r), hnext, ⟨[0, 3], ToR.S rfl (by repeat' (first | exact rt_nil | refine rt_r rfl rfl ?_ | refine rt_t rfl rfl ?_)) (by repeat' (first | exact ro_nil | refine ro_p rfl (by first | exact rfl | fail) (by first | exact bdL_map (fun _ => by simp [AV.bd, bdL, bdL_append]) _ | (simp [bdL, bdL_append, AV.bd]; done) | fail) ?_)) rfl (by (rw [hm]; exact rfl)) rfl (by (simp [bdT, AV.bd, bdL, bdL_append]; done)) (by repeat' (first | exact True.intro | refine And.intro ?_ ?_ | exact bdL_map (fun _ => by simp [AV.bd, bdL, bdL_append]) _ | (simp [bdOq, bdL, bdL_append, AV.bd]; done))) (by (rw [hm]; exact Nat.le_of_ble_eq_true rfl))⟩⟩)
    · by_cases hk2 : hdT l1 = bl kw2
      · have hk := hk2
        obtain ⟨p, l2, hl2, hp2⟩ := hdT_cons (by decide) hk
        have htx : tx (hdT l1) = (⟨#[114, 105, 103, 104, 116]⟩ : ByteArray) := by rw [hk]; rfl
        have has : assocOf p.2 = some 2 := by rw [hp2]; decide
        have hst := finL_step (acc := acc) (r := l2.map (·.2)) has
        have hl2m : l1.map (·.2) = p.2 :: l2.map (·.2) := by rw [hl2]; rfl
        rw [hl2m] at hf1
        have hs2 : l2 <:+ l := by rw [hl2] at hs1; exact (List.suffix_cons _ _).trans hs1
        have hlen2 : l1.length = l2.length + 1 := by rw [hl2]; rfl
        have hlv := gplevel_fn 2 p l2 e (by omega)
        rw [← hl2] at hlv
        cases hq : pLevel 2 (l2.map (·.2)) with
        | err q =>
          have hr : q <:+ l2.map (·.2) := by have := pLevel_suf 2 (l2.map (·.2)); rw [hq] at this; exact this
          have hX : FnX Try.prog 57 [.ptr 0 2 0 0, intA 2] [rdA l1 e] (synV (pos (cut l2 q) e)) := hlv.dies (by rw [hq]; simp only [pout])
          have hout : pout l e levelsA (pLevels (l.map (·.2))) = .die (synV (pos (cut l2 q) e)) := by rw [← hf1, hst, hq]; simp only [pout, cut_cut hs2 hr]
          rw [hout]
          (repeat' (first | apply jA | apply jF | apply jH | apply jT | apply jU | (refine wp_cond rfl (fun hc => ?_) (fun hc => ?_) <;> (try simp only [sB, ne_eq, reduceCtorEq] at hc) <;> (try (exfalso; omega))) | (refine WP.regionC (id := 2) ?_; (refine smove rfl ?_); (refine sc_o [0] rfl rfl (peek_fn _ _) (Lend.o1 rfl rfl (by (exact (renL_pure (by simp [AV.bd, bdL, bdL_append])).symm)) rfl (by simp [AV.bd, bdL, bdL_append]) (by simp [AV.bd, bdL, bdL_append])) ?_; simp only [updN, newO, AObj.ren, renL, AV.ren, apx, ap, if_true, if_false, Nat.reduceLT, Nat.reduceAdd, Nat.reduceSub, sO, intA, boolA, strA, ren_pkA, rdA, ren_toks]); (refine su (afieldv rfl rfl) ?_); apply jW) | (refine WP.regionC ?_; (refine seqs rfl rfl ?_); (refine sassign rfl ?_); apply jW) | (refine wpl_region (id := 7) ?_; (refine wpl_step rfl ?_; (refine smove rfl ?_); apply jW; (refine wpl_step rfl ?_; (refine smove rfl ?_); apply jW; ((refine wpl_x [0] rfl rfl (hX) (Lend.S (by first | ((repeat' first | exact RenL.nil | refine RenL.cons rfl ?_); done) | fail) (by first | ((repeat' first | exact LendO.nil | refine LendO.arr rfl (by (exact (renL_pure (by simp [AV.bd, bdL, bdL_append])).symm)) ?_); done) | fail) (by decide) rfl (by simp [AV.bd, bdL, bdL_append]) (by repeat' (first | exact True.intro | refine And.intro ?_ ?_ | simp [AV.bd, bdL, bdL_append]))) ?_)))))))
          all_goals (first | exact bp_p rfl | exact absurd htx (by assumption) | (rw [htx] at hc; exact absurd hc (by decide)))
        | ok x r =>
          have hr : r <:+ l2.map (·.2) := by have := pLevel_suf 2 (l2.map (·.2)); rw [hq] at this; exact this
          have hO : FnO Try.prog 57 [.ptr 0 2 0 0, intA 2] [rdA l1 e] (levelA x) [some (rdA (cut l2 r) e)] := hlv.oks (by rw [hq]; simp only [pout])
          have hcl := (cut_suf l2 r).length_le
          have hnext : (cut l2 r).length < l1.length ∧ cut l2 r <:+ l ∧ (acc ++ [x]).length + (cut l2 r).length ≤ l.length ∧ finL (acc ++ [x]) ((cut l2 r).map (·.2)) = pLevels (l.map (·.2)) := by
            refine ⟨by omega, (cut_suf _ _).trans hs2, by simp only [List.length_append, List.length_cons, List.length_nil]; omega, ?_⟩
            rw [cut_map hr, ← hf1, hst, hq]
          (repeat' (first | apply jA | apply jF | apply jH | apply jN | (refine wp_cond rfl (fun hc => ?_) (fun hc => ?_) <;> (try simp only [sB, ne_eq, reduceCtorEq] at hc) <;> (try (exfalso; omega))) | (refine WP.regionC (id := 2) ?_; (refine smove rfl ?_); (refine sc_o [0] rfl rfl (peek_fn _ _) (Lend.o1 rfl rfl (by (exact (renL_pure (by simp [AV.bd, bdL, bdL_append])).symm)) rfl (by simp [AV.bd, bdL, bdL_append]) (by simp [AV.bd, bdL, bdL_append])) ?_; simp only [updN, newO, AObj.ren, renL, AV.ren, apx, ap, if_true, if_false, Nat.reduceLT, Nat.reduceAdd, Nat.reduceSub, sO, intA, boolA, strA, ren_pkA, rdA, ren_toks]); (refine su (afieldv rfl rfl) ?_); apply jW) | (refine WP.regionC ?_; (refine seqs rfl rfl ?_); (refine sassign rfl ?_); apply jW) | (refine WP.regionC (id := 7) ?_; (refine smove rfl ?_); (refine smove rfl ?_); (refine sc_o [0] rfl rfl (hO) (Lend.o1 rfl rfl (by (exact (renL_pure (by simp [AV.bd, bdL, bdL_append])).symm)) rfl (by simp [AV.bd, bdL, bdL_append]) (by simp [AV.bd, bdL, bdL_append])) ?_; simp only [updN, newO, AObj.ren, renL, AV.ren, apx, ap, if_true, if_false, Nat.reduceLT, Nat.reduceAdd, Nat.reduceSub, sO, intA, boolA, strA, rdA, ren_toks, ren_levelA]); (refine se_lit (OpP.cons rfl (OpP.nil)) rfl rfl rfl rfl rfl rfl ?_); (refine se_app1 rfl rfl rfl rfl rfl rfl rfl rfl (by omega) ?_); (refine sassign rfl ?_); apply jW)))
          all_goals (first | exact absurd htx (by assumption) | (rw [htx] at hc; exact absurd hc (by decide)) | exact ⟨(acc ++ [x], cut l2 r), hnext, ⟨[0, 3], ToR.S rfl (by repeat' (first | exact rt_nil | refine rt_r rfl rfl ?_ | refine rt_t rfl rfl ?_)) (by repeat' (first | exact ro_nil | refine ro_p rfl (by first | exact rfl | fail) (by first | exact bdL_map (fun _ => by simp [AV.bd, bdL, bdL_append]) _ | (simp [bdL, bdL_append, AV.bd]; done) | fail) ?_)) rfl (by (rw [hm]; exact rfl)) rfl (by (simp [bdT, AV.bd, bdL, bdL_append]; done)) (by repeat' (first | exact True.intro | refine And.intro ?_ ?_ | exact bdL_map (fun _ => by simp [AV.bd, bdL, bdL_append]) _ | (simp [bdOq, bdL, bdL_append, AV.bd]; done))) (by (rw [hm]; exact Nat.le_of_ble_eq_true rfl))⟩⟩)
      · by_cases hk3 : hdT l1 = bl kw3
        · have hk := hk3
          obtain ⟨p, l2, hl2, hp2⟩ := hdT_cons (by decide) hk
          have htx : tx (hdT l1) = (⟨#[110, 111, 110, 101]⟩ : ByteArray) := by rw [hk]; rfl
          have has : assocOf p.2 = some 3 := by rw [hp2]; decide
          have hst := finL_step (acc := acc) (r := l2.map (·.2)) has
          have hl2m : l1.map (·.2) = p.2 :: l2.map (·.2) := by rw [hl2]; rfl
          rw [hl2m] at hf1
          have hs2 : l2 <:+ l := by rw [hl2] at hs1; exact (List.suffix_cons _ _).trans hs1
          have hlen2 : l1.length = l2.length + 1 := by rw [hl2]; rfl
          have hlv := gplevel_fn 3 p l2 e (by omega)
          rw [← hl2] at hlv
          cases hq : pLevel 3 (l2.map (·.2)) with
          | err q =>
            have hr : q <:+ l2.map (·.2) := by have := pLevel_suf 3 (l2.map (·.2)); rw [hq] at this; exact this
            have hX : FnX Try.prog 57 [.ptr 0 2 0 0, intA 3] [rdA l1 e] (synV (pos (cut l2 q) e)) := hlv.dies (by rw [hq]; simp only [pout])
            have hout : pout l e levelsA (pLevels (l.map (·.2))) = .die (synV (pos (cut l2 q) e)) := by rw [← hf1, hst, hq]; simp only [pout, cut_cut hs2 hr]
            rw [hout]
            (repeat' (first | apply jA | apply jF | apply jH | apply jT | apply jU | (refine wp_cond rfl (fun hc => ?_) (fun hc => ?_) <;> (try simp only [sB, ne_eq, reduceCtorEq] at hc) <;> (try (exfalso; omega))) | (refine WP.regionC (id := 2) ?_; (refine smove rfl ?_); (refine sc_o [0] rfl rfl (peek_fn _ _) (Lend.o1 rfl rfl (by (exact (renL_pure (by simp [AV.bd, bdL, bdL_append])).symm)) rfl (by simp [AV.bd, bdL, bdL_append]) (by simp [AV.bd, bdL, bdL_append])) ?_; simp only [updN, newO, AObj.ren, renL, AV.ren, apx, ap, if_true, if_false, Nat.reduceLT, Nat.reduceAdd, Nat.reduceSub, sO, intA, boolA, strA, ren_pkA, rdA, ren_toks]); (refine su (afieldv rfl rfl) ?_); apply jW) | (refine WP.regionC ?_; (refine seqs rfl rfl ?_); (refine sassign rfl ?_); apply jW) | (refine wpl_region (id := 9) ?_; (refine wpl_step rfl ?_; (refine smove rfl ?_); apply jW; (refine wpl_step rfl ?_; (refine smove rfl ?_); apply jW; ((refine wpl_x [0] rfl rfl (hX) (Lend.S (by first | ((repeat' first | exact RenL.nil | refine RenL.cons rfl ?_); done) | fail) (by first | ((repeat' first | exact LendO.nil | refine LendO.arr rfl (by (exact (renL_pure (by simp [AV.bd, bdL, bdL_append])).symm)) ?_); done) | fail) (by decide) rfl (by simp [AV.bd, bdL, bdL_append]) (by repeat' (first | exact True.intro | refine And.intro ?_ ?_ | simp [AV.bd, bdL, bdL_append]))) ?_)))))))
            all_goals (first | exact bp_p rfl | exact absurd htx (by assumption) | (rw [htx] at hc; exact absurd hc (by decide)))
          | ok x r =>
            have hr : r <:+ l2.map (·.2) := by have := pLevel_suf 3 (l2.map (·.2)); rw [hq] at this; exact this
            have hO : FnO Try.prog 57 [.ptr 0 2 0 0, intA 3] [rdA l1 e] (levelA x) [some (rdA (cut l2 r) e)] := hlv.oks (by rw [hq]; simp only [pout])
            have hcl := (cut_suf l2 r).length_le
            have hnext : (cut l2 r).length < l1.length ∧ cut l2 r <:+ l ∧ (acc ++ [x]).length + (cut l2 r).length ≤ l.length ∧ finL (acc ++ [x]) ((cut l2 r).map (·.2)) = pLevels (l.map (·.2)) := by
              refine ⟨by omega, (cut_suf _ _).trans hs2, by simp only [List.length_append, List.length_cons, List.length_nil]; omega, ?_⟩
              rw [cut_map hr, ← hf1, hst, hq]
            (repeat' (first | apply jA | apply jF | apply jH | apply jN | (refine wp_cond rfl (fun hc => ?_) (fun hc => ?_) <;> (try simp only [sB, ne_eq, reduceCtorEq] at hc) <;> (try (exfalso; omega))) | (refine WP.regionC (id := 2) ?_; (refine smove rfl ?_); (refine sc_o [0] rfl rfl (peek_fn _ _) (Lend.o1 rfl rfl (by (exact (renL_pure (by simp [AV.bd, bdL, bdL_append])).symm)) rfl (by simp [AV.bd, bdL, bdL_append]) (by simp [AV.bd, bdL, bdL_append])) ?_; simp only [updN, newO, AObj.ren, renL, AV.ren, apx, ap, if_true, if_false, Nat.reduceLT, Nat.reduceAdd, Nat.reduceSub, sO, intA, boolA, strA, ren_pkA, rdA, ren_toks]); (refine su (afieldv rfl rfl) ?_); apply jW) | (refine WP.regionC ?_; (refine seqs rfl rfl ?_); (refine sassign rfl ?_); apply jW) | (refine WP.regionC (id := 9) ?_; (refine smove rfl ?_); (refine smove rfl ?_); (refine sc_o [0] rfl rfl (hO) (Lend.o1 rfl rfl (by (exact (renL_pure (by simp [AV.bd, bdL, bdL_append])).symm)) rfl (by simp [AV.bd, bdL, bdL_append]) (by simp [AV.bd, bdL, bdL_append])) ?_; simp only [updN, newO, AObj.ren, renL, AV.ren, apx, ap, if_true, if_false, Nat.reduceLT, Nat.reduceAdd, Nat.reduceSub, sO, intA, boolA, strA, rdA, ren_toks, ren_levelA]); (refine se_lit (OpP.cons rfl (OpP.nil)) rfl rfl rfl rfl rfl rfl ?_); (refine se_app1 rfl rfl rfl rfl rfl rfl rfl rfl (by omega) ?_); (refine sassign rfl ?_); apply jW)))
            all_goals (first | exact absurd htx (by assumption) | (rw [htx] at hc; exact absurd hc (by decide)) | exact ⟨(acc ++ [x], cut l2 r), hnext, ⟨[0, 3], ToR.S rfl (by repeat' (first | exact rt_nil | refine rt_r rfl rfl ?_ | refine rt_t rfl rfl ?_)) (by repeat' (first | exact ro_nil | refine ro_p rfl (by first | exact rfl | fail) (by first | exact bdL_map (fun _ => by simp [AV.bd, bdL, bdL_append]) _ | (simp [bdL, bdL_append, AV.bd]; done) | fail) ?_)) rfl (by (rw [hm]; exact rfl)) rfl (by (simp [bdT, AV.bd, bdL, bdL_append]; done)) (by repeat' (first | exact True.intro | refine And.intro ?_ ?_ | exact bdL_map (fun _ => by simp [AV.bd, bdL, bdL_append]) _ | (simp [bdOq, bdL, bdL_append, AV.bd]; done))) (by (rw [hm]; exact Nat.le_of_ble_eq_true rfl))⟩⟩)
        · have has : asT (l1.map (·.2)) = none := by
            cases l1 with
            | nil => rfl
            | cons p l2 =>
              have h1 : ¬ p.2 = bl kw1 := hk
              have h2 : ¬ p.2 = bl kw2 := hk2
              have h3 : ¬ p.2 = bl kw3 := hk3
              simp only [List.map_cons, asT, assocOf, if_neg h1, if_neg h2, if_neg h3]
          have hout : pout l e levelsA (pLevels (l.map (·.2))) = .ok (levelsA acc) [some (rdA l1 e)] := by rw [← hf1, finL_stop has]; simp only [pout, cut_of hs1]
          rw [hout]
          (repeat' (first | apply jA | apply jF | apply jH | (refine wp_cond rfl (fun hc => ?_) (fun hc => ?_) <;> (try simp only [sB, ne_eq, reduceCtorEq] at hc) <;> (try (exfalso; omega))) | (refine WP.regionC (id := 2) ?_; (refine smove rfl ?_); (refine sc_o [0] rfl rfl (peek_fn _ _) (Lend.o1 rfl rfl (by (exact (renL_pure (by simp [AV.bd, bdL, bdL_append])).symm)) rfl (by simp [AV.bd, bdL, bdL_append]) (by simp [AV.bd, bdL, bdL_append])) ?_; simp only [updN, newO, AObj.ren, renL, AV.ren, apx, ap, if_true, if_false, Nat.reduceLT, Nat.reduceAdd, Nat.reduceSub, sO, intA, boolA, strA, ren_pkA, rdA, ren_toks]); (refine su (afieldv rfl rfl) ?_); apply jW) | (refine WP.regionC ?_; (refine seqs rfl rfl ?_); (refine sassign rfl ?_); apply jW)))
          · exact absurd (tx_eq hc) hk
          · exact absurd (tx_eq hc) hk2
          · exact absurd (tx_eq hc) hk3
          · refine wp_frzm 3 hm rfl rfl rfl (bd_levelA 0) (fun _ => rfl) rfl ?_
            (repeat' (first | apply jH | apply jK | apply jM | apply jO | (refine WP.regionC (id := 3) ?_; (refine smove rfl ?_); (refine sassign rfl ?_); apply jW)))
            refine bp_r rfl ?_
            refine retO_L (x := levelsA acc) (k := 1) (os1 := [(0, some (rdA l1 e))]) (.tmp rfl .nil) rfl ⟨[0], ToR.S rfl (by repeat' (first | exact rt_nil | refine rt_p rfl rfl (by first | (simp [AV.bd, bdL, bdL_append]; done) | fail) ?_)) (by repeat' (first | exact ro_nil | refine ro_p rfl (by first | exact rfl | fail) (by first | (simp [bdL, bdL_append, AV.bd]; done) | fail) ?_)) rfl rfl rfl (by (simp [bdT, AV.bd, bdL, bdL_append]; done)) (by repeat' (first | exact True.intro | refine And.intro ?_ ?_ | (simp [bdOq, bdL, bdL_append, AV.bd]; done))) (by exact Nat.le_of_ble_eq_true rfl)⟩ rfl
  · exact pout_fine l e levelsA (fun x => by simp [levelsA, AV.bd]) _
end Go.Lg

namespace Go.Lg
open Go.Proofs
set_option linter.unusedSimpArgs false
set_option linter.unusedVariables false
attribute [local irreducible] Ap Rq asemC WP RunD Ret Gq thenA inBlockA bodyQ noGotoA RqL RqP OpP
set_option maxHeartbeats 4000000
set_option maxRecDepth 20000
attribute [local simp] rdA pkA tokA toks_bd
theorem ren_altA (π : Nat → Nat) (x : GAl) : AV.ren π (altA x) = altA x := ren_pure (bd_altA 0 x)
theorem gprule_fn (l : List (Nat × Tx)) (e : Int) (hB : l.length ≤ 1000000) (hW : NumW l) : FnP Try.prog 23 [.ptr 0 2 0 0] [rdA l e] (pout l e gruleA (pRule (l.map (·.2)))) := by
  have hnm := gpname_fn l e
  cases hq : pName (l.map (·.2)) with
  | err q =>
    have hX : FnX Try.prog 21 [.ptr 0 2 0 0] [rdA l e] (synV (pos (cut l q) e)) := hnm.dies (by rw [hq]; simp only [pout])
    have hout : pout l e gruleA (pRule (l.map (·.2))) = .die (synV (pos (cut l q) e)) := by simp only [pRule, hq, pout]
    rw [hout]
    refine FnP.intro ?_ (by kernel_rfl) Try.func23 rfl rfl Try.ntmps23 (by exact Nat.le_of_ble_eq_true rfl) ?_; rotate_left; intro Γ hm
    · (repeat' (first | apply jA | apply jH | apply jT | (refine WP.regionC (id := 0) ?_; (refine se_alloc (by rfl) ?_); apply jW) | (refine wpl_region (id := 1) ?_; (refine wpl_step rfl ?_; (refine smove rfl ?_); apply jW; ((refine wpl_x [0] rfl rfl (hX) (Lend.S (by first | ((repeat' first | exact RenL.nil | refine RenL.cons (by rfl) ?_); done) | fail) (by first | ((repeat' first | exact LendO.nil | refine LendO.arr (by rfl) (by (exact (renL_pure (by simp [AV.bd, bdL, bdL_append])).symm)) ?_); done) | fail) (by decide) (by rfl) (by simp [AV.bd, bdL, bdL_append]) (by repeat' (first | exact True.intro | refine And.intro ?_ ?_ | simp [AV.bd, bdL, bdL_append]))) ?_))))))
      exact bp_p rfl
    · trivial
  | ok n r =>
    have hr : r <:+ l.map (·.2) := by have := pName_suf (l.map (·.2)); rw [hq] at this; exact this
    have hO : FnO Try.prog 21 [.ptr 0 2 0 0] [rdA l e] (strA n) [some (rdA (cut l r) e)] := hnm.oks (by rw [hq]; simp only [pout])
    have hs1 := cut_suf l r
    have hm1 := cut_map hr
    have hlt1 := pName_lt hq
    generalize hl1 : cut l r = l1 at *
    by_cases h61 : hdT l1 = [61]
    · obtain ⟨p, l2, hl2, hp2⟩ := hdT_cons (by simp) h61
      have hE : FnO Try.prog 20 [.ptr 0 2 0 0, strA (tx [61])] [rdA l1 e] (.tup []) [some (rdA l2 e)] := by rw [hl2]; exact expect_ok [61] (by simp) p l2 e hp2
      have hs2 : l2 <:+ l := by rw [hl2] at hs1; exact (List.suffix_cons _ _).trans hs1
      have hlen2 : l2.length + 1 ≤ l.length := by have := hs1.length_le; rw [hl2] at this; simp only [List.length_cons] at this; omega
      have hpr : pRule (l.map (·.2)) = match pAltsR (l2.map (·.2)) with
          | .err q => .err q
          | .ok ys r2 => match pTake [59] r2 with
            | .err q => .err q
            | .ok _ r3 => .ok ⟨n, ys⟩ r3 := by
        have hpt : pTake [61] r = .ok () (l2.map (·.2)) := by rw [← hm1, hl2, List.map_cons, pTake, if_pos hp2]
        simp only [pRule, hq, hpt]
        cases pAltsR (l2.map (·.2)) <;> rfl
      have hal := gpalt_fn l2 e (by omega) (hW.suf hs2)
      cases hq2 : pAlt (l2.map (·.2)) with
      | err q =>
        have hqs : q <:+ l2.map (·.2) := by have := pAlt_suf (l2.map (·.2)); rw [hq2] at this; exact this
        have hX : FnX Try.prog 58 [.ptr 0 2 0 0] [rdA l2 e] (synV (pos (cut l2 q) e)) := hal.dies (by rw [hq2]; simp only [pout])
        have hout : pout l e gruleA (pRule (l.map (·.2))) = .die (synV (pos (cut l2 q) e)) := by rw [hpr, pAltsR_eq, hq2]; simp only [pout, cut_cut hs2 hqs]
        rw [hout]
        refine FnP.intro ?_ (by kernel_rfl) Try.func23 rfl rfl Try.ntmps23 (by exact Nat.le_of_ble_eq_true rfl) ?_; rotate_left; intro Γ hm
        · (repeat' (first | apply jA | apply jH | apply jT | (refine WP.regionC (id := 0) ?_; (refine se_alloc (by rfl) ?_); apply jW) | (refine wpl_region (id := 1) ?_; (refine wpl_step rfl ?_; (refine smove rfl ?_); apply jW; ((refine wpl_step rfl ?_; (refine sc_o [0] rfl rfl (hO) (Lend.o1 (by rfl) (by rfl) (by (exact (renL_pure (by simp [AV.bd, bdL, bdL_append])).symm)) (by rfl) (by simp [AV.bd, bdL, bdL_append]) (by simp [AV.bd, bdL, bdL_append])) ?_; simp only [updN, newO, AObj.ren, renL, AV.ren, apx, ap, if_true, if_false, Nat.reduceLT, Nat.reduceAdd, Nat.reduceSub, sO, intA, boolA, strA, rdA, ren_toks]); apply jW; (refine wpl_step rfl ?_; (refine su (ap_build (RqP.cons (rq_p rfl rfl) (RqP.nil)) (by rfl)) ?_); apply jW; (refine wpl_step rfl ?_; (refine se_alloc (by rfl) ?_); apply jW; (refine wpl_step rfl ?_; (refine se_store_b (by rfl) (by rfl) (by rfl) (by rfl) ?_); apply jW; (apply jX)))))))) | (refine wpl_region (id := 2) ?_; (refine wpl_step rfl ?_; (refine smove rfl ?_); apply jW; ((refine wpl_step rfl ?_; (refine sc_o [0] rfl rfl (hE) (Lend.o1 (by rfl) (by rfl) (by (exact (renL_pure (by simp [AV.bd, bdL, bdL_append])).symm)) (by rfl) (by simp [AV.bd, bdL, bdL_append]) (by simp [AV.bd, bdL, bdL_append])) ?_; simp only [updN, newO, AObj.ren, renL, AV.ren, apx, ap, if_true, if_false, Nat.reduceLT, Nat.reduceAdd, Nat.reduceSub, sO, intA, boolA, strA, rdA, ren_toks]); apply jW; (apply jX))))) | (refine wpl_region (id := 3) ?_; (refine wpl_step rfl ?_; (refine se_lit0 ?_); apply jW; (refine wpl_step rfl ?_; (refine smove rfl ?_); apply jW; ((refine wpl_x [0] rfl rfl (hX) (Lend.S (by first | ((repeat' first | exact RenL.nil | refine RenL.cons (by rfl) ?_); done) | fail) (by first | ((repeat' first | exact LendO.nil | refine LendO.arr (by rfl) (by (exact (renL_pure (by simp [AV.bd, bdL, bdL_append])).symm)) ?_); done) | fail) (by decide) (by rfl) (by simp [AV.bd, bdL, bdL_append]) (by repeat' (first | exact True.intro | refine And.intro ?_ ?_ | simp [AV.bd, bdL, bdL_append]))) ?_)))))))
          exact bp_p rfl
        · trivial
      | ok a0 r0 =>
        have hqs : r0 <:+ l2.map (·.2) := by have := pAlt_suf (l2.map (·.2)); rw [hq2] at this; exact this
        have hOa : FnO Try.prog 58 [.ptr 0 2 0 0] [rdA l2 e] (altA a0) [some (rdA (cut l2 r0) e)] := hal.oks (by rw [hq2]; simp only [pout])
        have hfin : finR [a0] r0 = pAltsR (l2.map (·.2)) := by rw [pAltsR_eq, hq2]
        have hcl := (cut_suf l2 r0).length_le
        refine FnP.intro ?_ (by kernel_rfl) Try.func23 rfl rfl Try.ntmps23 (by exact Nat.le_of_ble_eq_true rfl) ?_; rotate_left; intro Γ hm
        · (repeat' (first | apply jA | apply jF | apply jH | (refine WP.regionC (id := 0) ?_; (refine se_alloc (by rfl) ?_); apply jW) | (refine WP.regionC (id := 1) ?_; (refine smove rfl ?_); (refine sc_o [0] rfl rfl (hO) (Lend.o1 (by rfl) (by rfl) (by (exact (renL_pure (by simp [AV.bd, bdL, bdL_append])).symm)) (by rfl) (by simp [AV.bd, bdL, bdL_append]) (by simp [AV.bd, bdL, bdL_append])) ?_; simp only [updN, newO, AObj.ren, renL, AV.ren, apx, ap, if_true, if_false, Nat.reduceLT, Nat.reduceAdd, Nat.reduceSub, sO, intA, boolA, strA, rdA, ren_toks]); (refine su (ap_build (RqP.cons (rq_p rfl rfl) (RqP.nil)) (by rfl)) ?_); (refine se_alloc (by rfl) ?_); (refine se_store_b (by rfl) (by rfl) (by rfl) (by rfl) ?_); apply jW) | (refine WP.regionC (id := 2) ?_; (refine smove rfl ?_); (refine sc_o [0] rfl rfl (hE) (Lend.o1 (by rfl) (by rfl) (by (exact (renL_pure (by simp [AV.bd, bdL, bdL_append])).symm)) (by rfl) (by simp [AV.bd, bdL, bdL_append]) (by simp [AV.bd, bdL, bdL_append])) ?_; simp only [updN, newO, AObj.ren, renL, AV.ren, apx, ap, if_true, if_false, Nat.reduceLT, Nat.reduceAdd, Nat.reduceSub, sO, intA, boolA, strA, rdA, ren_toks]); apply jW) | (refine WP.regionC (id := 3) ?_; (refine se_lit0 ?_); (refine smove rfl ?_); (refine sc_o [0] rfl rfl (hOa) (Lend.o1 (by rfl) (by rfl) (by (exact (renL_pure (by simp [AV.bd, bdL, bdL_append])).symm)) (by rfl) (by simp [AV.bd, bdL, bdL_append]) (by simp [AV.bd, bdL, bdL_append])) ?_; simp only [updN, newO, AObj.ren, renL, AV.ren, apx, ap, if_true, if_false, Nat.reduceLT, Nat.reduceAdd, Nat.reduceSub, sO, intA, boolA, strA, rdA, ren_toks, ren_altA]); (refine se_lit (OpP.cons (by rfl) (OpP.nil)) (by rfl) (by rfl) (by rfl) (by rfl) (by rfl) (by rfl) ?_); (refine se_app (by rfl) (by rfl) (by rfl) (by rfl) (by rfl) (by rfl) (by rfl) (by rfl) (by (simp only [sL] <;> omega)) ?_); (refine sfieldp rfl rfl rfl ?_); (refine se_store_b (by rfl) (by rfl) (by rfl) (by rfl) ?_); apply jW)))
          refine wp_loop (fun (σ : List GAl × List (Nat × Tx)) => σ.2 <:+ l2 ∧ σ.1.length + σ.2.length ≤ l.length ∧ finR σ.1 (σ.2.map (·.2)) = pAltsR (l2.map (·.2))) (fun σ => σ.2.length)
            (fun σ => (S 33 [(0, .ptr 0 2 0 0), (2, .ptr 1 2 0 0), (3, .ptr 2 2 0 0)] 4 [(0, some (rdA σ.2 e)), (1, some (.arr 2 [.agg [strA ⟨#[]⟩, .val (.slice none 0 0)]])), (2, some (.arr 2 [.agg [strA n, .ref 3 4 0 σ.1.length]])), (3, some (.arr 4 (σ.1.map altA)))])) ([a0], cut l2 r0) ⟨[0, 1, 2, 5], ToR.S rfl (by repeat' (first | exact rt_nil | refine rt_t (by rfl) (by rfl) ?_)) (by repeat' (first | exact ro_nil | refine ro_e (by rfl) (by rfl) ?_ | refine ro_p (by rfl) (by first | exact rfl | fail) (by first | exact bdL_map (fun _ => by simp [AV.bd, bdL, bdL_append]) _ | (simp [bdL, bdL_append, AV.bd]; done) | fail) ?_)) (by rfl) (by (rw [hm]; exact rfl)) (by rfl) (by (simp [bdT, AV.bd, bdL, bdL_append]; done)) (by repeat' (first | exact True.intro | exact rfl | refine And.intro ?_ ?_ | exact bdL_map (fun _ => by simp [AV.bd, bdL, bdL_append]) _ | (simp [bdOq, bdL, bdL_append, AV.bd]; done))) (by (rw [hm]; exact Nat.le_of_ble_eq_true rfl))⟩ ⟨cut_suf _ _, by simp only [List.length_cons, List.length_nil]; omega, by rw [cut_map hqs]; exact hfin⟩ ?_
          rintro ⟨acc, l3⟩ ⟨hs3, hn3, hf3⟩
          simp only at hs3 hn3 hf3 ⊢
          by_cases hbar : hdT l3 = [124]
          · obtain ⟨p3, l4, hl3, hp3⟩ := hdT_cons (by simp) hbar
            have hN : FnO Try.prog 55 [.ptr 0 2 0 0] [rdA l3 e] (tokA p3) [some (rdA l4 e)] := by rw [hl3]; exact next_fn p3 l4 e
            have hbb : finR acc (l3.map (·.2)) = match pAlt (l4.map (·.2)) with
                | .err q' => .err q'
                | .ok a q' => finR (acc ++ [a]) q' := by rw [hl3, List.map_cons, hp3]; exact finR_bar _ _
            have hs4 : l4 <:+ l2 := by rw [hl3] at hs3; exact (List.suffix_cons _ _).trans hs3
            have hlen4 : l4.length < l3.length := by rw [hl3]; simp
            have hle4 := hs4.length_le
            have hal4 := gpalt_fn l4 e (by omega) (hW.suf (hs4.trans hs2))
            cases hq4 : pAlt (l4.map (·.2)) with
            | err q =>
              have hq4s : q <:+ l4.map (·.2) := by have := pAlt_suf (l4.map (·.2)); rw [hq4] at this; exact this
              have hX : FnX Try.prog 58 [.ptr 0 2 0 0] [rdA l4 e] (synV (pos (cut l4 q) e)) := hal4.dies (by rw [hq4]; simp only [pout])
              have hout : pout l e gruleA (pRule (l.map (·.2))) = .die (synV (pos (cut l4 q) e)) := by
                rw [hpr, ← hf3, hbb, hq4]; simp only [pout, cut_cut (hs4.trans hs2) hq4s]
              rw [hout]
              (repeat' (first | apply jA | apply jF | apply jH | apply jI | apply jJ | apply jL | apply jP | apply jT | apply jU | (refine wp_cond (by rfl) (fun hc => ?_) (fun hc => ?_) <;> (try simp only [sB, ne_eq, reduceCtorEq] at hc) <;> (try (exfalso; omega))) | (refine WP.regionC (id := 4) ?_; (refine smove rfl ?_); (refine sc_o [0] rfl rfl (peek_fn _ _) (Lend.o1 (by rfl) (by rfl) (by (exact (renL_pure (by simp [AV.bd, bdL, bdL_append])).symm)) (by rfl) (by simp [AV.bd, bdL, bdL_append]) (by simp [AV.bd, bdL, bdL_append])) ?_; simp only [updN, newO, AObj.ren, renL, AV.ren, apx, ap, if_true, if_false, Nat.reduceLT, Nat.reduceAdd, Nat.reduceSub, sO, intA, boolA, strA, ren_pkA, rdA, ren_toks]); (refine su (afieldv rfl rfl) ?_); (refine seqs rfl rfl ?_); apply jW) | (refine wpl_region (id := 5) ?_; (refine wpl_step rfl ?_; (refine smove rfl ?_); apply jW; ((refine wpl_step rfl ?_; (refine sc_o [0] rfl rfl (hN) (Lend.o1 (by rfl) (by rfl) (by (exact (renL_pure (by simp [AV.bd, bdL, bdL_append])).symm)) (by rfl) (by simp [AV.bd, bdL, bdL_append]) (by simp [AV.bd, bdL, bdL_append])) ?_; simp only [updN, newO, AObj.ren, renL, AV.ren, apx, ap, if_true, if_false, Nat.reduceLT, Nat.reduceAdd, Nat.reduceSub, sO, intA, boolA, strA, rdA, ren_toks]); apply jW; (apply jX))))) | (refine wp_tree (id := 6) 7 mixed rfl ?_ <;> (refine wpt_take 0 (by rfl) (by exact still_fieldAddr (by rfl) (by rfl)) (by exact ap_field_p (rq_p rfl rfl) (by rfl) (by rfl)) (by kernel_rfl) (by kernel_rfl) (by kernel_rfl) (by repeat (first | exact pind_p | apply pind_then | apply pind_block)) ?_; (refine wpt_take 2 (by rfl) still_move (by exact ap_move (rq_p rfl rfl)) (by kernel_rfl) (by kernel_rfl) (by kernel_rfl) (by repeat (first | exact pind_p | apply pind_then | apply pind_block)) ?_; (refine wpt_all (rs := [1, 3]) (by kernel_rfl) rfl ⟨?_, ?_, trivial⟩ <;> (first | (refine wpo_do (i := 1) (by rfl) (by rfl) ?_; (refine sloadp rfl rfl rfl rfl ?_); apply jW; (refine wpt_all (rs := [3]) (by kernel_rfl) rfl ⟨?_, trivial⟩; ((refine wpo_x (i := 3) [0] (by rfl) (by rfl) (by rfl) (hX) (Lend.S (by first | ((repeat' first | exact RenL.nil | refine RenL.cons (by rfl) ?_); done) | fail) (by first | ((repeat' first | exact LendO.nil | refine LendO.arr (by rfl) (by (exact (renL_pure (by simp [AV.bd, bdL, bdL_append])).symm)) ?_); done) | fail) (by decide) (by rfl) (by simp [AV.bd, bdL, bdL_append]) (by repeat' (first | exact True.intro | refine And.intro ?_ ?_ | simp [AV.bd, bdL, bdL_append]))) ?_)))) | ((refine wpo_x (i := 3) [0] (by rfl) (by rfl) (by rfl) (hX) (Lend.S (by first | ((repeat' first | exact RenL.nil | refine RenL.cons (by rfl) ?_); done) | fail) (by first | ((repeat' first | exact LendO.nil | refine LendO.arr (by rfl) (by (exact (renL_pure (by simp [AV.bd, bdL, bdL_append])).symm)) ?_); done) | fail) (by decide) (by rfl) (by simp [AV.bd, bdL, bdL_append]) (by repeat' (first | exact True.intro | refine And.intro ?_ ?_ | simp [AV.bd, bdL, bdL_append]))) ?_)))))))))
              all_goals (first | exact bp_p rfl | exact absurd (by rw [hbar]; rfl) hc)
            | ok a r =>
              have hq4s : r <:+ l4.map (·.2) := by have := pAlt_suf (l4.map (·.2)); rw [hq4] at this; exact this
              have hO4 : FnO Try.prog 58 [.ptr 0 2 0 0] [rdA l4 e] (altA a) [some (rdA (cut l4 r) e)] := hal4.oks (by rw [hq4]; simp only [pout])
              have hcl4 := (cut_suf l4 r).length_le
              have hnext : (cut l4 r).length < l3.length ∧ cut l4 r <:+ l2 ∧ (acc ++ [a]).length + (cut l4 r).length ≤ l.length ∧ finR (acc ++ [a]) ((cut l4 r).map (·.2)) = pAltsR (l2.map (·.2)) := by
                refine ⟨by omega, (cut_suf _ _).trans hs4, by simp only [List.length_append, List.length_cons, List.length_nil]; omega, ?_⟩
                rw [cut_map hq4s, ← hf3, hbb, hq4]
              (repeat' (first | apply jA | apply jF | apply jH | apply jI | apply jJ | apply jL | apply jN | apply jP | (refine wp_cond (by rfl) (fun hc => ?_) (fun hc => ?_) <;> (try simp only [sB, ne_eq, reduceCtorEq] at hc) <;> (try (exfalso; omega))) | (refine WP.regionC (id := 4) ?_; (refine smove rfl ?_); (refine sc_o [0] rfl rfl (peek_fn _ _) (Lend.o1 (by rfl) (by rfl) (by (exact (renL_pure (by simp [AV.bd, bdL, bdL_append])).symm)) (by rfl) (by simp [AV.bd, bdL, bdL_append]) (by simp [AV.bd, bdL, bdL_append])) ?_; simp only [updN, newO, AObj.ren, renL, AV.ren, apx, ap, if_true, if_false, Nat.reduceLT, Nat.reduceAdd, Nat.reduceSub, sO, intA, boolA, strA, ren_pkA, rdA, ren_toks]); (refine su (afieldv rfl rfl) ?_); (refine seqs rfl rfl ?_); apply jW) | (refine WP.regionC (id := 5) ?_; (refine smove rfl ?_); (refine sc_o [0] rfl rfl (hN) (Lend.o1 (by rfl) (by rfl) (by (exact (renL_pure (by simp [AV.bd, bdL, bdL_append])).symm)) (by rfl) (by simp [AV.bd, bdL, bdL_append]) (by simp [AV.bd, bdL, bdL_append])) ?_; simp only [updN, newO, AObj.ren, renL, AV.ren, apx, ap, if_true, if_false, Nat.reduceLT, Nat.reduceAdd, Nat.reduceSub, sO, intA, boolA, strA, rdA, ren_toks]); apply jW) | (refine wp_tree (id := 6) 7 mixed rfl ?_ <;> (refine wpt_take 0 (by rfl) (by exact still_fieldAddr (by rfl) (by rfl)) (by exact ap_field_p (rq_p rfl rfl) (by rfl) (by rfl)) (by kernel_rfl) (by kernel_rfl) (by kernel_rfl) (by repeat (first | exact pind_p | apply pind_then | apply pind_block)) ?_; (refine wpt_take 2 (by rfl) still_move (by exact ap_move (rq_p rfl rfl)) (by kernel_rfl) (by kernel_rfl) (by kernel_rfl) (by repeat (first | exact pind_p | apply pind_then | apply pind_block)) ?_; (refine wpt_all (rs := [1, 3]) (by kernel_rfl) rfl ⟨?_, ?_, trivial⟩ <;> (first | (refine wpo_do (i := 1) (by rfl) (by rfl) ?_; (refine sloadp rfl rfl rfl rfl ?_); apply jW; (refine wpt_all (rs := [3]) (by kernel_rfl) rfl ⟨?_, trivial⟩; (refine wpo_do (i := 3) (by rfl) (by rfl) ?_; (refine sc_o [0] rfl rfl (hO4) (Lend.o1 (by rfl) (by rfl) (by (exact (renL_pure (by simp [AV.bd, bdL, bdL_append])).symm)) (by rfl) (by simp [AV.bd, bdL, bdL_append]) (by simp [AV.bd, bdL, bdL_append])) ?_; simp only [updN, newO, AObj.ren, renL, AV.ren, apx, ap, if_true, if_false, Nat.reduceLT, Nat.reduceAdd, Nat.reduceSub, sO, intA, boolA, strA, rdA, ren_toks, ren_altA]); apply jW; (refine wpt_all (rs := [4]) (by kernel_rfl) rfl ⟨?_, trivial⟩; (refine wpo_do (i := 4) (by rfl) (by rfl) ?_; (refine se_lit (OpP.cons (by rfl) (OpP.nil)) (by rfl) (by rfl) (by rfl) (by rfl) (by rfl) (by rfl) ?_); apply jW; (refine wpt_all (rs := [5]) (by kernel_rfl) rfl ⟨?_, trivial⟩; (refine wpo_do (i := 5) (by rfl) (by rfl) ?_; (refine se_app1 (by rfl) (by rfl) (by rfl) (by rfl) (by rfl) (by rfl) (by rfl) (by rfl) (by omega) ?_); apply jW; (refine wpt_take 6 (by rfl) still_assign (by exact ap_assign (rq_p rfl rfl)) (by kernel_rfl) (by kernel_rfl) (by kernel_rfl) (by repeat (first | exact pind_p | apply pind_then | apply pind_block)) ?_; (refine wpt_end (by kernel_rfl) ?_))))))))) | (refine wpo_do (i := 3) (by rfl) (by rfl) ?_; (refine sc_o [0] rfl rfl (hO4) (Lend.o1 (by rfl) (by rfl) (by (exact (renL_pure (by simp [AV.bd, bdL, bdL_append])).symm)) (by rfl) (by simp [AV.bd, bdL, bdL_append]) (by simp [AV.bd, bdL, bdL_append])) ?_; simp only [updN, newO, AObj.ren, renL, AV.ren, apx, ap, if_true, if_false, Nat.reduceLT, Nat.reduceAdd, Nat.reduceSub, sO, intA, boolA, strA, rdA, ren_toks, ren_altA]); apply jW; (refine wpt_all (rs := [1, 4]) (by kernel_rfl) rfl ⟨?_, ?_, trivial⟩ <;> (first | (refine wpo_do (i := 1) (by rfl) (by rfl) ?_; (refine sloadp rfl rfl rfl rfl ?_); apply jW; (refine wpt_all (rs := [4]) (by kernel_rfl) rfl ⟨?_, trivial⟩; (refine wpo_do (i := 4) (by rfl) (by rfl) ?_; (refine se_lit (OpP.cons (by rfl) (OpP.nil)) (by rfl) (by rfl) (by rfl) (by rfl) (by rfl) (by rfl) ?_); apply jW; (refine wpt_all (rs := [5]) (by kernel_rfl) rfl ⟨?_, trivial⟩; (refine wpo_do (i := 5) (by rfl) (by rfl) ?_; (refine se_app1 (by rfl) (by rfl) (by rfl) (by rfl) (by rfl) (by rfl) (by rfl) (by rfl) (by omega) ?_); apply jW; (refine wpt_take 6 (by rfl) still_assign (by exact ap_assign (rq_p rfl rfl)) (by kernel_rfl) (by kernel_rfl) (by kernel_rfl) (by repeat (first | exact pind_p | apply pind_then | apply pind_block)) ?_; (refine wpt_end (by kernel_rfl) ?_))))))) | (refine wpo_do (i := 4) (by rfl) (by rfl) ?_; (refine se_lit (OpP.cons (by rfl) (OpP.nil)) (by rfl) (by rfl) (by rfl) (by rfl) (by rfl) (by rfl) ?_); apply jW; (refine wpt_all (rs := [1]) (by kernel_rfl) rfl ⟨?_, trivial⟩; (refine wpo_do (i := 1) (by rfl) (by rfl) ?_; (refine sloadp rfl rfl rfl rfl ?_); apply jW; (refine wpt_all (rs := [5]) (by kernel_rfl) rfl ⟨?_, trivial⟩; (refine wpo_do (i := 5) (by rfl) (by rfl) ?_; (refine se_app1 (by rfl) (by rfl) (by rfl) (by rfl) (by rfl) (by rfl) (by rfl) (by rfl) (by omega) ?_); apply jW; (refine wpt_take 6 (by rfl) still_assign (by exact ap_assign (rq_p rfl rfl)) (by kernel_rfl) (by kernel_rfl) (by kernel_rfl) (by repeat (first | exact pind_p | apply pind_then | apply pind_block)) ?_; (refine wpt_end (by kernel_rfl) ?_))))))))))))))) | (refine WP.regionC (id := 7) ?_; (refine smove rfl ?_); (refine sfieldp rfl rfl rfl ?_); (refine se_store_b (by rfl) (by rfl) (by rfl) (by rfl) ?_); apply jW)))
              all_goals (first | exact absurd (by rw [hbar]; rfl) hc | exact ⟨(acc ++ [a], cut l4 r), hnext, ⟨[0, 1, 2, 5], ToR.S rfl (by repeat' (first | exact rt_nil | refine rt_t (by rfl) (by rfl) ?_)) (by repeat' (first | exact ro_nil | refine ro_e (by rfl) (by rfl) ?_ | refine ro_p (by rfl) (by first | exact rfl | fail) (by first | exact bdL_map (fun _ => by simp [AV.bd, bdL, bdL_append]) _ | (simp [bdL, bdL_append, AV.bd]; done) | fail) ?_)) (by rfl) (by (rw [hm]; exact rfl)) (by rfl) (by (simp [bdT, AV.bd, bdL, bdL_append]; done)) (by repeat' (first | exact True.intro | exact rfl | refine And.intro ?_ ?_ | exact bdL_map (fun _ => by simp [AV.bd, bdL, bdL_append]) _ | (simp [bdOq, bdL, bdL_append, AV.bd]; done))) (by (rw [hm]; exact Nat.le_of_ble_eq_true rfl))⟩⟩)
          · have hfe : pAltsR (l2.map (·.2)) = .ok acc (l3.map (·.2)) := by rw [← hf3]; exact finR_stop hbar
            rw [hpr, hfe]
            simp only
            by_cases h59 : hdT l3 = [59]
            · obtain ⟨p3, l4, hl3, hp3⟩ := hdT_cons (by simp) h59
              have hE2 : FnO Try.prog 20 [.ptr 0 2 0 0, strA (tx [59])] [rdA l3 e] (.tup []) [some (rdA l4 e)] := by rw [hl3]; exact expect_ok [59] (by simp) p3 l4 e hp3
              have hpt : pTake [59] (l3.map (·.2)) = .ok () (l4.map (·.2)) := by rw [hl3, List.map_cons, pTake, if_pos hp3]
              rw [hpt]
              have hout : pout l e gruleA (.ok ⟨n, acc⟩ (l4.map (·.2))) = .ok (gruleA ⟨n, acc⟩) [some (rdA l4 e)] := by
                have : l4 <:+ l := (by rw [hl3] at hs3; exact ((List.suffix_cons _ _).trans hs3).trans hs2)
                simp only [pout, cut_of this]
              simp only
              rw [hout]
              (repeat' (first | apply jA | apply jF | apply jH | apply jI | apply jJ | apply jL | apply jP | (refine wp_cond (by rfl) (fun hc => ?_) (fun hc => ?_) <;> (try simp only [sB, ne_eq, reduceCtorEq] at hc) <;> (try (exfalso; omega))) | (refine WP.regionC (id := 4) ?_; (refine smove rfl ?_); (refine sc_o [0] rfl rfl (peek_fn _ _) (Lend.o1 (by rfl) (by rfl) (by (exact (renL_pure (by simp [AV.bd, bdL, bdL_append])).symm)) (by rfl) (by simp [AV.bd, bdL, bdL_append]) (by simp [AV.bd, bdL, bdL_append])) ?_; simp only [updN, newO, AObj.ren, renL, AV.ren, apx, ap, if_true, if_false, Nat.reduceLT, Nat.reduceAdd, Nat.reduceSub, sO, intA, boolA, strA, ren_pkA, rdA, ren_toks]); (refine su (afieldv rfl rfl) ?_); (refine seqs rfl rfl ?_); apply jW) | (refine WP.regionC (id := 8) ?_; (refine smove rfl ?_); (refine sc_o [0] rfl rfl (hE2) (Lend.o1 (by rfl) (by rfl) (by (exact (renL_pure (by simp [AV.bd, bdL, bdL_append])).symm)) (by rfl) (by simp [AV.bd, bdL, bdL_append]) (by simp [AV.bd, bdL, bdL_append])) ?_; simp only [updN, newO, AObj.ren, renL, AV.ren, apx, ap, if_true, if_false, Nat.reduceLT, Nat.reduceAdd, Nat.reduceSub, sO, intA, boolA, strA, rdA, ren_toks]); apply jW)))
              · exact absurd (tx_inj (hc.trans rfl)) hbar
              · refine wp_frzom 2 1 hm rfl rfl rfl rfl rfl (bd_altA 0) (fun _ => rfl) (by rfl) ?_
                (repeat' (first | apply jH | apply jK | (refine WP.regionC (id := 9) ?_; (refine sloadpw rfl rfl rfl rfl ?_); (refine se_store_b (by rfl) (by rfl) (by rfl) (by rfl) ?_); apply jW)))
                refine bp_r rfl ?_
                refine retO_L (x := gruleA ⟨n, acc⟩) (k := 1) (os1 := [(0, some (rdA l4 e))]) (.cellT (by rfl) (by rfl) (by rfl) (by rfl) .nil) (by rfl) ⟨[0], ToR.S rfl (by repeat' (first | exact rt_nil | refine rt_p (by rfl) (by rfl) (by first | (simp [AV.bd, bdL, bdL_append]; done) | fail) ?_)) (by repeat' (first | exact ro_nil | refine ro_p (by rfl) (by first | exact rfl | fail) (by first | (simp [bdL, bdL_append, AV.bd]; done) | fail) ?_)) (by rfl) (by rfl) (by rfl) (by (simp [bdT, AV.bd, bdL, bdL_append]; done)) (by repeat' (first | exact True.intro | refine And.intro ?_ ?_ | (simp [bdOq, bdL, bdL_append, AV.bd]; done))) (by exact Nat.le_of_ble_eq_true rfl)⟩ (by rfl)
            · have hX2 := expect_x [59] (by simp) l3 e h59
              rw [pTake_bad (by simp) h59]
              have hout : pout l e gruleA (.err (l3.map (·.2))) = .die (synV (pos l3 e)) := by simp only [pout, cut_of (hs3.trans hs2)]
              simp only
              rw [hout]
              (repeat' (first | apply jA | apply jF | apply jH | apply jI | apply jJ | apply jL | apply jP | apply jT | (refine wp_cond (by rfl) (fun hc => ?_) (fun hc => ?_) <;> (try simp only [sB, ne_eq, reduceCtorEq] at hc) <;> (try (exfalso; omega))) | (refine WP.regionC (id := 4) ?_; (refine smove rfl ?_); (refine sc_o [0] rfl rfl (peek_fn _ _) (Lend.o1 (by rfl) (by rfl) (by (exact (renL_pure (by simp [AV.bd, bdL, bdL_append])).symm)) (by rfl) (by simp [AV.bd, bdL, bdL_append]) (by simp [AV.bd, bdL, bdL_append])) ?_; simp only [updN, newO, AObj.ren, renL, AV.ren, apx, ap, if_true, if_false, Nat.reduceLT, Nat.reduceAdd, Nat.reduceSub, sO, intA, boolA, strA, ren_pkA, rdA, ren_toks]); (refine su (afieldv rfl rfl) ?_); (refine seqs rfl rfl ?_); apply jW) | (refine wpl_region (id := 8) ?_; (refine wpl_step rfl ?_; (refine smove rfl ?_); apply jW; ((refine wpl_x [0] rfl rfl (hX2) (Lend.S (by first | ((repeat' first | exact RenL.nil | refine RenL.cons (by rfl) ?_); done) | fail) (by first | ((repeat' first | exact LendO.nil | refine LendO.arr (by rfl) (by (exact (renL_pure (by simp [AV.bd, bdL, bdL_append])).symm)) ?_); done) | fail) (by decide) (by rfl) (by simp [AV.bd, bdL, bdL_append]) (by repeat' (first | exact True.intro | refine And.intro ?_ ?_ | simp [AV.bd, bdL, bdL_append]))) ?_))))))
              · exact absurd (tx_inj (hc.trans rfl)) hbar
              · exact bp_p rfl
        · exact pout_fine l e gruleA (fun x => bd_gruleA 1 x) _
    · have hX := expect_x [61] (by simp) l1 e h61
      have hout : pout l e gruleA (pRule (l.map (·.2))) = .die (synV (pos l1 e)) := by
        have : pTake [61] r = .err r := by rw [← hm1]; exact pTake_bad (by simp) h61
        simp only [pRule, hq, this, pout, hl1]
      rw [hout]
      refine FnP.intro ?_ (by kernel_rfl) Try.func23 rfl rfl Try.ntmps23 (by exact Nat.le_of_ble_eq_true rfl) ?_; rotate_left; intro Γ hm
      · (repeat' (first | apply jA | apply jH | apply jT | (refine WP.regionC (id := 0) ?_; (refine se_alloc (by rfl) ?_); apply jW) | (refine wpl_region (id := 1) ?_; (refine wpl_step rfl ?_; (refine smove rfl ?_); apply jW; ((refine wpl_step rfl ?_; (refine sc_o [0] rfl rfl (hO) (Lend.o1 (by rfl) (by rfl) (by (exact (renL_pure (by simp [AV.bd, bdL, bdL_append])).symm)) (by rfl) (by simp [AV.bd, bdL, bdL_append]) (by simp [AV.bd, bdL, bdL_append])) ?_; simp only [updN, newO, AObj.ren, renL, AV.ren, apx, ap, if_true, if_false, Nat.reduceLT, Nat.reduceAdd, Nat.reduceSub, sO, intA, boolA, strA, rdA, ren_toks]); apply jW; (refine wpl_step rfl ?_; (refine su (ap_build (RqP.cons (rq_p rfl rfl) (RqP.nil)) (by rfl)) ?_); apply jW; (refine wpl_step rfl ?_; (refine se_alloc (by rfl) ?_); apply jW; (refine wpl_step rfl ?_; (refine se_store_b (by rfl) (by rfl) (by rfl) (by rfl) ?_); apply jW; (apply jX)))))))) | (refine wpl_region (id := 2) ?_; (refine wpl_step rfl ?_; (refine smove rfl ?_); apply jW; ((refine wpl_x [0] rfl rfl (hX) (Lend.S (by first | ((repeat' first | exact RenL.nil | refine RenL.cons (by rfl) ?_); done) | fail) (by first | ((repeat' first | exact LendO.nil | refine LendO.arr (by rfl) (by (exact (renL_pure (by simp [AV.bd, bdL, bdL_append])).symm)) ?_); done) | fail) (by decide) (by rfl) (by simp [AV.bd, bdL, bdL_append]) (by repeat' (first | exact True.intro | refine And.intro ?_ ?_ | simp [AV.bd, bdL, bdL_append]))) ?_))))))
        exact bp_p rfl
      · trivial
end Go.Lg
