/-
  Part 14 of the proof of GrammarparserValidCard: the logic over the model, the functions' contracts and the plain laws.
-/
import Derived.Test.YtpemjdkcabefnabDoorKg13

set_option linter.unusedSimpArgs false
set_option linter.unusedVariables false
set_option linter.unusedSectionVars false
set_option linter.defProp false

namespace Go.Lg
open Go.Proofs
set_option linter.unusedSimpArgs false
set_option linter.unusedVariables false
attribute [local irreducible] Ap Rq asemC WP RunD Ret Gq thenA inBlockA bodyQ noGotoA RqL RqP OpP
set_option maxHeartbeats 4000000
set_option maxRecDepth 20000
attribute [local simp] rdA pkA tokA toks_bd
theorem gpname_ok (p : Nat × Tx) (l : List (Nat × Tx)) (e : Int) (h : nmT p.2 = true) : FnO Tryd.prog 12 [.ptr 0 2 0 0] [rdA (p :: l) e] (strA (tx p.2)) [some (rdA l e)] :=
  (gpname_fn (p :: l) e).oks (by simp only [List.map_cons, pName, h, if_true, pout, cut_tail])
theorem gplevel_fn (a : Int) (p : Nat × Tx) (l : List (Nat × Tx)) (e : Int) (hB : l.length ≤ 1000000) : FnP Tryd.prog 41 [.ptr 0 2 0 0, intA a] [rdA (p :: l) e] (pout l e levelA (pLevel a (l.map (·.2)))) := by
  have hN := next_fn p l e
  have hnm := gpname_fn l e
  generalize hL : p :: l = L at *
  cases hq : pName (l.map (·.2)) with
  | err q =>
    have hX : FnX Tryd.prog 12 [.ptr 0 2 0 0] [rdA l e] (synV (pos (cut l q) e)) := hnm.dies (by rw [hq]; simp only [pout])
    have hout : pout l e levelA (pLevel a (l.map (·.2))) = .die (synV (pos (cut l q) e)) := by simp only [pLevel, hq, pout]
    rw [hout]
    refine FnP.intro ?_ (by kernel_rfl) Tryd.func41 rfl rfl Tryd.ntmps41 (by exact Nat.le_of_ble_eq_true rfl) ?_; rotate_left; intro Γ hm
    · (repeat' (first | apply jA | apply jH | apply jT | (refine WP.regionC (id := 0) ?_; (refine se_alloc rfl ?_); apply jW) | (refine wpl_region (id := 1) ?_; (refine wpl_step rfl ?_; (refine smove rfl ?_); apply jW; ((refine wpl_step rfl ?_; (refine sc_o [0] rfl rfl (hN) (Lend.o1 rfl rfl (by (exact (renL_pure (by simp [AV.bd, bdL, bdL_append])).symm)) rfl (by simp [AV.bd, bdL, bdL_append]) (by simp [AV.bd, bdL, bdL_append])) ?_; simp only [updN, newO, AObj.ren, renL, AV.ren, apx, ap, if_true, if_false, Nat.reduceLT, Nat.reduceAdd, Nat.reduceSub, sO, intA, boolA, strA, rdA, ren_toks]); apply jW; (apply jX))))) | (refine wpl_region (id := 2) ?_; (refine wpl_step rfl ?_; (refine smove rfl ?_); apply jW; (refine wpl_step rfl ?_; (refine smove rfl ?_); apply jW; ((refine wpl_x [0] rfl rfl (hX) (Lend.S (by first | ((repeat' first | exact RenL.nil | refine RenL.cons rfl ?_); done) | fail) (by first | ((repeat' first | exact LendO.nil | refine LendO.arr rfl (by (exact (renL_pure (by simp [AV.bd, bdL, bdL_append])).symm)) ?_); done) | fail) (by decide) rfl (by simp [AV.bd, bdL, bdL_append]) (by repeat' (first | exact True.intro | refine And.intro ?_ ?_ | simp [AV.bd, bdL, bdL_append]))) ?_)))))))
      exact bp_p rfl
    · trivial
  | ok n r =>
    have hr : r <:+ l.map (·.2) := by have := pName_suf (l.map (·.2)); rw [hq] at this; exact this
    have hO : FnO Tryd.prog 12 [.ptr 0 2 0 0] [rdA l e] (strA n) [some (rdA (cut l r) e)] := hnm.oks (by rw [hq]; simp only [pout])
    have hs1 := cut_suf l r
    have hm1 := cut_map hr
    generalize hl1 : cut l r = l1 at *
    have hpl : pLevel a (l.map (·.2)) = match pTake [59] (pNames (l1.map (·.2))).2 with
        | .err q => .err q
        | .ok _ q => .ok ⟨a, n :: (pNames (l1.map (·.2))).1⟩ q := by rw [hm1]; simp only [pLevel, hq] <;> cases pTake [59] (pNames r).2 <;> rfl
    have hlen1 := hs1.length_le
    refine FnP.intro ?_ (by kernel_rfl) Tryd.func41 rfl rfl Tryd.ntmps41 (by exact Nat.le_of_ble_eq_true rfl) ?_; rotate_left; intro Γ hm
    · (repeat' (first | apply jA | apply jF | apply jH | (refine WP.regionC (id := 0) ?_; (refine se_alloc rfl ?_); apply jW) | (refine WP.regionC (id := 1) ?_; (refine smove rfl ?_); (refine sc_o [0] rfl rfl (hN) (Lend.o1 rfl rfl (by (exact (renL_pure (by simp [AV.bd, bdL, bdL_append])).symm)) rfl (by simp [AV.bd, bdL, bdL_append]) (by simp [AV.bd, bdL, bdL_append])) ?_; simp only [updN, newO, AObj.ren, renL, AV.ren, apx, ap, if_true, if_false, Nat.reduceLT, Nat.reduceAdd, Nat.reduceSub, sO, intA, boolA, strA, rdA, ren_toks]); apply jW) | (refine WP.regionC (id := 2) ?_; (refine smove rfl ?_); (refine smove rfl ?_); (refine sc_o [0] rfl rfl (hO) (Lend.o1 rfl rfl (by (exact (renL_pure (by simp [AV.bd, bdL, bdL_append])).symm)) rfl (by simp [AV.bd, bdL, bdL_append]) (by simp [AV.bd, bdL, bdL_append])) ?_; simp only [updN, newO, AObj.ren, renL, AV.ren, apx, ap, if_true, if_false, Nat.reduceLT, Nat.reduceAdd, Nat.reduceSub, sO, intA, boolA, strA, rdA, ren_toks]); (refine se_lit (OpP.cons rfl (OpP.nil)) rfl rfl rfl rfl rfl rfl ?_); (refine su (ap_build (RqP.cons (rq_p rfl rfl) (RqP.cons (rq_p rfl rfl) (RqP.nil))) rfl) ?_); (refine se_alloc rfl ?_); (refine se_store_b rfl rfl rfl rfl ?_); apply jW)))
      refine wp_loop (fun (σ : List ByteArray × List (Nat × Tx)) => σ.2 <:+ l1 ∧ σ.1.length + σ.2.length ≤ l.length + 1 ∧ σ.1 ++ (pNames (σ.2.map (·.2))).1 = n :: (pNames (l1.map (·.2))).1 ∧ (pNames (σ.2.map (·.2))).2 = (pNames (l1.map (·.2))).2) (fun σ => σ.2.length)
        (fun σ => (S 25 [(0, .ptr 0 2 0 0), (4, .ptr 1 2 0 0), (5, .ptr 3 2 0 0)] 4 [(0, some (rdA σ.2 e)), (1, some (.arr 2 [.agg [intA 0, .val (.slice none 0 0)]])), (2, some (.arr 1 (σ.1.map strA))), (3, some (.arr 2 [.agg [intA a, .ref 2 1 0 σ.1.length]]))])) ([n], l1) ⟨[0, 1, 2, 3], ToR.S rfl (by repeat' (first | exact rt_nil | refine rt_t rfl rfl ?_)) (by repeat' (first | exact ro_nil | refine ro_e rfl rfl ?_ | refine ro_p rfl (by first | exact rfl | fail) (by first | (simp [bdL, bdL_append, AV.bd]; done) | fail) ?_)) rfl (by (rw [hm]; exact rfl)) rfl (by (simp [bdT, AV.bd, bdL, bdL_append]; done)) (by repeat' (first | exact True.intro | exact rfl | refine And.intro ?_ ?_ | (simp [bdOq, bdL, bdL_append, AV.bd]; done))) (by (rw [hm]; exact Nat.le_of_ble_eq_true rfl))⟩ ⟨List.suffix_refl _, by simp only [List.length_cons, List.length_nil]; omega, rfl, rfl⟩ ?_
      rintro ⟨acc, l2⟩ ⟨hs2, hn2, hf2, hg2⟩
      simp only at hs2 hn2 hf2 hg2 ⊢
      cases hnn : isN (l2.map (·.2)) with
      | true =>
        obtain ⟨p3, l3, hl3⟩ : ∃ p3 l3, l2 = p3 :: l3 := by
          cases l2 with
          | nil => cases hnn
          | cons p3 l3 => exact ⟨_, _, rfl⟩
        have hnm3 : nmT p3.2 = true := by rw [hl3] at hnn; exact hnn
        have hO3 : FnO Tryd.prog 12 [.ptr 0 2 0 0] [rdA l2 e] (strA (tx p3.2)) [some (rdA l3 e)] := by rw [hl3]; exact gpname_ok p3 l3 e hnm3
        have hpn : pNames (l2.map (·.2)) = (tx p3.2 :: (pNames (l3.map (·.2))).1, (pNames (l3.map (·.2))).2) := by rw [hl3, List.map_cons, pNames, if_pos hnm3]
        have hlen3 : l2.length = l3.length + 1 := by rw [hl3]; rfl
        have hnext : l3.length < l2.length ∧ l3 <:+ l1 ∧ (acc ++ [tx p3.2]).length + l3.length ≤ l.length + 1 ∧ (acc ++ [tx p3.2]) ++ (pNames (l3.map (·.2))).1 = n :: (pNames (l1.map (·.2))).1 ∧ (pNames (l3.map (·.2))).2 = (pNames (l1.map (·.2))).2 := by
          refine ⟨by omega, ?_, by simp only [List.length_append, List.length_cons, List.length_nil]; omega, ?_, ?_⟩
          · rw [hl3] at hs2; exact (List.suffix_cons _ _).trans hs2
          · rw [← hf2, hpn]; simp
          · rw [← hg2, hpn]
        (repeat' (first | apply jA | apply jF | apply jH | apply jI | apply jJ | apply jL | apply jN | apply jP | (refine wp_cond rfl (fun hc => ?_) (fun hc => ?_) <;> (try simp only [sB, ne_eq, reduceCtorEq] at hc) <;> (try (exfalso; omega))) | (refine WP.regionC (id := 3) ?_; (refine smove rfl ?_); (refine sc_o [0] rfl rfl (isname_fn _ _) (Lend.o1 rfl rfl (by (exact (renL_pure (by simp [AV.bd, bdL, bdL_append])).symm)) rfl (by simp [AV.bd, bdL, bdL_append]) (by simp [AV.bd, bdL, bdL_append])) ?_; simp only [updN, newO, AObj.ren, renL, AV.ren, apx, ap, if_true, if_false, Nat.reduceLT, Nat.reduceAdd, Nat.reduceSub, sO, intA, boolA, strA, ren_pkA, rdA, ren_toks]); apply jW) | (refine wp_tree (id := 4) 8 mixed rfl ?_ <;> (refine wpt_take 0 rfl (by exact still_fieldAddr rfl rfl) (by exact ap_field_p (rq_p rfl rfl) rfl rfl) (by kernel_rfl) (by kernel_rfl) (by kernel_rfl) (by repeat (first | exact pind_p | apply pind_then | apply pind_block)) ?_; (refine wpt_take 2 rfl still_move (by exact ap_move (rq_p rfl rfl)) (by kernel_rfl) (by kernel_rfl) (by kernel_rfl) (by repeat (first | exact pind_p | apply pind_then | apply pind_block)) ?_; (refine wpt_all (rs := [1, 3]) (by kernel_rfl) rfl ⟨?_, ?_, trivial⟩ <;> (first | (refine wpo_do (i := 1) rfl rfl ?_; (refine sloadp rfl rfl rfl rfl ?_); apply jW; (refine wpt_all (rs := [3]) (by kernel_rfl) rfl ⟨?_, trivial⟩; (refine wpo_do (i := 3) rfl rfl ?_; (refine sc_o [0] rfl rfl (hO3) (Lend.o1 rfl rfl (by (exact (renL_pure (by simp [AV.bd, bdL, bdL_append])).symm)) rfl (by simp [AV.bd, bdL, bdL_append]) (by simp [AV.bd, bdL, bdL_append])) ?_; simp only [updN, newO, AObj.ren, renL, AV.ren, apx, ap, if_true, if_false, Nat.reduceLT, Nat.reduceAdd, Nat.reduceSub, sO, intA, boolA, strA, rdA, ren_toks]); apply jW; (refine wpt_all (rs := [4]) (by kernel_rfl) rfl ⟨?_, trivial⟩; (refine wpo_do (i := 4) rfl rfl ?_; (refine se_lit (OpP.cons rfl (OpP.nil)) rfl rfl rfl rfl rfl rfl ?_); apply jW; (refine wpt_all (rs := [5]) (by kernel_rfl) rfl ⟨?_, trivial⟩; (refine wpo_do (i := 5) rfl rfl ?_; (refine se_app1 rfl rfl rfl rfl rfl rfl rfl rfl (by omega) ?_); apply jW; (refine wpt_take 6 rfl (by exact still_fieldAddr rfl rfl) (by exact ap_field_p (rq_p rfl rfl) rfl rfl) (by kernel_rfl) (by kernel_rfl) (by kernel_rfl) (by repeat (first | exact pind_p | apply pind_then | apply pind_block)) ?_; (refine wpt_all (rs := [7]) (by kernel_rfl) rfl ⟨?_, trivial⟩; (refine wpo_do (i := 7) rfl rfl ?_; (refine se_store_b rfl rfl rfl rfl ?_); apply jW; (refine wpt_end (by kernel_rfl) ?_))))))))))) | (refine wpo_do (i := 3) rfl rfl ?_; (refine sc_o [0] rfl rfl (hO3) (Lend.o1 rfl rfl (by (exact (renL_pure (by simp [AV.bd, bdL, bdL_append])).symm)) rfl (by simp [AV.bd, bdL, bdL_append]) (by simp [AV.bd, bdL, bdL_append])) ?_; simp only [updN, newO, AObj.ren, renL, AV.ren, apx, ap, if_true, if_false, Nat.reduceLT, Nat.reduceAdd, Nat.reduceSub, sO, intA, boolA, strA, rdA, ren_toks]); apply jW; (refine wpt_all (rs := [1, 4]) (by kernel_rfl) rfl ⟨?_, ?_, trivial⟩ <;> (first | (refine wpo_do (i := 1) rfl rfl ?_; (refine sloadp rfl rfl rfl rfl ?_); apply jW; (refine wpt_all (rs := [4]) (by kernel_rfl) rfl ⟨?_, trivial⟩; (refine wpo_do (i := 4) rfl rfl ?_; (refine se_lit (OpP.cons rfl (OpP.nil)) rfl rfl rfl rfl rfl rfl ?_); apply jW; (refine wpt_all (rs := [5]) (by kernel_rfl) rfl ⟨?_, trivial⟩; (refine wpo_do (i := 5) rfl rfl ?_; (refine se_app1 rfl rfl rfl rfl rfl rfl rfl rfl (by omega) ?_); apply jW; (refine wpt_take 6 rfl (by exact still_fieldAddr rfl rfl) (by exact ap_field_p (rq_p rfl rfl) rfl rfl) (by kernel_rfl) (by kernel_rfl) (by kernel_rfl) (by repeat (first | exact pind_p | apply pind_then | apply pind_block)) ?_; (refine wpt_all (rs := [7]) (by kernel_rfl) rfl ⟨?_, trivial⟩; (refine wpo_do (i := 7) rfl rfl ?_; (refine se_store_b rfl rfl rfl rfl ?_); apply jW; (refine wpt_end (by kernel_rfl) ?_))))))))) | (refine wpo_do (i := 4) rfl rfl ?_; (refine se_lit (OpP.cons rfl (OpP.nil)) rfl rfl rfl rfl rfl rfl ?_); apply jW; (refine wpt_all (rs := [1]) (by kernel_rfl) rfl ⟨?_, trivial⟩; (refine wpo_do (i := 1) rfl rfl ?_; (refine sloadp rfl rfl rfl rfl ?_); apply jW; (refine wpt_all (rs := [5]) (by kernel_rfl) rfl ⟨?_, trivial⟩; (refine wpo_do (i := 5) rfl rfl ?_; (refine se_app1 rfl rfl rfl rfl rfl rfl rfl rfl (by omega) ?_); apply jW; (refine wpt_take 6 rfl (by exact still_fieldAddr rfl rfl) (by exact ap_field_p (rq_p rfl rfl) rfl rfl) (by kernel_rfl) (by kernel_rfl) (by kernel_rfl) (by repeat (first | exact pind_p | apply pind_then | apply pind_block)) ?_; (refine wpt_all (rs := [7]) (by kernel_rfl) rfl ⟨?_, trivial⟩; (refine wpo_do (i := 7) rfl rfl ?_; (refine se_store_b rfl rfl rfl rfl ?_); apply jW; (refine wpt_end (by kernel_rfl) ?_)))))))))))))))))))
        · exact ⟨(acc ++ [tx p3.2], l3), hnext, ⟨[0, 1, 5, 3], ToR.S rfl (by repeat' (first | exact rt_nil | refine rt_t rfl rfl ?_)) (by repeat' (first | exact ro_nil | refine ro_e rfl rfl ?_ | refine ro_p rfl (by first | exact rfl | fail) (by first | exact bdL_map (fun _ => by exact rfl) _ | (simp [bdL, bdL_append, AV.bd]; done) | fail) ?_)) rfl (by (rw [hm]; exact rfl)) rfl (by (simp [bdT, AV.bd, bdL, bdL_append]; done)) (by repeat' (first | exact True.intro | exact rfl | refine And.intro ?_ ?_ | exact bdL_map (fun _ => by exact rfl) _ | (simp [bdOq, bdL, bdL_append, AV.bd]; done))) (by (rw [hm]; exact Nat.le_of_ble_eq_true rfl))⟩⟩
        · exact ⟨(acc ++ [tx p3.2], l3), hnext, ⟨[0, 1, 5, 3], ToR.S rfl (by repeat' (first | exact rt_nil | refine rt_t rfl rfl ?_)) (by repeat' (first | exact ro_nil | refine ro_e rfl rfl ?_ | refine ro_p rfl (by first | exact rfl | fail) (by first | exact bdL_map (fun _ => by exact rfl) _ | (simp [bdL, bdL_append, AV.bd]; done) | fail) ?_)) rfl (by (rw [hm]; exact rfl)) rfl (by (simp [bdT, AV.bd, bdL, bdL_append]; done)) (by repeat' (first | exact True.intro | exact rfl | refine And.intro ?_ ?_ | exact bdL_map (fun _ => by exact rfl) _ | (simp [bdOq, bdL, bdL_append, AV.bd]; done))) (by (rw [hm]; exact Nat.le_of_ble_eq_true rfl))⟩⟩
        · exact ⟨(acc ++ [tx p3.2], l3), hnext, ⟨[0, 1, 5, 3], ToR.S rfl (by repeat' (first | exact rt_nil | refine rt_t rfl rfl ?_)) (by repeat' (first | exact ro_nil | refine ro_e rfl rfl ?_ | refine ro_p rfl (by first | exact rfl | fail) (by first | exact bdL_map (fun _ => by exact rfl) _ | (simp [bdL, bdL_append, AV.bd]; done) | fail) ?_)) rfl (by (rw [hm]; exact rfl)) rfl (by (simp [bdT, AV.bd, bdL, bdL_append]; done)) (by repeat' (first | exact True.intro | exact rfl | refine And.intro ?_ ?_ | exact bdL_map (fun _ => by exact rfl) _ | (simp [bdOq, bdL, bdL_append, AV.bd]; done))) (by (rw [hm]; exact Nat.le_of_ble_eq_true rfl))⟩⟩
        · exfalso; simp_all
      | false =>
        have hpn : pNames (l2.map (·.2)) = ([], l2.map (·.2)) := by
          cases l2 with
          | nil => rfl
          | cons p3 l3 => have h3 : nmT p3.2 = false := hnn; simp only [List.map_cons, pNames, h3, Bool.false_eq_true, if_false]
        rw [hpn] at hf2 hg2
        simp only [List.append_nil] at hf2
        rw [hpl, ← hg2, ← hf2]
        by_cases h59 : hdT l2 = [59]
        · obtain ⟨p3, l3, hl3, hp3⟩ := hdT_cons (by simp) h59
          have hE : FnO Tryd.prog 11 [.ptr 0 2 0 0, strA (tx [59])] [rdA l2 e] (.tup []) [some (rdA l3 e)] := by rw [hl3]; exact expect_ok [59] (by simp) p3 l3 e hp3
          have hpt : pTake [59] (l2.map (·.2)) = .ok () (l3.map (·.2)) := by rw [hl3, List.map_cons, pTake, if_pos hp3]
          have hs3 : l3 <:+ l := by rw [hl3] at hs2; exact ((List.suffix_cons _ _).trans hs2).trans hs1
          have hout : pout l e levelA (.ok ⟨a, acc⟩ (l3.map (·.2))) = .ok (levelA ⟨a, acc⟩) [some (rdA l3 e)] := by simp only [pout, cut_of hs3]
          rw [hpt]
          simp only
          rw [hout]
          (repeat' (first | apply jA | apply jF | apply jH | apply jI | apply jJ | apply jL | apply jP | (refine wp_cond rfl (fun hc => ?_) (fun hc => ?_) <;> (try simp only [sB, ne_eq, reduceCtorEq] at hc) <;> (try (exfalso; omega))) | (refine WP.regionC (id := 3) ?_; (refine smove rfl ?_); (refine sc_o [0] rfl rfl (isname_fn _ _) (Lend.o1 rfl rfl (by (exact (renL_pure (by simp [AV.bd, bdL, bdL_append])).symm)) rfl (by simp [AV.bd, bdL, bdL_append]) (by simp [AV.bd, bdL, bdL_append])) ?_; simp only [updN, newO, AObj.ren, renL, AV.ren, apx, ap, if_true, if_false, Nat.reduceLT, Nat.reduceAdd, Nat.reduceSub, sO, intA, boolA, strA, ren_pkA, rdA, ren_toks]); apply jW) | (refine WP.regionC (id := 5) ?_; (refine smove rfl ?_); (refine sc_o [0] rfl rfl (hE) (Lend.o1 rfl rfl (by (exact (renL_pure (by simp [AV.bd, bdL, bdL_append])).symm)) rfl (by simp [AV.bd, bdL, bdL_append]) (by simp [AV.bd, bdL, bdL_append])) ?_; simp only [updN, newO, AObj.ren, renL, AV.ren, apx, ap, if_true, if_false, Nat.reduceLT, Nat.reduceAdd, Nat.reduceSub, sO, intA, boolA, strA, rdA, ren_toks]); apply jW)))
          · exfalso; simp_all
          · refine wp_frzom 3 1 hm rfl rfl rfl rfl rfl (fun x => rfl) (fun _ => rfl) rfl ?_
            (repeat' (first | apply jH | apply jK | (refine WP.regionC (id := 6) ?_; (refine sloadpw rfl rfl rfl rfl ?_); (refine se_store_b rfl rfl rfl rfl ?_); apply jW)))
            refine bp_r rfl ?_
            refine retO_L (x := levelA ⟨a, acc⟩) (k := 1) (os1 := [(0, some (rdA l3 e))]) (.cellT rfl rfl rfl rfl .nil) rfl ⟨[0], ToR.S rfl (by repeat' (first | exact rt_nil | refine rt_p rfl rfl (by first | (simp [AV.bd, bdL, bdL_append]; done) | fail) ?_)) (by repeat' (first | exact ro_nil | refine ro_p rfl (by first | exact rfl | fail) (by first | (simp [bdL, bdL_append, AV.bd]; done) | fail) ?_)) rfl rfl rfl (by (simp [bdT, AV.bd, bdL, bdL_append]; done)) (by repeat' (first | exact True.intro | refine And.intro ?_ ?_ | (simp [bdOq, bdL, bdL_append, AV.bd]; done))) (by exact Nat.le_of_ble_eq_true rfl)⟩ rfl
        · have hX2 := expect_x [59] (by simp) l2 e h59
          rw [pTake_bad (by simp) h59]
          have hout : pout l e levelA (.err (l2.map (·.2))) = .die (synV (pos l2 e)) := by simp only [pout, cut_of (hs2.trans hs1)]
          simp only
          rw [hout]
          (repeat' (first | apply jA | apply jF | apply jH | apply jI | apply jJ | apply jL | apply jP | apply jT | (refine wp_cond rfl (fun hc => ?_) (fun hc => ?_) <;> (try simp only [sB, ne_eq, reduceCtorEq] at hc) <;> (try (exfalso; omega))) | (refine WP.regionC (id := 3) ?_; (refine smove rfl ?_); (refine sc_o [0] rfl rfl (isname_fn _ _) (Lend.o1 rfl rfl (by (exact (renL_pure (by simp [AV.bd, bdL, bdL_append])).symm)) rfl (by simp [AV.bd, bdL, bdL_append]) (by simp [AV.bd, bdL, bdL_append])) ?_; simp only [updN, newO, AObj.ren, renL, AV.ren, apx, ap, if_true, if_false, Nat.reduceLT, Nat.reduceAdd, Nat.reduceSub, sO, intA, boolA, strA, ren_pkA, rdA, ren_toks]); apply jW) | (refine wpl_region (id := 5) ?_; (refine wpl_step rfl ?_; (refine smove rfl ?_); apply jW; ((refine wpl_x [0] rfl rfl (hX2) (Lend.S (by first | ((repeat' first | exact RenL.nil | refine RenL.cons rfl ?_); done) | fail) (by first | ((repeat' first | exact LendO.nil | refine LendO.arr rfl (by (exact (renL_pure (by simp [AV.bd, bdL, bdL_append])).symm)) ?_); done) | fail) (by decide) rfl (by simp [AV.bd, bdL, bdL_append]) (by repeat' (first | exact True.intro | refine And.intro ?_ ?_ | simp [AV.bd, bdL, bdL_append]))) ?_))))))
          · exfalso; simp_all
          · exact bp_p rfl
    · exact pout_fine l e levelA (fun x => bd_levelA 1 x) _
end Go.Lg

namespace Go.Lg
open Go.Proofs
set_option linter.unusedSimpArgs false
set_option linter.unusedVariables false
attribute [local irreducible] Ap Rq asemC WP RunD Ret Gq thenA inBlockA bodyQ noGotoA RqL RqP OpP
set_option maxHeartbeats 4000000
set_option maxRecDepth 20000
attribute [local simp] rdA pkA tokA toks_bd
theorem ren_levelA (π : Nat → Nat) (x : GLe) : AV.ren π (levelA x) = levelA x := ren_pure (bd_levelA 0 x)
theorem gplevels_fn (l : List (Nat × Tx)) (e : Int) (hB : l.length ≤ 1000000) : FnP Tryd.prog 13 [.ptr 0 2 0 0] [rdA l e] (pout l e levelsA (pLevels (l.map (·.2)))) := by
  refine FnP.intro ?_ (by kernel_rfl) Tryd.func13 rfl rfl Tryd.ntmps13 (by exact Nat.le_of_ble_eq_true rfl) ?_; rotate_left; intro Γ hm
  · (repeat' (first | apply jA | apply jF | apply jH | (refine WP.regionC ?_; (refine sassign rfl ?_); apply jW)))
    refine wp_nil 3 2 rfl ?_
    refine wp_loop (fun (σ : List GLe × List (Nat × Tx)) => σ.2 <:+ l ∧ σ.1.length + σ.2.length ≤ l.length ∧ finL σ.1 (σ.2.map (·.2)) = pLevels (l.map (·.2))) (fun σ => σ.2.length)
      (fun σ => (S 29 [(0, .ptr 0 2 0 0), (3, .ref 1 2 0 σ.1.length)] 2 [(0, some (rdA σ.2 e)), (1, some (.arr 2 (σ.1.map levelA)))])) ([], l) ⟨[0, 1], ToR.S rfl (by repeat' (first | exact rt_nil | refine rt_r rfl rfl ?_ | refine rt_t rfl rfl ?_)) (by repeat' (first | exact ro_nil | refine ro_e rfl rfl ?_ | refine ro_p rfl (by first | exact rfl | fail) (by first | (simp [bdL, bdL_append, AV.bd]; done) | fail) ?_)) rfl (by (rw [hm]; exact rfl)) rfl (by (simp [bdT, AV.bd, bdL, bdL_append]; done)) (by repeat' (first | exact True.intro | exact rfl | refine And.intro ?_ ?_ | (simp [bdOq, bdL, bdL_append, AV.bd]; done))) (by (rw [hm]; exact Nat.le_of_ble_eq_true rfl))⟩ ⟨List.suffix_refl _, by simp, finL_nil _⟩ ?_
    rintro ⟨acc, l1⟩ ⟨hs1, hn1, hf1⟩
    simp only at hs1 hf1 hn1 ⊢
    by_cases hk : hdT l1 = bl kw1
    · skip
      obtain ⟨p, l2, hl2, hp2⟩ := hdT_cons (by decide) hk
      have htx : tx (hdT l1) = (⟨#[108, 101, 102, 116]⟩ : ByteArray) := by rw [hk]; rfl
      have has : assocOf p.2 = some 1 := by rw [hp2]; decide
      have hst := finL_step (acc := acc) (r := l2.map (·.2)) has
      have hl2m : l1.map (·.2) = p.2 :: l2.map (·.2) := by rw [hl2]; rfl
      rw [hl2m] at hf1
      have hs2 : l2 <:+ l := by rw [hl2] at hs1; exact (List.suffix_cons _ _).trans hs1
      have hlen2 : l1.length = l2.length + 1 := by rw [hl2]; rfl
      have hlv := gplevel_fn 1 p l2 e (by omega)
      rw [← hl2] at hlv
      cases hq : pLevel 1 (l2.map (·.2)) with
      | err q =>
        have hr : q <:+ l2.map (·.2) := by have := pLevel_suf 1 (l2.map (·.2)); rw [hq] at this; exact this
        have hX : FnX Tryd.prog 41 [.ptr 0 2 0 0, intA 1] [rdA l1 e] (synV (pos (cut l2 q) e)) := hlv.dies (by rw [hq]; simp only [pout])
        have hout : pout l e levelsA (pLevels (l.map (·.2))) = .die (synV (pos (cut l2 q) e)) := by rw [← hf1, hst, hq]; simp only [pout, cut_cut hs2 hr]
        rw [hout]
        (repeat' (first | apply jA | apply jF | apply jH | apply jT | apply jU | (refine wp_cond rfl (fun hc => ?_) (fun hc => ?_) <;> (try simp only [sB, ne_eq, reduceCtorEq] at hc) <;> (try (exfalso; omega))) | (refine WP.regionC (id := 2) ?_; (refine smove rfl ?_); (refine sc_o [0] rfl rfl (peek_fn _ _) (Lend.o1 rfl rfl (by (exact (renL_pure (by simp [AV.bd, bdL, bdL_append])).symm)) rfl (by simp [AV.bd, bdL, bdL_append]) (by simp [AV.bd, bdL, bdL_append])) ?_; simp only [updN, newO, AObj.ren, renL, AV.ren, apx, ap, if_true, if_false, Nat.reduceLT, Nat.reduceAdd, Nat.reduceSub, sO, intA, boolA, strA, ren_pkA, rdA, ren_toks]); (refine su (afieldv rfl rfl) ?_); apply jW) | (refine WP.regionC ?_; (refine seqs rfl rfl ?_); (refine sassign rfl ?_); apply jW) | (refine wpl_region (id := 5) ?_; (refine wpl_step rfl ?_; (refine smove rfl ?_); apply jW; (refine wpl_step rfl ?_; (refine smove rfl ?_); apply jW; ((refine wpl_x [0] rfl rfl (hX) (Lend.S (by first | ((repeat' first | exact RenL.nil | refine RenL.cons rfl ?_); done) | fail) (by first | ((repeat' first | exact LendO.nil | refine LendO.arr rfl (by (exact (renL_pure (by simp [AV.bd, bdL, bdL_append])).symm)) ?_); done) | fail) (by decide) rfl (by simp [AV.bd, bdL, bdL_append]) (by repeat' (first | exact True.intro | refine And.intro ?_ ?_ | simp [AV.bd, bdL, bdL_append]))) ?_)))))))
        all_goals (first | exact bp_p rfl | exact absurd htx (by assumption))
      | ok x r =>
        have hr : r <:+ l2.map (·.2) := by have := pLevel_suf 1 (l2.map (·.2)); rw [hq] at this; exact this
        have hO : FnO Tryd.prog 41 [.ptr 0 2 0 0, intA 1] [rdA l1 e] (levelA x) [some (rdA (cut l2 r) e)] := hlv.oks (by rw [hq]; simp only [pout])
        have hcl := (cut_suf l2 r).length_le
        have hnext : (cut l2 r).length < l1.length ∧ cut l2 r <:+ l ∧ (acc ++ [x]).length + (cut l2 r).length ≤ l.length ∧ finL (acc ++ [x]) ((cut l2 r).map (·.2)) = pLevels (l.map (·.2)) := by
          refine ⟨by omega, (cut_suf _ _).trans hs2, by simp only [List.length_append, List.length_cons, List.length_nil]; omega, ?_⟩
          rw [cut_map hr, ← hf1, hst, hq]
        (repeat' (first | apply jA | apply jF | apply jH | apply jN | (refine wp_cond rfl (fun hc => ?_) (fun hc => ?_) <;> (try simp only [sB, ne_eq, reduceCtorEq] at hc) <;> (try (exfalso; omega))) | (refine WP.regionC (id := 2) ?_; (refine smove rfl ?_); (refine sc_o [0] rfl rfl (peek_fn _ _) (Lend.o1 rfl rfl (by (exact (renL_pure (by simp [AV.bd, bdL, bdL_append])).symm)) rfl (by simp [AV.bd, bdL, bdL_append]) (by simp [AV.bd, bdL, bdL_append])) ?_; simp only [updN, newO, AObj.ren, renL, AV.ren, apx, ap, if_true, if_false, Nat.reduceLT, Nat.reduceAdd, Nat.reduceSub, sO, intA, boolA, strA, ren_pkA, rdA, ren_toks]); (refine su (afieldv rfl rfl) ?_); apply jW) | (refine WP.regionC ?_; (refine seqs rfl rfl ?_); (refine sassign rfl ?_); apply jW) | (refine WP.regionC (id := 5) ?_; (refine smove rfl ?_); (refine smove rfl ?_); (refine sc_o [0] rfl rfl (hO) (Lend.o1 rfl rfl (by (exact (renL_pure (by simp [AV.bd, bdL, bdL_append])).symm)) rfl (by simp [AV.bd, bdL, bdL_append]) (by simp [AV.bd, bdL, bdL_append])) ?_; simp only [updN, newO, AObj.ren, renL, AV.ren, apx, ap, if_true, if_false, Nat.reduceLT, Nat.reduceAdd, Nat.reduceSub, sO, intA, boolA, strA, rdA, ren_toks, ren_levelA]); (refine se_lit (OpP.cons rfl (OpP.nil)) rfl rfl rfl rfl rfl rfl ?_); (refine se_app1 rfl rfl rfl rfl rfl rfl rfl rfl (by omega) ?_); (refine sassign rfl ?_); apply jW)))
        all_goals (first | exact absurd htx (by assumption) | exact ⟨(acc ++ [x], cut l2 r), hnext, ⟨[0, 3], ToR.S rfl (by repeat' (first | exact rt_nil | refine rt_r rfl rfl ?_ | refine rt_t rfl rfl ?_)) (by repeat' (first | exact ro_nil | refine ro_p rfl (by first | exact rfl | fail) (by first | exact bdL_map (fun _ => by simp [AV.bd, bdL, bdL_append]) _ | (simp [bdL, bdL_append, AV.bd]; done) | fail) ?_)) rfl (by (rw [hm]; exact rfl)) rfl (by (simp [bdT, AV.bd, bdL, bdL_append]; done)) (by repeat' (first | exact True.intro | refine And.intro ?_ ?_ | exact bdL_map (fun _ => by simp [AV.bd, bdL, bdL_append]) _ | (simp [bdOq, bdL, bdL_append, AV.bd]; done))) (by (rw [hm]; exact Nat.le_of_ble_eq_true rfl))⟩⟩)
    · by_cases hk2 : hdT l1 = bl kw2
      · have hk := hk2
        obtain ⟨p, l2, hl2, hp2⟩ := hdT_cons (by decide) hk
        have htx : tx (hdT l1) = (⟨#[114, 105, 103, 104, 116]⟩ : ByteArray) := by rw [hk]; rfl
        have has : assocOf p.2 = some 2 := by rw [hp2]; decide
        have hst := finL_step (acc := acc) (r := l2.map (·.2)) has
        have hl2m : l1.map (·.2) = p.2 :: l2.map (·.2) := by rw [hl2]; rfl
        rw [hl2m] at hf1
        have hs2 : l2 <:+ l := by rw [hl2] at hs1; exact (List.suffix_cons _ _).trans hs1
        have hlen2 : l1.length = l2.length + 1 := by rw [hl2]; rfl
        have hlv := gplevel_fn 2 p l2 e (by omega)
        rw [← hl2] at hlv
        cases hq : pLevel 2 (l2.map (·.2)) with
        | err q =>
          have hr : q <:+ l2.map (·.2) := by have := pLevel_suf 2 (l2.map (·.2)); rw [hq] at this; exact this
          have hX : FnX Tryd.prog 41 [.ptr 0 2 0 0, intA 2] [rdA l1 e] (synV (pos (cut l2 q) e)) := hlv.dies (by rw [hq]; simp only [pout])
          have hout : pout l e levelsA (pLevels (l.map (·.2))) = .die (synV (pos (cut l2 q) e)) := by rw [← hf1, hst, hq]; simp only [pout, cut_cut hs2 hr]
          rw [hout]
          (repeat' (first | apply jA | apply jF | apply jH | apply jT | apply jU | (refine wp_cond rfl (fun hc => ?_) (fun hc => ?_) <;> (try simp only [sB, ne_eq, reduceCtorEq] at hc) <;> (try (exfalso; omega))) | (refine WP.regionC (id := 2) ?_; (refine smove rfl ?_); (refine sc_o [0] rfl rfl (peek_fn _ _) (Lend.o1 rfl rfl (by (exact (renL_pure (by simp [AV.bd, bdL, bdL_append])).symm)) rfl (by simp [AV.bd, bdL, bdL_append]) (by simp [AV.bd, bdL, bdL_append])) ?_; simp only [updN, newO, AObj.ren, renL, AV.ren, apx, ap, if_true, if_false, Nat.reduceLT, Nat.reduceAdd, Nat.reduceSub, sO, intA, boolA, strA, ren_pkA, rdA, ren_toks]); (refine su (afieldv rfl rfl) ?_); apply jW) | (refine WP.regionC ?_; (refine seqs rfl rfl ?_); (refine sassign rfl ?_); apply jW) | (refine wpl_region (id := 7) ?_; (refine wpl_step rfl ?_; (refine smove rfl ?_); apply jW; (refine wpl_step rfl ?_; (refine smove rfl ?_); apply jW; ((refine wpl_x [0] rfl rfl (hX) (Lend.S (by first | ((repeat' first | exact RenL.nil | refine RenL.cons rfl ?_); done) | fail) (by first | ((repeat' first | exact LendO.nil | refine LendO.arr rfl (by (exact (renL_pure (by simp [AV.bd, bdL, bdL_append])).symm)) ?_); done) | fail) (by decide) rfl (by simp [AV.bd, bdL, bdL_append]) (by repeat' (first | exact True.intro | refine And.intro ?_ ?_ | simp [AV.bd, bdL, bdL_append]))) ?_)))))))
          all_goals (first | exact bp_p rfl | exact absurd htx (by assumption) | (rw [htx] at hc; exact absurd hc (by decide)))
        | ok x r =>
          have hr : r <:+ l2.map (·.2) := by have := pLevel_suf 2 (l2.map (·.2)); rw [hq] at this; exact this
          have hO : FnO Tryd.prog 41 [.ptr 0 2 0 0, intA 2] [rdA l1 e] (levelA x) [some (rdA (cut l2 r) e)] := hlv.oks (by rw [hq]; simp only [pout])
          have hcl := (cut_suf l2 r).length_le
          have hnext : (cut l2 r).length < l1.length ∧ cut l2 r <:+ l ∧ (acc ++ [x]).length + (cut l2 r).length ≤ l.length ∧ finL (acc ++ [x]) ((cut l2 r).map (·.2)) = pLevels (l.map (·.2)) := by
            refine ⟨by omega, (cut_suf _ _).trans hs2, by simp only [List.length_append, List.length_cons, List.length_nil]; omega, ?_⟩
            rw [cut_map hr, ← hf1, hst, hq]
          (repeat' (first | apply jA | apply jF | apply jH | apply jN | (refine wp_cond rfl (fun hc => ?_) (fun hc => ?_) <;> (try simp only [sB, ne_eq, reduceCtorEq] at hc) <;> (try (exfalso; omega))) | (refine WP.regionC (id := 2) ?_; (refine smove rfl ?_); (refine sc_o [0] rfl rfl (peek_fn _ _) (Lend.o1 rfl rfl (by (exact (renL_pure (by simp [AV.bd, bdL, bdL_append])).symm)) rfl (by simp [AV.bd, bdL, bdL_append]) (by simp [AV.bd, bdL, bdL_append])) ?_; simp only [updN, newO, AObj.ren, renL, AV.ren, apx, ap, if_true, if_false, Nat.reduceLT, Nat.reduceAdd, Nat.reduceSub, sO, intA, boolA, strA, ren_pkA, rdA, ren_toks]); (refine su (afieldv rfl rfl) ?_); apply jW) | (refine WP.regionC ?_; (refine seqs rfl rfl ?_); (refine sassign rfl ?_); apply jW) | (refine WP.regionC (id := 7) ?_; (refine smove rfl ?_); (refine smove rfl ?_); (refine sc_o [0] rfl rfl (hO) (Lend.o1 rfl rfl (by (exact (renL_pure (by simp [AV.bd, bdL, bdL_append])).symm)) rfl (by simp [AV.bd, bdL, bdL_append]) (by simp [AV.bd, bdL, bdL_append])) ?_; simp only [updN, newO, AObj.ren, renL, AV.ren, apx, ap, if_true, if_false, Nat.reduceLT, Nat.reduceAdd, Nat.reduceSub, sO, intA, boolA, strA, rdA, ren_toks, ren_levelA]); (refine se_lit (OpP.cons rfl (OpP.nil)) rfl rfl rfl rfl rfl rfl ?_); (refine se_app1 rfl rfl rfl rfl rfl rfl rfl rfl (by omega) ?_); (refine sassign rfl ?_); apply jW)))
          all_goals (first | exact absurd htx (by assumption) | (rw [htx] at hc; exact absurd hc (by decide)) | exact ⟨(acc ++ [x], cut l2 r), hnext, ⟨[0, 3], ToR.S rfl (by repeat' (first | exact rt_nil | refine rt_r rfl rfl ?_ | refine rt_t rfl rfl ?_)) (by repeat' (first | exact ro_nil | refine ro_p rfl (by first | exact rfl | fail) (by first | exact bdL_map (fun _ => by simp [AV.bd, bdL, bdL_append]) _ | (simp [bdL, bdL_append, AV.bd]; done) | fail) ?_)) rfl (by (rw [hm]; exact rfl)) rfl (by (simp [bdT, AV.bd, bdL, bdL_append]; done)) (by repeat' (first | exact True.intro | refine And.intro ?_ ?_ | exact bdL_map (fun _ => by simp [AV.bd, bdL, bdL_append]) _ | (simp [bdOq, bdL, bdL_append, AV.bd]; done))) (by (rw [hm]; exact Nat.le_of_ble_eq_true rfl))⟩⟩)
      · by_cases hk3 : hdT l1 = bl kw3
        · have hk := hk3
          obtain ⟨p, l2, hl2, hp2⟩ := hdT_cons (by decide) hk
          have htx : tx (hdT l1) = (⟨#[110, 111, 110, 101]⟩ : ByteArray) := by rw [hk]; rfl
          have has : assocOf p.2 = some 3 := by rw [hp2]; decide
          have hst := finL_step (acc := acc) (r := l2.map (·.2)) has
          have hl2m : l1.map (·.2) = p.2 :: l2.map (·.2) := by rw [hl2]; rfl
          rw [hl2m] at hf1
          have hs2 : l2 <:+ l := by rw [hl2] at hs1; exact (List.suffix_cons _ _).trans hs1
          have hlen2 : l1.length = l2.length + 1 := by rw [hl2]; rfl
          have hlv := gplevel_fn 3 p l2 e (by omega)
          rw [← hl2] at hlv
          cases hq : pLevel 3 (l2.map (·.2)) with
          | err q =>
            have hr : q <:+ l2.map (·.2) := by have := pLevel_suf 3 (l2.map (·.2)); rw [hq] at this; exact this
            have hX : FnX Tryd.prog 41 [.ptr 0 2 0 0, intA 3] [rdA l1 e] (synV (pos (cut l2 q) e)) := hlv.dies (by rw [hq]; simp only [pout])
            have hout : pout l e levelsA (pLevels (l.map (·.2))) = .die (synV (pos (cut l2 q) e)) := by rw [← hf1, hst, hq]; simp only [pout, cut_cut hs2 hr]
            rw [hout]
            (repeat' (first | apply jA | apply jF | apply jH | apply jT | apply jU | (refine wp_cond rfl (fun hc => ?_) (fun hc => ?_) <;> (try simp only [sB, ne_eq, reduceCtorEq] at hc) <;> (try (exfalso; omega))) | (refine WP.regionC (id := 2) ?_; (refine smove rfl ?_); (refine sc_o [0] rfl rfl (peek_fn _ _) (Lend.o1 rfl rfl (by (exact (renL_pure (by simp [AV.bd, bdL, bdL_append])).symm)) rfl (by simp [AV.bd, bdL, bdL_append]) (by simp [AV.bd, bdL, bdL_append])) ?_; simp only [updN, newO, AObj.ren, renL, AV.ren, apx, ap, if_true, if_false, Nat.reduceLT, Nat.reduceAdd, Nat.reduceSub, sO, intA, boolA, strA, ren_pkA, rdA, ren_toks]); (refine su (afieldv rfl rfl) ?_); apply jW) | (refine WP.regionC ?_; (refine seqs rfl rfl ?_); (refine sassign rfl ?_); apply jW) | (refine wpl_region (id := 9) ?_; (refine wpl_step rfl ?_; (refine smove rfl ?_); apply jW; (refine wpl_step rfl ?_; (refine smove rfl ?_); apply jW; ((refine wpl_x [0] rfl rfl (hX) (Lend.S (by first | ((repeat' first | exact RenL.nil | refine RenL.cons rfl ?_); done) | fail) (by first | ((repeat' first | exact LendO.nil | refine LendO.arr rfl (by (exact (renL_pure (by simp [AV.bd, bdL, bdL_append])).symm)) ?_); done) | fail) (by decide) rfl (by simp [AV.bd, bdL, bdL_append]) (by repeat' (first | exact True.intro | refine And.intro ?_ ?_ | simp [AV.bd, bdL, bdL_append]))) ?_)))))))
            all_goals (first | exact bp_p rfl | exact absurd htx (by assumption) | (rw [htx] at hc; exact absurd hc (by decide)))
          | ok x r =>
            have hr : r <:+ l2.map (·.2) := by have := pLevel_suf 3 (l2.map (·.2)); rw [hq] at this; exact this
            have hO : FnO Tryd.prog 41 [.ptr 0 2 0 0, intA 3] [rdA l1 e] (levelA x) [some (rdA (cut l2 r) e)] := hlv.oks (by rw [hq]; simp only [pout])
            have hcl := (cut_suf l2 r).length_le
            have hnext : (cut l2 r).length < l1.length ∧ cut l2 r <:+ l ∧ (acc ++ [x]).length + (cut l2 r).length ≤ l.length ∧ finL (acc ++ [x]) ((cut l2 r).map (·.2)) = pLevels (l.map (·.2)) := by
              refine ⟨by omega, (cut_suf _ _).trans hs2, by simp only [List.length_append, List.length_cons, List.length_nil]; omega, ?_⟩
              rw [cut_map hr, ← hf1, hst, hq]
            (repeat' (first | apply jA | apply jF | apply jH | apply jN | (refine wp_cond rfl (fun hc => ?_) (fun hc => ?_) <;> (try simp only [sB, ne_eq, reduceCtorEq] at hc) <;> (try (exfalso; omega))) | (refine WP.regionC (id := 2) ?_; (refine smove rfl ?_); (refine sc_o [0] rfl rfl (peek_fn _ _) (Lend.o1 rfl rfl (by (exact (renL_pure (by simp [AV.bd, bdL, bdL_append])).symm)) rfl (by simp [AV.bd, bdL, bdL_append]) (by simp [AV.bd, bdL, bdL_append])) ?_; simp only [updN, newO, AObj.ren, renL, AV.ren, apx, ap, if_true, if_false, Nat.reduceLT, Nat.reduceAdd, Nat.reduceSub, sO, intA, boolA, strA, ren_pkA, rdA, ren_toks]); (refine su (afieldv rfl rfl) ?_); apply jW) | (refine WP.regionC ?_; (refine seqs rfl rfl ?_); (refine sassign rfl ?_); apply jW) | (refine WP.regionC (id := 9) ?_; (refine smove rfl ?_); (refine smove rfl ?_); (refine sc_o [0] rfl rfl (hO) (Lend.o1 rfl rfl (by (exact (renL_pure (by simp [AV.bd, bdL, bdL_append])).symm)) rfl (by simp [AV.bd, bdL, bdL_append]) (by simp [AV.bd, bdL, bdL_append])) ?_; simp only [updN, newO, AObj.ren, renL, AV.ren, apx, ap, if_true, if_false, Nat.reduceLT, Nat.reduceAdd, Nat.reduceSub, sO, intA, boolA, strA, rdA, ren_toks, ren_levelA]); (refine se_lit (OpP.cons rfl (OpP.nil)) rfl rfl rfl rfl rfl rfl ?_); (refine se_app1 rfl rfl rfl rfl rfl rfl rfl rfl (by omega) ?_); (refine sassign rfl ?_); apply jW)))
            all_goals (first | exact absurd htx (by assumption) | (rw [htx] at hc; exact absurd hc (by decide)) | exact ⟨(acc ++ [x], cut l2 r), hnext, ⟨[0, 3], ToR.S rfl (by repeat' (first | exact rt_nil | refine rt_r rfl rfl ?_ | refine rt_t rfl rfl ?_)) (by repeat' (first | exact ro_nil | refine ro_p rfl (by first | exact rfl | fail) (by first | exact bdL_map (fun _ => by simp [AV.bd, bdL, bdL_append]) _ | (simp [bdL, bdL_append, AV.bd]; done) | fail) ?_)) rfl (by (rw [hm]; exact rfl)) rfl (by (simp [bdT, AV.bd, bdL, bdL_append]; done)) (by repeat' (first | exact True.intro | refine And.intro ?_ ?_ | exact bdL_map (fun _ => by simp [AV.bd, bdL, bdL_append]) _ | (simp [bdOq, bdL, bdL_append, AV.bd]; done))) (by (rw [hm]; exact Nat.le_of_ble_eq_true rfl))⟩⟩)
        · have has : asT (l1.map (·.2)) = none := by
            cases l1 with
            | nil => rfl
            | cons p l2 =>
              have h1 : ¬ p.2 = bl kw1 := hk
              have h2 : ¬ p.2 = bl kw2 := hk2
              have h3 : ¬ p.2 = bl kw3 := hk3
              simp only [List.map_cons, asT, assocOf, if_neg h1, if_neg h2, if_neg h3]
          have hout : pout l e levelsA (pLevels (l.map (·.2))) = .ok (levelsA acc) [some (rdA l1 e)] := by rw [← hf1, finL_stop has]; simp only [pout, cut_of hs1]
          rw [hout]
          (repeat' (first | apply jA | apply jF | apply jH | (refine wp_cond rfl (fun hc => ?_) (fun hc => ?_) <;> (try simp only [sB, ne_eq, reduceCtorEq] at hc) <;> (try (exfalso; omega))) | (refine WP.regionC (id := 2) ?_; (refine smove rfl ?_); (refine sc_o [0] rfl rfl (peek_fn _ _) (Lend.o1 rfl rfl (by (exact (renL_pure (by simp [AV.bd, bdL, bdL_append])).symm)) rfl (by simp [AV.bd, bdL, bdL_append]) (by simp [AV.bd, bdL, bdL_append])) ?_; simp only [updN, newO, AObj.ren, renL, AV.ren, apx, ap, if_true, if_false, Nat.reduceLT, Nat.reduceAdd, Nat.reduceSub, sO, intA, boolA, strA, ren_pkA, rdA, ren_toks]); (refine su (afieldv rfl rfl) ?_); apply jW) | (refine WP.regionC ?_; (refine seqs rfl rfl ?_); (refine sassign rfl ?_); apply jW)))
          · exact absurd (tx_eq hc) hk
          · exact absurd (tx_eq hc) hk2
          · exact absurd (tx_eq hc) hk3
          · refine wp_frzm 3 hm rfl rfl rfl (bd_levelA 0) (fun _ => rfl) rfl ?_
            (repeat' (first | apply jH | apply jK | apply jM | apply jO | (refine WP.regionC (id := 3) ?_; (refine smove rfl ?_); (refine sassign rfl ?_); apply jW)))
            refine bp_r rfl ?_
            refine retO_L (x := levelsA acc) (k := 1) (os1 := [(0, some (rdA l1 e))]) (.tmp rfl .nil) rfl ⟨[0], ToR.S rfl (by repeat' (first | exact rt_nil | refine rt_p rfl rfl (by first | (simp [AV.bd, bdL, bdL_append]; done) | fail) ?_)) (by repeat' (first | exact ro_nil | refine ro_p rfl (by first | exact rfl | fail) (by first | (simp [bdL, bdL_append, AV.bd]; done) | fail) ?_)) rfl rfl rfl (by (simp [bdT, AV.bd, bdL, bdL_append]; done)) (by repeat' (first | exact True.intro | refine And.intro ?_ ?_ | (simp [bdOq, bdL, bdL_append, AV.bd]; done))) (by exact Nat.le_of_ble_eq_true rfl)⟩ rfl
  · exact pout_fine l e levelsA (fun x => by simp [levelsA, AV.bd]) _
end Go.Lg

namespace Go.Lg
open Go.Proofs
set_option linter.unusedSimpArgs false
set_option linter.unusedVariables false
attribute [local irreducible] Ap Rq asemC WP RunD Ret Gq thenA inBlockA bodyQ noGotoA RqL RqP OpP
set_option maxHeartbeats 4000000
set_option maxRecDepth 20000
attribute [local simp] rdA pkA tokA toks_bd
theorem ren_altA (π : Nat → Nat) (x : GAl) : AV.ren π (altA x) = altA x := ren_pure (bd_altA 0 x)
theorem gprule_fn (l : List (Nat × Tx)) (e : Int) (hB : l.length ≤ 1000000) (hW : NumW l) : FnP Tryd.prog 14 [.ptr 0 2 0 0] [rdA l e] (pout l e gruleA (pRule (l.map (·.2)))) := by
  have hnm := gpname_fn l e
  cases hq : pName (l.map (·.2)) with
  | err q =>
    have hX : FnX Tryd.prog 12 [.ptr 0 2 0 0] [rdA l e] (synV (pos (cut l q) e)) := hnm.dies (by rw [hq]; simp only [pout])
    have hout : pout l e gruleA (pRule (l.map (·.2))) = .die (synV (pos (cut l q) e)) := by simp only [pRule, hq, pout]
    rw [hout]
    refine FnP.intro ?_ (by kernel_rfl) Tryd.func14 rfl rfl Tryd.ntmps14 (by exact Nat.le_of_ble_eq_true rfl) ?_; rotate_left; intro Γ hm
    · (repeat' (first | apply jA | apply jH | apply jT | (refine WP.regionC (id := 0) ?_; (refine se_alloc (by rfl) ?_); apply jW) | (refine wpl_region (id := 1) ?_; (refine wpl_step rfl ?_; (refine smove rfl ?_); apply jW; ((refine wpl_x [0] rfl rfl (hX) (Lend.S (by first | ((repeat' first | exact RenL.nil | refine RenL.cons (by rfl) ?_); done) | fail) (by first | ((repeat' first | exact LendO.nil | refine LendO.arr (by rfl) (by (exact (renL_pure (by simp [AV.bd, bdL, bdL_append])).symm)) ?_); done) | fail) (by decide) (by rfl) (by simp [AV.bd, bdL, bdL_append]) (by repeat' (first | exact True.intro | refine And.intro ?_ ?_ | simp [AV.bd, bdL, bdL_append]))) ?_))))))
      exact bp_p rfl
    · trivial
  | ok n r =>
    have hr : r <:+ l.map (·.2) := by have := pName_suf (l.map (·.2)); rw [hq] at this; exact this
    have hO : FnO Tryd.prog 12 [.ptr 0 2 0 0] [rdA l e] (strA n) [some (rdA (cut l r) e)] := hnm.oks (by rw [hq]; simp only [pout])
    have hs1 := cut_suf l r
    have hm1 := cut_map hr
    have hlt1 := pName_lt hq
    generalize hl1 : cut l r = l1 at *
    by_cases h61 : hdT l1 = [61]
    · obtain ⟨p, l2, hl2, hp2⟩ := hdT_cons (by simp) h61
      have hE : FnO Tryd.prog 11 [.ptr 0 2 0 0, strA (tx [61])] [rdA l1 e] (.tup []) [some (rdA l2 e)] := by rw [hl2]; exact expect_ok [61] (by simp) p l2 e hp2
      have hs2 : l2 <:+ l := by rw [hl2] at hs1; exact (List.suffix_cons _ _).trans hs1
      have hlen2 : l2.length + 1 ≤ l.length := by have := hs1.length_le; rw [hl2] at this; simp only [List.length_cons] at this; omega
      have hpr : pRule (l.map (·.2)) = match pAltsR (l2.map (·.2)) with
          | .err q => .err q
          | .ok ys r2 => match pTake [59] r2 with
            | .err q => .err q
            | .ok _ r3 => .ok ⟨n, ys⟩ r3 := by
        have hpt : pTake [61] r = .ok () (l2.map (·.2)) := by rw [← hm1, hl2, List.map_cons, pTake, if_pos hp2]
        simp only [pRule, hq, hpt]
        cases pAltsR (l2.map (·.2)) <;> rfl
      have hal := gpalt_fn l2 e (by omega) (hW.suf hs2)
      cases hq2 : pAlt (l2.map (·.2)) with
      | err q =>
        have hqs : q <:+ l2.map (·.2) := by have := pAlt_suf (l2.map (·.2)); rw [hq2] at this; exact this
        have hX : FnX Tryd.prog 42 [.ptr 0 2 0 0] [rdA l2 e] (synV (pos (cut l2 q) e)) := hal.dies (by rw [hq2]; simp only [pout])
        have hout : pout l e gruleA (pRule (l.map (·.2))) = .die (synV (pos (cut l2 q) e)) := by rw [hpr, pAltsR_eq, hq2]; simp only [pout, cut_cut hs2 hqs]
        rw [hout]
        refine FnP.intro ?_ (by kernel_rfl) Tryd.func14 rfl rfl Tryd.ntmps14 (by exact Nat.le_of_ble_eq_true rfl) ?_; rotate_left; intro Γ hm
        · (repeat' (first | apply jA | apply jH | apply jT | (refine WP.regionC (id := 0) ?_; (refine se_alloc (by rfl) ?_); apply jW) | (refine wpl_region (id := 1) ?_; (refine wpl_step rfl ?_; (refine smove rfl ?_); apply jW; ((refine wpl_step rfl ?_; (refine sc_o [0] rfl rfl (hO) (Lend.o1 (by rfl) (by rfl) (by (exact (renL_pure (by simp [AV.bd, bdL, bdL_append])).symm)) (by rfl) (by simp [AV.bd, bdL, bdL_append]) (by simp [AV.bd, bdL, bdL_append])) ?_; simp only [updN, newO, AObj.ren, renL, AV.ren, apx, ap, if_true, if_false, Nat.reduceLT, Nat.reduceAdd, Nat.reduceSub, sO, intA, boolA, strA, rdA, ren_toks]); apply jW; (refine wpl_step rfl ?_; (refine su (ap_build (RqP.cons (rq_p rfl rfl) (RqP.nil)) (by rfl)) ?_); apply jW; (refine wpl_step rfl ?_; (refine se_alloc (by rfl) ?_); apply jW; (refine wpl_step rfl ?_; (refine se_store_b (by rfl) (by rfl) (by rfl) (by rfl) ?_); apply jW; (apply jX)))))))) | (refine wpl_region (id := 2) ?_; (refine wpl_step rfl ?_; (refine smove rfl ?_); apply jW; ((refine wpl_step rfl ?_; (refine sc_o [0] rfl rfl (hE) (Lend.o1 (by rfl) (by rfl) (by (exact (renL_pure (by simp [AV.bd, bdL, bdL_append])).symm)) (by rfl) (by simp [AV.bd, bdL, bdL_append]) (by simp [AV.bd, bdL, bdL_append])) ?_; simp only [updN, newO, AObj.ren, renL, AV.ren, apx, ap, if_true, if_false, Nat.reduceLT, Nat.reduceAdd, Nat.reduceSub, sO, intA, boolA, strA, rdA, ren_toks]); apply jW; (apply jX))))) | (refine wpl_region (id := 3) ?_; (refine wpl_step rfl ?_; (refine se_lit0 ?_); apply jW; (refine wpl_step rfl ?_; (refine smove rfl ?_); apply jW; ((refine wpl_x [0] rfl rfl (hX) (Lend.S (by first | ((repeat' first | exact RenL.nil | refine RenL.cons (by rfl) ?_); done) | fail) (by first | ((repeat' first | exact LendO.nil | refine LendO.arr (by rfl) (by (exact (renL_pure (by simp [AV.bd, bdL, bdL_append])).symm)) ?_); done) | fail) (by decide) (by rfl) (by simp [AV.bd, bdL, bdL_append]) (by repeat' (first | exact True.intro | refine And.intro ?_ ?_ | simp [AV.bd, bdL, bdL_append]))) ?_)))))))
          exact bp_p rfl
        · trivial
      | ok a0 r0 =>
        have hqs : r0 <:+ l2.map (·.2) := by have := pAlt_suf (l2.map (·.2)); rw [hq2] at this; exact this
        have hOa : FnO Tryd.prog 42 [.ptr 0 2 0 0] [rdA l2 e] (altA a0) [some (rdA (cut l2 r0) e)] := hal.oks (by rw [hq2]; simp only [pout])
        have hfin : finR [a0] r0 = pAltsR (l2.map (·.2)) := by rw [pAltsR_eq, hq2]
        have hcl := (cut_suf l2 r0).length_le
        refine FnP.intro ?_ (by kernel_rfl) Tryd.func14 rfl rfl Tryd.ntmps14 (by exact Nat.le_of_ble_eq_true rfl) ?_; rotate_left; intro Γ hm
        · (repeat' (first | apply jA | apply jF | apply jH | (refine WP.regionC (id := 0) ?_; (refine se_alloc (by rfl) ?_); apply jW) | (refine WP.regionC (id := 1) ?_; (refine smove rfl ?_); (refine sc_o [0] rfl rfl (hO) (Lend.o1 (by rfl) (by rfl) (by (exact (renL_pure (by simp [AV.bd, bdL, bdL_append])).symm)) (by rfl) (by simp [AV.bd, bdL, bdL_append]) (by simp [AV.bd, bdL, bdL_append])) ?_; simp only [updN, newO, AObj.ren, renL, AV.ren, apx, ap, if_true, if_false, Nat.reduceLT, Nat.reduceAdd, Nat.reduceSub, sO, intA, boolA, strA, rdA, ren_toks]); (refine su (ap_build (RqP.cons (rq_p rfl rfl) (RqP.nil)) (by rfl)) ?_); (refine se_alloc (by rfl) ?_); (refine se_store_b (by rfl) (by rfl) (by rfl) (by rfl) ?_); apply jW) | (refine WP.regionC (id := 2) ?_; (refine smove rfl ?_); (refine sc_o [0] rfl rfl (hE) (Lend.o1 (by rfl) (by rfl) (by (exact (renL_pure (by simp [AV.bd, bdL, bdL_append])).symm)) (by rfl) (by simp [AV.bd, bdL, bdL_append]) (by simp [AV.bd, bdL, bdL_append])) ?_; simp only [updN, newO, AObj.ren, renL, AV.ren, apx, ap, if_true, if_false, Nat.reduceLT, Nat.reduceAdd, Nat.reduceSub, sO, intA, boolA, strA, rdA, ren_toks]); apply jW) | (refine WP.regionC (id := 3) ?_; (refine se_lit0 ?_); (refine smove rfl ?_); (refine sc_o [0] rfl rfl (hOa) (Lend.o1 (by rfl) (by rfl) (by (exact (renL_pure (by simp [AV.bd, bdL, bdL_append])).symm)) (by rfl) (by simp [AV.bd, bdL, bdL_append]) (by simp [AV.bd, bdL, bdL_append])) ?_; simp only [updN, newO, AObj.ren, renL, AV.ren, apx, ap, if_true, if_false, Nat.reduceLT, Nat.reduceAdd, Nat.reduceSub, sO, intA, boolA, strA, rdA, ren_toks, ren_altA]); (refine se_lit (OpP.cons (by rfl) (OpP.nil)) (by rfl) (by rfl) (by rfl) (by rfl) (by rfl) (by rfl) ?_); (refine se_app (by rfl) (by rfl) (by rfl) (by rfl) (by rfl) (by rfl) (by rfl) (by rfl) (by (simp only [sL] <;> omega)) ?_); (refine sfieldp rfl rfl rfl ?_); (refine se_store_b (by rfl) (by rfl) (by rfl) (by rfl) ?_); apply jW)))
          refine wp_loop (fun (σ : List GAl × List (Nat × Tx)) => σ.2 <:+ l2 ∧ σ.1.length + σ.2.length ≤ l.length ∧ finR σ.1 (σ.2.map (·.2)) = pAltsR (l2.map (·.2))) (fun σ => σ.2.length)
            (fun σ => (S 33 [(0, .ptr 0 2 0 0), (2, .ptr 1 2 0 0), (3, .ptr 2 2 0 0)] 4 [(0, some (rdA σ.2 e)), (1, some (.arr 2 [.agg [strA ⟨#[]⟩, .val (.slice none 0 0)]])), (2, some (.arr 2 [.agg [strA n, .ref 3 4 0 σ.1.length]])), (3, some (.arr 4 (σ.1.map altA)))])) ([a0], cut l2 r0) ⟨[0, 1, 2, 5], ToR.S rfl (by repeat' (first | exact rt_nil | refine rt_t (by rfl) (by rfl) ?_)) (by repeat' (first | exact ro_nil | refine ro_e (by rfl) (by rfl) ?_ | refine ro_p (by rfl) (by first | exact rfl | fail) (by first | exact bdL_map (fun _ => by simp [AV.bd, bdL, bdL_append]) _ | (simp [bdL, bdL_append, AV.bd]; done) | fail) ?_)) (by rfl) (by (rw [hm]; exact rfl)) (by rfl) (by (simp [bdT, AV.bd, bdL, bdL_append]; done)) (by repeat' (first | exact True.intro | exact rfl | refine And.intro ?_ ?_ | exact bdL_map (fun _ => by simp [AV.bd, bdL, bdL_append]) _ | (simp [bdOq, bdL, bdL_append, AV.bd]; done))) (by (rw [hm]; exact Nat.le_of_ble_eq_true rfl))⟩ ⟨cut_suf _ _, by simp only [List.length_cons, List.length_nil]; omega, by rw [cut_map hqs]; exact hfin⟩ ?_
          rintro ⟨acc, l3⟩ ⟨hs3, hn3, hf3⟩
          simp only at hs3 hn3 hf3 ⊢
          by_cases hbar : hdT l3 = [124]
          · obtain ⟨p3, l4, hl3, hp3⟩ := hdT_cons (by simp) hbar
            have hN : FnO Tryd.prog 39 [.ptr 0 2 0 0] [rdA l3 e] (tokA p3) [some (rdA l4 e)] := by rw [hl3]; exact next_fn p3 l4 e
            have hbb : finR acc (l3.map (·.2)) = match pAlt (l4.map (·.2)) with
                | .err q' => .err q'
                | .ok a q' => finR (acc ++ [a]) q' := by rw [hl3, List.map_cons, hp3]; exact finR_bar _ _
            have hs4 : l4 <:+ l2 := by rw [hl3] at hs3; exact (List.suffix_cons _ _).trans hs3
            have hlen4 : l4.length < l3.length := by rw [hl3]; simp
            have hle4 := hs4.length_le
            have hal4 := gpalt_fn l4 e (by omega) (hW.suf (hs4.trans hs2))
            cases hq4 : pAlt (l4.map (·.2)) with
            | err q =>
              have hq4s : q <:+ l4.map (·.2) := by have := pAlt_suf (l4.map (·.2)); rw [hq4] at this; exact this
              have hX : FnX Tryd.prog 42 [.ptr 0 2 0 0] [rdA l4 e] (synV (pos (cut l4 q) e)) := hal4.dies (by rw [hq4]; simp only [pout])
              have hout : pout l e gruleA (pRule (l.map (·.2))) = .die (synV (pos (cut l4 q) e)) := by
                rw [hpr, ← hf3, hbb, hq4]; simp only [pout, cut_cut (hs4.trans hs2) hq4s]
              rw [hout]
              (repeat' (first | apply jA | apply jF | apply jH | apply jI | apply jJ | apply jL | apply jP | apply jT | apply jU | (refine wp_cond (by rfl) (fun hc => ?_) (fun hc => ?_) <;> (try simp only [sB, ne_eq, reduceCtorEq] at hc) <;> (try (exfalso; omega))) | (refine WP.regionC (id := 4) ?_; (refine smove rfl ?_); (refine sc_o [0] rfl rfl (peek_fn _ _) (Lend.o1 (by rfl) (by rfl) (by (exact (renL_pure (by simp [AV.bd, bdL, bdL_append])).symm)) (by rfl) (by simp [AV.bd, bdL, bdL_append]) (by simp [AV.bd, bdL, bdL_append])) ?_; simp only [updN, newO, AObj.ren, renL, AV.ren, apx, ap, if_true, if_false, Nat.reduceLT, Nat.reduceAdd, Nat.reduceSub, sO, intA, boolA, strA, ren_pkA, rdA, ren_toks]); (refine su (afieldv rfl rfl) ?_); (refine seqs rfl rfl ?_); apply jW) | (refine wpl_region (id := 5) ?_; (refine wpl_step rfl ?_; (refine smove rfl ?_); apply jW; ((refine wpl_step rfl ?_; (refine sc_o [0] rfl rfl (hN) (Lend.o1 (by rfl) (by rfl) (by (exact (renL_pure (by simp [AV.bd, bdL, bdL_append])).symm)) (by rfl) (by simp [AV.bd, bdL, bdL_append]) (by simp [AV.bd, bdL, bdL_append])) ?_; simp only [updN, newO, AObj.ren, renL, AV.ren, apx, ap, if_true, if_false, Nat.reduceLT, Nat.reduceAdd, Nat.reduceSub, sO, intA, boolA, strA, rdA, ren_toks]); apply jW; (apply jX))))) | (refine wp_tree (id := 6) 7 mixed rfl ?_ <;> (refine wpt_take 0 (by rfl) (by exact still_fieldAddr (by rfl) (by rfl)) (by exact ap_field_p (rq_p rfl rfl) (by rfl) (by rfl)) (by kernel_rfl) (by kernel_rfl) (by kernel_rfl) (by repeat (first | exact pind_p | apply pind_then | apply pind_block)) ?_; (refine wpt_take 2 (by rfl) still_move (by exact ap_move (rq_p rfl rfl)) (by kernel_rfl) (by kernel_rfl) (by kernel_rfl) (by repeat (first | exact pind_p | apply pind_then | apply pind_block)) ?_; (refine wpt_all (rs := [1, 3]) (by kernel_rfl) rfl ⟨?_, ?_, trivial⟩ <;> (first | (refine wpo_do (i := 1) (by rfl) (by rfl) ?_; (refine sloadp rfl rfl rfl rfl ?_); apply jW; (refine wpt_all (rs := [3]) (by kernel_rfl) rfl ⟨?_, trivial⟩; ((refine wpo_x (i := 3) [0] (by rfl) (by rfl) (by rfl) (hX) (Lend.S (by first | ((repeat' first | exact RenL.nil | refine RenL.cons (by rfl) ?_); done) | fail) (by first | ((repeat' first | exact LendO.nil | refine LendO.arr (by rfl) (by (exact (renL_pure (by simp [AV.bd, bdL, bdL_append])).symm)) ?_); done) | fail) (by decide) (by rfl) (by simp [AV.bd, bdL, bdL_append]) (by repeat' (first | exact True.intro | refine And.intro ?_ ?_ | simp [AV.bd, bdL, bdL_append]))) ?_)))) | ((refine wpo_x (i := 3) [0] (by rfl) (by rfl) (by rfl) (hX) (Lend.S (by first | ((repeat' first | exact RenL.nil | refine RenL.cons (by rfl) ?_); done) | fail) (by first | ((repeat' first | exact LendO.nil | refine LendO.arr (by rfl) (by (exact (renL_pure (by simp [AV.bd, bdL, bdL_append])).symm)) ?_); done) | fail) (by decide) (by rfl) (by simp [AV.bd, bdL, bdL_append]) (by repeat' (first | exact True.intro | refine And.intro ?_ ?_ | simp [AV.bd, bdL, bdL_append]))) ?_)))))))))
              all_goals (first | exact bp_p rfl | exact absurd (by rw [hbar]; rfl) hc)
            | ok a r =>
              have hq4s : r <:+ l4.map (·.2) := by have := pAlt_suf (l4.map (·.2)); rw [hq4] at this; exact this
              have hO4 : FnO Tryd.prog 42 [.ptr 0 2 0 0] [rdA l4 e] (altA a) [some (rdA (cut l4 r) e)] := hal4.oks (by rw [hq4]; simp only [pout])
              have hcl4 := (cut_suf l4 r).length_le
              have hnext : (cut l4 r).length < l3.length ∧ cut l4 r <:+ l2 ∧ (acc ++ [a]).length + (cut l4 r).length ≤ l.length ∧ finR (acc ++ [a]) ((cut l4 r).map (·.2)) = pAltsR (l2.map (·.2)) := by
                refine ⟨by omega, (cut_suf _ _).trans hs4, by simp only [List.length_append, List.length_cons, List.length_nil]; omega, ?_⟩
                rw [cut_map hq4s, ← hf3, hbb, hq4]
              (repeat' (first | apply jA | apply jF | apply jH | apply jI | apply jJ | apply jL | apply jN | apply jP | (refine wp_cond (by rfl) (fun hc => ?_) (fun hc => ?_) <;> (try simp only [sB, ne_eq, reduceCtorEq] at hc) <;> (try (exfalso; omega))) | (refine WP.regionC (id := 4) ?_; (refine smove rfl ?_); (refine sc_o [0] rfl rfl (peek_fn _ _) (Lend.o1 (by rfl) (by rfl) (by (exact (renL_pure (by simp [AV.bd, bdL, bdL_append])).symm)) (by rfl) (by simp [AV.bd, bdL, bdL_append]) (by simp [AV.bd, bdL, bdL_append])) ?_; simp only [updN, newO, AObj.ren, renL, AV.ren, apx, ap, if_true, if_false, Nat.reduceLT, Nat.reduceAdd, Nat.reduceSub, sO, intA, boolA, strA, ren_pkA, rdA, ren_toks]); (refine su (afieldv rfl rfl) ?_); (refine seqs rfl rfl ?_); apply jW) | (refine WP.regionC (id := 5) ?_; (refine smove rfl ?_); (refine sc_o [0] rfl rfl (hN) (Lend.o1 (by rfl) (by rfl) (by (exact (renL_pure (by simp [AV.bd, bdL, bdL_append])).symm)) (by rfl) (by simp [AV.bd, bdL, bdL_append]) (by simp [AV.bd, bdL, bdL_append])) ?_; simp only [updN, newO, AObj.ren, renL, AV.ren, apx, ap, if_true, if_false, Nat.reduceLT, Nat.reduceAdd, Nat.reduceSub, sO, intA, boolA, strA, rdA, ren_toks]); apply jW) | (refine wp_tree (id := 6) 7 mixed rfl ?_ <;> (refine wpt_take 0 (by rfl) (by exact still_fieldAddr (by rfl) (by rfl)) (by exact ap_field_p (rq_p rfl rfl) (by rfl) (by rfl)) (by kernel_rfl) (by kernel_rfl) (by kernel_rfl) (by repeat (first | exact pind_p | apply pind_then | apply pind_block)) ?_; (refine wpt_take 2 (by rfl) still_move (by exact ap_move (rq_p rfl rfl)) (by kernel_rfl) (by kernel_rfl) (by kernel_rfl) (by repeat (first | exact pind_p | apply pind_then | apply pind_block)) ?_; (refine wpt_all (rs := [1, 3]) (by kernel_rfl) rfl ⟨?_, ?_, trivial⟩ <;> (first | (refine wpo_do (i := 1) (by rfl) (by rfl) ?_; (refine sloadp rfl rfl rfl rfl ?_); apply jW; (refine wpt_all (rs := [3]) (by kernel_rfl) rfl ⟨?_, trivial⟩; (refine wpo_do (i := 3) (by rfl) (by rfl) ?_; (refine sc_o [0] rfl rfl (hO4) (Lend.o1 (by rfl) (by rfl) (by (exact (renL_pure (by simp [AV.bd, bdL, bdL_append])).symm)) (by rfl) (by simp [AV.bd, bdL, bdL_append]) (by simp [AV.bd, bdL, bdL_append])) ?_; simp only [updN, newO, AObj.ren, renL, AV.ren, apx, ap, if_true, if_false, Nat.reduceLT, Nat.reduceAdd, Nat.reduceSub, sO, intA, boolA, strA, rdA, ren_toks, ren_altA]); apply jW; (refine wpt_all (rs := [4]) (by kernel_rfl) rfl ⟨?_, trivial⟩; (refine wpo_do (i := 4) (by rfl) (by rfl) ?_; (refine se_lit (OpP.cons (by rfl) (OpP.nil)) (by rfl) (by rfl) (by rfl) (by rfl) (by rfl) (by rfl) ?_); apply jW; (refine wpt_all (rs := [5]) (by kernel_rfl) rfl ⟨?_, trivial⟩; (refine wpo_do (i := 5) (by rfl) (by rfl) ?_; (refine se_app1 (by rfl) (by rfl) (by rfl) (by rfl) (by rfl) (by rfl) (by rfl) (by rfl) (by omega) ?_); apply jW; (refine wpt_take 6 (by rfl) still_assign (by exact ap_assign (rq_p rfl rfl)) (by kernel_rfl) (by kernel_rfl) (by kernel_rfl) (by repeat (first | exact pind_p | apply pind_then | apply pind_block)) ?_; (refine wpt_end (by kernel_rfl) ?_))))))))) | (refine wpo_do (i := 3) (by rfl) (by rfl) ?_; (refine sc_o [0] rfl rfl (hO4) (Lend.o1 (by rfl) (by rfl) (by (exact (renL_pure (by simp [AV.bd, bdL, bdL_append])).symm)) (by rfl) (by simp [AV.bd, bdL, bdL_append]) (by simp [AV.bd, bdL, bdL_append])) ?_; simp only [updN, newO, AObj.ren, renL, AV.ren, apx, ap, if_true, if_false, Nat.reduceLT, Nat.reduceAdd, Nat.reduceSub, sO, intA, boolA, strA, rdA, ren_toks, ren_altA]); apply jW; (refine wpt_all (rs := [1, 4]) (by kernel_rfl) rfl ⟨?_, ?_, trivial⟩ <;> (first | (refine wpo_do (i := 1) (by rfl) (by rfl) ?_; (refine sloadp rfl rfl rfl rfl ?_); apply jW; (refine wpt_all (rs := [4]) (by kernel_rfl) rfl ⟨?_, trivial⟩; (refine wpo_do (i := 4) (by rfl) (by rfl) ?_; (refine se_lit (OpP.cons (by rfl) (OpP.nil)) (by rfl) (by rfl) (by rfl) (by rfl) (by rfl) (by rfl) ?_); apply jW; (refine wpt_all (rs := [5]) (by kernel_rfl) rfl ⟨?_, trivial⟩; (refine wpo_do (i := 5) (by rfl) (by rfl) ?_; (refine se_app1 (by rfl) (by rfl) (by rfl) (by rfl) (by rfl) (by rfl) (by rfl) (by rfl) (by omega) ?_); apply jW; (refine wpt_take 6 (by rfl) still_assign (by exact ap_assign (rq_p rfl rfl)) (by kernel_rfl) (by kernel_rfl) (by kernel_rfl) (by repeat (first | exact pind_p | apply pind_then | apply pind_block)) ?_; (refine wpt_end (by kernel_rfl) ?_))))))) | (refine wpo_do (i := 4) (by rfl) (by rfl) ?_; (refine se_lit (OpP.cons (by rfl) (OpP.nil)) (by rfl) (by rfl) (by rfl) (by rfl) (by rfl) (by rfl) ?_); apply jW; (refine wpt_all (rs := [1]) (by kernel_rfl) rfl ⟨?_, trivial⟩; (refine wpo_do (i := 1) (by rfl) (by rfl) ?_; (refine sloadp rfl rfl rfl rfl ?_); apply jW; (refine wpt_all (rs := [5]) (by kernel_rfl) rfl ⟨?_, trivial⟩; (refine wpo_do (i := 5) (by rfl) (by rfl) ?_; (refine se_app1 (by rfl) (by rfl) (by rfl) (by rfl) (by rfl) (by rfl) (by rfl) (by rfl) (by omega) ?_); apply jW; (refine wpt_take 6 (by rfl) still_assign (by exact ap_assign (rq_p rfl rfl)) (by kernel_rfl) (by kernel_rfl) (by kernel_rfl) (by repeat (first | exact pind_p | apply pind_then | apply pind_block)) ?_; (refine wpt_end (by kernel_rfl) ?_))))))))))))))) | (refine WP.regionC (id := 7) ?_; (refine smove rfl ?_); (refine sfieldp rfl rfl rfl ?_); (refine se_store_b (by rfl) (by rfl) (by rfl) (by rfl) ?_); apply jW)))
              all_goals (first | exact absurd (by rw [hbar]; rfl) hc | exact ⟨(acc ++ [a], cut l4 r), hnext, ⟨[0, 1, 2, 5], ToR.S rfl (by repeat' (first | exact rt_nil | refine rt_t (by rfl) (by rfl) ?_)) (by repeat' (first | exact ro_nil | refine ro_e (by rfl) (by rfl) ?_ | refine ro_p (by rfl) (by first | exact rfl | fail) (by first | exact bdL_map (fun _ => by simp [AV.bd, bdL, bdL_append]) _ | (simp [bdL, bdL_append, AV.bd]; done) | fail) ?_)) (by rfl) (by (rw [hm]; exact rfl)) (by rfl) (by (simp [bdT, AV.bd, bdL, bdL_append]; done)) (by repeat' (first | exact True.intro | exact rfl | refine And.intro ?_ ?_ | exact bdL_map (fun _ => by simp [AV.bd, bdL, bdL_append]) _ | (simp [bdOq, bdL, bdL_append, AV.bd]; done))) (by (rw [hm]; exact Nat.le_of_ble_eq_true rfl))⟩⟩)
          · have hfe : pAltsR (l2.map (·.2)) = .ok acc (l3.map (·.2)) := by rw [← hf3]; exact finR_stop hbar
            rw [hpr, hfe]
            simp only
            by_cases h59 : hdT l3 = [59]
            · obtain ⟨p3, l4, hl3, hp3⟩ := hdT_cons (by simp) h59
              have hE2 : FnO Tryd.prog 11 [.ptr 0 2 0 0, strA (tx [59])] [rdA l3 e] (.tup []) [some (rdA l4 e)] := by rw [hl3]; exact expect_ok [59] (by simp) p3 l4 e hp3
              have hpt : pTake [59] (l3.map (·.2)) = .ok () (l4.map (·.2)) := by rw [hl3, List.map_cons, pTake, if_pos hp3]
              rw [hpt]
              have hout : pout l e gruleA (.ok ⟨n, acc⟩ (l4.map (·.2))) = .ok (gruleA ⟨n, acc⟩) [some (rdA l4 e)] := by
                have : l4 <:+ l := (by rw [hl3] at hs3; exact ((List.suffix_cons _ _).trans hs3).trans hs2)
                simp only [pout, cut_of this]
              simp only
              rw [hout]
              (repeat' (first | apply jA | apply jF | apply jH | apply jI | apply jJ | apply jL | apply jP | (refine wp_cond (by rfl) (fun hc => ?_) (fun hc => ?_) <;> (try simp only [sB, ne_eq, reduceCtorEq] at hc) <;> (try (exfalso; omega))) | (refine WP.regionC (id := 4) ?_; (refine smove rfl ?_); (refine sc_o [0] rfl rfl (peek_fn _ _) (Lend.o1 (by rfl) (by rfl) (by (exact (renL_pure (by simp [AV.bd, bdL, bdL_append])).symm)) (by rfl) (by simp [AV.bd, bdL, bdL_append]) (by simp [AV.bd, bdL, bdL_append])) ?_; simp only [updN, newO, AObj.ren, renL, AV.ren, apx, ap, if_true, if_false, Nat.reduceLT, Nat.reduceAdd, Nat.reduceSub, sO, intA, boolA, strA, ren_pkA, rdA, ren_toks]); (refine su (afieldv rfl rfl) ?_); (refine seqs rfl rfl ?_); apply jW) | (refine WP.regionC (id := 8) ?_; (refine smove rfl ?_); (refine sc_o [0] rfl rfl (hE2) (Lend.o1 (by rfl) (by rfl) (by (exact (renL_pure (by simp [AV.bd, bdL, bdL_append])).symm)) (by rfl) (by simp [AV.bd, bdL, bdL_append]) (by simp [AV.bd, bdL, bdL_append])) ?_; simp only [updN, newO, AObj.ren, renL, AV.ren, apx, ap, if_true, if_false, Nat.reduceLT, Nat.reduceAdd, Nat.reduceSub, sO, intA, boolA, strA, rdA, ren_toks]); apply jW)))
              · exact absurd (tx_inj (hc.trans rfl)) hbar
              · refine wp_frzom 2 1 hm rfl rfl rfl rfl rfl (bd_altA 0) (fun _ => rfl) (by rfl) ?_
                (repeat' (first | apply jH | apply jK | (refine WP.regionC (id := 9) ?_; (refine sloadpw rfl rfl rfl rfl ?_); (refine se_store_b (by rfl) (by rfl) (by rfl) (by rfl) ?_); apply jW)))
                refine bp_r rfl ?_
                refine retO_L (x := gruleA ⟨n, acc⟩) (k := 1) (os1 := [(0, some (rdA l4 e))]) (.cellT (by rfl) (by rfl) (by rfl) (by rfl) .nil) (by rfl) ⟨[0], ToR.S rfl (by repeat' (first | exact rt_nil | refine rt_p (by rfl) (by rfl) (by first | (simp [AV.bd, bdL, bdL_append]; done) | fail) ?_)) (by repeat' (first | exact ro_nil | refine ro_p (by rfl) (by first | exact rfl | fail) (by first | (simp [bdL, bdL_append, AV.bd]; done) | fail) ?_)) (by rfl) (by rfl) (by rfl) (by (simp [bdT, AV.bd, bdL, bdL_append]; done)) (by repeat' (first | exact True.intro | refine And.intro ?_ ?_ | (simp [bdOq, bdL, bdL_append, AV.bd]; done))) (by exact Nat.le_of_ble_eq_true rfl)⟩ (by rfl)
            · have hX2 := expect_x [59] (by simp) l3 e h59
              rw [pTake_bad (by simp) h59]
              have hout : pout l e gruleA (.err (l3.map (·.2))) = .die (synV (pos l3 e)) := by simp only [pout, cut_of (hs3.trans hs2)]
              simp only
              rw [hout]
              (repeat' (first | apply jA | apply jF | apply jH | apply jI | apply jJ | apply jL | apply jP | apply jT | (refine wp_cond (by rfl) (fun hc => ?_) (fun hc => ?_) <;> (try simp only [sB, ne_eq, reduceCtorEq] at hc) <;> (try (exfalso; omega))) | (refine WP.regionC (id := 4) ?_; (refine smove rfl ?_); (refine sc_o [0] rfl rfl (peek_fn _ _) (Lend.o1 (by rfl) (by rfl) (by (exact (renL_pure (by simp [AV.bd, bdL, bdL_append])).symm)) (by rfl) (by simp [AV.bd, bdL, bdL_append]) (by simp [AV.bd, bdL, bdL_append])) ?_; simp only [updN, newO, AObj.ren, renL, AV.ren, apx, ap, if_true, if_false, Nat.reduceLT, Nat.reduceAdd, Nat.reduceSub, sO, intA, boolA, strA, ren_pkA, rdA, ren_toks]); (refine su (afieldv rfl rfl) ?_); (refine seqs rfl rfl ?_); apply jW) | (refine wpl_region (id := 8) ?_; (refine wpl_step rfl ?_; (refine smove rfl ?_); apply jW; ((refine wpl_x [0] rfl rfl (hX2) (Lend.S (by first | ((repeat' first | exact RenL.nil | refine RenL.cons (by rfl) ?_); done) | fail) (by first | ((repeat' first | exact LendO.nil | refine LendO.arr (by rfl) (by (exact (renL_pure (by simp [AV.bd, bdL, bdL_append])).symm)) ?_); done) | fail) (by decide) (by rfl) (by simp [AV.bd, bdL, bdL_append]) (by repeat' (first | exact True.intro | refine And.intro ?_ ?_ | simp [AV.bd, bdL, bdL_append]))) ?_))))))
              · exact absurd (tx_inj (hc.trans rfl)) hbar
              · exact bp_p rfl
        · exact pout_fine l e gruleA (fun x => bd_gruleA 1 x) _
    · have hX := expect_x [61] (by simp) l1 e h61
      have hout : pout l e gruleA (pRule (l.map (·.2))) = .die (synV (pos l1 e)) := by
        have : pTake [61] r = .err r := by rw [← hm1]; exact pTake_bad (by simp) h61
        simp only [pRule, hq, this, pout, hl1]
      rw [hout]
      refine FnP.intro ?_ (by kernel_rfl) Tryd.func14 rfl rfl Tryd.ntmps14 (by exact Nat.le_of_ble_eq_true rfl) ?_; rotate_left; intro Γ hm
      · (repeat' (first | apply jA | apply jH | apply jT | (refine WP.regionC (id := 0) ?_; (refine se_alloc (by rfl) ?_); apply jW) | (refine wpl_region (id := 1) ?_; (refine wpl_step rfl ?_; (refine smove rfl ?_); apply jW; ((refine wpl_step rfl ?_; (refine sc_o [0] rfl rfl (hO) (Lend.o1 (by rfl) (by rfl) (by (exact (renL_pure (by simp [AV.bd, bdL, bdL_append])).symm)) (by rfl) (by simp [AV.bd, bdL, bdL_append]) (by simp [AV.bd, bdL, bdL_append])) ?_; simp only [updN, newO, AObj.ren, renL, AV.ren, apx, ap, if_true, if_false, Nat.reduceLT, Nat.reduceAdd, Nat.reduceSub, sO, intA, boolA, strA, rdA, ren_toks]); apply jW; (refine wpl_step rfl ?_; (refine su (ap_build (RqP.cons (rq_p rfl rfl) (RqP.nil)) (by rfl)) ?_); apply jW; (refine wpl_step rfl ?_; (refine se_alloc (by rfl) ?_); apply jW; (refine wpl_step rfl ?_; (refine se_store_b (by rfl) (by rfl) (by rfl) (by rfl) ?_); apply jW; (apply jX)))))))) | (refine wpl_region (id := 2) ?_; (refine wpl_step rfl ?_; (refine smove rfl ?_); apply jW; ((refine wpl_x [0] rfl rfl (hX) (Lend.S (by first | ((repeat' first | exact RenL.nil | refine RenL.cons (by rfl) ?_); done) | fail) (by first | ((repeat' first | exact LendO.nil | refine LendO.arr (by rfl) (by (exact (renL_pure (by simp [AV.bd, bdL, bdL_append])).symm)) ?_); done) | fail) (by decide) (by rfl) (by simp [AV.bd, bdL, bdL_append]) (by repeat' (first | exact True.intro | refine And.intro ?_ ?_ | simp [AV.bd, bdL, bdL_append]))) ?_))))))
        exact bp_p rfl
      · trivial
end Go.Lg
