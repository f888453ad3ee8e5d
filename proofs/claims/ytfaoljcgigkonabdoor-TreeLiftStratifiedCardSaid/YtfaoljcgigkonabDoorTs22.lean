/-
  Part 22 of the proof of TreeLiftStratifiedCard: the logic over the model, the functions' contracts and the plain laws.
-/
import Derived.Test.YtfaoljcgigkonabDoorTs21
set_option linter.unusedSimpArgs false
set_option linter.unusedVariables false
set_option linter.unusedSectionVars false
set_option linter.defProp false
set_option maxRecDepth 20000
set_option maxHeartbeats 4000000
namespace Go.Lg
open Go.Proofs
attribute [local irreducible] Ap Rq asemC WP RunD Ret Gq thenA inBlockA bodyQ noGotoA RqL RqP OpP
attribute [local simp] AV.cells
def RTA (r : RT) : AV := .tup [.agg [intA r.1.rule, intA r.1.term, tresA r.1.kids], intA (r.2.1 : Nat), boolA r.2.2]
@[simp] theorem bd_RTA (n : Nat) (r : RT) : (RTA r).bd n = true := by simp [RTA, tresA, AV.bd, bdL]
end Go.Lg
namespace Go.Lg
open Go.Proofs
attribute [local irreducible] Ap Rq asemC WP RunD Ret Gq thenA inBlockA bodyQ noGotoA RqL RqP OpP
attribute [local simp] AV.cells rdT
theorem ren_tresY (π : Nat -> Nat) (l : List Tre) : AV.ren π (tresA l) = tresA l := ren_pure (by simp)
theorem tree_fn {g : Gram} (hv : GVal g) (hnt : ∀ x, x ∈ g.terms -> x.size <= 48) (hnm : ∀ x, x ∈ g.nonterms -> x.size <= 48) (s : ByteArray) (hs : s.size <= 100000) (pr : List Bool) (hpr : pr.length = g.nonterms.length) :
  FnP Tryd.prog 36 [.ptr 0 7 0 0] [rdT g s 0 pr] (resT g s pr (treeT g pr (bl s))) := by
 have hfine := resT_fine g s pr (treeT g pr (bl s))
 have ht2 := hv.terms
 have hcm := fun (x : ByteArray) (hx : x ∈ g.terms) => common_fn g s 0 pr x (by omega) (by omega) (by have := hnt x hx; omega)
 simp only [List.drop_zero] at hcm
 unfold treeT at hfine ⊢
 unfold rdT at hcm ⊢
 refine FnP.intro ?_ (by kernel_rfl) Tryd.func36 rfl rfl Tryd.ntmps36 (by exact nle rfl) ?_; rotate_left; intro Γ hm
 ·(repeat' (first | apply jA | apply jF | apply jH | (refine rgC 0 ?_; (refine se_alloc rfl ?_); apply jW) | (refine rgC 1 ?_; (refine sassign rfl ?_); apply jW) | (refine rgC 2 ?_; (refine smove rfl ?_); (refine snilc rfl ?_); (refine sfieldp rfl rfl rfl ?_); (refine sfieldp rfl rfl rfl ?_); (refine sloadp rfl rfl rfl rfl ?_); (refine slenm rfl rfl ?_); (refine smove rfl ?_); apply jW)))
  refine wp_loop (fun (x : Nat × Nat) => x.1 <= g.terms.length /\ x.2 <= 100000 /\ termT (bl s) (g.terms.drop x.1) x.1 x.2 = termT (bl s) g.terms 0 0) (fun x => g.terms.length - x.1)
   (fun x => (S 71 [(0, .ptr 0 7 0 0), (2, .ptr 1 3 0 0), (3, intA (x.2 : Nat)), (12, strsA g.terms), (13, intA (g.terms.length : Nat)), (14, intA (x.1 : Nat))] 2 [(0, some (.arr 7 [.agg [strsA g.terms, strsA g.nonterms, intA g.start, rulesA g.rules, strA s, intA 0, boolsA pr]])), (1, some (.arr 3 [.agg [intA 0, intA 0, .val (.slice none 0 0)]]))])) (0, 0) ⟨[0, 1], ToR.S rfl (by repeat' (first | exact rt_nil | refine rt_t rfl rfl ?_ | refine rt_e rfl rfl ?_ | refine rt_p rfl rfl (by first | (simp [AV.bd, bdL, bdL_append]; done) | fail) ?_)) (by repeat' (first | exact ro_nil | refine ro_e rfl rfl ?_ | refine ro_p rfl (by first | exact rfl | fail) zq5 ?_)) rfl (by (rw [hm]; exact rfl)) rfl zq4 (by repeat' (first | exact True.intro | exact rfl | refine And.intro ?_ ?_ | (simp [bdOq, bdL, bdL_append, AV.bd]; done))) (by (rw [hm]; exact nle rfl))⟩ ⟨Nat.zero_le _, Nat.zero_le _, rfl⟩ ?_
  rintro ⟨j, b⟩ ⟨hj, hb, hT⟩
  simp only at hj hb hT ⊢
  by_cases hlt : j < g.terms.length
  ·have hd : g.terms.drop j = nth g.terms j :: g.terms.drop (j + 1) := by rw [List.drop_eq_getElem_cons hlt, nth_eq hlt]
   have hc0 := hcm _ (nth_mem hlt)
   have hts := hnt _ (nth_mem hlt)
   have hle := lcp_le (bl (nth g.terms j)) (bl s)
   rw [bl_len, bl_len] at hle
   rw [hd, termT] at hT
   by_cases hf : lcp (bl (nth g.terms j)) (bl s) = (bl (nth g.terms j)).length /\ lcp (bl (nth g.terms j)) (bl s) = (bl s).length
   ·rw [if_pos hf] at hT
    rw [bl_len, bl_len] at hf
    rw [<- hT]
    have hr : resT g s pr (.ok (.mk (-1) (j : Int) []) (bl s).length) = .ok (.agg [intA (-1), intA (j : Nat), .sl 3 []]) [some (.arr 7 [.agg [strsA g.terms, strsA g.nonterms, intA g.start, rulesA g.rules, strA s, intA (s.size : Nat), boolsA pr]])] := by
     show Res.ok (treA (.mk (-1) (j : Int) [])) _ = _
     rw [treA_kids, bl_len]; rfl
    simp only
    rw [hr]
    rw [hf.2] at hc0
    (repeat' (first | apply jA | apply jF | apply jH | apply jI | (refine wp_cond rfl (fun hc => ?_) (fun hc => ?_) <;> (try simp only [sB, ne_eq, reduceCtorEq] at hc) <;> (try (exfalso; omega))) | (refine rgC 3 ?_; (refine slss rfl rfl ?_); apply jW) | (refine rgC 4 ?_; (refine smove rfl ?_); (refine sidxn rfl rfl (by omega) ?_); (refine sloadw rfl rfl ?_); (refine sassign rfl ?_); (refine sassign rfl ?_); apply jW) | (refine rgC 5 ?_; (refine smove rfl ?_); (refine smove rfl ?_); (refine sc_o [0] rfl rfl (hc0) (Lend.S (by first | ((repeat' first | exact RenL.nil | refine RenL.cons rfl ?_); done) | fail) zq2 (by decide) rfl (by simp [AV.bd, bdL, bdL_append]) (by repeat' (first | exact True.intro | refine And.intro ?_ ?_ | simp [AV.bd, bdL, bdL_append]))) ?_; simp only [updN, newO, AObj.ren, renL, AV.ren, apx, ap, if_true, if_false, Nat.reduceLT, Nat.reduceAdd, Nat.reduceSub, sO, intA, boolA, strA, ren_rulesY, ren_boolsY]); (refine sassign rfl ?_); apply jW) | (refine rgC 6 ?_; (refine smove rfl ?_); (refine smove rfl ?_); (refine su (alenstr rfl rfl) ?_); (refine seql rfl rfl ?_); (refine smove rfl ?_); (refine sg (gq_vt rfl rfl) (fun he => ap_move (rq_p rfl rfl)) ?_); (refine sg (gq_vt rfl rfl) (fun he => ap_move (rq_p rfl rfl)) ?_); (refine sg (gq_vt rfl rfl) (fun he => ap_nilc (rq_c rfl rfl)) ?_); (refine sg (gq_vt rfl rfl) (fun he => ap_field_p (rq_c rfl rfl) rfl rfl) ?_); (refine sg (gq_vt rfl rfl) (fun he => ap_load_p (rq_c rfl rfl) rfl rfl rfl) ?_); (refine sg (gq_vt rfl rfl) (fun he => ap_len_str rfl (rq_c rfl rfl)) ?_); (refine sg (gq_vt rfl rfl) (fun he => ap_eql (rq_c rfl rfl) (rq_c rfl rfl)) ?_); (refine su (ap_and (rq_p rfl rfl) (rq_c rfl rfl)) ?_); apply jW) | (refine rgC 7 ?_; (refine smove rfl ?_); (refine smove rfl ?_); (refine snilc rfl ?_); (refine sfieldp rfl rfl rfl ?_); (refine se_store_b rfl rfl rfl rfl ?_); apply jW) | (refine rgC 8 ?_; (refine smove rfl ?_); (refine su (ap_build (RqP.cons (rq_p rfl rfl) (RqP.cons (rq_p rfl rfl) (RqP.nil))) rfl) ?_); (refine se_store_b rfl rfl rfl rfl ?_); apply jW)))
    ·refine wp_lastw 1 (A := []) (x := .agg [intA (-1), intA (j : Nat), .val (.slice none 0 0)]) (.agg [intA (-1), intA (j : Nat), .sl 3 []]) rfl ⟨.inl rfl, .inl rfl, .inr ⟨rfl, 3, rfl⟩, trivial⟩ ?_
     (repeat' (first | apply jK | apply jM | apply jO))
     refine bp_r rfl ?_
     refine retO_L (x := .agg [intA (-1), intA (j : Nat), .sl 3 []]) (k := 1) (os1 := [(0, some (.arr 7 [.agg [strsA g.terms, strsA g.nonterms, intA g.start, rulesA g.rules, strA s, intA (s.size : Nat), boolsA pr]]))]) (.cellT rfl rfl rfl rfl .nil) rfl ⟨[0], ToR.S rfl (by repeat' (first | exact rt_nil | refine rt_e rfl rfl ?_)) (by repeat' (first | exact ro_nil | refine ro_p rfl (by first | exact rfl | fail) zq5 ?_)) rfl rfl rfl zq4 zq3 (by exact nle rfl)⟩ rfl
    all_goals (exfalso; rcases hc with hc | hc; exact absurd (by omega) hc; exact hc trivial)
   ·rw [if_neg hf] at hT
    rw [bl_len, bl_len] at hf
    (repeat' (first | apply jA | apply jF | apply jH | apply jI | apply jN | (refine wp_cond rfl (fun hc => ?_) (fun hc => ?_) <;> (try simp only [sB, ne_eq, reduceCtorEq] at hc) <;> (try (exfalso; omega))) | (refine rgC 3 ?_; (refine slss rfl rfl ?_); apply jW) | (refine rgC 4 ?_; (refine smove rfl ?_); (refine sidxn rfl rfl (by omega) ?_); (refine sloadw rfl rfl ?_); (refine sassign rfl ?_); (refine sassign rfl ?_); apply jW) | (refine rgC 5 ?_; (refine smove rfl ?_); (refine smove rfl ?_); (refine sc_o [0] rfl rfl (hc0) (Lend.S (by first | ((repeat' first | exact RenL.nil | refine RenL.cons rfl ?_); done) | fail) zq2 (by decide) rfl (by simp [AV.bd, bdL, bdL_append]) (by repeat' (first | exact True.intro | refine And.intro ?_ ?_ | simp [AV.bd, bdL, bdL_append]))) ?_; simp only [updN, newO, AObj.ren, renL, AV.ren, apx, ap, if_true, if_false, Nat.reduceLT, Nat.reduceAdd, Nat.reduceSub, sO, intA, boolA, strA, ren_rulesY, ren_boolsY]); (refine sassign rfl ?_); apply jW) | (refine rgC 6 ?_; (refine smove rfl ?_); (refine smove rfl ?_); (refine su (alenstr rfl rfl) ?_); (refine seql rfl rfl ?_); (refine smove rfl ?_); (refine sg (gq_vt rfl rfl) (fun he => ap_move (rq_p rfl rfl)) ?_); (refine sg (gq_vt rfl rfl) (fun he => ap_move (rq_p rfl rfl)) ?_); (refine sg (gq_vt rfl rfl) (fun he => ap_nilc (rq_c rfl rfl)) ?_); (refine sg (gq_vt rfl rfl) (fun he => ap_field_p (rq_c rfl rfl) rfl rfl) ?_); (refine sg (gq_vt rfl rfl) (fun he => ap_load_p (rq_c rfl rfl) rfl rfl rfl) ?_); (refine sg (gq_vt rfl rfl) (fun he => ap_len_str rfl (rq_c rfl rfl)) ?_); (refine sg (gq_vt rfl rfl) (fun he => ap_eql (rq_c rfl rfl) (rq_c rfl rfl)) ?_); (refine su (ap_and (rq_p rfl rfl) (rq_c rfl rfl)) ?_); apply jW) | (refine rgC 9 ?_; (refine smove rfl ?_); (refine smove rfl ?_); (refine su (amax rfl rfl) ?_); (refine sassign rfl ?_); apply jW) | (refine rgC 10 ?_; (refine sadd rfl rfl (by exact inr_i64_of (by omega)) ?_); (refine smove rfl ?_); apply jW)))
    all_goals try (exfalso; omega)
    all_goals refine ⟨(j + 1, max b (lcp (bl (nth g.terms j)) (bl s))), ⟨by simp only; omega, by simp only; omega, by simp only; omega, hT⟩, ?_⟩
    all_goals simp only
    all_goals rw [show ((max b (lcp (bl (nth g.terms j)) (bl s)) : Nat) : Int) = max (b : Int) (lcp (bl (nth g.terms j)) (bl s) : Nat) by omega]
    all_goals exact ⟨[0, 1], ToR.S rfl (by repeat' (first | exact rt_nil | refine rt_t rfl rfl ?_ | refine rt_e rfl rfl ?_ | refine rt_p rfl rfl (by first | (simp [AV.bd, bdL, bdL_append]; done) | fail) ?_)) (by repeat' (first | exact ro_nil | refine ro_e rfl rfl ?_ | refine ro_p rfl (by first | exact rfl | fail) zq5 ?_)) rfl (by (rw [hm]; exact rfl)) rfl zq4 (by repeat' (first | exact True.intro | exact rfl | refine And.intro ?_ ?_ | (simp [bdOq, bdL, bdL_append, AV.bd]; done))) (by (rw [hm]; exact nle rfl))⟩
  ·rw [List.drop_of_length_le (by omega), termT] at hT
   rw [<- hT]
   simp only
   by_cases hb0 : 0 < b
   ·rw [if_pos hb0]
    (repeat' (first | apply jA | apply jH | apply jJ | apply jL | apply jP | apply jT | (refine wp_cond rfl (fun hc => ?_) (fun hc => ?_) <;> (try simp only [sB, ne_eq, reduceCtorEq] at hc) <;> (try (exfalso; omega))) | (refine rgC 3 ?_; (refine slss rfl rfl ?_); apply jW) | (refine rgC 11 ?_; (refine smove rfl ?_); (refine su (agtr rfl rfl) ?_); apply jW) | (refine wpl_region (id := 12) ?_; (refine wpl_step rfl ?_); (refine smove rfl ?_); (apply jW); (refine wpl_step rfl ?_); (refine se_iface rfl (by kernel_rfl) (by kernel_rfl) ?_); (apply jW); (refine wpl_panic rfl ?_))))
    all_goals (exact bp_p rfl)
   ·rw [if_neg hb0]
    have hru := rules_fn hv hnm s 0 pr hpr (-1) (by omega) (by omega)
    have hchl : ∀ c, c ∈ chR g pr (-1) g.rules.length -> c.1.length <= 1000000 := fun c hc => by
     obtain ⟨q, hq, _, _, rfl⟩ := mem_chR.1 hc
     have hrq := hv.rule _ (nth_mem hq)
     have hr2 := hv.r2
     have h0 := hrq.h0
     have h1 := hrq.hn
     have := label_len g q (by rw [bl_len]; exact hnm _ (nth_mem (by omega))) (by omega)
     rw [ch_eq, folT_is]
     simp only [List.length_append, List.length_cons, List.length_nil]
     omega
    have hcc := choose_fn g s 0 pr (chR g pr (-1) g.rules.length) (by omega) (by omega) hchl
    rw [List.drop_zero] at hcc
    unfold rdT at hru hcc
    simp only [Int.natCast_zero] at hcc
    cases hq1 : chooseT (bl s) 0 (chR g pr (-1) g.rules.length) 0 with
    | err e =>
     have hX := hcc.dieC hq1
     simp only
     (repeat' (first | apply jA | apply jH | apply jI | apply jJ | apply jL | apply jP | apply jT | (refine wp_cond rfl (fun hc => ?_) (fun hc => ?_) <;> (try simp only [sB, ne_eq, reduceCtorEq] at hc) <;> (try (exfalso; omega))) | (refine rgC 3 ?_; (refine slss rfl rfl ?_); apply jW) | (refine rgC 11 ?_; (refine smove rfl ?_); (refine su (agtr rfl rfl) ?_); apply jW) | (refine wpl_region (id := 13) ?_; (refine wpl_step rfl ?_; (refine smove rfl ?_); apply jW; (refine wpl_step rfl ?_; (refine smove rfl ?_); apply jW; (refine wpl_step rfl ?_; (refine smove rfl ?_); apply jW; ((refine wpl_step rfl ?_; (refine sc_o [0] rfl rfl (hru) (Lend.S (by first | ((repeat' first | exact RenL.nil | refine RenL.cons rfl ?_); done) | fail) zq2 (by decide) rfl (by simp [AV.bd, bdL, bdL_append]) (by repeat' (first | exact True.intro | refine And.intro ?_ ?_ | simp [AV.bd, bdL, bdL_append]))) ?_; simp only [updN, newO, AObj.ren, renL, AV.ren, apx, ap, if_true, if_false, Nat.reduceLT, Nat.reduceAdd, Nat.reduceSub, sO, intA, boolA, strA, ren_rulesY, ren_boolsY, ren_chsY]); apply jW; ((refine wpl_x [0] rfl rfl (hX) (Lend.S (by first | ((repeat' first | exact RenL.nil | refine RenL.cons (by first | exact rfl | exact ren_p (by simp [AV.bd, bdL, bdL_append])) ?_); done) | fail) zq2 (by decide) rfl (by simp [AV.bd, bdL, bdL_append]) (by repeat' (first | exact True.intro | refine And.intro ?_ ?_ | simp [AV.bd, bdL, bdL_append]))) ?_))))))))))
     all_goals (exact bp_p rfl)
    | ok t a1 =>
     obtain ⟨c, hc1, rfl, rfl, hpre⟩ := choose_ok hq1
     obtain ⟨q, hqn, _, _, rfl⟩ := mem_chR.1 hc1
     have hO := hcc.okC hq1
     have hraw : rawA (chT g q).2 = .agg [intA (q : Nat), intA 0, .val (.slice none 0 0)] := rfl
     rw [hraw] at hO
     have hlen := hpre.length_le
     rw [bl_len] at hlen
     have hto : (chT g q).2.rule.toNat = q := Int.toNat_natCast _
     simp only [hto]
     rw [Nat.zero_add] at hO ⊢
     generalize (chT g q).1.length = L at *
     have hki := kids_fn hv hnt hnm s hs pr hpr ((bl s).length + 1) q L (by omega) (by rw [bl_len]; omega) hqn
     unfold rdT at hki
     cases hq2 : kidsT g pr (bl s) ((bl s).length + 1) q L with
     | err e =>
      rw [hq2] at hki
      have hX : FnX Tryd.prog _ _ _ _ := hki
      simp only
      (repeat' (first | apply jA | apply jH | apply jI | apply jJ | apply jL | apply jP | apply jT | (refine wp_cond rfl (fun hc => ?_) (fun hc => ?_) <;> (try simp only [sB, ne_eq, reduceCtorEq] at hc) <;> (try (exfalso; omega))) | (refine rgC 3 ?_; (refine slss rfl rfl ?_); apply jW) | (refine rgC 11 ?_; (refine smove rfl ?_); (refine su (agtr rfl rfl) ?_); apply jW) | (refine wpl_region (id := 13) ?_; (refine wpl_step rfl ?_; (refine smove rfl ?_); apply jW; (refine wpl_step rfl ?_; (refine smove rfl ?_); apply jW; (refine wpl_step rfl ?_; (refine smove rfl ?_); apply jW; ((refine wpl_step rfl ?_; (refine sc_o [0] rfl rfl (hru) (Lend.S (by first | ((repeat' first | exact RenL.nil | refine RenL.cons rfl ?_); done) | fail) zq2 (by decide) rfl (by simp [AV.bd, bdL, bdL_append]) (by repeat' (first | exact True.intro | refine And.intro ?_ ?_ | simp [AV.bd, bdL, bdL_append]))) ?_; simp only [updN, newO, AObj.ren, renL, AV.ren, apx, ap, if_true, if_false, Nat.reduceLT, Nat.reduceAdd, Nat.reduceSub, sO, intA, boolA, strA, ren_rulesY, ren_boolsY, ren_chsY]); apply jW; ((refine wpl_step rfl ?_; (refine sc_o [0] rfl rfl (hO) (Lend.S (by first | ((repeat' first | exact RenL.nil | refine RenL.cons (by first | exact rfl | exact ren_p (by simp [AV.bd, bdL, bdL_append])) ?_); done) | fail) zq2 (by decide) rfl (by simp [AV.bd, bdL, bdL_append]) (by repeat' (first | exact True.intro | refine And.intro ?_ ?_ | simp [AV.bd, bdL, bdL_append]))) ?_; simp only [updN, newO, AObj.ren, renL, AV.ren, apx, ap, if_true, if_false, Nat.reduceLT, Nat.reduceAdd, Nat.reduceSub, sO, intA, boolA, strA, ren_rulesY, ren_boolsY, ren_chsY]); apply jW; ((refine wpl_x [0] rfl rfl (hX) (Lend.S (by first | ((repeat' first | exact RenL.nil | refine RenL.cons rfl ?_); done) | fail) zq2 (by decide) rfl (by simp [AV.bd, bdL, bdL_append]) (by repeat' (first | exact True.intro | refine And.intro ?_ ?_ | simp [AV.bd, bdL, bdL_append]))) ?_))))))))))))
      all_goals (exact bp_p rfl)
     | ok t' a2 =>
      have hle2 := kids_le g pr (bl s) ((bl s).length + 1) q L t' a2 (by rw [bl_len]; omega) hq2
      rw [bl_len] at hle2
      rw [hq2] at hki
      have hO2 : FnO Tryd.prog _ _ _ _ _ := hki
      unfold rdT at hO2
      simp only
      rw [treA_kids] at hO2
      by_cases hl : a2 < s.size
      ·rw [if_pos (by rw [bl_len]; exact hl)]
       (repeat' (first | apply jA | apply jH | apply jI | apply jJ | apply jL | apply jP | apply jT | (refine wp_cond rfl (fun hc => ?_) (fun hc => ?_) <;> (try simp only [sB, ne_eq, reduceCtorEq] at hc) <;> (try (exfalso; omega))) | (refine rgC 3 ?_; (refine slss rfl rfl ?_); apply jW) | (refine rgC 11 ?_; (refine smove rfl ?_); (refine su (agtr rfl rfl) ?_); apply jW) | (refine rgC 13 ?_; (refine smove rfl ?_); (refine smove rfl ?_); (refine smove rfl ?_); (refine sc_o [0] rfl rfl (hru) (Lend.S (by first | ((repeat' first | exact RenL.nil | refine RenL.cons rfl ?_); done) | fail) zq2 (by decide) rfl (by simp [AV.bd, bdL, bdL_append]) (by repeat' (first | exact True.intro | refine And.intro ?_ ?_ | simp [AV.bd, bdL, bdL_append]))) ?_; simp only [updN, newO, AObj.ren, renL, AV.ren, apx, ap, if_true, if_false, Nat.reduceLT, Nat.reduceAdd, Nat.reduceSub, sO, intA, boolA, strA, ren_rulesY, ren_boolsY, ren_chsY]); (refine sc_o [0] rfl rfl (hO) (Lend.S (by first | ((repeat' first | exact RenL.nil | refine RenL.cons (by first | exact rfl | exact ren_p (by simp [AV.bd, bdL, bdL_append])) ?_); done) | fail) zq2 (by decide) rfl (by simp [AV.bd, bdL, bdL_append]) (by repeat' (first | exact True.intro | refine And.intro ?_ ?_ | simp [AV.bd, bdL, bdL_append]))) ?_; simp only [updN, newO, AObj.ren, renL, AV.ren, apx, ap, if_true, if_false, Nat.reduceLT, Nat.reduceAdd, Nat.reduceSub, sO, intA, boolA, strA, ren_rulesY, ren_boolsY, ren_chsY]); (refine sc_o [0] rfl rfl (hO2) (Lend.S (by first | ((repeat' first | exact RenL.nil | refine RenL.cons rfl ?_); done) | fail) zq2 (by decide) rfl (by simp [AV.bd, bdL, bdL_append]) (by repeat' (first | exact True.intro | refine And.intro ?_ ?_ | simp [AV.bd, bdL, bdL_append]))) ?_; simp only [updN, newO, AObj.ren, renL, AV.ren, apx, ap, if_true, if_false, Nat.reduceLT, Nat.reduceAdd, Nat.reduceSub, sO, intA, boolA, strA, ren_rulesY, ren_boolsY, ren_tresY]); (refine se_alloc rfl ?_); (refine se_store_b rfl rfl rfl rfl ?_); apply jW) | (refine wp_draw (id := 14) 10 mixed (by kernel_rfl) (by kernel_rfl) rfl ?_ <;> (refine rmove rfl ?_) <;> (refine rnilc rfl ?_) <;> (refine rfieldp rfl rfl rfl ?_) <;> (refine rloadp rfl rfl rfl rfl ?_) <;> (refine rmove rfl ?_) <;> (refine rnilc rfl ?_) <;> (refine rfieldp rfl rfl rfl ?_) <;> (refine rloadp rfl rfl rfl rfl ?_) <;> (refine rd_u rfl rfl (alenstr rfl rfl) ?_) <;> (refine rd_u rfl rfl (alss rfl rfl) ?_) <;> (refine rd_end (by kernel_rfl) ?_)) | (refine wpl_region (id := 15) ?_; (refine wpl_step rfl ?_); (refine smove rfl ?_); (apply jW); (refine wpl_step rfl ?_); (refine snilc rfl ?_); (apply jW); (refine wpl_step rfl ?_); (refine sfieldp rfl rfl rfl ?_); (apply jW); (refine wpl_step rfl ?_); (refine sloadp rfl rfl rfl rfl ?_); (apply jW); (refine wpl_step rfl ?_); (refine se_iface rfl (by kernel_rfl) (by kernel_rfl) ?_); (apply jW); (refine wpl_panic rfl ?_))))
       all_goals (exact bp_p rfl)
      ·rw [if_neg (by rw [bl_len]; exact hl)]
       have hr : resT g s pr (.ok t' a2) = .ok (.agg [intA t'.rule, intA t'.term, tresA t'.kids]) [some (.arr 7 [.agg [strsA g.terms, strsA g.nonterms, intA g.start, rulesA g.rules, strA s, intA (a2 : Nat), boolsA pr]])] := by
        show Res.ok (treA t') _ = _
        rw [treA_kids]; rfl
       rw [hr]
       (repeat' (first | apply jA | apply jH | apply jI | apply jJ | apply jK | apply jL | apply jP | (refine wp_cond rfl (fun hc => ?_) (fun hc => ?_) <;> (try simp only [sB, ne_eq, reduceCtorEq] at hc) <;> (try (exfalso; omega))) | (refine rgC 3 ?_; (refine slss rfl rfl ?_); apply jW) | (refine rgC 11 ?_; (refine smove rfl ?_); (refine su (agtr rfl rfl) ?_); apply jW) | (refine rgC 13 ?_; (refine smove rfl ?_); (refine smove rfl ?_); (refine smove rfl ?_); (refine sc_o [0] rfl rfl (hru) (Lend.S (by first | ((repeat' first | exact RenL.nil | refine RenL.cons rfl ?_); done) | fail) zq2 (by decide) rfl (by simp [AV.bd, bdL, bdL_append]) (by repeat' (first | exact True.intro | refine And.intro ?_ ?_ | simp [AV.bd, bdL, bdL_append]))) ?_; simp only [updN, newO, AObj.ren, renL, AV.ren, apx, ap, if_true, if_false, Nat.reduceLT, Nat.reduceAdd, Nat.reduceSub, sO, intA, boolA, strA, ren_rulesY, ren_boolsY, ren_chsY]); (refine sc_o [0] rfl rfl (hO) (Lend.S (by first | ((repeat' first | exact RenL.nil | refine RenL.cons (by first | exact rfl | exact ren_p (by simp [AV.bd, bdL, bdL_append])) ?_); done) | fail) zq2 (by decide) rfl (by simp [AV.bd, bdL, bdL_append]) (by repeat' (first | exact True.intro | refine And.intro ?_ ?_ | simp [AV.bd, bdL, bdL_append]))) ?_; simp only [updN, newO, AObj.ren, renL, AV.ren, apx, ap, if_true, if_false, Nat.reduceLT, Nat.reduceAdd, Nat.reduceSub, sO, intA, boolA, strA, ren_rulesY, ren_boolsY, ren_chsY]); (refine sc_o [0] rfl rfl (hO2) (Lend.S (by first | ((repeat' first | exact RenL.nil | refine RenL.cons rfl ?_); done) | fail) zq2 (by decide) rfl (by simp [AV.bd, bdL, bdL_append]) (by repeat' (first | exact True.intro | refine And.intro ?_ ?_ | simp [AV.bd, bdL, bdL_append]))) ?_; simp only [updN, newO, AObj.ren, renL, AV.ren, apx, ap, if_true, if_false, Nat.reduceLT, Nat.reduceAdd, Nat.reduceSub, sO, intA, boolA, strA, ren_rulesY, ren_boolsY, ren_tresY]); (refine se_alloc rfl ?_); (refine se_store_b rfl rfl rfl rfl ?_); apply jW) | (refine wp_draw (id := 14) 10 mixed (by kernel_rfl) (by kernel_rfl) rfl ?_ <;> (refine rmove rfl ?_) <;> (refine rnilc rfl ?_) <;> (refine rfieldp rfl rfl rfl ?_) <;> (refine rloadp rfl rfl rfl rfl ?_) <;> (refine rmove rfl ?_) <;> (refine rnilc rfl ?_) <;> (refine rfieldp rfl rfl rfl ?_) <;> (refine rloadp rfl rfl rfl rfl ?_) <;> (refine rd_u rfl rfl (alenstr rfl rfl) ?_) <;> (refine rd_u rfl rfl (alss rfl rfl) ?_) <;> (refine rd_end (by kernel_rfl) ?_)) | (refine rgC 16 ?_; (refine sloadpw rfl rfl rfl rfl ?_); (refine se_store_b rfl rfl rfl rfl ?_); apply jW)))
       all_goals try (exfalso; omega)
       all_goals refine bp_r rfl ?_
       all_goals refine retO_L (x := .agg [intA t'.rule, intA t'.term, tresA t'.kids]) (k := 1) (os1 := [(0, some (.arr 7 [.agg [strsA g.terms, strsA g.nonterms, intA g.start, rulesA g.rules, strA s, intA (a2 : Nat), boolsA pr]]))]) (.cellT rfl rfl rfl rfl .nil) rfl ⟨[0], ToR.S rfl (by repeat' (first | exact rt_nil | refine rt_p rfl rfl (by first | (simp [AV.bd, bdL, bdL_append]; done) | fail) ?_)) (by repeat' (first | exact ro_nil | refine ro_p rfl (by first | exact rfl | fail) zq5 ?_)) rfl rfl rfl zq4 zq3 (by exact nle rfl)⟩ rfl
 ·exact hfine
end Go.Lg
