/-
  Part 24 of the proof of PrecedenceUnambiguousCard: the logic over the model, the functions' contracts and the plain laws.
-/
import Derived.Test.YtmgpndmmodkhhaaDoorPu23

set_option linter.unusedSimpArgs false
set_option linter.unusedVariables false
set_option linter.unusedSectionVars false
set_option linter.defProp false
set_option maxRecDepth 20000
set_option maxHeartbeats 8000000

namespace Go.Lg
open Go.Proofs
attribute [local irreducible] Ap Rq asemC WP RunD Ret Gq thenA inBlockA bodyQ noGotoA RqL RqP OpP
attribute [local simp] AV.cells
def usdM (g : Gram) (l : List GLe) : List (Int × Option (List Int)) := (uks g l g.rules.length).map fun (e : Nat) => ((e : Int), some (useI g l e))
theorem usd_get {g : Gram} {l : List GLe} (hv : GVal g) (e : Nat) : slO ((aget (usdM g l) (e : Int)).getD none) = if useI g l e = [] then .val (.slice none 0 0) else intsA (useI g l e) := by
 unfold usdM
 rw [agetK (F := fun e => some (useI g l e))]
 by_cases h : useI g l e = []
 ·rw [if_pos h, if_neg (fun hm => (uks_use hv).1 hm h)]; rfl
 ·rw [if_neg h, if_pos ((uks_use hv).2 h)]; rfl
theorem ruleS_blen (g : Gram) (l : List GLe) (r : Rul) : (ruleS g l r).body.length = r.body.length := by
 unfold ruleS
 split
 ·rename_i h; rw [bin_len3 h]; rfl
 ·simp
def bodK (q s : Int) (B : List Int) (k : Nat) : List Int := match k with
 | 0 => B
 | 1 => bodN q s B
 | _ => bodQ q s B
theorem bodK_len (q s : Int) (B : List Int) (k : Nat) : (bodK q s B k).length = B.length := by
 have h1 : (bodN q s B).length = B.length := by unfold bodN; split <;> simp
 unfold bodK
 split
 ·rfl
 ·exact h1
 ·unfold bodQ; split <;> simp [h1]
theorem bodK_step (q s : Int) {B : List Int} {k : Nat} (hk : k < 2) (hB : 0 < B.length) : ∃ z : Int, 0 <= z /\ z < B.length /\ [intA 0, intA ((B.length : Int) - 1)][k]? = some (intA z) /\ bodK q s B (k + 1) = if nth (bodK q s B k) z.toNat = s then (bodK q s B k).set z.toNat q else bodK q s B k := by
 match k, hk with
 | 0, _ => exact ⟨0, by omega, by omega, rfl, rfl⟩
 | 1, _ =>
  refine ⟨(B.length : Int) - 1, by omega, by omega, rfl, ?_⟩
  rw [show ((B.length : Int) - 1).toNat = B.length - 1 by omega]; rfl
instance arI68 : ArI Tryd.prog 68 2 := by
 obtain ⟨d, i, hd, hi, hti⟩ := tinfo_of @ti3
 have h1 : i.size = 1 := by have := congrArg TI.size hti; exact this.symm
 exact ⟨3, i, by kernel_rfl, hi, h1, by kernel_rfl⟩
theorem tor_pick {m n M : Nat} {l : List (Nat × AV)} {os : List (Nat × Option AObj)} {t : St} {es : List AV} (j k : Nat) (_ : lkO j os = some (.arr k es)) (hT : ∃ is, ToR m is (S n l M os) t) : ∃ is, ToR m is (S n l M os) t := hT
theorem pind_cut {R : St -> Prop} : PInd (fun e s => e = .normal /\ R s) := fun ch s t x h => by cases h.1
section
open Go.RowKit
theorem su_sub {P : Program} {n M : Nat} {l : List (Nat × AV)} {os : List (Nat × Option AObj)} {d : Tmp} {ty : TypeId} {pos : String} {af : Array Edge} {ops : Array Oper} {rest : List Oper} {K : St -> Prop} {op : Op} {x : AV} (y : AV) (h : Ap P n l M os [] op x) (hsub : ∀ (A : Nat -> Prop) (ρ : Nat -> Option Nat) (I : Nat -> Prop) (w : World) (v : Value), RV A ρ I w x v -> RV A ρ I w y v)
  (hk : asemC P ops rest (S n ((d, y) :: l) M os) K) : asemC P ops (⟨some d, op, ty, pos, af, none⟩ :: rest) (S n l M os) K := by
 simp only [asemC]
 refine .inr (.inr (OpS.of ⟨_, hk, fun Γ ac w hs => ?_⟩))
 obtain ⟨ρ, hs⟩ := hs
 have h' : apure P (S n l M os).look (S n l M os).op [] op = some x := by unfold Ap at h; exact h
 obtain ⟨v, hrun, hrv⟩ := pure_sound (P := P) hs (o := ⟨some d, op, ty, pos, af, none⟩) (e := []) rfl h'
 have hp := hs.put (some d) (x := y) (v := v) (hsub _ _ _ _ _ hrv)
 rw [S_put] at hp
 exact ⟨v, w, hrun, ρ, hp⟩
theorem sub_use {g : Gram} {l : List GLe} (hv : GVal g) (e : Nat) (A : Nat -> Prop) (ρ : Nat -> Option Nat) (I : Nat -> Prop) (w : World) (v : Value) (h : RV A ρ I w (slO ((aget (usdM g l) (e : Int)).getD none)) v) : RV A ρ I w (intsA (useI g l e)) v := by
 rw [usd_get hv] at h
 by_cases hE : useI g l e = []
 ·rw [if_pos hE] at h
  rw [hE, h.veq]
  exact .nils
 ·rw [if_neg hE] at h; exact h
end
theorem ren_slM (π : Nat -> Nat) (m : List (Int × Option (List Int))) : ((mapA intK slO m).map fun p => (p.1, p.2.ren π)) = mapA intK slO m := by
 unfold mapA
 rw [List.map_map]
 refine List.map_congr_left fun p _ => ?_
 simp only [Function.comp]
 rw [ren_pure (slO_bd 0 p.2)]
theorem pstrat_yes {g : Gram} (l : List GLe) (hf : FewL l) (hc0 : checkG g l = 0) : Fn Tryd.prog 14 [gramA g, levelsA l] (stratA (stratR g l)) := by
 have hv := (check_facts hc0).1
 have hval := validG_iff.2 hv
 have hlv := (check_facts hc0).2.1
 have hnm := (NVal.of hval).nm
 have hfn := hf.n
 have hn2 := hv.n2
 have hr2 := hv.r2
 have hs := start_yes l hf hval hlv
 rw [<- chkV_is hval hlv, hc0] at hs
 have hus := used_fn l hf hv
 have hbin := fun r hr => binary_fn l hv hv.tnd r hr
 have hcl := cloneStrs_own g.nonterms (by omega)
 unfold usdA at hus
 rw [show ((uks g l g.rules.length).map fun (e : Nat) => ((e : Int), some (useI g l e))) = usdM g l from rfl] at hus
 unfold stA opmA at *
 refine Fn.intro (by simp [AV.bd, bdL, bdL_append]) (by kernel_rfl) Tryd.func14 rfl rfl Tryd.ntmps14 (by exact nle rfl) ?_; intro Γ hm
 (repeat' (first | apply jA | apply jH | apply jI | (refine wp_cond rfl (fun hc => ?_) (fun hc => ?_) <;> (try simp only [sB, ne_eq, reduceCtorEq] at hc) <;> (try (exfalso; omega))) | (refine rgC 0 ?_; (refine se_box rfl (by exact ⟨rfl, rfl⟩) ?_); (refine se_alloc rfl ?_); (refine sassign rfl ?_); (refine sassign rfl ?_); apply jW) | (refine rgC 1 ?_; (refine sloadpw rfl rfl rfl rfl ?_); (refine smove rfl ?_); (refine sc_o [] rfl rfl (hs) (Lend.S (by first | ((repeat' first | exact RenL.nil | refine RenL.cons (by first | exact ren_agg (by first | ((repeat' first | exact RenL.nil | refine RenL.cons (by first | exact rfl | exact ren_p (by first | (simp [AV.bd, bdL, bdL_append]; done) | fail)) ?_); done) | fail) | exact ren_p (by simp [AV.bd, bdL, bdL_append])) ?_); done) | fail) (by first | ((repeat' (exact LendO.nil)); done) | fail) (by decide) rfl (by simp [AV.bd, bdL, bdL_append]) (by repeat' (exact True.intro))) ?_; simp only [updN, newO, AObj.ren, renL, AV.ren, apx, ap, if_true, if_false, Nat.reduceLT, Nat.reduceAdd, Nat.reduceSub, sO, intA, boolA, strA, ren_opm, ren_intA', ren_strsA, ren_rulesA, ren_levelsA]); (refine smove rfl ?_); (refine su (aextract rfl rfl) ?_); (refine su (aextract rfl rfl) ?_); (refine se_alloc rfl ?_); (refine se_store_b rfl rfl rfl rfl ?_); (refine sassign rfl ?_); apply jW) | (refine rgC 2 ?_; (refine smove rfl ?_); (refine su (aneq rfl rfl) ?_); apply jW)))
 all_goals try (exfalso; simp at hc; done)
 refine wp_st (S 260 [(1, levelsA l), (2, .ptr 1 4 0 0), (4, .ptr 2 4 0 0), (7, .ptr 3 6 0 0)] 4 [(0, some (.map (mapA strK intA (opM l)))), (1, some (.arr 4 [gramA g])), (2, some (.arr 4 [.agg [.val (.slice none 0 0), .val (.slice none 0 0), intA 0, .val (.slice none 0 0)]])), (3, some (.arr 6 [.agg [strsA g.terms, strsA g.nonterms, intA g.start, rulesA g.rules, levelsA l, .map 0]]))]) ⟨[2, 0, 1, 3], ToR.S rfl (by repeat' (first | exact rt_nil | refine rt_t rfl rfl ?_ | refine rt_p rfl rfl (by first | (simp [AV.bd, bdL, bdL_append]; done) | fail) ?_)) (by repeat' (first | exact ro_nil | refine ro_e rfl rfl ?_ | refine ro_p rfl (by first | exact rfl | fail) zq5 ?_ | refine ro_m rfl rfl (mapA_bd (fun _ => by exact rfl) _) ?_ | refine ro_e rfl (by simp only [renL, AV.ren, ren_strsA, ren_intsA, ren_intA', ren_rulesA, ren_levelsA, chS_ren, chL_ren]; exact rfl) ?_)) rfl (by (rw [hm]; exact rfl)) rfl zq4 (by repeat' (first | exact True.intro | exact rfl | exact mapA_all (fun _ => by exact rfl) _ | refine And.intro ?_ ?_ | (simp [bdOq, bdL, bdL_append, AV.bd]; done))) (by (rw [hm]; exact nle rfl))⟩ ?_
 (repeat' (first | apply jA | apply jF | apply jH | (refine rgC 4 ?_; (refine sloadpw rfl rfl rfl rfl ?_); (refine sc_o [0] rfl rfl (hus) (Lend.S (by first | ((repeat' first | exact RenL.nil | refine RenL.cons (by exact ren_agg (by first | ((repeat' first | exact RenL.nil | refine RenL.cons (by first | exact rfl | exact ren_p (by first | (simp [AV.bd, bdL, bdL_append]; done) | fail)) ?_); done) | fail)) ?_); done) | fail) (by first | ((repeat' first | exact LendO.nil | refine LendO.map rfl (by first | (simp [mapA, AV.ren, intA]; done) | fail) ?_); done) | fail) (by decide) rfl (by simp [AV.bd, bdL, bdL_append]) (by repeat' (first | exact True.intro | refine And.intro ?_ ?_ | (simp [mapA, AV.bd, intA]; done)))) ?_; simp only [updN, newO, AObj.ren, renL, AV.ren, apx, ap, if_true, if_false, Nat.reduceLT, Nat.reduceAdd, Nat.reduceSub, sO, intA, boolA, strA, ren_opm, ren_slM]); (refine sassign rfl ?_); apply jW) | (refine rgC 5 ?_; (refine sfieldp rfl rfl rfl ?_); (refine sloadp rfl rfl rfl rfl ?_); (refine sc_o [] rfl rfl (hcl) (Lend.S (by first | ((repeat' first | exact RenL.nil | refine RenL.cons (by exact ren_p (by simp [AV.bd, bdL, bdL_append])) ?_); done) | fail) (by first | ((repeat' (exact LendO.nil)); done) | fail) (by decide) rfl (by simp [AV.bd, bdL, bdL_append]) (by repeat' (exact True.intro))) ?_; simp only [updN, newO, AObj.ren, renL, AV.ren, apx, ap, if_true, if_false, Nat.reduceLT, Nat.reduceAdd, Nat.reduceSub, sO, intA, boolA, strA]); (refine sassign rfl ?_); apply jW) | (refine rgC 6 ?_; (refine sfieldp rfl rfl rfl ?_); (refine sloadp rfl rfl rfl rfl ?_); (refine slenm rfl rfl ?_); (refine se_make rfl rfl rfl rfl (by omega) ?_); (refine sassign rfl ?_); apply jW) | (refine rgC 7 ?_; (refine sfieldp rfl rfl rfl ?_); (refine sloadp rfl rfl rfl rfl ?_); (refine slenm rfl rfl ?_); (refine smove rfl ?_); apply jW)))
 refine wp_loop (fun (e : Nat) => e <= g.nonterms.length) (fun e => g.nonterms.length - e)
  (fun e => (S 260 [(1, levelsA l), (2, .ptr 1 4 0 0), (4, .ptr 2 4 0 0), (7, .ptr 3 6 0 0), (9, .map 4), (10, .ref 5 1 0 (namsG g l e).length), (11, .ref 6 1 0 g.nonterms.length), (51, strsA g.nonterms), (52, intA (g.nonterms.length : Nat)), (53, intA (e : Nat))] 7 [(0, some (.map (mapA strK intA (opM l)))), (1, some (.arr 4 [gramA g])), (2, some (.arr 4 [.agg [.val (.slice none 0 0), .val (.slice none 0 0), intA 0, .val (.slice none 0 0)]])), (3, some (.arr 6 [.agg [strsA g.terms, strsA g.nonterms, intA g.start, rulesA g.rules, levelsA l, .map 0]])), (4, some (.map (mapA intK slO (usdM g l)))), (5, some (.arr 1 ((namsG g l e).map strA))), (6, some (.arr 1 (chL g l e)))])) 0 ?_ (Nat.zero_le _) ?_
 ·rw [show (namsG g l 0).length = g.nonterms.length by simp [namsG], show namsG g l 0 = g.nonterms by simp [namsG], chL_0]
  exact ⟨[0, 1, 2, 3, 4, 5, 6], ToR.S rfl (by repeat' (first | exact rt_nil | refine rt_r rfl rfl ?_ | refine rt_t rfl rfl ?_ | refine rt_m rfl rfl ?_ | refine rt_e rfl rfl ?_ | refine rt_p rfl rfl (by first | (simp [AV.bd, bdL, bdL_append]; done) | fail) ?_)) (by repeat' (first | exact ro_nil | refine ro_e rfl rfl ?_ | refine ro_p rfl (by first | exact rfl | fail) (by first | exact bdL_map (fun _ => by exact rfl) _ | (simp [bdL, bdL_append, AV.bd]; done) | fail) ?_ | refine ro_m rfl rfl (mapA_bd (fun _ => by first | exact rfl | simp [AV.bd, bdL]) _) ?_ | refine ro_e rfl (by simp only [renL, AV.ren, ren_strsA, ren_intsA, ren_intA', ren_rulesA, ren_levelsA, chS_ren, chL_ren]; exact rfl) ?_)) rfl (by (rw [hm]; exact rfl)) rfl zq4 (by repeat' (first | exact True.intro | exact rfl | exact mapA_all (fun _ => by first | exact rfl | simp [AV.bd, bdL]) _ | refine And.intro ?_ ?_ | exact bdL_map (fun _ => by exact rfl) _ | (simp [bdOq, bdL, bdL_append, AV.bd]; done))) (by (rw [hm]; exact nle rfl))⟩
 intro e he
 have hoff := offN_bd (g := g) (l := l) hfn e
 have hnl := namsG_len g l e
 have hchl := chL_len g l e
 by_cases hlt : e < g.nonterms.length
 ·have hul := useL_len g l e
  have hui : (useI g l e).length = (useL g l e).length := by simp [useI]
  (repeat' (first | apply jA | apply jF | apply jH | apply jI | (refine wp_cond rfl (fun hc => ?_) (fun hc => ?_) <;> (try simp only [sB, ne_eq, reduceCtorEq] at hc) <;> (try (exfalso; omega))) | (refine rgC 8 ?_; (refine slss rfl rfl ?_); apply jW) | (refine rgC 9 ?_; (refine smove rfl ?_); (refine sidxn rfl rfl (by omega) ?_); (refine sloadw rfl rfl ?_); (refine sassign rfl ?_); (refine sassign rfl ?_); apply jW)))
  refine rgC 10 ?_
  refine smove rfl ?_
  refine smove rfl ?_
  refine smove rfl ?_
  refine se_lit (OpP.cons rfl OpP.nil) rfl rfl rfl rfl rfl rfl ?_
  refine su (aidxrn rfl rfl (by omega)) ?_
  refine se_store (es := chL g l e) (ed := .val (.slice none 0 0)) (ed' := .ref 7 1 0 1) rfl rfl (chL_at hlt) rfl rfl ?_
  refine asemC_end ?_
  (repeat' (first | apply jA | apply jH))
  refine rgC 11 ?_
  refine smove rfl ?_
  refine smove rfl ?_
  refine su_sub (intsA (useI g l e)) (ap_look (kf := intK) (f := slO) (m := usdM g l) (z0 := none) (rq_p rfl rfl) rfl (rq_p rfl rfl) rfl) (sub_use hv e) ?_
  refine slenm rfl rfl ?_
  refine smove rfl ?_
  refine asemC_end ?_
  (repeat' (first | apply jF | apply jH))
  refine wp_loop (fun (i : Nat) => i <= (useI g l e).length) (fun i => (useI g l e).length - i)
   (fun i => (S 260 [(1, levelsA l), (2, .ptr 1 4 0 0), (4, .ptr 2 4 0 0), (7, .ptr 3 6 0 0), (9, .map 4), (10, .ref 5 1 0 (namP g l e i).length), (11, .ref 6 1 0 g.nonterms.length), (12, intA (e : Nat)), (13, strA (nth g.nonterms e)), (51, strsA g.nonterms), (52, intA (g.nonterms.length : Nat)), (53, intA (e : Nat)), (66, intA ((useI g l e).length : Nat)), (67, intA (i : Nat))] 8 [(0, some (.map (mapA strK intA (opM l)))), (1, some (.arr 4 [gramA g])), (2, some (.arr 4 [.agg [.val (.slice none 0 0), .val (.slice none 0 0), intA 0, .val (.slice none 0 0)]])), (3, some (.arr 6 [.agg [strsA g.terms, strsA g.nonterms, intA g.start, rulesA g.rules, levelsA l, .map 0]])), (4, some (.map (mapA intK slO (usdM g l)))), (5, some (.arr 1 ((namP g l e i).map strA))), (6, some (.arr 1 ((chL g l e).set e (.ref 7 1 0 (i + 1))))), (7, some (.arr 1 ((chnP g l e i).map intA)))])) 0 ?_ (Nat.zero_le _) ?_
  ·rw [show chnP g l e 0 = [(e : Int)] from rfl, show namP g l e 0 = namsG g l e by simp [namP]]
   exact ⟨[0, 1, 2, 3, 4, 5, 6, 7], ToR.S rfl (by repeat' (first | exact rt_nil | refine rt_r rfl rfl ?_ | refine rt_t rfl rfl ?_ | refine rt_m rfl rfl ?_ | refine rt_e rfl rfl ?_ | refine rt_p rfl rfl (by first | (simp [AV.bd, bdL, bdL_append]; done) | fail) ?_)) (by repeat' (first | exact ro_nil | refine ro_e rfl rfl ?_ | refine ro_p rfl (by first | exact rfl | fail) (by first | exact bdL_map (fun _ => by exact rfl) _ | (simp [bdL, bdL_append, AV.bd]; done) | fail) ?_ | refine ro_m rfl rfl (mapA_bd (fun _ => by first | exact rfl | simp [AV.bd, bdL]) _) ?_ | refine ro_e rfl (by simp only [renL, AV.ren, ren_strsA, ren_intsA, ren_intA', ren_rulesA, ren_levelsA, chS_ren, chL_ren]; exact rfl) ?_)) rfl (by (rw [hm]; exact rfl)) rfl zq4 (by repeat' (first | exact True.intro | exact rfl | exact mapA_all (fun _ => by first | exact rfl | simp [AV.bd, bdL]) _ | refine And.intro ?_ ?_ | exact bdL_map (fun _ => by exact rfl) _ | (simp [bdOq, bdL, bdL_append, AV.bd]; done))) (by (rw [hm]; exact nle rfl))⟩
  intro i hi
  have hnpl := namP_len g l e i
  have hcpl := chnP_len g l e i
  by_cases hil : i < (useI g l e).length
  ·have hns := namP_succ g l e i
   have hcs := chnP_succ g l e i
   have hit := itoa_fn ((i : Int) + 2) (by omega) (by omega)
   rw [show (⟨(Lib.itoa ((i : Int) + 2)).toArray⟩ : ByteArray) = tx (Lib.decDigits (i + 2)) by rw [show ((i : Int) + 2) = ((i + 2 : Nat) : Int) by omega, itoa_nat]; rfl] at hit
   have hdl := dd_len (i + 2) (by omega)
   have hds := tx_size (Lib.decDigits (i + 2))
   have hne := (nameOk_szY (hnm _ (List.mem_append_right _ (nth_mem hlt))))
   rw [show ((offN g l e + i : Nat) : Int) = ((namP g l e i).length : Nat) by omega] at hcs
   (repeat' (first | apply jA | apply jF | apply jH | apply jI | (refine wp_cond rfl (fun hc => ?_) (fun hc => ?_) <;> (try simp only [sB, ne_eq, reduceCtorEq] at hc) <;> (try (exfalso; omega))) | (refine rgC 12 ?_; (refine slss rfl rfl ?_); apply jW) | (refine rgC 13 ?_; (refine smove rfl ?_); (refine sassign rfl ?_); apply jW)))
   refine rgC 14 ?_
   refine smove rfl ?_
   refine smove rfl ?_
   refine smove rfl ?_
   refine smove rfl ?_
   refine su (aidxrn rfl rfl (by omega)) ?_
   refine sloadp (y := .ref 7 1 0 (i + 1)) rfl rfl (chL_set hlt _) rfl ?_
   refine smove rfl ?_
   refine su (alenr rfl rfl) ?_
   refine se_lit (OpP.cons rfl OpP.nil) rfl rfl rfl rfl rfl rfl ?_
   refine se_app1 (f := intA) (L := chnP g l e i) (v := ((namP g l e i).length : Nat)) rfl rfl rfl (by omega) rfl rfl rfl rfl (by omega) ?_
   refine su (aidxrn rfl rfl (by omega)) ?_
   refine se_store (es := (chL g l e).set e (.ref 7 1 0 (i + 1))) (ed := .ref 7 1 0 (i + 1)) (ed' := .ref 9 1 0 (chnP g l e i ++ [((namP g l e i).length : Int)]).length) rfl rfl (chL_set hlt _) rfl rfl ?_
   refine asemC_end ?_
   rw [List.set_set, show (chnP g l e i ++ [((namP g l e i).length : Int)]).length = i + 1 + 1 by rw [List.length_append]; simp; omega]
   (repeat' (first | apply jH | apply jN | (refine rgC 15 ?_; (refine smove rfl ?_); (refine smove rfl ?_); (refine su (acat rfl rfl (by (simp only [bsz, sZ] <;> omega))) ?_); (refine smove rfl ?_); (refine sadd rfl rfl (by exact inr_i64_of (by omega)) ?_); (refine sc_p rfl rfl zq1 zq5 (hit) ?_); (refine su (acat rfl rfl (by (simp only [bsz, sZ] <;> omega))) ?_); (refine se_lit (OpP.cons rfl (OpP.nil)) rfl rfl rfl rfl rfl rfl ?_); (refine se_app1 rfl rfl rfl rfl rfl rfl rfl rfl (by omega) ?_); (refine sassign rfl ?_); apply jW) | (refine rgC 16 ?_; (refine sadd rfl rfl (by exact inr_i64_of (by omega)) ?_); (refine smove rfl ?_); apply jW)))
   refine ⟨i + 1, ⟨by omega, by omega⟩, ?_⟩
   rw [hns, hcs]
   exact ⟨[0, 1, 2, 3, 4, 11, 6, 9], ToR.S rfl (by repeat' (first | exact rt_nil | refine rt_r rfl rfl ?_ | refine rt_t rfl rfl ?_ | refine rt_m rfl rfl ?_ | refine rt_e rfl rfl ?_ | refine rt_p rfl rfl (by first | (simp [AV.bd, bdL, bdL_append]; done) | fail) ?_)) (by repeat' (first | exact ro_nil | refine ro_e rfl rfl ?_ | refine ro_p rfl (by first | exact rfl | fail) (by first | exact bdL_map (fun _ => by exact rfl) _ | (simp [bdL, bdL_append, AV.bd]; done) | fail) ?_ | refine ro_m rfl rfl (mapA_bd (fun _ => by first | exact rfl | simp [AV.bd, bdL]) _) ?_ | refine ro_e rfl (by simp only [renL, AV.ren, ren_strsA, ren_intsA, ren_intA', ren_rulesA, ren_levelsA, chS_ren, chL_ren]; exact rfl) ?_)) rfl (by (rw [hm]; exact rfl)) rfl zq4 (by repeat' (first | exact True.intro | exact rfl | exact mapA_all (fun _ => by first | exact rfl | simp [AV.bd, bdL]) _ | refine And.intro ?_ ?_ | exact bdL_map (fun _ => by exact rfl) _ | (simp [bdOq, bdL, bdL_append, AV.bd]; done))) (by (rw [hm]; exact nle rfl))⟩
  ·have hi2 : i = (useL g l e).length := by omega
   subst hi2
   rw [take_chn, namP_all]
   refine wp_frzRow (id := 7) (f := intA) (L := chnG g l e) (len := (useL g l e).length + 1) 6 e (by omega) rfl chS_one (chL_set hlt _) rfl (chnG_len g l e) (fun _ => rfl) (fun _ => rfl) ?_
   rw [List.set_set, show (AV.sl 1 ((chnG g l e).map intA)) = intsA (chnG g l e) from rfl, chL_succ]
   (repeat' (first | apply jA | apply jH | apply jJ | apply jL | apply jN | apply jP | (refine wp_cond rfl (fun hc => ?_) (fun hc => ?_) <;> (try simp only [sB, ne_eq, reduceCtorEq] at hc) <;> (try (exfalso; omega))) | (refine rgC 12 ?_; (refine slss rfl rfl ?_); apply jW) | (refine rgC 17 ?_; (refine sadd rfl rfl (by exact inr_i64_of (by omega)) ?_); (refine smove rfl ?_); apply jW)))
   exact ⟨e + 1, ⟨by omega, by omega⟩, ⟨[0, 1, 2, 3, 4, 5, 6], ToR.S rfl (by repeat' (first | exact rt_nil | refine rt_r rfl rfl ?_ | refine rt_t rfl rfl ?_ | refine rt_m rfl rfl ?_ | refine rt_e rfl rfl ?_ | refine rt_p rfl rfl (by first | (simp [AV.bd, bdL, bdL_append]; done) | fail) ?_)) (by repeat' (first | exact ro_nil | refine ro_e rfl rfl ?_ | refine ro_p rfl (by first | exact rfl | fail) (by first | exact bdL_map (fun _ => by exact rfl) _ | (simp [bdL, bdL_append, AV.bd]; done) | fail) ?_ | refine ro_m rfl rfl (mapA_bd (fun _ => by first | exact rfl | simp [AV.bd, bdL]) _) ?_ | refine ro_e rfl (by simp only [renL, AV.ren, ren_strsA, ren_intsA, ren_intA', ren_rulesA, ren_levelsA, chS_ren, chL_ren]; exact rfl) ?_)) rfl (by (rw [hm]; exact rfl)) rfl zq4 (by repeat' (first | exact True.intro | exact rfl | exact mapA_all (fun _ => by first | exact rfl | simp [AV.bd, bdL]) _ | refine And.intro ?_ ?_ | exact bdL_map (fun _ => by exact rfl) _ | (simp [bdOq, bdL, bdL_append, AV.bd]; done))) (by (rw [hm]; exact nle rfl))⟩⟩
   exact 0
 ·obtain rfl : e = g.nonterms.length := by omega
  rw [chL_all]
  refine wp_frz (f := strA) 10 hm rfl rfl rfl (fun _ => rfl) (fun _ => rfl) ?_
  refine wp_frz (f := intsA) 11 hm rfl rfl (chnTo_len g l _) (fun _ => by simp [intsA, AV.bd, bdL]) (fun _ => rfl) ?_
  (repeat' (first | apply jA | apply jF | apply jH | apply jJ | apply jL | apply jP | (refine wp_cond rfl (fun hc => ?_) (fun hc => ?_) <;> (try simp only [sB, ne_eq, reduceCtorEq] at hc) <;> (try (exfalso; omega))) | (refine rgC 8 ?_; (refine slss rfl rfl ?_); apply jW) | (refine WP.regionC ?_; (refine sassign rfl ?_); apply jW) | (refine rgC 20 ?_; (refine sfieldp rfl rfl rfl ?_); (refine sloadp rfl rfl rfl rfl ?_); (refine slenm rfl rfl ?_); (refine smove rfl ?_); apply jW)))
  refine wp_nil 15 3 rfl ?_
  refine wp_nil 16 1 rfl ?_
  refine wp_loop (fun (r : Nat) => r <= g.rules.length) (fun r => g.rules.length - r)
   (fun r => (S 260 [(1, levelsA l), (2, .ptr 1 4 0 0), (4, .ptr 2 4 0 0), (7, .ptr 3 6 0 0), (9, .map 4), (10, strsA (namsG g l g.nonterms.length)), (11, .sl 1 ((chnTo g l g.nonterms.length).map intsA)), (15, .ref 5 3 0 (rulTo g l r).length), (16, .ref 6 1 0 (froTo r).length), (93, rulesA g.rules), (94, intA (g.rules.length : Nat)), (95, intA (r : Nat))] 7 [(0, some (.map (mapA strK intA (opM l)))), (1, some (.arr 4 [gramA g])), (2, some (.arr 4 [.agg [.val (.slice none 0 0), .val (.slice none 0 0), intA 0, .val (.slice none 0 0)]])), (3, some (.arr 6 [.agg [strsA g.terms, strsA g.nonterms, intA g.start, rulesA g.rules, levelsA l, .map 0]])), (4, some (.map (mapA intK slO (usdM g l)))), (5, some (.arr 3 ((rulTo g l r).map ruleA))), (6, some (.arr 1 ((froTo r).map intA)))])) 0 ⟨[0, 1, 2, 3, 4, 7, 8], ToR.S rfl (by repeat' (first | exact rt_nil | refine rt_r rfl rfl ?_ | refine rt_t rfl rfl ?_ | refine rt_m rfl rfl ?_ | refine rt_e rfl rfl ?_ | refine rt_p rfl rfl (by first | (simp [AV.bd, bdL, bdL_append]; done) | fail) ?_)) (by repeat' (first | exact ro_nil | refine ro_e rfl rfl ?_ | refine ro_p rfl (by first | exact rfl | fail) zq5 ?_ | refine ro_m rfl rfl (mapA_bd (fun _ => by first | exact rfl | simp [AV.bd, bdL]) _) ?_ | refine ro_e rfl (by simp only [renL, AV.ren, ren_strsA, ren_intsA, ren_intA', ren_rulesA, ren_levelsA, chS_ren, chL_ren]; exact rfl) ?_)) rfl (by (rw [hm]; exact rfl)) rfl zq4 (by repeat' (first | exact True.intro | exact rfl | exact mapA_all (fun _ => by first | exact rfl | simp [AV.bd, bdL]) _ | refine And.intro ?_ ?_ | (simp [bdOq, bdL, bdL_append, AV.bd]; done))) (by (rw [hm]; exact nle rfl))⟩ (Nat.zero_le _) ?_
  intro r hr
  have hrl := rulTo_len (g := g) l hr
  have hfl := froTo_len r
  by_cases hrt : r < g.rules.length
  ·have hx := hbin _ (nth_mem hrt)
   have hrf := hv.rule _ (nth_mem hrt)
   have hh0 := hrf.h0
   have hh1 := hrf.hn
   have hln := hrf.len
   have hC : nth (chnTo g l g.nonterms.length) (nth g.rules r).head.toNat = chnG g l (nth g.rules r).head.toNat := nth_range (by omega)
   have hCl := chnG_len g l (nth g.rules r).head.toNat
   have hul := useL_len g l (nth g.rules r).head.toNat
   have hCN := chnTo_len g l g.nonterms.length
   have hbd : ∀ i, i < (chnG g l (nth g.rules r).head.toNat).length -> 0 <= nth (chnG g l (nth g.rules r).head.toNat) i /\ nth (chnG g l (nth g.rules r).head.toNat) i <= 5000 := fun i hi => by
    have hm := nth_mem hi
    rw [mem_chn] at hm
    have o1 := offN_bd (g := g) (l := l) hfn (nth g.rules r).head.toNat
    omega
   rw [<- hC] at hCl hbd
   have b1 := hbd (((nth (chnTo g l g.nonterms.length) (nth g.rules r).head.toNat).length : Int) - 1).toNat (by omega)
   have hcb := cloneInts_own (nth g.rules r).body (by omega)
   (repeat' (first | apply jA | apply jF | apply jH | apply jI | (refine wp_cond rfl (fun hc => ?_) (fun hc => ?_) <;> (try simp only [sB, ne_eq, reduceCtorEq] at hc) <;> (try (exfalso; omega))) | (refine rgC 21 ?_; (refine slss rfl rfl ?_); apply jW) | (refine rgC 22 ?_; (refine smove rfl ?_); (refine sidxn rfl rfl (by omega) ?_); (refine sloadw rfl rfl ?_); (refine se_alloc rfl ?_); (refine sassign rfl ?_); (refine se_store_b rfl rfl rfl rfl ?_); apply jW) | (refine rgC 23 ?_; (refine smove rfl ?_); (refine sfieldp rfl rfl rfl ?_); (refine sloadp rfl rfl rfl rfl ?_); (refine su (aidxz rfl rfl (by omega)) ?_); (refine sloadw rfl rfl ?_); (refine sassign rfl ?_); apply jW) | (refine rgC 24 ?_; (refine smove rfl ?_); (refine smove rfl ?_); (refine slenm rfl rfl ?_); (refine su (asub rfl rfl (by exact inr_i64_of (by omega))) ?_); (refine su (aidxz rfl rfl (by omega)) ?_); (refine sloadw rfl rfl ?_); (refine sassign rfl ?_); apply jW)))
   refine wp_cut (fun s => ∃ is, ToR Γ.m is s (S 260 [(1, levelsA l), (2, .ptr 1 4 0 0), (4, .ptr 2 4 0 0), (7, .ptr 3 6 0 0), (9, .map 4), (10, strsA (namsG g l g.nonterms.length)), (11, .sl 1 ((chnTo g l g.nonterms.length).map intsA)), (15, .ref 5 3 0 (rulTo g l r).length), (16, .ref 6 1 0 (froTo r).length), (17, intA (r : Nat)), (18, .ptr 7 3 0 0), (19, intsA (nth (chnTo g l g.nonterms.length) (nth g.rules r).head.toNat)), (20, intA (nth (nth (chnTo g l g.nonterms.length) (nth g.rules r).head.toNat) (((nth (chnTo g l g.nonterms.length) (nth g.rules r).head.toNat).length : Int) - 1).toNat)), (21, .ptr 8 3 0 0), (93, rulesA g.rules), (94, intA (g.rules.length : Nat)), (95, intA (r : Nat))] 10 [(0, some (.map (mapA strK intA (opM l)))), (1, some (.arr 4 [gramA g])), (2, some (.arr 4 [.agg [.val (.slice none 0 0), .val (.slice none 0 0), intA 0, .val (.slice none 0 0)]])), (3, some (.arr 6 [.agg [strsA g.terms, strsA g.nonterms, intA g.start, rulesA g.rules, levelsA l, .map 0]])), (4, some (.map (mapA intK slO (usdM g l)))), (5, some (.arr 3 ((rulTo g l r).map ruleA))), (6, some (.arr 1 ((froTo r).map intA))), (7, some (.arr 3 [ruleA (nth g.rules r)])), (8, some (.arr 3 [.agg [intA (nth (nth (chnTo g l g.nonterms.length) (nth g.rules r).head.toNat) (((nth (chnTo g l g.nonterms.length) (nth g.rules r).head.toNat).length : Int) - 1).toNat), .ref 9 1 0 (nth g.rules r).body.length, intA (nth g.rules r).price]])), (9, some (.arr 1 ((nth g.rules r).body.map intA)))])) ?_ ?_
   ·(repeat' ((refine wp_tree (id := 25) 9 mixed rfl ?_ <;> (refine wpt_take 0 rfl still_move (by exact ap_move (rq_p rfl rfl)) (by kernel_rfl) (by kernel_rfl) (by kernel_rfl) (by repeat (exact pind_cut)) ?_; (refine wpt_take 1 rfl (by exact still_fieldAddr rfl rfl) (by exact ap_field_p (rq_p rfl rfl) rfl rfl) (by kernel_rfl) (by kernel_rfl) (by kernel_rfl) (by repeat (exact pind_cut)) ?_; (refine wpt_take 4 rfl (by exact still_fieldAddr rfl rfl) (by exact ap_field_p (rq_p rfl rfl) rfl rfl) (by kernel_rfl) (by kernel_rfl) (by kernel_rfl) (by repeat (exact pind_cut)) ?_; (refine wpt_all (rs := [2, 5, 7]) (by kernel_rfl) rfl ⟨?_, ?_, ?_, trivial⟩ <;> (first | (refine wpo_do (i := 2) rfl rfl ?_; (refine sloadp rfl rfl rfl rfl ?_); refine asemC_end ?_; (refine wpt_all (rs := [3, 5, 7]) (by kernel_rfl) rfl ⟨?_, ?_, ?_, trivial⟩ <;> (first | (refine wpo_do (i := 3) rfl rfl ?_; (refine sc_o [] rfl rfl (hcb) (Lend.S (by first | ((repeat' first | exact RenL.nil | refine RenL.cons (by exact ren_p (by simp [AV.bd, bdL, bdL_append])) ?_); done) | fail) (by first | ((repeat' (exact LendO.nil)); done) | fail) (by decide) rfl (by simp [AV.bd, bdL, bdL_append]) (by repeat' (exact True.intro))) ?_; simp only [updN, newO, AObj.ren, renL, AV.ren, apx, ap, if_true, if_false, Nat.reduceLT, Nat.reduceAdd, Nat.reduceSub, sO, intA, boolA, strA]); refine asemC_end ?_; (refine wpt_all (rs := [5, 7]) (by kernel_rfl) rfl ⟨?_, ?_, trivial⟩ <;> (first | (refine wpo_do (i := 5) rfl rfl ?_; (refine sloadp rfl rfl rfl rfl ?_); refine asemC_end ?_; (refine wpt_all (rs := [6, 7]) (by kernel_rfl) rfl ⟨?_, ?_, trivial⟩ <;> (first | (refine wpo_do (i := 6) rfl rfl ?_; (refine su (ap_build (RqP.cons (rq_p rfl rfl) (RqP.cons (rq_p rfl rfl) (RqP.cons (rq_p rfl rfl) (RqP.nil)))) rfl) ?_); refine asemC_end ?_; (refine wpt_all (rs := [7]) (by kernel_rfl) rfl ⟨?_, trivial⟩; (refine wpo_do (i := 7) rfl rfl ?_; (refine se_alloc rfl ?_); refine asemC_end ?_; (refine wpt_all (rs := [8]) (by kernel_rfl) rfl ⟨?_, trivial⟩; (refine wpo_do (i := 8) rfl rfl ?_; (refine se_store_b rfl rfl rfl rfl ?_); refine asemC_end ?_; (refine wpt_end (by kernel_rfl) ?_)))))) | (refine wpo_do (i := 7) rfl rfl ?_; (refine se_alloc rfl ?_); refine asemC_end ?_; (refine wpt_all (rs := [6]) (by kernel_rfl) rfl ⟨?_, trivial⟩; (refine wpo_do (i := 6) rfl rfl ?_; (refine su (ap_build (RqP.cons (rq_p rfl rfl) (RqP.cons (rq_p rfl rfl) (RqP.cons (rq_p rfl rfl) (RqP.nil)))) rfl) ?_); refine asemC_end ?_; (refine wpt_all (rs := [8]) (by kernel_rfl) rfl ⟨?_, trivial⟩; (refine wpo_do (i := 8) rfl rfl ?_; (refine se_store_b rfl rfl rfl rfl ?_); refine asemC_end ?_; (refine wpt_end (by kernel_rfl) ?_))))))))) | (refine wpo_do (i := 7) rfl rfl ?_; (refine se_alloc rfl ?_); refine asemC_end ?_; (refine wpt_takeN 5 [6, 8] rfl (by exact ap_load_p (rq_p rfl rfl) rfl rfl rfl) (by kernel_rfl) (by kernel_rfl) (by kernel_rfl) (by kernel_rfl) (by repeat (exact pind_cut)) ?_; (refine wpt_all (rs := [6]) (by kernel_rfl) rfl ⟨?_, trivial⟩; (refine wpo_do (i := 6) rfl rfl ?_; (refine su (ap_build (RqP.cons (rq_p rfl rfl) (RqP.cons (rq_p rfl rfl) (RqP.cons (rq_p rfl rfl) (RqP.nil)))) rfl) ?_); refine asemC_end ?_; (refine wpt_all (rs := [8]) (by kernel_rfl) rfl ⟨?_, trivial⟩; (refine wpo_do (i := 8) rfl rfl ?_; (refine se_store_b rfl rfl rfl rfl ?_); refine asemC_end ?_; (refine wpt_end (by kernel_rfl) ?_)))))))))) | (refine wpo_do (i := 5) rfl rfl ?_; (refine sloadp rfl rfl rfl rfl ?_); refine asemC_end ?_; (refine wpt_all (rs := [3, 7]) (by kernel_rfl) rfl ⟨?_, ?_, trivial⟩ <;> (first | (refine wpo_do (i := 3) rfl rfl ?_; (refine sc_o [] rfl rfl (hcb) (Lend.S (by first | ((repeat' first | exact RenL.nil | refine RenL.cons (by exact ren_p (by simp [AV.bd, bdL, bdL_append])) ?_); done) | fail) (by first | ((repeat' (exact LendO.nil)); done) | fail) (by decide) rfl (by simp [AV.bd, bdL, bdL_append]) (by repeat' (exact True.intro))) ?_; simp only [updN, newO, AObj.ren, renL, AV.ren, apx, ap, if_true, if_false, Nat.reduceLT, Nat.reduceAdd, Nat.reduceSub, sO, intA, boolA, strA]); refine asemC_end ?_; (refine wpt_all (rs := [6, 7]) (by kernel_rfl) rfl ⟨?_, ?_, trivial⟩ <;> (first | (refine wpo_do (i := 6) rfl rfl ?_; (refine su (ap_build (RqP.cons (rq_p rfl rfl) (RqP.cons (rq_p rfl rfl) (RqP.cons (rq_p rfl rfl) (RqP.nil)))) rfl) ?_); refine asemC_end ?_; (refine wpt_all (rs := [7]) (by kernel_rfl) rfl ⟨?_, trivial⟩; (refine wpo_do (i := 7) rfl rfl ?_; (refine se_alloc rfl ?_); refine asemC_end ?_; (refine wpt_all (rs := [8]) (by kernel_rfl) rfl ⟨?_, trivial⟩; (refine wpo_do (i := 8) rfl rfl ?_; (refine se_store_b rfl rfl rfl rfl ?_); refine asemC_end ?_; (refine wpt_end (by kernel_rfl) ?_)))))) | (refine wpo_do (i := 7) rfl rfl ?_; (refine se_alloc rfl ?_); refine asemC_end ?_; (refine wpt_all (rs := [6]) (by kernel_rfl) rfl ⟨?_, trivial⟩; (refine wpo_do (i := 6) rfl rfl ?_; (refine su (ap_build (RqP.cons (rq_p rfl rfl) (RqP.cons (rq_p rfl rfl) (RqP.cons (rq_p rfl rfl) (RqP.nil)))) rfl) ?_); refine asemC_end ?_; (refine wpt_all (rs := [8]) (by kernel_rfl) rfl ⟨?_, trivial⟩; (refine wpo_do (i := 8) rfl rfl ?_; (refine se_store_b rfl rfl rfl rfl ?_); refine asemC_end ?_; (refine wpt_end (by kernel_rfl) ?_))))))))) | (refine wpo_do (i := 7) rfl rfl ?_; (refine se_alloc rfl ?_); refine asemC_end ?_; (refine wpt_all (rs := [3]) (by kernel_rfl) rfl ⟨?_, trivial⟩; (refine wpo_do (i := 3) rfl rfl ?_; (refine sc_o [] rfl rfl (hcb) (Lend.S (by first | ((repeat' first | exact RenL.nil | refine RenL.cons (by exact ren_p (by simp [AV.bd, bdL, bdL_append])) ?_); done) | fail) (by first | ((repeat' (exact LendO.nil)); done) | fail) (by decide) rfl (by simp [AV.bd, bdL, bdL_append]) (by repeat' (exact True.intro))) ?_; simp only [updN, newO, AObj.ren, renL, AV.ren, apx, ap, if_true, if_false, Nat.reduceLT, Nat.reduceAdd, Nat.reduceSub, sO, intA, boolA, strA]); refine asemC_end ?_; (refine wpt_all (rs := [6]) (by kernel_rfl) rfl ⟨?_, trivial⟩; (refine wpo_do (i := 6) rfl rfl ?_; (refine su (ap_build (RqP.cons (rq_p rfl rfl) (RqP.cons (rq_p rfl rfl) (RqP.cons (rq_p rfl rfl) (RqP.nil)))) rfl) ?_); refine asemC_end ?_; (refine wpt_all (rs := [8]) (by kernel_rfl) rfl ⟨?_, trivial⟩; (refine wpo_do (i := 8) rfl rfl ?_; (refine se_store_b rfl rfl rfl rfl ?_); refine asemC_end ?_; (refine wpt_end (by kernel_rfl) ?_))))))))))) | (refine wpo_do (i := 7) rfl rfl ?_; (refine se_alloc rfl ?_); refine asemC_end ?_; (refine wpt_all (rs := [3, 5]) (by kernel_rfl) rfl ⟨?_, ?_, trivial⟩ <;> (first | (refine wpo_do (i := 3) rfl rfl ?_; (refine sc_o [] rfl rfl (hcb) (Lend.S (by first | ((repeat' first | exact RenL.nil | refine RenL.cons (by exact ren_p (by simp [AV.bd, bdL, bdL_append])) ?_); done) | fail) (by first | ((repeat' (exact LendO.nil)); done) | fail) (by decide) rfl (by simp [AV.bd, bdL, bdL_append]) (by repeat' (exact True.intro))) ?_; simp only [updN, newO, AObj.ren, renL, AV.ren, apx, ap, if_true, if_false, Nat.reduceLT, Nat.reduceAdd, Nat.reduceSub, sO, intA, boolA, strA]); refine asemC_end ?_; (refine wpt_takeN 5 [6, 8] rfl (by exact ap_load_p (rq_p rfl rfl) rfl rfl rfl) (by kernel_rfl) (by kernel_rfl) (by kernel_rfl) (by kernel_rfl) (by repeat (exact pind_cut)) ?_; (refine wpt_all (rs := [6]) (by kernel_rfl) rfl ⟨?_, trivial⟩; (refine wpo_do (i := 6) rfl rfl ?_; (refine su (ap_build (RqP.cons (rq_p rfl rfl) (RqP.cons (rq_p rfl rfl) (RqP.cons (rq_p rfl rfl) (RqP.nil)))) rfl) ?_); refine asemC_end ?_; (refine wpt_all (rs := [8]) (by kernel_rfl) rfl ⟨?_, trivial⟩; (refine wpo_do (i := 8) rfl rfl ?_; (refine se_store_b rfl rfl rfl rfl ?_); refine asemC_end ?_; (refine wpt_end (by kernel_rfl) ?_))))))) | (refine wpo_do (i := 5) rfl rfl ?_; (refine sloadp rfl rfl rfl rfl ?_); refine asemC_end ?_; (refine wpt_all (rs := [3]) (by kernel_rfl) rfl ⟨?_, trivial⟩; (refine wpo_do (i := 3) rfl rfl ?_; (refine sc_o [] rfl rfl (hcb) (Lend.S (by first | ((repeat' first | exact RenL.nil | refine RenL.cons (by exact ren_p (by simp [AV.bd, bdL, bdL_append])) ?_); done) | fail) (by first | ((repeat' (exact LendO.nil)); done) | fail) (by decide) rfl (by simp [AV.bd, bdL, bdL_append]) (by repeat' (exact True.intro))) ?_; simp only [updN, newO, AObj.ren, renL, AV.ren, apx, ap, if_true, if_false, Nat.reduceLT, Nat.reduceAdd, Nat.reduceSub, sO, intA, boolA, strA]); refine asemC_end ?_; (refine wpt_all (rs := [6]) (by kernel_rfl) rfl ⟨?_, trivial⟩; (refine wpo_do (i := 6) rfl rfl ?_; (refine su (ap_build (RqP.cons (rq_p rfl rfl) (RqP.cons (rq_p rfl rfl) (RqP.cons (rq_p rfl rfl) (RqP.nil)))) rfl) ?_); refine asemC_end ?_; (refine wpt_all (rs := [8]) (by kernel_rfl) rfl ⟨?_, trivial⟩; (refine wpo_do (i := 8) rfl rfl ?_; (refine se_store_b rfl rfl rfl rfl ?_); refine asemC_end ?_; (refine wpt_end (by kernel_rfl) ?_)))))))))))))) | (refine wpo_do (i := 5) rfl rfl ?_; (refine sloadp rfl rfl rfl rfl ?_); refine asemC_end ?_; (refine wpt_all (rs := [2, 7]) (by kernel_rfl) rfl ⟨?_, ?_, trivial⟩ <;> (first | (refine wpo_do (i := 2) rfl rfl ?_; (refine sloadp rfl rfl rfl rfl ?_); refine asemC_end ?_; (refine wpt_all (rs := [3, 7]) (by kernel_rfl) rfl ⟨?_, ?_, trivial⟩ <;> (first | (refine wpo_do (i := 3) rfl rfl ?_; (refine sc_o [] rfl rfl (hcb) (Lend.S (by first | ((repeat' first | exact RenL.nil | refine RenL.cons (by exact ren_p (by simp [AV.bd, bdL, bdL_append])) ?_); done) | fail) (by first | ((repeat' (exact LendO.nil)); done) | fail) (by decide) rfl (by simp [AV.bd, bdL, bdL_append]) (by repeat' (exact True.intro))) ?_; simp only [updN, newO, AObj.ren, renL, AV.ren, apx, ap, if_true, if_false, Nat.reduceLT, Nat.reduceAdd, Nat.reduceSub, sO, intA, boolA, strA]); refine asemC_end ?_; (refine wpt_all (rs := [6, 7]) (by kernel_rfl) rfl ⟨?_, ?_, trivial⟩ <;> (first | (refine wpo_do (i := 6) rfl rfl ?_; (refine su (ap_build (RqP.cons (rq_p rfl rfl) (RqP.cons (rq_p rfl rfl) (RqP.cons (rq_p rfl rfl) (RqP.nil)))) rfl) ?_); refine asemC_end ?_; (refine wpt_all (rs := [7]) (by kernel_rfl) rfl ⟨?_, trivial⟩; (refine wpo_do (i := 7) rfl rfl ?_; (refine se_alloc rfl ?_); refine asemC_end ?_; (refine wpt_all (rs := [8]) (by kernel_rfl) rfl ⟨?_, trivial⟩; (refine wpo_do (i := 8) rfl rfl ?_; (refine se_store_b rfl rfl rfl rfl ?_); refine asemC_end ?_; (refine wpt_end (by kernel_rfl) ?_)))))) | (refine wpo_do (i := 7) rfl rfl ?_; (refine se_alloc rfl ?_); refine asemC_end ?_; (refine wpt_all (rs := [6]) (by kernel_rfl) rfl ⟨?_, trivial⟩; (refine wpo_do (i := 6) rfl rfl ?_; (refine su (ap_build (RqP.cons (rq_p rfl rfl) (RqP.cons (rq_p rfl rfl) (RqP.cons (rq_p rfl rfl) (RqP.nil)))) rfl) ?_); refine asemC_end ?_; (refine wpt_all (rs := [8]) (by kernel_rfl) rfl ⟨?_, trivial⟩; (refine wpo_do (i := 8) rfl rfl ?_; (refine se_store_b rfl rfl rfl rfl ?_); refine asemC_end ?_; (refine wpt_end (by kernel_rfl) ?_))))))))) | (refine wpo_do (i := 7) rfl rfl ?_; (refine se_alloc rfl ?_); refine asemC_end ?_; (refine wpt_all (rs := [3]) (by kernel_rfl) rfl ⟨?_, trivial⟩; (refine wpo_do (i := 3) rfl rfl ?_; (refine sc_o [] rfl rfl (hcb) (Lend.S (by first | ((repeat' first | exact RenL.nil | refine RenL.cons (by exact ren_p (by simp [AV.bd, bdL, bdL_append])) ?_); done) | fail) (by first | ((repeat' (exact LendO.nil)); done) | fail) (by decide) rfl (by simp [AV.bd, bdL, bdL_append]) (by repeat' (exact True.intro))) ?_; simp only [updN, newO, AObj.ren, renL, AV.ren, apx, ap, if_true, if_false, Nat.reduceLT, Nat.reduceAdd, Nat.reduceSub, sO, intA, boolA, strA]); refine asemC_end ?_; (refine wpt_all (rs := [6]) (by kernel_rfl) rfl ⟨?_, trivial⟩; (refine wpo_do (i := 6) rfl rfl ?_; (refine su (ap_build (RqP.cons (rq_p rfl rfl) (RqP.cons (rq_p rfl rfl) (RqP.cons (rq_p rfl rfl) (RqP.nil)))) rfl) ?_); refine asemC_end ?_; (refine wpt_all (rs := [8]) (by kernel_rfl) rfl ⟨?_, trivial⟩; (refine wpo_do (i := 8) rfl rfl ?_; (refine se_store_b rfl rfl rfl rfl ?_); refine asemC_end ?_; (refine wpt_end (by kernel_rfl) ?_))))))))))) | (refine wpo_do (i := 7) rfl rfl ?_; (refine se_alloc rfl ?_); refine asemC_end ?_; (refine wpt_takeN 2 [3, 6, 8] rfl (by exact ap_load_p (rq_p rfl rfl) rfl rfl rfl) (by kernel_rfl) (by kernel_rfl) (by kernel_rfl) (by kernel_rfl) (by repeat (exact pind_cut)) ?_; (refine wpt_all (rs := [3]) (by kernel_rfl) rfl ⟨?_, trivial⟩; (refine wpo_do (i := 3) rfl rfl ?_; (refine sc_o [] rfl rfl (hcb) (Lend.S (by first | ((repeat' first | exact RenL.nil | refine RenL.cons (by exact ren_p (by simp [AV.bd, bdL, bdL_append])) ?_); done) | fail) (by first | ((repeat' (exact LendO.nil)); done) | fail) (by decide) rfl (by simp [AV.bd, bdL, bdL_append]) (by repeat' (exact True.intro))) ?_; simp only [updN, newO, AObj.ren, renL, AV.ren, apx, ap, if_true, if_false, Nat.reduceLT, Nat.reduceAdd, Nat.reduceSub, sO, intA, boolA, strA]); refine asemC_end ?_; (refine wpt_all (rs := [6]) (by kernel_rfl) rfl ⟨?_, trivial⟩; (refine wpo_do (i := 6) rfl rfl ?_; (refine su (ap_build (RqP.cons (rq_p rfl rfl) (RqP.cons (rq_p rfl rfl) (RqP.cons (rq_p rfl rfl) (RqP.nil)))) rfl) ?_); refine asemC_end ?_; (refine wpt_all (rs := [8]) (by kernel_rfl) rfl ⟨?_, trivial⟩; (refine wpo_do (i := 8) rfl rfl ?_; (refine se_store_b rfl rfl rfl rfl ?_); refine asemC_end ?_; (refine wpt_end (by kernel_rfl) ?_)))))))))))) | (refine wpo_do (i := 7) rfl rfl ?_; (refine se_alloc rfl ?_); refine asemC_end ?_; (refine wpt_takeN 2 [3, 6, 8] rfl (by exact ap_load_p (rq_p rfl rfl) rfl rfl rfl) (by kernel_rfl) (by kernel_rfl) (by kernel_rfl) (by kernel_rfl) (by repeat (exact pind_cut)) ?_; (refine wpt_all (rs := [3, 5]) (by kernel_rfl) rfl ⟨?_, ?_, trivial⟩ <;> (first | (refine wpo_do (i := 3) rfl rfl ?_; (refine sc_o [] rfl rfl (hcb) (Lend.S (by first | ((repeat' first | exact RenL.nil | refine RenL.cons (by exact ren_p (by simp [AV.bd, bdL, bdL_append])) ?_); done) | fail) (by first | ((repeat' (exact LendO.nil)); done) | fail) (by decide) rfl (by simp [AV.bd, bdL, bdL_append]) (by repeat' (exact True.intro))) ?_; simp only [updN, newO, AObj.ren, renL, AV.ren, apx, ap, if_true, if_false, Nat.reduceLT, Nat.reduceAdd, Nat.reduceSub, sO, intA, boolA, strA]); refine asemC_end ?_; (refine wpt_takeN 5 [6, 8] rfl (by exact ap_load_p (rq_p rfl rfl) rfl rfl rfl) (by kernel_rfl) (by kernel_rfl) (by kernel_rfl) (by kernel_rfl) (by repeat (exact pind_cut)) ?_; (refine wpt_all (rs := [6]) (by kernel_rfl) rfl ⟨?_, trivial⟩; (refine wpo_do (i := 6) rfl rfl ?_; (refine su (ap_build (RqP.cons (rq_p rfl rfl) (RqP.cons (rq_p rfl rfl) (RqP.cons (rq_p rfl rfl) (RqP.nil)))) rfl) ?_); refine asemC_end ?_; (refine wpt_all (rs := [8]) (by kernel_rfl) rfl ⟨?_, trivial⟩; (refine wpo_do (i := 8) rfl rfl ?_; (refine se_store_b rfl rfl rfl rfl ?_); refine asemC_end ?_; (refine wpt_end (by kernel_rfl) ?_))))))) | (refine wpo_do (i := 5) rfl rfl ?_; (refine sloadp rfl rfl rfl rfl ?_); refine asemC_end ?_; (refine wpt_all (rs := [3]) (by kernel_rfl) rfl ⟨?_, trivial⟩; (refine wpo_do (i := 3) rfl rfl ?_; (refine sc_o [] rfl rfl (hcb) (Lend.S (by first | ((repeat' first | exact RenL.nil | refine RenL.cons (by exact ren_p (by simp [AV.bd, bdL, bdL_append])) ?_); done) | fail) (by first | ((repeat' (exact LendO.nil)); done) | fail) (by decide) rfl (by simp [AV.bd, bdL, bdL_append]) (by repeat' (exact True.intro))) ?_; simp only [updN, newO, AObj.ren, renL, AV.ren, apx, ap, if_true, if_false, Nat.reduceLT, Nat.reduceAdd, Nat.reduceSub, sO, intA, boolA, strA]); refine asemC_end ?_; (refine wpt_all (rs := [6]) (by kernel_rfl) rfl ⟨?_, trivial⟩; (refine wpo_do (i := 6) rfl rfl ?_; (refine su (ap_build (RqP.cons (rq_p rfl rfl) (RqP.cons (rq_p rfl rfl) (RqP.cons (rq_p rfl rfl) (RqP.nil)))) rfl) ?_); refine asemC_end ?_; (refine wpt_all (rs := [8]) (by kernel_rfl) rfl ⟨?_, trivial⟩; (refine wpo_do (i := 8) rfl rfl ?_; (refine se_store_b rfl rfl rfl rfl ?_); refine asemC_end ?_; (refine wpt_end (by kernel_rfl) ?_))))))))))))))))))))
    all_goals refine ⟨rfl, ?_⟩
    all_goals (first | (refine tor_pick 8 3 rfl ?_; exact ⟨[0, 1, 2, 3, 4, 5, 6, 7, 8, 9], ToR.S rfl (by repeat' (first | exact rt_nil | refine rt_r rfl rfl ?_ | refine rt_t rfl rfl ?_ | refine rt_m rfl rfl ?_ | refine rt_e rfl rfl ?_ | refine rt_p rfl rfl (by first | (simp [AV.bd, bdL, bdL_append]; done) | fail) ?_)) (by repeat' (first | exact ro_nil | refine ro_e rfl rfl ?_ | refine ro_p rfl (by first | exact rfl | fail) (by first | exact bdL_map (fun _ => by first | exact rfl | simp [AV.bd, bdL, bdL_append]) _ | (simp [bdL, bdL_append, AV.bd]; done) | fail) ?_ | refine ro_m rfl rfl (mapA_bd (fun _ => by first | exact rfl | simp [AV.bd, bdL]) _) ?_ | refine ro_e rfl (by simp only [renL, AV.ren, ren_strsA, ren_intsA, ren_intA', ren_rulesA, ren_levelsA, chS_ren, chL_ren]; exact rfl) ?_)) rfl (by (rw [hm]; exact rfl)) rfl zq4 (by repeat' (first | exact True.intro | exact rfl | exact mapA_all (fun _ => by first | exact rfl | simp [AV.bd, bdL]) _ | refine And.intro ?_ ?_ | exact bdL_map (fun _ => by first | exact rfl | simp [AV.bd, bdL, bdL_append]) _ | (simp [bdOq, bdL, bdL_append, AV.bd]; done))) (by (rw [hm]; exact nle rfl))⟩) | exact ⟨[0, 1, 2, 3, 4, 5, 6, 7, 9, 8], ToR.S rfl (by repeat' (first | exact rt_nil | refine rt_r rfl rfl ?_ | refine rt_t rfl rfl ?_ | refine rt_m rfl rfl ?_ | refine rt_e rfl rfl ?_ | refine rt_p rfl rfl (by first | (simp [AV.bd, bdL, bdL_append]; done) | fail) ?_)) (by repeat' (first | exact ro_nil | refine ro_e rfl rfl ?_ | refine ro_p rfl (by first | exact rfl | fail) (by first | exact bdL_map (fun _ => by first | exact rfl | simp [AV.bd, bdL, bdL_append]) _ | (simp [bdL, bdL_append, AV.bd]; done) | fail) ?_ | refine ro_m rfl rfl (mapA_bd (fun _ => by first | exact rfl | simp [AV.bd, bdL]) _) ?_ | refine ro_e rfl (by simp only [renL, AV.ren, ren_strsA, ren_intsA, ren_intA', ren_rulesA, ren_levelsA, chS_ren, chL_ren]; exact rfl) ?_)) rfl (by (rw [hm]; exact rfl)) rfl zq4 (by repeat' (first | exact True.intro | exact rfl | exact mapA_all (fun _ => by first | exact rfl | simp [AV.bd, bdL]) _ | refine And.intro ?_ ?_ | exact bdL_map (fun _ => by first | exact rfl | simp [AV.bd, bdL, bdL_append]) _ | (simp [bdOq, bdL, bdL_append, AV.bd]; done))) (by (rw [hm]; exact nle rfl))⟩)
   rintro s ⟨is, hst⟩
   refine go_n ?_
   refine wp_st _ ⟨is, hst⟩ ?_
   clear hst
   have hrl2 := ruleS_blen g l (nth g.rules r)
   (repeat' (first | apply jA | apply jH | (refine rgC 26 ?_; (refine sloadpw rfl rfl rfl rfl ?_); (refine sloadpw rfl rfl rfl rfl ?_); (refine sc_o [0] rfl rfl (hx) (Lend.S (by first | ((repeat' first | exact RenL.nil | refine RenL.cons (by exact ren_agg (by first | ((repeat' first | exact RenL.nil | refine RenL.cons (by first | exact rfl | exact ren_p (by first | (simp [AV.bd, bdL, bdL_append]; done) | fail)) ?_); done) | fail)) ?_); done) | fail) (by first | ((repeat' first | exact LendO.nil | refine LendO.map rfl (by first | (simp [mapA, AV.ren, intA]; done) | fail) ?_); done) | fail) (by decide) rfl (by simp [AV.bd, bdL, bdL_append]) (by repeat' (first | exact True.intro | refine And.intro ?_ ?_ | (simp [mapA, AV.bd, intA]; done)))) ?_; simp only [updN, newO, AObj.ren, renL, AV.ren, apx, ap, if_true, if_false, Nat.reduceLT, Nat.reduceAdd, Nat.reduceSub, sO, intA, boolA, strA, ren_opm]); (refine smove rfl ?_); (refine su (aextract rfl rfl) ?_); (refine su (aextract rfl rfl) ?_); (refine sassign rfl ?_); (refine sassign rfl ?_); apply jW)))
   refine rgC 27 ?_
   (refine smove rfl ?_)
   refine asemC_end ?_
   refine go_n ?_
   refine wp_cut (fun s => ∃ is, ToR Γ.m is s (S 260 [(1, levelsA l), (2, .ptr 1 4 0 0), (4, .ptr 2 4 0 0), (7, .ptr 3 6 0 0), (9, .map 4), (10, strsA (namsG g l g.nonterms.length)), (11, .sl 1 ((chnTo g l g.nonterms.length).map intsA)), (15, .ref 5 3 0 (rulTo g l r).length), (16, .ref 6 1 0 (froTo r).length), (17, intA (r : Nat)), (21, .ptr 7 3 0 0), (93, rulesA g.rules), (94, intA (g.rules.length : Nat)), (95, intA (r : Nat))] 9 [(0, some (.map (mapA strK intA (opM l)))), (1, some (.arr 4 [gramA g])), (2, some (.arr 4 [.agg [.val (.slice none 0 0), .val (.slice none 0 0), intA 0, .val (.slice none 0 0)]])), (3, some (.arr 6 [.agg [strsA g.terms, strsA g.nonterms, intA g.start, rulesA g.rules, levelsA l, .map 0]])), (4, some (.map (mapA intK slO (usdM g l)))), (5, some (.arr 3 ((rulTo g l r).map ruleA))), (6, some (.arr 1 ((froTo r).map intA))), (7, some (.arr 3 [.agg [intA (ruleS g l (nth g.rules r)).head, .ref 8 1 0 (nth g.rules r).body.length, intA (ruleS g l (nth g.rules r)).price]])), (8, some (.arr 1 ((ruleS g l (nth g.rules r)).body.map intA)))])) ?_ ?_
   ·cases hb : biB g l (nth g.rules r) with
    | true =>
     have hb0 : 0 <= binL g l (nth g.rules r) := by simpa [biB] using hb
     have hvb : biV g l (nth g.rules r) = binL g l (nth g.rules r) := by unfold biV; rw [hb]; rfl
     have hbl := binL_lt g l (nth g.rules r)
     have hmem := bin_used g l (nth_mem hrt) hh0 hb0
     have hix := idx_pos hmem
     rw [Int.toNat_of_nonneg hb0] at hix
     have hidx := indexI_fn (useI g l (nth g.rules r).head.toNat) (binL g l (nth g.rules r))
     unfold idxI at hidx
     rw [show (fun x => decide (binL g l (nth g.rules r) = x)) = fun x => decide (x = binL g l (nth g.rules r)) by funext x; simp [eq_comm], hix.1] at hidx
     have hP := hix.2
     have hb3 := bin_len3 hb0
     have hsu := sub_use hv (l := l) (nth g.rules r).head.toNat
     rw [Int.toNat_of_nonneg hh0] at hsu
     have b3 := hbd (posU g l (nth g.rules r).head.toNat (binL g l (nth g.rules r)) + 1) (by omega)
     have b5 := hbd (posU g l (nth g.rules r).head.toNat (binL g l (nth g.rules r)) + (nat_lit 1)) (by show posU g l (nth g.rules r).head.toNat (binL g l (nth g.rules r)) + 1 < _; omega)
     have b4 := hbd (posU g l (nth g.rules r).head.toNat (binL g l (nth g.rules r))) (by omega)
     generalize hp : posU g l (nth g.rules r).head.toNat (binL g l (nth g.rules r)) = p at *
     rw [hvb]
     (repeat' (first | apply jA | (refine wp_cond rfl (fun hc => ?_) (fun hc => ?_) <;> (try simp only [sB, ne_eq, reduceCtorEq] at hc) <;> (try (exfalso; omega)))))
     all_goals try (exfalso; simp at hc; done)
     refine rgC 28 ?_
     refine smove rfl ?_
     refine sfieldp rfl rfl rfl ?_
     refine su (x := intA (nth g.rules r).head) (aloadp rfl rfl rfl rfl) ?_
     refine su_sub (intsA (useI g l (nth g.rules r).head.toNat)) (ap_look (kf := intK) (f := slO) (m := usdM g l) (z0 := none) (rq_p rfl rfl) rfl (rq_p rfl rfl) rfl) hsu ?_
     refine smove rfl ?_
     refine sc_p rfl rfl SubL.rfl (by simp [bdL, AV.bd]) hidx ?_
     refine sassign rfl ?_
     refine asemC_end ?_
     (repeat' (first | apply jA | apply jF | apply jH | (refine rgC 29 ?_; (refine smove rfl ?_); (refine smove rfl ?_); (refine sidxn rfl rfl (by omega) ?_); (refine sloadw rfl rfl ?_); (refine sfieldp rfl rfl rfl ?_); (refine se_store_b rfl rfl rfl rfl ?_); apply jW) | (refine wp_draw (id := 30) 20 mixed (by kernel_rfl) (by kernel_rfl) rfl ?_ <;> (refine rfieldp rfl rfl rfl ?_) <;> (refine rloadp rfl rfl rfl rfl ?_) <;> (refine rfieldp rfl rfl rfl ?_) <;> (refine rloadp rfl rfl rfl rfl ?_) <;> (refine rmove rfl ?_) <;> (refine rmove rfl ?_) <;> (refine rd_u rfl rfl (aadd rfl rfl (by exact inr_i64_of (by omega))) ?_) <;> (refine rd_u rfl rfl (aidxn rfl rfl (by (simp only [sL] <;> omega))) ?_) <;> (refine rd_u rfl rfl (aloadw rfl rfl) ?_) <;> (refine rd_u rfl rfl (asub rfl rfl (by exact inr_i64_of (by omega))) ?_) <;> (refine rmove rfl ?_) <;> (refine rmove rfl ?_) <;> (refine rd_u rfl rfl (aadd rfl rfl (by exact inr_i64_of (by omega))) ?_) <;> (refine rd_u rfl rfl (aidxn rfl rfl (by (simp only [sL] <;> omega))) ?_) <;> (refine rd_u rfl rfl (aloadw rfl rfl) ?_) <;> (refine rd_u rfl rfl (asub rfl rfl (by exact inr_i64_of (by omega))) ?_) <;> (refine rd_u rfl rfl (aidxrn rfl rfl (by (simp only [sL] <;> omega))) ?_) <;> (refine rd_store_t rfl rfl (by (simp only [sL] <;> omega)) rfl rfl ?_) <;> (refine rd_u rfl rfl (aidxrn rfl rfl (by (simp only [sL] <;> omega))) ?_) <;> (refine rd_store_t rfl rfl (by (simp only [sL] <;> omega)) rfl rfl ?_) <;> (refine rd_end (by kernel_rfl) ?_)) | (refine rgC 31 ?_; (refine smove rfl ?_); (refine smove rfl ?_); (refine su (aidxz rfl rfl (by omega)) ?_); (refine su (afieldi rfl rfl rfl) ?_); (refine su (aloadi rfl rfl) ?_); apply jW)))
     by_cases a1 : (nth l (binL g l (nth g.rules r)).toNat).assoc = 1
     ·have hRS : ruleS g l (nth g.rules r) = ⟨nth (nth (chnTo g l g.nonterms.length) (nth g.rules r).head.toNat) p, (((nth g.rules r).body.set 0 (-1 - nth (nth (chnTo g l g.nonterms.length) (nth g.rules r).head.toNat) (p + 1))).set 2 (-1 - nth (nth (chnTo g l g.nonterms.length) (nth g.rules r).head.toNat) (p + 1))).set 0 (-1 - nth (nth (chnTo g l g.nonterms.length) (nth g.rules r).head.toNat) p), (nth g.rules r).price⟩ := by
       unfold ruleS
       rw [if_pos hb0, hp, hC, set3a hb3, if_pos a1, if_neg (by omega)]
       rfl
      (repeat' (first | apply jH | apply jN | (refine wp_cond rfl (fun hc => ?_) (fun hc => ?_) <;> (try simp only [sB, ne_eq, reduceCtorEq] at hc) <;> (try (exfalso; omega))) | (refine rgC 32 ?_; (refine seql rfl rfl ?_); (refine sassign rfl ?_); apply jW) | (refine wp_draw (id := 33) 9 mixed (by kernel_rfl) (by kernel_rfl) rfl ?_ <;> (refine rfieldp rfl rfl rfl ?_) <;> (refine rloadp rfl rfl rfl rfl ?_) <;> (refine rmove rfl ?_) <;> (refine rmove rfl ?_) <;> (refine rd_u rfl rfl (aidxn rfl rfl (by omega)) ?_) <;> (refine rd_u rfl rfl (aloadw rfl rfl) ?_) <;> (refine rd_u rfl rfl (asub rfl rfl (by exact inr_i64_of (by omega))) ?_) <;> (refine rd_u rfl rfl (aidxrn rfl rfl (by (simp only [sL] <;> omega))) ?_) <;> (refine rd_store_t rfl rfl (by (simp only [sL] <;> omega)) rfl rfl ?_) <;> (refine rd_end (by kernel_rfl) ?_))))
      all_goals try (exfalso; omega)
      refine ⟨rfl, ?_⟩
      rw [hRS]
      exact ⟨[0, 1, 2, 3, 4, 5, 6, 8, 9], ToR.S rfl (by repeat' (first | exact rt_nil | refine rt_r rfl rfl ?_ | refine rt_t rfl rfl ?_ | refine rt_m rfl rfl ?_ | refine rt_e rfl rfl ?_ | refine rt_p rfl rfl (by first | (simp [AV.bd, bdL, bdL_append]; done) | fail) ?_)) (by repeat' (first | exact ro_nil | refine ro_e rfl rfl ?_ | refine ro_p rfl (by first | exact rfl | fail) (by first | exact bdL_map (fun _ => by first | exact rfl | simp [AV.bd, bdL, bdL_append]) _ | (simp [bdL, bdL_append, AV.bd]; done) | fail) ?_ | refine ro_m rfl rfl (mapA_bd (fun _ => by first | exact rfl | simp [AV.bd, bdL]) _) ?_ | refine ro_e rfl (by simp only [renL, AV.ren, ren_strsA, ren_intsA, ren_intA', ren_rulesA, ren_levelsA, chS_ren, chL_ren]; exact rfl) ?_)) rfl (by (rw [hm]; exact rfl)) rfl zq4 (by repeat' (first | exact True.intro | exact rfl | exact mapA_all (fun _ => by first | exact rfl | simp [AV.bd, bdL]) _ | refine And.intro ?_ ?_ | exact bdL_map (fun _ => by first | exact rfl | simp [AV.bd, bdL, bdL_append]) _ | (simp [bdOq, bdL, bdL_append, AV.bd]; done))) (by (rw [hm]; exact nle rfl))⟩
     ·by_cases a2 : (nth l (binL g l (nth g.rules r)).toNat).assoc = 2
      ·have hRS : ruleS g l (nth g.rules r) = ⟨nth (nth (chnTo g l g.nonterms.length) (nth g.rules r).head.toNat) p, (((nth g.rules r).body.set 0 (-1 - nth (nth (chnTo g l g.nonterms.length) (nth g.rules r).head.toNat) (p + 1))).set 2 (-1 - nth (nth (chnTo g l g.nonterms.length) (nth g.rules r).head.toNat) (p + 1))).set 2 (-1 - nth (nth (chnTo g l g.nonterms.length) (nth g.rules r).head.toNat) p), (nth g.rules r).price⟩ := by
        unfold ruleS
        rw [if_pos hb0, hp, hC, set3b hb3, if_neg a1, if_pos a2]
        rfl
       (repeat' (first | apply jA | apply jH | apply jN | (refine wp_cond rfl (fun hc => ?_) (fun hc => ?_) <;> (try simp only [sB, ne_eq, reduceCtorEq] at hc) <;> (try (exfalso; omega))) | (refine WP.regionC ?_; (refine seql rfl rfl ?_); (refine sassign rfl ?_); apply jW) | (refine wp_draw (id := 35) 9 mixed (by kernel_rfl) (by kernel_rfl) rfl ?_ <;> (refine rfieldp rfl rfl rfl ?_) <;> (refine rloadp rfl rfl rfl rfl ?_) <;> (refine rmove rfl ?_) <;> (refine rmove rfl ?_) <;> (refine rd_u rfl rfl (aidxn rfl rfl (by omega)) ?_) <;> (refine rd_u rfl rfl (aloadw rfl rfl) ?_) <;> (refine rd_u rfl rfl (asub rfl rfl (by exact inr_i64_of (by omega))) ?_) <;> (refine rd_u rfl rfl (aidxrn rfl rfl (by (simp only [sL] <;> omega))) ?_) <;> (refine rd_store_t rfl rfl (by (simp only [sL] <;> omega)) rfl rfl ?_) <;> (refine rd_end (by kernel_rfl) ?_))))
       all_goals try (exfalso; omega)
       refine ⟨rfl, ?_⟩
       rw [hRS]
       exact ⟨[0, 1, 2, 3, 4, 5, 6, 8, 9], ToR.S rfl (by repeat' (first | exact rt_nil | refine rt_r rfl rfl ?_ | refine rt_t rfl rfl ?_ | refine rt_m rfl rfl ?_ | refine rt_e rfl rfl ?_ | refine rt_p rfl rfl (by first | (simp [AV.bd, bdL, bdL_append]; done) | fail) ?_)) (by repeat' (first | exact ro_nil | refine ro_e rfl rfl ?_ | refine ro_p rfl (by first | exact rfl | fail) (by first | exact bdL_map (fun _ => by first | exact rfl | simp [AV.bd, bdL, bdL_append]) _ | (simp [bdL, bdL_append, AV.bd]; done) | fail) ?_ | refine ro_m rfl rfl (mapA_bd (fun _ => by first | exact rfl | simp [AV.bd, bdL]) _) ?_ | refine ro_e rfl (by simp only [renL, AV.ren, ren_strsA, ren_intsA, ren_intA', ren_rulesA, ren_levelsA, chS_ren, chL_ren]; exact rfl) ?_)) rfl (by (rw [hm]; exact rfl)) rfl zq4 (by repeat' (first | exact True.intro | exact rfl | exact mapA_all (fun _ => by first | exact rfl | simp [AV.bd, bdL]) _ | refine And.intro ?_ ?_ | exact bdL_map (fun _ => by first | exact rfl | simp [AV.bd, bdL, bdL_append]) _ | (simp [bdOq, bdL, bdL_append, AV.bd]; done))) (by (rw [hm]; exact nle rfl))⟩
      ·have hRS : ruleS g l (nth g.rules r) = ⟨nth (nth (chnTo g l g.nonterms.length) (nth g.rules r).head.toNat) p, ((nth g.rules r).body.set 0 (-1 - nth (nth (chnTo g l g.nonterms.length) (nth g.rules r).head.toNat) (p + 1))).set 2 (-1 - nth (nth (chnTo g l g.nonterms.length) (nth g.rules r).head.toNat) (p + 1)), (nth g.rules r).price⟩ := by
        unfold ruleS
        rw [if_pos hb0, hp, hC, set3 hb3, if_neg a1, if_neg a2]
        done
       (repeat' (first | apply jA | apply jH | apply jI | apply jN | (refine wp_cond rfl (fun hc => ?_) (fun hc => ?_) <;> (try simp only [sB, ne_eq, reduceCtorEq] at hc) <;> (try (exfalso; omega))) | (refine WP.regionC ?_; (refine seql rfl rfl ?_); (refine sassign rfl ?_); apply jW)))
       all_goals try (exfalso; omega)
       refine ⟨rfl, ?_⟩
       rw [hRS]
       exact ⟨[0, 1, 2, 3, 4, 5, 6, 8, 9], ToR.S rfl (by repeat' (first | exact rt_nil | refine rt_r rfl rfl ?_ | refine rt_t rfl rfl ?_ | refine rt_m rfl rfl ?_ | refine rt_e rfl rfl ?_ | refine rt_p rfl rfl (by first | (simp [AV.bd, bdL, bdL_append]; done) | fail) ?_)) (by repeat' (first | exact ro_nil | refine ro_e rfl rfl ?_ | refine ro_p rfl (by first | exact rfl | fail) (by first | exact bdL_map (fun _ => by first | exact rfl | simp [AV.bd, bdL, bdL_append]) _ | (simp [bdL, bdL_append, AV.bd]; done) | fail) ?_ | refine ro_m rfl rfl (mapA_bd (fun _ => by first | exact rfl | simp [AV.bd, bdL]) _) ?_ | refine ro_e rfl (by simp only [renL, AV.ren, ren_strsA, ren_intsA, ren_intA', ren_rulesA, ren_levelsA, chS_ren, chL_ren]; exact rfl) ?_)) rfl (by (rw [hm]; exact rfl)) rfl zq4 (by repeat' (first | exact True.intro | exact rfl | exact mapA_all (fun _ => by first | exact rfl | simp [AV.bd, bdL]) _ | refine And.intro ?_ ?_ | exact bdL_map (fun _ => by first | exact rfl | simp [AV.bd, bdL, bdL_append]) _ | (simp [bdOq, bdL, bdL_append, AV.bd]; done))) (by (rw [hm]; exact nle rfl))⟩
    | false =>
     have hnb : ¬ 0 <= binL g l (nth g.rules r) := by simpa [biB] using hb
     have hq : nth (nth (chnTo g l g.nonterms.length) (nth g.rules r).head.toNat) (((nth (chnTo g l g.nonterms.length) (nth g.rules r).head.toNat).length : Int) - 1).toNat = lastC g l (nth g.rules r).head.toNat := by
      rw [show (((nth (chnTo g l g.nonterms.length) (nth g.rules r).head.toNat).length : Int) - 1).toNat = (useL g l (nth g.rules r).head.toNat).length by omega, hC]
      rfl
     have hRS : ruleS g l (nth g.rules r) = ⟨nth (nth (chnTo g l g.nonterms.length) (nth g.rules r).head.toNat) (((nth (chnTo g l g.nonterms.length) (nth g.rules r).head.toNat).length : Int) - 1).toNat, if (nth g.rules r).body.length = 0 then (nth g.rules r).body else bodQ (-1 - nth (nth (chnTo g l g.nonterms.length) (nth g.rules r).head.toNat) (((nth (chnTo g l g.nonterms.length) (nth g.rules r).head.toNat).length : Int) - 1).toNat) (-1 - (nth g.rules r).head) (nth g.rules r).body, (nth g.rules r).price⟩ := by
      unfold ruleS
      rw [if_neg hnb]
      by_cases h0 : (nth g.rules r).body.length = 0
      ·rw [if_pos h0, List.eq_nil_of_length_eq_zero h0, hq]; rfl
      ·rw [if_neg h0, bodQ_is (by omega), bodM_is _ _ _ (by omega), hq]
     (repeat' (first | apply jA | (refine wp_cond rfl (fun hc => ?_) (fun hc => ?_) <;> (try simp only [sB, ne_eq, reduceCtorEq] at hc) <;> (try (exfalso; omega)))))
     all_goals try (exfalso; simp at hc; done)
     by_cases hK : (nth g.rules r).body.length = 0
     ·rw [if_pos hK] at hRS
      (repeat' (first | apply jH | apply jI | (refine wp_cond rfl (fun hc => ?_) (fun hc => ?_) <;> (try simp only [sB, ne_eq, reduceCtorEq] at hc) <;> (try (exfalso; omega))) | (refine rgC 36 ?_; (refine sfieldp rfl rfl rfl ?_); (refine sloadp rfl rfl rfl rfl ?_); (refine su (alenr rfl rfl) ?_); (refine su (agtr rfl rfl) ?_); apply jW)))
      all_goals try (exfalso; omega)
      refine ⟨rfl, ?_⟩
      rw [hRS]
      exact ⟨[0, 1, 2, 3, 4, 5, 6, 8, 9], ToR.S rfl (by repeat' (first | exact rt_nil | refine rt_r rfl rfl ?_ | refine rt_t rfl rfl ?_ | refine rt_m rfl rfl ?_ | refine rt_e rfl rfl ?_ | refine rt_p rfl rfl (by first | (simp [AV.bd, bdL, bdL_append]; done) | fail) ?_)) (by repeat' (first | exact ro_nil | refine ro_e rfl rfl ?_ | refine ro_p rfl (by first | exact rfl | fail) (by first | exact bdL_map (fun _ => by first | exact rfl | simp [AV.bd, bdL, bdL_append]) _ | (simp [bdL, bdL_append, AV.bd]; done) | fail) ?_ | refine ro_m rfl rfl (mapA_bd (fun _ => by first | exact rfl | simp [AV.bd, bdL]) _) ?_ | refine ro_e rfl (by simp only [renL, AV.ren, ren_strsA, ren_intsA, ren_intA', ren_rulesA, ren_levelsA, chS_ren, chL_ren]; exact rfl) ?_)) rfl (by (rw [hm]; exact rfl)) rfl zq4 (by repeat' (first | exact True.intro | exact rfl | exact mapA_all (fun _ => by first | exact rfl | simp [AV.bd, bdL]) _ | refine And.intro ?_ ?_ | exact bdL_map (fun _ => by first | exact rfl | simp [AV.bd, bdL, bdL_append]) _ | (simp [bdOq, bdL, bdL_append, AV.bd]; done))) (by (rw [hm]; exact nle rfl))⟩
     ·rw [if_neg hK] at hRS
      (repeat' (first | apply jA | apply jF | apply jH | (refine wp_cond rfl (fun hc => ?_) (fun hc => ?_) <;> (try simp only [sB, ne_eq, reduceCtorEq] at hc) <;> (try (exfalso; omega))) | (refine rgC 36 ?_; (refine sfieldp rfl rfl rfl ?_); (refine sloadp rfl rfl rfl rfl ?_); (refine su (alenr rfl rfl) ?_); (refine su (agtr rfl rfl) ?_); apply jW) | (refine rgC 37 ?_; (refine sfieldp rfl rfl rfl ?_); (refine sloadp rfl rfl rfl rfl ?_); (refine su (alenr rfl rfl) ?_); (refine su (asub rfl rfl (by exact inr_i64_of (by omega))) ?_); (refine su (ap_build (RqP.cons (rq_p rfl rfl) (RqP.cons (rq_p rfl rfl) (RqP.nil))) rfl) ?_); (refine smove rfl ?_); apply jW)))
      all_goals try (exfalso; omega)
      refine wp_loop (fun (k : Nat) => k <= 2) (fun k => 2 - k)
       (fun k => (S 260 [(1, levelsA l), (2, .ptr 1 4 0 0), (4, .ptr 2 4 0 0), (7, .ptr 3 6 0 0), (9, .map 4), (10, strsA (namsG g l g.nonterms.length)), (11, .sl 1 ((chnTo g l g.nonterms.length).map intsA)), (15, .ref 5 3 0 (rulTo g l r).length), (16, .ref 6 1 0 (froTo r).length), (17, intA (r : Nat)), (18, .ptr 7 3 0 0), (20, intA (nth (nth (chnTo g l g.nonterms.length) (nth g.rules r).head.toNat) (((nth (chnTo g l g.nonterms.length) (nth g.rules r).head.toNat).length : Int) - 1).toNat)), (21, .ptr 8 3 0 0), (93, rulesA g.rules), (94, intA (g.rules.length : Nat)), (95, intA (r : Nat)), (187, .agg [intA 0, intA (((nth g.rules r).body.length : Int) - 1)]), (188, intA (k : Nat))] 10 [(0, some (.map (mapA strK intA (opM l)))), (1, some (.arr 4 [gramA g])), (2, some (.arr 4 [.agg [.val (.slice none 0 0), .val (.slice none 0 0), intA 0, .val (.slice none 0 0)]])), (3, some (.arr 6 [.agg [strsA g.terms, strsA g.nonterms, intA g.start, rulesA g.rules, levelsA l, .map 0]])), (4, some (.map (mapA intK slO (usdM g l)))), (5, some (.arr 3 ((rulTo g l r).map ruleA))), (6, some (.arr 1 ((froTo r).map intA))), (7, some (.arr 3 [ruleA (nth g.rules r)])), (8, some (.arr 3 [.agg [intA (nth (nth (chnTo g l g.nonterms.length) (nth g.rules r).head.toNat) (((nth (chnTo g l g.nonterms.length) (nth g.rules r).head.toNat).length : Int) - 1).toNat), .ref 9 1 0 (nth g.rules r).body.length, intA (nth g.rules r).price]])), (9, some (.arr 1 ((bodK (-1 - nth (nth (chnTo g l g.nonterms.length) (nth g.rules r).head.toNat) (((nth (chnTo g l g.nonterms.length) (nth g.rules r).head.toNat).length : Int) - 1).toNat) (-1 - (nth g.rules r).head) (nth g.rules r).body k).map intA)))])) 0 ?_ (Nat.zero_le _) ?_
      ·exact ⟨[0, 1, 2, 3, 4, 5, 6, 7, 8, 9], ToR.S rfl (by repeat' (first | exact rt_nil | refine rt_r rfl rfl ?_ | refine rt_t rfl rfl ?_ | refine rt_m rfl rfl ?_ | refine rt_e rfl rfl ?_ | refine rt_p rfl rfl (by first | (simp [AV.bd, bdL, bdL_append]; done) | fail) ?_)) (by repeat' (first | exact ro_nil | refine ro_e rfl rfl ?_ | refine ro_p rfl (by first | exact rfl | fail) (by first | exact bdL_map (fun _ => by first | exact rfl | simp [AV.bd, bdL, bdL_append]) _ | (simp [bdL, bdL_append, AV.bd]; done) | fail) ?_ | refine ro_m rfl rfl (mapA_bd (fun _ => by first | exact rfl | simp [AV.bd, bdL]) _) ?_ | refine ro_e rfl (by simp only [renL, AV.ren, ren_strsA, ren_intsA, ren_intA', ren_rulesA, ren_levelsA, chS_ren, chL_ren]; exact rfl) ?_)) rfl (by (rw [hm]; exact rfl)) rfl zq4 (by repeat' (first | exact True.intro | exact rfl | exact mapA_all (fun _ => by first | exact rfl | simp [AV.bd, bdL]) _ | refine And.intro ?_ ?_ | exact bdL_map (fun _ => by first | exact rfl | simp [AV.bd, bdL, bdL_append]) _ | (simp [bdOq, bdL, bdL_append, AV.bd]; done))) (by (rw [hm]; exact nle rfl))⟩
      intro k hk
      by_cases hk2 : k < 2
      ·obtain ⟨z, hz0, hz1, hz2, hz3⟩ := bodK_step (-1 - nth (nth (chnTo g l g.nonterms.length) (nth g.rules r).head.toNat) (((nth (chnTo g l g.nonterms.length) (nth g.rules r).head.toNat).length : Int) - 1).toNat) (-1 - (nth g.rules r).head) (B := (nth g.rules r).body) hk2 (by omega)
       have hbl := bodK_len (-1 - nth (nth (chnTo g l g.nonterms.length) (nth g.rules r).head.toNat) (((nth (chnTo g l g.nonterms.length) (nth g.rules r).head.toNat).length : Int) - 1).toNat) (-1 - (nth g.rules r).head) (nth g.rules r).body k
       (repeat' (first | apply jA | apply jF | apply jH | apply jI | (refine wp_cond rfl (fun hc => ?_) (fun hc => ?_) <;> (try simp only [sB, ne_eq, reduceCtorEq] at hc) <;> (try (exfalso; omega))) | (refine rgC 38 ?_; (refine slss rfl rfl ?_); apply jW)))
       all_goals try (exfalso; omega)
       refine rgC 39 ?_
       refine se_aidx (len := 2) (xs := [intA 0, intA (((nth g.rules r).body.length : Int) - 1)]) (x := intA z) rfl rfl ⟨by omega, by omega⟩ (by rw [Int.toNat_natCast]; exact hz2) ?_
       refine sassign rfl ?_
       refine asemC_end ?_
       generalize bodK (-1 - nth (nth (chnTo g l g.nonterms.length) (nth g.rules r).head.toNat) (((nth (chnTo g l g.nonterms.length) (nth g.rules r).head.toNat).length : Int) - 1).toNat) (-1 - (nth g.rules r).head) (nth g.rules r).body k = Bk at *
       (repeat' (first | apply jA | apply jH | apply jI | apply jN | (refine wp_cond rfl (fun hc => ?_) (fun hc => ?_) <;> (try simp only [sB, ne_eq, reduceCtorEq] at hc) <;> (try (exfalso; omega))) | (refine wp_draw (id := 40) 9 mixed (by kernel_rfl) (by kernel_rfl) rfl ?_ <;> (refine rfieldp rfl rfl rfl ?_) <;> (refine rloadp rfl rfl rfl rfl ?_) <;> (refine rmove rfl ?_) <;> (refine rd_u rfl rfl (aidxrz rfl rfl (by omega)) ?_) <;> (refine rd_u rfl rfl (aloadpt rfl rfl (by omega) rfl) ?_) <;> (refine rfieldp rfl rfl rfl ?_) <;> (refine rloadp rfl rfl rfl rfl ?_) <;> (refine rd_u rfl rfl (asub rfl rfl (by exact inr_i64_of (by omega))) ?_) <;> (refine rd_u rfl rfl (aeql rfl rfl) ?_) <;> (refine rd_end (by kernel_rfl) ?_)) | (refine rgC 41 ?_; (refine sfieldp rfl rfl rfl ?_); (refine sloadp rfl rfl rfl rfl ?_); (refine smove rfl ?_); (refine smove rfl ?_); (refine su (asub rfl rfl (by exact inr_i64_of (by omega))) ?_); (refine su (aidxrz rfl rfl (by omega)) ?_); (refine se_store_t rfl rfl (by omega) rfl rfl ?_); apply jW) | (refine rgC 42 ?_; (refine sadd rfl rfl (by exact inr_i64_of (by omega)) ?_); (refine smove rfl ?_); apply jW)))
       ·rw [if_pos hc] at hz3
        refine ⟨k + 1, ⟨by omega, by omega⟩, ?_⟩
        rw [hz3]
        exact ⟨[0, 1, 2, 3, 4, 5, 6, 7, 8, 9], ToR.S rfl (by repeat' (first | exact rt_nil | refine rt_r rfl rfl ?_ | refine rt_t rfl rfl ?_ | refine rt_m rfl rfl ?_ | refine rt_e rfl rfl ?_ | refine rt_p rfl rfl (by first | (simp [AV.bd, bdL, bdL_append]; done) | fail) ?_)) (by repeat' (first | exact ro_nil | refine ro_e rfl rfl ?_ | refine ro_p rfl (by first | exact rfl | fail) (by first | exact bdL_map (fun _ => by first | exact rfl | simp [AV.bd, bdL, bdL_append]) _ | (simp [bdL, bdL_append, AV.bd]; done) | fail) ?_ | refine ro_m rfl rfl (mapA_bd (fun _ => by first | exact rfl | simp [AV.bd, bdL]) _) ?_ | refine ro_e rfl (by simp only [renL, AV.ren, ren_strsA, ren_intsA, ren_intA', ren_rulesA, ren_levelsA, chS_ren, chL_ren]; exact rfl) ?_)) rfl (by (rw [hm]; exact rfl)) rfl zq4 (by repeat' (first | exact True.intro | exact rfl | exact mapA_all (fun _ => by first | exact rfl | simp [AV.bd, bdL]) _ | refine And.intro ?_ ?_ | exact bdL_map (fun _ => by first | exact rfl | simp [AV.bd, bdL, bdL_append]) _ | (simp [bdOq, bdL, bdL_append, AV.bd]; done))) (by (rw [hm]; exact nle rfl))⟩
       ·rw [if_neg hc] at hz3
        refine ⟨k + 1, ⟨by omega, by omega⟩, ?_⟩
        rw [hz3]
        exact ⟨[0, 1, 2, 3, 4, 5, 6, 7, 8, 9], ToR.S rfl (by repeat' (first | exact rt_nil | refine rt_r rfl rfl ?_ | refine rt_t rfl rfl ?_ | refine rt_m rfl rfl ?_ | refine rt_e rfl rfl ?_ | refine rt_p rfl rfl (by first | (simp [AV.bd, bdL, bdL_append]; done) | fail) ?_)) (by repeat' (first | exact ro_nil | refine ro_e rfl rfl ?_ | refine ro_p rfl (by first | exact rfl | fail) (by first | exact bdL_map (fun _ => by first | exact rfl | simp [AV.bd, bdL, bdL_append]) _ | (simp [bdL, bdL_append, AV.bd]; done) | fail) ?_ | refine ro_m rfl rfl (mapA_bd (fun _ => by first | exact rfl | simp [AV.bd, bdL]) _) ?_ | refine ro_e rfl (by simp only [renL, AV.ren, ren_strsA, ren_intsA, ren_intA', ren_rulesA, ren_levelsA, chS_ren, chL_ren]; exact rfl) ?_)) rfl (by (rw [hm]; exact rfl)) rfl zq4 (by repeat' (first | exact True.intro | exact rfl | exact mapA_all (fun _ => by first | exact rfl | simp [AV.bd, bdL]) _ | refine And.intro ?_ ?_ | exact bdL_map (fun _ => by first | exact rfl | simp [AV.bd, bdL, bdL_append]) _ | (simp [bdOq, bdL, bdL_append, AV.bd]; done))) (by (rw [hm]; exact nle rfl))⟩
      ·obtain rfl : k = 2 := by omega
       (repeat' (first | apply jA | apply jH | apply jJ | apply jL | apply jP | (refine wp_cond rfl (fun hc => ?_) (fun hc => ?_) <;> (try simp only [sB, ne_eq, reduceCtorEq] at hc) <;> (try (exfalso; omega))) | (refine rgC 38 ?_; (refine slss rfl rfl ?_); apply jW)))
       all_goals try (exfalso; omega)
       refine ⟨rfl, ?_⟩
       rw [hRS]
       exact ⟨[0, 1, 2, 3, 4, 5, 6, 8, 9], ToR.S rfl (by repeat' (first | exact rt_nil | refine rt_r rfl rfl ?_ | refine rt_t rfl rfl ?_ | refine rt_m rfl rfl ?_ | refine rt_e rfl rfl ?_ | refine rt_p rfl rfl (by first | (simp [AV.bd, bdL, bdL_append]; done) | fail) ?_)) (by repeat' (first | exact ro_nil | refine ro_e rfl rfl ?_ | refine ro_p rfl (by first | exact rfl | fail) (by first | exact bdL_map (fun _ => by first | exact rfl | simp [AV.bd, bdL, bdL_append]) _ | (simp [bdL, bdL_append, AV.bd]; done) | fail) ?_ | refine ro_m rfl rfl (mapA_bd (fun _ => by first | exact rfl | simp [AV.bd, bdL]) _) ?_ | refine ro_e rfl (by simp only [renL, AV.ren, ren_strsA, ren_intsA, ren_intA', ren_rulesA, ren_levelsA, chS_ren, chL_ren]; exact rfl) ?_)) rfl (by (rw [hm]; exact rfl)) rfl zq4 (by repeat' (first | exact True.intro | exact rfl | exact mapA_all (fun _ => by first | exact rfl | simp [AV.bd, bdL]) _ | refine And.intro ?_ ?_ | exact bdL_map (fun _ => by first | exact rfl | simp [AV.bd, bdL, bdL_append]) _ | (simp [bdOq, bdL, bdL_append, AV.bd]; done))) (by (rw [hm]; exact nle rfl))⟩
   rintro s ⟨is, hst⟩
   refine go_n ?_
   refine wp_st _ ⟨is, hst⟩ ?_
   clear hst
   refine wp_frzo (id := 8) (f := intA) (L := (ruleS g l (nth g.rules r)).body) 7 1 hm rfl rfl rfl rfl hrl2 (fun _ => rfl) (fun _ => rfl) ?_
   (repeat' (first | apply jH | apply jN | (refine rgC 43 ?_; (refine smove rfl ?_); (refine sloadpw rfl rfl rfl rfl ?_); (refine se_lit (OpP.cons rfl (OpP.nil)) rfl rfl rfl rfl rfl rfl ?_); (refine se_app1 rfl rfl rfl rfl rfl rfl rfl rfl (by omega) ?_); (refine smove rfl ?_); (refine smove rfl ?_); (refine se_lit (OpP.cons rfl (OpP.nil)) rfl rfl rfl rfl rfl rfl ?_); (refine se_app1 rfl rfl rfl rfl rfl rfl rfl rfl (by omega) ?_); (refine sassign rfl ?_); (refine sassign rfl ?_); apply jW) | (refine rgC 44 ?_; (refine sadd rfl rfl (by exact inr_i64_of (by omega)) ?_); (refine smove rfl ?_); apply jW)))
   refine ⟨r + 1, ⟨by omega, by omega⟩, ?_⟩
   rw [rulTo_succ l hrt, froTo_succ]
   exact ⟨[0, 1, 2, 3, 4, 10, 12], ToR.S rfl (by repeat' (first | exact rt_nil | refine rt_r rfl rfl ?_ | refine rt_t rfl rfl ?_ | refine rt_m rfl rfl ?_ | refine rt_e rfl rfl ?_ | refine rt_p rfl rfl (by first | (simp [AV.bd, bdL, bdL_append]; done) | fail) ?_)) (by repeat' (first | exact ro_nil | refine ro_e rfl rfl ?_ | refine ro_p rfl (by first | exact rfl | fail) (by first | exact bdL_map (fun _ => by first | exact rfl | simp [AV.bd, bdL, bdL_append]) _ | (simp [bdL, bdL_append, AV.bd]; done) | fail) ?_ | refine ro_m rfl rfl (mapA_bd (fun _ => by first | exact rfl | simp [AV.bd, bdL]) _) ?_ | refine ro_e rfl (by simp only [renL, AV.ren, ren_strsA, ren_intsA, ren_intA', ren_rulesA, ren_levelsA, chS_ren, chL_ren]; exact rfl) ?_)) rfl (by (rw [hm]; exact rfl)) rfl zq4 (by repeat' (first | exact True.intro | exact rfl | exact mapA_all (fun _ => by first | exact rfl | simp [AV.bd, bdL]) _ | refine And.intro ?_ ?_ | exact bdL_map (fun _ => by first | exact rfl | simp [AV.bd, bdL, bdL_append]) _ | (simp [bdOq, bdL, bdL_append, AV.bd]; done))) (by (rw [hm]; exact nle rfl))⟩
  ·obtain rfl : r = g.rules.length := by omega
   have hCN := chnTo_len g l g.nonterms.length
   (repeat' (first | apply jA | apply jF | apply jH | apply jJ | apply jL | apply jP | (refine wp_cond rfl (fun hc => ?_) (fun hc => ?_) <;> (try simp only [sB, ne_eq, reduceCtorEq] at hc) <;> (try (exfalso; omega))) | (refine rgC 21 ?_; (refine slss rfl rfl ?_); apply jW) | (refine rgC 45 ?_; (refine smove rfl ?_); (refine slenm rfl rfl ?_); (refine smove rfl ?_); apply jW)))
   refine wp_loop (fun (e : Nat) => e <= g.nonterms.length) (fun e => g.nonterms.length - e)
    (fun e => (S 260 [(2, .ptr 0 4 0 0), (4, .ptr 1 4 0 0), (10, strsA (namsG g l g.nonterms.length)), (15, .ref 2 3 0 (rulTo g l g.rules.length ++ unitsS g l e).length), (16, .ref 3 1 0 (froTo g.rules.length ++ List.replicate (unitsS g l e).length (-1)).length), (216, .sl 1 ((chnTo g l g.nonterms.length).map intsA)), (217, intA ((chnTo g l g.nonterms.length).length : Nat)), (218, intA (e : Nat))] 4 [(0, some (.arr 4 [gramA g])), (1, some (.arr 4 [.agg [.val (.slice none 0 0), .val (.slice none 0 0), intA 0, .val (.slice none 0 0)]])), (2, some (.arr 3 ((rulTo g l g.rules.length ++ unitsS g l e).map ruleA))), (3, some (.arr 1 ((froTo g.rules.length ++ List.replicate (unitsS g l e).length (-1)).map intA)))])) 0 ?_ (Nat.zero_le _) ?_
   ·rw [show unitsS g l 0 = [] from rfl, List.append_nil, show List.replicate ([] : List Rul).length (-1 : Int) = [] from rfl, List.append_nil]
    exact ⟨[1, 2, 5, 6], ToR.S rfl (by repeat' (first | exact rt_nil | refine rt_r rfl rfl ?_ | refine rt_t rfl rfl ?_ | refine rt_e rfl rfl ?_ | refine rt_p rfl rfl (by first | (simp [AV.bd, bdL, bdL_append]; done) | fail) ?_)) (by repeat' (first | exact ro_nil | refine ro_e rfl rfl ?_ | refine ro_p rfl (by first | exact rfl | fail) (by first | exact bdL_map (fun _ => by first | exact rfl | simp [AV.bd, bdL, bdL_append]) _ | (simp [bdL, bdL_append, AV.bd]; done) | fail) ?_)) rfl (by (rw [hm]; exact rfl)) rfl zq4 (by repeat' (first | exact True.intro | exact rfl | refine And.intro ?_ ?_ | exact bdL_map (fun _ => by first | exact rfl | simp [AV.bd, bdL, bdL_append]) _ | (simp [bdOq, bdL, bdL_append, AV.bd]; done))) (by (rw [hm]; exact nle rfl))⟩
   intro e he
   have hub := unitsS_bd (g := g) (l := l) hfn e
   by_cases het : e < g.nonterms.length
   ·have hC : nth (chnTo g l g.nonterms.length) e = chnG g l e := nth_range (by omega)
    have hCl := chnG_len g l e
    have hul := useL_len g l e
    have hbd : ∀ i, i < (chnG g l e).length -> 0 <= nth (chnG g l e) i /\ nth (chnG g l e) i <= 5000 := fun i hi => by
     have hm := nth_mem hi
     rw [mem_chn] at hm
     have o1 := offN_bd (g := g) (l := l) hfn e
     omega
    rw [<- hC] at hCl hbd
    (repeat' (first | apply jA | apply jF | apply jH | apply jI | (refine wp_cond rfl (fun hc => ?_) (fun hc => ?_) <;> (try simp only [sB, ne_eq, reduceCtorEq] at hc) <;> (try (exfalso; omega))) | (refine rgC 46 ?_; (refine slss rfl rfl ?_); apply jW) | (refine rgC 47 ?_; (refine sidxn rfl rfl (by omega) ?_); (refine sloadw rfl rfl ?_); (refine sassign rfl ?_); apply jW) | (refine rgC 48 ?_; (refine sassign rfl ?_); apply jW)))
    refine wp_loop (fun (j : Nat) => j <= (useL g l e).length) (fun j => (useL g l e).length - j)
     (fun j => (S 260 [(2, .ptr 0 4 0 0), (4, .ptr 1 4 0 0), (10, strsA (namsG g l g.nonterms.length)), (15, .ref 2 3 0 (rulTo g l g.rules.length ++ unitsS g l e ++ untP g l e j).length), (16, .ref 3 1 0 (froTo g.rules.length ++ List.replicate ((unitsS g l e).length + j) (-1)).length), (28, intsA (nth (chnTo g l g.nonterms.length) e)), (29, intA ((j : Nat) + 1 : Int)), (216, .sl 1 ((chnTo g l g.nonterms.length).map intsA)), (217, intA ((chnTo g l g.nonterms.length).length : Nat)), (218, intA (e : Nat))] 4 [(0, some (.arr 4 [gramA g])), (1, some (.arr 4 [.agg [.val (.slice none 0 0), .val (.slice none 0 0), intA 0, .val (.slice none 0 0)]])), (2, some (.arr 3 ((rulTo g l g.rules.length ++ unitsS g l e ++ untP g l e j).map ruleA))), (3, some (.arr 1 ((froTo g.rules.length ++ List.replicate ((unitsS g l e).length + j) (-1)).map intA)))])) 0 ?_ (Nat.zero_le _) ?_
    ·rw [show untP g l e 0 = [] from rfl, List.append_nil, Nat.add_zero, show ((0 : Nat) : Int) + 1 = 1 from rfl]
     exact ⟨[0, 1, 2, 3], ToR.S rfl (by repeat' (first | exact rt_nil | refine rt_r rfl rfl ?_ | refine rt_t rfl rfl ?_ | refine rt_e rfl rfl ?_ | refine rt_p rfl rfl (by first | (simp [AV.bd, bdL, bdL_append]; done) | fail) ?_)) (by repeat' (first | exact ro_nil | refine ro_e rfl rfl ?_ | refine ro_p rfl (by first | exact rfl | fail) (by first | exact bdL_map (fun _ => by first | exact rfl | simp [AV.bd, bdL, bdL_append]) _ | (simp [bdL, bdL_append, AV.bd]; done) | fail) ?_)) rfl (by (rw [hm]; exact rfl)) rfl zq4 (by repeat' (first | exact True.intro | exact rfl | refine And.intro ?_ ?_ | exact bdL_map (fun _ => by first | exact rfl | simp [AV.bd, bdL, bdL_append]) _ | (simp [bdOq, bdL, bdL_append, AV.bd]; done))) (by (rw [hm]; exact nle rfl))⟩
    intro j hj
    have hpl := untP_len g l e j
    have hll2 : (rulTo g l g.rules.length ++ unitsS g l e ++ untP g l e j).length <= 3000 := by simp only [List.length_append]; omega
    have hll3 : (froTo g.rules.length ++ List.replicate ((unitsS g l e).length + j) (-1)).length <= 3000 := by simp only [List.length_append, List.length_replicate]; omega
    by_cases hjt : j < (useL g l e).length
    ·have c1 := hbd ((j : Int) + 1).toNat (by omega)
     have c2 := hbd (j + (nat_lit 1)) (by show j + 1 < _; omega)
     have c3 := hbd ((j : Int) + 1 - 1).toNat (by omega)
     (repeat' (first | apply jA | apply jF | apply jH | apply jI | apply jN | (refine wp_cond rfl (fun hc => ?_) (fun hc => ?_) <;> (try simp only [sB, ne_eq, reduceCtorEq] at hc) <;> (try (exfalso; omega))) | (refine rgC 49 ?_; (refine smove rfl ?_); (refine smove rfl ?_); (refine slenm rfl rfl ?_); (refine slss rfl rfl ?_); apply jW) | (refine wp_draw (id := 51) 20 mixed (by kernel_rfl) (by kernel_rfl) rfl ?_ <;> (refine rmove rfl ?_) <;> (refine rmove rfl ?_) <;> (refine rmove rfl ?_) <;> (refine rd_u rfl rfl (asub rfl rfl (by exact inr_i64_of (by omega))) ?_) <;> (refine rd_u rfl rfl (aidxz rfl rfl (by omega)) ?_) <;> (refine rd_u rfl rfl (aloadw rfl rfl) ?_) <;> (refine rmove rfl ?_) <;> (refine rmove rfl ?_) <;> (refine rd_u rfl rfl (aidxn rfl rfl (by (simp only [sL] <;> omega))) ?_) <;> (refine rd_u rfl rfl (aloadw rfl rfl) ?_) <;> (refine rd_u rfl rfl (asub rfl rfl (by exact inr_i64_of (by omega))) ?_) <;> (refine rd_frzl (OpP.cons rfl (OpP.nil)) rfl rfl rfl rfl rfl rfl (by first | exact rfl | fail) ?_) <;> (refine rd_u rfl rfl (ap_build (RqP.cons (rq_p rfl rfl) (RqP.cons (rq_p rfl rfl) (RqP.nil))) rfl) ?_) <;> (refine rd_lit (OpP.cons rfl (OpP.nil)) rfl rfl rfl rfl rfl rfl ?_) <;> (refine rd_app rfl rfl rfl (by (simp; done)) rfl rfl rfl rfl (by (simp only [sL] <;> omega)) ?_) <;> (refine rmove rfl ?_) <;> (refine rd_frzl (OpP.cons rfl (OpP.nil)) rfl rfl rfl rfl rfl rfl (by first | exact rfl | fail) ?_) <;> (refine rd_app rfl rfl rfl (by (simp; done)) rfl rfl rfl rfl (by (simp only [sL] <;> omega)) ?_) <;> (refine rd_u rfl rfl (aassign rfl) ?_) <;> (refine rd_u rfl rfl (aassign rfl) ?_) <;> (refine rd_end (by kernel_rfl) ?_)) | (refine rgC 50 ?_; (refine smove rfl ?_); (refine sadd rfl rfl (by exact inr_i64_of (by omega)) ?_); (refine sassign rfl ?_); apply jW)))
     have hx1 : rulTo g l g.rules.length ++ unitsS g l e ++ untP g l e (j + 1) = (rulTo g l g.rules.length ++ unitsS g l e ++ untP g l e j) ++ [(⟨nth (nth (chnTo g l g.nonterms.length) e) ((j : Int) + 1 - 1).toNat, [-1 - nth (nth (chnTo g l g.nonterms.length) e) (j + 1)], 0⟩ : Rul)] := by
      rw [untP_succ, <- List.append_assoc, hC, show ((j : Int) + 1 - 1).toNat = j by omega]
     have hy1 : froTo g.rules.length ++ List.replicate ((unitsS g l e).length + (j + 1)) (-1) = (froTo g.rules.length ++ List.replicate ((unitsS g l e).length + j) (-1)) ++ [(-1 : Int)] := by
      rw [<- Nat.add_assoc, List.replicate_succ', List.append_assoc]
     have hm1 : ((rulTo g l g.rules.length ++ unitsS g l e ++ untP g l e j) ++ [(⟨nth (nth (chnTo g l g.nonterms.length) e) ((j : Int) + 1 - 1).toNat, [-1 - nth (nth (chnTo g l g.nonterms.length) e) (j + 1)], 0⟩ : Rul)]).map ruleA = (rulTo g l g.rules.length ++ unitsS g l e ++ untP g l e j).map ruleA ++ [AV.agg [intA (nth (nth (chnTo g l g.nonterms.length) e) ((j : Int) + 1 - 1).toNat), .sl 1 [.val (.int .i64 (-1 - nth (nth (chnTo g l g.nonterms.length) e) (j + 1)))], intA 0]] := by rw [List.map_append]; rfl
     have hm2 : ((rulTo g l g.rules.length ++ unitsS g l e ++ untP g l e j) ++ [(⟨nth (nth (chnTo g l g.nonterms.length) e) ((j : Int) + 1 - 1).toNat, [-1 - nth (nth (chnTo g l g.nonterms.length) e) (j + 1)], 0⟩ : Rul)]).length = ((rulTo g l g.rules.length ++ unitsS g l e ++ untP g l e j).map ruleA ++ [AV.agg [intA (nth (nth (chnTo g l g.nonterms.length) e) ((j : Int) + 1 - 1).toNat), .sl 1 [.val (.int .i64 (-1 - nth (nth (chnTo g l g.nonterms.length) e) (j + 1)))], intA 0]]).length := by simp
     have hm3 : ((froTo g.rules.length ++ List.replicate ((unitsS g l e).length + j) (-1)) ++ [(-1 : Int)]).map intA = (froTo g.rules.length ++ List.replicate ((unitsS g l e).length + j) (-1)).map intA ++ [.val (.int .i64 (-1))] := by rw [List.map_append]; rfl
     have hm4 : ((froTo g.rules.length ++ List.replicate ((unitsS g l e).length + j) (-1)) ++ [(-1 : Int)]).length = ((froTo g.rules.length ++ List.replicate ((unitsS g l e).length + j) (-1)).map intA ++ [AV.val (.int .i64 (-1))]).length := by simp
     refine ⟨j + 1, ⟨by omega, by omega⟩, ?_⟩
     rw [hx1, hy1, hm2, hm1, hm4, hm3]
     exact ⟨[0, 1, 18, 21], ToR.S rfl (by repeat' (first | exact rt_nil | refine rt_r rfl rfl ?_ | refine rt_t rfl rfl ?_ | refine rt_e rfl rfl ?_ | refine rt_p rfl rfl (by first | (simp [AV.bd, bdL, bdL_append]; done) | fail) ?_)) (by repeat' (first | exact ro_nil | refine ro_e rfl rfl ?_ | refine ro_p rfl (by first | exact rfl | fail) zq5 ?_)) rfl (by (rw [hm]; exact rfl)) rfl zq4 (by repeat' (first | exact True.intro | exact rfl | refine And.intro ?_ ?_ | (simp [bdOq, bdL, bdL_append, AV.bd]; done))) (by (rw [hm]; exact nle rfl))⟩
    ·obtain rfl : j = (useL g l e).length := by omega
     have hxe : rulTo g l g.rules.length ++ unitsS g l e ++ untP g l e (useL g l e).length = rulTo g l g.rules.length ++ unitsS g l (e + 1) := by
      rw [unitsS_succ, <- List.append_assoc]; rfl
     have hye : (unitsS g l e).length + (useL g l e).length = (unitsS g l (e + 1)).length := by rw [unitsS_succ, List.length_append, unitS_len]
     rw [hxe, hye]
     (repeat' (first | apply jA | apply jH | apply jJ | apply jL | apply jN | apply jP | (refine wp_cond rfl (fun hc => ?_) (fun hc => ?_) <;> (try simp only [sB, ne_eq, reduceCtorEq] at hc) <;> (try (exfalso; omega))) | (refine rgC 49 ?_; (refine smove rfl ?_); (refine smove rfl ?_); (refine slenm rfl rfl ?_); (refine slss rfl rfl ?_); apply jW) | (refine rgC 52 ?_; (refine sadd rfl rfl (by exact inr_i64_of (by omega)) ?_); (refine smove rfl ?_); apply jW)))
     exact ⟨e + 1, ⟨by omega, by omega⟩, ⟨[0, 1, 2, 3], ToR.S rfl (by repeat' (first | exact rt_nil | refine rt_r rfl rfl ?_ | refine rt_t rfl rfl ?_ | refine rt_e rfl rfl ?_ | refine rt_p rfl rfl (by first | (simp [AV.bd, bdL, bdL_append]; done) | fail) ?_)) (by repeat' (first | exact ro_nil | refine ro_e rfl rfl ?_ | refine ro_p rfl (by first | exact rfl | fail) (by first | exact bdL_map (fun _ => by first | exact rfl | simp [AV.bd, bdL, bdL_append]) _ | (simp [bdL, bdL_append, AV.bd]; done) | fail) ?_)) rfl (by (rw [hm]; exact rfl)) rfl zq4 (by repeat' (first | exact True.intro | exact rfl | refine And.intro ?_ ?_ | exact bdL_map (fun _ => by first | exact rfl | simp [AV.bd, bdL, bdL_append]) _ | (simp [bdOq, bdL, bdL_append, AV.bd]; done))) (by (rw [hm]; exact nle rfl))⟩⟩
   ·obtain rfl : e = g.nonterms.length := by omega
    have hsg : gramA (stratG g l) = .agg [strsA g.terms, strsA (namsG g l g.nonterms.length), intA g.start, .sl 3 ((rulTo g l g.rules.length ++ unitsS g l g.nonterms.length).map ruleA)] := by
     unfold stratG rulTo
     rw [List.take_length]; rfl
    have hvs := gvalid18_fn (stratG g l)
    have hR : stratR g l = if validG (stratG g l) then (stratG g l, fromG g l, 0) else (zG, [], 11) := by unfold stratR; rw [if_pos hc0]
    have hfg : fromG g l = froTo g.rules.length ++ List.replicate (unitsS g l g.nonterms.length).length (-1) := rfl
    rw [hR]
    refine wp_frz (f := ruleA) 15 hm rfl rfl rfl (fun _ => by simp) (fun _ => rfl) ?_
    cases hvv : validG (stratG g l) with
    | false =>
     rw [hvv, hsg] at hvs
     rw [if_neg (by simp), show stratA (zG, [], 11) = .tup [.agg [.sl 1 [], .sl 1 [], intA 0, .sl 3 []], .sl 1 [], intA 11] from rfl]
     (repeat' (first | apply jA | apply jH | apply jJ | apply jL | apply jP | (refine wp_cond rfl (fun hc => ?_) (fun hc => ?_) <;> (try simp only [sB, ne_eq, reduceCtorEq] at hc) <;> (try (exfalso; omega))) | (refine rgC 46 ?_; (refine slss rfl rfl ?_); apply jW) | (refine rgC 53 ?_; (refine sfieldp rfl rfl rfl ?_); (refine sloadp rfl rfl rfl rfl ?_); (refine smove rfl ?_); (refine sfieldp rfl rfl rfl ?_); (refine sloadp rfl rfl rfl rfl ?_); (refine smove rfl ?_); (refine su (ap_build (RqP.cons (rq_p rfl rfl) (RqP.cons (rq_p rfl rfl) (RqP.cons (rq_p rfl rfl) (RqP.cons (rq_p rfl rfl) (RqP.nil))))) rfl) ?_); (refine se_alloc rfl ?_); (refine se_store_b rfl rfl rfl rfl ?_); apply jW)))
     refine wp_st (S 260 [(4, .ptr 0 4 0 0), (16, .ref 1 1 0 (froTo g.rules.length ++ List.replicate (unitsS g l g.nonterms.length).length (-1)).length), (30, .ptr 2 4 0 0)] 3 [(0, some (.arr 4 [.agg [.val (.slice none 0 0), .val (.slice none 0 0), intA 0, .val (.slice none 0 0)]])), (1, some (.arr 1 ((froTo g.rules.length ++ List.replicate (unitsS g l g.nonterms.length).length (-1)).map intA))), (2, some (.arr 4 [.agg [strsA g.terms, strsA (namsG g l g.nonterms.length), intA g.start, .sl 3 ((rulTo g l g.rules.length ++ unitsS g l g.nonterms.length).map ruleA)]]))]) ⟨[1, 3, 4], ToR.S rfl (by repeat' (first | exact rt_nil | refine rt_r rfl rfl ?_ | refine rt_t rfl rfl ?_)) (by repeat' (first | exact ro_nil | refine ro_e rfl rfl ?_ | refine ro_p rfl (by first | exact rfl | fail) (by first | exact bdL_map (fun _ => by exact rfl) _ | (simp [bdL, bdL_append, AV.bd]; done) | fail) ?_)) rfl (by (rw [hm]; exact rfl)) rfl zq4 (by repeat' (first | exact True.intro | exact rfl | refine And.intro ?_ ?_ | exact bdL_map (fun _ => by exact rfl) _ | (simp [bdOq, bdL, bdL_append, AV.bd]; done))) (by (rw [hm]; exact nle rfl))⟩ ?_
     (repeat' (first | apply jA | apply jH | apply jK | apply jM | apply jS | (refine wp_cond rfl (fun hc => ?_) (fun hc => ?_) <;> (try simp only [sB, ne_eq, reduceCtorEq] at hc) <;> (try (exfalso; omega))) | (refine rgC 54 ?_; (refine sloadpw rfl rfl rfl rfl ?_); (refine sc_p rfl rfl zq1 zq5 (hvs) ?_); (refine su (anot rfl) ?_); apply jW) | (refine rgC 55 ?_; (refine su (ap_build (RqP.nil) rfl) ?_); (refine se_store_b rfl rfl rfl rfl ?_); (refine sassign rfl ?_); (refine sassign rfl ?_); apply jW)))
     all_goals try (exfalso; simp at hc; done)
     exact ret_many (.cellT rfl rfl rfl rfl (.tmp rfl (.tmp rfl .nil))) (nle rfl) (by first | ((repeat' first | exact FzL.nil | refine FzL.cons ?_ ?_ | exact Fz.nil | (exact Fz.reflp (by simp [AV.bd, bdL, bdL_append])) | refine Fz.aggL ?_); done) | fail)
    | true =>
     rw [hvv, hsg] at hvs
     rw [if_pos rfl]
     unfold stratA
     simp only
     rw [hsg, hfg]
     (repeat' (first | apply jA | apply jH | apply jJ | apply jL | apply jP | (refine wp_cond rfl (fun hc => ?_) (fun hc => ?_) <;> (try simp only [sB, ne_eq, reduceCtorEq] at hc) <;> (try (exfalso; omega))) | (refine rgC 46 ?_; (refine slss rfl rfl ?_); apply jW) | (refine rgC 53 ?_; (refine sfieldp rfl rfl rfl ?_); (refine sloadp rfl rfl rfl rfl ?_); (refine smove rfl ?_); (refine sfieldp rfl rfl rfl ?_); (refine sloadp rfl rfl rfl rfl ?_); (refine smove rfl ?_); (refine su (ap_build (RqP.cons (rq_p rfl rfl) (RqP.cons (rq_p rfl rfl) (RqP.cons (rq_p rfl rfl) (RqP.cons (rq_p rfl rfl) (RqP.nil))))) rfl) ?_); (refine se_alloc rfl ?_); (refine se_store_b rfl rfl rfl rfl ?_); apply jW)))
     refine wp_st (S 260 [(4, .ptr 0 4 0 0), (16, .ref 1 1 0 (froTo g.rules.length ++ List.replicate (unitsS g l g.nonterms.length).length (-1)).length), (30, .ptr 2 4 0 0)] 3 [(0, some (.arr 4 [.agg [.val (.slice none 0 0), .val (.slice none 0 0), intA 0, .val (.slice none 0 0)]])), (1, some (.arr 1 ((froTo g.rules.length ++ List.replicate (unitsS g l g.nonterms.length).length (-1)).map intA))), (2, some (.arr 4 [.agg [strsA g.terms, strsA (namsG g l g.nonterms.length), intA g.start, .sl 3 ((rulTo g l g.rules.length ++ unitsS g l g.nonterms.length).map ruleA)]]))]) ⟨[1, 3, 4], ToR.S rfl (by repeat' (first | exact rt_nil | refine rt_r rfl rfl ?_ | refine rt_t rfl rfl ?_)) (by repeat' (first | exact ro_nil | refine ro_e rfl rfl ?_ | refine ro_p rfl (by first | exact rfl | fail) (by first | exact bdL_map (fun _ => by exact rfl) _ | (simp [bdL, bdL_append, AV.bd]; done) | fail) ?_)) rfl (by (rw [hm]; exact rfl)) rfl zq4 (by repeat' (first | exact True.intro | exact rfl | refine And.intro ?_ ?_ | exact bdL_map (fun _ => by exact rfl) _ | (simp [bdOq, bdL, bdL_append, AV.bd]; done))) (by (rw [hm]; exact nle rfl))⟩ ?_
     (repeat' (first | apply jA | apply jH | apply jI | apply jK | apply jS | (refine wp_cond rfl (fun hc => ?_) (fun hc => ?_) <;> (try simp only [sB, ne_eq, reduceCtorEq] at hc) <;> (try (exfalso; omega))) | (refine rgC 54 ?_; (refine sloadpw rfl rfl rfl rfl ?_); (refine sc_p rfl rfl zq1 zq5 (hvs) ?_); (refine su (anot rfl) ?_); apply jW) | (refine rgC 56 ?_; (refine sloadpw rfl rfl rfl rfl ?_); (refine smove rfl ?_); (refine se_store_b rfl rfl rfl rfl ?_); (refine sassign rfl ?_); (refine sassign rfl ?_); apply jW)))
     all_goals try (exfalso; simp at hc; done)
     exact ret_many (.cellT rfl rfl rfl rfl (.tmp rfl (.tmp rfl .nil))) (nle rfl) (by first | ((repeat' first | exact FzL.nil | refine FzL.cons ?_ ?_ | (exact Fz.list rfl rfl (fun _ => by simp [AV.bd, bdL, bdL_append]) (fun _ => rfl)) | (exact Fz.reflp (by simp [AV.bd, bdL, bdL_append]))); done) | fail)
end Go.Lg
namespace Go.Lg
open Go.Proofs
attribute [local irreducible] Ap Rq asemC WP RunD Ret Gq thenA inBlockA bodyQ noGotoA RqL RqP OpP
attribute [local simp] AV.cells
end Go.Lg
namespace Go.Lg
def jX := @wpl_end
open Go.Proofs
attribute [local irreducible] Ap Rq asemC WP RunD Ret Gq thenA inBlockA bodyQ noGotoA RqL RqP OpP
attribute [local simp] AV.cells
theorem pstrat_fn (g : Gram) (l : List GLe) (hf : FewL l) : Fn Tryd.prog 14 [gramA g, levelsA l] (stratA (stratR g l)) := by
 by_cases h : checkG g l = 0
 ·exact pstrat_yes l hf h
 ·exact pstrat_no l hf h
def exg20 : Gram := ⟨[⟨#[112, 108, 117, 115]⟩, ⟨#[116, 105, 109, 101, 115]⟩, ⟨#[110, 117, 109]⟩], [⟨#[69]⟩], 0, [⟨0, [-1, 0, -1], 0⟩, ⟨0, [-1, 1, -1], 0⟩, ⟨0, [2], 0⟩]⟩
def exl20 : List GLe := [⟨1, [⟨#[112, 108, 117, 115]⟩]⟩, ⟨1, [⟨#[116, 105, 109, 101, 115]⟩]⟩]
def exw20 : Gram := ⟨[⟨#[112, 108, 117, 115]⟩, ⟨#[116, 105, 109, 101, 115]⟩, ⟨#[110, 117, 109]⟩], [⟨#[69]⟩, ⟨#[69, 64, 50]⟩, ⟨#[69, 64, 51]⟩], 0, [⟨0, [-1, 0, -2], 0⟩, ⟨1, [-2, 1, -3], 0⟩, ⟨2, [2], 0⟩, ⟨0, [-2], 0⟩, ⟨1, [-3], 0⟩]⟩
def exm20 : List GLe := [⟨1, [⟨#[109, 105, 110, 117, 115]⟩]⟩]
def exn20 : List GLe := [⟨1, [⟨#[110, 117, 109]⟩]⟩]
theorem few_ex (l : List GLe) (h : (decide (l.length <= 10) && l.all fun x => decide (x.tokens.length <= 10)) = true) : FewL l := by
 simp only [Bool.and_eq_true, decide_eq_true_eq, List.all_eq_true] at h
 exact ⟨h.1, h.2⟩
theorem ex_check : checkG exg20 exl20 = 0 := by decide +kernel
theorem ex_use : useL exg20 exl20 0 = [0, 1] := by decide +kernel
theorem ex_rules : exg20.rules.map (ruleS exg20 exl20) ++ unitsS exg20 exl20 1 = exw20.rules := by decide +kernel
theorem ex_nams : namsG exg20 exl20 1 = exw20.nonterms := by
 unfold namsG
 rw [show List.range 1 = [0] from rfl, List.map_cons, List.map_nil]
 unfold namG
 rw [ex_use]
 show _ ++ [[nth exg20.nonterms 0 ++ ⟨#[64]⟩ ++ tx (Lib.itoa ((0 + 2 : Nat) : Int)), nth exg20.nonterms 0 ++ ⟨#[64]⟩ ++ tx (Lib.itoa ((1 + 2 : Nat) : Int))]].flatten = _
 rw [itoa_nat, itoa_nat, dd_lt (by decide), dd_lt (by decide)]
 rfl
theorem ex_strat : stratR exg20 exl20 = (exw20, [0, 1, 2, -1, -1], 0) := by
 have h1 : stratG exg20 exl20 = exw20 := by
  unfold stratG
  rw [show exg20.nonterms.length = 1 from rfl, ex_nams, ex_rules]
  rfl
 have h2 : fromG exg20 exl20 = [0, 1, 2, -1, -1] := by decide +kernel
 unfold stratR
 rw [if_pos ex_check, h1, h2, if_pos (by decide +kernel)]
theorem example20_fn : Fn Tryd.prog 26 [] (.tup [gramA exg20, levelsA exl20]) := by
 refine Fn.intro rfl (by kernel_rfl) Tryd.func26 rfl rfl Tryd.ntmps26 (by exact nle rfl) ?_; intro Γ hm
 (repeat' (first | apply jA | apply jH | apply jK | apply jS | (refine rgC 0 ?_; (refine se_alloc rfl ?_); (refine sassign rfl ?_); apply jW) | (refine wpl_region (id := 1) ?_; (refine wpl_step rfl ?_); (refine se_lit (OpP.cons rfl (OpP.cons rfl (OpP.cons rfl (OpP.nil)))) rfl rfl rfl rfl rfl rfl ?_); (apply jW); (refine wpl_frz 3 hm rfl rfl (by first | exact rfl | fail) (by first | exact rfl | fail) rfl ?_); (refine wpl_step rfl ?_); (refine se_lit (OpP.cons rfl (OpP.nil)) rfl rfl rfl rfl rfl rfl ?_); (apply jW); (refine wpl_frz 4 hm rfl rfl (by first | exact rfl | fail) (by first | exact rfl | fail) rfl ?_); (refine wpl_step rfl ?_); (refine se_lit (OpP.cons rfl (OpP.cons rfl (OpP.cons rfl (OpP.nil)))) rfl rfl rfl rfl rfl rfl ?_); (apply jW); (refine wpl_frz 5 hm rfl rfl (by first | exact rfl | fail) (by first | exact rfl | fail) rfl ?_); (refine wpl_step rfl ?_); (refine su (ap_build (RqP.cons (rq_p rfl rfl) (RqP.nil)) rfl) ?_); (apply jW); (refine wpl_step rfl ?_); (refine se_lit (OpP.cons rfl (OpP.cons rfl (OpP.cons rfl (OpP.nil)))) rfl rfl rfl rfl rfl rfl ?_); (apply jW); (refine wpl_frz 7 hm rfl rfl (by first | exact rfl | fail) (by first | exact rfl | fail) rfl ?_); (refine wpl_step rfl ?_); (refine su (ap_build (RqP.cons (rq_p rfl rfl) (RqP.nil)) rfl) ?_); (apply jW); (refine wpl_step rfl ?_); (refine se_lit (OpP.cons rfl (OpP.nil)) rfl rfl rfl rfl rfl rfl ?_); (apply jW); (refine wpl_frz 9 hm rfl rfl (by first | exact rfl | fail) (by first | exact rfl | fail) rfl ?_); (refine wpl_step rfl ?_); (refine su (ap_build (RqP.cons (rq_p rfl rfl) (RqP.nil)) rfl) ?_); (apply jW); (refine wpl_step rfl ?_); (refine se_lit (OpP.cons rfl (OpP.cons rfl (OpP.cons rfl (OpP.nil)))) rfl rfl rfl rfl rfl rfl ?_); (apply jW); (refine wpl_frz 11 hm rfl rfl (by first | exact rfl | fail) (by first | exact rfl | fail) rfl ?_); (refine wpl_step rfl ?_); (refine su (ap_build (RqP.cons (rq_p rfl rfl) (RqP.cons (rq_p rfl rfl) (RqP.cons (rq_p rfl rfl) (RqP.nil)))) rfl) ?_); (apply jW); (refine wpl_step rfl ?_); (refine se_alloc rfl ?_); (apply jW); (refine wpl_step rfl ?_); (refine se_store_b rfl rfl rfl rfl ?_); (apply jW); (apply jX)) | (refine wpl_region (id := 2) ?_; (refine wpl_step rfl ?_); (refine sloadpw rfl rfl rfl rfl ?_); (apply jW); (refine wpl_step rfl ?_); (refine se_lit (OpP.cons rfl (OpP.nil)) rfl rfl rfl rfl rfl rfl ?_); (apply jW); (refine wpl_frz 14 hm rfl rfl (by first | exact rfl | fail) (by first | exact rfl | fail) rfl ?_); (refine wpl_step rfl ?_); (refine su (ap_build (RqP.cons (rq_p rfl rfl) (RqP.cons (rq_p rfl rfl) (RqP.nil))) rfl) ?_); (apply jW); (refine wpl_step rfl ?_); (refine se_lit (OpP.cons rfl (OpP.nil)) rfl rfl rfl rfl rfl rfl ?_); (apply jW); (refine wpl_frz 16 hm rfl rfl (by first | exact rfl | fail) (by first | exact rfl | fail) rfl ?_); (refine wpl_step rfl ?_); (refine su (ap_build (RqP.cons (rq_p rfl rfl) (RqP.cons (rq_p rfl rfl) (RqP.nil))) rfl) ?_); (apply jW); (refine wpl_step rfl ?_); (refine se_lit (OpP.cons rfl (OpP.cons rfl (OpP.nil))) rfl rfl rfl rfl rfl rfl ?_); (apply jW); (refine wpl_frz 18 hm rfl rfl (by first | exact rfl | fail) (by first | exact rfl | fail) rfl ?_); (refine wpl_step rfl ?_); (refine se_store_b rfl rfl rfl rfl ?_); (apply jW); (refine wpl_step rfl ?_); (refine sassign rfl ?_); (apply jW); (apply jX))))
 exact ret_many (.cellT rfl rfl rfl rfl (.tmp rfl .nil)) (nle rfl) (by first | ((repeat' first | exact FzL.nil | refine FzL.cons ?_ ?_ | (exact Fz.reflp (by simp [AV.bd, bdL, bdL_append]))); done) | fail)
theorem awake20_fn : Fn Tryd.prog 11 [] (boolA true) := by
 have hex := example20_fn
 have hst := pstrat_fn exg20 exl20 (few_ex _ (by decide +kernel))
 rw [ex_strat] at hst
 have hc1 := pcheck_fn exg20 exm20 (few_ex _ (by decide +kernel))
 rw [show checkG exg20 exm20 = 4 by decide +kernel] at hc1
 have hc2 := pcheck_fn exg20 exn20 (few_ex _ (by decide +kernel))
 rw [show checkG exg20 exn20 = 14 by decide +kernel] at hc2
 have hc3 := pcheck_fn exg20 exl20 (few_ex _ (by decide +kernel))
 rw [ex_check] at hc3
 have heq := requal18_fn exw20 exw20
 have hsm := same20_fn [0, 1, 2, -1, -1] [0, 1, 2, -1, -1]
 rw [decide_eq_true rfl] at hsm
 unfold stratA at hst
 simp only at hst
 refine Fn.intro rfl (by kernel_rfl) Tryd.func11 rfl rfl Tryd.ntmps11 (by exact nle rfl) ?_; intro Γ hm
 (repeat' (first | apply jA | apply jH | (refine rgC 0 ?_; (refine sassign rfl ?_); apply jW) | (refine rgC 1 ?_; (refine sc_p rfl rfl (by first | ((repeat' (exact SubL.nil)); done) | fail) zq5 (hex) ?_); (refine smove rfl ?_); (refine su (aextract rfl rfl) ?_); (refine su (aextract rfl rfl) ?_); (refine se_alloc rfl ?_); (refine se_store_b rfl rfl rfl rfl ?_); (refine sassign rfl ?_); apply jW) | (refine rgC 2 ?_; (refine sloadpw rfl rfl rfl rfl ?_); (refine smove rfl ?_); (refine sc_p rfl rfl zq1 zq5 (hst) ?_); (refine smove rfl ?_); (refine su (aextract rfl rfl) ?_); (refine su (aextract rfl rfl) ?_); (refine su (aextract rfl rfl) ?_); (refine se_alloc rfl ?_); (refine se_store_b rfl rfl rfl rfl ?_); (refine sassign rfl ?_); (refine sassign rfl ?_); apply jW) | (refine wpl_region (id := 3) ?_; (refine wpl_step rfl ?_); (refine sfieldp rfl rfl rfl ?_); (apply jW); (refine wpl_step rfl ?_); (refine sloadp rfl rfl rfl rfl ?_); (apply jW); (refine wpl_step rfl ?_); (refine se_lit (OpP.cons rfl (OpP.cons rfl (OpP.cons rfl (OpP.nil)))) rfl rfl rfl rfl rfl rfl ?_); (apply jW); (refine wpl_frz 22 hm rfl rfl (by first | exact rfl | fail) (by first | exact rfl | fail) rfl ?_); (refine wpl_step rfl ?_); (refine se_lit (OpP.cons rfl (OpP.cons rfl (OpP.cons rfl (OpP.nil)))) rfl rfl rfl rfl rfl rfl ?_); (apply jW); (refine wpl_frz 23 hm rfl rfl (by first | exact rfl | fail) (by first | exact rfl | fail) rfl ?_); (refine wpl_step rfl ?_); (refine su (ap_build (RqP.cons (rq_p rfl rfl) (RqP.cons (rq_p rfl rfl) (RqP.nil))) rfl) ?_); (apply jW); (refine wpl_step rfl ?_); (refine se_lit (OpP.cons rfl (OpP.cons rfl (OpP.cons rfl (OpP.nil)))) rfl rfl rfl rfl rfl rfl ?_); (apply jW); (refine wpl_frz 25 hm rfl rfl (by first | exact rfl | fail) (by first | exact rfl | fail) rfl ?_); (refine wpl_step rfl ?_); (refine su (ap_build (RqP.cons (rq_p rfl rfl) (RqP.cons (rq_p rfl rfl) (RqP.nil))) rfl) ?_); (apply jW); (refine wpl_step rfl ?_); (refine se_lit (OpP.cons rfl (OpP.nil)) rfl rfl rfl rfl rfl rfl ?_); (apply jW); (refine wpl_frz 27 hm rfl rfl (by first | exact rfl | fail) (by first | exact rfl | fail) rfl ?_); (refine wpl_step rfl ?_); (refine su (ap_build (RqP.cons (rq_p rfl rfl) (RqP.cons (rq_p rfl rfl) (RqP.nil))) rfl) ?_); (apply jW); (refine wpl_step rfl ?_); (refine se_lit (OpP.cons rfl (OpP.nil)) rfl rfl rfl rfl rfl rfl ?_); (apply jW); (refine wpl_frz 29 hm rfl rfl (by first | exact rfl | fail) (by first | exact rfl | fail) rfl ?_); (refine wpl_step rfl ?_); (refine su (ap_build (RqP.cons (rq_p rfl rfl) (RqP.cons (rq_p rfl rfl) (RqP.nil))) rfl) ?_); (apply jW); (refine wpl_step rfl ?_); (refine se_lit (OpP.cons rfl (OpP.nil)) rfl rfl rfl rfl rfl rfl ?_); (apply jW); (refine wpl_frz 31 hm rfl rfl (by first | exact rfl | fail) (by first | exact rfl | fail) rfl ?_); (refine wpl_step rfl ?_); (refine su (ap_build (RqP.cons (rq_p rfl rfl) (RqP.cons (rq_p rfl rfl) (RqP.nil))) rfl) ?_); (apply jW); (refine wpl_step rfl ?_); (refine se_lit (OpP.cons rfl (OpP.cons rfl (OpP.cons rfl (OpP.cons rfl (OpP.cons rfl (OpP.nil)))))) rfl rfl rfl rfl rfl rfl ?_); (apply jW); (refine wpl_frz 33 hm rfl rfl (by first | exact rfl | fail) (by first | exact rfl | fail) rfl ?_); (refine wpl_step rfl ?_); (refine su (ap_build (RqP.cons (rq_p rfl rfl) (RqP.cons (rq_p rfl rfl) (RqP.cons (rq_p rfl rfl) (RqP.nil)))) rfl) ?_); (apply jW); (refine wpl_step rfl ?_); (refine se_alloc rfl ?_); (apply jW); (refine wpl_step rfl ?_); (refine se_store_b rfl rfl rfl rfl ?_); (apply jW); (apply jX))))
 refine wp_st (S 71 [(1, .ptr 0 4 0 0), (2, levelsA exl20), (3, .ptr 1 4 0 0), (4, intsA [0, 1, 2, -1, -1]), (5, intA 0), (6, .ptr 2 4 0 0)] 3 [(0, some (.arr 4 [gramA exg20])), (1, some (.arr 4 [gramA exw20])), (2, some (.arr 4 [gramA exw20]))]) ⟨[0, 1, 9], ToR.S rfl (by repeat' (first | exact rt_nil | refine rt_t rfl rfl ?_ | refine rt_e rfl rfl ?_)) (by repeat' (first | exact ro_nil | refine ro_e rfl rfl ?_)) rfl (by (rw [hm]; exact rfl)) rfl zq4 (by repeat' (first | exact True.intro | exact rfl | refine And.intro ?_ ?_)) (by (rw [hm]; exact nle rfl))⟩ ?_
 (repeat' (first | apply jA | apply jH | (refine wpl_region (id := 4) ?_; (refine wpl_step rfl ?_); (refine sloadpw rfl rfl rfl rfl ?_); (apply jW); (refine wpl_step rfl ?_); (refine se_lit (OpP.cons rfl (OpP.nil)) rfl rfl rfl rfl rfl rfl ?_); (apply jW); (refine wpl_frz 36 hm rfl rfl (by first | exact rfl | fail) (by first | exact rfl | fail) rfl ?_); (refine wpl_step rfl ?_); (refine su (ap_build (RqP.cons (rq_p rfl rfl) (RqP.cons (rq_p rfl rfl) (RqP.nil))) rfl) ?_); (apply jW); (refine wpl_step rfl ?_); (refine se_lit (OpP.cons rfl (OpP.nil)) rfl rfl rfl rfl rfl rfl ?_); (apply jW); (refine wpl_frz 38 hm rfl rfl (by first | exact rfl | fail) (by first | exact rfl | fail) rfl ?_); (refine wpl_step rfl ?_); (refine sc_p rfl rfl zq1 zq5 (hc1) ?_); (apply jW); (refine wpl_step rfl ?_); (refine sassign rfl ?_); (apply jW); (apply jX)) | (refine wpl_region (id := 5) ?_; (refine wpl_step rfl ?_); (refine sloadpw rfl rfl rfl rfl ?_); (apply jW); (refine wpl_step rfl ?_); (refine se_lit (OpP.cons rfl (OpP.nil)) rfl rfl rfl rfl rfl rfl ?_); (apply jW); (refine wpl_frz 41 hm rfl rfl (by first | exact rfl | fail) (by first | exact rfl | fail) rfl ?_); (refine wpl_step rfl ?_); (refine su (ap_build (RqP.cons (rq_p rfl rfl) (RqP.cons (rq_p rfl rfl) (RqP.nil))) rfl) ?_); (apply jW); (refine wpl_step rfl ?_); (refine se_lit (OpP.cons rfl (OpP.nil)) rfl rfl rfl rfl rfl rfl ?_); (apply jW); (refine wpl_frz 43 hm rfl rfl (by first | exact rfl | fail) (by first | exact rfl | fail) rfl ?_); (refine wpl_step rfl ?_); (refine sc_p rfl rfl zq1 zq5 (hc2) ?_); (apply jW); (refine wpl_step rfl ?_); (refine sassign rfl ?_); (apply jW); (apply jX))))
 (repeat' (first | apply jH | apply jK | apply jS | (refine rgC 6 ?_ <;> (refine smove rfl ?_) <;> (refine seql rfl rfl ?_) <;> (refine smove rfl ?_) <;> (refine sg (gq_vt rfl rfl) (fun he => ap_load_pw (rq_p rfl rfl) rfl rfl rfl) ?_) <;> (refine sg (gq_vt rfl rfl) (fun he => ap_load_pw (rq_p rfl rfl) rfl rfl rfl) ?_) <;> (refine sg_p (gq_vt rfl rfl) (fun he => ⟨(rq_p rfl rfl), (RqL.cons (rq_c rfl rfl) (RqL.cons (rq_c rfl rfl) (RqL.nil))), zq1, zq5, requal18_fn _ _⟩) ?_) <;> (refine su (ap_and (rq_p rfl rfl) (rq_c rfl rfl)) ?_) <;> (refine smove rfl ?_) <;> (refine sg (gq_vt rfl rfl) (fun he => ap_move (rq_p rfl rfl)) ?_) <;> (refine sgt_lit rfl rfl rfl (OpP.cons rfl (OpP.cons rfl (OpP.cons rfl (OpP.cons rfl (OpP.cons rfl (OpP.nil)))))) rfl rfl rfl rfl rfl rfl ?_) <;> (refine sg_b (gq_vt rfl rfl) (fun he => ⟨(rq_p rfl rfl), (RqL.cons (rq_c rfl rfl) (RqL.cons (rq_p rfl rfl) (RqL.nil))), (by first | ((repeat' first | exact FzL.nil | refine FzL.cons ?_ ?_ | (exact Fz.list rfl rfl (fun _ => by simp [AV.bd, bdL, bdL_append]) (fun _ => rfl)) | (exact Fz.reflp (by simp [AV.bd, bdL, bdL_append]))); done) | fail), hsm, rfl⟩) ?_) <;> (refine su (ap_and (rq_p rfl rfl) (rq_c rfl rfl)) ?_) <;> (refine smove rfl ?_) <;> (refine sg (gq_vt rfl rfl) (fun he => ap_move (rq_p rfl rfl)) ?_) <;> (refine sg (gq_vt rfl rfl) (fun he => ap_eql (rq_c rfl rfl) (rq_p rfl rfl)) ?_) <;> (refine su (ap_and (rq_p rfl rfl) (rq_c rfl rfl)) ?_) <;> (refine smove rfl ?_) <;> (refine sg (gq_vt rfl rfl) (fun he => ap_move (rq_p rfl rfl)) ?_) <;> (refine sg (gq_vt rfl rfl) (fun he => ap_eql (rq_c rfl rfl) (rq_p rfl rfl)) ?_) <;> (refine su (ap_and (rq_p rfl rfl) (rq_c rfl rfl)) ?_) <;> (refine smove rfl ?_) <;> (refine sg (gq_vt rfl rfl) (fun he => ap_load_pw (rq_p rfl rfl) rfl rfl rfl) ?_) <;> (refine sg (gq_vt rfl rfl) (fun he => ap_move (rq_p rfl rfl)) ?_) <;> (refine sg_p (gq_vt rfl rfl) (fun he => ⟨(rq_p rfl rfl), (RqL.cons (rq_c rfl rfl) (RqL.cons (rq_c rfl rfl) (RqL.nil))), zq1, zq5, hc3⟩) ?_) <;> (refine sg (gq_vt rfl rfl) (fun he => ap_eql (rq_c rfl rfl) (rq_p rfl rfl)) ?_) <;> (refine su (ap_and (rq_p rfl rfl) (rq_c rfl rfl)) ?_) <;> (refine sassign rfl ?_) <;> apply jW) | exact ret_eq rfl rfl rfl))
 all_goals (rfl)
end Go.Lg
namespace Go.Lg
open Go.Proofs Go.RowKit Go.ChangeShapes Go.WideShapes
abbrev u8V (n : Int) : AV := .val (.int .u8 n)
def Arr8 (zs : List Int) : Prop := zs.length = 8 /\ ∀ z, z ∈ zs -> 0 <= z /\ z <= 255
theorem arg_arr8 {H : Type} {enc : TypeId × Value -> H} {w : World} {v : Value} {d : DataW H} {ps : List MemPlace} (h : DataW.Trod enc Tryd.prog w 0 (fun _ => true) true 40 v d ps) {r : Reach} {b0 : Nat} (hval : Value.okWide Tryd.prog w r b0 40 v) :
  ∃ zs : List Int, Arr8 zs /\ RW0 w (.agg (zs.map u8V)) v := by
 have hu : Tryd.prog.underlying 40 = some (.array 8 5) := by kernel_rfl
 have hu8 : Tryd.prog.underlying 5 = some (.int .u8) := by kernel_rfl
 have hc1 : Tryd.prog.cellsOf 5 = 1 := by kernel_rfl
 have hc8 : Tryd.prog.cellsOf 40 = 8 := by kernel_rfl
 obtain ⟨vs, rfl⟩ : ∃ vs, v = .agg vs := by
  unfold Value.okWide at hval
  rw [hu] at hval
  obtain ⟨cs, rfl, _⟩ := hval
  exact ⟨cs, rfl⟩
 obtain ⟨fuel, h⟩ := h
 obtain ⟨xs, m, _, _, hl, hx, he⟩ := DataW.trod_array hu h
 rw [hc8] at hl
 rw [hc1] at he
 have hvs : (Value.agg vs).cells.toList = vs.toList := rfl
 rw [hvs] at hl he
 obtain ⟨zs, hz1, hz2⟩ := list_of_each (n := 8) (Q := fun i (z : Int) => vs.toList[i]? = some (.int .u8 z) /\ 0 <= z /\ z <= 255) (fun i hi => by
  have := he i hi
  rw [List.getElem?_eq_getElem (by omega)] at this
  obtain ⟨z, hz, _, hwf⟩ := DataW.trod_int hu8 this
  refine ⟨z, ?_, by simpa [Lit.wf, IntKind.min, IntKind.max, IntKind.signed, IntKind.bits] using hwf⟩
  have h0 : (List.take 1 (List.drop (i * 1) vs.toList))[0]? = some (.int .u8 z) := by rw [hz]; rfl
  rw [List.getElem?_take_of_lt (by omega), List.getElem?_drop] at h0
  simpa using h0)
 refine ⟨zs, ⟨hz1, fun z hz => ?_⟩, CR.agg ⟨by simp only [List.length_map]; omega, fun x hx => ?_, fun i x y hx hy => ?_⟩⟩
 ·obtain ⟨i, hi⟩ := List.getElem?_of_mem hz
  exact (hz2 i z hi).2
 ·obtain ⟨i, hi⟩ := List.getElem?_of_mem hx
  have hlt := (List.getElem?_eq_some_iff.1 hi).1
  have := (hz2 i _ (List.getElem?_eq_getElem (by omega))).1
  rw [hi] at this
  obtain rfl := Option.some.inj this
  rfl
 ·rw [List.getElem?_map, Option.map_eq_some_iff] at hx
  obtain ⟨z, hz, rfl⟩ := hx
  have := (hz2 i z hz).1
  rw [hy] at this
  obtain rfl := Option.some.inj this
  exact .val rfl
end Go.Lg
namespace Go.Lg
open Go.Proofs
attribute [local irreducible] Ap Rq asemC WP RunD Ret Gq thenA inBlockA bodyQ noGotoA RqL RqP OpP
attribute [local simp] AV.cells
instance arI40 : ArI Tryd.prog 40 8 := by
 obtain ⟨d, i, hd, hi, hti⟩ := tinfo_of @ti5
 have h1 : i.size = 1 := by have := congrArg TI.size hti; exact this.symm
 exact ⟨5, i, by kernel_rfl, hi, h1, by kernel_rfl⟩
def seqT (zs : List Int) (n : Int) (i : Nat) : List Int := (List.range i).map fun k => (nth zs k).tmod n
def seqL (zs : List Int) (n : Int) : List Int := seqT zs n ((nth zs 7).tmod 8).toNat
theorem seqT_len (zs : List Int) (n : Int) (i : Nat) : (seqT zs n i).length = i := by simp [seqT]
theorem seqT_succ (zs : List Int) (n : Int) (i : Nat) : seqT zs n (i + 1) = seqT zs n i ++ [(nth zs i).tmod n] := by simp [seqT, List.range_succ]
theorem seqL_len {zs : List Int} (hz : Arr8 zs) (n : Int) : (seqL zs n).length <= 7 := by
 unfold seqL
 rw [seqT_len]
 have h7 := hz.2 (nth zs 7) (nth_mem (by rw [hz.1]; omega))
 rw [Int.tmod_eq_emod_of_nonneg h7.1]
 omega
theorem sequence_fn (zs : List Int) (n : Int) (hz : Arr8 zs) (hn : 0 < n) (hn2 : n <= 1000) : Fn Tryd.prog 19 [.agg (zs.map u8V), intA n] (intsA (seqL zs n)) := by
 have h7 := hz.2 (nth zs 7) (nth_mem (by rw [hz.1]; omega))
 have hem := Int.tmod_eq_emod_of_nonneg (a := nth zs 7) (b := 8) h7.1
 have hcc : (((nth zs 7).tmod 8).toNat : Int) = (nth zs 7).tmod 8 := by omega
 have hc7 : ((nth zs 7).tmod 8).toNat <= 7 := by omega
 have hat : ∀ j, j < 8 -> (zs.map u8V)[j]? = some (u8V (nth zs j)) := fun j hj => by rw [List.getElem?_map, List.getElem?_eq_getElem (by rw [hz.1]; exact hj)]; simp [nth_eq (show j < zs.length by rw [hz.1]; exact hj)]
 have hbz : ∀ j, j < 8 -> 0 <= nth zs j /\ nth zs j <= 255 := fun j hj => hz.2 _ (nth_mem (by rw [hz.1]; exact hj))
 unfold seqL
 generalize hc : ((nth zs 7).tmod 8).toNat = c at *
 obtain ⟨z0, z1, z2, z3, z4, z5, z6, z7, hzs⟩ : ∃ z0 z1 z2 z3 z4 z5 z6 z7, zs = [z0, z1, z2, z3, z4, z5, z6, z7] := by
  have hl := hz.1
  match zs, hl with
  | [z0, z1, z2, z3, z4, z5, z6, z7], _ => exact ⟨z0, z1, z2, z3, z4, z5, z6, z7, rfl⟩
 have hmap : zs.map u8V = [u8V z0, u8V z1, u8V z2, u8V z3, u8V z4, u8V z5, u8V z6, u8V z7] := by rw [hzs]; rfl
 rw [hmap] at hat ⊢
 refine Fn.intro (by simp [AV.bd, bdL, bdL_append]) (by kernel_rfl) Tryd.func19 rfl rfl Tryd.ntmps19 (by exact nle rfl) ?_; intro Γ hm
 (repeat' (first | apply jA | apply jF | apply jH | (refine rgC 0 ?_; (refine se_box rfl (by exact ⟨rfl, rfl⟩) ?_); (refine sassign rfl ?_); apply jW) | (refine WP.regionC ?_; (refine sassign rfl ?_); apply jW)))
 refine wp_nil 5 1 rfl ?_
 refine wp_loop (fun (i : Nat) => i <= c) (fun i => c - i)
  (fun i => (S 25 [(1, intA n), (2, .ptr 0 8 0 0), (5, .ref 1 1 0 (seqT zs n i).length), (6, intA (i : Nat))] 2 [(0, some (.arr 8 [.agg [u8V z0, u8V z1, u8V z2, u8V z3, u8V z4, u8V z5, u8V z6, u8V z7]])), (1, some (.arr 1 ((seqT zs n i).map intA)))])) 0 ⟨[0, 1], ToR.S rfl (by repeat' (first | exact rt_nil | refine rt_r rfl rfl ?_ | refine rt_t rfl rfl ?_ | refine rt_e rfl rfl ?_)) (by repeat' (first | exact ro_nil | refine ro_e rfl rfl ?_)) rfl (by (rw [hm]; exact rfl)) rfl zq4 (by repeat' (first | exact True.intro | exact rfl | refine And.intro ?_ ?_)) (by (rw [hm]; exact nle rfl))⟩ (Nat.zero_le _) ?_
 intro i hi
 have hsl := seqT_len zs n i
 have hss := seqT_succ zs n i
 (repeat' (refine WP.seq ?_))
 refine rgC 3 ?_
 refine smove rfl ?_
 refine se_idxA (z := 7) rfl rfl (by omega) ?_
 refine sloadp (y := .agg [u8V z0, u8V z1, u8V z2, u8V z3, u8V z4, u8V z5, u8V z6, u8V z7]) (x := u8V (nth zs 7)) rfl rfl rfl (by exact hat 7 (by omega)) ?_
 refine su (arem rfl rfl (by omega)) ?_
 refine su (aconv (k := .i64) rfl rfl (by kernel_rfl) (inr_i64_of (by omega))) ?_
 rw [<- hcc]
 refine slss rfl rfl ?_
 refine asemC_end ?_
 by_cases hlt : i < c
 ·have hbi := hbz i (by omega)
  (repeat' (first | apply jA | apply jF | apply jH | apply jI | (refine wp_cond rfl (fun hc => ?_) (fun hc => ?_) <;> (try simp only [sB, ne_eq, reduceCtorEq] at hc) <;> (try (exfalso; omega)))))
  refine rgC 5 ?_
  refine smove rfl ?_
  refine smove rfl ?_
  refine se_idxA (z := (i : Int)) rfl rfl (by omega) ?_
  refine sloadp (y := .agg [u8V z0, u8V z1, u8V z2, u8V z3, u8V z4, u8V z5, u8V z6, u8V z7]) (x := u8V (nth zs i)) rfl rfl rfl (by rw [Nat.zero_add, Int.toNat_natCast]; exact hat i (by omega)) ?_
  refine su (aconv (k := .i64) rfl rfl (by kernel_rfl) (inr_i64_of (by omega))) ?_
  refine smove rfl ?_
  refine su (arem rfl rfl (by omega)) ?_
  refine se_lit (OpP.cons rfl OpP.nil) rfl rfl rfl rfl rfl rfl ?_
  refine se_app1 (f := intA) (L := seqT zs n i) (v := (nth zs i).tmod n) rfl rfl rfl rfl rfl rfl rfl rfl (by omega) ?_
  refine sassign rfl ?_
  refine asemC_end ?_
  (repeat' (first | apply jH | apply jN | (refine rgC 4 ?_; (refine smove rfl ?_); (refine sadd rfl rfl (by exact inr_i64_of (by omega)) ?_); (refine sassign rfl ?_); apply jW)))
  refine ⟨i + 1, ⟨by omega, by omega⟩, ?_⟩
  rw [hss]
  exact ⟨[0, 3], ToR.S rfl (by repeat' (first | exact rt_nil | refine rt_r rfl rfl ?_ | refine rt_t rfl rfl ?_ | refine rt_e rfl rfl ?_)) (by repeat' (first | exact ro_nil | refine ro_e rfl rfl ?_ | refine ro_p rfl (by first | exact rfl | fail) (by first | exact bdL_map (fun _ => by exact rfl) _ | fail) ?_)) rfl (by (rw [hm]; exact rfl)) rfl zq4 (by repeat' (first | exact True.intro | exact rfl | refine And.intro ?_ ?_ | exact bdL_map (fun _ => by exact rfl) _)) (by (rw [hm]; exact nle rfl))⟩
 ·obtain rfl : i = c := by omega
  (repeat' (first | apply jA | apply jH | apply jJ | apply jL | apply jP | (refine wp_cond rfl (fun hc => ?_) (fun hc => ?_) <;> (try simp only [sB, ne_eq, reduceCtorEq] at hc) <;> (try (exfalso; omega)))))
  refine wp_frz (f := intA) (L := seqT zs n i) 5 hm rfl rfl rfl (fun _ => rfl) (fun _ => rfl) ?_
  (repeat' (first | apply jH | apply jK | apply jS | (refine rgC 6 ?_; (refine smove rfl ?_); (refine sassign rfl ?_); apply jW) | exact ret_eq rfl (by (simp [AV.bd, bdL, bdL_append]; done)) rfl))
theorem lit8 {zs : List Int} (hz : zs.length = 8) : ∃ z0 z1 z2 z3 z4 z5 z6 z7, zs.map u8V = [u8V z0, u8V z1, u8V z2, u8V z3, u8V z4, u8V z5, u8V z6, u8V z7] := by
 match zs, hz with
 | [z0, z1, z2, z3, z4, z5, z6, z7], _ => exact ⟨z0, z1, z2, z3, z4, z5, z6, z7, rfl⟩
end Go.Lg
namespace Go.Lg
open Go.Proofs
attribute [local irreducible] Ap Rq asemC WP RunD Ret Gq thenA inBlockA bodyQ noGotoA RqL RqP OpP
attribute [local simp] AV.cells
@[local simp] theorem bdL_d (n b : Nat) (L : List Int) : bdL n (List.drop b (List.map intA L)) = true := by rw [<- List.map_drop]; exact bdL_intA _ _
@[local simp] theorem bdL_t (n b : Nat) (L : List Int) : bdL n (List.take b (List.map intA L)) = true := by rw [<- List.map_take]; exact bdL_intA _ _
theorem expr_fn {g : Gram} {l : List GLe} (hG : OpG g l) (hf : FewL l) : ∀ (n : Nat) (s : List Int), s.length < n -> s.length <= 1000 -> Fn Tryd.prog 24 [gramA g, levelsA l, intsA s] (boolA (exprE g l n s))
  | 0, s, h, _ => by omega
  | n + 1, s, h, hs => by
    have hr := root_fn hG hf s hs
    rw [exprE]
    generalize hR : rootE g l s = R at *
    obtain ⟨q, ok⟩ := R
    simp only at hr ⊢
    by_cases hb : ok = false \/ q < 0
    · rw [if_pos hb]
      refine Fn.intro (by first | exact rfl | simp [AV.bd, bdL, bdL_append]) (by kernel_rfl) Tryd.func24 rfl rfl Tryd.ntmps24 (by first | exact nle rfl | simp) ?_; intro Γ hm
      (repeat' (first | refine WP.seq ?_
                          | refine WP.label ?_
                          | refine ng_n ?_
                          | refine ng_r ?_
                          | refine ng_x ?_
                          | refine WP.block ?_
                          | refine WP.scope ?_
                          | refine go_n ?_
                          | refine WP.skip ?_
                          | refine WP.exit ?_
                          | refine WP.ret ?_
                          | refine go_x ?_
                          | refine go_r ?_
                          | refine bl_n ?_
                          | refine bl_r ?_
                          | refine bl_x ?_
                          | refine bl_y (by rfl) ?_
                          | refine bo_n ?_
                          | refine bo_r ?_
                          | (refine wp_cond (by rfl) (fun hc => ?_) (fun hc => ?_) <;> (try simp only [sB, ne_eq, reduceCtorEq] at hc) <;> (try (exfalso; omega)))
                          | (refine rgC 0 ?_; (refine se_box (by rfl) (by exact ⟨rfl, rfl⟩) ?_); (refine su (ap_assign (by first | exact rq_p rfl rfl | exact rq_c rfl rfl)) ?_); refine asemC_end ?_)
                          | (refine rgC 1 ?_; (first | refine su (ap_load_w (by first | exact rq_p rfl rfl | exact rq_c rfl rfl) (by rfl)) ?_ | refine su (ap_load_i (by first | exact rq_p rfl rfl | exact rq_c rfl rfl) (by rfl)) ?_ | refine su (ap_load_pw (by first | exact rq_p rfl rfl | exact rq_c rfl rfl) (by rfl) (by rfl) (by rfl)) ?_ | refine su (ap_load_p (by first | exact rq_p rfl rfl | exact rq_c rfl rfl) (by rfl) (by rfl) (by rfl)) ?_ | refine su (ap_load_pt (by first | exact rq_p rfl rfl | exact rq_c rfl rfl) (by rfl) (by first | omega | exact inr_i64_of (by omega) | exact inr_u8_of (by omega) | (simp only [sL] <;> omega) | (simp only [bsz, sZ] <;> omega) | assumption) (by rfl)) ?_ | refine su (ap_load_ptf (by first | exact rq_p rfl rfl | exact rq_c rfl rfl) (by rfl) (by first | omega | exact inr_i64_of (by omega) | exact inr_u8_of (by omega) | (simp only [sL] <;> omega) | (simp only [bsz, sZ] <;> omega) | assumption) (by rfl)) ?_); (refine su (ap_move (by first | exact rq_p rfl rfl | exact rq_c rfl rfl)) ?_); (refine su (ap_move (by first | exact rq_p rfl rfl | exact rq_c rfl rfl)) ?_); (refine sc_p rfl rfl (by first | ((repeat' first | exact SubL.nil | refine SubL.cons ?_ ?_ | exact SubL.rfl | exact Sub.refl | exact Sub.nil | refine Sub.aggL ?_); done) | fail) (by first | (simp [bdL, bdL_append, AV.bd]; done) | (simp [bdL, bdL_append, AV.bd, *]; done) | (simp [bdL, bdL_append, AV.bd, AV.cells]; done) | fail) (hr) ?_); (refine su (ap_move (by first | exact rq_p rfl rfl | exact rq_c rfl rfl)) ?_); (refine su (ap_extract (by first | exact rq_p rfl rfl | exact rq_c rfl rfl) (by rfl)) ?_); (refine su (ap_extract (by first | exact rq_p rfl rfl | exact rq_c rfl rfl) (by rfl)) ?_); (refine su (ap_assign (by first | exact rq_p rfl rfl | exact rq_c rfl rfl)) ?_); (refine su (ap_assign (by first | exact rq_p rfl rfl | exact rq_c rfl rfl)) ?_); refine asemC_end ?_)
                          | (refine rgC 2 ?_; (refine su (ap_move (by first | exact rq_p rfl rfl | exact rq_c rfl rfl)) ?_); (refine su (ap_not (by first | exact rq_p rfl rfl | exact rq_c rfl rfl)) ?_); (refine su (ap_move (by first | exact rq_p rfl rfl | exact rq_c rfl rfl)) ?_); (first | refine sg (by first | exact gq_vf rfl rfl | exact gq_cf rfl rfl) (fun he => ap_move (by first | exact rq_p rfl rfl | exact rq_c rfl rfl)) ?_ | refine sk_no (by rfl) (by rfl) ?_); (first | refine sg (by first | exact gq_vf rfl rfl | exact gq_cf rfl rfl) (fun he => ap_lss (by first | exact rq_p rfl rfl | exact rq_c rfl rfl) (by first | exact rq_p rfl rfl | exact rq_c rfl rfl)) ?_ | refine sg (by first | exact gq_vf rfl rfl | exact gq_cf rfl rfl) (fun he => ap_lts (by first | exact rq_p rfl rfl | exact rq_c rfl rfl) (by first | exact rq_p rfl rfl | exact rq_c rfl rfl)) ?_ | refine sk_no (by rfl) (by rfl) ?_); (first | refine su (ap_or (by first | exact rq_p rfl rfl | exact rq_c rfl rfl) (by first | exact rq_p rfl rfl | exact rq_c rfl rfl)) ?_ | refine pk_t (by rfl) (by rfl) ?_ | refine pk_f (by rfl) (by rfl) ?_); refine asemC_end ?_)
                          | (refine rgC 3 ?_; (refine su (ap_move (by first | exact rq_p rfl rfl | exact rq_c rfl rfl)) ?_); (refine su (ap_assign (by first | exact rq_p rfl rfl | exact rq_c rfl rfl)) ?_); refine asemC_end ?_)
                          | refine ret_2 (by rfl) (by rfl) (by first | exact rfl | (simp [AV.bd, bdL, bdL_append]; done)) (by first | exact rfl | (simp [AV.bd, bdL, bdL_append]; done)) ?_ | exact ret_eq (by rfl) (by first | exact rfl | (simp [AV.bd, bdL, bdL_append]; done)) rfl | refine ret_b (by rfl) ?_ | refine ret_i (by rfl) ?_ | refine ret_sl (by rfl) (by rfl) (by first | exact rfl | assumption | omega | (simp; omega) | simp_all) (fun _ => by first | exact rfl | simp [AV.bd, bdL, bdL_append]) (fun _ => rfl) ?_))
      all_goals try (exfalso; simp at hc; omega)
      all_goals (exfalso; revert hc hb; cases ok <;> simp <;> omega)
    · rw [if_neg hb]
      obtain ⟨rfl, q0⟩ : ok = true /\ 0 <= q := by cases ok <;> simp at hb <;> first | exact ⟨rfl, by omega⟩ | skip
      have hq := rootE_lt hR q0
      obtain ⟨k, rfl⟩ := Int.eq_ofNat_of_zero_le q0
      rw [Int.toNat_natCast] at hq ⊢
      have e1 := expr_fn hG hf n (s.take k) (by rw [List.length_take]; omega) (by rw [List.length_take]; omega)
      have e2 := expr_fn hG hf n (s.drop (k + 1)) (by rw [List.length_drop]; omega) (by rw [List.length_drop]; omega)
      generalize exprE g l n (s.take k) = b1 at *
      generalize exprE g l n (s.drop (k + 1)) = b2 at *
      have e3 : Fn Tryd.prog 24 [gramA g, levelsA l, .sl 1 (((s.take ((k : Nat) : Int).toNat).drop (Int.toNat 0)).map intA)] (boolA b1) := e1
      have e4 : Fn Tryd.prog 24 [gramA g, levelsA l, .sl 1 (((s.take (((s.map intA).length : Nat) : Int).toNat).drop ((k : Int) + 1).toNat).map intA)] (boolA b2) := by
        rw [List.length_map, Int.toNat_natCast, List.take_length, show ((k : Int) + 1).toNat = k + 1 by omega]; exact e2
      refine Fn.intro (by first | exact rfl | simp [AV.bd, bdL, bdL_append]) (by kernel_rfl) Tryd.func24 rfl rfl Tryd.ntmps24 (by first | exact nle rfl | simp) ?_; intro Γ hm
      (repeat' (first | refine WP.seq ?_
                          | refine WP.label ?_
                          | refine ng_n ?_
                          | refine ng_r ?_
                          | refine ng_x ?_
                          | refine WP.block ?_
                          | refine WP.scope ?_
                          | refine go_n ?_
                          | refine WP.skip ?_
                          | refine WP.exit ?_
                          | refine WP.ret ?_
                          | refine go_x ?_
                          | refine go_r ?_
                          | refine bl_n ?_
                          | refine bl_r ?_
                          | refine bl_x ?_
                          | refine bl_y (by rfl) ?_
                          | refine bo_n ?_
                          | refine bo_r ?_
                          | (refine wp_cond (by rfl) (fun hc => ?_) (fun hc => ?_) <;> (try simp only [sB, ne_eq, reduceCtorEq] at hc) <;> (try (exfalso; omega)))
                          | (refine rgC 0 ?_; (refine se_box (by rfl) (by exact ⟨rfl, rfl⟩) ?_); (refine su (ap_assign (by first | exact rq_p rfl rfl | exact rq_c rfl rfl)) ?_); refine asemC_end ?_)
                          | (refine rgC 1 ?_; (first | refine su (ap_load_w (by first | exact rq_p rfl rfl | exact rq_c rfl rfl) (by rfl)) ?_ | refine su (ap_load_i (by first | exact rq_p rfl rfl | exact rq_c rfl rfl) (by rfl)) ?_ | refine su (ap_load_pw (by first | exact rq_p rfl rfl | exact rq_c rfl rfl) (by rfl) (by rfl) (by rfl)) ?_ | refine su (ap_load_p (by first | exact rq_p rfl rfl | exact rq_c rfl rfl) (by rfl) (by rfl) (by rfl)) ?_ | refine su (ap_load_pt (by first | exact rq_p rfl rfl | exact rq_c rfl rfl) (by rfl) (by first | omega | exact inr_i64_of (by omega) | exact inr_u8_of (by omega) | (simp only [sL] <;> omega) | (simp only [bsz, sZ] <;> omega) | assumption) (by rfl)) ?_ | refine su (ap_load_ptf (by first | exact rq_p rfl rfl | exact rq_c rfl rfl) (by rfl) (by first | omega | exact inr_i64_of (by omega) | exact inr_u8_of (by omega) | (simp only [sL] <;> omega) | (simp only [bsz, sZ] <;> omega) | assumption) (by rfl)) ?_); (refine su (ap_move (by first | exact rq_p rfl rfl | exact rq_c rfl rfl)) ?_); (refine su (ap_move (by first | exact rq_p rfl rfl | exact rq_c rfl rfl)) ?_); (first | refine sc_p rfl rfl (by first | ((repeat' first | exact SubL.nil | refine SubL.cons ?_ ?_ | exact SubL.rfl | exact Sub.refl | exact Sub.nil | refine Sub.aggL ?_); done) | fail) (by first | (simp [bdL, bdL_append, AV.bd]; done) | (simp [bdL, bdL_append, AV.bd, *]; done) | (simp [bdL, bdL_append, AV.bd, AV.cells]; done) | fail) (hr) ?_ | refine sc_p rfl rfl (by first | ((repeat' first | exact SubL.nil | refine SubL.cons ?_ ?_ | exact SubL.rfl | exact Sub.refl | exact Sub.nil | refine Sub.aggL ?_); done) | fail) (by first | (simp [bdL, bdL_append, AV.bd]; done) | (simp [bdL, bdL_append, AV.bd, *]; done) | (simp [bdL, bdL_append, AV.bd, AV.cells]; done) | fail) (e3) ?_ | refine sc_p rfl rfl (by first | ((repeat' first | exact SubL.nil | refine SubL.cons ?_ ?_ | exact SubL.rfl | exact Sub.refl | exact Sub.nil | refine Sub.aggL ?_); done) | fail) (by first | (simp [bdL, bdL_append, AV.bd]; done) | (simp [bdL, bdL_append, AV.bd, *]; done) | (simp [bdL, bdL_append, AV.bd, AV.cells]; done) | fail) (e4) ?_); (refine su (ap_move (by first | exact rq_p rfl rfl | exact rq_c rfl rfl)) ?_); (refine su (ap_extract (by first | exact rq_p rfl rfl | exact rq_c rfl rfl) (by rfl)) ?_); (refine su (ap_extract (by first | exact rq_p rfl rfl | exact rq_c rfl rfl) (by rfl)) ?_); (refine su (ap_assign (by first | exact rq_p rfl rfl | exact rq_c rfl rfl)) ?_); (refine su (ap_assign (by first | exact rq_p rfl rfl | exact rq_c rfl rfl)) ?_); refine asemC_end ?_)
                          | (refine rgC 2 ?_; (refine su (ap_move (by first | exact rq_p rfl rfl | exact rq_c rfl rfl)) ?_); (refine su (ap_not (by first | exact rq_p rfl rfl | exact rq_c rfl rfl)) ?_); (refine su (ap_move (by first | exact rq_p rfl rfl | exact rq_c rfl rfl)) ?_); (first | refine sg (by first | exact gq_vf rfl rfl | exact gq_cf rfl rfl) (fun he => ap_move (by first | exact rq_p rfl rfl | exact rq_c rfl rfl)) ?_ | refine sk_no (by rfl) (by rfl) ?_); (first | refine sg (by first | exact gq_vf rfl rfl | exact gq_cf rfl rfl) (fun he => ap_lss (by first | exact rq_p rfl rfl | exact rq_c rfl rfl) (by first | exact rq_p rfl rfl | exact rq_c rfl rfl)) ?_ | refine sg (by first | exact gq_vf rfl rfl | exact gq_cf rfl rfl) (fun he => ap_lts (by first | exact rq_p rfl rfl | exact rq_c rfl rfl) (by first | exact rq_p rfl rfl | exact rq_c rfl rfl)) ?_ | refine sk_no (by rfl) (by rfl) ?_); (first | refine su (ap_or (by first | exact rq_p rfl rfl | exact rq_c rfl rfl) (by first | exact rq_p rfl rfl | exact rq_c rfl rfl)) ?_ | refine pk_t (by rfl) (by rfl) ?_ | refine pk_f (by rfl) (by rfl) ?_); refine asemC_end ?_)
                          | (refine wp_draw (id := 4) 16 mixed (by kernel_rfl) (by kernel_rfl) rfl ?_ <;> (first | refine rd_u (by rfl) (by rfl) (ap_load_w (by first | exact rq_p rfl rfl | exact rq_c rfl rfl) (by rfl)) ?_ | refine rd_u (by rfl) (by rfl) (ap_load_i (by first | exact rq_p rfl rfl | exact rq_c rfl rfl) (by rfl)) ?_ | refine rd_u (by rfl) (by rfl) (ap_load_pw (by first | exact rq_p rfl rfl | exact rq_c rfl rfl) (by rfl) (by rfl) (by rfl)) ?_ | refine rd_u (by rfl) (by rfl) (ap_load_p (by first | exact rq_p rfl rfl | exact rq_c rfl rfl) (by rfl) (by rfl) (by rfl)) ?_ | refine rd_u (by rfl) (by rfl) (ap_load_pt (by first | exact rq_p rfl rfl | exact rq_c rfl rfl) (by rfl) (by first | omega | exact inr_i64_of (by omega) | exact inr_u8_of (by omega) | (simp only [sL] <;> omega) | (simp only [bsz, sZ] <;> omega) | assumption) (by rfl)) ?_ | refine rd_u (by rfl) (by rfl) (ap_load_ptf (by first | exact rq_p rfl rfl | exact rq_c rfl rfl) (by rfl) (by first | omega | exact inr_i64_of (by omega) | exact inr_u8_of (by omega) | (simp only [sL] <;> omega) | (simp only [bsz, sZ] <;> omega) | assumption) (by rfl)) ?_) <;> (refine rd_u (by rfl) (by rfl) (ap_move (by first | exact rq_p rfl rfl | exact rq_c rfl rfl)) ?_) <;> (refine rd_u (by rfl) (by rfl) (ap_move (by first | exact rq_p rfl rfl | exact rq_c rfl rfl)) ?_) <;> (refine rd_u (by rfl) (by rfl) (ap_move (by first | exact rq_p rfl rfl | exact rq_c rfl rfl)) ?_) <;> (first | refine rd_u (by rfl) (by rfl) (ap_slice_s (by rfl) (by first | exact rq_p rfl rfl | exact rq_c rfl rfl) (by first | exact bq_none | exact bq_some (by first | exact rq_p rfl rfl | exact rq_c rfl rfl)) (by first | exact bq_none | exact bq_some (by first | exact rq_p rfl rfl | exact rq_c rfl rfl)) (by first | omega | exact inr_i64_of (by omega) | exact inr_u8_of (by omega) | (simp only [sL] <;> omega) | (simp only [bsz, sZ] <;> omega) | assumption)) ?_ | refine rd_u (by rfl) (by rfl) (ap_slice_m (by first | exact rq_p rfl rfl | exact rq_c rfl rfl) (by first | exact bq_none | exact bq_some (by first | exact rq_p rfl rfl | exact rq_c rfl rfl)) (by first | exact bq_none | exact bq_some (by first | exact rq_p rfl rfl | exact rq_c rfl rfl)) (by first | omega | exact inr_i64_of (by omega) | exact inr_u8_of (by omega) | (simp only [sL] <;> omega) | (simp only [bsz, sZ] <;> omega) | assumption)) ?_ | refine rd_u (by rfl) (by rfl) (ap_slice_r (by first | exact rq_p rfl rfl | exact rq_c rfl rfl) (by first | exact bq_none | exact bq_some (by first | exact rq_p rfl rfl | exact rq_c rfl rfl)) (by first | exact bq_none | exact bq_some (by first | exact rq_p rfl rfl | exact rq_c rfl rfl)) (by first | omega | exact inr_i64_of (by omega) | exact inr_u8_of (by omega) | (simp only [sL] <;> omega) | (simp only [bsz, sZ] <;> omega) | assumption)) ?_) <;> (first | refine rd_call rfl rfl (by first | ((repeat' first | exact SubL.nil | refine SubL.cons ?_ ?_ | exact SubL.rfl | exact Sub.refl | exact Sub.nil | refine Sub.aggL ?_); done) | fail) (by first | (simp [bdL, bdL_append, AV.bd]; done) | (simp [bdL, bdL_append, AV.bd, *]; done) | (simp [bdL, bdL_append, AV.bd, AV.cells]; done) | fail) (hr) ?_ | refine rd_call rfl rfl (by first | ((repeat' first | exact SubL.nil | refine SubL.cons ?_ ?_ | exact SubL.rfl | exact Sub.refl | exact Sub.nil | refine Sub.aggL ?_); done) | fail) (by first | (simp [bdL, bdL_append, AV.bd]; done) | (simp [bdL, bdL_append, AV.bd, *]; done) | (simp [bdL, bdL_append, AV.bd, AV.cells]; done) | fail) (e3) ?_ | refine rd_call rfl rfl (by first | ((repeat' first | exact SubL.nil | refine SubL.cons ?_ ?_ | exact SubL.rfl | exact Sub.refl | exact Sub.nil | refine Sub.aggL ?_); done) | fail) (by first | (simp [bdL, bdL_append, AV.bd]; done) | (simp [bdL, bdL_append, AV.bd, *]; done) | (simp [bdL, bdL_append, AV.bd, AV.cells]; done) | fail) (e4) ?_) <;> (refine rd_u (by rfl) (by rfl) (ap_move (by first | exact rq_p rfl rfl | exact rq_c rfl rfl)) ?_) <;> (first | refine rd_skip rfl rfl ?_ | refine rd_skip2 rfl rfl ?_ | refine rdg_u rfl rfl (by rfl) (by rfl) (ap_load_w (by first | exact rq_p rfl rfl | exact rq_c rfl rfl) (by rfl)) ?_ | refine rdg_u rfl rfl (by rfl) (by rfl) (ap_load_i (by first | exact rq_p rfl rfl | exact rq_c rfl rfl) (by rfl)) ?_ | refine rdg_u rfl rfl (by rfl) (by rfl) (ap_load_pw (by first | exact rq_p rfl rfl | exact rq_c rfl rfl) (by rfl) (by rfl) (by rfl)) ?_ | refine rdg_u rfl rfl (by rfl) (by rfl) (ap_load_p (by first | exact rq_p rfl rfl | exact rq_c rfl rfl) (by rfl) (by rfl) (by rfl)) ?_ | refine rdg_u rfl rfl (by rfl) (by rfl) (ap_load_pt (by first | exact rq_p rfl rfl | exact rq_c rfl rfl) (by rfl) (by first | omega | exact inr_i64_of (by omega) | exact inr_u8_of (by omega) | (simp only [sL] <;> omega) | (simp only [bsz, sZ] <;> omega) | assumption) (by rfl)) ?_ | refine rdg_u rfl rfl (by rfl) (by rfl) (ap_load_ptf (by first | exact rq_p rfl rfl | exact rq_c rfl rfl) (by rfl) (by first | omega | exact inr_i64_of (by omega) | exact inr_u8_of (by omega) | (simp only [sL] <;> omega) | (simp only [bsz, sZ] <;> omega) | assumption) (by rfl)) ?_ | (refine rd_split (t := 29) (by rfl) (fun hc => ?_) (fun hc => ?_) <;> (try simp only [sB, ne_eq, reduceCtorEq] at hc) <;> (try (exfalso; omega)) <;> (first | refine rd_skip rfl rfl ?_ | refine rd_skip2 rfl rfl ?_ | refine rdg_u rfl rfl (by rfl) (by rfl) (ap_load_w (by first | exact rq_p rfl rfl | exact rq_c rfl rfl) (by rfl)) ?_ | refine rdg_u rfl rfl (by rfl) (by rfl) (ap_load_i (by first | exact rq_p rfl rfl | exact rq_c rfl rfl) (by rfl)) ?_ | refine rdg_u rfl rfl (by rfl) (by rfl) (ap_load_pw (by first | exact rq_p rfl rfl | exact rq_c rfl rfl) (by rfl) (by rfl) (by rfl)) ?_ | refine rdg_u rfl rfl (by rfl) (by rfl) (ap_load_p (by first | exact rq_p rfl rfl | exact rq_c rfl rfl) (by rfl) (by rfl) (by rfl)) ?_ | refine rdg_u rfl rfl (by rfl) (by rfl) (ap_load_pt (by first | exact rq_p rfl rfl | exact rq_c rfl rfl) (by rfl) (by first | omega | exact inr_i64_of (by omega) | exact inr_u8_of (by omega) | (simp only [sL] <;> omega) | (simp only [bsz, sZ] <;> omega) | assumption) (by rfl)) ?_ | refine rdg_u rfl rfl (by rfl) (by rfl) (ap_load_ptf (by first | exact rq_p rfl rfl | exact rq_c rfl rfl) (by rfl) (by first | omega | exact inr_i64_of (by omega) | exact inr_u8_of (by omega) | (simp only [sL] <;> omega) | (simp only [bsz, sZ] <;> omega) | assumption) (by rfl)) ?_))) <;> (first | refine rd_skip rfl rfl ?_ | refine rd_skip2 rfl rfl ?_ | refine rdg_u rfl rfl (by rfl) (by rfl) (ap_move (by first | exact rq_p rfl rfl | exact rq_c rfl rfl)) ?_ | (refine rd_split (t := 29) (by rfl) (fun hc => ?_) (fun hc => ?_) <;> (try simp only [sB, ne_eq, reduceCtorEq] at hc) <;> (try (exfalso; omega)) <;> (first | refine rd_skip rfl rfl ?_ | refine rd_skip2 rfl rfl ?_ | refine rdg_u rfl rfl (by rfl) (by rfl) (ap_move (by first | exact rq_p rfl rfl | exact rq_c rfl rfl)) ?_))) <;> (first | refine rd_skip rfl rfl ?_ | refine rd_skip2 rfl rfl ?_ | refine rdg_u rfl rfl (by rfl) (by rfl) (ap_move (by first | exact rq_p rfl rfl | exact rq_c rfl rfl)) ?_ | (refine rd_split (t := 29) (by rfl) (fun hc => ?_) (fun hc => ?_) <;> (try simp only [sB, ne_eq, reduceCtorEq] at hc) <;> (try (exfalso; omega)) <;> (first | refine rd_skip rfl rfl ?_ | refine rd_skip2 rfl rfl ?_ | refine rdg_u rfl rfl (by rfl) (by rfl) (ap_move (by first | exact rq_p rfl rfl | exact rq_c rfl rfl)) ?_))) <;> (first | refine rd_skip rfl rfl ?_ | refine rd_skip2 rfl rfl ?_ | refine rdg_u rfl rfl (by rfl) (by rfl) (ap_move (by first | exact rq_p rfl rfl | exact rq_c rfl rfl)) ?_ | (refine rd_split (t := 29) (by rfl) (fun hc => ?_) (fun hc => ?_) <;> (try simp only [sB, ne_eq, reduceCtorEq] at hc) <;> (try (exfalso; omega)) <;> (first | refine rd_skip rfl rfl ?_ | refine rd_skip2 rfl rfl ?_ | refine rdg_u rfl rfl (by rfl) (by rfl) (ap_move (by first | exact rq_p rfl rfl | exact rq_c rfl rfl)) ?_))) <;> (first | refine rd_skip rfl rfl ?_ | refine rd_skip2 rfl rfl ?_ | refine rdg_u rfl rfl (by rfl) (by rfl) (ap_add (by first | exact rq_p rfl rfl | exact rq_c rfl rfl) (by first | exact rq_p rfl rfl | exact rq_c rfl rfl) (by first | omega | exact inr_i64_of (by omega) | exact inr_u8_of (by omega) | (simp only [sL] <;> omega) | (simp only [bsz, sZ] <;> omega) | assumption)) ?_ | refine rdg_u rfl rfl (by rfl) (by rfl) (ap_cat (by first | exact rq_p rfl rfl | exact rq_c rfl rfl) (by first | exact rq_p rfl rfl | exact rq_c rfl rfl) (by first | omega | exact inr_i64_of (by omega) | exact inr_u8_of (by omega) | (simp only [sL] <;> omega) | (simp only [bsz, sZ] <;> omega) | assumption)) ?_ | (refine rd_split (t := 29) (by rfl) (fun hc => ?_) (fun hc => ?_) <;> (try simp only [sB, ne_eq, reduceCtorEq] at hc) <;> (try (exfalso; omega)) <;> (first | refine rd_skip rfl rfl ?_ | refine rd_skip2 rfl rfl ?_ | refine rdg_u rfl rfl (by rfl) (by rfl) (ap_add (by first | exact rq_p rfl rfl | exact rq_c rfl rfl) (by first | exact rq_p rfl rfl | exact rq_c rfl rfl) (by first | omega | exact inr_i64_of (by omega) | exact inr_u8_of (by omega) | (simp only [sL] <;> omega) | (simp only [bsz, sZ] <;> omega) | assumption)) ?_ | refine rdg_u rfl rfl (by rfl) (by rfl) (ap_cat (by first | exact rq_p rfl rfl | exact rq_c rfl rfl) (by first | exact rq_p rfl rfl | exact rq_c rfl rfl) (by first | omega | exact inr_i64_of (by omega) | exact inr_u8_of (by omega) | (simp only [sL] <;> omega) | (simp only [bsz, sZ] <;> omega) | assumption)) ?_))) <;> (first | refine rd_skip rfl rfl ?_ | refine rd_skip2 rfl rfl ?_ | refine rdg_u rfl rfl (by rfl) (by rfl) (ap_slice_s (by rfl) (by first | exact rq_p rfl rfl | exact rq_c rfl rfl) (by first | exact bq_none | exact bq_some (by first | exact rq_p rfl rfl | exact rq_c rfl rfl)) (by first | exact bq_none | exact bq_some (by first | exact rq_p rfl rfl | exact rq_c rfl rfl)) (by first | omega | exact inr_i64_of (by omega) | exact inr_u8_of (by omega) | (simp only [sL] <;> omega) | (simp only [bsz, sZ] <;> omega) | assumption)) ?_ | refine rdg_u rfl rfl (by rfl) (by rfl) (ap_slice_m (by first | exact rq_p rfl rfl | exact rq_c rfl rfl) (by first | exact bq_none | exact bq_some (by first | exact rq_p rfl rfl | exact rq_c rfl rfl)) (by first | exact bq_none | exact bq_some (by first | exact rq_p rfl rfl | exact rq_c rfl rfl)) (by first | omega | exact inr_i64_of (by omega) | exact inr_u8_of (by omega) | (simp only [sL] <;> omega) | (simp only [bsz, sZ] <;> omega) | assumption)) ?_ | refine rdg_u rfl rfl (by rfl) (by rfl) (ap_slice_r (by first | exact rq_p rfl rfl | exact rq_c rfl rfl) (by first | exact bq_none | exact bq_some (by first | exact rq_p rfl rfl | exact rq_c rfl rfl)) (by first | exact bq_none | exact bq_some (by first | exact rq_p rfl rfl | exact rq_c rfl rfl)) (by first | omega | exact inr_i64_of (by omega) | exact inr_u8_of (by omega) | (simp only [sL] <;> omega) | (simp only [bsz, sZ] <;> omega) | assumption)) ?_ | (refine rd_split (t := 29) (by rfl) (fun hc => ?_) (fun hc => ?_) <;> (try simp only [sB, ne_eq, reduceCtorEq] at hc) <;> (try (exfalso; omega)) <;> (first | refine rd_skip rfl rfl ?_ | refine rd_skip2 rfl rfl ?_ | refine rdg_u rfl rfl (by rfl) (by rfl) (ap_slice_s (by rfl) (by first | exact rq_p rfl rfl | exact rq_c rfl rfl) (by first | exact bq_none | exact bq_some (by first | exact rq_p rfl rfl | exact rq_c rfl rfl)) (by first | exact bq_none | exact bq_some (by first | exact rq_p rfl rfl | exact rq_c rfl rfl)) (by first | omega | exact inr_i64_of (by omega) | exact inr_u8_of (by omega) | (simp only [sL] <;> omega) | (simp only [bsz, sZ] <;> omega) | assumption)) ?_ | refine rdg_u rfl rfl (by rfl) (by rfl) (ap_slice_m (by first | exact rq_p rfl rfl | exact rq_c rfl rfl) (by first | exact bq_none | exact bq_some (by first | exact rq_p rfl rfl | exact rq_c rfl rfl)) (by first | exact bq_none | exact bq_some (by first | exact rq_p rfl rfl | exact rq_c rfl rfl)) (by first | omega | exact inr_i64_of (by omega) | exact inr_u8_of (by omega) | (simp only [sL] <;> omega) | (simp only [bsz, sZ] <;> omega) | assumption)) ?_ | refine rdg_u rfl rfl (by rfl) (by rfl) (ap_slice_r (by first | exact rq_p rfl rfl | exact rq_c rfl rfl) (by first | exact bq_none | exact bq_some (by first | exact rq_p rfl rfl | exact rq_c rfl rfl)) (by first | exact bq_none | exact bq_some (by first | exact rq_p rfl rfl | exact rq_c rfl rfl)) (by first | omega | exact inr_i64_of (by omega) | exact inr_u8_of (by omega) | (simp only [sL] <;> omega) | (simp only [bsz, sZ] <;> omega) | assumption)) ?_))) <;> (first | refine rd_skip rfl rfl ?_ | refine rd_skip2 rfl rfl ?_ | refine rdg_call rfl (by rfl) rfl rfl (by first | ((repeat' first | exact SubL.nil | refine SubL.cons ?_ ?_ | exact SubL.rfl | exact Sub.refl | exact Sub.nil | refine Sub.aggL ?_); done) | fail) (by first | (simp [bdL, bdL_append, AV.bd]; done) | (simp [bdL, bdL_append, AV.bd, *]; done) | (simp [bdL, bdL_append, AV.bd, AV.cells]; done) | fail) (hr) ?_ | refine rdg_call rfl (by rfl) rfl rfl (by first | ((repeat' first | exact SubL.nil | refine SubL.cons ?_ ?_ | exact SubL.rfl | exact Sub.refl | exact Sub.nil | refine Sub.aggL ?_); done) | fail) (by first | (simp [bdL, bdL_append, AV.bd]; done) | (simp [bdL, bdL_append, AV.bd, *]; done) | (simp [bdL, bdL_append, AV.bd, AV.cells]; done) | fail) (e3) ?_ | refine rdg_call rfl (by rfl) rfl rfl (by first | ((repeat' first | exact SubL.nil | refine SubL.cons ?_ ?_ | exact SubL.rfl | exact Sub.refl | exact Sub.nil | refine Sub.aggL ?_); done) | fail) (by first | (simp [bdL, bdL_append, AV.bd]; done) | (simp [bdL, bdL_append, AV.bd, *]; done) | (simp [bdL, bdL_append, AV.bd, AV.cells]; done) | fail) (e4) ?_ | (refine rd_split (t := 29) (by rfl) (fun hc => ?_) (fun hc => ?_) <;> (try simp only [sB, ne_eq, reduceCtorEq] at hc) <;> (try (exfalso; omega)) <;> (first | refine rd_skip rfl rfl ?_ | refine rd_skip2 rfl rfl ?_ | refine rdg_call rfl (by rfl) rfl rfl (by first | ((repeat' first | exact SubL.nil | refine SubL.cons ?_ ?_ | exact SubL.rfl | exact Sub.refl | exact Sub.nil | refine Sub.aggL ?_); done) | fail) (by first | (simp [bdL, bdL_append, AV.bd]; done) | (simp [bdL, bdL_append, AV.bd, *]; done) | (simp [bdL, bdL_append, AV.bd, AV.cells]; done) | fail) (hr) ?_ | refine rdg_call rfl (by rfl) rfl rfl (by first | ((repeat' first | exact SubL.nil | refine SubL.cons ?_ ?_ | exact SubL.rfl | exact Sub.refl | exact Sub.nil | refine Sub.aggL ?_); done) | fail) (by first | (simp [bdL, bdL_append, AV.bd]; done) | (simp [bdL, bdL_append, AV.bd, *]; done) | (simp [bdL, bdL_append, AV.bd, AV.cells]; done) | fail) (e3) ?_ | refine rdg_call rfl (by rfl) rfl rfl (by first | ((repeat' first | exact SubL.nil | refine SubL.cons ?_ ?_ | exact SubL.rfl | exact Sub.refl | exact Sub.nil | refine Sub.aggL ?_); done) | fail) (by first | (simp [bdL, bdL_append, AV.bd]; done) | (simp [bdL, bdL_append, AV.bd, *]; done) | (simp [bdL, bdL_append, AV.bd, AV.cells]; done) | fail) (e4) ?_))) <;> (first | refine rd_pick_t (by rfl) (by rfl) ?_ | refine rd_pick_f (by rfl) (by rfl) ?_) <;> (refine rd_u (by rfl) (by rfl) (ap_assign (by first | exact rq_p rfl rfl | exact rq_c rfl rfl)) ?_) <;> (refine rd_end (by kernel_rfl) ?_))
                          | refine ret_2 (by rfl) (by rfl) (by first | exact rfl | (simp [AV.bd, bdL, bdL_append]; done)) (by first | exact rfl | (simp [AV.bd, bdL, bdL_append]; done)) ?_ | exact ret_eq (by rfl) (by first | exact rfl | (simp [AV.bd, bdL, bdL_append]; done)) rfl | refine ret_b (by rfl) ?_ | refine ret_i (by rfl) ?_ | refine ret_sl (by rfl) (by rfl) (by first | exact rfl | assumption | omega | (simp; omega) | simp_all) (fun _ => by first | exact rfl | simp [AV.bd, bdL, bdL_append]) (fun _ => rfl) ?_))
      all_goals try (exfalso; simp at hc; omega)
      all_goals (rw [hc]; rfl)
end Go.Lg
namespace Go.Lg
open Go.Proofs
attribute [local irreducible] Ap Rq asemC WP RunD Ret Gq thenA inBlockA bodyQ noGotoA RqL RqP OpP
attribute [local simp] AV.cells
@[local simp] theorem bdL_d2 (n b : Nat) (L : List Int) : bdL n (List.drop b (List.map intA L)) = true := by rw [<- List.map_drop]; exact bdL_intA _ _
@[local simp] theorem bdL_t2 (n b : Nat) (L : List Int) : bdL n (List.take b (List.map intA L)) = true := by rw [<- List.map_take]; exact bdL_intA _ _
@[local simp] theorem bdL_tl2 (n : Nat) (L : List Int) : bdL n (List.tail (List.map intA L)) = true := by rw [<- List.map_tail]; exact bdL_intA _ _
def psum (v : Nat -> Nat) (m : Nat) : Nat := ((List.range m).map v).sum
theorem psum_succ (v : Nat -> Nat) (m : Nat) : psum v (m + 1) = psum v m + v m := by simp [psum, List.range_succ]
theorem psum_mono (v : Nat -> Nat) {m n : Nat} (h : m <= n) : psum v m <= psum v n := by
  induction n with
  | zero => obtain rfl : m = 0 := by omega
            exact Nat.le_refl _
  | succ n ih =>
    by_cases e : m = n + 1
    · subst e; exact Nat.le_refl _
    · have := ih (by omega)
      rw [psum_succ]; omega
theorem psum_min (v : Nat -> Nat) {m n : Nat} (h : m <= n) (h2 : m = n \/ 2 <= psum v m) : min (psum v m) 2 = min 2 (psum v n) := by
 rcases h2 with rfl | h2
 ·omega
 ·have := psum_mono v h; omega
theorem psum_list {α : Type} [Inhabited α] (f : α -> Nat) (l : List α) : (l.map f).sum = psum (fun i => f (nth l i)) l.length := by
 unfold psum
 congr 1
 refine List.ext_getElem (by simp) fun i h1 h2 => ?_
 simp only [List.getElem_map, List.getElem_range]
 rw [nth_eq (by simpa using h1)]
theorem countC_le (g : Gram) (d : Nat) (h : Int) (s : List Int) : countC g d h s <= 2 := by
 cases d with
 | zero => simp [countC]
 | succ d => rw [countC]; omega
theorem bodyC_le (cnt : Int -> List Int -> Nat) : ∀ (l s : List Int), bodyC cnt l s <= 2
  | [], s => by rw [bodyC]; split <;> omega
  | x :: l, s => by
    rw [bodyC]
    split
    · omega
    · split
      · split
        · exact bodyC_le cnt l _
        · omega
      · omega
theorem sl_drop (s : List Int) (k : Nat) : ((s.take (((s.map intA).length : Nat) : Int).toNat).drop ((k : Nat) : Int).toNat) = s.drop k := by
 rw [show (((s.map intA).length : Nat) : Int).toNat = s.length by rw [List.length_map, Int.toNat_natCast], List.take_length]; rfl
theorem cbody_fn {g : Gram} {d : Nat} (hd : d <= 1000) (hcnt : ∀ (h : Int) (s : List Int), s.length <= 1000 -> Fn Tryd.prog 23 [gramA g, intA h, intsA s, intA (d : Nat)] (intA (countC g d h s : Nat))) :
    ∀ (l s : List Int), l.length <= 1000 -> s.length <= 1000 -> (∀ x, x ∈ l -> -1000 <= x) -> Fn Tryd.prog 45 [gramA g, intsA l, intsA s, intA (d : Nat)] (intA (bodyC (countC g d) l s : Nat))
  | [], s, _, hs, _ => by
    rw [bodyC]
    by_cases h0 : s.length = 0
    · rw [if_pos h0]
      refine Fn.intro rfl (by kernel_rfl) Tryd.func45 rfl rfl Tryd.ntmps45 (by exact nle rfl) ?_; intro Γ hm
      (repeat' (first | apply jA | apply jH | apply jI | apply jK | apply jM | apply jS | (refine wp_cond rfl (fun hc => ?_) (fun hc => ?_) <;> (try simp only [sB, ne_eq, reduceCtorEq] at hc) <;> (try (exfalso; omega))) | (refine rgC 0 ?_; (refine se_box rfl (by exact ⟨rfl, rfl⟩) ?_); (refine sassign rfl ?_); apply jW) | (refine rgC 1 ?_; (refine smove rfl ?_); (refine slenm rfl rfl ?_); (refine seql rfl rfl ?_); (refine smove rfl ?_); (refine sg (gq_vf rfl rfl) (fun he => ap_move (rq_p rfl rfl)) ?_); (refine sg (gq_vf rfl rfl) (fun he => ap_len_m rfl (rq_c rfl rfl)) ?_); (refine sg (gq_vf rfl rfl) (fun he => ap_move (rq_p rfl rfl)) ?_); (refine sg (gq_vf rfl rfl) (fun he => ap_len_m rfl (rq_c rfl rfl)) ?_); (refine sg (gq_vf rfl rfl) (fun he => ap_lss (rq_c rfl rfl) (rq_c rfl rfl)) ?_); (refine su (ap_or (rq_p rfl rfl) (rq_c rfl rfl)) ?_); apply jW) | (refine rgC 2 ?_; (refine smove rfl ?_); (refine slenm rfl rfl ?_); (refine seql rfl rfl ?_); (refine smove rfl ?_); (refine sg (gq_vt rfl rfl) (fun he => ap_move (rq_p rfl rfl)) ?_); (refine sg (gq_vt rfl rfl) (fun he => ap_len_m rfl (rq_c rfl rfl)) ?_); (refine sg (gq_vt rfl rfl) (fun he => ap_eql (rq_c rfl rfl) (rq_p rfl rfl)) ?_); (refine su (ap_and (rq_p rfl rfl) (rq_c rfl rfl)) ?_); apply jW) | (refine rgC 3 ?_; (refine sassign rfl ?_); apply jW) | exact ret_eq rfl rfl rfl))
      all_goals ((exfalso; simp at hc; simp [hc] at h0; done))
    · rw [if_neg h0]
      refine Fn.intro rfl (by kernel_rfl) Tryd.func45 rfl rfl Tryd.ntmps45 (by exact nle rfl) ?_; intro Γ hm
      (repeat' (first | apply jA | apply jH | apply jI | apply jK | apply jM | apply jS | (refine wp_cond rfl (fun hc => ?_) (fun hc => ?_) <;> (try simp only [sB, ne_eq, reduceCtorEq] at hc) <;> (try (exfalso; omega))) | (refine rgC 0 ?_; (refine se_box rfl (by exact ⟨rfl, rfl⟩) ?_); (refine sassign rfl ?_); apply jW) | (refine rgC 1 ?_; (refine smove rfl ?_); (refine slenm rfl rfl ?_); (refine seql rfl rfl ?_); (refine smove rfl ?_); (refine sg (gq_vf rfl rfl) (fun he => ap_move (rq_p rfl rfl)) ?_); (refine sg (gq_vf rfl rfl) (fun he => ap_len_m rfl (rq_c rfl rfl)) ?_); (refine sg (gq_vf rfl rfl) (fun he => ap_move (rq_p rfl rfl)) ?_); (refine sg (gq_vf rfl rfl) (fun he => ap_len_m rfl (rq_c rfl rfl)) ?_); (refine sg (gq_vf rfl rfl) (fun he => ap_lss (rq_c rfl rfl) (rq_c rfl rfl)) ?_); (refine su (ap_or (rq_p rfl rfl) (rq_c rfl rfl)) ?_); apply jW) | (refine rgC 2 ?_; (refine smove rfl ?_); (refine slenm rfl rfl ?_); (refine seql rfl rfl ?_); (refine smove rfl ?_); (refine sg (gq_vt rfl rfl) (fun he => ap_move (rq_p rfl rfl)) ?_); (refine sg (gq_vt rfl rfl) (fun he => ap_len_m rfl (rq_c rfl rfl)) ?_); (refine sg (gq_vt rfl rfl) (fun he => ap_eql (rq_c rfl rfl) (rq_p rfl rfl)) ?_); (refine su (ap_and (rq_p rfl rfl) (rq_c rfl rfl)) ?_); apply jW) | (refine rgC 4 ?_; (refine sassign rfl ?_); apply jW) | exact ret_eq rfl rfl rfl))
      all_goals ((exfalso; simp at hc; done))
  | x :: l, s, hl, hs, hlo => by
    have ih := fun s h => cbody_fn hd hcnt l s (by simp at hl; omega) h (fun y hy => hlo y (by simp [hy]))
    have hx0 := hlo x (by simp)
    have hcl := countC_le g d
    have hbl := bodyC_le (countC g d)
    rw [bodyC]
    obtain ⟨L, hL⟩ : ∃ L, x :: l = L := ⟨_, rfl⟩
    have hn0 : nth L 0 = x := by rw [<- hL]; rfl
    have hLl : L.length = l.length + 1 := by rw [<- hL]; rfl
    have hLd : ((L.take (((L.map intA).length : Nat) : Int).toNat).drop (Int.toNat 1)) = l := by rw [<- hL]; exact sl_drop (x :: l) 1
    rw [hL] at hl ⊢
    by_cases h0 : s.length <= l.length
    · rw [if_pos h0]
      refine Fn.intro rfl (by kernel_rfl) Tryd.func45 rfl rfl Tryd.ntmps45 (by exact nle rfl) ?_; intro Γ hm
      (repeat' (first | apply jA | apply jH | apply jI | apply jK | apply jM | apply jS | (refine wp_cond rfl (fun hc => ?_) (fun hc => ?_) <;> (try simp only [sB, ne_eq, reduceCtorEq] at hc) <;> (try (exfalso; omega))) | (refine rgC 0 ?_; (refine se_box rfl (by exact ⟨rfl, rfl⟩) ?_); (refine sassign rfl ?_); apply jW) | (refine rgC 1 ?_; (refine smove rfl ?_); (refine slenm rfl rfl ?_); (refine seql rfl rfl ?_); (refine smove rfl ?_); (refine sg (gq_vf rfl rfl) (fun he => ap_move (rq_p rfl rfl)) ?_); (refine sg (gq_vf rfl rfl) (fun he => ap_len_m rfl (rq_c rfl rfl)) ?_); (refine sg (gq_vf rfl rfl) (fun he => ap_move (rq_p rfl rfl)) ?_); (refine sg (gq_vf rfl rfl) (fun he => ap_len_m rfl (rq_c rfl rfl)) ?_); (refine sg (gq_vf rfl rfl) (fun he => ap_lss (rq_c rfl rfl) (rq_c rfl rfl)) ?_); (refine su (ap_or (rq_p rfl rfl) (rq_c rfl rfl)) ?_); apply jW) | (refine rgC 2 ?_; (refine smove rfl ?_); (refine slenm rfl rfl ?_); (refine seql rfl rfl ?_); (refine smove rfl ?_); (refine sg (gq_vt rfl rfl) (fun he => ap_move (rq_p rfl rfl)) ?_); (refine sg (gq_vt rfl rfl) (fun he => ap_len_m rfl (rq_c rfl rfl)) ?_); (refine sg (gq_vt rfl rfl) (fun he => ap_eql (rq_c rfl rfl) (rq_p rfl rfl)) ?_); (refine su (ap_and (rq_p rfl rfl) (rq_c rfl rfl)) ?_); apply jW) | (refine rgC 4 ?_; (refine sassign rfl ?_); apply jW) | exact ret_eq rfl rfl rfl))
      all_goals (rfl)
    rw [if_neg h0]
    by_cases hx : 0 <= x
    · rw [if_pos hx]
      by_cases hsx : nth s 0 = x
      · rw [if_pos hsx]
        have e := ih s.tail (by simp; omega)
        have e1 : Fn Tryd.prog 45 [gramA g, .sl 1 (((L.take (((L.map intA).length : Nat) : Int).toNat).drop (Int.toNat 1)).map intA), .sl 1 (((s.take (((s.map intA).length : Nat) : Int).toNat).drop (Int.toNat 1)).map intA), intA (d : Nat)] (intA (bodyC (countC g d) l s.tail : Nat)) := by
          rw [hLd, show ((s.take (((s.map intA).length : Nat) : Int).toNat).drop (Int.toNat 1)) = s.tail by rw [<- List.drop_one]; exact sl_drop s 1]; exact e
        refine Fn.intro rfl (by kernel_rfl) Tryd.func45 rfl rfl Tryd.ntmps45 (by exact nle rfl) ?_; intro Γ hm
        (repeat' (first | apply jA | apply jH | apply jI | apply jK | apply jM | apply jS | (refine wp_cond rfl (fun hc => ?_) (fun hc => ?_) <;> (try simp only [sB, ne_eq, reduceCtorEq] at hc) <;> (try (exfalso; omega))) | (refine rgC 0 ?_; (refine se_box rfl (by exact ⟨rfl, rfl⟩) ?_); (refine sassign rfl ?_); apply jW) | (refine rgC 1 ?_; (refine smove rfl ?_); (refine slenm rfl rfl ?_); (refine seql rfl rfl ?_); (refine smove rfl ?_); (refine sg (gq_vf rfl rfl) (fun he => ap_move (rq_p rfl rfl)) ?_); (refine sg (gq_vf rfl rfl) (fun he => ap_len_m rfl (rq_c rfl rfl)) ?_); (refine sg (gq_vf rfl rfl) (fun he => ap_move (rq_p rfl rfl)) ?_); (refine sg (gq_vf rfl rfl) (fun he => ap_len_m rfl (rq_c rfl rfl)) ?_); (refine sg (gq_vf rfl rfl) (fun he => ap_lss (rq_c rfl rfl) (rq_c rfl rfl)) ?_); (refine su (ap_or (rq_p rfl rfl) (rq_c rfl rfl)) ?_); apply jW) | (refine rgC 5 ?_; (refine smove rfl ?_); (refine sidxn rfl rfl (by (simp only [sL] <;> omega)) ?_); (refine sloadw rfl rfl ?_); (refine su (ageq rfl rfl) ?_); apply jW) | (refine wp_draw (id := 6) 7 mixed (by kernel_rfl) (by kernel_rfl) rfl ?_ <;> (refine rmove rfl ?_) <;> (refine rd_u rfl rfl (aidxn rfl rfl (by (simp only [sL] <;> omega))) ?_) <;> (refine rd_u rfl rfl (aloadw rfl rfl) ?_) <;> (refine rmove rfl ?_) <;> (refine rd_u rfl rfl (aidxn rfl rfl (by (simp only [sL] <;> omega))) ?_) <;> (refine rd_u rfl rfl (aloadw rfl rfl) ?_) <;> (refine rd_u rfl rfl (aneq rfl rfl) ?_) <;> (refine rd_end (by kernel_rfl) ?_)) | (refine wp_draw (id := 8) 8 mixed (by kernel_rfl) (by kernel_rfl) rfl ?_ <;> (refine rd_u rfl rfl (aloadpw rfl rfl rfl rfl) ?_) <;> (refine rmove rfl ?_) <;> (refine rd_u rfl rfl (ap_slice_m (rq_p rfl rfl) (by exact bq_some (rq_p rfl rfl)) (by exact bq_none) (by (simp only [sL] <;> omega))) ?_) <;> (refine rmove rfl ?_) <;> (refine rd_u rfl rfl (ap_slice_m (rq_p rfl rfl) (by exact bq_some (rq_p rfl rfl)) (by exact bq_none) (by (simp only [sL] <;> omega))) ?_) <;> (refine rmove rfl ?_) <;> (refine rd_call rfl rfl zq1 zq5 (e1) ?_) <;> (refine rd_u rfl rfl (aassign rfl) ?_) <;> (refine rd_end (by kernel_rfl) ?_)) | exact ret_eq rfl rfl rfl))
        all_goals try (exfalso; simp at hc; omega)
        skip
      · rw [if_neg hsx]
        refine Fn.intro rfl (by kernel_rfl) Tryd.func45 rfl rfl Tryd.ntmps45 (by exact nle rfl) ?_; intro Γ hm
        (repeat' (first | apply jA | apply jH | apply jI | apply jK | apply jM | apply jS | (refine wp_cond rfl (fun hc => ?_) (fun hc => ?_) <;> (try simp only [sB, ne_eq, reduceCtorEq] at hc) <;> (try (exfalso; omega))) | (refine rgC 0 ?_; (refine se_box rfl (by exact ⟨rfl, rfl⟩) ?_); (refine sassign rfl ?_); apply jW) | (refine rgC 1 ?_; (refine smove rfl ?_); (refine slenm rfl rfl ?_); (refine seql rfl rfl ?_); (refine smove rfl ?_); (refine sg (gq_vf rfl rfl) (fun he => ap_move (rq_p rfl rfl)) ?_); (refine sg (gq_vf rfl rfl) (fun he => ap_len_m rfl (rq_c rfl rfl)) ?_); (refine sg (gq_vf rfl rfl) (fun he => ap_move (rq_p rfl rfl)) ?_); (refine sg (gq_vf rfl rfl) (fun he => ap_len_m rfl (rq_c rfl rfl)) ?_); (refine sg (gq_vf rfl rfl) (fun he => ap_lss (rq_c rfl rfl) (rq_c rfl rfl)) ?_); (refine su (ap_or (rq_p rfl rfl) (rq_c rfl rfl)) ?_); apply jW) | (refine rgC 5 ?_; (refine smove rfl ?_); (refine sidxn rfl rfl (by (simp only [sL] <;> omega)) ?_); (refine sloadw rfl rfl ?_); (refine su (ageq rfl rfl) ?_); apply jW) | (refine wp_draw (id := 6) 7 mixed (by kernel_rfl) (by kernel_rfl) rfl ?_ <;> (refine rmove rfl ?_) <;> (refine rd_u rfl rfl (aidxn rfl rfl (by (simp only [sL] <;> omega))) ?_) <;> (refine rd_u rfl rfl (aloadw rfl rfl) ?_) <;> (refine rmove rfl ?_) <;> (refine rd_u rfl rfl (aidxn rfl rfl (by (simp only [sL] <;> omega))) ?_) <;> (refine rd_u rfl rfl (aloadw rfl rfl) ?_) <;> (refine rd_u rfl rfl (aneq rfl rfl) ?_) <;> (refine rd_end (by kernel_rfl) ?_)) | (refine rgC 7 ?_; (refine sassign rfl ?_); apply jW) | exact ret_eq rfl rfl rfl))
        all_goals try (rfl)
    rw [if_neg hx]
    have hps : ∀ n, ((List.range n).map fun n => bodyC (countC g d) l (s.drop (n + 1)) * countC g d (-1 - x) (s.take (n + 1))).sum = psum (fun n => bodyC (countC g d) l (s.drop (n + 1)) * countC g d (-1 - x) (s.take (n + 1))) n := fun n => rfl
    rw [hps]
    obtain ⟨v, hv⟩ : ∃ v, (fun n => bodyC (countC g d) l (s.drop (n + 1)) * countC g d (-1 - x) (s.take (n + 1))) = v := ⟨_, rfl⟩
    have hva : ∀ n, v n = bodyC (countC g d) l (s.drop (n + 1)) * countC g d (-1 - x) (s.take (n + 1)) := fun n => by rw [<- hv]
    rw [hv]
    refine Fn.intro rfl (by kernel_rfl) Tryd.func45 rfl rfl Tryd.ntmps45 (by exact nle rfl) ?_; intro Γ hm
    (repeat' (first | apply jA | apply jF | apply jH | apply jI | (refine wp_cond rfl (fun hc => ?_) (fun hc => ?_) <;> (try simp only [sB, ne_eq, reduceCtorEq] at hc) <;> (try (exfalso; omega))) | (refine rgC 0 ?_; (refine se_box rfl (by exact ⟨rfl, rfl⟩) ?_); (refine sassign rfl ?_); apply jW) | (refine rgC 1 ?_; (refine smove rfl ?_); (refine slenm rfl rfl ?_); (refine seql rfl rfl ?_); (refine smove rfl ?_); (refine sg (gq_vf rfl rfl) (fun he => ap_move (rq_p rfl rfl)) ?_); (refine sg (gq_vf rfl rfl) (fun he => ap_len_m rfl (rq_c rfl rfl)) ?_); (refine sg (gq_vf rfl rfl) (fun he => ap_move (rq_p rfl rfl)) ?_); (refine sg (gq_vf rfl rfl) (fun he => ap_len_m rfl (rq_c rfl rfl)) ?_); (refine sg (gq_vf rfl rfl) (fun he => ap_lss (rq_c rfl rfl) (rq_c rfl rfl)) ?_); (refine su (ap_or (rq_p rfl rfl) (rq_c rfl rfl)) ?_); apply jW) | (refine rgC 5 ?_; (refine smove rfl ?_); (refine sidxn rfl rfl (by (simp only [sL] <;> omega)) ?_); (refine sloadw rfl rfl ?_); (refine su (ageq rfl rfl) ?_); apply jW) | (refine WP.regionC ?_; (refine sassign rfl ?_); apply jW)))
    all_goals try (exfalso; simp at hc; omega)
    obtain ⟨M, hM⟩ : ∃ M, s.length - l.length = M := ⟨_, rfl⟩
    rw [hM]
    have hv4 : ∀ n, v n <= 4 := fun n => by
      rw [hva]
      have h1 := hbl l (s.drop (n + 1))
      have h2 := hcl (-1 - x) (s.take (n + 1))
      exact Nat.mul_le_mul h1 h2
    refine wp_loop (fun (m : Nat) => m <= M /\ psum v m <= 5) (fun m => M - m)
      (fun m => (S 88 [(1, intsA L), (2, intsA s), (3, intA (d : Nat)), (4, .ptr 0 4 0 0), (9, intA (psum v m : Nat)), (10, intA (m + 1 : Nat))] 1 [(0, some (.arr 4 [gramA g]))])) 0 ⟨[0], ToR.S rfl (by repeat' (first | exact rt_nil | refine rt_t rfl rfl ?_ | refine rt_e rfl rfl ?_ | refine rt_p rfl rfl (by first | (simp [AV.bd, bdL, bdL_append]; done) | fail) ?_)) (by repeat' (first | exact ro_nil | refine ro_p rfl (by first | exact rfl | fail) zq5 ?_)) rfl (by (rw [hm]; exact rfl)) rfl zq4 zq3 (by (rw [hm]; exact nle rfl))⟩ ⟨Nat.zero_le _, by simp [psum]⟩ ?_
    rintro m ⟨hmM, hs5⟩
    by_cases hgo : m < M /\ psum v m < 2
    · obtain ⟨hml, hs2⟩ := hgo
      have e := ih (s.drop (m + 1)) (by rw [List.length_drop]; omega)
      have e1 : Fn Tryd.prog 45 [gramA g, .sl 1 (((L.take (((L.map intA).length : Nat) : Int).toNat).drop (Int.toNat 1)).map intA), .sl 1 (((s.take (((s.map intA).length : Nat) : Int).toNat).drop ((m + 1 : Nat) : Int).toNat).map intA), intA (d : Nat)] (intA (bodyC (countC g d) l (s.drop (m + 1)) : Nat)) := by
        rw [hLd, sl_drop s (m + 1)]; exact e
      have c1 : Fn Tryd.prog 23 [gramA g, intA (-1 - nth L 0), .sl 1 (((s.take ((m + 1 : Nat) : Int).toNat).drop (Int.toNat 0)).map intA), intA (d : Nat)] (intA (countC g d (-1 - x) (s.take (m + 1)) : Nat)) := by
        rw [hn0]; exact hcnt (-1 - x) (s.take (m + 1)) (by rw [List.length_take]; omega)
      have hb2 := hbl l (s.drop (m + 1))
      have hc2 := hcl (-1 - x) (s.take (m + 1))
      have hvm := hva m
      have hpm := psum_succ v m
      have hv4m := hv4 m
      generalize bodyC (countC g d) l (s.drop (m + 1)) = bb at *
      generalize countC g d (-1 - x) (s.take (m + 1)) = cc at *
      have hmul : (bb : Int) * (cc : Int) = (v m : Nat) := by rw [hvm]; push_cast; rfl
      have hin0 : inr .i64 (-1 - nth L 0) := inr_i64_of (by omega)
      have hin1 : inr .i64 ((bb : Int) * cc) := inr_i64_of (by omega)
      have hsm : ((psum v (m + 1) : Nat) : Int) = (psum v m : Nat) + (bb : Int) * cc := by rw [hpm, Int.natCast_add, hmul]
      (repeat' (first | apply jA | apply jF | apply jH | apply jI | apply jN | (refine wp_cond rfl (fun hc => ?_) (fun hc => ?_) <;> (try simp only [sB, ne_eq, reduceCtorEq] at hc) <;> (try (exfalso; omega))) | (refine rgC 11 ?_; (refine smove rfl ?_); (refine smove rfl ?_); (refine slenm rfl rfl ?_); (refine smove rfl ?_); (refine slenm rfl rfl ?_); (refine su (asub rfl rfl (by exact inr_i64_of (by omega))) ?_); (refine sadd rfl rfl (by exact inr_i64_of (by omega)) ?_); (refine su (aleq rfl rfl) ?_); (refine smove rfl ?_); (refine sg (gq_vt rfl rfl) (fun he => ap_move (rq_p rfl rfl)) ?_); (refine sg (gq_vt rfl rfl) (fun he => ap_lss (rq_c rfl rfl) (rq_p rfl rfl)) ?_); (refine su (ap_and (rq_p rfl rfl) (rq_c rfl rfl)) ?_); apply jW) | (refine wp_draw (id := 13) 9 mixed (by kernel_rfl) (by kernel_rfl) rfl ?_ <;> (refine rd_u rfl rfl (aloadpw rfl rfl rfl rfl) ?_) <;> (refine rmove rfl ?_) <;> (refine rd_u rfl rfl (ap_slice_m (rq_p rfl rfl) (by exact bq_some (rq_p rfl rfl)) (by exact bq_none) (by (simp only [sL] <;> omega))) ?_) <;> (refine rmove rfl ?_) <;> (refine rmove rfl ?_) <;> (refine rd_u rfl rfl (ap_slice_m (rq_p rfl rfl) (by exact bq_some (rq_p rfl rfl)) (by exact bq_none) (by (simp only [sL] <;> omega))) ?_) <;> (refine rmove rfl ?_) <;> (refine rd_call rfl rfl zq1 zq5 (e1) ?_) <;> (refine rd_u rfl rfl (aassign rfl) ?_) <;> (refine rd_end (by kernel_rfl) ?_)) | (refine rgC 14 ?_; (refine smove rfl ?_); (refine su (agtr rfl rfl) ?_); apply jW)))
      all_goals try (exfalso; simp at hc; omega)
      · (repeat' (first | apply jH | apply jN | (refine wp_draw (id := 15) 15 mixed (by kernel_rfl) (by kernel_rfl) rfl ?_ <;> (refine rmove rfl ?_) <;> (refine rmove rfl ?_) <;> (refine rd_u rfl rfl (aloadpw rfl rfl rfl rfl) ?_) <;> (refine rmove rfl ?_) <;> (refine rd_u rfl rfl (aidxn rfl rfl (by (simp only [sL] <;> omega))) ?_) <;> (refine rd_u rfl rfl (aloadw rfl rfl) ?_) <;> (refine rd_u rfl rfl (asub rfl rfl (by omega)) ?_) <;> (refine rmove rfl ?_) <;> (refine rmove rfl ?_) <;> (refine rd_u rfl rfl (ap_slice_m (rq_p rfl rfl) (by exact bq_none) (by exact bq_some (rq_p rfl rfl)) (by omega)) ?_) <;> (refine rmove rfl ?_) <;> (refine rd_call rfl rfl zq1 zq5 (c1) ?_) <;> (refine rd_u rfl rfl (amul rfl rfl (by omega)) ?_) <;> (refine rd_u rfl rfl (aadd rfl rfl (by exact inr_i64_of (by omega))) ?_) <;> (refine rd_u rfl rfl (aassign rfl) ?_) <;> (refine rd_end (by kernel_rfl) ?_)) | (refine rgC 12 ?_; (refine smove rfl ?_); (refine sadd rfl rfl (by exact inr_i64_of (by omega)) ?_); (refine sassign rfl ?_); apply jW)))
        exact ⟨m + 1, ⟨by omega, by omega, by omega⟩, by dsimp only; rw [hsm]; exact ⟨[0], ToR.S rfl (by repeat' (first | exact rt_nil | refine rt_t rfl rfl ?_ | refine rt_e rfl rfl ?_ | refine rt_p rfl rfl (by first | (simp [AV.bd, bdL, bdL_append]; done) | fail) ?_)) (by repeat' (first | exact ro_nil | refine ro_p rfl (by first | exact rfl | fail) zq5 ?_)) rfl (by (rw [hm]; exact rfl)) rfl zq4 zq3 (by (rw [hm]; exact nle rfl))⟩⟩
      · (repeat' (first | apply jH | (refine rgC 12 ?_; (refine smove rfl ?_); (refine sadd rfl rfl (by exact inr_i64_of (by omega)) ?_); (refine sassign rfl ?_); apply jW)))
        have hb0 : bb = 0 := by omega
        have hv0 : v m = 0 := by rw [hvm, hb0, Nat.zero_mul]
        exact ⟨m + 1, ⟨by omega, by omega, by omega⟩, by rw [hpm, hv0, Nat.add_zero]; exact ⟨[0], ToR.S rfl (by repeat' (first | exact rt_nil | refine rt_t rfl rfl ?_ | refine rt_e rfl rfl ?_ | refine rt_p rfl rfl (by first | (simp [AV.bd, bdL, bdL_append]; done) | fail) ?_)) (by repeat' (first | exact ro_nil | refine ro_p rfl (by first | exact rfl | fail) zq5 ?_)) rfl (by (rw [hm]; exact rfl)) rfl zq4 zq3 (by (rw [hm]; exact nle rfl))⟩⟩
    · have hend := psum_min v hmM (by omega)
      (repeat' (first | apply jA | apply jH | apply jJ | apply jK | apply jL | apply jP | apply jS | (refine wp_cond rfl (fun hc => ?_) (fun hc => ?_) <;> (try simp only [sB, ne_eq, reduceCtorEq] at hc) <;> (try (exfalso; omega))) | (refine rgC 11 ?_; (refine smove rfl ?_); (refine smove rfl ?_); (refine slenm rfl rfl ?_); (refine smove rfl ?_); (refine slenm rfl rfl ?_); (refine su (asub rfl rfl (by exact inr_i64_of (by omega))) ?_); (refine sadd rfl rfl (by exact inr_i64_of (by omega)) ?_); (refine su (aleq rfl rfl) ?_); (refine smove rfl ?_); (refine sg (gq_vt rfl rfl) (fun he => ap_move (rq_p rfl rfl)) ?_); (refine sg (gq_vt rfl rfl) (fun he => ap_lss (rq_c rfl rfl) (rq_p rfl rfl)) ?_); (refine su (ap_and (rq_p rfl rfl) (rq_c rfl rfl)) ?_); apply jW) | (refine rgC 16 ?_; (refine smove rfl ?_); (refine su (amin rfl rfl) ?_); (refine sassign rfl ?_); apply jW) | refine ret_i rfl ?_))
      all_goals try (exfalso; simp at hc; omega)
      rw [<- hend]; omega
theorem count_fn {g : Gram} (hv : GVal g) : ∀ (d : Nat), d <= 1000 -> ∀ (h : Int) (s : List Int), s.length <= 1000 -> Fn Tryd.prog 23 [gramA g, intA h, intsA s, intA (d : Nat)] (intA (countC g d h s : Nat))
  | 0, _, h, s, hs => by
    rw [countC]
    refine Fn.intro rfl (by kernel_rfl) Tryd.func23 rfl rfl Tryd.ntmps23 (by exact nle rfl) ?_; intro Γ hm
    (repeat' (first | apply jA | apply jH | apply jK | apply jM | apply jS | (refine wp_cond rfl (fun hc => ?_) (fun hc => ?_) <;> (try simp only [sB, ne_eq, reduceCtorEq] at hc) <;> (try (exfalso; omega))) | (refine rgC 0 ?_; (refine se_box rfl (by exact ⟨rfl, rfl⟩) ?_); (refine sassign rfl ?_); apply jW) | (refine rgC 1 ?_; (refine smove rfl ?_); (refine seql rfl rfl ?_); apply jW) | (refine rgC 2 ?_; (refine sassign rfl ?_); apply jW) | exact ret_eq rfl rfl rfl))
    all_goals (rfl)
  | d + 1, hd, h, s, hs => by
    have hr2 := hv.r2
    rw [countC, psum_list]
    obtain ⟨v, hve⟩ : ∃ v, (fun i => if (nth g.rules i).head = h then bodyC (countC g d) (nth g.rules i).body s else 0) = v := ⟨_, rfl⟩
    have hva : ∀ i, v i = if (nth g.rules i).head = h then bodyC (countC g d) (nth g.rules i).body s else 0 := fun i => by rw [<- hve]
    rw [hve]
    have hdd : ((d + 1 : Nat) : Int) - 1 = (d : Nat) := by omega
    have hb := fun l h1 h2 => cbody_fn (d := d) (by omega) (count_fn hv d (by omega)) l s h1 hs h2
    refine Fn.intro rfl (by kernel_rfl) Tryd.func23 rfl rfl Tryd.ntmps23 (by exact nle rfl) ?_; intro Γ hm
    (repeat' (first | apply jA | apply jF | apply jH | apply jI | (refine wp_cond rfl (fun hc => ?_) (fun hc => ?_) <;> (try simp only [sB, ne_eq, reduceCtorEq] at hc) <;> (try (exfalso; omega))) | (refine rgC 0 ?_; (refine se_box rfl (by exact ⟨rfl, rfl⟩) ?_); (refine sassign rfl ?_); apply jW) | (refine rgC 1 ?_; (refine smove rfl ?_); (refine seql rfl rfl ?_); apply jW) | (refine WP.regionC ?_; (refine sassign rfl ?_); apply jW)))
    all_goals try (exfalso; simp at hc; omega)
    refine wp_loop (fun (i : Nat) => i <= g.rules.length /\ psum v i <= 3) (fun i => g.rules.length - i)
      (fun i => (S 47 [(1, intA h), (2, intsA s), (3, intA (d + 1 : Nat)), (4, .ptr 0 4 0 0), (9, intA (psum v i : Nat)), (10, intA (i : Nat))] 1 [(0, some (.arr 4 [gramA g]))])) 0 ⟨[0], ToR.S rfl (by repeat' (first | exact rt_nil | refine rt_t rfl rfl ?_ | refine rt_e rfl rfl ?_ | refine rt_p rfl rfl (by first | (simp [AV.bd, bdL, bdL_append]; done) | fail) ?_)) (by repeat' (first | exact ro_nil | refine ro_p rfl (by first | exact rfl | fail) zq5 ?_)) rfl (by (rw [hm]; exact rfl)) rfl zq4 zq3 (by (rw [hm]; exact nle rfl))⟩ ⟨Nat.zero_le _, by simp [psum]⟩ ?_
    rintro i ⟨hi, hs3⟩
    by_cases hgo : i < g.rules.length /\ psum v i < 2
    · obtain ⟨hil, hs2⟩ := hgo
      have hfit := hv.rule _ (nth_mem hil)
      have hn2 := hv.n2
      have hbi := hb (nth g.rules i).body (by have := hfit.len; omega) (fun x hx => by have := hfit.lo x hx; omega)
      have hb2 := bodyC_le (countC g d) (nth g.rules i).body s
      have hpm := psum_succ v i
      have hvi := hva i
      rw [<- hdd] at hbi
      generalize bodyC (countC g d) (nth g.rules i).body s = bb at *
      by_cases hh : (nth g.rules i).head = h
      · rw [if_pos hh] at hvi
        have hsm : ((psum v (i + 1) : Nat) : Int) = (psum v i : Nat) + (bb : Nat) := by rw [hpm, Int.natCast_add, hvi]
        (repeat' (first | apply jA | apply jF | apply jH | apply jI | apply jN | (refine wp_cond rfl (fun hc => ?_) (fun hc => ?_) <;> (try simp only [sB, ne_eq, reduceCtorEq] at hc) <;> (try (exfalso; omega))) | (refine rgC 5 ?_; (refine smove rfl ?_); (refine sfieldp rfl rfl rfl ?_); (refine sloadp rfl rfl rfl rfl ?_); (refine slenm rfl rfl ?_); (refine slss rfl rfl ?_); (refine smove rfl ?_); (refine sg (gq_vt rfl rfl) (fun he => ap_move (rq_p rfl rfl)) ?_); (refine sg (gq_vt rfl rfl) (fun he => ap_lss (rq_c rfl rfl) (rq_p rfl rfl)) ?_); (refine su (ap_and (rq_p rfl rfl) (rq_c rfl rfl)) ?_); apply jW) | (refine rgC 7 ?_; (refine sfieldp rfl rfl rfl ?_); (refine sloadp rfl rfl rfl rfl ?_); (refine smove rfl ?_); (refine sidxn rfl rfl (by omega) ?_); (refine su (afieldi rfl rfl rfl) ?_); (refine su (aloadi rfl rfl) ?_); (refine smove rfl ?_); (refine seql rfl rfl ?_); apply jW) | (refine wp_draw (id := 8) 14 mixed (by kernel_rfl) (by kernel_rfl) rfl ?_ <;> (refine rmove rfl ?_) <;> (refine rd_u rfl rfl (aloadpw rfl rfl rfl rfl) ?_) <;> (refine rfieldp rfl rfl rfl ?_) <;> (refine rloadp rfl rfl rfl rfl ?_) <;> (refine rmove rfl ?_) <;> (refine rd_u rfl rfl (aidxn rfl rfl (by omega)) ?_) <;> (refine rd_u rfl rfl (afieldi rfl rfl rfl) ?_) <;> (refine rd_u rfl rfl (aloadi rfl rfl) ?_) <;> (refine rmove rfl ?_) <;> (refine rmove rfl ?_) <;> (refine rd_u rfl rfl (asub rfl rfl (by exact inr_i64_of (by omega))) ?_) <;> (refine rd_call rfl rfl zq1 zq5 (hbi) ?_) <;> (refine rd_u rfl rfl (aadd rfl rfl (by exact inr_i64_of (by omega))) ?_) <;> (refine rd_u rfl rfl (aassign rfl) ?_) <;> (refine rd_end (by kernel_rfl) ?_)) | (refine rgC 6 ?_; (refine smove rfl ?_); (refine sadd rfl rfl (by exact inr_i64_of (by omega)) ?_); (refine sassign rfl ?_); apply jW)))
        all_goals try (exfalso; simp at hc; omega)
        all_goals try (exfalso; omega)
        exact ⟨i + 1, ⟨by omega, by omega, by omega⟩, by rw [hsm]; exact ⟨[0], ToR.S rfl (by repeat' (first | exact rt_nil | refine rt_t rfl rfl ?_ | refine rt_e rfl rfl ?_ | refine rt_p rfl rfl (by first | (simp [AV.bd, bdL, bdL_append]; done) | fail) ?_)) (by repeat' (first | exact ro_nil | refine ro_p rfl (by first | exact rfl | fail) zq5 ?_)) rfl (by (rw [hm]; exact rfl)) rfl zq4 zq3 (by (rw [hm]; exact nle rfl))⟩⟩
      · rw [if_neg hh] at hvi
        (repeat' (first | apply jA | apply jF | apply jH | apply jI | apply jN | (refine wp_cond rfl (fun hc => ?_) (fun hc => ?_) <;> (try simp only [sB, ne_eq, reduceCtorEq] at hc) <;> (try (exfalso; omega))) | (refine rgC 5 ?_; (refine smove rfl ?_); (refine sfieldp rfl rfl rfl ?_); (refine sloadp rfl rfl rfl rfl ?_); (refine slenm rfl rfl ?_); (refine slss rfl rfl ?_); (refine smove rfl ?_); (refine sg (gq_vt rfl rfl) (fun he => ap_move (rq_p rfl rfl)) ?_); (refine sg (gq_vt rfl rfl) (fun he => ap_lss (rq_c rfl rfl) (rq_p rfl rfl)) ?_); (refine su (ap_and (rq_p rfl rfl) (rq_c rfl rfl)) ?_); apply jW) | (refine rgC 7 ?_; (refine sfieldp rfl rfl rfl ?_); (refine sloadp rfl rfl rfl rfl ?_); (refine smove rfl ?_); (refine sidxn rfl rfl (by omega) ?_); (refine su (afieldi rfl rfl rfl) ?_); (refine su (aloadi rfl rfl) ?_); (refine smove rfl ?_); (refine seql rfl rfl ?_); apply jW) | (refine rgC 6 ?_; (refine smove rfl ?_); (refine sadd rfl rfl (by exact inr_i64_of (by omega)) ?_); (refine sassign rfl ?_); apply jW)))
        all_goals try (exfalso; simp at hc; omega)
        all_goals try (exfalso; omega)
        exact ⟨i + 1, ⟨by omega, by omega, by omega⟩, by rw [hpm, hvi, Nat.add_zero]; exact ⟨[0], ToR.S rfl (by repeat' (first | exact rt_nil | refine rt_t rfl rfl ?_ | refine rt_e rfl rfl ?_ | refine rt_p rfl rfl (by first | (simp [AV.bd, bdL, bdL_append]; done) | fail) ?_)) (by repeat' (first | exact ro_nil | refine ro_p rfl (by first | exact rfl | fail) zq5 ?_)) rfl (by (rw [hm]; exact rfl)) rfl zq4 zq3 (by (rw [hm]; exact nle rfl))⟩⟩
    · have hend := psum_min v hi (by omega)
      (repeat' (first | apply jA | apply jH | apply jJ | apply jK | apply jL | apply jP | apply jS | (refine wp_cond rfl (fun hc => ?_) (fun hc => ?_) <;> (try simp only [sB, ne_eq, reduceCtorEq] at hc) <;> (try (exfalso; omega))) | (refine rgC 5 ?_; (refine smove rfl ?_); (refine sfieldp rfl rfl rfl ?_); (refine sloadp rfl rfl rfl rfl ?_); (refine slenm rfl rfl ?_); (refine slss rfl rfl ?_); (refine smove rfl ?_); (refine sg (gq_vt rfl rfl) (fun he => ap_move (rq_p rfl rfl)) ?_); (refine sg (gq_vt rfl rfl) (fun he => ap_lss (rq_c rfl rfl) (rq_p rfl rfl)) ?_); (refine su (ap_and (rq_p rfl rfl) (rq_c rfl rfl)) ?_); apply jW) | (refine rgC 9 ?_; (refine smove rfl ?_); (refine su (amin rfl rfl) ?_); (refine sassign rfl ?_); apply jW) | refine ret_i rfl ?_))
      all_goals try (exfalso; simp at hc; omega)
      rw [<- hend]; omega
end Go.Lg
namespace Go.Lg
open Go.Proofs
attribute [local irreducible] Ap Rq asemC WP RunD Ret Gq thenA inBlockA bodyQ noGotoA RqL RqP OpP
attribute [local simp] AV.cells
def repR (g : Gram) (i k : Nat) : Bool := decide ((nth g.rules i).head = (nth g.rules k).head) && decide ((nth g.rules i).body = (nth g.rules k).body)
def repG (g : Gram) : Bool := (List.range g.rules.length).any fun i => (List.range i).any fun k => repR g i k
theorem rep_no {g : Gram} (h : repG g = false) : NoRep g := fun i j hij hj h1 h2 => by
 unfold repG at h
 rw [List.any_eq_false] at h
 have h3 := h j (List.mem_range.2 hj)
 apply h3
 rw [List.any_eq_true]
 refine ⟨i, List.mem_range.2 hij, ?_⟩
 unfold repR
 rw [h1, h2]; simp
theorem repeated_fn (g : Gram) (hr : g.rules.length <= 1000) : Fn Tryd.prog 22 [gramA g] (boolA (repG g)) := by
 refine Fn.intro rfl (by kernel_rfl) Tryd.func22 rfl rfl Tryd.ntmps22 (by exact nle rfl) ?_; intro Γ hm
 (repeat' (first | apply jA | apply jF | apply jH | (refine rgC 0 ?_; (refine se_box rfl (by exact ⟨rfl, rfl⟩) ?_); (refine sassign rfl ?_); apply jW) | (refine rgC 1 ?_; (refine sassign rfl ?_); apply jW)))
 refine wp_loop (fun (i : Nat) => i <= g.rules.length /\ ∀ j, j < i -> ((List.range j).any fun k => repR g j k) = false) (fun i => g.rules.length - i)
  (fun i => (S 45 [(1, .ptr 0 4 0 0), (3, intA (i : Nat))] 1 [(0, some (.arr 4 [gramA g]))])) 0 ⟨[0], ToR.S rfl (by repeat' (first | exact rt_nil | refine rt_t rfl rfl ?_ | refine rt_e rfl rfl ?_)) (by repeat' (first | exact ro_nil | refine ro_p rfl (by first | exact rfl | fail) zq5 ?_)) rfl (by (rw [hm]; exact rfl)) rfl zq4 zq3 (by (rw [hm]; exact nle rfl))⟩ ⟨Nat.zero_le _, fun j hj => absurd hj (Nat.not_lt_zero j)⟩ ?_
 rintro i ⟨hi, hall⟩
 by_cases hlt : i < g.rules.length
 ·(repeat' (first | apply jA | apply jF | apply jH | apply jI | (refine wp_cond rfl (fun hc => ?_) (fun hc => ?_) <;> (try simp only [sB, ne_eq, reduceCtorEq] at hc) <;> (try (exfalso; omega))) | (refine rgC 2 ?_; (refine smove rfl ?_); (refine sfieldp rfl rfl rfl ?_); (refine sloadp rfl rfl rfl rfl ?_); (refine slenm rfl rfl ?_); (refine slss rfl rfl ?_); apply jW) | (refine rgC 4 ?_; (refine sassign rfl ?_); apply jW)))
  refine wp_loop (fun (k : Nat) => k <= i /\ ∀ j, j < k -> repR g i j = false) (fun k => i - k)
   (fun k => (S 45 [(1, .ptr 0 4 0 0), (3, intA (i : Nat)), (4, intA (k : Nat))] 1 [(0, some (.arr 4 [gramA g]))])) 0 ⟨[0], ToR.S rfl (by repeat' (first | exact rt_nil | refine rt_t rfl rfl ?_ | refine rt_e rfl rfl ?_)) (by repeat' (first | exact ro_nil | refine ro_p rfl (by first | exact rfl | fail) zq5 ?_)) rfl (by (rw [hm]; exact rfl)) rfl zq4 zq3 (by (rw [hm]; exact nle rfl))⟩ ⟨Nat.zero_le _, fun j hj => absurd hj (Nat.not_lt_zero j)⟩ ?_
  rintro k ⟨hk, hkl⟩
  by_cases hki : k < i
  ·have hsm := same20_fn (nth g.rules i).body (nth g.rules k).body
   cases hrp : repR g i k with
   | true =>
    have hrg : repG g = true := by
     unfold repG
     rw [List.any_eq_true]
     exact ⟨i, List.mem_range.2 hlt, by rw [List.any_eq_true]; exact ⟨k, List.mem_range.2 hki, hrp⟩⟩
    rw [hrg]
    unfold repR at hrp
    rw [Bool.and_eq_true, decide_eq_true_iff] at hrp
    obtain ⟨hp1, hp2⟩ := hrp
    rw [hp2] at hsm
    (repeat' (first | apply jA | apply jF | apply jH | apply jI | apply jK | apply jM | apply jO | apply jS | (refine wp_cond rfl (fun hc => ?_) (fun hc => ?_) <;> (try simp only [sB, ne_eq, reduceCtorEq] at hc) <;> (try (exfalso; omega))) | (refine rgC 5 ?_; (refine smove rfl ?_); (refine smove rfl ?_); (refine slss rfl rfl ?_); apply jW) | (refine wp_draw (id := 7) 28 mixed (by kernel_rfl) (by kernel_rfl) rfl ?_ <;> (refine rfieldp rfl rfl rfl ?_) <;> (refine rloadp rfl rfl rfl rfl ?_) <;> (refine rmove rfl ?_) <;> (refine rd_u rfl rfl (aidxn rfl rfl (by omega)) ?_) <;> (refine rd_u rfl rfl (afieldi rfl rfl rfl) ?_) <;> (refine rd_u rfl rfl (aloadi rfl rfl) ?_) <;> (refine rfieldp rfl rfl rfl ?_) <;> (refine rloadp rfl rfl rfl rfl ?_) <;> (refine rmove rfl ?_) <;> (refine rd_u rfl rfl (aidxn rfl rfl (by omega)) ?_) <;> (refine rd_u rfl rfl (afieldi rfl rfl rfl) ?_) <;> (refine rd_u rfl rfl (aloadi rfl rfl) ?_) <;> (refine rd_u rfl rfl (aeql rfl rfl) ?_) <;> (refine rmove rfl ?_) <;> ((refine rd_split (t := 30) rfl (fun hc => ?_) (fun hc => ?_) <;> (try simp only [sB, ne_eq, reduceCtorEq] at hc) <;> (try (exfalso; omega)) <;> (refine gfieldp rfl rfl rfl rfl rfl ?_))) <;> (refine gloadp rfl rfl rfl rfl rfl rfl ?_) <;> (refine gmove rfl rfl rfl ?_) <;> (refine rdg_u rfl rfl rfl rfl (aidxn rfl rfl (by omega)) ?_) <;> (refine rdg_u rfl rfl rfl rfl (afieldi rfl rfl rfl) ?_) <;> (refine rdg_u rfl rfl rfl rfl (aloadi rfl rfl) ?_) <;> (refine gfieldp rfl rfl rfl rfl rfl ?_) <;> (refine gloadp rfl rfl rfl rfl rfl rfl ?_) <;> (refine gmove rfl rfl rfl ?_) <;> (refine rdg_u rfl rfl rfl rfl (aidxn rfl rfl (by omega)) ?_) <;> (refine rdg_u rfl rfl rfl rfl (afieldi rfl rfl rfl) ?_) <;> (refine rdg_u rfl rfl rfl rfl (aloadi rfl rfl) ?_) <;> (refine rdg_call rfl rfl rfl rfl zq1 zq5 (hsm) ?_) <;> (refine rd_pick_t rfl rfl ?_) <;> (refine rd_end (by kernel_rfl) ?_)) | (refine rgC 8 ?_; (refine sassign rfl ?_); apply jW) | exact ret_eq rfl rfl rfl))
    all_goals (rfl)
   | false =>
    have hst : ∀ j, j < k + 1 -> repR g i j = false := fun j hj => by
     by_cases e : j = k
     ·subst e; exact hrp
     ·exact hkl j (by omega)
    unfold repR at hrp
    generalize decide ((nth g.rules i).body = (nth g.rules k).body) = bb at *
    by_cases hh : (nth g.rules i).head = (nth g.rules k).head
    ·have hb0 : bb = false := by rw [decide_eq_true hh, Bool.true_and] at hrp; exact hrp
     subst hb0
     (repeat' (first | apply jA | apply jF | apply jH | apply jI | apply jN | (refine wp_cond rfl (fun hc => ?_) (fun hc => ?_) <;> (try simp only [sB, ne_eq, reduceCtorEq] at hc) <;> (try (exfalso; omega))) | (refine rgC 5 ?_; (refine smove rfl ?_); (refine smove rfl ?_); (refine slss rfl rfl ?_); apply jW) | (refine wp_draw (id := 7) 28 mixed (by kernel_rfl) (by kernel_rfl) rfl ?_ <;> (refine rfieldp rfl rfl rfl ?_) <;> (refine rloadp rfl rfl rfl rfl ?_) <;> (refine rmove rfl ?_) <;> (refine rd_u rfl rfl (aidxn rfl rfl (by omega)) ?_) <;> (refine rd_u rfl rfl (afieldi rfl rfl rfl) ?_) <;> (refine rd_u rfl rfl (aloadi rfl rfl) ?_) <;> (refine rfieldp rfl rfl rfl ?_) <;> (refine rloadp rfl rfl rfl rfl ?_) <;> (refine rmove rfl ?_) <;> (refine rd_u rfl rfl (aidxn rfl rfl (by omega)) ?_) <;> (refine rd_u rfl rfl (afieldi rfl rfl rfl) ?_) <;> (refine rd_u rfl rfl (aloadi rfl rfl) ?_) <;> (refine rd_u rfl rfl (aeql rfl rfl) ?_) <;> (refine rmove rfl ?_) <;> ((refine rd_split (t := 30) rfl (fun hc => ?_) (fun hc => ?_) <;> (try simp only [sB, ne_eq, reduceCtorEq] at hc) <;> (try (exfalso; omega)) <;> (refine gfieldp rfl rfl rfl rfl rfl ?_))) <;> (refine gloadp rfl rfl rfl rfl rfl rfl ?_) <;> (refine gmove rfl rfl rfl ?_) <;> (refine rdg_u rfl rfl rfl rfl (aidxn rfl rfl (by omega)) ?_) <;> (refine rdg_u rfl rfl rfl rfl (afieldi rfl rfl rfl) ?_) <;> (refine rdg_u rfl rfl rfl rfl (aloadi rfl rfl) ?_) <;> (refine gfieldp rfl rfl rfl rfl rfl ?_) <;> (refine gloadp rfl rfl rfl rfl rfl rfl ?_) <;> (refine gmove rfl rfl rfl ?_) <;> (refine rdg_u rfl rfl rfl rfl (aidxn rfl rfl (by omega)) ?_) <;> (refine rdg_u rfl rfl rfl rfl (afieldi rfl rfl rfl) ?_) <;> (refine rdg_u rfl rfl rfl rfl (aloadi rfl rfl) ?_) <;> (refine rdg_call rfl rfl rfl rfl zq1 zq5 (hsm) ?_) <;> (refine rd_pick_t rfl rfl ?_) <;> (refine rd_end (by kernel_rfl) ?_)) | (refine rgC 6 ?_; (refine smove rfl ?_); (refine sadd rfl rfl (by exact inr_i64_of (by omega)) ?_); (refine sassign rfl ?_); apply jW)))
     all_goals try (exfalso; simp at hc; done)
     all_goals try (exfalso; omega)
     exact ⟨k + 1, ⟨by omega, by omega, hst⟩, ⟨[0], ToR.S rfl (by repeat' (first | exact rt_nil | refine rt_t rfl rfl ?_ | refine rt_e rfl rfl ?_)) (by repeat' (first | exact ro_nil | refine ro_p rfl (by first | exact rfl | fail) zq5 ?_)) rfl (by (rw [hm]; exact rfl)) rfl zq4 zq3 (by (rw [hm]; exact nle rfl))⟩⟩
    ·(repeat' (first | apply jA | apply jF | apply jH | apply jI | apply jN | (refine wp_cond rfl (fun hc => ?_) (fun hc => ?_) <;> (try simp only [sB, ne_eq, reduceCtorEq] at hc) <;> (try (exfalso; omega))) | (refine rgC 5 ?_; (refine smove rfl ?_); (refine smove rfl ?_); (refine slss rfl rfl ?_); apply jW) | (refine wp_draw (id := 7) 28 mixed (by kernel_rfl) (by kernel_rfl) rfl ?_ <;> (refine rfieldp rfl rfl rfl ?_) <;> (refine rloadp rfl rfl rfl rfl ?_) <;> (refine rmove rfl ?_) <;> (refine rd_u rfl rfl (aidxn rfl rfl (by omega)) ?_) <;> (refine rd_u rfl rfl (afieldi rfl rfl rfl) ?_) <;> (refine rd_u rfl rfl (aloadi rfl rfl) ?_) <;> (refine rfieldp rfl rfl rfl ?_) <;> (refine rloadp rfl rfl rfl rfl ?_) <;> (refine rmove rfl ?_) <;> (refine rd_u rfl rfl (aidxn rfl rfl (by omega)) ?_) <;> (refine rd_u rfl rfl (afieldi rfl rfl rfl) ?_) <;> (refine rd_u rfl rfl (aloadi rfl rfl) ?_) <;> (refine rd_u rfl rfl (aeql rfl rfl) ?_) <;> (refine rmove rfl ?_) <;> ((refine rd_split (t := 30) rfl (fun hc => ?_) (fun hc => ?_) <;> (try simp only [sB, ne_eq, reduceCtorEq] at hc) <;> (try (exfalso; omega)) <;> (refine rd_skip rfl rfl ?_))) <;> (refine rd_skip rfl rfl ?_) <;> (refine rd_skip rfl rfl ?_) <;> (refine rd_skip rfl rfl ?_) <;> (refine rd_skip rfl rfl ?_) <;> (refine rd_skip rfl rfl ?_) <;> (refine rd_skip rfl rfl ?_) <;> (refine rd_skip rfl rfl ?_) <;> (refine rd_skip rfl rfl ?_) <;> (refine rd_skip rfl rfl ?_) <;> (refine rd_skip rfl rfl ?_) <;> (refine rd_skip rfl rfl ?_) <;> (refine rd_skip rfl rfl ?_) <;> (refine rd_pick_f rfl rfl ?_) <;> (refine rd_end (by kernel_rfl) ?_)) | (refine rgC 6 ?_; (refine smove rfl ?_); (refine sadd rfl rfl (by exact inr_i64_of (by omega)) ?_); (refine sassign rfl ?_); apply jW)))
     all_goals try (exfalso; simp at hc; done)
     all_goals try (exfalso; omega)
     exact ⟨k + 1, ⟨by omega, by omega, hst⟩, ⟨[0], ToR.S rfl (by repeat' (first | exact rt_nil | refine rt_t rfl rfl ?_ | refine rt_e rfl rfl ?_)) (by repeat' (first | exact ro_nil | refine ro_p rfl (by first | exact rfl | fail) zq5 ?_)) rfl (by (rw [hm]; exact rfl)) rfl zq4 zq3 (by (rw [hm]; exact nle rfl))⟩⟩
  ·obtain rfl : k = i := by omega
   (repeat' (first | apply jA | apply jH | apply jJ | apply jL | apply jN | apply jP | (refine wp_cond rfl (fun hc => ?_) (fun hc => ?_) <;> (try simp only [sB, ne_eq, reduceCtorEq] at hc) <;> (try (exfalso; omega))) | (refine rgC 5 ?_; (refine smove rfl ?_); (refine smove rfl ?_); (refine slss rfl rfl ?_); apply jW) | (refine rgC 3 ?_; (refine smove rfl ?_); (refine sadd rfl rfl (by exact inr_i64_of (by omega)) ?_); (refine sassign rfl ?_); apply jW)))
   refine ⟨k + 1, ⟨by omega, by omega, fun j hj => ?_⟩, ⟨[0], ToR.S rfl (by repeat' (first | exact rt_nil | refine rt_t rfl rfl ?_ | refine rt_e rfl rfl ?_)) (by repeat' (first | exact ro_nil | refine ro_p rfl (by first | exact rfl | fail) zq5 ?_)) rfl (by (rw [hm]; exact rfl)) rfl zq4 zq3 (by (rw [hm]; exact nle rfl))⟩⟩
   by_cases e : j = k
   ·subst e
    rw [List.any_eq_false]
    intro x hx
    rw [hkl x (List.mem_range.1 hx)]; simp
   ·exact hall j (by omega)
 ·have hrg : repG g = false := by
   unfold repG
   rw [List.any_eq_false]
   intro j hj
   rw [hall j (by have := List.mem_range.1 hj; omega)]; simp
  rw [hrg]
  (repeat' (first | apply jA | apply jH | apply jJ | apply jK | apply jL | apply jP | apply jS | (refine wp_cond rfl (fun hc => ?_) (fun hc => ?_) <;> (try simp only [sB, ne_eq, reduceCtorEq] at hc) <;> (try (exfalso; omega))) | (refine rgC 2 ?_; (refine smove rfl ?_); (refine sfieldp rfl rfl rfl ?_); (refine sloadp rfl rfl rfl rfl ?_); (refine slenm rfl rfl ?_); (refine slss rfl rfl ?_); apply jW) | (refine rgC 9 ?_; (refine sassign rfl ?_); apply jW) | exact ret_eq rfl rfl rfl))
  all_goals try rfl
theorem una_facts {g : Gram} {l : List GLe} (hG : OpG g l) (hrep : NoRep g) (hf : FewL l) {s : List Int} (hs : s.length <= 7) : countC (stratG g l) 40 (stratG g l).start s <= 1 /\ (exprE g l 8 s = true -> countC (stratG g l) 40 (stratG g l).start s = 1) := by
 have hv := hG.v
 have hst : (stratG g l).start = nth (chnG g l (eO g)) 0 := by
  rw [chnG_at g l (by omega), if_pos rfl]
  show g.start = ((g.start.toNat : Nat) : Int)
  have := hv.s0
  omega
 have hK : KO g l <= 10 := by
  have := useL_len g l (eO g)
  have := hf.n
  unfold KO; omega
 rw [hst]
 refine ⟨(hG.all hrep 40 0 s (by omega)).1, fun hE => ?_⟩
 exact hG.one hrep 40 0 s (hG.expr 8 s hE) (by omega) (fun x _ _ => Nat.zero_le _) (by omega)
theorem law_puna (g : Gram) (l : List GLe) (zs : List Int) (hz : Arr8 zs) : Fn Tryd.prog 7 [gramA g, levelsA l, .agg (zs.map u8V)] (boolA true) := by
 have h1 := few20_fn g l 10 (by decide) (by decide)
 have haw := awake20_fn
 have hsl := seqL_len hz g.terms.length
 have hsq := fun (h0 : (0 : Int) < (g.terms.length : Nat)) h1 => sequence_fn zs g.terms.length hz h0 h1
 generalize hss : seqL zs g.terms.length = s at *
 obtain ⟨z0, z1, z2, z3, z4, z5, z6, z7, hmap⟩ := lit8 hz.1
 rw [hmap] at hsq ⊢
 cases hfl : fewG g l 10 with
 | false =>
  rw [hfl] at h1
  refine Fn.intro rfl (by kernel_rfl) Tryd.func7 rfl rfl Tryd.ntmps7 (by exact nle rfl) ?_; intro Γ hm
  (repeat' (first | apply jA | apply jH | apply jK | apply jM | apply jS | (refine wp_cond rfl (fun hc => ?_) (fun hc => ?_) <;> (try simp only [sB, ne_eq, reduceCtorEq] at hc) <;> (try (exfalso; omega))) | (refine rgC 0 ?_; (refine se_box rfl (by exact ⟨rfl, rfl⟩) ?_); (refine se_box rfl (by exact ⟨rfl, rfl⟩) ?_); (refine sassign rfl ?_); apply jW) | (refine rgC 1 ?_; (refine sloadpw rfl rfl rfl rfl ?_); (refine smove rfl ?_); (refine sc_p rfl rfl zq1 zq5 (h1) ?_); (refine su (anot rfl) ?_); (refine smove rfl ?_); (refine sg (gq_vf rfl rfl) (fun he => ap_field_p (rq_p rfl rfl) rfl rfl) ?_); (refine sg (gq_vf rfl rfl) (fun he => ap_load_p (rq_c rfl rfl) rfl rfl rfl) ?_); (refine sg (gq_vf rfl rfl) (fun he => ap_len_m rfl (rq_c rfl rfl)) ?_); (refine sg (gq_vf rfl rfl) (fun he => ap_eql (rq_c rfl rfl) (rq_p rfl rfl)) ?_); (refine su (ap_or (rq_p rfl rfl) (rq_c rfl rfl)) ?_); (refine smove rfl ?_); (refine sg (gq_vf rfl rfl) (fun he => ap_load_pw (rq_p rfl rfl) rfl rfl rfl) ?_); (refine sg (gq_vf rfl rfl) (fun he => ap_move (rq_p rfl rfl)) ?_); (refine sk_no rfl rfl ?_); (refine sk_no rfl rfl ?_); (refine pk_t rfl rfl ?_); (refine smove rfl ?_); (refine sg (gq_vf rfl rfl) (fun he => ap_load_pw (rq_p rfl rfl) rfl rfl rfl) ?_); (refine sg (gq_vf rfl rfl) (fun he => ap_move (rq_p rfl rfl)) ?_); (refine sk_no rfl rfl ?_); (refine sk_no rfl rfl ?_); (refine pk_t rfl rfl ?_); (refine smove rfl ?_); (refine sg (gq_vf rfl rfl) (fun he => ap_load_pw (rq_p rfl rfl) rfl rfl rfl) ?_); (refine sk_no rfl rfl ?_); (refine pk_t rfl rfl ?_); apply jW) | (refine rgC 2 ?_; (refine sc_p rfl rfl (by first | ((repeat' (exact SubL.nil)); done) | fail) zq5 (haw) ?_); (refine sassign rfl ?_); apply jW) | exact ret_eq rfl rfl rfl))
  all_goals (rfl)
 | true =>
  rw [hfl] at h1
  have hf := FewL.of hfl
  have hfn := hf.n
  have hr10 : g.rules.length <= 1000 := by
   unfold fewG at hfl
   simp only [Bool.and_eq_true, decide_eq_true_eq] at hfl
   omega
  have hp := pstrat_fn g l hf
  unfold stratA at hp
  have hck := check20_fn g l hf
  have hop := fun h : checkG g l = 0 => operands_fn g l (check_facts h).1 hf
  have hre := repeated_fn g hr10
  generalize hpo : g.rules.all (opdR g l) = po at *
  generalize hrp : repG g = rp at *
  refine Fn.intro rfl (by kernel_rfl) Tryd.func7 rfl rfl Tryd.ntmps7 (by exact nle rfl) ?_; intro Γ hm
  (repeat' (first | apply jA | apply jH | apply jI | apply jK | apply jM | apply jS | (refine wp_cond rfl (fun hc => ?_) (fun hc => ?_) <;> (try simp only [sB, ne_eq, reduceCtorEq] at hc) <;> (try (exfalso; omega))) | (refine rgC 0 ?_; (refine se_box rfl (by exact ⟨rfl, rfl⟩) ?_); (refine se_box rfl (by exact ⟨rfl, rfl⟩) ?_); (refine sassign rfl ?_); apply jW) | (refine rgC 1 ?_; (refine sloadpw rfl rfl rfl rfl ?_); (refine smove rfl ?_); (refine sc_p rfl rfl zq1 zq5 (h1) ?_); (refine su (anot rfl) ?_); (refine smove rfl ?_); (refine sg (gq_vf rfl rfl) (fun he => ap_field_p (rq_p rfl rfl) rfl rfl) ?_); (refine sg (gq_vf rfl rfl) (fun he => ap_load_p (rq_c rfl rfl) rfl rfl rfl) ?_); (refine sg (gq_vf rfl rfl) (fun he => ap_len_m rfl (rq_c rfl rfl)) ?_); (refine sg (gq_vf rfl rfl) (fun he => ap_eql (rq_c rfl rfl) (rq_p rfl rfl)) ?_); (refine su (ap_or (rq_p rfl rfl) (rq_c rfl rfl)) ?_); (refine smove rfl ?_); (refine sg (gq_vf rfl rfl) (fun he => ap_load_pw (rq_p rfl rfl) rfl rfl rfl) ?_); (refine sg (gq_vf rfl rfl) (fun he => ap_move (rq_p rfl rfl)) ?_); (refine sg_p (gq_vf rfl rfl) (fun he => ⟨(rq_p rfl rfl), (RqL.cons (rq_c rfl rfl) (RqL.cons (rq_c rfl rfl) (RqL.nil))), zq1, zq5, hck⟩) ?_); (refine sg (gq_vf rfl rfl) (fun he => ap_neq (rq_c rfl rfl) (rq_p rfl rfl)) ?_); (refine su (ap_or (rq_p rfl rfl) (rq_c rfl rfl)) ?_); (refine smove rfl ?_); (refine sg (gq_vf rfl rfl) (fun he => ap_load_pw (rq_p rfl rfl) rfl rfl rfl) ?_); (refine sg (gq_vf rfl rfl) (fun he => ap_move (rq_p rfl rfl)) ?_); (refine sg_p (gq_vf rfl rfl) (fun he => ⟨(rq_p rfl rfl), (RqL.cons (rq_c rfl rfl) (RqL.cons (rq_c rfl rfl) (RqL.nil))), zq1, zq5, (hop (by simp at he; omega))⟩) ?_); (refine sg (gq_vf rfl rfl) (fun he => ap_not (rq_c rfl rfl)) ?_); (refine su (ap_or (rq_p rfl rfl) (rq_c rfl rfl)) ?_); (refine smove rfl ?_); (refine sg (gq_vf rfl rfl) (fun he => ap_load_pw (rq_p rfl rfl) rfl rfl rfl) ?_); (refine sg_p (gq_vf rfl rfl) (fun he => ⟨(rq_p rfl rfl), (RqL.cons (rq_c rfl rfl) (RqL.nil)), zq1, zq5, hre⟩) ?_); (refine su (ap_or (rq_p rfl rfl) (rq_c rfl rfl)) ?_); apply jW) | (refine rgC 2 ?_; (refine sc_p rfl rfl (by first | ((repeat' (exact SubL.nil)); done) | fail) zq5 (haw) ?_); (refine sassign rfl ?_); apply jW) | exact ret_eq rfl rfl rfl))
  all_goals try (exfalso; simp at hc; done)
  all_goals try rfl
  have hc0 : checkG g l = 0 := by have h := hc; simp at h; omega
  have hpo1 : po = true := by have h := hc; simp at h; exact h.1.2
  have hrp1 : rp = false := by have h := hc; simp at h; exact h.2
  have ht0 : g.terms.length ≠ 0 := by have h := hc; simp at h; omega
  clear hc
  have hG := ops_of hc0 (hpo.trans hpo1)
  have hv := hG.v
  have ht2 := hv.terms
  have hsq3 := hsq (by omega) (by omega)
  have hex := expr_fn hG hf 8 s (by omega) (by omega)
  have huf := una_facts hG (rep_no (hrp.trans hrp1)) hf hsl
  cases hvs : validG (stratG g l) with
  | false =>
   have hR : stratR g l = (zG, [], 11) := by unfold stratR; rw [if_pos hc0, if_neg (by rw [hvs]; simp)]
   rw [hR] at hp
   simp only at hp
   (repeat' (first | apply jA | apply jH | apply jI | apply jK | apply jM | apply jS | (refine wp_cond rfl (fun hc => ?_) (fun hc => ?_) <;> (try simp only [sB, ne_eq, reduceCtorEq] at hc) <;> (try (exfalso; omega))) | (refine rgC 3 ?_; (refine sloadpw rfl rfl rfl rfl ?_); (refine smove rfl ?_); (refine sc_p rfl rfl zq1 zq5 (hp) ?_); (refine smove rfl ?_); (refine su (aextract rfl rfl) ?_); (refine su (aextract rfl rfl) ?_); (refine su (aextract rfl rfl) ?_); (refine se_alloc rfl ?_); (refine se_store_b rfl rfl rfl rfl ?_); (refine sassign rfl ?_); (refine sassign rfl ?_); apply jW) | (refine rgC 4 ?_; (refine smove rfl ?_); (refine seql rfl rfl ?_); apply jW) | (refine rgC 5 ?_; (refine sc_p rfl rfl (by first | ((repeat' (exact SubL.nil)); done) | fail) zq5 (haw) ?_); (refine sassign rfl ?_); apply jW) | exact ret_eq rfl rfl rfl))
   all_goals ((exfalso; simp at hc; done))
  | true =>
   have hR : stratR g l = (stratG g l, fromG g l, 0) := by unfold stratR; rw [if_pos hc0, if_pos hvs]
   rw [hR] at hp
   simp only at hp
   have hvT := validG_iff.1 hvs
   have hvl := rvalid18_fn (stratG g l)
   rw [hvs] at hvl
   have hct := count_fn hvT 40 (by decide) (stratG g l).start s (by omega)
   generalize countC (stratG g l) 40 (stratG g l).start s = n at *
   generalize stratG g l = T at *
   generalize fromG g l = fr at *
   cases hee : exprE g l 8 s with
   | false =>
    rw [hee] at hex
    have hn1 := huf.1
    (repeat' (first | apply jA | apply jH | apply jI | apply jK | apply jS | (refine wp_cond rfl (fun hc => ?_) (fun hc => ?_) <;> (try simp only [sB, ne_eq, reduceCtorEq] at hc) <;> (try (exfalso; omega))) | (refine rgC 3 ?_; (refine sloadpw rfl rfl rfl rfl ?_); (refine smove rfl ?_); (refine sc_p rfl rfl zq1 zq5 (hp) ?_); (refine smove rfl ?_); (refine su (aextract rfl rfl) ?_); (refine su (aextract rfl rfl) ?_); (refine su (aextract rfl rfl) ?_); (refine se_alloc rfl ?_); (refine se_store_b rfl rfl rfl rfl ?_); (refine sassign rfl ?_); (refine sassign rfl ?_); apply jW) | (refine rgC 4 ?_; (refine smove rfl ?_); (refine seql rfl rfl ?_); apply jW) | (refine rgC 6 ?_; (refine smove rfl ?_); (refine su (aneq rfl rfl) ?_); (refine smove rfl ?_); (refine sg (gq_vf rfl rfl) (fun he => ap_load_pw (rq_p rfl rfl) rfl rfl rfl) ?_); (refine sg_p (gq_vf rfl rfl) (fun he => ⟨(rq_p rfl rfl), (RqL.cons (rq_c rfl rfl) (RqL.nil)), zq1, zq5, rvalid18_fn _⟩) ?_); (refine sg (gq_vf rfl rfl) (fun he => ap_not (rq_c rfl rfl)) ?_); (refine su (ap_or (rq_p rfl rfl) (rq_c rfl rfl)) ?_); apply jW) | (refine rgC 8 ?_; (refine sloadpw rfl rfl rfl rfl ?_); (refine sfieldp rfl rfl rfl ?_); (refine sloadp rfl rfl rfl rfl ?_); (refine slenm rfl rfl ?_); (refine sc_p rfl rfl zq1 zq5 (hsq3) ?_); (refine sassign rfl ?_); apply jW) | (refine rgC 9 ?_; (refine sloadpw rfl rfl rfl rfl ?_); (refine sfieldp rfl rfl rfl ?_); (refine sloadp rfl rfl rfl rfl ?_); (refine smove rfl ?_); (refine sc_p rfl rfl zq1 zq5 (hct) ?_); (refine sassign rfl ?_); apply jW) | (refine rgC 10 ?_; (refine sloadpw rfl rfl rfl rfl ?_); (refine smove rfl ?_); (refine smove rfl ?_); (refine sc_p rfl rfl zq1 zq5 (hex) ?_); apply jW) | (refine rgC 12 ?_; (refine sc_p rfl rfl (by first | ((repeat' (exact SubL.nil)); done) | fail) zq5 (haw) ?_); (refine smove rfl ?_); (refine sg (gq_vt rfl rfl) (fun he => ap_move (rq_p rfl rfl)) ?_); (refine sg (gq_vt rfl rfl) (fun he => ap_leq (rq_c rfl rfl) (rq_p rfl rfl)) ?_); (refine su (ap_and (rq_p rfl rfl) (rq_c rfl rfl)) ?_); (refine sassign rfl ?_); apply jW) | refine ret_b rfl ?_))
    all_goals (first | (exfalso; simp [hvs] at hc; done) | (rw [Bool.true_and, decide_eq_true_eq]; omega))
   | true =>
    rw [hee] at hex
    have hn1 := huf.2 hee
    (repeat' (first | apply jA | apply jH | apply jI | apply jK | apply jM | apply jS | (refine wp_cond rfl (fun hc => ?_) (fun hc => ?_) <;> (try simp only [sB, ne_eq, reduceCtorEq] at hc) <;> (try (exfalso; omega))) | (refine rgC 3 ?_; (refine sloadpw rfl rfl rfl rfl ?_); (refine smove rfl ?_); (refine sc_p rfl rfl zq1 zq5 (hp) ?_); (refine smove rfl ?_); (refine su (aextract rfl rfl) ?_); (refine su (aextract rfl rfl) ?_); (refine su (aextract rfl rfl) ?_); (refine se_alloc rfl ?_); (refine se_store_b rfl rfl rfl rfl ?_); (refine sassign rfl ?_); (refine sassign rfl ?_); apply jW) | (refine rgC 4 ?_; (refine smove rfl ?_); (refine seql rfl rfl ?_); apply jW) | (refine rgC 6 ?_; (refine smove rfl ?_); (refine su (aneq rfl rfl) ?_); (refine smove rfl ?_); (refine sg (gq_vf rfl rfl) (fun he => ap_load_pw (rq_p rfl rfl) rfl rfl rfl) ?_); (refine sg_p (gq_vf rfl rfl) (fun he => ⟨(rq_p rfl rfl), (RqL.cons (rq_c rfl rfl) (RqL.nil)), zq1, zq5, rvalid18_fn _⟩) ?_); (refine sg (gq_vf rfl rfl) (fun he => ap_not (rq_c rfl rfl)) ?_); (refine su (ap_or (rq_p rfl rfl) (rq_c rfl rfl)) ?_); apply jW) | (refine rgC 8 ?_; (refine sloadpw rfl rfl rfl rfl ?_); (refine sfieldp rfl rfl rfl ?_); (refine sloadp rfl rfl rfl rfl ?_); (refine slenm rfl rfl ?_); (refine sc_p rfl rfl zq1 zq5 (hsq3) ?_); (refine sassign rfl ?_); apply jW) | (refine rgC 9 ?_; (refine sloadpw rfl rfl rfl rfl ?_); (refine sfieldp rfl rfl rfl ?_); (refine sloadp rfl rfl rfl rfl ?_); (refine smove rfl ?_); (refine sc_p rfl rfl zq1 zq5 (hct) ?_); (refine sassign rfl ?_); apply jW) | (refine rgC 10 ?_; (refine sloadpw rfl rfl rfl rfl ?_); (refine smove rfl ?_); (refine smove rfl ?_); (refine sc_p rfl rfl zq1 zq5 (hex) ?_); apply jW) | (refine rgC 11 ?_; (refine sc_p rfl rfl (by first | ((repeat' (exact SubL.nil)); done) | fail) zq5 (haw) ?_); (refine smove rfl ?_); (refine sg (gq_vt rfl rfl) (fun he => ap_move (rq_p rfl rfl)) ?_); (refine sg (gq_vt rfl rfl) (fun he => ap_eql (rq_c rfl rfl) (rq_p rfl rfl)) ?_); (refine su (ap_and (rq_p rfl rfl) (rq_c rfl rfl)) ?_); (refine sassign rfl ?_); apply jW) | refine ret_b rfl ?_))
    all_goals (first | (exfalso; simp [hvs] at hc; done) | (rw [Bool.true_and, decide_eq_true_eq]; omega))
end Go.Lg
