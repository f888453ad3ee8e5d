/-
  Part 24 of the proof of PrecedenceRulesCard: the logic over the model, the functions' contracts and the plain laws.
-/
import Derived.Test.YtmgpndmmodkhhaaDoorPr23

set_option linter.unusedSimpArgs false
set_option linter.unusedVariables false
set_option linter.unusedSectionVars false
set_option linter.defProp false

namespace Go.Lg
open Go.Proofs
set_option linter.unusedSimpArgs false
set_option linter.unusedVariables false
attribute [local irreducible] Ap Rq asemC WP RunD Ret Gq thenA inBlockA bodyQ noGotoA RqL RqP OpP
set_option maxHeartbeats 8000000
set_option maxRecDepth 20000
attribute [local simp] AV.cells
def usdM (g : Gram) (l : List GLe) : List (Int × Option (List Int)) := (uks g l g.rules.length).map fun (e : Nat) => ((e : Int), some (useI g l e))
theorem usd_get {g : Gram} {l : List GLe} (hv : GVal g) (e : Nat) : slO ((aget (usdM g l) (e : Int)).getD none) = if useI g l e = [] then .val (.slice none 0 0) else intsA (useI g l e) := by
  unfold usdM
  rw [agetK (F := fun e => some (useI g l e))]
  by_cases h : useI g l e = []
  · rw [if_pos h, if_neg (fun hm => (uks_use hv).1 hm h)]; rfl
  · rw [if_neg h, if_pos ((uks_use hv).2 h)]; rfl
theorem ruleS_blen (g : Gram) (l : List GLe) (r : Rul) : (ruleS g l r).body.length = r.body.length := by
  unfold ruleS
  split
  · rename_i h; rw [bin_len3 h]; rfl
  · simp
def bodK (q s : Int) (B : List Int) (k : Nat) : List Int := match k with
  | 0 => B
  | 1 => bodN q s B
  | _ => bodQ q s B
theorem bodK_len (q s : Int) (B : List Int) (k : Nat) : (bodK q s B k).length = B.length := by
  have h1 : (bodN q s B).length = B.length := by unfold bodN; split <;> simp
  unfold bodK
  split
  · rfl
  · exact h1
  · unfold bodQ; split <;> simp [h1]
theorem bodK_step (q s : Int) {B : List Int} {k : Nat} (hk : k < 2) (hB : 0 < B.length) : ∃ z : Int, 0 ≤ z ∧ z < B.length ∧ [intA 0, intA ((B.length : Int) - 1)][k]? = some (intA z) ∧ bodK q s B (k + 1) = if nth (bodK q s B k) z.toNat = s then (bodK q s B k).set z.toNat q else bodK q s B k := by
  match k, hk with
  | 0, _ => exact ⟨0, by omega, by omega, rfl, rfl⟩
  | 1, _ =>
    refine ⟨(B.length : Int) - 1, by omega, by omega, rfl, ?_⟩
    rw [show ((B.length : Int) - 1).toNat = B.length - 1 by omega]; rfl
instance arI68 : ArI Tryd.prog 68 2 := by
  obtain ⟨d, i, hd, hi, hti⟩ := tinfo_of @ti3
  have h1 : i.size = 1 := by have := congrArg TI.size hti; exact this.symm
  exact ⟨3, i, by kernel_rfl, hi, h1, by kernel_rfl⟩
theorem tor_pick {m n M : Nat} {l : List (Nat × AV)} {os : List (Nat × Option AObj)} {t : St} {es : List AV} (j k : Nat) (_ : lkO j os = some (.arr k es)) (hT : ∃ is, ToR m is (S n l M os) t) : ∃ is, ToR m is (S n l M os) t := hT
theorem pind_cut {R : St → Prop} : PInd (fun e s => e = .normal ∧ R s) := fun ch s t x h => by cases h.1
section
open Go.RowKit
theorem su_sub {P : Program} {n M : Nat} {l : List (Nat × AV)} {os : List (Nat × Option AObj)} {d : Tmp} {ty : TypeId} {pos : String} {af : Array Edge} {ops : Array Oper} {rest : List Oper} {K : St → Prop} {op : Op} {x : AV} (y : AV) (h : Ap P n l M os [] op x) (hsub : ∀ (A : Nat → Prop) (ρ : Nat → Option Nat) (I : Nat → Prop) (w : World) (v : Value), RV A ρ I w x v → RV A ρ I w y v)
    (hk : asemC P ops rest (S n ((d, y) :: l) M os) K) : asemC P ops (⟨some d, op, ty, pos, af, none⟩ :: rest) (S n l M os) K := by
  simp only [asemC]
  refine .inr (.inr (OpS.of ⟨_, hk, fun Γ ac w hs => ?_⟩))
  obtain ⟨ρ, hs⟩ := hs
  have h' : apure P (S n l M os).look (S n l M os).op [] op = some x := by unfold Ap at h; exact h
  obtain ⟨v, hrun, hrv⟩ := pure_sound (P := P) hs (o := ⟨some d, op, ty, pos, af, none⟩) (e := []) rfl h'
  have hp := hs.put (some d) (x := y) (v := v) (hsub _ _ _ _ _ hrv)
  rw [S_put] at hp
  exact ⟨v, w, hrun, ρ, hp⟩
theorem sub_use {g : Gram} {l : List GLe} (hv : GVal g) (e : Nat) (A : Nat → Prop) (ρ : Nat → Option Nat) (I : Nat → Prop) (w : World) (v : Value) (h : RV A ρ I w (slO ((aget (usdM g l) (e : Int)).getD none)) v) : RV A ρ I w (intsA (useI g l e)) v := by
  rw [usd_get hv] at h
  by_cases hE : useI g l e = []
  · rw [if_pos hE] at h
    rw [hE, h.veq]
    exact .nils
  · rw [if_neg hE] at h; exact h
end
theorem ren_slM (π : Nat → Nat) (m : List (Int × Option (List Int))) : ((mapA intK slO m).map fun p => (p.1, p.2.ren π)) = mapA intK slO m := by
  unfold mapA
  rw [List.map_map]
  refine List.map_congr_left fun p _ => ?_
  simp only [Function.comp]
  rw [ren_pure (slO_bd 0 p.2)]
theorem pstrat_yes {g : Gram} (l : List GLe) (hf : FewL l) (hc0 : checkG g l = 0) : Fn Tryd.prog 14 [gramA g, levelsA l] (stratA (stratR g l)) := by
  have hv := (check_facts hc0).1
  have hval := validG_iff.2 hv
  have hlv := (check_facts hc0).2.1
  have hnm := (NVal.of hval).nm
  have hfn := hf.n
  have hn2 := hv.n2
  have hr2 := hv.r2
  have hs := start_yes l hf hval hlv
  rw [← chkV_is hval hlv, hc0] at hs
  have hus := used_fn l hf hv
  have hbin := fun r hr => binary_fn l hv hv.tnd r hr
  have hcl := cloneStrs_own g.nonterms (by omega)
  unfold usdA at hus
  rw [show ((uks g l g.rules.length).map fun (e : Nat) => ((e : Int), some (useI g l e))) = usdM g l from rfl] at hus
  unfold stA opmA at *
  refine Fn.intro (by simp [AV.bd, bdL, bdL_append]) (by kernel_rfl) Tryd.func14 rfl rfl Tryd.ntmps14 (by exact Nat.le_of_ble_eq_true rfl) ?_; intro Γ hm
  (repeat' (first | apply jA | apply jH | apply jI | (refine wp_cond rfl (fun hc => ?_) (fun hc => ?_) <;> (try simp only [sB, ne_eq, reduceCtorEq] at hc) <;> (try (exfalso; omega))) | (refine WP.regionC (id := 0) ?_; (refine se_box rfl (by exact ⟨rfl, rfl⟩) ?_); (refine se_alloc rfl ?_); (refine sassign rfl ?_); (refine sassign rfl ?_); apply jW) | (refine WP.regionC (id := 1) ?_; (refine sloadpw rfl rfl rfl rfl ?_); (refine smove rfl ?_); (refine sc_o [] rfl rfl (hs) (Lend.S (by first | ((repeat' first | exact RenL.nil | refine RenL.cons (by first | exact ren_agg (by first | ((repeat' first | exact RenL.nil | refine RenL.cons (by first | exact rfl | exact ren_p (by first | (simp [AV.bd, bdL, bdL_append]; done) | fail)) ?_); done) | fail) | exact ren_p (by simp [AV.bd, bdL, bdL_append])) ?_); done) | fail) (by first | ((repeat' (exact LendO.nil)); done) | fail) (by decide) rfl (by simp [AV.bd, bdL, bdL_append]) (by repeat' (exact True.intro))) ?_; simp only [updN, newO, AObj.ren, renL, AV.ren, apx, ap, if_true, if_false, Nat.reduceLT, Nat.reduceAdd, Nat.reduceSub, sO, intA, boolA, strA, ren_opm, ren_intA', ren_strsA, ren_rulesA, ren_levelsA]); (refine smove rfl ?_); (refine su (aextract rfl rfl) ?_); (refine su (aextract rfl rfl) ?_); (refine se_alloc rfl ?_); (refine se_store_b rfl rfl rfl rfl ?_); (refine sassign rfl ?_); apply jW) | (refine WP.regionC (id := 2) ?_; (refine smove rfl ?_); (refine su (aneq rfl rfl) ?_); apply jW)))
  all_goals try (exfalso; simp at hc; done)
  refine wp_st (S 260 [(1, levelsA l), (2, .ptr 1 4 0 0), (4, .ptr 2 4 0 0), (7, .ptr 3 6 0 0)] 4 [(0, some (.map (mapA strK intA (opM l)))), (1, some (.arr 4 [gramA g])), (2, some (.arr 4 [.agg [.val (.slice none 0 0), .val (.slice none 0 0), intA 0, .val (.slice none 0 0)]])), (3, some (.arr 6 [.agg [strsA g.terms, strsA g.nonterms, intA g.start, rulesA g.rules, levelsA l, .map 0]]))]) ⟨[2, 0, 1, 3], ToR.S rfl (by repeat' (first | exact rt_nil | refine rt_t rfl rfl ?_ | refine rt_p rfl rfl (by first | (simp [AV.bd, bdL, bdL_append]; done) | fail) ?_)) (by repeat' (first | exact ro_nil | refine ro_e rfl rfl ?_ | refine ro_p rfl (by first | exact rfl | fail) (by first | (simp [bdL, bdL_append, AV.bd]; done) | fail) ?_ | refine ro_m rfl rfl (mapA_bd (fun _ => by exact rfl) _) ?_ | refine ro_e rfl (by simp only [renL, AV.ren, ren_strsA, ren_intsA, ren_intA', ren_rulesA, ren_levelsA, chS_ren, chL_ren]; exact rfl) ?_)) rfl (by (rw [hm]; exact rfl)) rfl (by (simp [bdT, AV.bd, bdL, bdL_append]; done)) (by repeat' (first | exact True.intro | exact rfl | exact mapA_all (fun _ => by exact rfl) _ | refine And.intro ?_ ?_ | (simp [bdOq, bdL, bdL_append, AV.bd]; done))) (by (rw [hm]; exact Nat.le_of_ble_eq_true rfl))⟩ ?_
  (repeat' (first | apply jA | apply jF | apply jH | (refine WP.regionC (id := 4) ?_; (refine sloadpw rfl rfl rfl rfl ?_); (refine sc_o [0] rfl rfl (hus) (Lend.S (by first | ((repeat' first | exact RenL.nil | refine RenL.cons (by exact ren_agg (by first | ((repeat' first | exact RenL.nil | refine RenL.cons (by first | exact rfl | exact ren_p (by first | (simp [AV.bd, bdL, bdL_append]; done) | fail)) ?_); done) | fail)) ?_); done) | fail) (by first | ((repeat' first | exact LendO.nil | refine LendO.map rfl (by first | (simp [mapA, AV.ren, intA]; done) | fail) ?_); done) | fail) (by decide) rfl (by simp [AV.bd, bdL, bdL_append]) (by repeat' (first | exact True.intro | refine And.intro ?_ ?_ | (simp [mapA, AV.bd, intA]; done)))) ?_; simp only [updN, newO, AObj.ren, renL, AV.ren, apx, ap, if_true, if_false, Nat.reduceLT, Nat.reduceAdd, Nat.reduceSub, sO, intA, boolA, strA, ren_opm, ren_slM]); (refine sassign rfl ?_); apply jW) | (refine WP.regionC (id := 5) ?_; (refine sfieldp rfl rfl rfl ?_); (refine sloadp rfl rfl rfl rfl ?_); (refine sc_o [] rfl rfl (hcl) (Lend.S (by first | ((repeat' first | exact RenL.nil | refine RenL.cons (by exact ren_p (by simp [AV.bd, bdL, bdL_append])) ?_); done) | fail) (by first | ((repeat' (exact LendO.nil)); done) | fail) (by decide) rfl (by simp [AV.bd, bdL, bdL_append]) (by repeat' (exact True.intro))) ?_; simp only [updN, newO, AObj.ren, renL, AV.ren, apx, ap, if_true, if_false, Nat.reduceLT, Nat.reduceAdd, Nat.reduceSub, sO, intA, boolA, strA]); (refine sassign rfl ?_); apply jW) | (refine WP.regionC (id := 6) ?_; (refine sfieldp rfl rfl rfl ?_); (refine sloadp rfl rfl rfl rfl ?_); (refine slenm rfl rfl ?_); (refine se_make rfl rfl rfl rfl (by omega) ?_); (refine sassign rfl ?_); apply jW) | (refine WP.regionC (id := 7) ?_; (refine sfieldp rfl rfl rfl ?_); (refine sloadp rfl rfl rfl rfl ?_); (refine slenm rfl rfl ?_); (refine smove rfl ?_); apply jW)))
  refine wp_loop (fun (e : Nat) => e ≤ g.nonterms.length) (fun e => g.nonterms.length - e)
    (fun e => (S 260 [(1, levelsA l), (2, .ptr 1 4 0 0), (4, .ptr 2 4 0 0), (7, .ptr 3 6 0 0), (9, .map 4), (10, .ref 5 1 0 (namsG g l e).length), (11, .ref 6 1 0 g.nonterms.length), (51, strsA g.nonterms), (52, intA (g.nonterms.length : Nat)), (53, intA (e : Nat))] 7 [(0, some (.map (mapA strK intA (opM l)))), (1, some (.arr 4 [gramA g])), (2, some (.arr 4 [.agg [.val (.slice none 0 0), .val (.slice none 0 0), intA 0, .val (.slice none 0 0)]])), (3, some (.arr 6 [.agg [strsA g.terms, strsA g.nonterms, intA g.start, rulesA g.rules, levelsA l, .map 0]])), (4, some (.map (mapA intK slO (usdM g l)))), (5, some (.arr 1 ((namsG g l e).map strA))), (6, some (.arr 1 (chL g l e)))])) 0 ?_ (Nat.zero_le _) ?_
  · rw [show (namsG g l 0).length = g.nonterms.length by simp [namsG], show namsG g l 0 = g.nonterms by simp [namsG], chL_0]
    exact ⟨[0, 1, 2, 3, 4, 5, 6], ToR.S rfl (by repeat' (first | exact rt_nil | refine rt_r rfl rfl ?_ | refine rt_t rfl rfl ?_ | refine rt_m rfl rfl ?_ | refine rt_e rfl rfl ?_ | refine rt_p rfl rfl (by first | (simp [AV.bd, bdL, bdL_append]; done) | fail) ?_)) (by repeat' (first | exact ro_nil | refine ro_e rfl rfl ?_ | refine ro_p rfl (by first | exact rfl | fail) (by first | exact bdL_map (fun _ => by exact rfl) _ | (simp [bdL, bdL_append, AV.bd]; done) | fail) ?_ | refine ro_m rfl rfl (mapA_bd (fun _ => by first | exact rfl | simp [AV.bd, bdL]) _) ?_ | refine ro_e rfl (by simp only [renL, AV.ren, ren_strsA, ren_intsA, ren_intA', ren_rulesA, ren_levelsA, chS_ren, chL_ren]; exact rfl) ?_)) rfl (by (rw [hm]; exact rfl)) rfl (by (simp [bdT, AV.bd, bdL, bdL_append]; done)) (by repeat' (first | exact True.intro | exact rfl | exact mapA_all (fun _ => by first | exact rfl | simp [AV.bd, bdL]) _ | refine And.intro ?_ ?_ | exact bdL_map (fun _ => by exact rfl) _ | (simp [bdOq, bdL, bdL_append, AV.bd]; done))) (by (rw [hm]; exact Nat.le_of_ble_eq_true rfl))⟩
  intro e he
  have hoff := offN_bd (g := g) (l := l) hfn e
  have hnl := namsG_len g l e
  have hchl := chL_len g l e
  by_cases hlt : e < g.nonterms.length
  · have hul := useL_len g l e
    have hui : (useI g l e).length = (useL g l e).length := by simp [useI]
    (repeat' (first | apply jA | apply jF | apply jH | apply jI | (refine wp_cond rfl (fun hc => ?_) (fun hc => ?_) <;> (try simp only [sB, ne_eq, reduceCtorEq] at hc) <;> (try (exfalso; omega))) | (refine WP.regionC (id := 8) ?_; (refine slss rfl rfl ?_); apply jW) | (refine WP.regionC (id := 9) ?_; (refine smove rfl ?_); (refine sidxn rfl rfl (by omega) ?_); (refine sloadw rfl rfl ?_); (refine sassign rfl ?_); (refine sassign rfl ?_); apply jW)))
    refine WP.regionC (id := 10) ?_
    refine smove rfl ?_
    refine smove rfl ?_
    refine smove rfl ?_
    refine se_lit (OpP.cons rfl OpP.nil) rfl rfl rfl rfl rfl rfl ?_
    refine su (aidxrn rfl rfl (by omega)) ?_
    refine se_store (es := chL g l e) (ed := .val (.slice none 0 0)) (ed' := .ref 7 1 0 1) rfl rfl (chL_at hlt) rfl rfl ?_
    refine asemC_end ?_
    (repeat' (first | apply jA | apply jH))
    refine WP.regionC (id := 11) ?_
    refine smove rfl ?_
    refine smove rfl ?_
    refine su_sub (intsA (useI g l e)) (ap_look (kf := intK) (f := slO) (m := usdM g l) (z0 := none) (rq_p rfl rfl) rfl (rq_p rfl rfl) rfl) (sub_use hv e) ?_
    refine slenm rfl rfl ?_
    refine smove rfl ?_
    refine asemC_end ?_
    (repeat' (first | apply jF | apply jH))
    refine wp_loop (fun (i : Nat) => i ≤ (useI g l e).length) (fun i => (useI g l e).length - i)
      (fun i => (S 260 [(1, levelsA l), (2, .ptr 1 4 0 0), (4, .ptr 2 4 0 0), (7, .ptr 3 6 0 0), (9, .map 4), (10, .ref 5 1 0 (namP g l e i).length), (11, .ref 6 1 0 g.nonterms.length), (12, intA (e : Nat)), (13, strA (nth g.nonterms e)), (51, strsA g.nonterms), (52, intA (g.nonterms.length : Nat)), (53, intA (e : Nat)), (66, intA ((useI g l e).length : Nat)), (67, intA (i : Nat))] 8 [(0, some (.map (mapA strK intA (opM l)))), (1, some (.arr 4 [gramA g])), (2, some (.arr 4 [.agg [.val (.slice none 0 0), .val (.slice none 0 0), intA 0, .val (.slice none 0 0)]])), (3, some (.arr 6 [.agg [strsA g.terms, strsA g.nonterms, intA g.start, rulesA g.rules, levelsA l, .map 0]])), (4, some (.map (mapA intK slO (usdM g l)))), (5, some (.arr 1 ((namP g l e i).map strA))), (6, some (.arr 1 ((chL g l e).set e (.ref 7 1 0 (i + 1))))), (7, some (.arr 1 ((chnP g l e i).map intA)))])) 0 ?_ (Nat.zero_le _) ?_
    · rw [show chnP g l e 0 = [(e : Int)] from rfl, show namP g l e 0 = namsG g l e by simp [namP]]
      exact ⟨[0, 1, 2, 3, 4, 5, 6, 7], ToR.S rfl (by repeat' (first | exact rt_nil | refine rt_r rfl rfl ?_ | refine rt_t rfl rfl ?_ | refine rt_m rfl rfl ?_ | refine rt_e rfl rfl ?_ | refine rt_p rfl rfl (by first | (simp [AV.bd, bdL, bdL_append]; done) | fail) ?_)) (by repeat' (first | exact ro_nil | refine ro_e rfl rfl ?_ | refine ro_p rfl (by first | exact rfl | fail) (by first | exact bdL_map (fun _ => by exact rfl) _ | (simp [bdL, bdL_append, AV.bd]; done) | fail) ?_ | refine ro_m rfl rfl (mapA_bd (fun _ => by first | exact rfl | simp [AV.bd, bdL]) _) ?_ | refine ro_e rfl (by simp only [renL, AV.ren, ren_strsA, ren_intsA, ren_intA', ren_rulesA, ren_levelsA, chS_ren, chL_ren]; exact rfl) ?_)) rfl (by (rw [hm]; exact rfl)) rfl (by (simp [bdT, AV.bd, bdL, bdL_append]; done)) (by repeat' (first | exact True.intro | exact rfl | exact mapA_all (fun _ => by first | exact rfl | simp [AV.bd, bdL]) _ | refine And.intro ?_ ?_ | exact bdL_map (fun _ => by exact rfl) _ | (simp [bdOq, bdL, bdL_append, AV.bd]; done))) (by (rw [hm]; exact Nat.le_of_ble_eq_true rfl))⟩
    intro i hi
    have hnpl := namP_len g l e i
    have hcpl := chnP_len g l e i
    by_cases hil : i < (useI g l e).length
    · have hns := namP_succ g l e i
      have hcs := chnP_succ g l e i
      have hit := itoa_fn ((i : Int) + 2) (by omega) (by omega)
      rw [show (⟨(Lib.itoa ((i : Int) + 2)).toArray⟩ : ByteArray) = tx (Lib.decDigits (i + 2)) by rw [show ((i : Int) + 2) = ((i + 2 : Nat) : Int) by omega, itoa_nat]; rfl] at hit
      have hdl := dd_len (i + 2) (by omega)
      have hds := tx_size (Lib.decDigits (i + 2))
      have hne := (nameOk_szY (hnm _ (List.mem_append_right _ (nth_mem hlt))))
      rw [show ((offN g l e + i : Nat) : Int) = ((namP g l e i).length : Nat) by omega] at hcs
      (repeat' (first | apply jA | apply jF | apply jH | apply jI | (refine wp_cond rfl (fun hc => ?_) (fun hc => ?_) <;> (try simp only [sB, ne_eq, reduceCtorEq] at hc) <;> (try (exfalso; omega))) | (refine WP.regionC (id := 12) ?_; (refine slss rfl rfl ?_); apply jW) | (refine WP.regionC (id := 13) ?_; (refine smove rfl ?_); (refine sassign rfl ?_); apply jW)))
      refine WP.regionC (id := 14) ?_
      refine smove rfl ?_
      refine smove rfl ?_
      refine smove rfl ?_
      refine smove rfl ?_
      refine su (aidxrn rfl rfl (by omega)) ?_
      refine sloadp (y := .ref 7 1 0 (i + 1)) rfl rfl (chL_set hlt _) rfl ?_
      refine smove rfl ?_
      refine su (alenr rfl rfl) ?_
      refine se_lit (OpP.cons rfl OpP.nil) rfl rfl rfl rfl rfl rfl ?_
      refine se_app1 (f := intA) (L := chnP g l e i) (v := ((namP g l e i).length : Nat)) rfl rfl rfl (by omega) rfl rfl rfl rfl (by omega) ?_
      refine su (aidxrn rfl rfl (by omega)) ?_
      refine se_store (es := (chL g l e).set e (.ref 7 1 0 (i + 1))) (ed := .ref 7 1 0 (i + 1)) (ed' := .ref 9 1 0 (chnP g l e i ++ [((namP g l e i).length : Int)]).length) rfl rfl (chL_set hlt _) rfl rfl ?_
      refine asemC_end ?_
      rw [List.set_set, show (chnP g l e i ++ [((namP g l e i).length : Int)]).length = i + 1 + 1 by rw [List.length_append]; simp; omega]
      (repeat' (first | apply jH | apply jN | (refine WP.regionC (id := 15) ?_; (refine smove rfl ?_); (refine smove rfl ?_); (refine su (acat rfl rfl (by (simp only [bsz, sZ] <;> omega))) ?_); (refine smove rfl ?_); (refine sadd rfl rfl (by exact inr_i64_of (by omega)) ?_); (refine sc_p rfl rfl (by first | ((repeat' first | exact SubL.nil | refine SubL.cons ?_ ?_ | exact Sub.refl); done) | fail) (by first | (simp [bdL, bdL_append, AV.bd]; done) | fail) (hit) ?_); (refine su (acat rfl rfl (by (simp only [bsz, sZ] <;> omega))) ?_); (refine se_lit (OpP.cons rfl (OpP.nil)) rfl rfl rfl rfl rfl rfl ?_); (refine se_app1 rfl rfl rfl rfl rfl rfl rfl rfl (by omega) ?_); (refine sassign rfl ?_); apply jW) | (refine WP.regionC (id := 16) ?_; (refine sadd rfl rfl (by exact inr_i64_of (by omega)) ?_); (refine smove rfl ?_); apply jW)))
      refine ⟨i + 1, ⟨by omega, by omega⟩, ?_⟩
      rw [hns, hcs]
      exact ⟨[0, 1, 2, 3, 4, 11, 6, 9], ToR.S rfl (by repeat' (first | exact rt_nil | refine rt_r rfl rfl ?_ | refine rt_t rfl rfl ?_ | refine rt_m rfl rfl ?_ | refine rt_e rfl rfl ?_ | refine rt_p rfl rfl (by first | (simp [AV.bd, bdL, bdL_append]; done) | fail) ?_)) (by repeat' (first | exact ro_nil | refine ro_e rfl rfl ?_ | refine ro_p rfl (by first | exact rfl | fail) (by first | exact bdL_map (fun _ => by exact rfl) _ | (simp [bdL, bdL_append, AV.bd]; done) | fail) ?_ | refine ro_m rfl rfl (mapA_bd (fun _ => by first | exact rfl | simp [AV.bd, bdL]) _) ?_ | refine ro_e rfl (by simp only [renL, AV.ren, ren_strsA, ren_intsA, ren_intA', ren_rulesA, ren_levelsA, chS_ren, chL_ren]; exact rfl) ?_)) rfl (by (rw [hm]; exact rfl)) rfl (by (simp [bdT, AV.bd, bdL, bdL_append]; done)) (by repeat' (first | exact True.intro | exact rfl | exact mapA_all (fun _ => by first | exact rfl | simp [AV.bd, bdL]) _ | refine And.intro ?_ ?_ | exact bdL_map (fun _ => by exact rfl) _ | (simp [bdOq, bdL, bdL_append, AV.bd]; done))) (by (rw [hm]; exact Nat.le_of_ble_eq_true rfl))⟩
    · have hi2 : i = (useL g l e).length := by omega
      subst hi2
      rw [take_chn, namP_all]
      refine wp_frzRow (id := 7) (f := intA) (L := chnG g l e) (len := (useL g l e).length + 1) 6 e (by omega) rfl chS_one (chL_set hlt _) rfl (chnG_len g l e) (fun _ => rfl) (fun _ => rfl) ?_
      rw [List.set_set, show (AV.sl 1 ((chnG g l e).map intA)) = intsA (chnG g l e) from rfl, chL_succ]
      (repeat' (first | apply jA | apply jH | apply jJ | apply jL | apply jN | apply jP | (refine wp_cond rfl (fun hc => ?_) (fun hc => ?_) <;> (try simp only [sB, ne_eq, reduceCtorEq] at hc) <;> (try (exfalso; omega))) | (refine WP.regionC (id := 12) ?_; (refine slss rfl rfl ?_); apply jW) | (refine WP.regionC (id := 17) ?_; (refine sadd rfl rfl (by exact inr_i64_of (by omega)) ?_); (refine smove rfl ?_); apply jW)))
      exact ⟨e + 1, ⟨by omega, by omega⟩, ⟨[0, 1, 2, 3, 4, 5, 6], ToR.S rfl (by repeat' (first | exact rt_nil | refine rt_r rfl rfl ?_ | refine rt_t rfl rfl ?_ | refine rt_m rfl rfl ?_ | refine rt_e rfl rfl ?_ | refine rt_p rfl rfl (by first | (simp [AV.bd, bdL, bdL_append]; done) | fail) ?_)) (by repeat' (first | exact ro_nil | refine ro_e rfl rfl ?_ | refine ro_p rfl (by first | exact rfl | fail) (by first | exact bdL_map (fun _ => by exact rfl) _ | (simp [bdL, bdL_append, AV.bd]; done) | fail) ?_ | refine ro_m rfl rfl (mapA_bd (fun _ => by first | exact rfl | simp [AV.bd, bdL]) _) ?_ | refine ro_e rfl (by simp only [renL, AV.ren, ren_strsA, ren_intsA, ren_intA', ren_rulesA, ren_levelsA, chS_ren, chL_ren]; exact rfl) ?_)) rfl (by (rw [hm]; exact rfl)) rfl (by (simp [bdT, AV.bd, bdL, bdL_append]; done)) (by repeat' (first | exact True.intro | exact rfl | exact mapA_all (fun _ => by first | exact rfl | simp [AV.bd, bdL]) _ | refine And.intro ?_ ?_ | exact bdL_map (fun _ => by exact rfl) _ | (simp [bdOq, bdL, bdL_append, AV.bd]; done))) (by (rw [hm]; exact Nat.le_of_ble_eq_true rfl))⟩⟩
      exact 0
  · obtain rfl : e = g.nonterms.length := by omega
    rw [chL_all]
    refine wp_frz (f := strA) 10 hm rfl rfl rfl (fun _ => rfl) (fun _ => rfl) ?_
    refine wp_frz (f := intsA) 11 hm rfl rfl (chnTo_len g l _) (fun _ => by simp [intsA, AV.bd, bdL]) (fun _ => rfl) ?_
    (repeat' (first | apply jA | apply jF | apply jH | apply jJ | apply jL | apply jP | (refine wp_cond rfl (fun hc => ?_) (fun hc => ?_) <;> (try simp only [sB, ne_eq, reduceCtorEq] at hc) <;> (try (exfalso; omega))) | (refine WP.regionC (id := 8) ?_; (refine slss rfl rfl ?_); apply jW) | (refine WP.regionC ?_; (refine sassign rfl ?_); apply jW) | (refine WP.regionC (id := 20) ?_; (refine sfieldp rfl rfl rfl ?_); (refine sloadp rfl rfl rfl rfl ?_); (refine slenm rfl rfl ?_); (refine smove rfl ?_); apply jW)))
    refine wp_nil 15 3 rfl ?_
    refine wp_nil 16 1 rfl ?_
    refine wp_loop (fun (r : Nat) => r ≤ g.rules.length) (fun r => g.rules.length - r)
      (fun r => (S 260 [(1, levelsA l), (2, .ptr 1 4 0 0), (4, .ptr 2 4 0 0), (7, .ptr 3 6 0 0), (9, .map 4), (10, strsA (namsG g l g.nonterms.length)), (11, .sl 1 ((chnTo g l g.nonterms.length).map intsA)), (15, .ref 5 3 0 (rulTo g l r).length), (16, .ref 6 1 0 (froTo r).length), (93, rulesA g.rules), (94, intA (g.rules.length : Nat)), (95, intA (r : Nat))] 7 [(0, some (.map (mapA strK intA (opM l)))), (1, some (.arr 4 [gramA g])), (2, some (.arr 4 [.agg [.val (.slice none 0 0), .val (.slice none 0 0), intA 0, .val (.slice none 0 0)]])), (3, some (.arr 6 [.agg [strsA g.terms, strsA g.nonterms, intA g.start, rulesA g.rules, levelsA l, .map 0]])), (4, some (.map (mapA intK slO (usdM g l)))), (5, some (.arr 3 ((rulTo g l r).map ruleA))), (6, some (.arr 1 ((froTo r).map intA)))])) 0 ⟨[0, 1, 2, 3, 4, 7, 8], ToR.S rfl (by repeat' (first | exact rt_nil | refine rt_r rfl rfl ?_ | refine rt_t rfl rfl ?_ | refine rt_m rfl rfl ?_ | refine rt_e rfl rfl ?_ | refine rt_p rfl rfl (by first | (simp [AV.bd, bdL, bdL_append]; done) | fail) ?_)) (by repeat' (first | exact ro_nil | refine ro_e rfl rfl ?_ | refine ro_p rfl (by first | exact rfl | fail) (by first | (simp [bdL, bdL_append, AV.bd]; done) | fail) ?_ | refine ro_m rfl rfl (mapA_bd (fun _ => by first | exact rfl | simp [AV.bd, bdL]) _) ?_ | refine ro_e rfl (by simp only [renL, AV.ren, ren_strsA, ren_intsA, ren_intA', ren_rulesA, ren_levelsA, chS_ren, chL_ren]; exact rfl) ?_)) rfl (by (rw [hm]; exact rfl)) rfl (by (simp [bdT, AV.bd, bdL, bdL_append]; done)) (by repeat' (first | exact True.intro | exact rfl | exact mapA_all (fun _ => by first | exact rfl | simp [AV.bd, bdL]) _ | refine And.intro ?_ ?_ | (simp [bdOq, bdL, bdL_append, AV.bd]; done))) (by (rw [hm]; exact Nat.le_of_ble_eq_true rfl))⟩ (Nat.zero_le _) ?_
    intro r hr
    have hrl := rulTo_len (g := g) l hr
    have hfl := froTo_len r
    by_cases hrt : r < g.rules.length
    · have hx := hbin _ (nth_mem hrt)
      have hrf := hv.rule _ (nth_mem hrt)
      have hh0 := hrf.h0
      have hh1 := hrf.hn
      have hln := hrf.len
      have hC : nth (chnTo g l g.nonterms.length) (nth g.rules r).head.toNat = chnG g l (nth g.rules r).head.toNat := nth_range (by omega)
      have hCl := chnG_len g l (nth g.rules r).head.toNat
      have hul := useL_len g l (nth g.rules r).head.toNat
      have hCN := chnTo_len g l g.nonterms.length
      have hbd : ∀ i, i < (chnG g l (nth g.rules r).head.toNat).length → 0 ≤ nth (chnG g l (nth g.rules r).head.toNat) i ∧ nth (chnG g l (nth g.rules r).head.toNat) i ≤ 5000 := fun i hi => by
        have hm := nth_mem hi
        rw [mem_chn] at hm
        have o1 := offN_bd (g := g) (l := l) hfn (nth g.rules r).head.toNat
        omega
      rw [← hC] at hCl hbd
      have b1 := hbd (((nth (chnTo g l g.nonterms.length) (nth g.rules r).head.toNat).length : Int) - 1).toNat (by omega)
      have hcb := cloneInts_own (nth g.rules r).body (by omega)
      (repeat' (first | apply jA | apply jF | apply jH | apply jI | (refine wp_cond rfl (fun hc => ?_) (fun hc => ?_) <;> (try simp only [sB, ne_eq, reduceCtorEq] at hc) <;> (try (exfalso; omega))) | (refine WP.regionC (id := 21) ?_; (refine slss rfl rfl ?_); apply jW) | (refine WP.regionC (id := 22) ?_; (refine smove rfl ?_); (refine sidxn rfl rfl (by omega) ?_); (refine sloadw rfl rfl ?_); (refine se_alloc rfl ?_); (refine sassign rfl ?_); (refine se_store_b rfl rfl rfl rfl ?_); apply jW) | (refine WP.regionC (id := 23) ?_; (refine smove rfl ?_); (refine sfieldp rfl rfl rfl ?_); (refine sloadp rfl rfl rfl rfl ?_); (refine su (aidxz rfl rfl (by omega)) ?_); (refine sloadw rfl rfl ?_); (refine sassign rfl ?_); apply jW) | (refine WP.regionC (id := 24) ?_; (refine smove rfl ?_); (refine smove rfl ?_); (refine slenm rfl rfl ?_); (refine su (asub rfl rfl (by exact inr_i64_of (by omega))) ?_); (refine su (aidxz rfl rfl (by omega)) ?_); (refine sloadw rfl rfl ?_); (refine sassign rfl ?_); apply jW)))
      refine wp_cut (fun s => ∃ is, ToR Γ.m is s (S 260 [(1, levelsA l), (2, .ptr 1 4 0 0), (4, .ptr 2 4 0 0), (7, .ptr 3 6 0 0), (9, .map 4), (10, strsA (namsG g l g.nonterms.length)), (11, .sl 1 ((chnTo g l g.nonterms.length).map intsA)), (15, .ref 5 3 0 (rulTo g l r).length), (16, .ref 6 1 0 (froTo r).length), (17, intA (r : Nat)), (18, .ptr 7 3 0 0), (19, intsA (nth (chnTo g l g.nonterms.length) (nth g.rules r).head.toNat)), (20, intA (nth (nth (chnTo g l g.nonterms.length) (nth g.rules r).head.toNat) (((nth (chnTo g l g.nonterms.length) (nth g.rules r).head.toNat).length : Int) - 1).toNat)), (21, .ptr 8 3 0 0), (93, rulesA g.rules), (94, intA (g.rules.length : Nat)), (95, intA (r : Nat))] 10 [(0, some (.map (mapA strK intA (opM l)))), (1, some (.arr 4 [gramA g])), (2, some (.arr 4 [.agg [.val (.slice none 0 0), .val (.slice none 0 0), intA 0, .val (.slice none 0 0)]])), (3, some (.arr 6 [.agg [strsA g.terms, strsA g.nonterms, intA g.start, rulesA g.rules, levelsA l, .map 0]])), (4, some (.map (mapA intK slO (usdM g l)))), (5, some (.arr 3 ((rulTo g l r).map ruleA))), (6, some (.arr 1 ((froTo r).map intA))), (7, some (.arr 3 [ruleA (nth g.rules r)])), (8, some (.arr 3 [.agg [intA (nth (nth (chnTo g l g.nonterms.length) (nth g.rules r).head.toNat) (((nth (chnTo g l g.nonterms.length) (nth g.rules r).head.toNat).length : Int) - 1).toNat), .ref 9 1 0 (nth g.rules r).body.length, intA (nth g.rules r).price]])), (9, some (.arr 1 ((nth g.rules r).body.map intA)))])) ?_ ?_
      · (repeat' ((refine wp_tree (id := 25) 9 mixed rfl ?_ <;> (refine wpt_take 0 rfl still_move (by exact ap_move (rq_p rfl rfl)) (by kernel_rfl) (by kernel_rfl) (by kernel_rfl) (by repeat (exact pind_cut)) ?_; (refine wpt_take 1 rfl (by exact still_fieldAddr rfl rfl) (by exact ap_field_p (rq_p rfl rfl) rfl rfl) (by kernel_rfl) (by kernel_rfl) (by kernel_rfl) (by repeat (exact pind_cut)) ?_; (refine wpt_take 4 rfl (by exact still_fieldAddr rfl rfl) (by exact ap_field_p (rq_p rfl rfl) rfl rfl) (by kernel_rfl) (by kernel_rfl) (by kernel_rfl) (by repeat (exact pind_cut)) ?_; (refine wpt_all (rs := [2, 5, 7]) (by kernel_rfl) rfl ⟨?_, ?_, ?_, trivial⟩ <;> (first | (refine wpo_do (i := 2) rfl rfl ?_; (refine sloadp rfl rfl rfl rfl ?_); refine asemC_end ?_; (refine wpt_all (rs := [3, 5, 7]) (by kernel_rfl) rfl ⟨?_, ?_, ?_, trivial⟩ <;> (first | (refine wpo_do (i := 3) rfl rfl ?_; (refine sc_o [] rfl rfl (hcb) (Lend.S (by first | ((repeat' first | exact RenL.nil | refine RenL.cons (by exact ren_p (by simp [AV.bd, bdL, bdL_append])) ?_); done) | fail) (by first | ((repeat' (exact LendO.nil)); done) | fail) (by decide) rfl (by simp [AV.bd, bdL, bdL_append]) (by repeat' (exact True.intro))) ?_; simp only [updN, newO, AObj.ren, renL, AV.ren, apx, ap, if_true, if_false, Nat.reduceLT, Nat.reduceAdd, Nat.reduceSub, sO, intA, boolA, strA]); refine asemC_end ?_; (refine wpt_all (rs := [5, 7]) (by kernel_rfl) rfl ⟨?_, ?_, trivial⟩ <;> (first | (refine wpo_do (i := 5) rfl rfl ?_; (refine sloadp rfl rfl rfl rfl ?_); refine asemC_end ?_; (refine wpt_all (rs := [6, 7]) (by kernel_rfl) rfl ⟨?_, ?_, trivial⟩ <;> (first | (refine wpo_do (i := 6) rfl rfl ?_; (refine su (ap_build (RqP.cons (rq_p rfl rfl) (RqP.cons (rq_p rfl rfl) (RqP.cons (rq_p rfl rfl) (RqP.nil)))) rfl) ?_); refine asemC_end ?_; (refine wpt_all (rs := [7]) (by kernel_rfl) rfl ⟨?_, trivial⟩; (refine wpo_do (i := 7) rfl rfl ?_; (refine se_alloc rfl ?_); refine asemC_end ?_; (refine wpt_all (rs := [8]) (by kernel_rfl) rfl ⟨?_, trivial⟩; (refine wpo_do (i := 8) rfl rfl ?_; (refine se_store_b rfl rfl rfl rfl ?_); refine asemC_end ?_; (refine wpt_end (by kernel_rfl) ?_)))))) | (refine wpo_do (i := 7) rfl rfl ?_; (refine se_alloc rfl ?_); refine asemC_end ?_; (refine wpt_all (rs := [6]) (by kernel_rfl) rfl ⟨?_, trivial⟩; (refine wpo_do (i := 6) rfl rfl ?_; (refine su (ap_build (RqP.cons (rq_p rfl rfl) (RqP.cons (rq_p rfl rfl) (RqP.cons (rq_p rfl rfl) (RqP.nil)))) rfl) ?_); refine asemC_end ?_; (refine wpt_all (rs := [8]) (by kernel_rfl) rfl ⟨?_, trivial⟩; (refine wpo_do (i := 8) rfl rfl ?_; (refine se_store_b rfl rfl rfl rfl ?_); refine asemC_end ?_; (refine wpt_end (by kernel_rfl) ?_))))))))) | (refine wpo_do (i := 7) rfl rfl ?_; (refine se_alloc rfl ?_); refine asemC_end ?_; (refine wpt_takeN 5 [6, 8] rfl (by exact ap_load_p (rq_p rfl rfl) rfl rfl rfl) (by kernel_rfl) (by kernel_rfl) (by kernel_rfl) (by kernel_rfl) (by repeat (exact pind_cut)) ?_; (refine wpt_all (rs := [6]) (by kernel_rfl) rfl ⟨?_, trivial⟩; (refine wpo_do (i := 6) rfl rfl ?_; (refine su (ap_build (RqP.cons (rq_p rfl rfl) (RqP.cons (rq_p rfl rfl) (RqP.cons (rq_p rfl rfl) (RqP.nil)))) rfl) ?_); refine asemC_end ?_; (refine wpt_all (rs := [8]) (by kernel_rfl) rfl ⟨?_, trivial⟩; (refine wpo_do (i := 8) rfl rfl ?_; (refine se_store_b rfl rfl rfl rfl ?_); refine asemC_end ?_; (refine wpt_end (by kernel_rfl) ?_)))))))))) | (refine wpo_do (i := 5) rfl rfl ?_; (refine sloadp rfl rfl rfl rfl ?_); refine asemC_end ?_; (refine wpt_all (rs := [3, 7]) (by kernel_rfl) rfl ⟨?_, ?_, trivial⟩ <;> (first | (refine wpo_do (i := 3) rfl rfl ?_; (refine sc_o [] rfl rfl (hcb) (Lend.S (by first | ((repeat' first | exact RenL.nil | refine RenL.cons (by exact ren_p (by simp [AV.bd, bdL, bdL_append])) ?_); done) | fail) (by first | ((repeat' (exact LendO.nil)); done) | fail) (by decide) rfl (by simp [AV.bd, bdL, bdL_append]) (by repeat' (exact True.intro))) ?_; simp only [updN, newO, AObj.ren, renL, AV.ren, apx, ap, if_true, if_false, Nat.reduceLT, Nat.reduceAdd, Nat.reduceSub, sO, intA, boolA, strA]); refine asemC_end ?_; (refine wpt_all (rs := [6, 7]) (by kernel_rfl) rfl ⟨?_, ?_, trivial⟩ <;> (first | (refine wpo_do (i := 6) rfl rfl ?_; (refine su (ap_build (RqP.cons (rq_p rfl rfl) (RqP.cons (rq_p rfl rfl) (RqP.cons (rq_p rfl rfl) (RqP.nil)))) rfl) ?_); refine asemC_end ?_; (refine wpt_all (rs := [7]) (by kernel_rfl) rfl ⟨?_, trivial⟩; (refine wpo_do (i := 7) rfl rfl ?_; (refine se_alloc rfl ?_); refine asemC_end ?_; (refine wpt_all (rs := [8]) (by kernel_rfl) rfl ⟨?_, trivial⟩; (refine wpo_do (i := 8) rfl rfl ?_; (refine se_store_b rfl rfl rfl rfl ?_); refine asemC_end ?_; (refine wpt_end (by kernel_rfl) ?_)))))) | (refine wpo_do (i := 7) rfl rfl ?_; (refine se_alloc rfl ?_); refine asemC_end ?_; (refine wpt_all (rs := [6]) (by kernel_rfl) rfl ⟨?_, trivial⟩; (refine wpo_do (i := 6) rfl rfl ?_; (refine su (ap_build (RqP.cons (rq_p rfl rfl) (RqP.cons (rq_p rfl rfl) (RqP.cons (rq_p rfl rfl) (RqP.nil)))) rfl) ?_); refine asemC_end ?_; (refine wpt_all (rs := [8]) (by kernel_rfl) rfl ⟨?_, trivial⟩; (refine wpo_do (i := 8) rfl rfl ?_; (refine se_store_b rfl rfl rfl rfl ?_); refine asemC_end ?_; (refine wpt_end (by kernel_rfl) ?_))))))))) | (refine wpo_do (i := 7) rfl rfl ?_; (refine se_alloc rfl ?_); refine asemC_end ?_; (refine wpt_all (rs := [3]) (by kernel_rfl) rfl ⟨?_, trivial⟩; (refine wpo_do (i := 3) rfl rfl ?_; (refine sc_o [] rfl rfl (hcb) (Lend.S (by first | ((repeat' first | exact RenL.nil | refine RenL.cons (by exact ren_p (by simp [AV.bd, bdL, bdL_append])) ?_); done) | fail) (by first | ((repeat' (exact LendO.nil)); done) | fail) (by decide) rfl (by simp [AV.bd, bdL, bdL_append]) (by repeat' (exact True.intro))) ?_; simp only [updN, newO, AObj.ren, renL, AV.ren, apx, ap, if_true, if_false, Nat.reduceLT, Nat.reduceAdd, Nat.reduceSub, sO, intA, boolA, strA]); refine asemC_end ?_; (refine wpt_all (rs := [6]) (by kernel_rfl) rfl ⟨?_, trivial⟩; (refine wpo_do (i := 6) rfl rfl ?_; (refine su (ap_build (RqP.cons (rq_p rfl rfl) (RqP.cons (rq_p rfl rfl) (RqP.cons (rq_p rfl rfl) (RqP.nil)))) rfl) ?_); refine asemC_end ?_; (refine wpt_all (rs := [8]) (by kernel_rfl) rfl ⟨?_, trivial⟩; (refine wpo_do (i := 8) rfl rfl ?_; (refine se_store_b rfl rfl rfl rfl ?_); refine asemC_end ?_; (refine wpt_end (by kernel_rfl) ?_))))))))))) | (refine wpo_do (i := 7) rfl rfl ?_; (refine se_alloc rfl ?_); refine asemC_end ?_; (refine wpt_all (rs := [3, 5]) (by kernel_rfl) rfl ⟨?_, ?_, trivial⟩ <;> (first | (refine wpo_do (i := 3) rfl rfl ?_; (refine sc_o [] rfl rfl (hcb) (Lend.S (by first | ((repeat' first | exact RenL.nil | refine RenL.cons (by exact ren_p (by simp [AV.bd, bdL, bdL_append])) ?_); done) | fail) (by first | ((repeat' (exact LendO.nil)); done) | fail) (by decide) rfl (by simp [AV.bd, bdL, bdL_append]) (by repeat' (exact True.intro))) ?_; simp only [updN, newO, AObj.ren, renL, AV.ren, apx, ap, if_true, if_false, Nat.reduceLT, Nat.reduceAdd, Nat.reduceSub, sO, intA, boolA, strA]); refine asemC_end ?_; (refine wpt_takeN 5 [6, 8] rfl (by exact ap_load_p (rq_p rfl rfl) rfl rfl rfl) (by kernel_rfl) (by kernel_rfl) (by kernel_rfl) (by kernel_rfl) (by repeat (exact pind_cut)) ?_; (refine wpt_all (rs := [6]) (by kernel_rfl) rfl ⟨?_, trivial⟩; (refine wpo_do (i := 6) rfl rfl ?_; (refine su (ap_build (RqP.cons (rq_p rfl rfl) (RqP.cons (rq_p rfl rfl) (RqP.cons (rq_p rfl rfl) (RqP.nil)))) rfl) ?_); refine asemC_end ?_; (refine wpt_all (rs := [8]) (by kernel_rfl) rfl ⟨?_, trivial⟩; (refine wpo_do (i := 8) rfl rfl ?_; (refine se_store_b rfl rfl rfl rfl ?_); refine asemC_end ?_; (refine wpt_end (by kernel_rfl) ?_))))))) | (refine wpo_do (i := 5) rfl rfl ?_; (refine sloadp rfl rfl rfl rfl ?_); refine asemC_end ?_; (refine wpt_all (rs := [3]) (by kernel_rfl) rfl ⟨?_, trivial⟩; (refine wpo_do (i := 3) rfl rfl ?_; (refine sc_o [] rfl rfl (hcb) (Lend.S (by first | ((repeat' first | exact RenL.nil | refine RenL.cons (by exact ren_p (by simp [AV.bd, bdL, bdL_append])) ?_); done) | fail) (by first | ((repeat' (exact LendO.nil)); done) | fail) (by decide) rfl (by simp [AV.bd, bdL, bdL_append]) (by repeat' (exact True.intro))) ?_; simp only [updN, newO, AObj.ren, renL, AV.ren, apx, ap, if_true, if_false, Nat.reduceLT, Nat.reduceAdd, Nat.reduceSub, sO, intA, boolA, strA]); refine asemC_end ?_; (refine wpt_all (rs := [6]) (by kernel_rfl) rfl ⟨?_, trivial⟩; (refine wpo_do (i := 6) rfl rfl ?_; (refine su (ap_build (RqP.cons (rq_p rfl rfl) (RqP.cons (rq_p rfl rfl) (RqP.cons (rq_p rfl rfl) (RqP.nil)))) rfl) ?_); refine asemC_end ?_; (refine wpt_all (rs := [8]) (by kernel_rfl) rfl ⟨?_, trivial⟩; (refine wpo_do (i := 8) rfl rfl ?_; (refine se_store_b rfl rfl rfl rfl ?_); refine asemC_end ?_; (refine wpt_end (by kernel_rfl) ?_)))))))))))))) | (refine wpo_do (i := 5) rfl rfl ?_; (refine sloadp rfl rfl rfl rfl ?_); refine asemC_end ?_; (refine wpt_all (rs := [2, 7]) (by kernel_rfl) rfl ⟨?_, ?_, trivial⟩ <;> (first | (refine wpo_do (i := 2) rfl rfl ?_; (refine sloadp rfl rfl rfl rfl ?_); refine asemC_end ?_; (refine wpt_all (rs := [3, 7]) (by kernel_rfl) rfl ⟨?_, ?_, trivial⟩ <;> (first | (refine wpo_do (i := 3) rfl rfl ?_; (refine sc_o [] rfl rfl (hcb) (Lend.S (by first | ((repeat' first | exact RenL.nil | refine RenL.cons (by exact ren_p (by simp [AV.bd, bdL, bdL_append])) ?_); done) | fail) (by first | ((repeat' (exact LendO.nil)); done) | fail) (by decide) rfl (by simp [AV.bd, bdL, bdL_append]) (by repeat' (exact True.intro))) ?_; simp only [updN, newO, AObj.ren, renL, AV.ren, apx, ap, if_true, if_false, Nat.reduceLT, Nat.reduceAdd, Nat.reduceSub, sO, intA, boolA, strA]); refine asemC_end ?_; (refine wpt_all (rs := [6, 7]) (by kernel_rfl) rfl ⟨?_, ?_, trivial⟩ <;> (first | (refine wpo_do (i := 6) rfl rfl ?_; (refine su (ap_build (RqP.cons (rq_p rfl rfl) (RqP.cons (rq_p rfl rfl) (RqP.cons (rq_p rfl rfl) (RqP.nil)))) rfl) ?_); refine asemC_end ?_; (refine wpt_all (rs := [7]) (by kernel_rfl) rfl ⟨?_, trivial⟩; (refine wpo_do (i := 7) rfl rfl ?_; (refine se_alloc rfl ?_); refine asemC_end ?_; (refine wpt_all (rs := [8]) (by kernel_rfl) rfl ⟨?_, trivial⟩; (refine wpo_do (i := 8) rfl rfl ?_; (refine se_store_b rfl rfl rfl rfl ?_); refine asemC_end ?_; (refine wpt_end (by kernel_rfl) ?_)))))) | (refine wpo_do (i := 7) rfl rfl ?_; (refine se_alloc rfl ?_); refine asemC_end ?_; (refine wpt_all (rs := [6]) (by kernel_rfl) rfl ⟨?_, trivial⟩; (refine wpo_do (i := 6) rfl rfl ?_; (refine su (ap_build (RqP.cons (rq_p rfl rfl) (RqP.cons (rq_p rfl rfl) (RqP.cons (rq_p rfl rfl) (RqP.nil)))) rfl) ?_); refine asemC_end ?_; (refine wpt_all (rs := [8]) (by kernel_rfl) rfl ⟨?_, trivial⟩; (refine wpo_do (i := 8) rfl rfl ?_; (refine se_store_b rfl rfl rfl rfl ?_); refine asemC_end ?_; (refine wpt_end (by kernel_rfl) ?_))))))))) | (refine wpo_do (i := 7) rfl rfl ?_; (refine se_alloc rfl ?_); refine asemC_end ?_; (refine wpt_all (rs := [3]) (by kernel_rfl) rfl ⟨?_, trivial⟩; (refine wpo_do (i := 3) rfl rfl ?_; (refine sc_o [] rfl rfl (hcb) (Lend.S (by first | ((repeat' first | exact RenL.nil | refine RenL.cons (by exact ren_p (by simp [AV.bd, bdL, bdL_append])) ?_); done) | fail) (by first | ((repeat' (exact LendO.nil)); done) | fail) (by decide) rfl (by simp [AV.bd, bdL, bdL_append]) (by repeat' (exact True.intro))) ?_; simp only [updN, newO, AObj.ren, renL, AV.ren, apx, ap, if_true, if_false, Nat.reduceLT, Nat.reduceAdd, Nat.reduceSub, sO, intA, boolA, strA]); refine asemC_end ?_; (refine wpt_all (rs := [6]) (by kernel_rfl) rfl ⟨?_, trivial⟩; (refine wpo_do (i := 6) rfl rfl ?_; (refine su (ap_build (RqP.cons (rq_p rfl rfl) (RqP.cons (rq_p rfl rfl) (RqP.cons (rq_p rfl rfl) (RqP.nil)))) rfl) ?_); refine asemC_end ?_; (refine wpt_all (rs := [8]) (by kernel_rfl) rfl ⟨?_, trivial⟩; (refine wpo_do (i := 8) rfl rfl ?_; (refine se_store_b rfl rfl rfl rfl ?_); refine asemC_end ?_; (refine wpt_end (by kernel_rfl) ?_))))))))))) | (refine wpo_do (i := 7) rfl rfl ?_; (refine se_alloc rfl ?_); refine asemC_end ?_; (refine wpt_takeN 2 [3, 6, 8] rfl (by exact ap_load_p (rq_p rfl rfl) rfl rfl rfl) (by kernel_rfl) (by kernel_rfl) (by kernel_rfl) (by kernel_rfl) (by repeat (exact pind_cut)) ?_; (refine wpt_all (rs := [3]) (by kernel_rfl) rfl ⟨?_, trivial⟩; (refine wpo_do (i := 3) rfl rfl ?_; (refine sc_o [] rfl rfl (hcb) (Lend.S (by first | ((repeat' first | exact RenL.nil | refine RenL.cons (by exact ren_p (by simp [AV.bd, bdL, bdL_append])) ?_); done) | fail) (by first | ((repeat' (exact LendO.nil)); done) | fail) (by decide) rfl (by simp [AV.bd, bdL, bdL_append]) (by repeat' (exact True.intro))) ?_; simp only [updN, newO, AObj.ren, renL, AV.ren, apx, ap, if_true, if_false, Nat.reduceLT, Nat.reduceAdd, Nat.reduceSub, sO, intA, boolA, strA]); refine asemC_end ?_; (refine wpt_all (rs := [6]) (by kernel_rfl) rfl ⟨?_, trivial⟩; (refine wpo_do (i := 6) rfl rfl ?_; (refine su (ap_build (RqP.cons (rq_p rfl rfl) (RqP.cons (rq_p rfl rfl) (RqP.cons (rq_p rfl rfl) (RqP.nil)))) rfl) ?_); refine asemC_end ?_; (refine wpt_all (rs := [8]) (by kernel_rfl) rfl ⟨?_, trivial⟩; (refine wpo_do (i := 8) rfl rfl ?_; (refine se_store_b rfl rfl rfl rfl ?_); refine asemC_end ?_; (refine wpt_end (by kernel_rfl) ?_)))))))))))) | (refine wpo_do (i := 7) rfl rfl ?_; (refine se_alloc rfl ?_); refine asemC_end ?_; (refine wpt_takeN 2 [3, 6, 8] rfl (by exact ap_load_p (rq_p rfl rfl) rfl rfl rfl) (by kernel_rfl) (by kernel_rfl) (by kernel_rfl) (by kernel_rfl) (by repeat (exact pind_cut)) ?_; (refine wpt_all (rs := [3, 5]) (by kernel_rfl) rfl ⟨?_, ?_, trivial⟩ <;> (first | (refine wpo_do (i := 3) rfl rfl ?_; (refine sc_o [] rfl rfl (hcb) (Lend.S (by first | ((repeat' first | exact RenL.nil | refine RenL.cons (by exact ren_p (by simp [AV.bd, bdL, bdL_append])) ?_); done) | fail) (by first | ((repeat' (exact LendO.nil)); done) | fail) (by decide) rfl (by simp [AV.bd, bdL, bdL_append]) (by repeat' (exact True.intro))) ?_; simp only [updN, newO, AObj.ren, renL, AV.ren, apx, ap, if_true, if_false, Nat.reduceLT, Nat.reduceAdd, Nat.reduceSub, sO, intA, boolA, strA]); refine asemC_end ?_; (refine wpt_takeN 5 [6, 8] rfl (by exact ap_load_p (rq_p rfl rfl) rfl rfl rfl) (by kernel_rfl) (by kernel_rfl) (by kernel_rfl) (by kernel_rfl) (by repeat (exact pind_cut)) ?_; (refine wpt_all (rs := [6]) (by kernel_rfl) rfl ⟨?_, trivial⟩; (refine wpo_do (i := 6) rfl rfl ?_; (refine su (ap_build (RqP.cons (rq_p rfl rfl) (RqP.cons (rq_p rfl rfl) (RqP.cons (rq_p rfl rfl) (RqP.nil)))) rfl) ?_); refine asemC_end ?_; (refine wpt_all (rs := [8]) (by kernel_rfl) rfl ⟨?_, trivial⟩; (refine wpo_do (i := 8) rfl rfl ?_; (refine se_store_b rfl rfl rfl rfl ?_); refine asemC_end ?_; (refine wpt_end (by kernel_rfl) ?_))))))) | (refine wpo_do (i := 5) rfl rfl ?_; (refine sloadp rfl rfl rfl rfl ?_); refine asemC_end ?_; (refine wpt_all (rs := [3]) (by kernel_rfl) rfl ⟨?_, trivial⟩; (refine wpo_do (i := 3) rfl rfl ?_; (refine sc_o [] rfl rfl (hcb) (Lend.S (by first | ((repeat' first | exact RenL.nil | refine RenL.cons (by exact ren_p (by simp [AV.bd, bdL, bdL_append])) ?_); done) | fail) (by first | ((repeat' (exact LendO.nil)); done) | fail) (by decide) rfl (by simp [AV.bd, bdL, bdL_append]) (by repeat' (exact True.intro))) ?_; simp only [updN, newO, AObj.ren, renL, AV.ren, apx, ap, if_true, if_false, Nat.reduceLT, Nat.reduceAdd, Nat.reduceSub, sO, intA, boolA, strA]); refine asemC_end ?_; (refine wpt_all (rs := [6]) (by kernel_rfl) rfl ⟨?_, trivial⟩; (refine wpo_do (i := 6) rfl rfl ?_; (refine su (ap_build (RqP.cons (rq_p rfl rfl) (RqP.cons (rq_p rfl rfl) (RqP.cons (rq_p rfl rfl) (RqP.nil)))) rfl) ?_); refine asemC_end ?_; (refine wpt_all (rs := [8]) (by kernel_rfl) rfl ⟨?_, trivial⟩; (refine wpo_do (i := 8) rfl rfl ?_; (refine se_store_b rfl rfl rfl rfl ?_); refine asemC_end ?_; (refine wpt_end (by kernel_rfl) ?_))))))))))))))))))))
        all_goals refine ⟨rfl, ?_⟩
        all_goals (first | (refine tor_pick 8 3 rfl ?_; exact ⟨[0, 1, 2, 3, 4, 5, 6, 7, 8, 9], ToR.S rfl (by repeat' (first | exact rt_nil | refine rt_r rfl rfl ?_ | refine rt_t rfl rfl ?_ | refine rt_m rfl rfl ?_ | refine rt_e rfl rfl ?_ | refine rt_p rfl rfl (by first | (simp [AV.bd, bdL, bdL_append]; done) | fail) ?_)) (by repeat' (first | exact ro_nil | refine ro_e rfl rfl ?_ | refine ro_p rfl (by first | exact rfl | fail) (by first | exact bdL_map (fun _ => by first | exact rfl | simp [AV.bd, bdL, bdL_append]) _ | (simp [bdL, bdL_append, AV.bd]; done) | fail) ?_ | refine ro_m rfl rfl (mapA_bd (fun _ => by first | exact rfl | simp [AV.bd, bdL]) _) ?_ | refine ro_e rfl (by simp only [renL, AV.ren, ren_strsA, ren_intsA, ren_intA', ren_rulesA, ren_levelsA, chS_ren, chL_ren]; exact rfl) ?_)) rfl (by (rw [hm]; exact rfl)) rfl (by (simp [bdT, AV.bd, bdL, bdL_append]; done)) (by repeat' (first | exact True.intro | exact rfl | exact mapA_all (fun _ => by first | exact rfl | simp [AV.bd, bdL]) _ | refine And.intro ?_ ?_ | exact bdL_map (fun _ => by first | exact rfl | simp [AV.bd, bdL, bdL_append]) _ | (simp [bdOq, bdL, bdL_append, AV.bd]; done))) (by (rw [hm]; exact Nat.le_of_ble_eq_true rfl))⟩) | exact ⟨[0, 1, 2, 3, 4, 5, 6, 7, 9, 8], ToR.S rfl (by repeat' (first | exact rt_nil | refine rt_r rfl rfl ?_ | refine rt_t rfl rfl ?_ | refine rt_m rfl rfl ?_ | refine rt_e rfl rfl ?_ | refine rt_p rfl rfl (by first | (simp [AV.bd, bdL, bdL_append]; done) | fail) ?_)) (by repeat' (first | exact ro_nil | refine ro_e rfl rfl ?_ | refine ro_p rfl (by first | exact rfl | fail) (by first | exact bdL_map (fun _ => by first | exact rfl | simp [AV.bd, bdL, bdL_append]) _ | (simp [bdL, bdL_append, AV.bd]; done) | fail) ?_ | refine ro_m rfl rfl (mapA_bd (fun _ => by first | exact rfl | simp [AV.bd, bdL]) _) ?_ | refine ro_e rfl (by simp only [renL, AV.ren, ren_strsA, ren_intsA, ren_intA', ren_rulesA, ren_levelsA, chS_ren, chL_ren]; exact rfl) ?_)) rfl (by (rw [hm]; exact rfl)) rfl (by (simp [bdT, AV.bd, bdL, bdL_append]; done)) (by repeat' (first | exact True.intro | exact rfl | exact mapA_all (fun _ => by first | exact rfl | simp [AV.bd, bdL]) _ | refine And.intro ?_ ?_ | exact bdL_map (fun _ => by first | exact rfl | simp [AV.bd, bdL, bdL_append]) _ | (simp [bdOq, bdL, bdL_append, AV.bd]; done))) (by (rw [hm]; exact Nat.le_of_ble_eq_true rfl))⟩)
      rintro s ⟨is, hst⟩
      refine go_n ?_
      refine wp_st _ ⟨is, hst⟩ ?_
      clear hst
      have hrl2 := ruleS_blen g l (nth g.rules r)
      (repeat' (first | apply jA | apply jH | (refine WP.regionC (id := 26) ?_; (refine sloadpw rfl rfl rfl rfl ?_); (refine sloadpw rfl rfl rfl rfl ?_); (refine sc_o [0] rfl rfl (hx) (Lend.S (by first | ((repeat' first | exact RenL.nil | refine RenL.cons (by exact ren_agg (by first | ((repeat' first | exact RenL.nil | refine RenL.cons (by first | exact rfl | exact ren_p (by first | (simp [AV.bd, bdL, bdL_append]; done) | fail)) ?_); done) | fail)) ?_); done) | fail) (by first | ((repeat' first | exact LendO.nil | refine LendO.map rfl (by first | (simp [mapA, AV.ren, intA]; done) | fail) ?_); done) | fail) (by decide) rfl (by simp [AV.bd, bdL, bdL_append]) (by repeat' (first | exact True.intro | refine And.intro ?_ ?_ | (simp [mapA, AV.bd, intA]; done)))) ?_; simp only [updN, newO, AObj.ren, renL, AV.ren, apx, ap, if_true, if_false, Nat.reduceLT, Nat.reduceAdd, Nat.reduceSub, sO, intA, boolA, strA, ren_opm]); (refine smove rfl ?_); (refine su (aextract rfl rfl) ?_); (refine su (aextract rfl rfl) ?_); (refine sassign rfl ?_); (refine sassign rfl ?_); apply jW)))
      refine WP.regionC (id := 27) ?_
      (refine smove rfl ?_)
      refine asemC_end ?_
      refine go_n ?_
      refine wp_cut (fun s => ∃ is, ToR Γ.m is s (S 260 [(1, levelsA l), (2, .ptr 1 4 0 0), (4, .ptr 2 4 0 0), (7, .ptr 3 6 0 0), (9, .map 4), (10, strsA (namsG g l g.nonterms.length)), (11, .sl 1 ((chnTo g l g.nonterms.length).map intsA)), (15, .ref 5 3 0 (rulTo g l r).length), (16, .ref 6 1 0 (froTo r).length), (17, intA (r : Nat)), (21, .ptr 7 3 0 0), (93, rulesA g.rules), (94, intA (g.rules.length : Nat)), (95, intA (r : Nat))] 9 [(0, some (.map (mapA strK intA (opM l)))), (1, some (.arr 4 [gramA g])), (2, some (.arr 4 [.agg [.val (.slice none 0 0), .val (.slice none 0 0), intA 0, .val (.slice none 0 0)]])), (3, some (.arr 6 [.agg [strsA g.terms, strsA g.nonterms, intA g.start, rulesA g.rules, levelsA l, .map 0]])), (4, some (.map (mapA intK slO (usdM g l)))), (5, some (.arr 3 ((rulTo g l r).map ruleA))), (6, some (.arr 1 ((froTo r).map intA))), (7, some (.arr 3 [.agg [intA (ruleS g l (nth g.rules r)).head, .ref 8 1 0 (nth g.rules r).body.length, intA (ruleS g l (nth g.rules r)).price]])), (8, some (.arr 1 ((ruleS g l (nth g.rules r)).body.map intA)))])) ?_ ?_
      · cases hb : biB g l (nth g.rules r) with
        | true =>
          have hb0 : 0 ≤ binL g l (nth g.rules r) := by simpa [biB] using hb
          have hvb : biV g l (nth g.rules r) = binL g l (nth g.rules r) := by unfold biV; rw [hb]; rfl
          have hbl := binL_lt g l (nth g.rules r)
          have hmem := bin_used g l (nth_mem hrt) hh0 hb0
          have hix := idx_pos hmem
          rw [Int.toNat_of_nonneg hb0] at hix
          have hidx := indexI_fn (useI g l (nth g.rules r).head.toNat) (binL g l (nth g.rules r))
          unfold idxI at hidx
          rw [show (fun x => decide (binL g l (nth g.rules r) = x)) = fun x => decide (x = binL g l (nth g.rules r)) by funext x; simp [eq_comm], hix.1] at hidx
          have hP := hix.2
          have hb3 := bin_len3 hb0
          have hsu := sub_use hv (l := l) (nth g.rules r).head.toNat
          rw [Int.toNat_of_nonneg hh0] at hsu
          have b3 := hbd (posU g l (nth g.rules r).head.toNat (binL g l (nth g.rules r)) + 1) (by omega)
          have b5 := hbd (posU g l (nth g.rules r).head.toNat (binL g l (nth g.rules r)) + (nat_lit 1)) (by show posU g l (nth g.rules r).head.toNat (binL g l (nth g.rules r)) + 1 < _; omega)
          have b4 := hbd (posU g l (nth g.rules r).head.toNat (binL g l (nth g.rules r))) (by omega)
          generalize hp : posU g l (nth g.rules r).head.toNat (binL g l (nth g.rules r)) = p at *
          rw [hvb]
          (repeat' (first | apply jA | (refine wp_cond rfl (fun hc => ?_) (fun hc => ?_) <;> (try simp only [sB, ne_eq, reduceCtorEq] at hc) <;> (try (exfalso; omega)))))
          all_goals try (exfalso; simp at hc; done)
          refine WP.regionC (id := 28) ?_
          refine smove rfl ?_
          refine sfieldp rfl rfl rfl ?_
          refine su (x := intA (nth g.rules r).head) (aloadp rfl rfl rfl rfl) ?_
          refine su_sub (intsA (useI g l (nth g.rules r).head.toNat)) (ap_look (kf := intK) (f := slO) (m := usdM g l) (z0 := none) (rq_p rfl rfl) rfl (rq_p rfl rfl) rfl) hsu ?_
          refine smove rfl ?_
          refine sc_p rfl rfl SubL.rfl (by simp [bdL, AV.bd]) hidx ?_
          refine sassign rfl ?_
          refine asemC_end ?_
          (repeat' (first | apply jA | apply jF | apply jH | (refine WP.regionC (id := 29) ?_; (refine smove rfl ?_); (refine smove rfl ?_); (refine sidxn rfl rfl (by omega) ?_); (refine sloadw rfl rfl ?_); (refine sfieldp rfl rfl rfl ?_); (refine se_store_b rfl rfl rfl rfl ?_); apply jW) | (refine wp_draw (id := 30) 20 mixed (by kernel_rfl) (by kernel_rfl) rfl ?_ <;> (refine rfieldp rfl rfl rfl ?_) <;> (refine rloadp rfl rfl rfl rfl ?_) <;> (refine rfieldp rfl rfl rfl ?_) <;> (refine rloadp rfl rfl rfl rfl ?_) <;> (refine rmove rfl ?_) <;> (refine rmove rfl ?_) <;> (refine rd_u rfl rfl (aadd rfl rfl (by exact inr_i64_of (by omega))) ?_) <;> (refine rd_u rfl rfl (aidxn rfl rfl (by (simp only [sL] <;> omega))) ?_) <;> (refine rd_u rfl rfl (aloadw rfl rfl) ?_) <;> (refine rd_u rfl rfl (asub rfl rfl (by exact inr_i64_of (by omega))) ?_) <;> (refine rmove rfl ?_) <;> (refine rmove rfl ?_) <;> (refine rd_u rfl rfl (aadd rfl rfl (by exact inr_i64_of (by omega))) ?_) <;> (refine rd_u rfl rfl (aidxn rfl rfl (by (simp only [sL] <;> omega))) ?_) <;> (refine rd_u rfl rfl (aloadw rfl rfl) ?_) <;> (refine rd_u rfl rfl (asub rfl rfl (by exact inr_i64_of (by omega))) ?_) <;> (refine rd_u rfl rfl (aidxrn rfl rfl (by (simp only [sL] <;> omega))) ?_) <;> (refine rd_store_t rfl rfl (by (simp only [sL] <;> omega)) rfl rfl ?_) <;> (refine rd_u rfl rfl (aidxrn rfl rfl (by (simp only [sL] <;> omega))) ?_) <;> (refine rd_store_t rfl rfl (by (simp only [sL] <;> omega)) rfl rfl ?_) <;> (refine rd_end (by kernel_rfl) ?_)) | (refine WP.regionC (id := 31) ?_; (refine smove rfl ?_); (refine smove rfl ?_); (refine su (aidxz rfl rfl (by omega)) ?_); (refine su (afieldi rfl rfl rfl) ?_); (refine su (aloadi rfl rfl) ?_); apply jW)))
          by_cases a1 : (nth l (binL g l (nth g.rules r)).toNat).assoc = 1
          · have hRS : ruleS g l (nth g.rules r) = ⟨nth (nth (chnTo g l g.nonterms.length) (nth g.rules r).head.toNat) p, (((nth g.rules r).body.set 0 (-1 - nth (nth (chnTo g l g.nonterms.length) (nth g.rules r).head.toNat) (p + 1))).set 2 (-1 - nth (nth (chnTo g l g.nonterms.length) (nth g.rules r).head.toNat) (p + 1))).set 0 (-1 - nth (nth (chnTo g l g.nonterms.length) (nth g.rules r).head.toNat) p), (nth g.rules r).price⟩ := by
              unfold ruleS
              rw [if_pos hb0, hp, hC, set3a hb3, if_pos a1, if_neg (by omega)]
              rfl
            (repeat' (first | apply jH | apply jN | (refine wp_cond rfl (fun hc => ?_) (fun hc => ?_) <;> (try simp only [sB, ne_eq, reduceCtorEq] at hc) <;> (try (exfalso; omega))) | (refine WP.regionC (id := 32) ?_; (refine seql rfl rfl ?_); (refine sassign rfl ?_); apply jW) | (refine wp_draw (id := 33) 9 mixed (by kernel_rfl) (by kernel_rfl) rfl ?_ <;> (refine rfieldp rfl rfl rfl ?_) <;> (refine rloadp rfl rfl rfl rfl ?_) <;> (refine rmove rfl ?_) <;> (refine rmove rfl ?_) <;> (refine rd_u rfl rfl (aidxn rfl rfl (by omega)) ?_) <;> (refine rd_u rfl rfl (aloadw rfl rfl) ?_) <;> (refine rd_u rfl rfl (asub rfl rfl (by exact inr_i64_of (by omega))) ?_) <;> (refine rd_u rfl rfl (aidxrn rfl rfl (by (simp only [sL] <;> omega))) ?_) <;> (refine rd_store_t rfl rfl (by (simp only [sL] <;> omega)) rfl rfl ?_) <;> (refine rd_end (by kernel_rfl) ?_))))
            all_goals try (exfalso; omega)
            refine ⟨rfl, ?_⟩
            rw [hRS]
            exact ⟨[0, 1, 2, 3, 4, 5, 6, 8, 9], ToR.S rfl (by repeat' (first | exact rt_nil | refine rt_r rfl rfl ?_ | refine rt_t rfl rfl ?_ | refine rt_m rfl rfl ?_ | refine rt_e rfl rfl ?_ | refine rt_p rfl rfl (by first | (simp [AV.bd, bdL, bdL_append]; done) | fail) ?_)) (by repeat' (first | exact ro_nil | refine ro_e rfl rfl ?_ | refine ro_p rfl (by first | exact rfl | fail) (by first | exact bdL_map (fun _ => by first | exact rfl | simp [AV.bd, bdL, bdL_append]) _ | (simp [bdL, bdL_append, AV.bd]; done) | fail) ?_ | refine ro_m rfl rfl (mapA_bd (fun _ => by first | exact rfl | simp [AV.bd, bdL]) _) ?_ | refine ro_e rfl (by simp only [renL, AV.ren, ren_strsA, ren_intsA, ren_intA', ren_rulesA, ren_levelsA, chS_ren, chL_ren]; exact rfl) ?_)) rfl (by (rw [hm]; exact rfl)) rfl (by (simp [bdT, AV.bd, bdL, bdL_append]; done)) (by repeat' (first | exact True.intro | exact rfl | exact mapA_all (fun _ => by first | exact rfl | simp [AV.bd, bdL]) _ | refine And.intro ?_ ?_ | exact bdL_map (fun _ => by first | exact rfl | simp [AV.bd, bdL, bdL_append]) _ | (simp [bdOq, bdL, bdL_append, AV.bd]; done))) (by (rw [hm]; exact Nat.le_of_ble_eq_true rfl))⟩
          · by_cases a2 : (nth l (binL g l (nth g.rules r)).toNat).assoc = 2
            · have hRS : ruleS g l (nth g.rules r) = ⟨nth (nth (chnTo g l g.nonterms.length) (nth g.rules r).head.toNat) p, (((nth g.rules r).body.set 0 (-1 - nth (nth (chnTo g l g.nonterms.length) (nth g.rules r).head.toNat) (p + 1))).set 2 (-1 - nth (nth (chnTo g l g.nonterms.length) (nth g.rules r).head.toNat) (p + 1))).set 2 (-1 - nth (nth (chnTo g l g.nonterms.length) (nth g.rules r).head.toNat) p), (nth g.rules r).price⟩ := by
                unfold ruleS
                rw [if_pos hb0, hp, hC, set3b hb3, if_neg a1, if_pos a2]
                rfl
              (repeat' (first | apply jA | apply jH | apply jN | (refine wp_cond rfl (fun hc => ?_) (fun hc => ?_) <;> (try simp only [sB, ne_eq, reduceCtorEq] at hc) <;> (try (exfalso; omega))) | (refine WP.regionC ?_; (refine seql rfl rfl ?_); (refine sassign rfl ?_); apply jW) | (refine wp_draw (id := 35) 9 mixed (by kernel_rfl) (by kernel_rfl) rfl ?_ <;> (refine rfieldp rfl rfl rfl ?_) <;> (refine rloadp rfl rfl rfl rfl ?_) <;> (refine rmove rfl ?_) <;> (refine rmove rfl ?_) <;> (refine rd_u rfl rfl (aidxn rfl rfl (by omega)) ?_) <;> (refine rd_u rfl rfl (aloadw rfl rfl) ?_) <;> (refine rd_u rfl rfl (asub rfl rfl (by exact inr_i64_of (by omega))) ?_) <;> (refine rd_u rfl rfl (aidxrn rfl rfl (by (simp only [sL] <;> omega))) ?_) <;> (refine rd_store_t rfl rfl (by (simp only [sL] <;> omega)) rfl rfl ?_) <;> (refine rd_end (by kernel_rfl) ?_))))
              all_goals try (exfalso; omega)
              refine ⟨rfl, ?_⟩
              rw [hRS]
              exact ⟨[0, 1, 2, 3, 4, 5, 6, 8, 9], ToR.S rfl (by repeat' (first | exact rt_nil | refine rt_r rfl rfl ?_ | refine rt_t rfl rfl ?_ | refine rt_m rfl rfl ?_ | refine rt_e rfl rfl ?_ | refine rt_p rfl rfl (by first | (simp [AV.bd, bdL, bdL_append]; done) | fail) ?_)) (by repeat' (first | exact ro_nil | refine ro_e rfl rfl ?_ | refine ro_p rfl (by first | exact rfl | fail) (by first | exact bdL_map (fun _ => by first | exact rfl | simp [AV.bd, bdL, bdL_append]) _ | (simp [bdL, bdL_append, AV.bd]; done) | fail) ?_ | refine ro_m rfl rfl (mapA_bd (fun _ => by first | exact rfl | simp [AV.bd, bdL]) _) ?_ | refine ro_e rfl (by simp only [renL, AV.ren, ren_strsA, ren_intsA, ren_intA', ren_rulesA, ren_levelsA, chS_ren, chL_ren]; exact rfl) ?_)) rfl (by (rw [hm]; exact rfl)) rfl (by (simp [bdT, AV.bd, bdL, bdL_append]; done)) (by repeat' (first | exact True.intro | exact rfl | exact mapA_all (fun _ => by first | exact rfl | simp [AV.bd, bdL]) _ | refine And.intro ?_ ?_ | exact bdL_map (fun _ => by first | exact rfl | simp [AV.bd, bdL, bdL_append]) _ | (simp [bdOq, bdL, bdL_append, AV.bd]; done))) (by (rw [hm]; exact Nat.le_of_ble_eq_true rfl))⟩
            · have hRS : ruleS g l (nth g.rules r) = ⟨nth (nth (chnTo g l g.nonterms.length) (nth g.rules r).head.toNat) p, ((nth g.rules r).body.set 0 (-1 - nth (nth (chnTo g l g.nonterms.length) (nth g.rules r).head.toNat) (p + 1))).set 2 (-1 - nth (nth (chnTo g l g.nonterms.length) (nth g.rules r).head.toNat) (p + 1)), (nth g.rules r).price⟩ := by
                unfold ruleS
                rw [if_pos hb0, hp, hC, set3 hb3, if_neg a1, if_neg a2]
                done
              (repeat' (first | apply jA | apply jH | apply jI | apply jN | (refine wp_cond rfl (fun hc => ?_) (fun hc => ?_) <;> (try simp only [sB, ne_eq, reduceCtorEq] at hc) <;> (try (exfalso; omega))) | (refine WP.regionC ?_; (refine seql rfl rfl ?_); (refine sassign rfl ?_); apply jW)))
              all_goals try (exfalso; omega)
              refine ⟨rfl, ?_⟩
              rw [hRS]
              exact ⟨[0, 1, 2, 3, 4, 5, 6, 8, 9], ToR.S rfl (by repeat' (first | exact rt_nil | refine rt_r rfl rfl ?_ | refine rt_t rfl rfl ?_ | refine rt_m rfl rfl ?_ | refine rt_e rfl rfl ?_ | refine rt_p rfl rfl (by first | (simp [AV.bd, bdL, bdL_append]; done) | fail) ?_)) (by repeat' (first | exact ro_nil | refine ro_e rfl rfl ?_ | refine ro_p rfl (by first | exact rfl | fail) (by first | exact bdL_map (fun _ => by first | exact rfl | simp [AV.bd, bdL, bdL_append]) _ | (simp [bdL, bdL_append, AV.bd]; done) | fail) ?_ | refine ro_m rfl rfl (mapA_bd (fun _ => by first | exact rfl | simp [AV.bd, bdL]) _) ?_ | refine ro_e rfl (by simp only [renL, AV.ren, ren_strsA, ren_intsA, ren_intA', ren_rulesA, ren_levelsA, chS_ren, chL_ren]; exact rfl) ?_)) rfl (by (rw [hm]; exact rfl)) rfl (by (simp [bdT, AV.bd, bdL, bdL_append]; done)) (by repeat' (first | exact True.intro | exact rfl | exact mapA_all (fun _ => by first | exact rfl | simp [AV.bd, bdL]) _ | refine And.intro ?_ ?_ | exact bdL_map (fun _ => by first | exact rfl | simp [AV.bd, bdL, bdL_append]) _ | (simp [bdOq, bdL, bdL_append, AV.bd]; done))) (by (rw [hm]; exact Nat.le_of_ble_eq_true rfl))⟩
        | false =>
          have hnb : ¬ 0 ≤ binL g l (nth g.rules r) := by simpa [biB] using hb
          have hq : nth (nth (chnTo g l g.nonterms.length) (nth g.rules r).head.toNat) (((nth (chnTo g l g.nonterms.length) (nth g.rules r).head.toNat).length : Int) - 1).toNat = lastC g l (nth g.rules r).head.toNat := by
            rw [show (((nth (chnTo g l g.nonterms.length) (nth g.rules r).head.toNat).length : Int) - 1).toNat = (useL g l (nth g.rules r).head.toNat).length by omega, hC]
            rfl
          have hRS : ruleS g l (nth g.rules r) = ⟨nth (nth (chnTo g l g.nonterms.length) (nth g.rules r).head.toNat) (((nth (chnTo g l g.nonterms.length) (nth g.rules r).head.toNat).length : Int) - 1).toNat, if (nth g.rules r).body.length = 0 then (nth g.rules r).body else bodQ (-1 - nth (nth (chnTo g l g.nonterms.length) (nth g.rules r).head.toNat) (((nth (chnTo g l g.nonterms.length) (nth g.rules r).head.toNat).length : Int) - 1).toNat) (-1 - (nth g.rules r).head) (nth g.rules r).body, (nth g.rules r).price⟩ := by
            unfold ruleS
            rw [if_neg hnb]
            by_cases h0 : (nth g.rules r).body.length = 0
            · rw [if_pos h0, List.eq_nil_of_length_eq_zero h0, hq]; rfl
            · rw [if_neg h0, bodQ_is (by omega), bodM_is _ _ _ (by omega), hq]
          (repeat' (first | apply jA | (refine wp_cond rfl (fun hc => ?_) (fun hc => ?_) <;> (try simp only [sB, ne_eq, reduceCtorEq] at hc) <;> (try (exfalso; omega)))))
          all_goals try (exfalso; simp at hc; done)
          by_cases hK : (nth g.rules r).body.length = 0
          · rw [if_pos hK] at hRS
            (repeat' (first | apply jH | apply jI | (refine wp_cond rfl (fun hc => ?_) (fun hc => ?_) <;> (try simp only [sB, ne_eq, reduceCtorEq] at hc) <;> (try (exfalso; omega))) | (refine WP.regionC (id := 36) ?_; (refine sfieldp rfl rfl rfl ?_); (refine sloadp rfl rfl rfl rfl ?_); (refine su (alenr rfl rfl) ?_); (refine su (agtr rfl rfl) ?_); apply jW)))
            all_goals try (exfalso; omega)
            refine ⟨rfl, ?_⟩
            rw [hRS]
            exact ⟨[0, 1, 2, 3, 4, 5, 6, 8, 9], ToR.S rfl (by repeat' (first | exact rt_nil | refine rt_r rfl rfl ?_ | refine rt_t rfl rfl ?_ | refine rt_m rfl rfl ?_ | refine rt_e rfl rfl ?_ | refine rt_p rfl rfl (by first | (simp [AV.bd, bdL, bdL_append]; done) | fail) ?_)) (by repeat' (first | exact ro_nil | refine ro_e rfl rfl ?_ | refine ro_p rfl (by first | exact rfl | fail) (by first | exact bdL_map (fun _ => by first | exact rfl | simp [AV.bd, bdL, bdL_append]) _ | (simp [bdL, bdL_append, AV.bd]; done) | fail) ?_ | refine ro_m rfl rfl (mapA_bd (fun _ => by first | exact rfl | simp [AV.bd, bdL]) _) ?_ | refine ro_e rfl (by simp only [renL, AV.ren, ren_strsA, ren_intsA, ren_intA', ren_rulesA, ren_levelsA, chS_ren, chL_ren]; exact rfl) ?_)) rfl (by (rw [hm]; exact rfl)) rfl (by (simp [bdT, AV.bd, bdL, bdL_append]; done)) (by repeat' (first | exact True.intro | exact rfl | exact mapA_all (fun _ => by first | exact rfl | simp [AV.bd, bdL]) _ | refine And.intro ?_ ?_ | exact bdL_map (fun _ => by first | exact rfl | simp [AV.bd, bdL, bdL_append]) _ | (simp [bdOq, bdL, bdL_append, AV.bd]; done))) (by (rw [hm]; exact Nat.le_of_ble_eq_true rfl))⟩
          · rw [if_neg hK] at hRS
            (repeat' (first | apply jA | apply jF | apply jH | (refine wp_cond rfl (fun hc => ?_) (fun hc => ?_) <;> (try simp only [sB, ne_eq, reduceCtorEq] at hc) <;> (try (exfalso; omega))) | (refine WP.regionC (id := 36) ?_; (refine sfieldp rfl rfl rfl ?_); (refine sloadp rfl rfl rfl rfl ?_); (refine su (alenr rfl rfl) ?_); (refine su (agtr rfl rfl) ?_); apply jW) | (refine WP.regionC (id := 37) ?_; (refine sfieldp rfl rfl rfl ?_); (refine sloadp rfl rfl rfl rfl ?_); (refine su (alenr rfl rfl) ?_); (refine su (asub rfl rfl (by exact inr_i64_of (by omega))) ?_); (refine su (ap_build (RqP.cons (rq_p rfl rfl) (RqP.cons (rq_p rfl rfl) (RqP.nil))) rfl) ?_); (refine smove rfl ?_); apply jW)))
            all_goals try (exfalso; omega)
            refine wp_loop (fun (k : Nat) => k ≤ 2) (fun k => 2 - k)
              (fun k => (S 260 [(1, levelsA l), (2, .ptr 1 4 0 0), (4, .ptr 2 4 0 0), (7, .ptr 3 6 0 0), (9, .map 4), (10, strsA (namsG g l g.nonterms.length)), (11, .sl 1 ((chnTo g l g.nonterms.length).map intsA)), (15, .ref 5 3 0 (rulTo g l r).length), (16, .ref 6 1 0 (froTo r).length), (17, intA (r : Nat)), (18, .ptr 7 3 0 0), (20, intA (nth (nth (chnTo g l g.nonterms.length) (nth g.rules r).head.toNat) (((nth (chnTo g l g.nonterms.length) (nth g.rules r).head.toNat).length : Int) - 1).toNat)), (21, .ptr 8 3 0 0), (93, rulesA g.rules), (94, intA (g.rules.length : Nat)), (95, intA (r : Nat)), (187, .agg [intA 0, intA (((nth g.rules r).body.length : Int) - 1)]), (188, intA (k : Nat))] 10 [(0, some (.map (mapA strK intA (opM l)))), (1, some (.arr 4 [gramA g])), (2, some (.arr 4 [.agg [.val (.slice none 0 0), .val (.slice none 0 0), intA 0, .val (.slice none 0 0)]])), (3, some (.arr 6 [.agg [strsA g.terms, strsA g.nonterms, intA g.start, rulesA g.rules, levelsA l, .map 0]])), (4, some (.map (mapA intK slO (usdM g l)))), (5, some (.arr 3 ((rulTo g l r).map ruleA))), (6, some (.arr 1 ((froTo r).map intA))), (7, some (.arr 3 [ruleA (nth g.rules r)])), (8, some (.arr 3 [.agg [intA (nth (nth (chnTo g l g.nonterms.length) (nth g.rules r).head.toNat) (((nth (chnTo g l g.nonterms.length) (nth g.rules r).head.toNat).length : Int) - 1).toNat), .ref 9 1 0 (nth g.rules r).body.length, intA (nth g.rules r).price]])), (9, some (.arr 1 ((bodK (-1 - nth (nth (chnTo g l g.nonterms.length) (nth g.rules r).head.toNat) (((nth (chnTo g l g.nonterms.length) (nth g.rules r).head.toNat).length : Int) - 1).toNat) (-1 - (nth g.rules r).head) (nth g.rules r).body k).map intA)))])) 0 ?_ (Nat.zero_le _) ?_
            · exact ⟨[0, 1, 2, 3, 4, 5, 6, 7, 8, 9], ToR.S rfl (by repeat' (first | exact rt_nil | refine rt_r rfl rfl ?_ | refine rt_t rfl rfl ?_ | refine rt_m rfl rfl ?_ | refine rt_e rfl rfl ?_ | refine rt_p rfl rfl (by first | (simp [AV.bd, bdL, bdL_append]; done) | fail) ?_)) (by repeat' (first | exact ro_nil | refine ro_e rfl rfl ?_ | refine ro_p rfl (by first | exact rfl | fail) (by first | exact bdL_map (fun _ => by first | exact rfl | simp [AV.bd, bdL, bdL_append]) _ | (simp [bdL, bdL_append, AV.bd]; done) | fail) ?_ | refine ro_m rfl rfl (mapA_bd (fun _ => by first | exact rfl | simp [AV.bd, bdL]) _) ?_ | refine ro_e rfl (by simp only [renL, AV.ren, ren_strsA, ren_intsA, ren_intA', ren_rulesA, ren_levelsA, chS_ren, chL_ren]; exact rfl) ?_)) rfl (by (rw [hm]; exact rfl)) rfl (by (simp [bdT, AV.bd, bdL, bdL_append]; done)) (by repeat' (first | exact True.intro | exact rfl | exact mapA_all (fun _ => by first | exact rfl | simp [AV.bd, bdL]) _ | refine And.intro ?_ ?_ | exact bdL_map (fun _ => by first | exact rfl | simp [AV.bd, bdL, bdL_append]) _ | (simp [bdOq, bdL, bdL_append, AV.bd]; done))) (by (rw [hm]; exact Nat.le_of_ble_eq_true rfl))⟩
            intro k hk
            by_cases hk2 : k < 2
            · obtain ⟨z, hz0, hz1, hz2, hz3⟩ := bodK_step (-1 - nth (nth (chnTo g l g.nonterms.length) (nth g.rules r).head.toNat) (((nth (chnTo g l g.nonterms.length) (nth g.rules r).head.toNat).length : Int) - 1).toNat) (-1 - (nth g.rules r).head) (B := (nth g.rules r).body) hk2 (by omega)
              have hbl := bodK_len (-1 - nth (nth (chnTo g l g.nonterms.length) (nth g.rules r).head.toNat) (((nth (chnTo g l g.nonterms.length) (nth g.rules r).head.toNat).length : Int) - 1).toNat) (-1 - (nth g.rules r).head) (nth g.rules r).body k
              (repeat' (first | apply jA | apply jF | apply jH | apply jI | (refine wp_cond rfl (fun hc => ?_) (fun hc => ?_) <;> (try simp only [sB, ne_eq, reduceCtorEq] at hc) <;> (try (exfalso; omega))) | (refine WP.regionC (id := 38) ?_; (refine slss rfl rfl ?_); apply jW)))
              all_goals try (exfalso; omega)
              refine WP.regionC (id := 39) ?_
              refine se_aidx (len := 2) (xs := [intA 0, intA (((nth g.rules r).body.length : Int) - 1)]) (x := intA z) rfl rfl ⟨by omega, by omega⟩ (by rw [Int.toNat_natCast]; exact hz2) ?_
              refine sassign rfl ?_
              refine asemC_end ?_
              generalize bodK (-1 - nth (nth (chnTo g l g.nonterms.length) (nth g.rules r).head.toNat) (((nth (chnTo g l g.nonterms.length) (nth g.rules r).head.toNat).length : Int) - 1).toNat) (-1 - (nth g.rules r).head) (nth g.rules r).body k = Bk at *
              (repeat' (first | apply jA | apply jH | apply jI | apply jN | (refine wp_cond rfl (fun hc => ?_) (fun hc => ?_) <;> (try simp only [sB, ne_eq, reduceCtorEq] at hc) <;> (try (exfalso; omega))) | (refine wp_draw (id := 40) 9 mixed (by kernel_rfl) (by kernel_rfl) rfl ?_ <;> (refine rfieldp rfl rfl rfl ?_) <;> (refine rloadp rfl rfl rfl rfl ?_) <;> (refine rmove rfl ?_) <;> (refine rd_u rfl rfl (aidxrz rfl rfl (by omega)) ?_) <;> (refine rd_u rfl rfl (aloadpt rfl rfl (by omega) rfl) ?_) <;> (refine rfieldp rfl rfl rfl ?_) <;> (refine rloadp rfl rfl rfl rfl ?_) <;> (refine rd_u rfl rfl (asub rfl rfl (by exact inr_i64_of (by omega))) ?_) <;> (refine rd_u rfl rfl (aeql rfl rfl) ?_) <;> (refine rd_end (by kernel_rfl) ?_)) | (refine WP.regionC (id := 41) ?_; (refine sfieldp rfl rfl rfl ?_); (refine sloadp rfl rfl rfl rfl ?_); (refine smove rfl ?_); (refine smove rfl ?_); (refine su (asub rfl rfl (by exact inr_i64_of (by omega))) ?_); (refine su (aidxrz rfl rfl (by omega)) ?_); (refine se_store_t rfl rfl (by omega) rfl rfl ?_); apply jW) | (refine WP.regionC (id := 42) ?_; (refine sadd rfl rfl (by exact inr_i64_of (by omega)) ?_); (refine smove rfl ?_); apply jW)))
              · rw [if_pos hc] at hz3
                refine ⟨k + 1, ⟨by omega, by omega⟩, ?_⟩
                rw [hz3]
                exact ⟨[0, 1, 2, 3, 4, 5, 6, 7, 8, 9], ToR.S rfl (by repeat' (first | exact rt_nil | refine rt_r rfl rfl ?_ | refine rt_t rfl rfl ?_ | refine rt_m rfl rfl ?_ | refine rt_e rfl rfl ?_ | refine rt_p rfl rfl (by first | (simp [AV.bd, bdL, bdL_append]; done) | fail) ?_)) (by repeat' (first | exact ro_nil | refine ro_e rfl rfl ?_ | refine ro_p rfl (by first | exact rfl | fail) (by first | exact bdL_map (fun _ => by first | exact rfl | simp [AV.bd, bdL, bdL_append]) _ | (simp [bdL, bdL_append, AV.bd]; done) | fail) ?_ | refine ro_m rfl rfl (mapA_bd (fun _ => by first | exact rfl | simp [AV.bd, bdL]) _) ?_ | refine ro_e rfl (by simp only [renL, AV.ren, ren_strsA, ren_intsA, ren_intA', ren_rulesA, ren_levelsA, chS_ren, chL_ren]; exact rfl) ?_)) rfl (by (rw [hm]; exact rfl)) rfl (by (simp [bdT, AV.bd, bdL, bdL_append]; done)) (by repeat' (first | exact True.intro | exact rfl | exact mapA_all (fun _ => by first | exact rfl | simp [AV.bd, bdL]) _ | refine And.intro ?_ ?_ | exact bdL_map (fun _ => by first | exact rfl | simp [AV.bd, bdL, bdL_append]) _ | (simp [bdOq, bdL, bdL_append, AV.bd]; done))) (by (rw [hm]; exact Nat.le_of_ble_eq_true rfl))⟩
              · rw [if_neg hc] at hz3
                refine ⟨k + 1, ⟨by omega, by omega⟩, ?_⟩
                rw [hz3]
                exact ⟨[0, 1, 2, 3, 4, 5, 6, 7, 8, 9], ToR.S rfl (by repeat' (first | exact rt_nil | refine rt_r rfl rfl ?_ | refine rt_t rfl rfl ?_ | refine rt_m rfl rfl ?_ | refine rt_e rfl rfl ?_ | refine rt_p rfl rfl (by first | (simp [AV.bd, bdL, bdL_append]; done) | fail) ?_)) (by repeat' (first | exact ro_nil | refine ro_e rfl rfl ?_ | refine ro_p rfl (by first | exact rfl | fail) (by first | exact bdL_map (fun _ => by first | exact rfl | simp [AV.bd, bdL, bdL_append]) _ | (simp [bdL, bdL_append, AV.bd]; done) | fail) ?_ | refine ro_m rfl rfl (mapA_bd (fun _ => by first | exact rfl | simp [AV.bd, bdL]) _) ?_ | refine ro_e rfl (by simp only [renL, AV.ren, ren_strsA, ren_intsA, ren_intA', ren_rulesA, ren_levelsA, chS_ren, chL_ren]; exact rfl) ?_)) rfl (by (rw [hm]; exact rfl)) rfl (by (simp [bdT, AV.bd, bdL, bdL_append]; done)) (by repeat' (first | exact True.intro | exact rfl | exact mapA_all (fun _ => by first | exact rfl | simp [AV.bd, bdL]) _ | refine And.intro ?_ ?_ | exact bdL_map (fun _ => by first | exact rfl | simp [AV.bd, bdL, bdL_append]) _ | (simp [bdOq, bdL, bdL_append, AV.bd]; done))) (by (rw [hm]; exact Nat.le_of_ble_eq_true rfl))⟩
            · obtain rfl : k = 2 := by omega
              (repeat' (first | apply jA | apply jH | apply jJ | apply jL | apply jP | (refine wp_cond rfl (fun hc => ?_) (fun hc => ?_) <;> (try simp only [sB, ne_eq, reduceCtorEq] at hc) <;> (try (exfalso; omega))) | (refine WP.regionC (id := 38) ?_; (refine slss rfl rfl ?_); apply jW)))
              all_goals try (exfalso; omega)
              refine ⟨rfl, ?_⟩
              rw [hRS]
              exact ⟨[0, 1, 2, 3, 4, 5, 6, 8, 9], ToR.S rfl (by repeat' (first | exact rt_nil | refine rt_r rfl rfl ?_ | refine rt_t rfl rfl ?_ | refine rt_m rfl rfl ?_ | refine rt_e rfl rfl ?_ | refine rt_p rfl rfl (by first | (simp [AV.bd, bdL, bdL_append]; done) | fail) ?_)) (by repeat' (first | exact ro_nil | refine ro_e rfl rfl ?_ | refine ro_p rfl (by first | exact rfl | fail) (by first | exact bdL_map (fun _ => by first | exact rfl | simp [AV.bd, bdL, bdL_append]) _ | (simp [bdL, bdL_append, AV.bd]; done) | fail) ?_ | refine ro_m rfl rfl (mapA_bd (fun _ => by first | exact rfl | simp [AV.bd, bdL]) _) ?_ | refine ro_e rfl (by simp only [renL, AV.ren, ren_strsA, ren_intsA, ren_intA', ren_rulesA, ren_levelsA, chS_ren, chL_ren]; exact rfl) ?_)) rfl (by (rw [hm]; exact rfl)) rfl (by (simp [bdT, AV.bd, bdL, bdL_append]; done)) (by repeat' (first | exact True.intro | exact rfl | exact mapA_all (fun _ => by first | exact rfl | simp [AV.bd, bdL]) _ | refine And.intro ?_ ?_ | exact bdL_map (fun _ => by first | exact rfl | simp [AV.bd, bdL, bdL_append]) _ | (simp [bdOq, bdL, bdL_append, AV.bd]; done))) (by (rw [hm]; exact Nat.le_of_ble_eq_true rfl))⟩
      rintro s ⟨is, hst⟩
      refine go_n ?_
      refine wp_st _ ⟨is, hst⟩ ?_
      clear hst
      refine wp_frzo (id := 8) (f := intA) (L := (ruleS g l (nth g.rules r)).body) 7 1 hm rfl rfl rfl rfl hrl2 (fun _ => rfl) (fun _ => rfl) ?_
      (repeat' (first | apply jH | apply jN | (refine WP.regionC (id := 43) ?_; (refine smove rfl ?_); (refine sloadpw rfl rfl rfl rfl ?_); (refine se_lit (OpP.cons rfl (OpP.nil)) rfl rfl rfl rfl rfl rfl ?_); (refine se_app1 rfl rfl rfl rfl rfl rfl rfl rfl (by omega) ?_); (refine smove rfl ?_); (refine smove rfl ?_); (refine se_lit (OpP.cons rfl (OpP.nil)) rfl rfl rfl rfl rfl rfl ?_); (refine se_app1 rfl rfl rfl rfl rfl rfl rfl rfl (by omega) ?_); (refine sassign rfl ?_); (refine sassign rfl ?_); apply jW) | (refine WP.regionC (id := 44) ?_; (refine sadd rfl rfl (by exact inr_i64_of (by omega)) ?_); (refine smove rfl ?_); apply jW)))
      refine ⟨r + 1, ⟨by omega, by omega⟩, ?_⟩
      rw [rulTo_succ l hrt, froTo_succ]
      exact ⟨[0, 1, 2, 3, 4, 10, 12], ToR.S rfl (by repeat' (first | exact rt_nil | refine rt_r rfl rfl ?_ | refine rt_t rfl rfl ?_ | refine rt_m rfl rfl ?_ | refine rt_e rfl rfl ?_ | refine rt_p rfl rfl (by first | (simp [AV.bd, bdL, bdL_append]; done) | fail) ?_)) (by repeat' (first | exact ro_nil | refine ro_e rfl rfl ?_ | refine ro_p rfl (by first | exact rfl | fail) (by first | exact bdL_map (fun _ => by first | exact rfl | simp [AV.bd, bdL, bdL_append]) _ | (simp [bdL, bdL_append, AV.bd]; done) | fail) ?_ | refine ro_m rfl rfl (mapA_bd (fun _ => by first | exact rfl | simp [AV.bd, bdL]) _) ?_ | refine ro_e rfl (by simp only [renL, AV.ren, ren_strsA, ren_intsA, ren_intA', ren_rulesA, ren_levelsA, chS_ren, chL_ren]; exact rfl) ?_)) rfl (by (rw [hm]; exact rfl)) rfl (by (simp [bdT, AV.bd, bdL, bdL_append]; done)) (by repeat' (first | exact True.intro | exact rfl | exact mapA_all (fun _ => by first | exact rfl | simp [AV.bd, bdL]) _ | refine And.intro ?_ ?_ | exact bdL_map (fun _ => by first | exact rfl | simp [AV.bd, bdL, bdL_append]) _ | (simp [bdOq, bdL, bdL_append, AV.bd]; done))) (by (rw [hm]; exact Nat.le_of_ble_eq_true rfl))⟩
    · obtain rfl : r = g.rules.length := by omega
      have hCN := chnTo_len g l g.nonterms.length
      (repeat' (first | apply jA | apply jF | apply jH | apply jJ | apply jL | apply jP | (refine wp_cond rfl (fun hc => ?_) (fun hc => ?_) <;> (try simp only [sB, ne_eq, reduceCtorEq] at hc) <;> (try (exfalso; omega))) | (refine WP.regionC (id := 21) ?_; (refine slss rfl rfl ?_); apply jW) | (refine WP.regionC (id := 45) ?_; (refine smove rfl ?_); (refine slenm rfl rfl ?_); (refine smove rfl ?_); apply jW)))
      refine wp_loop (fun (e : Nat) => e ≤ g.nonterms.length) (fun e => g.nonterms.length - e)
        (fun e => (S 260 [(2, .ptr 0 4 0 0), (4, .ptr 1 4 0 0), (10, strsA (namsG g l g.nonterms.length)), (15, .ref 2 3 0 (rulTo g l g.rules.length ++ unitsS g l e).length), (16, .ref 3 1 0 (froTo g.rules.length ++ List.replicate (unitsS g l e).length (-1)).length), (216, .sl 1 ((chnTo g l g.nonterms.length).map intsA)), (217, intA ((chnTo g l g.nonterms.length).length : Nat)), (218, intA (e : Nat))] 4 [(0, some (.arr 4 [gramA g])), (1, some (.arr 4 [.agg [.val (.slice none 0 0), .val (.slice none 0 0), intA 0, .val (.slice none 0 0)]])), (2, some (.arr 3 ((rulTo g l g.rules.length ++ unitsS g l e).map ruleA))), (3, some (.arr 1 ((froTo g.rules.length ++ List.replicate (unitsS g l e).length (-1)).map intA)))])) 0 ?_ (Nat.zero_le _) ?_
      · rw [show unitsS g l 0 = [] from rfl, List.append_nil, show List.replicate ([] : List Rul).length (-1 : Int) = [] from rfl, List.append_nil]
        exact ⟨[1, 2, 5, 6], ToR.S rfl (by repeat' (first | exact rt_nil | refine rt_r rfl rfl ?_ | refine rt_t rfl rfl ?_ | refine rt_e rfl rfl ?_ | refine rt_p rfl rfl (by first | (simp [AV.bd, bdL, bdL_append]; done) | fail) ?_)) (by repeat' (first | exact ro_nil | refine ro_e rfl rfl ?_ | refine ro_p rfl (by first | exact rfl | fail) (by first | exact bdL_map (fun _ => by first | exact rfl | simp [AV.bd, bdL, bdL_append]) _ | (simp [bdL, bdL_append, AV.bd]; done) | fail) ?_)) rfl (by (rw [hm]; exact rfl)) rfl (by (simp [bdT, AV.bd, bdL, bdL_append]; done)) (by repeat' (first | exact True.intro | exact rfl | refine And.intro ?_ ?_ | exact bdL_map (fun _ => by first | exact rfl | simp [AV.bd, bdL, bdL_append]) _ | (simp [bdOq, bdL, bdL_append, AV.bd]; done))) (by (rw [hm]; exact Nat.le_of_ble_eq_true rfl))⟩
      intro e he
      have hub := unitsS_bd (g := g) (l := l) hfn e
      by_cases het : e < g.nonterms.length
      · have hC : nth (chnTo g l g.nonterms.length) e = chnG g l e := nth_range (by omega)
        have hCl := chnG_len g l e
        have hul := useL_len g l e
        have hbd : ∀ i, i < (chnG g l e).length → 0 ≤ nth (chnG g l e) i ∧ nth (chnG g l e) i ≤ 5000 := fun i hi => by
          have hm := nth_mem hi
          rw [mem_chn] at hm
          have o1 := offN_bd (g := g) (l := l) hfn e
          omega
        rw [← hC] at hCl hbd
        (repeat' (first | apply jA | apply jF | apply jH | apply jI | (refine wp_cond rfl (fun hc => ?_) (fun hc => ?_) <;> (try simp only [sB, ne_eq, reduceCtorEq] at hc) <;> (try (exfalso; omega))) | (refine WP.regionC (id := 46) ?_; (refine slss rfl rfl ?_); apply jW) | (refine WP.regionC (id := 47) ?_; (refine sidxn rfl rfl (by omega) ?_); (refine sloadw rfl rfl ?_); (refine sassign rfl ?_); apply jW) | (refine WP.regionC (id := 48) ?_; (refine sassign rfl ?_); apply jW)))
        refine wp_loop (fun (j : Nat) => j ≤ (useL g l e).length) (fun j => (useL g l e).length - j)
          (fun j => (S 260 [(2, .ptr 0 4 0 0), (4, .ptr 1 4 0 0), (10, strsA (namsG g l g.nonterms.length)), (15, .ref 2 3 0 (rulTo g l g.rules.length ++ unitsS g l e ++ untP g l e j).length), (16, .ref 3 1 0 (froTo g.rules.length ++ List.replicate ((unitsS g l e).length + j) (-1)).length), (28, intsA (nth (chnTo g l g.nonterms.length) e)), (29, intA ((j : Nat) + 1 : Int)), (216, .sl 1 ((chnTo g l g.nonterms.length).map intsA)), (217, intA ((chnTo g l g.nonterms.length).length : Nat)), (218, intA (e : Nat))] 4 [(0, some (.arr 4 [gramA g])), (1, some (.arr 4 [.agg [.val (.slice none 0 0), .val (.slice none 0 0), intA 0, .val (.slice none 0 0)]])), (2, some (.arr 3 ((rulTo g l g.rules.length ++ unitsS g l e ++ untP g l e j).map ruleA))), (3, some (.arr 1 ((froTo g.rules.length ++ List.replicate ((unitsS g l e).length + j) (-1)).map intA)))])) 0 ?_ (Nat.zero_le _) ?_
        · rw [show untP g l e 0 = [] from rfl, List.append_nil, Nat.add_zero, show ((0 : Nat) : Int) + 1 = 1 from rfl]
          exact ⟨[0, 1, 2, 3], ToR.S rfl (by repeat' (first | exact rt_nil | refine rt_r rfl rfl ?_ | refine rt_t rfl rfl ?_ | refine rt_e rfl rfl ?_ | refine rt_p rfl rfl (by first | (simp [AV.bd, bdL, bdL_append]; done) | fail) ?_)) (by repeat' (first | exact ro_nil | refine ro_e rfl rfl ?_ | refine ro_p rfl (by first | exact rfl | fail) (by first | exact bdL_map (fun _ => by first | exact rfl | simp [AV.bd, bdL, bdL_append]) _ | (simp [bdL, bdL_append, AV.bd]; done) | fail) ?_)) rfl (by (rw [hm]; exact rfl)) rfl (by (simp [bdT, AV.bd, bdL, bdL_append]; done)) (by repeat' (first | exact True.intro | exact rfl | refine And.intro ?_ ?_ | exact bdL_map (fun _ => by first | exact rfl | simp [AV.bd, bdL, bdL_append]) _ | (simp [bdOq, bdL, bdL_append, AV.bd]; done))) (by (rw [hm]; exact Nat.le_of_ble_eq_true rfl))⟩
        intro j hj
        have hpl := untP_len g l e j
        have hll2 : (rulTo g l g.rules.length ++ unitsS g l e ++ untP g l e j).length ≤ 3000 := by simp only [List.length_append]; omega
        have hll3 : (froTo g.rules.length ++ List.replicate ((unitsS g l e).length + j) (-1)).length ≤ 3000 := by simp only [List.length_append, List.length_replicate]; omega
        by_cases hjt : j < (useL g l e).length
        · have c1 := hbd ((j : Int) + 1).toNat (by omega)
          have c2 := hbd (j + (nat_lit 1)) (by show j + 1 < _; omega)
          have c3 := hbd ((j : Int) + 1 - 1).toNat (by omega)
          (repeat' (first | apply jA | apply jF | apply jH | apply jI | apply jN | (refine wp_cond rfl (fun hc => ?_) (fun hc => ?_) <;> (try simp only [sB, ne_eq, reduceCtorEq] at hc) <;> (try (exfalso; omega))) | (refine WP.regionC (id := 49) ?_; (refine smove rfl ?_); (refine smove rfl ?_); (refine slenm rfl rfl ?_); (refine slss rfl rfl ?_); apply jW) | (refine wp_draw (id := 51) 20 mixed (by kernel_rfl) (by kernel_rfl) rfl ?_ <;> (refine rmove rfl ?_) <;> (refine rmove rfl ?_) <;> (refine rmove rfl ?_) <;> (refine rd_u rfl rfl (asub rfl rfl (by exact inr_i64_of (by omega))) ?_) <;> (refine rd_u rfl rfl (aidxz rfl rfl (by omega)) ?_) <;> (refine rd_u rfl rfl (aloadw rfl rfl) ?_) <;> (refine rmove rfl ?_) <;> (refine rmove rfl ?_) <;> (refine rd_u rfl rfl (aidxn rfl rfl (by (simp only [sL] <;> omega))) ?_) <;> (refine rd_u rfl rfl (aloadw rfl rfl) ?_) <;> (refine rd_u rfl rfl (asub rfl rfl (by exact inr_i64_of (by omega))) ?_) <;> (refine rd_frzl (OpP.cons rfl (OpP.nil)) rfl rfl rfl rfl rfl rfl (by first | exact rfl | fail) ?_) <;> (refine rd_u rfl rfl (ap_build (RqP.cons (rq_p rfl rfl) (RqP.cons (rq_p rfl rfl) (RqP.nil))) rfl) ?_) <;> (refine rd_lit (OpP.cons rfl (OpP.nil)) rfl rfl rfl rfl rfl rfl ?_) <;> (refine rd_app rfl rfl rfl (by (simp; done)) rfl rfl rfl rfl (by (simp only [sL] <;> omega)) ?_) <;> (refine rmove rfl ?_) <;> (refine rd_frzl (OpP.cons rfl (OpP.nil)) rfl rfl rfl rfl rfl rfl (by first | exact rfl | fail) ?_) <;> (refine rd_app rfl rfl rfl (by (simp; done)) rfl rfl rfl rfl (by (simp only [sL] <;> omega)) ?_) <;> (refine rd_u rfl rfl (aassign rfl) ?_) <;> (refine rd_u rfl rfl (aassign rfl) ?_) <;> (refine rd_end (by kernel_rfl) ?_)) | (refine WP.regionC (id := 50) ?_; (refine smove rfl ?_); (refine sadd rfl rfl (by exact inr_i64_of (by omega)) ?_); (refine sassign rfl ?_); apply jW)))
          have hx1 : rulTo g l g.rules.length ++ unitsS g l e ++ untP g l e (j + 1) = (rulTo g l g.rules.length ++ unitsS g l e ++ untP g l e j) ++ [(⟨nth (nth (chnTo g l g.nonterms.length) e) ((j : Int) + 1 - 1).toNat, [-1 - nth (nth (chnTo g l g.nonterms.length) e) (j + 1)], 0⟩ : Rul)] := by
            rw [untP_succ, ← List.append_assoc, hC, show ((j : Int) + 1 - 1).toNat = j by omega]
          have hy1 : froTo g.rules.length ++ List.replicate ((unitsS g l e).length + (j + 1)) (-1) = (froTo g.rules.length ++ List.replicate ((unitsS g l e).length + j) (-1)) ++ [(-1 : Int)] := by
            rw [← Nat.add_assoc, List.replicate_succ', List.append_assoc]
          have hm1 : ((rulTo g l g.rules.length ++ unitsS g l e ++ untP g l e j) ++ [(⟨nth (nth (chnTo g l g.nonterms.length) e) ((j : Int) + 1 - 1).toNat, [-1 - nth (nth (chnTo g l g.nonterms.length) e) (j + 1)], 0⟩ : Rul)]).map ruleA = (rulTo g l g.rules.length ++ unitsS g l e ++ untP g l e j).map ruleA ++ [AV.agg [intA (nth (nth (chnTo g l g.nonterms.length) e) ((j : Int) + 1 - 1).toNat), .sl 1 [.val (.int .i64 (-1 - nth (nth (chnTo g l g.nonterms.length) e) (j + 1)))], intA 0]] := by rw [List.map_append]; rfl
          have hm2 : ((rulTo g l g.rules.length ++ unitsS g l e ++ untP g l e j) ++ [(⟨nth (nth (chnTo g l g.nonterms.length) e) ((j : Int) + 1 - 1).toNat, [-1 - nth (nth (chnTo g l g.nonterms.length) e) (j + 1)], 0⟩ : Rul)]).length = ((rulTo g l g.rules.length ++ unitsS g l e ++ untP g l e j).map ruleA ++ [AV.agg [intA (nth (nth (chnTo g l g.nonterms.length) e) ((j : Int) + 1 - 1).toNat), .sl 1 [.val (.int .i64 (-1 - nth (nth (chnTo g l g.nonterms.length) e) (j + 1)))], intA 0]]).length := by simp
          have hm3 : ((froTo g.rules.length ++ List.replicate ((unitsS g l e).length + j) (-1)) ++ [(-1 : Int)]).map intA = (froTo g.rules.length ++ List.replicate ((unitsS g l e).length + j) (-1)).map intA ++ [.val (.int .i64 (-1))] := by rw [List.map_append]; rfl
          have hm4 : ((froTo g.rules.length ++ List.replicate ((unitsS g l e).length + j) (-1)) ++ [(-1 : Int)]).length = ((froTo g.rules.length ++ List.replicate ((unitsS g l e).length + j) (-1)).map intA ++ [AV.val (.int .i64 (-1))]).length := by simp
          refine ⟨j + 1, ⟨by omega, by omega⟩, ?_⟩
          rw [hx1, hy1, hm2, hm1, hm4, hm3]
          exact ⟨[0, 1, 18, 21], ToR.S rfl (by repeat' (first | exact rt_nil | refine rt_r rfl rfl ?_ | refine rt_t rfl rfl ?_ | refine rt_e rfl rfl ?_ | refine rt_p rfl rfl (by first | (simp [AV.bd, bdL, bdL_append]; done) | fail) ?_)) (by repeat' (first | exact ro_nil | refine ro_e rfl rfl ?_ | refine ro_p rfl (by first | exact rfl | fail) (by first | (simp [bdL, bdL_append, AV.bd]; done) | fail) ?_)) rfl (by (rw [hm]; exact rfl)) rfl (by (simp [bdT, AV.bd, bdL, bdL_append]; done)) (by repeat' (first | exact True.intro | exact rfl | refine And.intro ?_ ?_ | (simp [bdOq, bdL, bdL_append, AV.bd]; done))) (by (rw [hm]; exact Nat.le_of_ble_eq_true rfl))⟩
        · obtain rfl : j = (useL g l e).length := by omega
          have hxe : rulTo g l g.rules.length ++ unitsS g l e ++ untP g l e (useL g l e).length = rulTo g l g.rules.length ++ unitsS g l (e + 1) := by
            rw [unitsS_succ, ← List.append_assoc]; rfl
          have hye : (unitsS g l e).length + (useL g l e).length = (unitsS g l (e + 1)).length := by rw [unitsS_succ, List.length_append, unitS_len]
          rw [hxe, hye]
          (repeat' (first | apply jA | apply jH | apply jJ | apply jL | apply jN | apply jP | (refine wp_cond rfl (fun hc => ?_) (fun hc => ?_) <;> (try simp only [sB, ne_eq, reduceCtorEq] at hc) <;> (try (exfalso; omega))) | (refine WP.regionC (id := 49) ?_; (refine smove rfl ?_); (refine smove rfl ?_); (refine slenm rfl rfl ?_); (refine slss rfl rfl ?_); apply jW) | (refine WP.regionC (id := 52) ?_; (refine sadd rfl rfl (by exact inr_i64_of (by omega)) ?_); (refine smove rfl ?_); apply jW)))
          exact ⟨e + 1, ⟨by omega, by omega⟩, ⟨[0, 1, 2, 3], ToR.S rfl (by repeat' (first | exact rt_nil | refine rt_r rfl rfl ?_ | refine rt_t rfl rfl ?_ | refine rt_e rfl rfl ?_ | refine rt_p rfl rfl (by first | (simp [AV.bd, bdL, bdL_append]; done) | fail) ?_)) (by repeat' (first | exact ro_nil | refine ro_e rfl rfl ?_ | refine ro_p rfl (by first | exact rfl | fail) (by first | exact bdL_map (fun _ => by first | exact rfl | simp [AV.bd, bdL, bdL_append]) _ | (simp [bdL, bdL_append, AV.bd]; done) | fail) ?_)) rfl (by (rw [hm]; exact rfl)) rfl (by (simp [bdT, AV.bd, bdL, bdL_append]; done)) (by repeat' (first | exact True.intro | exact rfl | refine And.intro ?_ ?_ | exact bdL_map (fun _ => by first | exact rfl | simp [AV.bd, bdL, bdL_append]) _ | (simp [bdOq, bdL, bdL_append, AV.bd]; done))) (by (rw [hm]; exact Nat.le_of_ble_eq_true rfl))⟩⟩
      · obtain rfl : e = g.nonterms.length := by omega
        have hsg : gramA (stratG g l) = .agg [strsA g.terms, strsA (namsG g l g.nonterms.length), intA g.start, .sl 3 ((rulTo g l g.rules.length ++ unitsS g l g.nonterms.length).map ruleA)] := by
          unfold stratG rulTo
          rw [List.take_length]; rfl
        have hvs := gvalid18_fn (stratG g l)
        have hR : stratR g l = if validG (stratG g l) then (stratG g l, fromG g l, 0) else (zG, [], 11) := by unfold stratR; rw [if_pos hc0]
        have hfg : fromG g l = froTo g.rules.length ++ List.replicate (unitsS g l g.nonterms.length).length (-1) := rfl
        rw [hR]
        refine wp_frz (f := ruleA) 15 hm rfl rfl rfl (fun _ => by simp) (fun _ => rfl) ?_
        cases hvv : validG (stratG g l) with
        | false =>
          rw [hvv, hsg] at hvs
          rw [if_neg (by simp), show stratA (zG, [], 11) = .tup [.agg [.sl 1 [], .sl 1 [], intA 0, .sl 3 []], .sl 1 [], intA 11] from rfl]
          (repeat' (first | apply jA | apply jH | apply jJ | apply jL | apply jP | (refine wp_cond rfl (fun hc => ?_) (fun hc => ?_) <;> (try simp only [sB, ne_eq, reduceCtorEq] at hc) <;> (try (exfalso; omega))) | (refine WP.regionC (id := 46) ?_; (refine slss rfl rfl ?_); apply jW) | (refine WP.regionC (id := 53) ?_; (refine sfieldp rfl rfl rfl ?_); (refine sloadp rfl rfl rfl rfl ?_); (refine smove rfl ?_); (refine sfieldp rfl rfl rfl ?_); (refine sloadp rfl rfl rfl rfl ?_); (refine smove rfl ?_); (refine su (ap_build (RqP.cons (rq_p rfl rfl) (RqP.cons (rq_p rfl rfl) (RqP.cons (rq_p rfl rfl) (RqP.cons (rq_p rfl rfl) (RqP.nil))))) rfl) ?_); (refine se_alloc rfl ?_); (refine se_store_b rfl rfl rfl rfl ?_); apply jW)))
          refine wp_st (S 260 [(4, .ptr 0 4 0 0), (16, .ref 1 1 0 (froTo g.rules.length ++ List.replicate (unitsS g l g.nonterms.length).length (-1)).length), (30, .ptr 2 4 0 0)] 3 [(0, some (.arr 4 [.agg [.val (.slice none 0 0), .val (.slice none 0 0), intA 0, .val (.slice none 0 0)]])), (1, some (.arr 1 ((froTo g.rules.length ++ List.replicate (unitsS g l g.nonterms.length).length (-1)).map intA))), (2, some (.arr 4 [.agg [strsA g.terms, strsA (namsG g l g.nonterms.length), intA g.start, .sl 3 ((rulTo g l g.rules.length ++ unitsS g l g.nonterms.length).map ruleA)]]))]) ⟨[1, 3, 4], ToR.S rfl (by repeat' (first | exact rt_nil | refine rt_r rfl rfl ?_ | refine rt_t rfl rfl ?_)) (by repeat' (first | exact ro_nil | refine ro_e rfl rfl ?_ | refine ro_p rfl (by first | exact rfl | fail) (by first | exact bdL_map (fun _ => by exact rfl) _ | (simp [bdL, bdL_append, AV.bd]; done) | fail) ?_)) rfl (by (rw [hm]; exact rfl)) rfl (by (simp [bdT, AV.bd, bdL, bdL_append]; done)) (by repeat' (first | exact True.intro | exact rfl | refine And.intro ?_ ?_ | exact bdL_map (fun _ => by exact rfl) _ | (simp [bdOq, bdL, bdL_append, AV.bd]; done))) (by (rw [hm]; exact Nat.le_of_ble_eq_true rfl))⟩ ?_
          (repeat' (first | apply jA | apply jH | apply jK | apply jM | apply jS | (refine wp_cond rfl (fun hc => ?_) (fun hc => ?_) <;> (try simp only [sB, ne_eq, reduceCtorEq] at hc) <;> (try (exfalso; omega))) | (refine WP.regionC (id := 54) ?_; (refine sloadpw rfl rfl rfl rfl ?_); (refine sc_p rfl rfl (by first | ((repeat' first | exact SubL.nil | refine SubL.cons ?_ ?_ | exact Sub.refl); done) | fail) (by first | (simp [bdL, bdL_append, AV.bd]; done) | fail) (hvs) ?_); (refine su (anot rfl) ?_); apply jW) | (refine WP.regionC (id := 55) ?_; (refine su (ap_build (RqP.nil) rfl) ?_); (refine se_store_b rfl rfl rfl rfl ?_); (refine sassign rfl ?_); (refine sassign rfl ?_); apply jW)))
          all_goals try (exfalso; simp at hc; done)
          exact ret_many (.cellT rfl rfl rfl rfl (.tmp rfl (.tmp rfl .nil))) (Nat.le_of_ble_eq_true rfl) (by first | ((repeat' first | exact FzL.nil | refine FzL.cons ?_ ?_ | exact Fz.nil | (exact Fz.reflp (by simp [AV.bd, bdL, bdL_append])) | refine Fz.aggL ?_); done) | fail)
        | true =>
          rw [hvv, hsg] at hvs
          rw [if_pos rfl]
          unfold stratA
          simp only
          rw [hsg, hfg]
          (repeat' (first | apply jA | apply jH | apply jJ | apply jL | apply jP | (refine wp_cond rfl (fun hc => ?_) (fun hc => ?_) <;> (try simp only [sB, ne_eq, reduceCtorEq] at hc) <;> (try (exfalso; omega))) | (refine WP.regionC (id := 46) ?_; (refine slss rfl rfl ?_); apply jW) | (refine WP.regionC (id := 53) ?_; (refine sfieldp rfl rfl rfl ?_); (refine sloadp rfl rfl rfl rfl ?_); (refine smove rfl ?_); (refine sfieldp rfl rfl rfl ?_); (refine sloadp rfl rfl rfl rfl ?_); (refine smove rfl ?_); (refine su (ap_build (RqP.cons (rq_p rfl rfl) (RqP.cons (rq_p rfl rfl) (RqP.cons (rq_p rfl rfl) (RqP.cons (rq_p rfl rfl) (RqP.nil))))) rfl) ?_); (refine se_alloc rfl ?_); (refine se_store_b rfl rfl rfl rfl ?_); apply jW)))
          refine wp_st (S 260 [(4, .ptr 0 4 0 0), (16, .ref 1 1 0 (froTo g.rules.length ++ List.replicate (unitsS g l g.nonterms.length).length (-1)).length), (30, .ptr 2 4 0 0)] 3 [(0, some (.arr 4 [.agg [.val (.slice none 0 0), .val (.slice none 0 0), intA 0, .val (.slice none 0 0)]])), (1, some (.arr 1 ((froTo g.rules.length ++ List.replicate (unitsS g l g.nonterms.length).length (-1)).map intA))), (2, some (.arr 4 [.agg [strsA g.terms, strsA (namsG g l g.nonterms.length), intA g.start, .sl 3 ((rulTo g l g.rules.length ++ unitsS g l g.nonterms.length).map ruleA)]]))]) ⟨[1, 3, 4], ToR.S rfl (by repeat' (first | exact rt_nil | refine rt_r rfl rfl ?_ | refine rt_t rfl rfl ?_)) (by repeat' (first | exact ro_nil | refine ro_e rfl rfl ?_ | refine ro_p rfl (by first | exact rfl | fail) (by first | exact bdL_map (fun _ => by exact rfl) _ | (simp [bdL, bdL_append, AV.bd]; done) | fail) ?_)) rfl (by (rw [hm]; exact rfl)) rfl (by (simp [bdT, AV.bd, bdL, bdL_append]; done)) (by repeat' (first | exact True.intro | exact rfl | refine And.intro ?_ ?_ | exact bdL_map (fun _ => by exact rfl) _ | (simp [bdOq, bdL, bdL_append, AV.bd]; done))) (by (rw [hm]; exact Nat.le_of_ble_eq_true rfl))⟩ ?_
          (repeat' (first | apply jA | apply jH | apply jI | apply jK | apply jS | (refine wp_cond rfl (fun hc => ?_) (fun hc => ?_) <;> (try simp only [sB, ne_eq, reduceCtorEq] at hc) <;> (try (exfalso; omega))) | (refine WP.regionC (id := 54) ?_; (refine sloadpw rfl rfl rfl rfl ?_); (refine sc_p rfl rfl (by first | ((repeat' first | exact SubL.nil | refine SubL.cons ?_ ?_ | exact Sub.refl); done) | fail) (by first | (simp [bdL, bdL_append, AV.bd]; done) | fail) (hvs) ?_); (refine su (anot rfl) ?_); apply jW) | (refine WP.regionC (id := 56) ?_; (refine sloadpw rfl rfl rfl rfl ?_); (refine smove rfl ?_); (refine se_store_b rfl rfl rfl rfl ?_); (refine sassign rfl ?_); (refine sassign rfl ?_); apply jW)))
          all_goals try (exfalso; simp at hc; done)
          exact ret_many (.cellT rfl rfl rfl rfl (.tmp rfl (.tmp rfl .nil))) (Nat.le_of_ble_eq_true rfl) (by first | ((repeat' first | exact FzL.nil | refine FzL.cons ?_ ?_ | (exact Fz.list rfl rfl (fun _ => by simp [AV.bd, bdL, bdL_append]) (fun _ => rfl)) | (exact Fz.reflp (by simp [AV.bd, bdL, bdL_append]))); done) | fail)
end Go.Lg

namespace Go.Lg
theorem fromG_len (g : Gram) (l : List GLe) : (fromG g l).length = (stratG g l).rules.length := by simp [fromG, stratG]
end Go.Lg

namespace Go.Lg
open Go.Proofs
set_option linter.unusedSimpArgs false
set_option linter.unusedVariables false
attribute [local irreducible] Ap Rq asemC WP RunD Ret Gq thenA inBlockA bodyQ noGotoA RqL RqP OpP
set_option maxHeartbeats 4000000
set_option maxRecDepth 20000
attribute [local simp] AV.cells
end Go.Lg

namespace Go.Lg
open Go.Proofs
set_option linter.unusedSimpArgs false
set_option linter.unusedVariables false
attribute [local irreducible] Ap Rq asemC WP RunD Ret Gq thenA inBlockA bodyQ noGotoA RqL RqP OpP
set_option maxHeartbeats 4000000
set_option maxRecDepth 20000
attribute [local simp] AV.cells
def liftA (x : Tre × Int) : AV := .tup [treA x.1, intA x.2]
@[simp] theorem bd_liftA (n : Nat) (x : Tre × Int) : (liftA x).bd n = true := by simp [liftA, AV.bd, bdL]
end Go.Lg

namespace Go.Lg
open Go.Proofs
set_option linter.unusedSimpArgs false
set_option linter.unusedVariables false
attribute [local irreducible] Ap Rq asemC WP RunD Ret Gq thenA inBlockA bodyQ noGotoA RqL RqP OpP
set_option maxHeartbeats 1000000
end Go.Lg

namespace Go.Lg
open Go.Proofs
set_option linter.unusedSimpArgs false
set_option linter.unusedVariables false
attribute [local irreducible] Ap Rq asemC WP RunD Ret Gq thenA inBlockA bodyQ noGotoA RqL RqP OpP
set_option maxHeartbeats 4000000
def UnderP (g : Gram) (out : List Bool) : Prop := out.length = g.nonterms.length ∧ ∀ S : List Bool, S.length = g.nonterms.length → leB (stepP g S) S → leB out S
theorem UnderP.set {g : Gram} {out : List Bool} (hv : GVal g) (h : UnderP g out) {r : Rul} (hr : r ∈ g.rules) (hb : r.body.all (okSym out) = true) : UnderP g (out.set r.head.toNat true) := by
  refine ⟨by simp [h.1], fun S hS hc => leB_set (h.2 S hS hc) ?_⟩
  refine stepP_closes hc hr (hv.rule r hr).h0 (by rw [hS]; exact (hv.rule r hr).hn) ?_
  rw [List.all_eq_true] at *
  exact fun x hx => okSym_mono (h.2 S hS hc) (hb x hx)
theorem UnderP.eq {g : Gram} {out : List Bool} (h : UnderP g out) (hc : ∀ r, r ∈ g.rules → r.body.all (okSym out) = true → nth out r.head.toNat = true) : out = prodG g :=
  (lfpB_eq (stepP_mono g _) (nob_len _) (nob_le h.1) (stepP_closed hc) (fun S h1 h2 => h.2 S (by rw [← h1.1, nob_len]) h2)).symm
end Go.Lg

namespace Go.Lg
open Go.Proofs
set_option linter.unusedSimpArgs false
set_option linter.unusedVariables false
attribute [local irreducible] Ap Rq asemC WP RunD Ret Gq thenA inBlockA bodyQ noGotoA RqL RqP OpP
set_option maxHeartbeats 4000000
set_option maxRecDepth 20000
end Go.Lg

namespace Go.Lg
open Go.Proofs
set_option linter.unusedSimpArgs false
set_option linter.unusedVariables false
attribute [local irreducible] Ap Rq asemC WP RunD Ret Gq thenA inBlockA bodyQ noGotoA RqL RqP OpP
set_option maxHeartbeats 4000000
set_option maxRecDepth 20000
attribute [local simp] AV.cells
def RTA (r : RT) : AV := .tup [.agg [intA r.1.rule, intA r.1.term, tresA r.1.kids], intA (r.2.1 : Nat), boolA r.2.2]
@[simp] theorem bd_RTA (n : Nat) (r : RT) : (RTA r).bd n = true := by simp [RTA, tresA, AV.bd, bdL]
end Go.Lg

namespace Go.Lg
open Go.Proofs
set_option linter.unusedSimpArgs false
set_option linter.unusedVariables false
attribute [local irreducible] Ap Rq asemC WP RunD Ret Gq thenA inBlockA bodyQ noGotoA RqL RqP OpP
set_option maxHeartbeats 4000000
set_option maxRecDepth 20000
attribute [local simp] AV.cells rdT
end Go.Lg

namespace Go.Lg
open Go.Proofs
set_option linter.unusedSimpArgs false
set_option linter.unusedVariables false
attribute [local irreducible] Ap Rq asemC WP RunD Ret Gq thenA inBlockA bodyQ noGotoA RqL RqP OpP
set_option maxHeartbeats 4000000
set_option maxRecDepth 20000
attribute [local simp] AV.cells
end Go.Lg

namespace Go.Lg
def initU (g : Gram) : List Bool := (nob g.nonterms.length).set g.start.toNat true
theorem initU_len (g : Gram) : (initU g).length = g.nonterms.length := by simp [initU, nob]
def UnderU (g : Gram) (is out : List Bool) : Prop := leB (initU g) out ∧ ∀ S : List Bool, leB (initU g) S → leB (stepU g is S) S → leB out S
theorem UnderU.len {g : Gram} {is out : List Bool} (h : UnderU g is out) : out.length = g.nonterms.length := by rw [← h.1.1, initU_len]
theorem UnderU.set {g : Gram} {is out : List Bool} (hv : GVal g) (h : UnderU g is out) {r : Rul} (hr : r ∈ g.rules) (h1 : nth out r.head.toNat = true) (h2 : r.body.all (okSym is) = true) {x : Int} (hx : x ∈ r.body) (h0 : x < 0) : UnderU g is (out.set (-1 - x).toNat true) := by
  refine ⟨h.1.trans leB_set_up, fun S hS hc => leB_set (h.2 S hS hc) ?_⟩
  have hn : S.length = g.nonterms.length := by rw [← hS.1, initU_len]
  exact stepU_closes hc hr ((h.2 S hS hc).2 _ h1) h2 hx h0 (by rw [hn]; exact (hv.rule r hr).lo x hx)
def ClosedU (is out : List Bool) (r : Rul) : Prop := nth out r.head.toNat = true → r.body.all (okSym is) = true → ∀ x, x ∈ r.body → x < 0 → nth out (-1 - x).toNat = true
theorem UnderU.eq {g : Gram} {is out : List Bool} (h : UnderU g is out) (hc : ∀ r, r ∈ g.rules → ClosedU is out r) : out = usefulG g is :=
  (lfpB_eq (stepU_mono g is _) (initU_len g) h.1 (stepU_closed hc) (fun S h1 h2 => h.2 S h1 h2)).symm
structure MidU (g : Gram) (is out o : List Bool) (mo : Bool) (i : Nat) : Prop where
  u : UnderU g is o
  hi : i ≤ g.rules.length
  t : mo = true → falses o < falses out
  f : mo = false → o = out ∧ ∀ j, j < i → ClosedU is out (nth g.rules j)
structure InU (g : Gram) (is out o p : List Bool) (mo mp : Bool) (i k : Nat) : Prop where
  u : UnderU g is p
  hk : k ≤ (nth g.rules i).body.length
  le : leB o p
  t : mp = true → falses p < falses out
  f : mp = false → mo = false ∧ p = o ∧ ∀ j, j < k → nth (nth g.rules i).body j < 0 → nth p (-1 - nth (nth g.rules i).body j).toNat = true
section
variable {g : Gram} {is out o p : List Bool} {mo mp : Bool} {i k : Nat}
theorem MidU.start (h : UnderU g is out) : MidU g is out out false 0 := ⟨h, Nat.zero_le _, by simp, by simp⟩
theorem MidU.fo (h : MidU g is out o mo i) : falses o ≤ falses out := by
  cases mo with
  | true => have := h.t rfl; omega
  | false => rw [(h.f rfl).1]; exact Nat.le_refl _
theorem MidU.skip (h : MidU g is out o mo i) (hi : i < g.rules.length) (hc : nth o (nth g.rules i).head.toNat = false ∨ (nth g.rules i).body.all (okSym is) = false) : MidU g is out o mo (i + 1) :=
  ⟨h.u, hi, h.t, fun hm => ⟨(h.f hm).1, fun j hj => by
    by_cases e : j = i
    · subst e
      intro h1 h2
      rw [(h.f hm).1] at hc
      rcases hc with hc | hc
      · rw [hc] at h1; cases h1
      · rw [hc] at h2; cases h2
    · exact (h.f hm).2 j (by omega)⟩⟩
theorem InU.start (h : MidU g is out o mo i) : InU g is out o o mo mo i 0 := ⟨h.u, Nat.zero_le _, .refl _, h.t, fun hm => ⟨hm, rfl, by simp⟩⟩
theorem InU.set (hv : GVal g) (h : InU g is out o p mo mp i k) (hi : i < g.rules.length) (hm : MidU g is out o mo i) (h1 : nth o (nth g.rules i).head.toNat = true) (h2 : (nth g.rules i).body.all (okSym is) = true) (hk : k < (nth g.rules i).body.length) (h0 : nth (nth g.rules i).body k < 0) (hn : nth p (-1 - nth (nth g.rules i).body k).toNat = false) :
    InU g is out o (p.set (-1 - nth (nth g.rules i).body k).toNat true) mo true i (k + 1) := by
  refine ⟨h.u.set hv (nth_mem hi) (h.le.2 _ h1) h2 (nth_mem hk) h0, hk, h.le.trans leB_set_up, fun _ => ?_, by simp⟩
  have hlo := (hv.rule _ (nth_mem hi)).lo _ (nth_mem hk)
  have := falses_set (l := p) (i := (-1 - nth (nth g.rules i).body k).toNat) (by rw [h.u.len]; omega) hn
  have h3 := falses_mono h.le
  have h4 := hm.fo
  omega
theorem InU.skip (h : InU g is out o p mo mp i k) (hk : k < (nth g.rules i).body.length) (hc : 0 ≤ nth (nth g.rules i).body k ∨ nth p (-1 - nth (nth g.rules i).body k).toNat = true) : InU g is out o p mo mp i (k + 1) :=
  ⟨h.u, hk, h.le, h.t, fun hm => ⟨(h.f hm).1, (h.f hm).2.1, fun j hj h0 => by
    by_cases e : j = k
    · subst e; rcases hc with hc | hc
      · omega
      · exact hc
    · exact (h.f hm).2.2 j (by omega) h0⟩⟩
end
end Go.Lg

namespace Go.Lg
open Go.Proofs
set_option linter.unusedSimpArgs false
set_option linter.unusedVariables false
attribute [local irreducible] Ap Rq asemC WP RunD Ret Gq thenA inBlockA bodyQ noGotoA RqL RqP OpP
set_option maxHeartbeats 4000000
end Go.Lg

namespace Go.Lg
open Go.Proofs
set_option linter.unusedSimpArgs false
set_option linter.unusedVariables false
attribute [local irreducible] Ap Rq asemC WP RunD Ret Gq thenA inBlockA bodyQ noGotoA RqL RqP OpP
set_option maxHeartbeats 1000000
end Go.Lg

namespace Go.Lg
open Go.Proofs
set_option linter.unusedSimpArgs false
set_option linter.unusedVariables false
attribute [local irreducible] Ap Rq asemC WP RunD Ret Gq thenA inBlockA bodyQ noGotoA RqL RqP OpP
set_option maxHeartbeats 4000000
end Go.Lg

namespace Go.Lg
open Go.Proofs
set_option linter.unusedSimpArgs false
set_option linter.unusedVariables false
attribute [local irreducible] Ap Rq asemC WP RunD Ret Gq thenA inBlockA bodyQ noGotoA RqL RqP OpP
set_option maxHeartbeats 4000000
def objH (n : Nat) (out : List Bool) : List AObj := [.arr 1 [.ref 1 1 0 n], .arr 1 (out.map boolA), .arr 1 [boolA true]]
@[simp] theorem objH_len (n : Nat) (out : List Bool) : (objH n out).length = 3 := rfl
def yesB (n : Nat) : List Bool := List.replicate n true
def objR (n : Nat) (out : List Bool) : List AObj := [.arr 1 [.ref 1 1 0 n], .arr 1 (out.map boolA)]
@[simp] theorem objR_len (n : Nat) (out : List Bool) : (objR n out).length = 2 := rfl
structure StepR (g : Gram) (r : Rul) (out out' : List Bool) (ch : Bool) : Prop where
  len : out'.length = out.length
  u : UnderU g (yesB g.nonterms.length) out → UnderU g (yesB g.nonterms.length) out'
  le : leB out out'
  t : ch = true → falses out' < falses out
  f : ch = false → out' = out ∧ ClosedU (yesB g.nonterms.length) out r
structure StepK (g : Gram) (r : Rul) (out o : List Bool) (ch : Bool) (k : Nat) : Prop where
  hk : k ≤ r.body.length
  u : UnderU g (yesB g.nonterms.length) out → UnderU g (yesB g.nonterms.length) o
  le : leB out o
  h : nth out r.head.toNat = false → o = out ∧ ch = false
  t : ch = true → falses o < falses out
  f : ch = false → o = out ∧ (nth out r.head.toNat = true → ∀ j, j < k → nth r.body j < 0 → nth out (-1 - nth r.body j).toNat = true)
end Go.Lg

namespace Go.Lg
open Go.Proofs
set_option linter.unusedSimpArgs false
set_option linter.unusedVariables false
attribute [local irreducible] Ap Rq asemC WP RunD Ret Gq thenA inBlockA bodyQ noGotoA RqL RqP OpP
set_option maxHeartbeats 4000000
end Go.Lg

namespace Go.Lg
open Go.Proofs
set_option linter.unusedSimpArgs false
set_option linter.unusedVariables false
attribute [local irreducible] Ap Rq asemC WP RunD Ret Gq thenA inBlockA bodyQ noGotoA RqL RqP OpP
set_option maxHeartbeats 4000000
set_option maxRecDepth 20000
attribute [local simp] AV.cells rdT
def parseTA (x : Tre × Int × Int) : AV := .tup [treA x.1, intA x.2.1, intA x.2.2]
end Go.Lg

namespace Go.Lg
open Go.Proofs
set_option linter.unusedSimpArgs false
set_option linter.unusedVariables false
attribute [local irreducible] Ap Rq asemC WP RunD Ret Gq thenA inBlockA bodyQ noGotoA RqL RqP OpP
set_option maxHeartbeats 4000000
set_option maxRecDepth 20000
attribute [local simp] AV.cells
@[simp] theorem bd_parseTA (n : Nat) (x : Tre × Int × Int) : (parseTA x).bd n = true := by simp [parseTA, AV.bd, bdL]
end Go.Lg

namespace Go.Lg
open Go.Proofs
set_option linter.unusedSimpArgs false
set_option linter.unusedVariables false
attribute [local irreducible] Ap Rq asemC WP RunD Ret Gq thenA inBlockA bodyQ noGotoA RqL RqP OpP
set_option maxHeartbeats 8000000
set_option maxRecDepth 20000
attribute [local simp] AV.cells
def ext : Tre := .mk 0 0 [.mk (-1) 0 [], .mk 1 0 [], .mk (-1) 1 []]
end Go.Lg

namespace Go.Lg
open Go.Proofs
set_option linter.unusedSimpArgs false
set_option linter.unusedVariables false
attribute [local irreducible] Ap Rq asemC WP RunD Ret Gq thenA inBlockA bodyQ noGotoA RqL RqP OpP
set_option maxHeartbeats 8000000
set_option maxRecDepth 20000
attribute [local simp] AV.cells
end Go.Lg

namespace Go.Lg
open Go.Proofs
set_option linter.unusedSimpArgs false
set_option linter.unusedVariables false
attribute [local irreducible] Ap Rq asemC WP RunD Ret Gq thenA inBlockA bodyQ noGotoA RqL RqP OpP
set_option maxHeartbeats 8000000
set_option maxRecDepth 20000
attribute [local simp] AV.cells
end Go.Lg

namespace Go.Lg
def jX := @wpl_end
end Go.Lg

namespace Go.Lg
open Go.Proofs
set_option linter.unusedSimpArgs false
set_option linter.unusedVariables false
attribute [local irreducible] Ap Rq asemC WP RunD Ret Gq thenA inBlockA bodyQ noGotoA RqL RqP OpP
set_option maxHeartbeats 8000000
set_option maxRecDepth 20000
attribute [local simp] AV.cells
theorem pstrat_fn (g : Gram) (l : List GLe) (hf : FewL l) : Fn Tryd.prog 14 [gramA g, levelsA l] (stratA (stratR g l)) := by
  by_cases h : checkG g l = 0
  · exact pstrat_yes l hf h
  · exact pstrat_no l hf h
def exg20 : Gram := ⟨[⟨#[112, 108, 117, 115]⟩, ⟨#[116, 105, 109, 101, 115]⟩, ⟨#[110, 117, 109]⟩], [⟨#[69]⟩], 0, [⟨0, [-1, 0, -1], 0⟩, ⟨0, [-1, 1, -1], 0⟩, ⟨0, [2], 0⟩]⟩
def exl20 : List GLe := [⟨1, [⟨#[112, 108, 117, 115]⟩]⟩, ⟨1, [⟨#[116, 105, 109, 101, 115]⟩]⟩]
def exw20 : Gram := ⟨[⟨#[112, 108, 117, 115]⟩, ⟨#[116, 105, 109, 101, 115]⟩, ⟨#[110, 117, 109]⟩], [⟨#[69]⟩, ⟨#[69, 64, 50]⟩, ⟨#[69, 64, 51]⟩], 0, [⟨0, [-1, 0, -2], 0⟩, ⟨1, [-2, 1, -3], 0⟩, ⟨2, [2], 0⟩, ⟨0, [-2], 0⟩, ⟨1, [-3], 0⟩]⟩
def exm20 : List GLe := [⟨1, [⟨#[109, 105, 110, 117, 115]⟩]⟩]
def exn20 : List GLe := [⟨1, [⟨#[110, 117, 109]⟩]⟩]
theorem few_ex (l : List GLe) (h : (decide (l.length ≤ 10) && l.all fun x => decide (x.tokens.length ≤ 10)) = true) : FewL l := by
  simp only [Bool.and_eq_true, decide_eq_true_eq, List.all_eq_true] at h
  exact ⟨h.1, h.2⟩
theorem ex_check : checkG exg20 exl20 = 0 := by decide +kernel
theorem ex_use : useL exg20 exl20 0 = [0, 1] := by decide +kernel
theorem ex_rules : exg20.rules.map (ruleS exg20 exl20) ++ unitsS exg20 exl20 1 = exw20.rules := by decide +kernel
theorem ex_nams : namsG exg20 exl20 1 = exw20.nonterms := by
  unfold namsG
  rw [show List.range 1 = [0] from rfl, List.map_cons, List.map_nil]
  unfold namG
  rw [ex_use]
  show _ ++ [[nth exg20.nonterms 0 ++ ⟨#[64]⟩ ++ tx (Lib.itoa ((0 + 2 : Nat) : Int)), nth exg20.nonterms 0 ++ ⟨#[64]⟩ ++ tx (Lib.itoa ((1 + 2 : Nat) : Int))]].flatten = _
  rw [itoa_nat, itoa_nat, dd_lt (by decide), dd_lt (by decide)]
  rfl
theorem ex_strat : stratR exg20 exl20 = (exw20, [0, 1, 2, -1, -1], 0) := by
  have h1 : stratG exg20 exl20 = exw20 := by
    unfold stratG
    rw [show exg20.nonterms.length = 1 from rfl, ex_nams, ex_rules]
    rfl
  have h2 : fromG exg20 exl20 = [0, 1, 2, -1, -1] := by decide +kernel
  unfold stratR
  rw [if_pos ex_check, h1, h2, if_pos (by decide +kernel)]
theorem example20_fn : Fn Tryd.prog 26 [] (.tup [gramA exg20, levelsA exl20]) := by
  refine Fn.intro rfl (by kernel_rfl) Tryd.func26 rfl rfl Tryd.ntmps26 (by exact Nat.le_of_ble_eq_true rfl) ?_; intro Γ hm
  (repeat' (first | apply jA | apply jH | apply jK | apply jS | (refine WP.regionC (id := 0) ?_; (refine se_alloc rfl ?_); (refine sassign rfl ?_); apply jW) | (refine wpl_region (id := 1) ?_; (refine wpl_step rfl ?_); (refine se_lit (OpP.cons rfl (OpP.cons rfl (OpP.cons rfl (OpP.nil)))) rfl rfl rfl rfl rfl rfl ?_); (apply jW); (refine wpl_frz 3 hm rfl rfl (by first | exact rfl | fail) (by first | exact rfl | fail) rfl ?_); (refine wpl_step rfl ?_); (refine se_lit (OpP.cons rfl (OpP.nil)) rfl rfl rfl rfl rfl rfl ?_); (apply jW); (refine wpl_frz 4 hm rfl rfl (by first | exact rfl | fail) (by first | exact rfl | fail) rfl ?_); (refine wpl_step rfl ?_); (refine se_lit (OpP.cons rfl (OpP.cons rfl (OpP.cons rfl (OpP.nil)))) rfl rfl rfl rfl rfl rfl ?_); (apply jW); (refine wpl_frz 5 hm rfl rfl (by first | exact rfl | fail) (by first | exact rfl | fail) rfl ?_); (refine wpl_step rfl ?_); (refine su (ap_build (RqP.cons (rq_p rfl rfl) (RqP.nil)) rfl) ?_); (apply jW); (refine wpl_step rfl ?_); (refine se_lit (OpP.cons rfl (OpP.cons rfl (OpP.cons rfl (OpP.nil)))) rfl rfl rfl rfl rfl rfl ?_); (apply jW); (refine wpl_frz 7 hm rfl rfl (by first | exact rfl | fail) (by first | exact rfl | fail) rfl ?_); (refine wpl_step rfl ?_); (refine su (ap_build (RqP.cons (rq_p rfl rfl) (RqP.nil)) rfl) ?_); (apply jW); (refine wpl_step rfl ?_); (refine se_lit (OpP.cons rfl (OpP.nil)) rfl rfl rfl rfl rfl rfl ?_); (apply jW); (refine wpl_frz 9 hm rfl rfl (by first | exact rfl | fail) (by first | exact rfl | fail) rfl ?_); (refine wpl_step rfl ?_); (refine su (ap_build (RqP.cons (rq_p rfl rfl) (RqP.nil)) rfl) ?_); (apply jW); (refine wpl_step rfl ?_); (refine se_lit (OpP.cons rfl (OpP.cons rfl (OpP.cons rfl (OpP.nil)))) rfl rfl rfl rfl rfl rfl ?_); (apply jW); (refine wpl_frz 11 hm rfl rfl (by first | exact rfl | fail) (by first | exact rfl | fail) rfl ?_); (refine wpl_step rfl ?_); (refine su (ap_build (RqP.cons (rq_p rfl rfl) (RqP.cons (rq_p rfl rfl) (RqP.cons (rq_p rfl rfl) (RqP.nil)))) rfl) ?_); (apply jW); (refine wpl_step rfl ?_); (refine se_alloc rfl ?_); (apply jW); (refine wpl_step rfl ?_); (refine se_store_b rfl rfl rfl rfl ?_); (apply jW); (apply jX)) | (refine wpl_region (id := 2) ?_; (refine wpl_step rfl ?_); (refine sloadpw rfl rfl rfl rfl ?_); (apply jW); (refine wpl_step rfl ?_); (refine se_lit (OpP.cons rfl (OpP.nil)) rfl rfl rfl rfl rfl rfl ?_); (apply jW); (refine wpl_frz 14 hm rfl rfl (by first | exact rfl | fail) (by first | exact rfl | fail) rfl ?_); (refine wpl_step rfl ?_); (refine su (ap_build (RqP.cons (rq_p rfl rfl) (RqP.cons (rq_p rfl rfl) (RqP.nil))) rfl) ?_); (apply jW); (refine wpl_step rfl ?_); (refine se_lit (OpP.cons rfl (OpP.nil)) rfl rfl rfl rfl rfl rfl ?_); (apply jW); (refine wpl_frz 16 hm rfl rfl (by first | exact rfl | fail) (by first | exact rfl | fail) rfl ?_); (refine wpl_step rfl ?_); (refine su (ap_build (RqP.cons (rq_p rfl rfl) (RqP.cons (rq_p rfl rfl) (RqP.nil))) rfl) ?_); (apply jW); (refine wpl_step rfl ?_); (refine se_lit (OpP.cons rfl (OpP.cons rfl (OpP.nil))) rfl rfl rfl rfl rfl rfl ?_); (apply jW); (refine wpl_frz 18 hm rfl rfl (by first | exact rfl | fail) (by first | exact rfl | fail) rfl ?_); (refine wpl_step rfl ?_); (refine se_store_b rfl rfl rfl rfl ?_); (apply jW); (refine wpl_step rfl ?_); (refine sassign rfl ?_); (apply jW); (apply jX))))
  exact ret_many (.cellT rfl rfl rfl rfl (.tmp rfl .nil)) (Nat.le_of_ble_eq_true rfl) (by first | ((repeat' first | exact FzL.nil | refine FzL.cons ?_ ?_ | (exact Fz.reflp (by simp [AV.bd, bdL, bdL_append]))); done) | fail)
theorem awake20_fn : Fn Tryd.prog 11 [] (boolA true) := by
  have hex := example20_fn
  have hst := pstrat_fn exg20 exl20 (few_ex _ (by decide +kernel))
  rw [ex_strat] at hst
  have hc1 := pcheck_fn exg20 exm20 (few_ex _ (by decide +kernel))
  rw [show checkG exg20 exm20 = 4 by decide +kernel] at hc1
  have hc2 := pcheck_fn exg20 exn20 (few_ex _ (by decide +kernel))
  rw [show checkG exg20 exn20 = 14 by decide +kernel] at hc2
  have hc3 := pcheck_fn exg20 exl20 (few_ex _ (by decide +kernel))
  rw [ex_check] at hc3
  have heq := requal18_fn exw20 exw20
  have hsm := same20_fn [0, 1, 2, -1, -1] [0, 1, 2, -1, -1]
  rw [decide_eq_true rfl] at hsm
  unfold stratA at hst
  simp only at hst
  refine Fn.intro rfl (by kernel_rfl) Tryd.func11 rfl rfl Tryd.ntmps11 (by exact Nat.le_of_ble_eq_true rfl) ?_; intro Γ hm
  (repeat' (first | apply jA | apply jH | (refine WP.regionC (id := 0) ?_; (refine sassign rfl ?_); apply jW) | (refine WP.regionC (id := 1) ?_; (refine sc_p rfl rfl (by first | ((repeat' (exact SubL.nil)); done) | fail) (by first | (simp [bdL, bdL_append, AV.bd]; done) | fail) (hex) ?_); (refine smove rfl ?_); (refine su (aextract rfl rfl) ?_); (refine su (aextract rfl rfl) ?_); (refine se_alloc rfl ?_); (refine se_store_b rfl rfl rfl rfl ?_); (refine sassign rfl ?_); apply jW) | (refine WP.regionC (id := 2) ?_; (refine sloadpw rfl rfl rfl rfl ?_); (refine smove rfl ?_); (refine sc_p rfl rfl (by first | ((repeat' first | exact SubL.nil | refine SubL.cons ?_ ?_ | exact Sub.refl); done) | fail) (by first | (simp [bdL, bdL_append, AV.bd]; done) | fail) (hst) ?_); (refine smove rfl ?_); (refine su (aextract rfl rfl) ?_); (refine su (aextract rfl rfl) ?_); (refine su (aextract rfl rfl) ?_); (refine se_alloc rfl ?_); (refine se_store_b rfl rfl rfl rfl ?_); (refine sassign rfl ?_); (refine sassign rfl ?_); apply jW) | (refine wpl_region (id := 3) ?_; (refine wpl_step rfl ?_); (refine sfieldp rfl rfl rfl ?_); (apply jW); (refine wpl_step rfl ?_); (refine sloadp rfl rfl rfl rfl ?_); (apply jW); (refine wpl_step rfl ?_); (refine se_lit (OpP.cons rfl (OpP.cons rfl (OpP.cons rfl (OpP.nil)))) rfl rfl rfl rfl rfl rfl ?_); (apply jW); (refine wpl_frz 22 hm rfl rfl (by first | exact rfl | fail) (by first | exact rfl | fail) rfl ?_); (refine wpl_step rfl ?_); (refine se_lit (OpP.cons rfl (OpP.cons rfl (OpP.cons rfl (OpP.nil)))) rfl rfl rfl rfl rfl rfl ?_); (apply jW); (refine wpl_frz 23 hm rfl rfl (by first | exact rfl | fail) (by first | exact rfl | fail) rfl ?_); (refine wpl_step rfl ?_); (refine su (ap_build (RqP.cons (rq_p rfl rfl) (RqP.cons (rq_p rfl rfl) (RqP.nil))) rfl) ?_); (apply jW); (refine wpl_step rfl ?_); (refine se_lit (OpP.cons rfl (OpP.cons rfl (OpP.cons rfl (OpP.nil)))) rfl rfl rfl rfl rfl rfl ?_); (apply jW); (refine wpl_frz 25 hm rfl rfl (by first | exact rfl | fail) (by first | exact rfl | fail) rfl ?_); (refine wpl_step rfl ?_); (refine su (ap_build (RqP.cons (rq_p rfl rfl) (RqP.cons (rq_p rfl rfl) (RqP.nil))) rfl) ?_); (apply jW); (refine wpl_step rfl ?_); (refine se_lit (OpP.cons rfl (OpP.nil)) rfl rfl rfl rfl rfl rfl ?_); (apply jW); (refine wpl_frz 27 hm rfl rfl (by first | exact rfl | fail) (by first | exact rfl | fail) rfl ?_); (refine wpl_step rfl ?_); (refine su (ap_build (RqP.cons (rq_p rfl rfl) (RqP.cons (rq_p rfl rfl) (RqP.nil))) rfl) ?_); (apply jW); (refine wpl_step rfl ?_); (refine se_lit (OpP.cons rfl (OpP.nil)) rfl rfl rfl rfl rfl rfl ?_); (apply jW); (refine wpl_frz 29 hm rfl rfl (by first | exact rfl | fail) (by first | exact rfl | fail) rfl ?_); (refine wpl_step rfl ?_); (refine su (ap_build (RqP.cons (rq_p rfl rfl) (RqP.cons (rq_p rfl rfl) (RqP.nil))) rfl) ?_); (apply jW); (refine wpl_step rfl ?_); (refine se_lit (OpP.cons rfl (OpP.nil)) rfl rfl rfl rfl rfl rfl ?_); (apply jW); (refine wpl_frz 31 hm rfl rfl (by first | exact rfl | fail) (by first | exact rfl | fail) rfl ?_); (refine wpl_step rfl ?_); (refine su (ap_build (RqP.cons (rq_p rfl rfl) (RqP.cons (rq_p rfl rfl) (RqP.nil))) rfl) ?_); (apply jW); (refine wpl_step rfl ?_); (refine se_lit (OpP.cons rfl (OpP.cons rfl (OpP.cons rfl (OpP.cons rfl (OpP.cons rfl (OpP.nil)))))) rfl rfl rfl rfl rfl rfl ?_); (apply jW); (refine wpl_frz 33 hm rfl rfl (by first | exact rfl | fail) (by first | exact rfl | fail) rfl ?_); (refine wpl_step rfl ?_); (refine su (ap_build (RqP.cons (rq_p rfl rfl) (RqP.cons (rq_p rfl rfl) (RqP.cons (rq_p rfl rfl) (RqP.nil)))) rfl) ?_); (apply jW); (refine wpl_step rfl ?_); (refine se_alloc rfl ?_); (apply jW); (refine wpl_step rfl ?_); (refine se_store_b rfl rfl rfl rfl ?_); (apply jW); (apply jX))))
  refine wp_st (S 71 [(1, .ptr 0 4 0 0), (2, levelsA exl20), (3, .ptr 1 4 0 0), (4, intsA [0, 1, 2, -1, -1]), (5, intA 0), (6, .ptr 2 4 0 0)] 3 [(0, some (.arr 4 [gramA exg20])), (1, some (.arr 4 [gramA exw20])), (2, some (.arr 4 [gramA exw20]))]) ⟨[0, 1, 9], ToR.S rfl (by repeat' (first | exact rt_nil | refine rt_t rfl rfl ?_ | refine rt_e rfl rfl ?_)) (by repeat' (first | exact ro_nil | refine ro_e rfl rfl ?_)) rfl (by (rw [hm]; exact rfl)) rfl (by (simp [bdT, AV.bd, bdL, bdL_append]; done)) (by repeat' (first | exact True.intro | exact rfl | refine And.intro ?_ ?_)) (by (rw [hm]; exact Nat.le_of_ble_eq_true rfl))⟩ ?_
  (repeat' (first | apply jA | apply jH | (refine wpl_region (id := 4) ?_; (refine wpl_step rfl ?_); (refine sloadpw rfl rfl rfl rfl ?_); (apply jW); (refine wpl_step rfl ?_); (refine se_lit (OpP.cons rfl (OpP.nil)) rfl rfl rfl rfl rfl rfl ?_); (apply jW); (refine wpl_frz 36 hm rfl rfl (by first | exact rfl | fail) (by first | exact rfl | fail) rfl ?_); (refine wpl_step rfl ?_); (refine su (ap_build (RqP.cons (rq_p rfl rfl) (RqP.cons (rq_p rfl rfl) (RqP.nil))) rfl) ?_); (apply jW); (refine wpl_step rfl ?_); (refine se_lit (OpP.cons rfl (OpP.nil)) rfl rfl rfl rfl rfl rfl ?_); (apply jW); (refine wpl_frz 38 hm rfl rfl (by first | exact rfl | fail) (by first | exact rfl | fail) rfl ?_); (refine wpl_step rfl ?_); (refine sc_p rfl rfl (by first | ((repeat' first | exact SubL.nil | refine SubL.cons ?_ ?_ | exact Sub.refl); done) | fail) (by first | (simp [bdL, bdL_append, AV.bd]; done) | fail) (hc1) ?_); (apply jW); (refine wpl_step rfl ?_); (refine sassign rfl ?_); (apply jW); (apply jX)) | (refine wpl_region (id := 5) ?_; (refine wpl_step rfl ?_); (refine sloadpw rfl rfl rfl rfl ?_); (apply jW); (refine wpl_step rfl ?_); (refine se_lit (OpP.cons rfl (OpP.nil)) rfl rfl rfl rfl rfl rfl ?_); (apply jW); (refine wpl_frz 41 hm rfl rfl (by first | exact rfl | fail) (by first | exact rfl | fail) rfl ?_); (refine wpl_step rfl ?_); (refine su (ap_build (RqP.cons (rq_p rfl rfl) (RqP.cons (rq_p rfl rfl) (RqP.nil))) rfl) ?_); (apply jW); (refine wpl_step rfl ?_); (refine se_lit (OpP.cons rfl (OpP.nil)) rfl rfl rfl rfl rfl rfl ?_); (apply jW); (refine wpl_frz 43 hm rfl rfl (by first | exact rfl | fail) (by first | exact rfl | fail) rfl ?_); (refine wpl_step rfl ?_); (refine sc_p rfl rfl (by first | ((repeat' first | exact SubL.nil | refine SubL.cons ?_ ?_ | exact Sub.refl); done) | fail) (by first | (simp [bdL, bdL_append, AV.bd]; done) | fail) (hc2) ?_); (apply jW); (refine wpl_step rfl ?_); (refine sassign rfl ?_); (apply jW); (apply jX))))
  (repeat' (first | apply jH | apply jK | apply jS | (refine WP.regionC (id := 6) ?_ <;> (refine smove rfl ?_) <;> (refine seql rfl rfl ?_) <;> (refine smove rfl ?_) <;> (refine sg (gq_vt rfl rfl) (fun he => ap_load_pw (rq_p rfl rfl) rfl rfl rfl) ?_) <;> (refine sg (gq_vt rfl rfl) (fun he => ap_load_pw (rq_p rfl rfl) rfl rfl rfl) ?_) <;> (refine sg_p (gq_vt rfl rfl) (fun he => ⟨(rq_p rfl rfl), (RqL.cons (rq_c rfl rfl) (RqL.cons (rq_c rfl rfl) (RqL.nil))), (by first | ((repeat' first | exact SubL.nil | refine SubL.cons ?_ ?_ | exact Sub.refl); done) | fail), (by first | (simp [bdL, bdL_append, AV.bd]; done) | fail), requal18_fn _ _⟩) ?_) <;> (refine su (ap_and (rq_p rfl rfl) (rq_c rfl rfl)) ?_) <;> (refine smove rfl ?_) <;> (refine sg (gq_vt rfl rfl) (fun he => ap_move (rq_p rfl rfl)) ?_) <;> (refine sgt_lit rfl rfl rfl (OpP.cons rfl (OpP.cons rfl (OpP.cons rfl (OpP.cons rfl (OpP.cons rfl (OpP.nil)))))) rfl rfl rfl rfl rfl rfl ?_) <;> (refine sg_b (gq_vt rfl rfl) (fun he => ⟨(rq_p rfl rfl), (RqL.cons (rq_c rfl rfl) (RqL.cons (rq_p rfl rfl) (RqL.nil))), (by first | ((repeat' first | exact FzL.nil | refine FzL.cons ?_ ?_ | (exact Fz.list rfl rfl (fun _ => by simp [AV.bd, bdL, bdL_append]) (fun _ => rfl)) | (exact Fz.reflp (by simp [AV.bd, bdL, bdL_append]))); done) | fail), hsm, rfl⟩) ?_) <;> (refine su (ap_and (rq_p rfl rfl) (rq_c rfl rfl)) ?_) <;> (refine smove rfl ?_) <;> (refine sg (gq_vt rfl rfl) (fun he => ap_move (rq_p rfl rfl)) ?_) <;> (refine sg (gq_vt rfl rfl) (fun he => ap_eql (rq_c rfl rfl) (rq_p rfl rfl)) ?_) <;> (refine su (ap_and (rq_p rfl rfl) (rq_c rfl rfl)) ?_) <;> (refine smove rfl ?_) <;> (refine sg (gq_vt rfl rfl) (fun he => ap_move (rq_p rfl rfl)) ?_) <;> (refine sg (gq_vt rfl rfl) (fun he => ap_eql (rq_c rfl rfl) (rq_p rfl rfl)) ?_) <;> (refine su (ap_and (rq_p rfl rfl) (rq_c rfl rfl)) ?_) <;> (refine smove rfl ?_) <;> (refine sg (gq_vt rfl rfl) (fun he => ap_load_pw (rq_p rfl rfl) rfl rfl rfl) ?_) <;> (refine sg (gq_vt rfl rfl) (fun he => ap_move (rq_p rfl rfl)) ?_) <;> (refine sg_p (gq_vt rfl rfl) (fun he => ⟨(rq_p rfl rfl), (RqL.cons (rq_c rfl rfl) (RqL.cons (rq_c rfl rfl) (RqL.nil))), (by first | ((repeat' first | exact SubL.nil | refine SubL.cons ?_ ?_ | exact Sub.refl); done) | fail), (by first | (simp [bdL, bdL_append, AV.bd]; done) | fail), hc3⟩) ?_) <;> (refine sg (gq_vt rfl rfl) (fun he => ap_eql (rq_c rfl rfl) (rq_p rfl rfl)) ?_) <;> (refine su (ap_and (rq_p rfl rfl) (rq_c rfl rfl)) ?_) <;> (refine sassign rfl ?_) <;> apply jW) | exact ret_eq rfl rfl rfl))
  all_goals (rfl)
end Go.Lg

namespace Go.Lg
theorem old_same {g : Gram} {l : List GLe} (hv : GVal g) {i : Nat} (hi : i < g.rules.length) : (nth (stratG g l).rules i).price = (nth g.rules i).price ∧ (nth (stratG g l).rules i).body.length = (nth g.rules i).body.length ∧
    ∀ k, k < (nth g.rules i).body.length → (0 ≤ nth (nth g.rules i).body k → nth (nth (stratG g l).rules i).body k = nth (nth g.rules i).body k) ∧ (nth (nth g.rules i).body k < 0 → nth (nth (stratG g l).rules i).body k < 0) := by
  rw [strat_old hi]
  obtain ⟨_, f2, f3, f4⟩ := ruleS_fit (l := l) hv (nth_mem hi)
  refine ⟨f2, f3, fun k hk => ?_⟩
  have hr := f4 k hk
  rcases hr with ⟨h1, h2⟩ | ⟨h1, _, h3⟩
  · exact ⟨fun _ => h2, fun h => by omega⟩
  · refine ⟨fun h => by omega, fun _ => ?_⟩
    rw [mem_chn] at h3
    have := offN_le g l (-1 - nth (nth g.rules i).body k).toNat
    omega
theorem new_unit {g : Gram} {l : List GLe} {i : Nat} (h1 : g.rules.length ≤ i) (h2 : i < (stratG g l).rules.length) : (nth (stratG g l).rules i).price = 0 ∧ (nth (stratG g l).rules i).body.length = 1 ∧ nth (nth (stratG g l).rules i).body 0 < 0 := by
  obtain ⟨e, j, _, hj, hq⟩ := strat_unit (g := g) (l := l) h1 h2
  rw [hq]
  have := chn_at_mem (g := g) (l := l) (e := e) (i := j + 1) (by omega)
  rw [mem_chn] at this
  have := offN_le g l e
  refine ⟨rfl, rfl, ?_⟩
  show -1 - nth (chnG g l e) (j + 1) < 0
  omega
end Go.Lg

namespace Go.Lg
open Go.Proofs
set_option linter.unusedSimpArgs false
set_option linter.unusedVariables false
attribute [local irreducible] Ap Rq asemC WP RunD Ret Gq thenA inBlockA bodyQ noGotoA RqL RqP OpP
set_option maxHeartbeats 8000000
set_option maxRecDepth 20000
attribute [local simp] AV.cells
theorem law_prules (g : Gram) (l : List GLe) : Fn Tryd.prog 5 [gramA g, levelsA l] (boolA true) := by
  have h1 := few20_fn g l 60 (by decide) (by decide)
  have haw := awake20_fn
  cases hfl : fewG g l 60 with
  | false =>
    rw [hfl] at h1
    refine Fn.intro rfl (by kernel_rfl) Tryd.func5 rfl rfl Tryd.ntmps5 (by exact Nat.le_of_ble_eq_true rfl) ?_; intro Γ hm
    (repeat' (first | apply jA | apply jH | apply jK | apply jM | apply jS | (refine wp_cond rfl (fun hc => ?_) (fun hc => ?_) <;> (try simp only [sB, ne_eq, reduceCtorEq] at hc) <;> (try (exfalso; omega))) | (refine WP.regionC (id := 0) ?_; (refine se_box rfl (by exact ⟨rfl, rfl⟩) ?_); (refine sassign rfl ?_); apply jW) | (refine WP.regionC (id := 1) ?_; (refine sloadpw rfl rfl rfl rfl ?_); (refine smove rfl ?_); (refine sc_p rfl rfl (by first | ((repeat' first | exact SubL.nil | refine SubL.cons ?_ ?_ | exact Sub.refl); done) | fail) (by first | (simp [bdL, bdL_append, AV.bd]; done) | fail) (h1) ?_); (refine su (anot rfl) ?_); apply jW) | (refine WP.regionC (id := 2) ?_; (refine sc_p rfl rfl (by first | ((repeat' (exact SubL.nil)); done) | fail) (by first | (simp [bdL, bdL_append, AV.bd]; done) | fail) (haw) ?_); (refine sassign rfl ?_); apply jW) | exact ret_eq rfl rfl rfl))
    all_goals (rfl)
  | true =>
    rw [hfl] at h1
    have hf := FewL.of hfl
    have hp := pstrat_fn g l hf
    unfold stratA at hp
    by_cases hok : checkG g l = 0 ∧ validG (stratG g l) = true
    · obtain ⟨hc0, hvs⟩ := hok
      have hR : stratR g l = (stratG g l, fromG g l, 0) := by unfold stratR; rw [if_pos hc0, if_pos hvs]
      rw [hR] at hp
      simp only at hp
      have hv := (check_facts hc0).1
      have hvT := validG_iff.1 hvs
      have hvl := rvalid18_fn (stratG g l)
      rw [hvs] at hvl
      have hfl := fromG_len g l
      have hnt : g.nonterms.length ≤ (stratG g l).nonterms.length := by
        show _ ≤ (namsG g l g.nonterms.length).length
        rw [namsG_len]; exact offN_le g l _
      have hst : (stratG g l).start = g.start := rfl
      have hrl : g.rules.length ≤ (stratG g l).rules.length := by simp [stratG]
      have hf1 : ∀ i, i < g.rules.length → nth (fromG g l) i = (i : Int) := fun i hi => by
        unfold fromG
        rw [nth_append, if_pos (by simpa using hi)]
        exact nth_range hi
      have hf2 : ∀ i, g.rules.length ≤ i → i < (fromG g l).length → nth (fromG g l) i = -1 := fun i h1 h2 => by
        unfold fromG at h2 ⊢
        rw [List.length_append, List.length_replicate, List.length_map, List.length_range] at h2
        rw [nth_append, if_neg (by simpa using h1), nth_replicate (by simp; omega)]
      have hold := fun i hi => old_same (l := l) hv (i := i) hi
      have hnew := fun i h1 h2 => new_unit (g := g) (l := l) (i := i) h1 h2
      generalize stratG g l = T at *
      generalize fromG g l = fr at *
      have hr2 := hv.r2
      have hrT := hvT.r2
      refine Fn.intro rfl (by kernel_rfl) Tryd.func5 rfl rfl Tryd.ntmps5 (by exact Nat.le_of_ble_eq_true rfl) ?_; intro Γ hm
      (repeat' (first | apply jA | apply jF | apply jH | apply jI | (refine wp_cond rfl (fun hc => ?_) (fun hc => ?_) <;> (try simp only [sB, ne_eq, reduceCtorEq] at hc) <;> (try (exfalso; omega))) | (refine WP.regionC (id := 0) ?_; (refine se_box rfl (by exact ⟨rfl, rfl⟩) ?_); (refine sassign rfl ?_); apply jW) | (refine WP.regionC (id := 1) ?_; (refine sloadpw rfl rfl rfl rfl ?_); (refine smove rfl ?_); (refine sc_p rfl rfl (by first | ((repeat' first | exact SubL.nil | refine SubL.cons ?_ ?_ | exact Sub.refl); done) | fail) (by first | (simp [bdL, bdL_append, AV.bd]; done) | fail) (h1) ?_); (refine su (anot rfl) ?_); apply jW) | (refine WP.regionC (id := 3) ?_; (refine sloadpw rfl rfl rfl rfl ?_); (refine smove rfl ?_); (refine sc_p rfl rfl (by first | ((repeat' first | exact SubL.nil | refine SubL.cons ?_ ?_ | exact Sub.refl); done) | fail) (by first | (simp [bdL, bdL_append, AV.bd]; done) | fail) (hp) ?_); (refine smove rfl ?_); (refine su (aextract rfl rfl) ?_); (refine su (aextract rfl rfl) ?_); (refine su (aextract rfl rfl) ?_); (refine se_alloc rfl ?_); (refine se_store_b rfl rfl rfl rfl ?_); (refine sassign rfl ?_); (refine sassign rfl ?_); apply jW) | (refine WP.regionC (id := 4) ?_; (refine smove rfl ?_); (refine su (aneq rfl rfl) ?_); apply jW) | (refine WP.regionC (id := 6) ?_; (refine sloadpw rfl rfl rfl rfl ?_); (refine sc_p rfl rfl (by first | ((repeat' first | exact SubL.nil | refine SubL.cons ?_ ?_ | exact Sub.refl); done) | fail) (by first | (simp [bdL, bdL_append, AV.bd]; done) | fail) (rvalid18_fn _) ?_); (refine su (anot rfl) ?_); (refine smove rfl ?_); (refine sg (gq_vf rfl rfl) (fun he => ap_move (rq_p rfl rfl)) ?_); (refine sg (gq_vf rfl rfl) (fun he => ap_len_m rfl (rq_c rfl rfl)) ?_); (refine sg (gq_vf rfl rfl) (fun he => ap_field_p (rq_p rfl rfl) rfl rfl) ?_); (refine sg (gq_vf rfl rfl) (fun he => ap_load_p (rq_c rfl rfl) rfl rfl rfl) ?_); (refine sg (gq_vf rfl rfl) (fun he => ap_len_m rfl (rq_c rfl rfl)) ?_); (refine sg (gq_vf rfl rfl) (fun he => ap_neq (rq_c rfl rfl) (rq_c rfl rfl)) ?_); (refine su (ap_or (rq_p rfl rfl) (rq_c rfl rfl)) ?_); (refine smove rfl ?_); (refine sg (gq_vf rfl rfl) (fun he => ap_field_p (rq_p rfl rfl) rfl rfl) ?_); (refine sg (gq_vf rfl rfl) (fun he => ap_load_p (rq_c rfl rfl) rfl rfl rfl) ?_); (refine sg (gq_vf rfl rfl) (fun he => ap_len_m rfl (rq_c rfl rfl)) ?_); (refine sg (gq_vf rfl rfl) (fun he => ap_field_p (rq_p rfl rfl) rfl rfl) ?_); (refine sg (gq_vf rfl rfl) (fun he => ap_load_p (rq_c rfl rfl) rfl rfl rfl) ?_); (refine sg (gq_vf rfl rfl) (fun he => ap_len_m rfl (rq_c rfl rfl)) ?_); (refine sg (gq_vf rfl rfl) (fun he => ap_lss (rq_c rfl rfl) (rq_c rfl rfl)) ?_); (refine su (ap_or (rq_p rfl rfl) (rq_c rfl rfl)) ?_); (refine smove rfl ?_); (refine sg (gq_vf rfl rfl) (fun he => ap_field_p (rq_p rfl rfl) rfl rfl) ?_); (refine sg (gq_vf rfl rfl) (fun he => ap_load_p (rq_c rfl rfl) rfl rfl rfl) ?_); (refine sg (gq_vf rfl rfl) (fun he => ap_field_p (rq_p rfl rfl) rfl rfl) ?_); (refine sg (gq_vf rfl rfl) (fun he => ap_load_p (rq_c rfl rfl) rfl rfl rfl) ?_); (refine sg (gq_vf rfl rfl) (fun he => ap_neq (rq_c rfl rfl) (rq_c rfl rfl)) ?_); (refine su (ap_or (rq_p rfl rfl) (rq_c rfl rfl)) ?_); apply jW) | (refine WP.regionC ?_; (refine sassign rfl ?_); apply jW)))
      all_goals try (exfalso; simp at hc; done)
      all_goals try (exfalso; simp [hvs] at hc; omega)
      refine wp_loop (fun (i : Nat) => i ≤ fr.length) (fun i => fr.length - i)
        (fun i => (S 191 [(2, .ptr 0 4 0 0), (5, .ptr 1 4 0 0), (6, intsA fr), (8, intA (min i g.rules.length : Nat)), (9, intA (i : Nat))] 2 [(0, some (.arr 4 [gramA g])), (1, some (.arr 4 [gramA T]))])) 0 ⟨[0, 1], ToR.S rfl (by repeat' (first | exact rt_nil | refine rt_t rfl rfl ?_ | refine rt_e rfl rfl ?_ | refine rt_p rfl rfl (by first | (simp [AV.bd, bdL, bdL_append]; done) | fail) ?_)) (by repeat' (first | exact ro_nil | refine ro_p rfl (by first | exact rfl | fail) (by first | (simp [bdL, bdL_append, AV.bd]; done) | fail) ?_)) rfl (by (rw [hm]; exact rfl)) rfl (by (simp [bdT, AV.bd, bdL, bdL_append]; done)) (by repeat' (first | exact True.intro | refine And.intro ?_ ?_ | (simp [bdOq, bdL, bdL_append, AV.bd]; done))) (by (rw [hm]; exact Nat.le_of_ble_eq_true rfl))⟩ (Nat.zero_le _) ?_
      intro i hi
      by_cases hlt : i < fr.length
      · by_cases hig : i < g.rules.length
        · have hi2 := hf1 i hig
          obtain ⟨ho1, ho2, ho3⟩ := hold i hig
          have hbl := (hvT.rule _ (nth_mem (show i < T.rules.length by omega))).len
          rw [Nat.min_eq_left (by omega)]
          (repeat' (first | apply jA | apply jF | apply jH | apply jI | (refine wp_cond rfl (fun hc => ?_) (fun hc => ?_) <;> (try simp only [sB, ne_eq, reduceCtorEq] at hc) <;> (try (exfalso; omega))) | (refine WP.regionC (id := 10) ?_; (refine smove rfl ?_); (refine smove rfl ?_); (refine slenm rfl rfl ?_); (refine slss rfl rfl ?_); apply jW) | (refine WP.regionC (id := 12) ?_; (refine sfieldp rfl rfl rfl ?_); (refine sloadp rfl rfl rfl rfl ?_); (refine smove rfl ?_); (refine sidxn rfl rfl (by omega) ?_); (refine sloadw rfl rfl ?_); (refine se_alloc rfl ?_); (refine se_store_b rfl rfl rfl rfl ?_); apply jW) | (refine WP.regionC (id := 13) ?_; (refine smove rfl ?_); (refine smove rfl ?_); (refine sidxn rfl rfl (by omega) ?_); (refine sloadw rfl rfl ?_); (refine slss rfl rfl ?_); apply jW)))
          all_goals try (exfalso; omega)
          (repeat' (first | apply jA | apply jF | apply jH | apply jI | (refine wp_cond rfl (fun hc => ?_) (fun hc => ?_) <;> (try simp only [sB, ne_eq, reduceCtorEq] at hc) <;> (try (exfalso; omega))) | (refine wp_draw (id := 16) 37 mixed (by kernel_rfl) (by kernel_rfl) rfl ?_ <;> (refine rmove rfl ?_) <;> (refine rmove rfl ?_) <;> (refine rd_u rfl rfl (aidxn rfl rfl (by omega)) ?_) <;> (refine rd_u rfl rfl (aloadw rfl rfl) ?_) <;> (refine rmove rfl ?_) <;> (refine rd_u rfl rfl (aneq rfl rfl) ?_) <;> (refine rmove rfl ?_) <;> ((refine rd_split (t := 111) rfl (fun hc => ?_) (fun hc => ?_) <;> (try simp only [sB, ne_eq, reduceCtorEq] at hc) <;> (try (exfalso; omega)) <;> (refine gmove rfl rfl rfl ?_))) <;> (refine gfieldp rfl rfl rfl rfl rfl ?_) <;> (refine gloadp rfl rfl rfl rfl rfl rfl ?_) <;> (refine rdg_u rfl rfl rfl rfl (alenm rfl rfl) ?_) <;> (refine rdg_u rfl rfl rfl rfl (ageq rfl rfl) ?_) <;> (refine rd_pick_f rfl rfl ?_) <;> (refine rmove rfl ?_) <;> ((refine rd_split (t := 118) rfl (fun hc => ?_) (fun hc => ?_) <;> (try simp only [sB, ne_eq, reduceCtorEq] at hc) <;> (try (exfalso; omega)) <;> (refine gfieldp rfl rfl rfl rfl rfl ?_))) <;> (refine gloadp rfl rfl rfl rfl rfl rfl ?_) <;> (refine gfieldp rfl rfl rfl rfl rfl ?_) <;> (refine gloadp rfl rfl rfl rfl rfl rfl ?_) <;> (refine gmove rfl rfl rfl ?_) <;> (refine rdg_u rfl rfl rfl rfl (aidxn rfl rfl (by omega)) ?_) <;> (refine rdg_u rfl rfl rfl rfl (afieldi rfl rfl rfl) ?_) <;> (refine rdg_u rfl rfl rfl rfl (aloadi rfl rfl) ?_) <;> (refine rdg_u rfl rfl rfl rfl (aneq rfl rfl) ?_) <;> (refine rd_pick_f rfl rfl ?_) <;> (refine rmove rfl ?_) <;> ((refine rd_split (t := 129) rfl (fun hc => ?_) (fun hc => ?_) <;> (try simp only [sB, ne_eq, reduceCtorEq] at hc) <;> (try (exfalso; omega)) <;> (refine gfieldp rfl rfl rfl rfl rfl ?_))) <;> (refine gloadp rfl rfl rfl rfl rfl rfl ?_) <;> (refine rdg_u rfl rfl rfl rfl (alenm rfl rfl) ?_) <;> (refine gfieldp rfl rfl rfl rfl rfl ?_) <;> (refine gloadp rfl rfl rfl rfl rfl rfl ?_) <;> (refine gmove rfl rfl rfl ?_) <;> (refine rdg_u rfl rfl rfl rfl (aidxn rfl rfl (by omega)) ?_) <;> (refine rdg_u rfl rfl rfl rfl (afieldi rfl rfl rfl) ?_) <;> (refine rdg_u rfl rfl rfl rfl (aloadi rfl rfl) ?_) <;> (refine rdg_u rfl rfl rfl rfl (alenm rfl rfl) ?_) <;> (refine rdg_u rfl rfl rfl rfl (aneq rfl rfl) ?_) <;> (refine rd_pick_f rfl rfl ?_) <;> (refine rd_end (by kernel_rfl) ?_)) | (refine WP.regionC (id := 18) ?_; (refine sassign rfl ?_); apply jW)))
          all_goals try (exfalso; simp at hc; omega)
          refine wp_loop (fun (k : Nat) => k ≤ (nth g.rules i).body.length) (fun k => (nth g.rules i).body.length - k)
            (fun k => (S 191 [(2, .ptr 0 4 0 0), (5, .ptr 1 4 0 0), (6, intsA fr), (8, intA (i : Nat)), (9, intA (i : Nat)), (10, .ptr 2 3 0 0), (11, intA (k : Nat))] 3 [(0, some (.arr 4 [gramA g])), (1, some (.arr 4 [gramA T])), (2, some (.arr 3 [ruleA (nth T.rules i)]))])) 0 ⟨[0, 1, 2], ToR.S rfl (by repeat' (first | exact rt_nil | refine rt_t rfl rfl ?_ | refine rt_e rfl rfl ?_ | refine rt_p rfl rfl (by first | (simp [AV.bd, bdL, bdL_append]; done) | fail) ?_)) (by repeat' (first | exact ro_nil | refine ro_p rfl (by first | exact rfl | fail) (by first | (simp [bdL, bdL_append, AV.bd]; done) | fail) ?_)) rfl (by (rw [hm]; exact rfl)) rfl (by (simp [bdT, AV.bd, bdL, bdL_append]; done)) (by repeat' (first | exact True.intro | refine And.intro ?_ ?_ | (simp [bdOq, bdL, bdL_append, AV.bd]; done))) (by (rw [hm]; exact Nat.le_of_ble_eq_true rfl))⟩ (Nat.zero_le _) ?_
          intro k hk
          by_cases hkl : k < (nth g.rules i).body.length
          · obtain ⟨hk1, hk2⟩ := ho3 k hkl
            (repeat' (first | apply jA | apply jF | apply jH | apply jI | apply jN | (refine wp_cond rfl (fun hc => ?_) (fun hc => ?_) <;> (try simp only [sB, ne_eq, reduceCtorEq] at hc) <;> (try (exfalso; omega))) | (refine WP.regionC (id := 19) ?_; (refine smove rfl ?_); (refine sfieldp rfl rfl rfl ?_); (refine sloadp rfl rfl rfl rfl ?_); (refine slenm rfl rfl ?_); (refine slss rfl rfl ?_); apply jW) | (refine WP.regionC (id := 21) ?_; (refine sfieldp rfl rfl rfl ?_); (refine sloadp rfl rfl rfl rfl ?_); (refine smove rfl ?_); (refine sidxn rfl rfl (by omega) ?_); (refine su (afieldi rfl rfl rfl) ?_); (refine su (aloadi rfl rfl) ?_); (refine smove rfl ?_); (refine sidxn rfl rfl (by omega) ?_); (refine sloadw rfl rfl ?_); (refine sassign rfl ?_); apply jW) | (refine WP.regionC (id := 22) ?_; (refine smove rfl ?_); (refine su (ageq rfl rfl) ?_); (refine smove rfl ?_); (refine sg (gq_vt rfl rfl) (fun he => ap_field_p (rq_p rfl rfl) rfl rfl) ?_); (refine sg (gq_vt rfl rfl) (fun he => ap_load_p (rq_c rfl rfl) rfl rfl rfl) ?_); (refine sg (gq_vt rfl rfl) (fun he => ap_move (rq_p rfl rfl)) ?_); (refine sg (gq_vt rfl rfl) (fun he => ap_idx_n (rq_c rfl rfl) (rq_c rfl rfl) (by (try simp only [sH, id, sB, ne_eq, reduceCtorEq] at he); omega)) ?_); (refine sg (gq_vt rfl rfl) (fun he => ap_load_w (rq_c rfl rfl) rfl) ?_); (refine sg (gq_vt rfl rfl) (fun he => ap_move (rq_p rfl rfl)) ?_); (refine sg (gq_vt rfl rfl) (fun he => ap_neq (rq_c rfl rfl) (rq_c rfl rfl)) ?_); (refine su (ap_and (rq_p rfl rfl) (rq_c rfl rfl)) ?_); (refine smove rfl ?_); (refine sg (gq_vf rfl rfl) (fun he => ap_move (rq_p rfl rfl)) ?_); (refine sg (gq_vf rfl rfl) (fun he => ap_lss (rq_c rfl rfl) (rq_p rfl rfl)) ?_); (refine sg (gq_vf rfl rfl) (fun he => ap_move (rq_c rfl rfl)) ?_); (refine sg (gq_ct rfl rfl) (fun he => ap_field_p (rq_p rfl rfl) rfl rfl) ?_); (refine sg (gq_ct rfl rfl) (fun he => ap_load_p (rq_c rfl rfl) rfl rfl rfl) ?_); (refine sg (gq_ct rfl rfl) (fun he => ap_move (rq_p rfl rfl)) ?_); (refine sg (gq_ct rfl rfl) (fun he => ap_idx_n (rq_c rfl rfl) (rq_c rfl rfl) (by (try simp only [sH, id, sB, ne_eq, reduceCtorEq] at he); omega)) ?_); (refine sg (gq_ct rfl rfl) (fun he => ap_load_w (rq_c rfl rfl) rfl) ?_); (refine sg (gq_ct rfl rfl) (fun he => ap_geq (rq_c rfl rfl) (rq_p rfl rfl)) ?_); (refine sg (gq_vf rfl rfl) (fun he => ap_and (rq_c rfl rfl) (rq_c rfl rfl)) ?_); (refine su (ap_or (rq_p rfl rfl) (rq_c rfl rfl)) ?_); apply jW) | (refine WP.regionC (id := 20) ?_; (refine smove rfl ?_); (refine sadd rfl rfl (by exact inr_i64_of (by omega)) ?_); (refine sassign rfl ?_); apply jW)))
            all_goals try (exfalso; simp at hc; omega)
            exact ⟨k + 1, ⟨by omega, by omega⟩, ⟨[0, 1, 2], ToR.S rfl (by repeat' (first | exact rt_nil | refine rt_t rfl rfl ?_ | refine rt_e rfl rfl ?_ | refine rt_p rfl rfl (by first | (simp [AV.bd, bdL, bdL_append]; done) | fail) ?_)) (by repeat' (first | exact ro_nil | refine ro_p rfl (by first | exact rfl | fail) (by first | (simp [bdL, bdL_append, AV.bd]; done) | fail) ?_)) rfl (by (rw [hm]; exact rfl)) rfl (by (simp [bdT, AV.bd, bdL, bdL_append]; done)) (by repeat' (first | exact True.intro | refine And.intro ?_ ?_ | (simp [bdOq, bdL, bdL_append, AV.bd]; done))) (by (rw [hm]; exact Nat.le_of_ble_eq_true rfl))⟩⟩
          · (repeat' (first | apply jA | apply jH | apply jJ | apply jL | apply jN | apply jP | (refine wp_cond rfl (fun hc => ?_) (fun hc => ?_) <;> (try simp only [sB, ne_eq, reduceCtorEq] at hc) <;> (try (exfalso; omega))) | (refine WP.regionC (id := 19) ?_; (refine smove rfl ?_); (refine sfieldp rfl rfl rfl ?_); (refine sloadp rfl rfl rfl rfl ?_); (refine slenm rfl rfl ?_); (refine slss rfl rfl ?_); apply jW) | (refine WP.regionC ?_; (refine smove rfl ?_); (refine sadd rfl rfl (by exact inr_i64_of (by omega)) ?_); (refine sassign rfl ?_); apply jW)))
            all_goals try (exfalso; omega)
            exact ⟨i + 1, ⟨by omega, by omega⟩, by rw [Nat.min_eq_left (by omega)]; exact ⟨[0, 1], ToR.S rfl (by repeat' (first | exact rt_nil | refine rt_t rfl rfl ?_ | refine rt_e rfl rfl ?_ | refine rt_p rfl rfl (by first | (simp [AV.bd, bdL, bdL_append]; done) | fail) ?_)) (by repeat' (first | exact ro_nil | refine ro_p rfl (by first | exact rfl | fail) (by first | (simp [bdL, bdL_append, AV.bd]; done) | fail) ?_)) rfl (by (rw [hm]; exact rfl)) rfl (by (simp [bdT, AV.bd, bdL, bdL_append]; done)) (by repeat' (first | exact True.intro | refine And.intro ?_ ?_ | (simp [bdOq, bdL, bdL_append, AV.bd]; done))) (by (rw [hm]; exact Nat.le_of_ble_eq_true rfl))⟩⟩
        · have hi2 := hf2 i (by omega) hlt
          obtain ⟨ho1, ho2, ho3⟩ := hnew i (by omega) (by omega)
          rw [Nat.min_eq_right (by omega)]
          (repeat' (first | apply jA | apply jF | apply jH | apply jI | apply jJ | apply jL | apply jP | (refine wp_cond rfl (fun hc => ?_) (fun hc => ?_) <;> (try simp only [sB, ne_eq, reduceCtorEq] at hc) <;> (try (exfalso; omega))) | (refine WP.regionC (id := 10) ?_; (refine smove rfl ?_); (refine smove rfl ?_); (refine slenm rfl rfl ?_); (refine slss rfl rfl ?_); apply jW) | (refine WP.regionC (id := 12) ?_; (refine sfieldp rfl rfl rfl ?_); (refine sloadp rfl rfl rfl rfl ?_); (refine smove rfl ?_); (refine sidxn rfl rfl (by omega) ?_); (refine sloadw rfl rfl ?_); (refine se_alloc rfl ?_); (refine se_store_b rfl rfl rfl rfl ?_); apply jW) | (refine WP.regionC (id := 13) ?_; (refine smove rfl ?_); (refine smove rfl ?_); (refine sidxn rfl rfl (by omega) ?_); (refine sloadw rfl rfl ?_); (refine slss rfl rfl ?_); apply jW) | (refine WP.regionC (id := 14) ?_; (refine smove rfl ?_); (refine smove rfl ?_); (refine sidxn rfl rfl (by omega) ?_); (refine sloadw rfl rfl ?_); (refine su (aneq rfl rfl) ?_); (refine smove rfl ?_); (refine sg (gq_vf rfl rfl) (fun he => ap_field_p (rq_p rfl rfl) rfl rfl) ?_); (refine sg (gq_vf rfl rfl) (fun he => ap_load_p (rq_c rfl rfl) rfl rfl rfl) ?_); (refine sg (gq_vf rfl rfl) (fun he => ap_neq (rq_c rfl rfl) (rq_p rfl rfl)) ?_); (refine su (ap_or (rq_p rfl rfl) (rq_c rfl rfl)) ?_); (refine smove rfl ?_); (refine sg (gq_vf rfl rfl) (fun he => ap_field_p (rq_p rfl rfl) rfl rfl) ?_); (refine sg (gq_vf rfl rfl) (fun he => ap_load_p (rq_c rfl rfl) rfl rfl rfl) ?_); (refine sg (gq_vf rfl rfl) (fun he => ap_len_m rfl (rq_c rfl rfl)) ?_); (refine sg (gq_vf rfl rfl) (fun he => ap_neq (rq_c rfl rfl) (rq_p rfl rfl)) ?_); (refine su (ap_or (rq_p rfl rfl) (rq_c rfl rfl)) ?_); (refine smove rfl ?_); (refine sg (gq_vf rfl rfl) (fun he => ap_field_p (rq_p rfl rfl) rfl rfl) ?_); (refine sg (gq_vf rfl rfl) (fun he => ap_load_p (rq_c rfl rfl) rfl rfl rfl) ?_); (refine sg (gq_vf rfl rfl) (fun he => ap_idx_n (rq_c rfl rfl) (rq_p rfl rfl) (by (try simp only [sH, id, sB, ne_eq, reduceCtorEq] at he); (simp only [sL] <;> omega))) ?_); (refine sg (gq_vf rfl rfl) (fun he => ap_load_w (rq_c rfl rfl) rfl) ?_); (refine sg (gq_vf rfl rfl) (fun he => ap_geq (rq_c rfl rfl) (rq_p rfl rfl)) ?_); (refine su (ap_or (rq_p rfl rfl) (rq_c rfl rfl)) ?_); apply jW) | (refine WP.regionC (id := 11) ?_; (refine smove rfl ?_); (refine sadd rfl rfl (by exact inr_i64_of (by omega)) ?_); (refine sassign rfl ?_); apply jW)))
          all_goals try (exfalso; omega)
          all_goals try (exfalso; simp at hc; omega)
          exact ⟨i + 1, ⟨by omega, by omega⟩, by rw [Nat.min_eq_right (by omega)]; exact ⟨[0, 1], ToR.S rfl (by repeat' (first | exact rt_nil | refine rt_t rfl rfl ?_ | refine rt_e rfl rfl ?_ | refine rt_p rfl rfl (by first | (simp [AV.bd, bdL, bdL_append]; done) | fail) ?_)) (by repeat' (first | exact ro_nil | refine ro_p rfl (by first | exact rfl | fail) (by first | (simp [bdL, bdL_append, AV.bd]; done) | fail) ?_)) rfl (by (rw [hm]; exact rfl)) rfl (by (simp [bdT, AV.bd, bdL, bdL_append]; done)) (by repeat' (first | exact True.intro | refine And.intro ?_ ?_ | (simp [bdOq, bdL, bdL_append, AV.bd]; done))) (by (rw [hm]; exact Nat.le_of_ble_eq_true rfl))⟩⟩
      · rw [Nat.min_eq_right (by omega)]
        (repeat' (first | apply jA | apply jH | apply jJ | apply jK | apply jL | apply jP | apply jS | (refine wp_cond rfl (fun hc => ?_) (fun hc => ?_) <;> (try simp only [sB, ne_eq, reduceCtorEq] at hc) <;> (try (exfalso; omega))) | (refine WP.regionC (id := 10) ?_; (refine smove rfl ?_); (refine smove rfl ?_); (refine slenm rfl rfl ?_); (refine slss rfl rfl ?_); apply jW) | (refine WP.regionC (id := 25) ?_; (refine sc_p rfl rfl (by first | ((repeat' (exact SubL.nil)); done) | fail) (by first | (simp [bdL, bdL_append, AV.bd]; done) | fail) (haw) ?_); (refine smove rfl ?_); (refine sg (gq_vt rfl rfl) (fun he => ap_move (rq_p rfl rfl)) ?_); (refine sg (gq_vt rfl rfl) (fun he => ap_field_p (rq_p rfl rfl) rfl rfl) ?_); (refine sg (gq_vt rfl rfl) (fun he => ap_load_p (rq_c rfl rfl) rfl rfl rfl) ?_); (refine sg (gq_vt rfl rfl) (fun he => ap_len_m rfl (rq_c rfl rfl)) ?_); (refine sg (gq_vt rfl rfl) (fun he => ap_eql (rq_c rfl rfl) (rq_c rfl rfl)) ?_); (refine su (ap_and (rq_p rfl rfl) (rq_c rfl rfl)) ?_); (refine sassign rfl ?_); apply jW) | refine ret_b rfl ?_))
        all_goals ((simp; done))
    · have hR : ∃ e : Int, stratR g l = (zG, [], e) ∧ e ≠ 0 := by
        unfold stratR
        by_cases hc0 : checkG g l = 0
        · rw [if_pos hc0, if_neg (fun hv => hok ⟨hc0, hv⟩)]
          exact ⟨11, rfl, by omega⟩
        · rw [if_neg hc0]
          exact ⟨_, rfl, hc0⟩
      obtain ⟨e, hR, he⟩ := hR
      rw [hR] at hp
      simp only at hp
      refine Fn.intro rfl (by kernel_rfl) Tryd.func5 rfl rfl Tryd.ntmps5 (by exact Nat.le_of_ble_eq_true rfl) ?_; intro Γ hm
      (repeat' (first | apply jA | apply jH | apply jI | apply jK | apply jM | apply jS | (refine wp_cond rfl (fun hc => ?_) (fun hc => ?_) <;> (try simp only [sB, ne_eq, reduceCtorEq] at hc) <;> (try (exfalso; omega))) | (refine WP.regionC (id := 0) ?_; (refine se_box rfl (by exact ⟨rfl, rfl⟩) ?_); (refine sassign rfl ?_); apply jW) | (refine WP.regionC (id := 1) ?_; (refine sloadpw rfl rfl rfl rfl ?_); (refine smove rfl ?_); (refine sc_p rfl rfl (by first | ((repeat' first | exact SubL.nil | refine SubL.cons ?_ ?_ | exact Sub.refl); done) | fail) (by first | (simp [bdL, bdL_append, AV.bd]; done) | fail) (h1) ?_); (refine su (anot rfl) ?_); apply jW) | (refine WP.regionC (id := 3) ?_; (refine sloadpw rfl rfl rfl rfl ?_); (refine smove rfl ?_); (refine sc_p rfl rfl (by first | ((repeat' first | exact SubL.nil | refine SubL.cons ?_ ?_ | exact Sub.refl); done) | fail) (by first | (simp [bdL, bdL_append, AV.bd]; done) | fail) (hp) ?_); (refine smove rfl ?_); (refine su (aextract rfl rfl) ?_); (refine su (aextract rfl rfl) ?_); (refine su (aextract rfl rfl) ?_); (refine se_alloc rfl ?_); (refine se_store_b rfl rfl rfl rfl ?_); (refine sassign rfl ?_); (refine sassign rfl ?_); apply jW) | (refine WP.regionC (id := 4) ?_; (refine smove rfl ?_); (refine su (aneq rfl rfl) ?_); apply jW) | (refine WP.regionC (id := 5) ?_; (refine sc_p rfl rfl (by first | ((repeat' (exact SubL.nil)); done) | fail) (by first | (simp [bdL, bdL_append, AV.bd]; done) | fail) (haw) ?_); (refine smove rfl ?_); (refine sg (gq_vt rfl rfl) (fun he => ap_field_p (rq_p rfl rfl) rfl rfl) ?_); (refine sg (gq_vt rfl rfl) (fun he => ap_load_p (rq_c rfl rfl) rfl rfl rfl) ?_); (refine sg (gq_vt rfl rfl) (fun he => ap_len_m rfl (rq_c rfl rfl)) ?_); (refine sg (gq_vt rfl rfl) (fun he => ap_eql (rq_c rfl rfl) (rq_p rfl rfl)) ?_); (refine su (ap_and (rq_p rfl rfl) (rq_c rfl rfl)) ?_); (refine smove rfl ?_); (refine sg (gq_vt rfl rfl) (fun he => ap_move (rq_p rfl rfl)) ?_); (refine sg (gq_vt rfl rfl) (fun he => ap_len_m rfl (rq_c rfl rfl)) ?_); (refine sg (gq_vt rfl rfl) (fun he => ap_eql (rq_c rfl rfl) (rq_p rfl rfl)) ?_); (refine su (ap_and (rq_p rfl rfl) (rq_c rfl rfl)) ?_); (refine sassign rfl ?_); apply jW) | exact ret_eq rfl rfl rfl))
      all_goals (rfl)
end Go.Lg
