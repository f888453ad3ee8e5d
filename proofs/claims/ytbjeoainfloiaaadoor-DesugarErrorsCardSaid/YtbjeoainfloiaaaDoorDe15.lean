/-
  Part 15 of the proof of DesugarErrorsCard: the logic over the model, the functions' contracts and the plain laws.
-/
import Derived.Test.YtbjeoainfloiaaaDoorDe14

set_option linter.unusedSimpArgs false
set_option linter.unusedVariables false
set_option linter.unusedSectionVars false
set_option linter.defProp false

namespace Go.Lg
open Go.Proofs
set_option linter.unusedSimpArgs false
set_option linter.unusedVariables false
attribute [local irreducible] Ap Rq asemC WP RunD Ret Gq thenA inBlockA bodyQ noGotoA RqL RqP OpP
set_option maxHeartbeats 8000000
set_option maxRecDepth 20000
attribute [local simp] AV.cells
theorem bldA_ren (π : Nat → Nat) (f : GFi) (d : DEn) (s : DSt) (r w : Nat) : (bldA f d s r w).ren π = bldA f d s (π r) (π w) := by
  unfold bldA
  simp only [AObj.ren, renL, AV.ren, ren_levelsA, ren_grulesA, ren_strsA, ren_intA]
  rfl
theorem bldO_ren (π : Nat → Nat) (d : DEn) (s : DSt) : (bldO d s).ren π = bldO d s := by simp only [bldO, AObj.ren, ren_strs]
theorem bldW_ren (π : Nat → Nat) (d : DEn) (s : DSt) : (bldW d s).ren π = bldW d s := by simp only [bldW, AObj.ren, ren_newAs]
theorem symL_bd (d : DEn) (l : List GEx) (s : DSt) (h0 : 0 ≤ s.count) : 0 ≤ (d.symL l s).2.count ∧ (d.symL l s).2.count ≤ s.count + nodL l ∧ (d.symL l s).2.extra.length ≤ s.extra.length + nodL l := by
  have h1 := d.symL_ext l s
  have h2 := (d.symL_cnt l s).2
  omega
theorem nodL_at {l : List GEx} {k : Nat} (h : k < l.length) : nodL (l.take k) + nodE (nth l k) ≤ nodL l := by
  have h1 := nodL_take l (k + 1)
  rw [take_succ_nth h, nodL_snoc] at h1
  exact h1
theorem rsym2 (f : GFi) (d : DEn) (n : ByteArray) (l : List GEx) (hl : ∀ x, x ∈ l → RSym f d x) : RSym f d (.mk 2 n l) := by
  intro s hs0 hs1 hs2
  have e : d.symE (.mk 2 n l) s = ((d.symL l s).1.flatten, (d.symL l s).2) := by rw [DEn.symE, if_neg (by decide), if_pos rfl]
  rw [e, exprA_mkJ]
  clear e
  rw [nodE] at hs1 hs2
  have hln := len_nodL l
  have hfl := (d.symL_cnt l s).1
  unfold postB
  dsimp only
  refine FnQ.intro (by kernel_rfl) Tryd.func35 rfl rfl Tryd.ntmps35 (by exact Nat.le_of_ble_eq_true rfl) ?_; intro Γ hm
  refine wp_st (S 140 [(0, .ptr 0 7 0 0), (1, strA d.rule), (2, .agg [intA 2, strA n, .sl 3 (l.map exprA)])] 3 [(0, some (bldA f d s 1 2)), (1, some (bldO d s)), (2, some (bldW d s))]) ⟨[0, 1, 2], ToR.S rfl (by repeat' (first | exact rt_nil | refine rt_t rfl rfl ?_ | refine rt_e rfl rfl ?_ | refine rt_p rfl rfl (by first | (simp [AV.bd, bdL, bdL_append]; done) | fail) ?_)) (by repeat' (first | exact ro_nil | refine ro_p rfl (by first | exact rfl | fail) (by first | exact bdL_map (fun _ => by first | exact rfl | simp [AV.bd, bdL, bdL_append]) _ | fail) ?_ | refine ro_e rfl (by simp only [renL, AV.ren, ren_strsA, ren_intsA, ren_levelsA, ren_grulesA, ren_newAs, ren_intA, ren_strs]; exact rfl) ?_)) rfl (by (rw [hm]; exact rfl)) rfl (by (simp [bdT, AV.bd, bdL, bdL_append]; done)) (by repeat' (first | exact True.intro | refine And.intro ?_ ?_ | exact bdL_map (fun _ => by first | exact rfl | simp [AV.bd, bdL, bdL_append]) _ | (simp [bdOq, bdL, bdL_append, AV.bd]; done))) (by (rw [hm]; exact Nat.le_of_ble_eq_true rfl))⟩ ?_
  refine wp_mvr 0 2 5 rfl rfl rfl rfl ?_
  (repeat' (first | apply jA | apply jF | apply jH | apply jI | (refine wp_cond rfl (fun hc => ?_) (fun hc => ?_) <;> (try simp only [sB, ne_eq, reduceCtorEq] at hc) <;> (try (exfalso; omega))) | (refine WP.regionC (id := 0) ?_; (refine se_box rfl (by exact ⟨rfl, rfl⟩) ?_); (refine sassign rfl ?_); apply jW) | (refine WP.regionC ?_; (refine sassign rfl ?_); apply jW) | (refine WP.regionC ?_; (refine sfieldp rfl rfl rfl ?_); (refine sloadp rfl rfl rfl rfl ?_); (refine seql rfl rfl ?_); apply jW)))
  all_goals (first | (exfalso; simp_all; done) | skip)
  refine wp_nil 7 1 rfl ?_
  refine wp_loop (fun (p : Nat × Bool × List ByteArray) => p.1 ≤ l.length ∧ (p.2.1 = false → namS d s ++ p.2.2 = namS d (d.symL (l.take p.1) s).2)) (fun p => l.length - p.1)
    (fun p => (S 140 [(0, .ptr 0 7 0 0), (1, strA d.rule), (5, .ptr 5 3 0 0), (7, .ref 6 1 0 (d.symL (l.take p.1) s).1.flatten.length), (9, intA (p.1 : Nat))] 7 [(0, some (bldA f d (d.symL (l.take p.1) s).2 (cond p.2.1 4 1) 3)), (1, some (.arr 1 ((namS d s ++ p.2.2).map strA))), (3, some (bldW d (d.symL (l.take p.1) s).2)), (4, cond p.2.1 (some (bldO d (d.symL (l.take p.1) s).2)) none), (5, some (.arr 3 [.agg [intA 2, strA n, .sl 3 (l.map exprA)]])), (6, some (.arr 1 ((d.symL (l.take p.1) s).1.flatten.map intA)))])) (0, false, []) ?_ ⟨Nat.zero_le _, fun _ => ?_⟩ ?_
  · dsimp only
    rw [List.take_zero, DEn.symL, List.append_nil]
    simp only [cond_false]
    exact ⟨[0, 1, 2, 3, 2, 4, 5], ToR.S rfl (by repeat' (first | exact rt_nil | refine rt_r rfl rfl ?_ | refine rt_t rfl rfl ?_ | refine rt_e rfl rfl ?_)) (by repeat' (first | exact ro_nil | refine ro_no ?_ | refine ro_e rfl rfl ?_ | refine ro_p rfl (by first | exact rfl | fail) (by first | exact bdL_map (fun _ => by first | exact rfl | simp [AV.bd, bdL, bdL_append]) _ | (simp [bdL, bdL_append, AV.bd]; done) | fail) ?_ | refine ro_e rfl (by simp only [renL, AV.ren, ren_strsA, ren_intsA, ren_levelsA, ren_grulesA, ren_newAs, ren_intA, ren_strs]; exact rfl) ?_)) rfl (by (rw [hm]; exact rfl)) rfl (by (simp [bdT, AV.bd, bdL, bdL_append]; done)) (by repeat' (first | exact True.intro | exact rfl | refine And.intro ?_ ?_ | exact bdL_map (fun _ => by first | exact rfl | simp [AV.bd, bdL, bdL_append]) _ | (simp [bdOq, bdL, bdL_append, AV.bd]; done))) (by (rw [hm]; exact Nat.le_of_ble_eq_true rfl))⟩
  · dsimp only
    rw [List.take_zero, DEn.symL, List.append_nil]
  rintro ⟨k, mv, ex⟩ ⟨hk, hmv⟩
  dsimp only at hk hmv ⊢
  by_cases hkl : k < l.length
  · have hna := nodL_at hkl
    have hbd := symL_bd d (l.take k) s hs0
    have hfk := (d.symL_cnt (l.take k) s).1
    have eS : d.symL (l.take (k + 1)) s = ((d.symL (l.take k) s).1 ++ [(d.symE (nth l k) (d.symL (l.take k) s).2).1], (d.symE (nth l k) (d.symL (l.take k) s).2).2) := by
      rw [take_succ_nth hkl, d.symL_snoc]
    have hzl := (d.symE_cnt (nth l k) (d.symL (l.take k) s).2).1
    generalize d.symL (l.take k) s = yt at *
    obtain ⟨ys, t⟩ := yt
    dsimp only at *
    have hy := hl (nth l k) (nth_mem hkl) t (by omega) (by omega) (by omega)
    unfold postB at hy
    cases mv with
    | false =>
      rw [hmv rfl]
      simp only [cond_false]
      (repeat' (first | apply jA | apply jF | apply jH | apply jI | apply jN | (refine wp_cond rfl (fun hc => ?_) (fun hc => ?_) <;> (try simp only [sB, ne_eq, reduceCtorEq] at hc) <;> (try (exfalso; omega))) | (refine WP.regionC (id := 9) ?_; (refine smove rfl ?_); (refine sfieldp rfl rfl rfl ?_); (refine sloadp rfl rfl rfl rfl ?_); (refine slenm rfl rfl ?_); (refine slss rfl rfl ?_); apply jW) | (refine WP.regionC (id := 11) ?_ <;> (refine smove rfl ?_) <;> (refine smove rfl ?_) <;> (refine smove rfl ?_) <;> (refine sfieldp rfl rfl rfl ?_) <;> (refine sloadp rfl rfl rfl rfl ?_) <;> (refine smove rfl ?_) <;> (refine sidxn rfl rfl (by omega) ?_) <;> (refine sloadw rfl rfl ?_) <;> (refine sc_q [0, 1, 3] rfl rfl (hy) (Lend.S (by first | ((repeat' first | exact RenL.nil | refine RenL.cons (by first | exact rfl | exact ren_p (by simp [AV.bd, bdL, bdL_append])) ?_); done) | fail) (by first | ((repeat' first | exact LendO.nil | refine LendO.arr rfl (by first | (refine (renL_pure ?_).symm; exact bdL_map (fun _ => by first | exact rfl | simp [AV.bd, bdL, bdL_append]) _) | (simp [renL, AV.ren, ren_pure, ap, intA, boolA, strA]; done)) ?_); done) | fail) (by decide) rfl (by simp [AV.bd, bdL, bdL_append]) (by repeat' (first | exact True.intro | refine And.intro ?_ ?_ | exact bdL_map (fun _ => by first | exact rfl | simp [AV.bd, bdL, bdL_append]) _ | simp [AV.bd, bdL, bdL_append]))) ?_; rintro r o' ⟨rfl, mv, e, hmv2, rfl⟩ <;> simp only [updN, newO, AObj.ren, renL, AV.ren, apx, ap, if_true, if_false, Nat.reduceLT, Nat.reduceAdd, Nat.reduceSub, sO, intA, boolA, strA, ↓bldA_ren, ↓bldO_ren, ↓bldW_ren]) <;> (refine se_appL rfl rfl rfl rfl rfl rfl rfl (by omega) ?_) <;> (refine sassign rfl ?_) <;> apply jW) | (refine WP.regionC (id := 10) ?_; (refine smove rfl ?_); (refine sadd rfl rfl (by exact inr_i64_of (by omega)) ?_); (refine sassign rfl ?_); apply jW)))
      cases mv with
      | false =>
        refine ⟨(k + 1, false, ex ++ e), ⟨by dsimp only; omega, by dsimp only; omega, fun _ => ?_⟩, ?_⟩
        · dsimp only
          rw [eS, ← List.append_assoc, hmv rfl, hmv2 rfl]
        · dsimp only
          rw [eS, ← List.append_assoc, hmv rfl]
          simp only [List.flatten_append, List.flatten_cons, List.flatten_nil, List.append_nil, cond_false, Option.map_none]
          exact ⟨[0, 1, 2, 7, 8, 5, 9], ToR.S rfl (by repeat' (first | exact rt_nil | refine rt_r rfl rfl ?_ | refine rt_t rfl rfl ?_ | refine rt_e rfl rfl ?_)) (by repeat' (first | exact ro_nil | refine ro_no ?_ | refine ro_p rfl (by first | exact rfl | fail) (by first | exact bdL_map (fun _ => by first | exact rfl | simp [AV.bd, bdL, bdL_append]) _ | (simp [bdL, bdL_append, AV.bd]; done) | fail) ?_ | refine ro_e rfl (by simp only [renL, AV.ren, ren_strsA, ren_intsA, ren_levelsA, ren_grulesA, ren_newAs, ren_intA, ren_strs]; exact rfl) ?_)) rfl (by (rw [hm]; exact rfl)) rfl (by (simp [bdT, AV.bd, bdL, bdL_append]; done)) (by repeat' (first | exact True.intro | refine And.intro ?_ ?_ | exact bdL_map (fun _ => by first | exact rfl | simp [AV.bd, bdL, bdL_append]) _ | (simp [bdOq, bdL, bdL_append, AV.bd]; done))) (by (rw [hm]; exact Nat.le_of_ble_eq_true rfl))⟩
      | true =>
        refine ⟨(k + 1, true, ex ++ e), ⟨by dsimp only; omega, by dsimp only; omega, (fun h => by cases h)⟩, ?_⟩
        dsimp only
        rw [eS, ← List.append_assoc, hmv rfl]
        simp only [List.flatten_append, List.flatten_cons, List.flatten_nil, List.append_nil, cond_true, Option.map_some, bldO_ren]
        exact ⟨[0, 1, 2, 7, 8, 5, 9], ToR.S rfl (by repeat' (first | exact rt_nil | refine rt_r rfl rfl ?_ | refine rt_t rfl rfl ?_ | refine rt_e rfl rfl ?_)) (by repeat' (first | exact ro_nil | refine ro_p rfl (by first | exact rfl | fail) (by first | exact bdL_map (fun _ => by first | exact rfl | simp [AV.bd, bdL, bdL_append]) _ | (simp [bdL, bdL_append, AV.bd]; done) | fail) ?_ | refine ro_e rfl (by simp only [renL, AV.ren, ren_strsA, ren_intsA, ren_levelsA, ren_grulesA, ren_newAs, ren_intA, ren_strs]; exact rfl) ?_)) rfl (by (rw [hm]; exact rfl)) rfl (by (simp [bdT, AV.bd, bdL, bdL_append]; done)) (by repeat' (first | exact True.intro | refine And.intro ?_ ?_ | exact bdL_map (fun _ => by first | exact rfl | simp [AV.bd, bdL, bdL_append]) _ | (simp [bdOq, bdL, bdL_append, AV.bd]; done))) (by (rw [hm]; exact Nat.le_of_ble_eq_true rfl))⟩
    | true =>
      simp only [cond_true]
      (repeat' (first | apply jA | apply jF | apply jH | apply jI | apply jN | (refine wp_cond rfl (fun hc => ?_) (fun hc => ?_) <;> (try simp only [sB, ne_eq, reduceCtorEq] at hc) <;> (try (exfalso; omega))) | (refine WP.regionC (id := 9) ?_; (refine smove rfl ?_); (refine sfieldp rfl rfl rfl ?_); (refine sloadp rfl rfl rfl rfl ?_); (refine slenm rfl rfl ?_); (refine slss rfl rfl ?_); apply jW) | (refine WP.regionC (id := 11) ?_ <;> (refine smove rfl ?_) <;> (refine smove rfl ?_) <;> (refine smove rfl ?_) <;> (refine sfieldp rfl rfl rfl ?_) <;> (refine sloadp rfl rfl rfl rfl ?_) <;> (refine smove rfl ?_) <;> (refine sidxn rfl rfl (by omega) ?_) <;> (refine sloadw rfl rfl ?_) <;> (refine sc_q [0, 4, 3] rfl rfl (hy) (Lend.S (by first | ((repeat' first | exact RenL.nil | refine RenL.cons (by first | exact rfl | exact ren_p (by simp [AV.bd, bdL, bdL_append])) ?_); done) | fail) (by first | ((repeat' first | exact LendO.nil | refine LendO.arr rfl (by first | (refine (renL_pure ?_).symm; exact bdL_map (fun _ => by first | exact rfl | simp [AV.bd, bdL, bdL_append]) _) | (simp [renL, AV.ren, ren_pure, ap, intA, boolA, strA]; done)) ?_); done) | fail) (by decide) rfl (by simp [AV.bd, bdL, bdL_append]) (by repeat' (first | exact True.intro | refine And.intro ?_ ?_ | exact bdL_map (fun _ => by first | exact rfl | simp [AV.bd, bdL, bdL_append]) _ | simp [AV.bd, bdL, bdL_append]))) ?_; rintro r o' ⟨rfl, mv, e, hmv2, rfl⟩ <;> simp only [updN, newO, AObj.ren, renL, AV.ren, apx, ap, if_true, if_false, Nat.reduceLT, Nat.reduceAdd, Nat.reduceSub, sO, intA, boolA, strA, ↓bldA_ren, ↓bldO_ren, ↓bldW_ren]) <;> (refine se_appL rfl rfl rfl rfl rfl rfl rfl (by omega) ?_) <;> (refine sassign rfl ?_) <;> apply jW) | (refine WP.regionC (id := 10) ?_; (refine smove rfl ?_); (refine sadd rfl rfl (by exact inr_i64_of (by omega)) ?_); (refine sassign rfl ?_); apply jW)))
      cases mv with
      | false =>
        refine ⟨(k + 1, true, ex), ⟨by dsimp only; omega, by dsimp only; omega, (fun h => by cases h)⟩, ?_⟩
        dsimp only
        rw [eS, hmv2 rfl]
        simp only [List.flatten_append, List.flatten_cons, List.flatten_nil, List.append_nil, cond_false, cond_true, Option.map_none]
        exact ⟨[0, 1, 2, 7, 4, 5, 9], ToR.S rfl (by repeat' (first | exact rt_nil | refine rt_r rfl rfl ?_ | refine rt_t rfl rfl ?_ | refine rt_e rfl rfl ?_)) (by repeat' (first | exact ro_nil | refine ro_p rfl (by first | exact rfl | fail) (by first | exact bdL_map (fun _ => by first | exact rfl | simp [AV.bd, bdL, bdL_append]) _ | (simp [bdL, bdL_append, AV.bd]; done) | fail) ?_ | refine ro_e rfl (by simp only [renL, AV.ren, ren_strsA, ren_intsA, ren_levelsA, ren_grulesA, ren_newAs, ren_intA, ren_strs]; exact rfl) ?_)) rfl (by (rw [hm]; exact rfl)) rfl (by (simp [bdT, AV.bd, bdL, bdL_append]; done)) (by repeat' (first | exact True.intro | refine And.intro ?_ ?_ | exact bdL_map (fun _ => by first | exact rfl | simp [AV.bd, bdL, bdL_append]) _ | (simp [bdOq, bdL, bdL_append, AV.bd]; done))) (by (rw [hm]; exact Nat.le_of_ble_eq_true rfl))⟩
      | true =>
        refine ⟨(k + 1, true, ex), ⟨by dsimp only; omega, by dsimp only; omega, (fun h => by cases h)⟩, ?_⟩
        dsimp only
        rw [eS]
        simp only [List.flatten_append, List.flatten_cons, List.flatten_nil, List.append_nil, cond_true, Option.map_some, bldO_ren]
        exact ⟨[0, 1, 2, 7, 8, 5, 9], ToR.S rfl (by repeat' (first | exact rt_nil | refine rt_r rfl rfl ?_ | refine rt_t rfl rfl ?_ | refine rt_e rfl rfl ?_)) (by repeat' (first | exact ro_nil | refine ro_p rfl (by first | exact rfl | fail) (by first | exact bdL_map (fun _ => by first | exact rfl | simp [AV.bd, bdL, bdL_append]) _ | (simp [bdL, bdL_append, AV.bd]; done) | fail) ?_ | refine ro_e rfl (by simp only [renL, AV.ren, ren_strsA, ren_intsA, ren_levelsA, ren_grulesA, ren_newAs, ren_intA, ren_strs]; exact rfl) ?_)) rfl (by (rw [hm]; exact rfl)) rfl (by (simp [bdT, AV.bd, bdL, bdL_append]; done)) (by repeat' (first | exact True.intro | refine And.intro ?_ ?_ | exact bdL_map (fun _ => by first | exact rfl | simp [AV.bd, bdL, bdL_append]) _ | (simp [bdOq, bdL, bdL_append, AV.bd]; done))) (by (rw [hm]; exact Nat.le_of_ble_eq_true rfl))⟩
  · have : k = l.length := by omega
    subst this
    rw [List.take_length] at hmv ⊢
    generalize d.symL l s = yt at *
    obtain ⟨ys, t⟩ := yt
    dsimp only at *
    (repeat' (first | apply jA | apply jH | apply jJ | apply jL | apply jP | (refine wp_cond rfl (fun hc => ?_) (fun hc => ?_) <;> (try simp only [sB, ne_eq, reduceCtorEq] at hc) <;> (try (exfalso; omega))) | (refine WP.regionC (id := 9) ?_; (refine smove rfl ?_); (refine sfieldp rfl rfl rfl ?_); (refine sloadp rfl rfl rfl rfl ?_); (refine slenm rfl rfl ?_); (refine slss rfl rfl ?_); apply jW) | (refine WP.regionC (id := 12) ?_; (refine smove rfl ?_); (refine sassign rfl ?_); apply jW)))
    refine wp_frzm (L := ys.flatten) (f := intA) 6 hm rfl rfl rfl (fun _ => rfl) (fun _ => rfl) rfl ?_
    (repeat' (first | apply jK | apply jM | apply jS))
    cases mv with
    | false =>
      refine retQ_L (x := intsA ys.flatten) (X := intsA ys.flatten) (k := 5) (os1 := [(0, some (bldA f d t 1 3)), (1, some (.arr 1 ((namS d s ++ ex).map strA))), (3, some (bldW d t))]) (.tmp rfl .nil) rfl ⟨[0, 1, 2, 3, 4], ToR.S rfl (by repeat' (first | exact rt_nil | refine rt_p rfl rfl (by first | (simp [AV.bd, bdL, bdL_append]; done) | fail) ?_)) (by repeat' (first | exact ro_nil | refine ro_p rfl (by first | exact rfl | fail) (by first | exact bdL_map (fun _ => by first | exact rfl | simp [AV.bd, bdL, bdL_append]) _ | fail) ?_ | refine ro_e rfl (by simp only [renL, AV.ren, ren_strsA, ren_intsA, ren_levelsA, ren_grulesA, ren_newAs, ren_intA, ren_strs]; exact rfl) ?_)) rfl rfl rfl (by (simp [bdT, AV.bd, bdL, bdL_append]; done)) (by repeat' (first | exact True.intro | refine And.intro ?_ ?_ | exact bdL_map (fun _ => by first | exact rfl | simp [AV.bd, bdL, bdL_append]) _ | (simp [bdOq, bdL, bdL_append, AV.bd]; done))) (by exact Nat.le_of_ble_eq_true rfl)⟩ rfl (by exact Nat.le_of_ble_eq_true rfl) (by (simp [AV.bd, bdL, bdL_append]; done)) ?_
      exact ⟨rfl, false, ex, hmv, rfl⟩
    | true =>
      refine retQ_L (x := intsA ys.flatten) (X := intsA ys.flatten) (k := 5) (os1 := [(0, some (bldA f d t 4 3)), (1, some (.arr 1 ((namS d s ++ ex).map strA))), (3, some (bldW d t)), (4, some (bldO d t))]) (.tmp rfl .nil) rfl ⟨[0, 1, 2, 3, 4], ToR.S rfl (by repeat' (first | exact rt_nil | refine rt_p rfl rfl (by first | (simp [AV.bd, bdL, bdL_append]; done) | fail) ?_)) (by repeat' (first | exact ro_nil | refine ro_p rfl (by first | exact rfl | fail) (by first | exact bdL_map (fun _ => by first | exact rfl | simp [AV.bd, bdL, bdL_append]) _ | fail) ?_ | refine ro_e rfl (by simp only [renL, AV.ren, ren_strsA, ren_intsA, ren_levelsA, ren_grulesA, ren_newAs, ren_intA, ren_strs]; exact rfl) ?_)) rfl rfl rfl (by (simp [bdT, AV.bd, bdL, bdL_append]; done)) (by repeat' (first | exact True.intro | refine And.intro ?_ ?_ | exact bdL_map (fun _ => by first | exact rfl | simp [AV.bd, bdL, bdL_append]) _ | (simp [bdOq, bdL, bdL_append, AV.bd]; done))) (by exact Nat.le_of_ble_eq_true rfl)⟩ rfl (by exact Nat.le_of_ble_eq_true rfl) (by (simp [AV.bd, bdL, bdL_append]; done)) ?_
      exact ⟨rfl, true, ex, hmv, rfl⟩
end Go.Lg

namespace Go.Lg
open Go.Proofs
set_option linter.unusedSimpArgs false
set_option linter.unusedVariables false
attribute [local irreducible] Ap Rq asemC WP RunD Ret Gq thenA inBlockA bodyQ noGotoA RqL RqP OpP
set_option maxHeartbeats 8000000
set_option maxRecDepth 20000
attribute [local simp] AV.cells
theorem namS_set (d : DEn) (t : DSt) (c : Int) (ok : Bool) {i : Nat} {nm : ByteArray} (F : List (List Int)) (h : (nth t.extra i).1 = nm) : namS d ⟨c, t.extra.set i (nm, F), ok⟩ = namS d t := by
  unfold namS
  congr 1
  simp only
  rw [List.map_set]
  apply List.ext_getElem?
  intro j
  rw [List.getElem?_set]
  split
  · rename_i hij
    subst hij
    split
    · rename_i hlt
      rw [List.length_map] at hlt
      rw [List.getElem?_map, get_nth hlt, Option.map_some, h]
    · rename_i hge
      rw [List.getElem?_eq_none (by omega)]
  · rfl
theorem newS_set (d : DEn) (t : DSt) (c : Int) (ok : Bool) (i : Nat) (nm : ByteArray) (F : List (List Int)) : newS d ⟨c, t.extra.set i (nm, F), ok⟩ = (newS d t).set i (extR d.names.length i F) := by
  unfold newS
  simp only
  apply List.ext_getElem?
  intro j
  simp only [List.getElem?_map, List.getElem?_zipIdx, List.getElem?_set, List.length_map, List.length_zipIdx]
  split
  · rename_i hij
    subst hij
    split
    · simp
    · simp
  · rfl
def outR (n : Nat) (bs : List (List Int)) : List Rul := bs.map fun b => ⟨(n : Int), b, 0⟩
theorem outR_ext (nn j : Nat) (bs : List (List Int)) : outR (nn + j) bs = extR nn j bs := by
  unfold outR extR
  refine List.map_congr_left fun b _ => ?_
  rw [Int.natCast_add]
theorem bld_set (f : GFi) (d : DEn) (t : DSt) {i : Nat} {nm : ByteArray} (hnm : (nth t.extra i).1 = nm) (F : List (List Int)) {n ix : Nat} (hn : n = d.names.length + i) (hix : ix = i) (hout : outR n F ≠ []) :
    (∀ r w, bldA f d ⟨t.count, t.extra.set i (nm, F), t.ok⟩ r w = bldA f d t r w) ∧ bldO d ⟨t.count, t.extra.set i (nm, F), t.ok⟩ = bldO d t ∧
    bldW d ⟨t.count, t.extra.set i (nm, F), t.ok⟩ = .arr 1 (((newS d t).map newA).set ix (.sl 3 ((outR n F).map ruleA))) ∧ namS d ⟨t.count, t.extra.set i (nm, F), t.ok⟩ = namS d t := by
  have h1 := namS_set d t t.count t.ok F hnm
  have h2 := newS_set d t t.count t.ok i nm F
  subst hix
  subst hn
  refine ⟨fun r w => ?_, ?_, ?_, h1⟩
  · unfold bldA
    rw [h1, h2, List.length_set]
  · unfold bldO
    rw [h1]
  · unfold bldW
    rw [h2, ← outR_ext, List.map_set, newA_some hout]
theorem rsym3 (f : GFi) (d : DEn) (hd : d.names = ruleNames f) (hf : f.rules.length ≤ 10000) (hru : d.rule.size ≤ 100000) (n : ByteArray) (l : List GEx) (hl0 : 0 < l.length) (hl : ∀ x, x ∈ l → RSym f d x) : RSym f d (.mk 3 n l) := by
  intro s hs0 hs1 hs2
  have e : d.symE (.mk 3 n l) s = ([d.self s], ⟨(d.symL l (d.start s)).2.count, (d.symL l (d.start s)).2.extra.set s.extra.length (d.newName (s.count + 1), (d.symL l (d.start s)).1), (d.symL l (d.start s)).2.ok⟩) := by
    rw [DEn.symE, if_neg (by decide), if_neg (by decide)]
    simp only [finB, if_neg (show ¬ (3 : Int) = 4 by decide), if_neg (show ¬ (3 : Int) = 5 by decide), if_neg (show ¬ (3 : Int) = 6 by decide)]
  rw [e, exprA_mkJ]
  clear e
  rw [nodE] at hs1 hs2
  have hln := len_nodL l
  have hnn : d.names.length = f.rules.length := by rw [hd]; simp [ruleNames]
  have hnl := namS_len d s
  obtain ⟨c, hc⟩ : ∃ c : Nat, s.count = c := ⟨s.count.toNat, by omega⟩
  have hfr := fresh_fn f d s c hc (by omega) (by omega) hru
  have hS0 : 0 ≤ (d.start s).count := by simp only [DEn.start]; omega
  have hS1 : (d.start s).count = s.count + 1 := rfl
  have hS2 : (d.start s).extra.length = s.extra.length + 1 := by simp [DEn.start]
  unfold postB at hfr ⊢
  dsimp only
  refine FnQ.intro (by kernel_rfl) Tryd.func35 rfl rfl Tryd.ntmps35 (by exact Nat.le_of_ble_eq_true rfl) ?_; intro Γ hm
  refine wp_st (S 140 [(0, .ptr 0 7 0 0), (1, strA d.rule), (2, .agg [intA 3, strA n, .sl 3 (l.map exprA)])] 3 [(0, some (bldA f d s 1 2)), (1, some (bldO d s)), (2, some (bldW d s))]) ⟨[0, 1, 2], ToR.S rfl (by repeat' (first | exact rt_nil | refine rt_t rfl rfl ?_ | refine rt_e rfl rfl ?_ | refine rt_p rfl rfl (by first | (simp [AV.bd, bdL, bdL_append]; done) | fail) ?_)) (by repeat' (first | exact ro_nil | refine ro_p rfl (by first | exact rfl | fail) (by first | exact bdL_map (fun _ => by first | exact rfl | simp [AV.bd, bdL, bdL_append]) _ | fail) ?_ | refine ro_e rfl (by simp only [renL, AV.ren, ren_strsA, ren_intsA, ren_levelsA, ren_grulesA, ren_newAs, ren_intA, ren_strs]; exact rfl) ?_)) rfl (by (rw [hm]; exact rfl)) rfl (by (simp [bdT, AV.bd, bdL, bdL_append]; done)) (by repeat' (first | exact True.intro | refine And.intro ?_ ?_ | exact bdL_map (fun _ => by first | exact rfl | simp [AV.bd, bdL, bdL_append]) _ | (simp [bdOq, bdL, bdL_append, AV.bd]; done))) (by (rw [hm]; exact Nat.le_of_ble_eq_true rfl))⟩ ?_
  refine wp_mvr 0 2 5 rfl rfl rfl rfl ?_
  (repeat' (first | apply jA | apply jH | apply jI | (refine wp_cond rfl (fun hc => ?_) (fun hc => ?_) <;> (try simp only [sB, ne_eq, reduceCtorEq] at hc) <;> (try (exfalso; omega))) | (refine WP.regionC (id := 0) ?_; (refine se_box rfl (by exact ⟨rfl, rfl⟩) ?_); (refine sassign rfl ?_); apply jW) | (refine WP.regionC (id := 1) ?_; (refine sassign rfl ?_); apply jW) | (refine WP.regionC (id := 2) ?_; (refine sfieldp rfl rfl rfl ?_); (refine sloadp rfl rfl rfl rfl ?_); (refine seql rfl rfl ?_); apply jW) | (refine WP.regionC (id := 7) ?_; (refine sfieldp rfl rfl rfl ?_); (refine sloadp rfl rfl rfl rfl ?_); (refine seql rfl rfl ?_); apply jW) | (refine WP.regionC (id := 13) ?_ <;> (refine smove rfl ?_) <;> (refine smove rfl ?_) <;> (refine sc_q [0, 1, 3] rfl rfl (hfr) (Lend.S (by first | ((repeat' first | exact RenL.nil | refine RenL.cons rfl ?_); done) | fail) (by first | ((repeat' first | exact LendO.nil | refine LendO.arr rfl (by first | (refine (renL_pure ?_).symm; exact bdL_map (fun _ => by first | exact rfl | simp [AV.bd, bdL, bdL_append]) _) | (simp [renL, AV.ren, ren_pure, ap, intA, boolA, strA]; done)) ?_); done) | fail) (by decide) rfl (by simp [AV.bd, bdL, bdL_append]) (by repeat' (first | exact True.intro | refine And.intro ?_ ?_ | exact bdL_map (fun _ => by first | exact rfl | simp [AV.bd, bdL, bdL_append]) _ | simp [AV.bd, bdL, bdL_append]))) ?_; rintro r o' ⟨rfl, mv, ex, hmv, rfl⟩ <;> simp only [updN, newO, AObj.ren, renL, AV.ren, apx, ap, if_true, if_false, Nat.reduceLT, Nat.reduceAdd, Nat.reduceSub, sO, intA, boolA, strA, ↓bldA_ren, ↓bldO_ren, ↓bldW_ren]) <;> (refine sassign rfl ?_) <;> apply jW) | (refine WP.regionC (id := 14) ?_; (refine sassign rfl ?_); apply jW)))
  all_goals (skip)
  refine wp_st (S 140 [(0, .ptr 0 7 0 0), (1, strA d.rule), (5, .ptr 5 3 0 0), (10, intA ((namS d s).length : Nat)), (11, .val (.slice none 0 0))] 6 [(0, some (bldA f d (d.start s) (cond mv 4 1) 3)), (1, some (.arr 1 ((namS d s ++ ex).map strA))), (3, some (bldW d (d.start s))), (4, cond mv (some (bldO d (d.start s))) none), (5, some (.arr 3 [.agg [intA 3, strA n, .sl 3 (l.map exprA)]]))]) (by
    cases mv with
    | false => simp only [cond_false, Option.map_none]; exact ⟨[0, 1, 2, 5, 6, 4], ToR.S rfl (by repeat' (first | exact rt_nil | refine rt_t rfl rfl ?_ | refine rt_e rfl rfl ?_)) (by repeat' (first | exact ro_nil | refine ro_no ?_ | refine ro_p rfl (by first | exact rfl | fail) (by first | exact bdL_map (fun _ => by first | exact rfl | simp [AV.bd, bdL, bdL_append]) _ | (simp [bdL, bdL_append, AV.bd]; done) | fail) ?_ | refine ro_e rfl (by simp only [renL, AV.ren, ren_strsA, ren_intsA, ren_levelsA, ren_grulesA, ren_newAs, ren_intA, ren_strs]; exact rfl) ?_)) rfl (by (rw [hm]; exact rfl)) rfl (by (simp [bdT, AV.bd, bdL, bdL_append]; done)) (by repeat' (first | exact True.intro | refine And.intro ?_ ?_ | exact bdL_map (fun _ => by first | exact rfl | simp [AV.bd, bdL, bdL_append]) _ | (simp [bdOq, bdL, bdL_append, AV.bd]; done))) (by (rw [hm]; exact Nat.le_of_ble_eq_true rfl))⟩
    | true => simp only [cond_true, Option.map_some, bldO_ren]; exact ⟨[0, 1, 2, 5, 6, 4], ToR.S rfl (by repeat' (first | exact rt_nil | refine rt_t rfl rfl ?_ | refine rt_e rfl rfl ?_)) (by repeat' (first | exact ro_nil | refine ro_p rfl (by first | exact rfl | fail) (by first | exact bdL_map (fun _ => by first | exact rfl | simp [AV.bd, bdL, bdL_append]) _ | (simp [bdL, bdL_append, AV.bd]; done) | fail) ?_ | refine ro_e rfl (by simp only [renL, AV.ren, ren_strsA, ren_intsA, ren_levelsA, ren_grulesA, ren_newAs, ren_intA, ren_strs]; exact rfl) ?_)) rfl (by (rw [hm]; exact rfl)) rfl (by (simp [bdT, AV.bd, bdL, bdL_append]; done)) (by repeat' (first | exact True.intro | refine And.intro ?_ ?_ | exact bdL_map (fun _ => by first | exact rfl | simp [AV.bd, bdL, bdL_append]) _ | (simp [bdOq, bdL, bdL_append, AV.bd]; done))) (by (rw [hm]; exact Nat.le_of_ble_eq_true rfl))⟩) ?_
  have hon : namS d (d.start s) = namS d s ++ [d.newName (s.count + 1)] := namS_start d s
  (repeat' (first | apply jA | apply jF | apply jH | (refine wp_cond rfl (fun hc => ?_) (fun hc => ?_) <;> (try simp only [sB, ne_eq, reduceCtorEq] at hc) <;> (try (exfalso; omega))) | (refine WP.regionC (id := 15) ?_; (refine sfieldp rfl rfl rfl ?_); (refine sloadp rfl rfl rfl rfl ?_); (refine seql rfl rfl ?_); apply jW) | (refine WP.regionC (id := 16) ?_; (refine sassign rfl ?_); apply jW)))
  all_goals (first | (exfalso; simp_all; done) | skip)
  refine wp_nil 11 3 rfl ?_
  refine wp_loop (fun (p : Nat × Bool × List ByteArray) => p.1 ≤ l.length ∧ (p.2.1 = false → namS d s ++ p.2.2 = namS d (d.symL (l.take p.1) (d.start s)).2)) (fun p => l.length - p.1)
    (fun p => (S 140 [(0, .ptr 0 7 0 0), (1, strA d.rule), (5, .ptr 5 3 0 0), (10, intA ((namS d s).length : Nat)), (11, .ref 6 3 0 (outR (namS d s).length (d.symL (l.take p.1) (d.start s)).1).length), (12, intA (p.1 : Nat))] 7 [(0, some (bldA f d (d.symL (l.take p.1) (d.start s)).2 (cond p.2.1 4 1) 3)), (1, some (.arr 1 ((namS d s ++ p.2.2).map strA))), (3, some (bldW d (d.symL (l.take p.1) (d.start s)).2)), (4, cond p.2.1 (some (bldO d (d.symL (l.take p.1) (d.start s)).2)) none), (5, some (.arr 3 [.agg [intA 3, strA n, .sl 3 (l.map exprA)]])), (6, some (.arr 3 ((outR (namS d s).length (d.symL (l.take p.1) (d.start s)).1).map ruleA)))])) (0, mv, ex) ?_ ⟨Nat.zero_le _, fun h => ?_⟩ ?_
  · dsimp only
    rw [List.take_zero, DEn.symL]
    cases mv with
    | false => simp only [cond_false]; exact ⟨[0, 1, 2, 3, 4, 5, 6], ToR.S rfl (by repeat' (first | exact rt_nil | refine rt_r rfl rfl ?_ | refine rt_t rfl rfl ?_ | refine rt_e rfl rfl ?_)) (by repeat' (first | exact ro_nil | refine ro_no ?_ | refine ro_e rfl rfl ?_ | refine ro_p rfl (by first | exact rfl | fail) (by first | exact bdL_map (fun _ => by first | exact rfl | simp [AV.bd, bdL, bdL_append]) _ | (simp [bdL, bdL_append, AV.bd]; done) | fail) ?_ | refine ro_e rfl (by simp only [renL, AV.ren, ren_strsA, ren_intsA, ren_levelsA, ren_grulesA, ren_newAs, ren_intA, ren_strs]; exact rfl) ?_)) rfl (by (rw [hm]; exact rfl)) rfl (by (simp [bdT, AV.bd, bdL, bdL_append]; done)) (by repeat' (first | exact True.intro | exact rfl | refine And.intro ?_ ?_ | exact bdL_map (fun _ => by first | exact rfl | simp [AV.bd, bdL, bdL_append]) _ | (simp [bdOq, bdL, bdL_append, AV.bd]; done))) (by (rw [hm]; exact Nat.le_of_ble_eq_true rfl))⟩
    | true => simp only [cond_true]; exact ⟨[0, 1, 2, 3, 4, 5, 6], ToR.S rfl (by repeat' (first | exact rt_nil | refine rt_r rfl rfl ?_ | refine rt_t rfl rfl ?_ | refine rt_e rfl rfl ?_)) (by repeat' (first | exact ro_nil | refine ro_e rfl rfl ?_ | refine ro_p rfl (by first | exact rfl | fail) (by first | exact bdL_map (fun _ => by first | exact rfl | simp [AV.bd, bdL, bdL_append]) _ | (simp [bdL, bdL_append, AV.bd]; done) | fail) ?_ | refine ro_e rfl (by simp only [renL, AV.ren, ren_strsA, ren_intsA, ren_levelsA, ren_grulesA, ren_newAs, ren_intA, ren_strs]; exact rfl) ?_)) rfl (by (rw [hm]; exact rfl)) rfl (by (simp [bdT, AV.bd, bdL, bdL_append]; done)) (by repeat' (first | exact True.intro | exact rfl | refine And.intro ?_ ?_ | exact bdL_map (fun _ => by first | exact rfl | simp [AV.bd, bdL, bdL_append]) _ | (simp [bdOq, bdL, bdL_append, AV.bd]; done))) (by (rw [hm]; exact Nat.le_of_ble_eq_true rfl))⟩
  · dsimp only
    rw [List.take_zero, DEn.symL]
    exact hmv h
  clear hmv
  rintro ⟨k, mv, ex⟩ ⟨hk, hmv⟩
  dsimp only at hk hmv ⊢
  by_cases hkl : k < l.length
  · have hna := nodL_at hkl
    have hbd := symL_bd d (l.take k) (d.start s) hS0
    have hol : (d.symL (l.take k) (d.start s)).1.length = k := by rw [d.symL_len, List.length_take]; omega
    have eS : d.symL (l.take (k + 1)) (d.start s) = ((d.symL (l.take k) (d.start s)).1 ++ [(d.symE (nth l k) (d.symL (l.take k) (d.start s)).2).1], (d.symE (nth l k) (d.symL (l.take k) (d.start s)).2).2) := by
      rw [take_succ_nth hkl, d.symL_snoc]
    generalize d.symL (l.take k) (d.start s) = yt at *
    obtain ⟨ys, t⟩ := yt
    dsimp only at *
    have hy := hl (nth l k) (nth_mem hkl) t (by omega) (by omega) (by omega)
    unfold postB at hy
    have hor : (outR (namS d s).length ys).length = k := by unfold outR; rw [List.length_map]; exact hol
    have hos : outR (namS d s).length (ys ++ [(d.symE (nth l k) t).1]) = outR (namS d s).length ys ++ [⟨((namS d s).length : Int), (d.symE (nth l k) t).1, 0⟩] := by simp [outR]
    generalize outR (namS d s).length ys = ou at *
    cases mv with
    | false =>
      rw [hmv rfl]
      simp only [cond_false]
      (repeat' (first | apply jA | apply jF | apply jH | apply jI | apply jN | (refine wp_cond rfl (fun hc => ?_) (fun hc => ?_) <;> (try simp only [sB, ne_eq, reduceCtorEq] at hc) <;> (try (exfalso; omega))) | (refine WP.regionC (id := 17) ?_; (refine smove rfl ?_); (refine sfieldp rfl rfl rfl ?_); (refine sloadp rfl rfl rfl rfl ?_); (refine slenm rfl rfl ?_); (refine slss rfl rfl ?_); apply jW) | (refine WP.regionC (id := 19) ?_ <;> (refine smove rfl ?_) <;> (refine smove rfl ?_) <;> (refine smove rfl ?_) <;> (refine smove rfl ?_) <;> (refine sfieldp rfl rfl rfl ?_) <;> (refine sloadp rfl rfl rfl rfl ?_) <;> (refine smove rfl ?_) <;> (refine sidxn rfl rfl (by omega) ?_) <;> (refine sloadw rfl rfl ?_) <;> (refine sc_q [0, 1, 3] rfl rfl (hy) (Lend.S (by first | ((repeat' first | exact RenL.nil | refine RenL.cons (by first | exact rfl | exact ren_p (by simp [AV.bd, bdL, bdL_append])) ?_); done) | fail) (by first | ((repeat' first | exact LendO.nil | refine LendO.arr rfl (by first | (refine (renL_pure ?_).symm; exact bdL_map (fun _ => by first | exact rfl | simp [AV.bd, bdL, bdL_append]) _) | (simp [renL, AV.ren, ren_pure, ap, intA, boolA, strA]; done)) ?_); done) | fail) (by decide) rfl (by simp [AV.bd, bdL, bdL_append]) (by repeat' (first | exact True.intro | refine And.intro ?_ ?_ | exact bdL_map (fun _ => by first | exact rfl | simp [AV.bd, bdL, bdL_append]) _ | simp [AV.bd, bdL, bdL_append]))) ?_; rintro r o' ⟨rfl, mv, e, hmv2, rfl⟩ <;> simp only [updN, newO, AObj.ren, renL, AV.ren, apx, ap, if_true, if_false, Nat.reduceLT, Nat.reduceAdd, Nat.reduceSub, sO, intA, boolA, strA, ↓bldA_ren, ↓bldO_ren, ↓bldW_ren]) <;> (refine su (ap_build (RqP.cons (rq_p rfl rfl) (RqP.cons (rq_p rfl rfl) (RqP.nil))) rfl) ?_) <;> (refine se_lit (OpP.cons rfl (OpP.nil)) rfl rfl rfl rfl rfl rfl ?_) <;> (refine se_app1R rfl rfl rfl rfl rfl rfl rfl rfl (by omega) ?_) <;> (refine sassign rfl ?_) <;> apply jW) | (refine WP.regionC (id := 18) ?_; (refine smove rfl ?_); (refine sadd rfl rfl (by exact inr_i64_of (by omega)) ?_); (refine sassign rfl ?_); apply jW)))
      cases mv with
      | false =>
        refine ⟨(k + 1, false, ex ++ e), ⟨by dsimp only; omega, by dsimp only; omega, fun _ => ?_⟩, ?_⟩
        · dsimp only
          rw [eS, ← List.append_assoc, hmv rfl, hmv2 rfl]
        · dsimp only
          rw [eS, ← List.append_assoc, hmv rfl]
          simp only [hos, cond_false, Option.map_none]
          exact ⟨[0, 1, 2, 7, 8, 5, 10], ToR.S rfl (by repeat' (first | exact rt_nil | refine rt_r rfl rfl ?_ | refine rt_t rfl rfl ?_ | refine rt_e rfl rfl ?_)) (by repeat' (first | exact ro_nil | refine ro_no ?_ | refine ro_p rfl (by first | exact rfl | fail) (by first | exact bdL_map (fun _ => by first | exact rfl | simp [AV.bd, bdL, bdL_append]) _ | (simp [bdL, bdL_append, AV.bd]; done) | fail) ?_ | refine ro_e rfl (by simp only [renL, AV.ren, ren_strsA, ren_intsA, ren_levelsA, ren_grulesA, ren_newAs, ren_intA, ren_strs]; exact rfl) ?_)) rfl (by (rw [hm]; exact rfl)) rfl (by (simp [bdT, AV.bd, bdL, bdL_append]; done)) (by repeat' (first | exact True.intro | refine And.intro ?_ ?_ | exact bdL_map (fun _ => by first | exact rfl | simp [AV.bd, bdL, bdL_append]) _ | (simp [bdOq, bdL, bdL_append, AV.bd]; done))) (by (rw [hm]; exact Nat.le_of_ble_eq_true rfl))⟩
      | true =>
        refine ⟨(k + 1, true, ex ++ e), ⟨by dsimp only; omega, by dsimp only; omega, (fun h => by cases h)⟩, ?_⟩
        dsimp only
        rw [eS, ← List.append_assoc, hmv rfl]
        simp only [hos, cond_true, Option.map_some, bldO_ren]
        exact ⟨[0, 1, 2, 7, 8, 5, 10], ToR.S rfl (by repeat' (first | exact rt_nil | refine rt_r rfl rfl ?_ | refine rt_t rfl rfl ?_ | refine rt_e rfl rfl ?_)) (by repeat' (first | exact ro_nil | refine ro_p rfl (by first | exact rfl | fail) (by first | exact bdL_map (fun _ => by first | exact rfl | simp [AV.bd, bdL, bdL_append]) _ | (simp [bdL, bdL_append, AV.bd]; done) | fail) ?_ | refine ro_e rfl (by simp only [renL, AV.ren, ren_strsA, ren_intsA, ren_levelsA, ren_grulesA, ren_newAs, ren_intA, ren_strs]; exact rfl) ?_)) rfl (by (rw [hm]; exact rfl)) rfl (by (simp [bdT, AV.bd, bdL, bdL_append]; done)) (by repeat' (first | exact True.intro | refine And.intro ?_ ?_ | exact bdL_map (fun _ => by first | exact rfl | simp [AV.bd, bdL, bdL_append]) _ | (simp [bdOq, bdL, bdL_append, AV.bd]; done))) (by (rw [hm]; exact Nat.le_of_ble_eq_true rfl))⟩
    | true =>
      simp only [cond_true]
      (repeat' (first | apply jA | apply jF | apply jH | apply jI | apply jN | (refine wp_cond rfl (fun hc => ?_) (fun hc => ?_) <;> (try simp only [sB, ne_eq, reduceCtorEq] at hc) <;> (try (exfalso; omega))) | (refine WP.regionC (id := 17) ?_; (refine smove rfl ?_); (refine sfieldp rfl rfl rfl ?_); (refine sloadp rfl rfl rfl rfl ?_); (refine slenm rfl rfl ?_); (refine slss rfl rfl ?_); apply jW) | (refine WP.regionC (id := 19) ?_ <;> (refine smove rfl ?_) <;> (refine smove rfl ?_) <;> (refine smove rfl ?_) <;> (refine smove rfl ?_) <;> (refine sfieldp rfl rfl rfl ?_) <;> (refine sloadp rfl rfl rfl rfl ?_) <;> (refine smove rfl ?_) <;> (refine sidxn rfl rfl (by omega) ?_) <;> (refine sloadw rfl rfl ?_) <;> (refine sc_q [0, 4, 3] rfl rfl (hy) (Lend.S (by first | ((repeat' first | exact RenL.nil | refine RenL.cons (by first | exact rfl | exact ren_p (by simp [AV.bd, bdL, bdL_append])) ?_); done) | fail) (by first | ((repeat' first | exact LendO.nil | refine LendO.arr rfl (by first | (refine (renL_pure ?_).symm; exact bdL_map (fun _ => by first | exact rfl | simp [AV.bd, bdL, bdL_append]) _) | (simp [renL, AV.ren, ren_pure, ap, intA, boolA, strA]; done)) ?_); done) | fail) (by decide) rfl (by simp [AV.bd, bdL, bdL_append]) (by repeat' (first | exact True.intro | refine And.intro ?_ ?_ | exact bdL_map (fun _ => by first | exact rfl | simp [AV.bd, bdL, bdL_append]) _ | simp [AV.bd, bdL, bdL_append]))) ?_; rintro r o' ⟨rfl, mv, e, hmv2, rfl⟩ <;> simp only [updN, newO, AObj.ren, renL, AV.ren, apx, ap, if_true, if_false, Nat.reduceLT, Nat.reduceAdd, Nat.reduceSub, sO, intA, boolA, strA, ↓bldA_ren, ↓bldO_ren, ↓bldW_ren]) <;> (refine su (ap_build (RqP.cons (rq_p rfl rfl) (RqP.cons (rq_p rfl rfl) (RqP.nil))) rfl) ?_) <;> (refine se_lit (OpP.cons rfl (OpP.nil)) rfl rfl rfl rfl rfl rfl ?_) <;> (refine se_app1R rfl rfl rfl rfl rfl rfl rfl rfl (by omega) ?_) <;> (refine sassign rfl ?_) <;> apply jW) | (refine WP.regionC (id := 18) ?_; (refine smove rfl ?_); (refine sadd rfl rfl (by exact inr_i64_of (by omega)) ?_); (refine sassign rfl ?_); apply jW)))
      cases mv with
      | false =>
        refine ⟨(k + 1, true, ex), ⟨by dsimp only; omega, by dsimp only; omega, (fun h => by cases h)⟩, ?_⟩
        dsimp only
        rw [eS, hmv2 rfl]
        simp only [hos, cond_false, cond_true, Option.map_none]
        exact ⟨[0, 1, 2, 7, 4, 5, 10], ToR.S rfl (by repeat' (first | exact rt_nil | refine rt_r rfl rfl ?_ | refine rt_t rfl rfl ?_ | refine rt_e rfl rfl ?_)) (by repeat' (first | exact ro_nil | refine ro_p rfl (by first | exact rfl | fail) (by first | exact bdL_map (fun _ => by first | exact rfl | simp [AV.bd, bdL, bdL_append]) _ | (simp [bdL, bdL_append, AV.bd]; done) | fail) ?_ | refine ro_e rfl (by simp only [renL, AV.ren, ren_strsA, ren_intsA, ren_levelsA, ren_grulesA, ren_newAs, ren_intA, ren_strs]; exact rfl) ?_)) rfl (by (rw [hm]; exact rfl)) rfl (by (simp [bdT, AV.bd, bdL, bdL_append]; done)) (by repeat' (first | exact True.intro | refine And.intro ?_ ?_ | exact bdL_map (fun _ => by first | exact rfl | simp [AV.bd, bdL, bdL_append]) _ | (simp [bdOq, bdL, bdL_append, AV.bd]; done))) (by (rw [hm]; exact Nat.le_of_ble_eq_true rfl))⟩
      | true =>
        refine ⟨(k + 1, true, ex), ⟨by dsimp only; omega, by dsimp only; omega, (fun h => by cases h)⟩, ?_⟩
        dsimp only
        rw [eS]
        simp only [hos, cond_true, Option.map_some, bldO_ren]
        exact ⟨[0, 1, 2, 7, 8, 5, 10], ToR.S rfl (by repeat' (first | exact rt_nil | refine rt_r rfl rfl ?_ | refine rt_t rfl rfl ?_ | refine rt_e rfl rfl ?_)) (by repeat' (first | exact ro_nil | refine ro_p rfl (by first | exact rfl | fail) (by first | exact bdL_map (fun _ => by first | exact rfl | simp [AV.bd, bdL, bdL_append]) _ | (simp [bdL, bdL_append, AV.bd]; done) | fail) ?_ | refine ro_e rfl (by simp only [renL, AV.ren, ren_strsA, ren_intsA, ren_levelsA, ren_grulesA, ren_newAs, ren_intA, ren_strs]; exact rfl) ?_)) rfl (by (rw [hm]; exact rfl)) rfl (by (simp [bdT, AV.bd, bdL, bdL_append]; done)) (by repeat' (first | exact True.intro | refine And.intro ?_ ?_ | exact bdL_map (fun _ => by first | exact rfl | simp [AV.bd, bdL, bdL_append]) _ | (simp [bdOq, bdL, bdL_append, AV.bd]; done))) (by (rw [hm]; exact Nat.le_of_ble_eq_true rfl))⟩
  · have : k = l.length := by omega
    subst this
    rw [List.take_length] at hmv ⊢
    have hex := (d.symL_ext l (d.start s)).1
    have hat := d.symL_old l (d.start s) s.extra.length (by omega)
    have hys := d.symL_len l (d.start s)
    generalize d.symL l (d.start s) = yt at *
    obtain ⟨ys, t⟩ := yt
    dsimp only at *
    have hnm : (nth t.extra s.extra.length).1 = d.newName (s.count + 1) := by
      have : (d.start s).extra[s.extra.length]? = some (d.newName (s.count + 1), []) := by simp [DEn.start]
      rw [this] at hat
      simp only [nth, List.getD, hat, Option.getD_some]
    have hwl := newS_len d t
    (repeat' (first | apply jA | apply jH | apply jJ | apply jL | apply jP | (refine wp_cond rfl (fun hc => ?_) (fun hc => ?_) <;> (try simp only [sB, ne_eq, reduceCtorEq] at hc) <;> (try (exfalso; omega))) | (refine WP.regionC (id := 17) ?_; (refine smove rfl ?_); (refine sfieldp rfl rfl rfl ?_); (refine sloadp rfl rfl rfl rfl ?_); (refine slenm rfl rfl ?_); (refine slss rfl rfl ?_); apply jW)))
    refine wp_frzm (L := outR (namS d s).length ys) (f := ruleA) 11 hm rfl rfl rfl (fun _ => by simp [AV.bd, bdL]) (fun _ => rfl) rfl ?_
    (repeat' (first | apply jA | apply jH | (refine wp_draw (id := 28) 15 mixed (by kernel_rfl) (by kernel_rfl) rfl ?_ <;> (refine rmove rfl ?_) <;> (refine rnilc rfl ?_) <;> (refine rfieldp rfl rfl rfl ?_) <;> (refine rloadp rfl rfl rfl rfl ?_) <;> (refine rmove rfl ?_) <;> (refine rmove rfl ?_) <;> (refine rnilc rfl ?_) <;> (refine rfieldp rfl rfl rfl ?_) <;> (refine rfieldp rfl rfl rfl ?_) <;> (refine rloadp rfl rfl rfl rfl ?_) <;> (refine rd_u rfl rfl (alenm rfl rfl) ?_) <;> (refine rd_u rfl rfl (asub rfl rfl (by exact inr_i64_of (by omega))) ?_) <;> (refine rmove rfl ?_) <;> (refine rd_u rfl rfl (aidxrz rfl rfl (by omega)) ?_) <;> (refine rd_store_n rfl rfl (by omega) rfl (by intro r; cases r <;> rfl) rfl rfl rfl ?_) <;> (refine rd_end (by kernel_rfl) ?_)) | (refine WP.regionC (id := 29) ?_; (refine smove rfl ?_); (refine su (asub rfl rfl (by exact inr_i64_of (by omega))) ?_); (refine se_lit (OpP.cons rfl (OpP.nil)) rfl rfl rfl rfl rfl rfl ?_); (refine sassign rfl ?_); apply jW)))
    refine wp_frzm (L := [-1 - ((namS d s).length : Int)]) (f := intA) 6 hm rfl rfl rfl (fun _ => rfl) (fun _ => rfl) rfl ?_
    (repeat' (first | apply jK | apply jS))
    have hout : outR (namS d s).length ys ≠ [] := by
      intro h
      have := congrArg List.length h
      unfold outR at this
      rw [List.length_map] at this
      simp at this
      simp [this] at hys
      omega
    obtain ⟨hA, hO, hW, hN⟩ := bld_set f d t hnm ys hnl (show (((namS d s).length : Int) - f.rules.length).toNat = s.extra.length by omega) hout
    rw [← hW]
    cases mv with
    | false =>
      refine retQ_L (x := intsA [-1 - ((namS d s).length : Int)]) (X := intsA [-1 - ((namS d s).length : Int)]) (k := 5) (os1 := [(0, some (bldA f d t 1 3)), (1, some (.arr 1 ((namS d s ++ ex).map strA))), (3, some (bldW d ⟨t.count, t.extra.set s.extra.length (d.newName (s.count + 1), ys), t.ok⟩))]) (.tmp rfl .nil) rfl ⟨[0, 1, 2, 3, 4], ToR.S rfl (by repeat' (first | exact rt_nil | refine rt_e rfl rfl ?_)) (by repeat' (first | exact ro_nil | refine ro_p rfl (by first | exact rfl | fail) (by first | exact bdL_map (fun _ => by first | exact rfl | simp [AV.bd, bdL, bdL_append]) _ | fail) ?_ | refine ro_e rfl (by simp only [renL, AV.ren, ren_strsA, ren_intsA, ren_levelsA, ren_grulesA, ren_newAs, ren_intA, ren_strs]; exact rfl) ?_)) rfl rfl rfl (by (simp [bdT, AV.bd, bdL, bdL_append]; done)) (by repeat' (first | exact True.intro | refine And.intro ?_ ?_ | exact bdL_map (fun _ => by first | exact rfl | simp [AV.bd, bdL, bdL_append]) _ | (simp [bdOq, bdL, bdL_append, AV.bd]; done))) (by exact Nat.le_of_ble_eq_true rfl)⟩ rfl (by exact Nat.le_of_ble_eq_true rfl) rfl ?_
      refine ⟨by rw [show d.self s = -1 - ((namS d s).length : Int) by unfold DEn.self; omega], false, ex, fun _ => ?_, ?_⟩
      · rw [hN]; exact hmv rfl
      · rw [hA, hO]; rfl
    | true =>
      refine retQ_L (x := intsA [-1 - ((namS d s).length : Int)]) (X := intsA [-1 - ((namS d s).length : Int)]) (k := 5) (os1 := [(0, some (bldA f d t 4 3)), (1, some (.arr 1 ((namS d s ++ ex).map strA))), (3, some (bldW d ⟨t.count, t.extra.set s.extra.length (d.newName (s.count + 1), ys), t.ok⟩)), (4, some (bldO d t))]) (.tmp rfl .nil) rfl ⟨[0, 1, 2, 3, 4], ToR.S rfl (by repeat' (first | exact rt_nil | refine rt_e rfl rfl ?_)) (by repeat' (first | exact ro_nil | refine ro_p rfl (by first | exact rfl | fail) (by first | exact bdL_map (fun _ => by first | exact rfl | simp [AV.bd, bdL, bdL_append]) _ | fail) ?_ | refine ro_e rfl (by simp only [renL, AV.ren, ren_strsA, ren_intsA, ren_levelsA, ren_grulesA, ren_newAs, ren_intA, ren_strs]; exact rfl) ?_)) rfl rfl rfl (by (simp [bdT, AV.bd, bdL, bdL_append]; done)) (by repeat' (first | exact True.intro | refine And.intro ?_ ?_ | exact bdL_map (fun _ => by first | exact rfl | simp [AV.bd, bdL, bdL_append]) _ | (simp [bdOq, bdL, bdL_append, AV.bd]; done))) (by exact Nat.le_of_ble_eq_true rfl)⟩ rfl (by exact Nat.le_of_ble_eq_true rfl) rfl ?_
      refine ⟨by rw [show d.self s = -1 - ((namS d s).length : Int) by unfold DEn.self; omega], true, ex, (fun h => by cases h), ?_⟩
      rw [hA, hO]; rfl
end Go.Lg

namespace Go.Lg
open Go.Proofs
set_option linter.unusedSimpArgs false
set_option linter.unusedVariables false
attribute [local irreducible] Ap Rq asemC WP RunD Ret Gq thenA inBlockA bodyQ noGotoA RqL RqP OpP
set_option maxHeartbeats 8000000
set_option maxRecDepth 20000
attribute [local simp] AV.cells
theorem rsym4 (f : GFi) (d : DEn) (hd : d.names = ruleNames f) (hf : f.rules.length ≤ 10000) (hru : d.rule.size ≤ 100000) (n : ByteArray) (k : Int) (hk : k = 4 ∨ k = 5 ∨ k = 6) (x : GEx) (hx : RSym f d x) : RSym f d (.mk k n [x]) := by
  intro s hs0 hs1 hs2
  have e : d.symE (.mk k n [x]) s = ([d.self s], ⟨(d.symE x (d.start s)).2.count, (d.symE x (d.start s)).2.extra.set s.extra.length (d.newName (s.count + 1), finB k (d.self s) [(d.symE x (d.start s)).1]), (d.symE x (d.start s)).2.ok⟩) := by
    rw [DEn.symE, if_neg (by omega), if_neg (by omega), DEn.symL, DEn.symL]
  rw [e, exprA_mkJ]
  clear e
  rw [nodE, nodL, nodL] at hs1 hs2
  have hnn : d.names.length = f.rules.length := by rw [hd]; simp [ruleNames]
  have hnl := namS_len d s
  obtain ⟨c, hc⟩ : ∃ c : Nat, s.count = c := ⟨s.count.toNat, by omega⟩
  have hfr := fresh_fn f d s c hc (by omega) (by omega) hru
  have hS0 : 0 ≤ (d.start s).count := by simp only [DEn.start]; omega
  have hS1 : (d.start s).count = s.count + 1 := rfl
  have hS2 : (d.start s).extra.length = s.extra.length + 1 := by simp [DEn.start]
  unfold postB at hfr ⊢
  dsimp only
  refine FnQ.intro (by kernel_rfl) Tryd.func35 rfl rfl Tryd.ntmps35 (by exact Nat.le_of_ble_eq_true rfl) ?_; intro Γ hm
  refine wp_st (S 140 [(0, .ptr 0 7 0 0), (1, strA d.rule), (2, .agg [intA k, strA n, .sl 3 ([x].map exprA)])] 3 [(0, some (bldA f d s 1 2)), (1, some (bldO d s)), (2, some (bldW d s))]) ⟨[0, 1, 2], ToR.S rfl (by repeat' (first | exact rt_nil | refine rt_t (by rfl) (by rfl) ?_ | refine rt_e (by rfl) (by rfl) ?_ | refine rt_p (by rfl) (by rfl) (by first | (simp [AV.bd, bdL, bdL_append]; done) | fail) ?_)) (by repeat' (first | exact ro_nil | refine ro_p (by rfl) (by first | exact rfl | fail) (by first | exact bdL_map (fun _ => by first | exact rfl | simp [AV.bd, bdL, bdL_append]) _ | fail) ?_ | refine ro_e (by rfl) (by simp only [renL, AV.ren, ren_strsA, ren_intsA, ren_levelsA, ren_grulesA, ren_newAs, ren_intA, ren_strs]; exact rfl) ?_)) (by rfl) (by (rw [hm]; exact rfl)) (by rfl) (by (simp [bdT, AV.bd, bdL, bdL_append]; done)) (by repeat' (first | exact True.intro | refine And.intro ?_ ?_ | exact bdL_map (fun _ => by first | exact rfl | simp [AV.bd, bdL, bdL_append]) _ | (simp [bdOq, bdL, bdL_append, AV.bd]; done))) (by (rw [hm]; exact Nat.le_of_ble_eq_true rfl))⟩ ?_
  refine wp_mvr 0 2 5 (by rfl) (by rfl) rfl (by rfl) ?_
  (repeat' (first | apply jA | apply jH | apply jI | (refine wp_cond (by rfl) (fun hc => ?_) (fun hc => ?_) <;> (try simp only [sB, ne_eq, reduceCtorEq] at hc) <;> (try (exfalso; omega))) | (refine WP.regionC (id := 0) ?_; (refine se_box (by rfl) (by exact ⟨rfl, rfl⟩) ?_); (refine sassign rfl ?_); apply jW) | (refine WP.regionC (id := 1) ?_; (refine sassign rfl ?_); apply jW) | (refine WP.regionC (id := 2) ?_; (refine sfieldp rfl rfl rfl ?_); (refine sloadp rfl rfl rfl rfl ?_); (refine seql rfl rfl ?_); apply jW) | (refine WP.regionC (id := 7) ?_; (refine sfieldp rfl rfl rfl ?_); (refine sloadp rfl rfl rfl rfl ?_); (refine seql rfl rfl ?_); apply jW) | (refine WP.regionC (id := 13) ?_ <;> (refine smove rfl ?_) <;> (refine smove rfl ?_) <;> (refine sc_q [0, 1, 3] rfl rfl (hfr) (Lend.S (by first | ((repeat' first | exact RenL.nil | refine RenL.cons (by rfl) ?_); done) | fail) (by first | ((repeat' first | exact LendO.nil | refine LendO.arr (by rfl) (by first | (refine (renL_pure ?_).symm; exact bdL_map (fun _ => by first | exact rfl | simp [AV.bd, bdL, bdL_append]) _) | (simp [renL, AV.ren, ren_pure, ap, intA, boolA, strA]; done)) ?_); done) | fail) (by decide) (by rfl) (by simp [AV.bd, bdL, bdL_append]) (by repeat' (first | exact True.intro | refine And.intro ?_ ?_ | exact bdL_map (fun _ => by first | exact rfl | simp [AV.bd, bdL, bdL_append]) _ | simp [AV.bd, bdL, bdL_append]))) ?_; rintro r o' ⟨rfl, mv, ex, hmv, rfl⟩ <;> simp only [updN, newO, AObj.ren, renL, AV.ren, apx, ap, if_true, if_false, Nat.reduceLT, Nat.reduceAdd, Nat.reduceSub, sO, intA, boolA, strA, ↓bldA_ren, ↓bldO_ren, ↓bldW_ren]) <;> (refine sassign rfl ?_) <;> apply jW) | (refine WP.regionC (id := 14) ?_; (refine sassign rfl ?_); apply jW)))
  all_goals (skip)
  refine wp_st (S 140 [(0, .ptr 0 7 0 0), (1, strA d.rule), (5, .ptr 5 3 0 0), (10, intA ((namS d s).length : Nat)), (11, .val (.slice none 0 0))] 6 [(0, some (bldA f d (d.start s) (cond mv 4 1) 3)), (1, some (.arr 1 ((namS d s ++ ex).map strA))), (3, some (bldW d (d.start s))), (4, cond mv (some (bldO d (d.start s))) none), (5, some (.arr 3 [.agg [intA k, strA n, .sl 3 ([x].map exprA)]]))]) (by
    cases mv with
    | false => simp only [cond_false, Option.map_none]; exact ⟨[0, 1, 2, 5, 6, 4], ToR.S rfl (by repeat' (first | exact rt_nil | refine rt_t (by rfl) (by rfl) ?_ | refine rt_e (by rfl) (by rfl) ?_)) (by repeat' (first | exact ro_nil | refine ro_no ?_ | refine ro_p (by rfl) (by first | exact rfl | fail) (by first | exact bdL_map (fun _ => by first | exact rfl | simp [AV.bd, bdL, bdL_append]) _ | (simp [bdL, bdL_append, AV.bd]; done) | fail) ?_ | refine ro_e (by rfl) (by simp only [renL, AV.ren, ren_strsA, ren_intsA, ren_levelsA, ren_grulesA, ren_newAs, ren_intA, ren_strs]; exact rfl) ?_)) (by rfl) (by (rw [hm]; exact rfl)) (by rfl) (by (simp [bdT, AV.bd, bdL, bdL_append]; done)) (by repeat' (first | exact True.intro | refine And.intro ?_ ?_ | exact bdL_map (fun _ => by first | exact rfl | simp [AV.bd, bdL, bdL_append]) _ | (simp [bdOq, bdL, bdL_append, AV.bd]; done))) (by (rw [hm]; exact Nat.le_of_ble_eq_true rfl))⟩
    | true => simp only [cond_true, Option.map_some, bldO_ren]; exact ⟨[0, 1, 2, 5, 6, 4], ToR.S rfl (by repeat' (first | exact rt_nil | refine rt_t (by rfl) (by rfl) ?_ | refine rt_e (by rfl) (by rfl) ?_)) (by repeat' (first | exact ro_nil | refine ro_p (by rfl) (by first | exact rfl | fail) (by first | exact bdL_map (fun _ => by first | exact rfl | simp [AV.bd, bdL, bdL_append]) _ | (simp [bdL, bdL_append, AV.bd]; done) | fail) ?_ | refine ro_e (by rfl) (by simp only [renL, AV.ren, ren_strsA, ren_intsA, ren_levelsA, ren_grulesA, ren_newAs, ren_intA, ren_strs]; exact rfl) ?_)) (by rfl) (by (rw [hm]; exact rfl)) (by rfl) (by (simp [bdT, AV.bd, bdL, bdL_append]; done)) (by repeat' (first | exact True.intro | refine And.intro ?_ ?_ | exact bdL_map (fun _ => by first | exact rfl | simp [AV.bd, bdL, bdL_append]) _ | (simp [bdOq, bdL, bdL_append, AV.bd]; done))) (by (rw [hm]; exact Nat.le_of_ble_eq_true rfl))⟩) ?_
  have hon : namS d (d.start s) = namS d s ++ [d.newName (s.count + 1)] := namS_start d s
  have hex := d.sym_ext x (d.start s)
  have hec := d.symE_cnt x (d.start s)
  have hat := d.symE_old x (d.start s) s.extra.length (by omega)
  have hy := hx (d.start s) (by omega) (by omega) (by omega)
  unfold postB at hy
  generalize d.symE x (d.start s) = yt at *
  obtain ⟨z, t⟩ := yt
  dsimp only at *
  have hnm : (nth t.extra s.extra.length).1 = d.newName (s.count + 1) := by
    have : (d.start s).extra[s.extra.length]? = some (d.newName (s.count + 1), []) := by simp [DEn.start]
    rw [this] at hat
    simp only [nth, List.getD, hat, Option.getD_some]
  have hwl := newS_len d t
  (repeat' (first | apply jA | apply jH | (refine wp_cond (by rfl) (fun hc => ?_) (fun hc => ?_) <;> (try simp only [sB, ne_eq, reduceCtorEq] at hc) <;> (try (exfalso; omega))) | (refine WP.regionC (id := 15) ?_; (refine sfieldp rfl rfl rfl ?_); (refine sloadp rfl rfl rfl rfl ?_); (refine seql rfl rfl ?_); apply jW)))
  all_goals (skip)
  have hself : d.self s = -1 - ((namS d s).length : Int) := by unfold DEn.self; omega
  refine wp_cut (fun s' => ∃ (mv : Bool) (ex : List ByteArray), (mv = false → namS d s ++ ex = namS d t) ∧ ∃ is, ToR Γ.m is s' ((S 140 [(0, .ptr 0 7 0 0), (1, strA d.rule), (5, .ptr 5 3 0 0), (10, intA ((namS d s).length : Nat)), (11, .val (.slice none 0 0)), (13, intsA z)] 6 [(0, some (bldA f d t (cond mv 4 1) 3)), (1, some (.arr 1 ((namS d s ++ ex).map strA))), (3, some (bldW d t)), (4, cond mv (some (bldO d t)) none), (5, some (.arr 3 [.agg [intA k, strA n, .sl 3 ([x].map exprA)]]))]))) ?_ ?_
  · cases mv with
    | false =>
      rw [hmv rfl]
      simp only [cond_false]
      (repeat' ((refine WP.regionC (id := 20) ?_ <;> (refine smove rfl ?_) <;> (refine smove rfl ?_) <;> (refine sfieldp rfl rfl rfl ?_) <;> (refine sloadp rfl rfl rfl rfl ?_) <;> (refine sidxn rfl rfl (by (simp only [sL] <;> omega)) ?_) <;> (refine sloadw rfl rfl ?_) <;> (refine sc_q [0, 1, 3] rfl rfl (hy) (Lend.S (by first | ((repeat' first | exact RenL.nil | refine RenL.cons (by first | exact rfl | exact ren_p (by simp [AV.bd, bdL, bdL_append])) ?_); done) | fail) (by first | ((repeat' first | exact LendO.nil | refine LendO.arr (by rfl) (by first | (refine (renL_pure ?_).symm; exact bdL_map (fun _ => by first | exact rfl | simp [AV.bd, bdL, bdL_append]) _) | (simp [renL, AV.ren, ren_pure, ap, intA, boolA, strA]; done)) ?_); done) | fail) (by decide) (by rfl) (by simp [AV.bd, bdL, bdL_append]) (by repeat' (first | exact True.intro | refine And.intro ?_ ?_ | exact bdL_map (fun _ => by first | exact rfl | simp [AV.bd, bdL, bdL_append]) _ | simp [AV.bd, bdL, bdL_append]))) ?_; rintro r o' ⟨rfl, mv, e, hmv2, rfl⟩ <;> simp only [updN, newO, AObj.ren, renL, AV.ren, apx, ap, if_true, if_false, Nat.reduceLT, Nat.reduceAdd, Nat.reduceSub, sO, intA, boolA, strA, ↓bldA_ren, ↓bldO_ren, ↓bldW_ren]) <;> (refine sassign rfl ?_) <;> refine asemC_end ?_)))
      refine ⟨trivial, mv, ex ++ e, fun h => ?_, ?_⟩
      · rw [← List.append_assoc, hmv rfl, hmv2 h]
      · rw [← List.append_assoc, hmv rfl]
        cases mv with
        | false => simp only [cond_false, Option.map_none]; exact ⟨[0, 1, 2, 6, 7, 5], ToR.S rfl (by repeat' (first | exact rt_nil | refine rt_t (by rfl) (by rfl) ?_ | refine rt_e (by rfl) (by rfl) ?_ | refine rt_p (by rfl) (by rfl) (by first | (simp [AV.bd, bdL, bdL_append]; done) | fail) ?_)) (by repeat' (first | exact ro_nil | refine ro_no ?_ | refine ro_p (by rfl) (by first | exact rfl | fail) (by first | exact bdL_map (fun _ => by first | exact rfl | simp [AV.bd, bdL, bdL_append]) _ | (simp [bdL, bdL_append, AV.bd]; done) | fail) ?_ | refine ro_e (by rfl) (by simp only [renL, AV.ren, ren_strsA, ren_intsA, ren_levelsA, ren_grulesA, ren_newAs, ren_intA, ren_strs]; exact rfl) ?_)) (by rfl) (by (rw [hm]; exact rfl)) (by rfl) (by (simp [bdT, AV.bd, bdL, bdL_append]; done)) (by repeat' (first | exact True.intro | refine And.intro ?_ ?_ | exact bdL_map (fun _ => by first | exact rfl | simp [AV.bd, bdL, bdL_append]) _ | (simp [bdOq, bdL, bdL_append, AV.bd]; done))) (by (rw [hm]; exact Nat.le_of_ble_eq_true rfl))⟩
        | true => simp only [cond_true, Option.map_some, bldO_ren]; exact ⟨[0, 1, 2, 6, 7, 5], ToR.S rfl (by repeat' (first | exact rt_nil | refine rt_t (by rfl) (by rfl) ?_ | refine rt_e (by rfl) (by rfl) ?_ | refine rt_p (by rfl) (by rfl) (by first | (simp [AV.bd, bdL, bdL_append]; done) | fail) ?_)) (by repeat' (first | exact ro_nil | refine ro_p (by rfl) (by first | exact rfl | fail) (by first | exact bdL_map (fun _ => by first | exact rfl | simp [AV.bd, bdL, bdL_append]) _ | (simp [bdL, bdL_append, AV.bd]; done) | fail) ?_ | refine ro_e (by rfl) (by simp only [renL, AV.ren, ren_strsA, ren_intsA, ren_levelsA, ren_grulesA, ren_newAs, ren_intA, ren_strs]; exact rfl) ?_)) (by rfl) (by (rw [hm]; exact rfl)) (by rfl) (by (simp [bdT, AV.bd, bdL, bdL_append]; done)) (by repeat' (first | exact True.intro | refine And.intro ?_ ?_ | exact bdL_map (fun _ => by first | exact rfl | simp [AV.bd, bdL, bdL_append]) _ | (simp [bdOq, bdL, bdL_append, AV.bd]; done))) (by (rw [hm]; exact Nat.le_of_ble_eq_true rfl))⟩
    | true =>
      simp only [cond_true]
      (repeat' ((refine WP.regionC (id := 20) ?_ <;> (refine smove rfl ?_) <;> (refine smove rfl ?_) <;> (refine sfieldp rfl rfl rfl ?_) <;> (refine sloadp rfl rfl rfl rfl ?_) <;> (refine sidxn rfl rfl (by (simp only [sL] <;> omega)) ?_) <;> (refine sloadw rfl rfl ?_) <;> (refine sc_q [0, 4, 3] rfl rfl (hy) (Lend.S (by first | ((repeat' first | exact RenL.nil | refine RenL.cons (by first | exact rfl | exact ren_p (by simp [AV.bd, bdL, bdL_append])) ?_); done) | fail) (by first | ((repeat' first | exact LendO.nil | refine LendO.arr (by rfl) (by first | (refine (renL_pure ?_).symm; exact bdL_map (fun _ => by first | exact rfl | simp [AV.bd, bdL, bdL_append]) _) | (simp [renL, AV.ren, ren_pure, ap, intA, boolA, strA]; done)) ?_); done) | fail) (by decide) (by rfl) (by simp [AV.bd, bdL, bdL_append]) (by repeat' (first | exact True.intro | refine And.intro ?_ ?_ | exact bdL_map (fun _ => by first | exact rfl | simp [AV.bd, bdL, bdL_append]) _ | simp [AV.bd, bdL, bdL_append]))) ?_; rintro r o' ⟨rfl, mv, e, hmv2, rfl⟩ <;> simp only [updN, newO, AObj.ren, renL, AV.ren, apx, ap, if_true, if_false, Nat.reduceLT, Nat.reduceAdd, Nat.reduceSub, sO, intA, boolA, strA, ↓bldA_ren, ↓bldO_ren, ↓bldW_ren]) <;> (refine sassign rfl ?_) <;> refine asemC_end ?_)))
      refine ⟨trivial, true, ex, (fun h => by cases h), ?_⟩
      cases mv with
      | false => rw [hmv2 rfl]; simp only [cond_false, cond_true, Option.map_none]; exact ⟨[0, 1, 2, 6, 4, 5], ToR.S rfl (by repeat' (first | exact rt_nil | refine rt_t (by rfl) (by rfl) ?_ | refine rt_e (by rfl) (by rfl) ?_ | refine rt_p (by rfl) (by rfl) (by first | (simp [AV.bd, bdL, bdL_append]; done) | fail) ?_)) (by repeat' (first | exact ro_nil | refine ro_p (by rfl) (by first | exact rfl | fail) (by first | exact bdL_map (fun _ => by first | exact rfl | simp [AV.bd, bdL, bdL_append]) _ | (simp [bdL, bdL_append, AV.bd]; done) | fail) ?_ | refine ro_e (by rfl) (by simp only [renL, AV.ren, ren_strsA, ren_intsA, ren_levelsA, ren_grulesA, ren_newAs, ren_intA, ren_strs]; exact rfl) ?_)) (by rfl) (by (rw [hm]; exact rfl)) (by rfl) (by (simp [bdT, AV.bd, bdL, bdL_append]; done)) (by repeat' (first | exact True.intro | refine And.intro ?_ ?_ | exact bdL_map (fun _ => by first | exact rfl | simp [AV.bd, bdL, bdL_append]) _ | (simp [bdOq, bdL, bdL_append, AV.bd]; done))) (by (rw [hm]; exact Nat.le_of_ble_eq_true rfl))⟩
      | true => simp only [cond_true, Option.map_some, bldO_ren]; exact ⟨[0, 1, 2, 6, 7, 5], ToR.S rfl (by repeat' (first | exact rt_nil | refine rt_t (by rfl) (by rfl) ?_ | refine rt_e (by rfl) (by rfl) ?_ | refine rt_p (by rfl) (by rfl) (by first | (simp [AV.bd, bdL, bdL_append]; done) | fail) ?_)) (by repeat' (first | exact ro_nil | refine ro_p (by rfl) (by first | exact rfl | fail) (by first | exact bdL_map (fun _ => by first | exact rfl | simp [AV.bd, bdL, bdL_append]) _ | (simp [bdL, bdL_append, AV.bd]; done) | fail) ?_ | refine ro_e (by rfl) (by simp only [renL, AV.ren, ren_strsA, ren_intsA, ren_levelsA, ren_grulesA, ren_newAs, ren_intA, ren_strs]; exact rfl) ?_)) (by rfl) (by (rw [hm]; exact rfl)) (by rfl) (by (simp [bdT, AV.bd, bdL, bdL_append]; done)) (by repeat' (first | exact True.intro | refine And.intro ?_ ?_ | exact bdL_map (fun _ => by first | exact rfl | simp [AV.bd, bdL, bdL_append]) _ | (simp [bdOq, bdL, bdL_append, AV.bd]; done))) (by (rw [hm]; exact Nat.le_of_ble_eq_true rfl))⟩
  clear hmv
  rintro s' ⟨mv, ex, hmv, hT⟩
  refine go_n ?_
  refine wp_st _ hT ?_
  clear hT s'
  (repeat' (first | apply jA | apply jF | apply jH | apply jN | (refine wp_cond (by rfl) (fun hc => ?_) (fun hc => ?_) <;> (try simp only [sB, ne_eq, reduceCtorEq] at hc) <;> (try (exfalso; omega))) | (refine WP.regionC (id := 21) ?_; (refine smove rfl ?_); (refine su (asub rfl rfl (by exact inr_i64_of (by omega))) ?_); (refine se_lit (OpP.cons (by rfl) (OpP.nil)) (by rfl) (by rfl) (by rfl) (by rfl) (by rfl) (by rfl) ?_); (refine smove rfl ?_); (refine se_app (by rfl) (by rfl) (by rfl) (by rfl) (by rfl) (by rfl) (by rfl) (by rfl) (by (simp only [sL] <;> omega)) ?_); (refine sassign rfl ?_); apply jW) | (refine WP.regionC (id := 22) ?_; (refine sfieldp rfl rfl rfl ?_); (refine sloadp rfl rfl rfl rfl ?_); apply jW) | (refine WP.regionC (id := 24) ?_; (refine seql rfl rfl ?_); (refine sassign rfl ?_); apply jW) | (refine WP.regionC (id := 25) ?_; (refine smove rfl ?_); (refine su (ap_build (RqP.cons (rq_p rfl rfl) (RqP.nil)) (by rfl)) ?_); (refine smove rfl ?_); (refine smove rfl ?_); (refine su (ap_build (RqP.cons (rq_p rfl rfl) (RqP.cons (rq_p rfl rfl) (RqP.nil))) (by rfl)) ?_); (refine se_lit (OpP.cons (by rfl) (OpP.cons (by rfl) (OpP.nil))) (by rfl) (by rfl) (by rfl) (by rfl) (by rfl) (by rfl) ?_); (refine sassign rfl ?_); apply jW) | (refine WP.regionC (id := 26) ?_; (refine seql rfl rfl ?_); (refine sassign rfl ?_); apply jW) | (refine WP.regionC (id := 27) ?_; (refine smove rfl ?_); (refine su (ap_build (RqP.cons (rq_p rfl rfl) (RqP.nil)) (by rfl)) ?_); (refine smove rfl ?_); (refine smove rfl ?_); (refine su (ap_build (RqP.cons (rq_p rfl rfl) (RqP.cons (rq_p rfl rfl) (RqP.nil))) (by rfl)) ?_); (refine se_lit (OpP.cons (by rfl) (OpP.cons (by rfl) (OpP.nil))) (by rfl) (by rfl) (by rfl) (by rfl) (by rfl) (by rfl) ?_); (refine sassign rfl ?_); apply jW) | (refine WP.regionC (id := 23) ?_; (refine smove rfl ?_); (refine smove rfl ?_); (refine su (ap_build (RqP.cons (rq_p rfl rfl) (RqP.cons (rq_p rfl rfl) (RqP.nil))) (by rfl)) ?_); (refine smove rfl ?_); (refine smove rfl ?_); (refine su (ap_build (RqP.cons (rq_p rfl rfl) (RqP.cons (rq_p rfl rfl) (RqP.nil))) (by rfl)) ?_); (refine se_lit (OpP.cons (by rfl) (OpP.cons (by rfl) (OpP.nil))) (by rfl) (by rfl) (by rfl) (by rfl) (by rfl) (by rfl) ?_); (refine sassign rfl ?_); apply jW)))
  · refine wp_nilx 8 1 1 [] _ (by rfl) (by rfl) ?_
    refine wp_frzm (L := outR (namS d s).length [[], z]) (f := ruleA) 11 hm rfl rfl rfl (fun _ => by simp [AV.bd, bdL]) (fun _ => rfl) (by rfl) ?_
    have hF : finB k (d.self s) [z] = [[], z] := by
      unfold finB
      rw [hself]
      rw [if_pos (by assumption)]; rfl
    rw [hF]
    (repeat' (first | apply jA | apply jH | (refine wp_draw (id := 28) 15 mixed (by kernel_rfl) (by kernel_rfl) rfl ?_ <;> (refine rmove rfl ?_) <;> (refine rnilc rfl ?_) <;> (refine rfieldp rfl rfl rfl ?_) <;> (refine rloadp rfl rfl rfl rfl ?_) <;> (refine rmove rfl ?_) <;> (refine rmove rfl ?_) <;> (refine rnilc rfl ?_) <;> (refine rfieldp rfl rfl rfl ?_) <;> (refine rfieldp rfl rfl rfl ?_) <;> (refine rloadp rfl rfl rfl rfl ?_) <;> (refine rd_u (by rfl) (by rfl) (alenm rfl rfl) ?_) <;> (refine rd_u (by rfl) (by rfl) (asub rfl rfl (by exact inr_i64_of (by omega))) ?_) <;> (refine rmove rfl ?_) <;> (refine rd_u (by rfl) (by rfl) (aidxrz rfl rfl (by omega)) ?_) <;> (refine rd_store_n (by rfl) (by rfl) (by omega) (by rfl) (by intro r; cases r <;> rfl) (by rfl) (by rfl) (by rfl) ?_) <;> (refine rd_end (by kernel_rfl) ?_)) | (refine WP.regionC (id := 29) ?_; (refine smove rfl ?_); (refine su (asub rfl rfl (by exact inr_i64_of (by omega))) ?_); (refine se_lit (OpP.cons (by rfl) (OpP.nil)) (by rfl) (by rfl) (by rfl) (by rfl) (by rfl) (by rfl) ?_); (refine sassign rfl ?_); apply jW)))
    refine wp_frzm (L := [-1 - ((namS d s).length : Int)]) (f := intA) 6 hm rfl rfl rfl (fun _ => rfl) (fun _ => rfl) (by rfl) ?_
    (repeat' (first | apply jK | apply jS))
    obtain ⟨hA, hO, hW, hN⟩ := bld_set f d t hnm [[], z] hnl (show (((namS d s).length : Int) - f.rules.length).toNat = s.extra.length by omega) (by simp [outR])
    rw [← hW]
    cases mv with
    | false =>
      refine retQ_L (x := intsA [-1 - ((namS d s).length : Int)]) (X := intsA [-1 - ((namS d s).length : Int)]) (k := 5) (os1 := [(0, some (bldA f d t 1 3)), (1, some (.arr 1 ((namS d s ++ ex).map strA))), (3, some (bldW d ⟨t.count, t.extra.set s.extra.length (d.newName (s.count + 1), [[], z]), t.ok⟩))]) (.tmp (by rfl) .nil) (by rfl) ⟨[0, 1, 2, 3, 4], ToR.S rfl (by repeat' (first | exact rt_nil | refine rt_e (by rfl) (by rfl) ?_)) (by repeat' (first | exact ro_nil | refine ro_p (by rfl) (by first | exact rfl | fail) (by first | exact bdL_map (fun _ => by first | exact rfl | simp [AV.bd, bdL, bdL_append]) _ | fail) ?_ | refine ro_e (by rfl) (by simp only [renL, AV.ren, ren_strsA, ren_intsA, ren_levelsA, ren_grulesA, ren_newAs, ren_intA, ren_strs]; exact rfl) ?_)) (by rfl) (by rfl) (by rfl) (by (simp [bdT, AV.bd, bdL, bdL_append]; done)) (by repeat' (first | exact True.intro | refine And.intro ?_ ?_ | exact bdL_map (fun _ => by first | exact rfl | simp [AV.bd, bdL, bdL_append]) _ | (simp [bdOq, bdL, bdL_append, AV.bd]; done))) (by exact Nat.le_of_ble_eq_true rfl)⟩ (by rfl) (by exact Nat.le_of_ble_eq_true rfl) (by rfl) ?_
      refine ⟨by rw [hself], false, ex, fun _ => ?_, ?_⟩
      · rw [hN]; exact hmv rfl
      · rw [hA, hO]; rfl
    | true =>
      refine retQ_L (x := intsA [-1 - ((namS d s).length : Int)]) (X := intsA [-1 - ((namS d s).length : Int)]) (k := 5) (os1 := [(0, some (bldA f d t 4 3)), (1, some (.arr 1 ((namS d s ++ ex).map strA))), (3, some (bldW d ⟨t.count, t.extra.set s.extra.length (d.newName (s.count + 1), [[], z]), t.ok⟩)), (4, some (bldO d t))]) (.tmp (by rfl) .nil) (by rfl) ⟨[0, 1, 2, 3, 4], ToR.S rfl (by repeat' (first | exact rt_nil | refine rt_e (by rfl) (by rfl) ?_)) (by repeat' (first | exact ro_nil | refine ro_p (by rfl) (by first | exact rfl | fail) (by first | exact bdL_map (fun _ => by first | exact rfl | simp [AV.bd, bdL, bdL_append]) _ | fail) ?_ | refine ro_e (by rfl) (by simp only [renL, AV.ren, ren_strsA, ren_intsA, ren_levelsA, ren_grulesA, ren_newAs, ren_intA, ren_strs]; exact rfl) ?_)) (by rfl) (by rfl) (by rfl) (by (simp [bdT, AV.bd, bdL, bdL_append]; done)) (by repeat' (first | exact True.intro | refine And.intro ?_ ?_ | exact bdL_map (fun _ => by first | exact rfl | simp [AV.bd, bdL, bdL_append]) _ | (simp [bdOq, bdL, bdL_append, AV.bd]; done))) (by exact Nat.le_of_ble_eq_true rfl)⟩ (by rfl) (by exact Nat.le_of_ble_eq_true rfl) (by rfl) ?_
      refine ⟨by rw [hself], true, ex, (fun h => by cases h), ?_⟩
      rw [hA, hO]; rfl
  · refine wp_nilx 8 1 1 [] _ (by rfl) (by rfl) ?_
    refine wp_frzxm (id := 7) (k := 1) (f := intA) (L := (-1 - ((namS d s).length : Int)) :: z) 8 1 [_] _ hm (by rfl) (by rfl) (by rfl) (by rfl) (by simp) (fun _ => rfl) (fun _ => rfl) (by rfl) ?_
    refine wp_frzm (L := outR (namS d s).length [[], (-1 - ((namS d s).length : Int)) :: z]) (f := ruleA) 11 hm rfl rfl rfl (fun _ => by simp [AV.bd, bdL]) (fun _ => rfl) (by rfl) ?_
    have hF : finB k (d.self s) [z] = [[], (-1 - ((namS d s).length : Int)) :: z] := by
      unfold finB
      rw [hself]
      rw [if_neg (by omega), if_pos (by assumption)]; rfl
    rw [hF]
    (repeat' (first | apply jA | apply jH | (refine wp_draw (id := 28) 15 mixed (by kernel_rfl) (by kernel_rfl) rfl ?_ <;> (refine rmove rfl ?_) <;> (refine rnilc rfl ?_) <;> (refine rfieldp rfl rfl rfl ?_) <;> (refine rloadp rfl rfl rfl rfl ?_) <;> (refine rmove rfl ?_) <;> (refine rmove rfl ?_) <;> (refine rnilc rfl ?_) <;> (refine rfieldp rfl rfl rfl ?_) <;> (refine rfieldp rfl rfl rfl ?_) <;> (refine rloadp rfl rfl rfl rfl ?_) <;> (refine rd_u (by rfl) (by rfl) (alenm rfl rfl) ?_) <;> (refine rd_u (by rfl) (by rfl) (asub rfl rfl (by exact inr_i64_of (by omega))) ?_) <;> (refine rmove rfl ?_) <;> (refine rd_u (by rfl) (by rfl) (aidxrz rfl rfl (by omega)) ?_) <;> (refine rd_store_n (by rfl) (by rfl) (by omega) (by rfl) (by intro r; cases r <;> rfl) (by rfl) (by rfl) (by rfl) ?_) <;> (refine rd_end (by kernel_rfl) ?_)) | (refine WP.regionC (id := 29) ?_; (refine smove rfl ?_); (refine su (asub rfl rfl (by exact inr_i64_of (by omega))) ?_); (refine se_lit (OpP.cons (by rfl) (OpP.nil)) (by rfl) (by rfl) (by rfl) (by rfl) (by rfl) (by rfl) ?_); (refine sassign rfl ?_); apply jW)))
    refine wp_frzm (L := [-1 - ((namS d s).length : Int)]) (f := intA) 6 hm rfl rfl rfl (fun _ => rfl) (fun _ => rfl) (by rfl) ?_
    (repeat' (first | apply jK | apply jS))
    obtain ⟨hA, hO, hW, hN⟩ := bld_set f d t hnm [[], (-1 - ((namS d s).length : Int)) :: z] hnl (show (((namS d s).length : Int) - f.rules.length).toNat = s.extra.length by omega) (by simp [outR])
    rw [← hW]
    cases mv with
    | false =>
      refine retQ_L (x := intsA [-1 - ((namS d s).length : Int)]) (X := intsA [-1 - ((namS d s).length : Int)]) (k := 5) (os1 := [(0, some (bldA f d t 1 3)), (1, some (.arr 1 ((namS d s ++ ex).map strA))), (3, some (bldW d ⟨t.count, t.extra.set s.extra.length (d.newName (s.count + 1), [[], (-1 - ((namS d s).length : Int)) :: z]), t.ok⟩))]) (.tmp (by rfl) .nil) (by rfl) ⟨[0, 1, 2, 3, 4], ToR.S rfl (by repeat' (first | exact rt_nil | refine rt_e (by rfl) (by rfl) ?_)) (by repeat' (first | exact ro_nil | refine ro_p (by rfl) (by first | exact rfl | fail) (by first | exact bdL_map (fun _ => by first | exact rfl | simp [AV.bd, bdL, bdL_append]) _ | fail) ?_ | refine ro_e (by rfl) (by simp only [renL, AV.ren, ren_strsA, ren_intsA, ren_levelsA, ren_grulesA, ren_newAs, ren_intA, ren_strs]; exact rfl) ?_)) (by rfl) (by rfl) (by rfl) (by (simp [bdT, AV.bd, bdL, bdL_append]; done)) (by repeat' (first | exact True.intro | refine And.intro ?_ ?_ | exact bdL_map (fun _ => by first | exact rfl | simp [AV.bd, bdL, bdL_append]) _ | (simp [bdOq, bdL, bdL_append, AV.bd]; done))) (by exact Nat.le_of_ble_eq_true rfl)⟩ (by rfl) (by exact Nat.le_of_ble_eq_true rfl) (by rfl) ?_
      refine ⟨by rw [hself], false, ex, fun _ => ?_, ?_⟩
      · rw [hN]; exact hmv rfl
      · rw [hA, hO]; rfl
    | true =>
      refine retQ_L (x := intsA [-1 - ((namS d s).length : Int)]) (X := intsA [-1 - ((namS d s).length : Int)]) (k := 5) (os1 := [(0, some (bldA f d t 4 3)), (1, some (.arr 1 ((namS d s ++ ex).map strA))), (3, some (bldW d ⟨t.count, t.extra.set s.extra.length (d.newName (s.count + 1), [[], (-1 - ((namS d s).length : Int)) :: z]), t.ok⟩)), (4, some (bldO d t))]) (.tmp (by rfl) .nil) (by rfl) ⟨[0, 1, 2, 3, 4], ToR.S rfl (by repeat' (first | exact rt_nil | refine rt_e (by rfl) (by rfl) ?_)) (by repeat' (first | exact ro_nil | refine ro_p (by rfl) (by first | exact rfl | fail) (by first | exact bdL_map (fun _ => by first | exact rfl | simp [AV.bd, bdL, bdL_append]) _ | fail) ?_ | refine ro_e (by rfl) (by simp only [renL, AV.ren, ren_strsA, ren_intsA, ren_levelsA, ren_grulesA, ren_newAs, ren_intA, ren_strs]; exact rfl) ?_)) (by rfl) (by rfl) (by rfl) (by (simp [bdT, AV.bd, bdL, bdL_append]; done)) (by repeat' (first | exact True.intro | refine And.intro ?_ ?_ | exact bdL_map (fun _ => by first | exact rfl | simp [AV.bd, bdL, bdL_append]) _ | (simp [bdOq, bdL, bdL_append, AV.bd]; done))) (by exact Nat.le_of_ble_eq_true rfl)⟩ (by rfl) (by exact Nat.le_of_ble_eq_true rfl) (by rfl) ?_
      refine ⟨by rw [hself], true, ex, (fun h => by cases h), ?_⟩
      rw [hA, hO]; rfl
  · refine wp_frzxm (id := 7) (k := 1) (f := intA) (L := (-1 - ((namS d s).length : Int)) :: z) 8 1 [_] _ hm (by rfl) (by rfl) (by rfl) (by rfl) (by simp) (fun _ => rfl) (fun _ => rfl) (by rfl) ?_
    refine wp_frzm (L := outR (namS d s).length [z, (-1 - ((namS d s).length : Int)) :: z]) (f := ruleA) 11 hm rfl rfl rfl (fun _ => by simp [AV.bd, bdL]) (fun _ => rfl) (by rfl) ?_
    have hF : finB k (d.self s) [z] = [z, (-1 - ((namS d s).length : Int)) :: z] := by
      unfold finB
      rw [hself]
      rw [if_neg (by omega), if_neg (by omega), if_pos (by omega)]; rfl
    rw [hF]
    (repeat' (first | apply jA | apply jH | (refine wp_draw (id := 28) 15 mixed (by kernel_rfl) (by kernel_rfl) rfl ?_ <;> (refine rmove rfl ?_) <;> (refine rnilc rfl ?_) <;> (refine rfieldp rfl rfl rfl ?_) <;> (refine rloadp rfl rfl rfl rfl ?_) <;> (refine rmove rfl ?_) <;> (refine rmove rfl ?_) <;> (refine rnilc rfl ?_) <;> (refine rfieldp rfl rfl rfl ?_) <;> (refine rfieldp rfl rfl rfl ?_) <;> (refine rloadp rfl rfl rfl rfl ?_) <;> (refine rd_u (by rfl) (by rfl) (alenm rfl rfl) ?_) <;> (refine rd_u (by rfl) (by rfl) (asub rfl rfl (by exact inr_i64_of (by omega))) ?_) <;> (refine rmove rfl ?_) <;> (refine rd_u (by rfl) (by rfl) (aidxrz rfl rfl (by omega)) ?_) <;> (refine rd_store_n (by rfl) (by rfl) (by omega) (by rfl) (by intro r; cases r <;> rfl) (by rfl) (by rfl) (by rfl) ?_) <;> (refine rd_end (by kernel_rfl) ?_)) | (refine WP.regionC (id := 29) ?_; (refine smove rfl ?_); (refine su (asub rfl rfl (by exact inr_i64_of (by omega))) ?_); (refine se_lit (OpP.cons (by rfl) (OpP.nil)) (by rfl) (by rfl) (by rfl) (by rfl) (by rfl) (by rfl) ?_); (refine sassign rfl ?_); apply jW)))
    refine wp_frzm (L := [-1 - ((namS d s).length : Int)]) (f := intA) 6 hm rfl rfl rfl (fun _ => rfl) (fun _ => rfl) (by rfl) ?_
    (repeat' (first | apply jK | apply jS))
    obtain ⟨hA, hO, hW, hN⟩ := bld_set f d t hnm [z, (-1 - ((namS d s).length : Int)) :: z] hnl (show (((namS d s).length : Int) - f.rules.length).toNat = s.extra.length by omega) (by simp [outR])
    rw [← hW]
    cases mv with
    | false =>
      refine retQ_L (x := intsA [-1 - ((namS d s).length : Int)]) (X := intsA [-1 - ((namS d s).length : Int)]) (k := 5) (os1 := [(0, some (bldA f d t 1 3)), (1, some (.arr 1 ((namS d s ++ ex).map strA))), (3, some (bldW d ⟨t.count, t.extra.set s.extra.length (d.newName (s.count + 1), [z, (-1 - ((namS d s).length : Int)) :: z]), t.ok⟩))]) (.tmp (by rfl) .nil) (by rfl) ⟨[0, 1, 2, 3, 4], ToR.S rfl (by repeat' (first | exact rt_nil | refine rt_e (by rfl) (by rfl) ?_)) (by repeat' (first | exact ro_nil | refine ro_p (by rfl) (by first | exact rfl | fail) (by first | exact bdL_map (fun _ => by first | exact rfl | simp [AV.bd, bdL, bdL_append]) _ | fail) ?_ | refine ro_e (by rfl) (by simp only [renL, AV.ren, ren_strsA, ren_intsA, ren_levelsA, ren_grulesA, ren_newAs, ren_intA, ren_strs]; exact rfl) ?_)) (by rfl) (by rfl) (by rfl) (by (simp [bdT, AV.bd, bdL, bdL_append]; done)) (by repeat' (first | exact True.intro | refine And.intro ?_ ?_ | exact bdL_map (fun _ => by first | exact rfl | simp [AV.bd, bdL, bdL_append]) _ | (simp [bdOq, bdL, bdL_append, AV.bd]; done))) (by exact Nat.le_of_ble_eq_true rfl)⟩ (by rfl) (by exact Nat.le_of_ble_eq_true rfl) (by rfl) ?_
      refine ⟨by rw [hself], false, ex, fun _ => ?_, ?_⟩
      · rw [hN]; exact hmv rfl
      · rw [hA, hO]; rfl
    | true =>
      refine retQ_L (x := intsA [-1 - ((namS d s).length : Int)]) (X := intsA [-1 - ((namS d s).length : Int)]) (k := 5) (os1 := [(0, some (bldA f d t 4 3)), (1, some (.arr 1 ((namS d s ++ ex).map strA))), (3, some (bldW d ⟨t.count, t.extra.set s.extra.length (d.newName (s.count + 1), [z, (-1 - ((namS d s).length : Int)) :: z]), t.ok⟩)), (4, some (bldO d t))]) (.tmp (by rfl) .nil) (by rfl) ⟨[0, 1, 2, 3, 4], ToR.S rfl (by repeat' (first | exact rt_nil | refine rt_e (by rfl) (by rfl) ?_)) (by repeat' (first | exact ro_nil | refine ro_p (by rfl) (by first | exact rfl | fail) (by first | exact bdL_map (fun _ => by first | exact rfl | simp [AV.bd, bdL, bdL_append]) _ | fail) ?_ | refine ro_e (by rfl) (by simp only [renL, AV.ren, ren_strsA, ren_intsA, ren_levelsA, ren_grulesA, ren_newAs, ren_intA, ren_strs]; exact rfl) ?_)) (by rfl) (by rfl) (by rfl) (by (simp [bdT, AV.bd, bdL, bdL_append]; done)) (by repeat' (first | exact True.intro | refine And.intro ?_ ?_ | exact bdL_map (fun _ => by first | exact rfl | simp [AV.bd, bdL, bdL_append]) _ | (simp [bdOq, bdL, bdL_append, AV.bd]; done))) (by exact Nat.le_of_ble_eq_true rfl)⟩ (by rfl) (by exact Nat.le_of_ble_eq_true rfl) (by rfl) ?_
      refine ⟨by rw [hself], true, ex, (fun h => by cases h), ?_⟩
      rw [hA, hO]; rfl
end Go.Lg

namespace Go.Lg
theorem sym_ok (d : DEn) (n : ByteArray) (s : DSt) : (d.sym n s).2.ok = (s.ok && !decide (idx (d.names ++ d.terms) n < 0)) := by
  have h1 := idx_any d.names n
  have h2 := idx_any d.terms n
  have h3 := idx_any (d.names ++ d.terms) n
  rw [List.any_append, h1, h2] at h3
  unfold DEn.sym
  by_cases a : 0 ≤ idx d.names n
  · rw [if_pos a]
    have : decide (idx d.names n < 0) = false := decide_eq_false (by omega)
    rw [this] at h3
    rw [← h3]
    simp
  · rw [if_neg a]
    have : decide (idx d.names n < 0) = true := decide_eq_true (by omega)
    rw [this] at h3
    rw [← h3]
    simp only [Bool.not_true, Bool.false_or]
    congr 1
    by_cases b : 0 ≤ idx d.terms n
    · simp [b, show ¬ idx d.terms n < 0 by omega]
    · simp [b, show idx d.terms n < 0 by omega]
theorem okK_one {k : Int} {n : ByteArray} {m : Nat} (h : okK k n m = true) (h1 : k = 1) : m = 0 := by
  subst h1
  unfold okK at h
  simp at h
  exact h.2
theorem okK_more {k : Int} {n : ByteArray} {m : Nat} (h : okK k n m = true) (h1 : k ≠ 1) (h2 : k ≠ 2) (h3 : k ≠ 3) : m = 1 ∧ (k = 4 ∨ k = 5 ∨ k = 6) := by
  unfold okK at h
  simp [h1, h2, h3] at h
  omega
theorem okK_alt {n : ByteArray} {m : Nat} (h : okK 3 n m = true) : 2 ≤ m := by
  unfold okK at h
  simp at h
  exact h.2
theorem knownE_eq (l : List ByteArray) (e : GEx) : knownE l e = (!(decide (e.kind = 1) && decide (idx l e.name < 0)) && e.kids.all (knownE l)) := by cases e; rw [knownE_mk]; rfl
theorem symE_ok (d : DEn) (e : GEx) : ∀ dd : Int, okE e dd = true → ∀ s : DSt, (d.symE e s).2.ok = (s.ok && knownE (d.names ++ d.terms) e) := by
  induction e using GEx.ind with
  | h e ih =>
    intro dd he s
    rw [okE_eq] at he
    simp only [Bool.and_eq_true, List.all_eq_true, decide_eq_true_eq] at he
    have hL : ∀ l : List GEx, (∀ x, x ∈ l → x ∈ e.kids) → ∀ s : DSt, (d.symL l s).2.ok = (s.ok && l.all (knownE (d.names ++ d.terms))) := by
      intro l
      induction l with
      | nil => intro _ s; rw [DEn.symL]; simp
      | cons x l ihl =>
        intro hl s
        rw [DEn.symL]
        simp only
        rw [ihl (fun y hy => hl y (by simp [hy])), ih x (hl x (by simp)) _ (he.2 x (hl x (by simp))), List.all_cons, Bool.and_assoc]
    rw [knownE_eq, DEn.symE_eq]
    by_cases h1 : e.kind = 1
    · have hk : e.kids = [] := List.eq_nil_of_length_eq_zero (okK_one he.1.2 h1)
      rw [if_pos h1, hk]
      simp only [sym_ok, h1, decide_true, Bool.true_and, List.all_nil, Bool.and_true]
    · rw [if_neg h1]
      by_cases h2 : e.kind = 2
      · rw [if_pos h2]
        simp only [hL e.kids (fun _ h => h), h1, decide_false, Bool.false_and, Bool.not_false, Bool.true_and]
      · rw [if_neg h2]
        simp only [hL e.kids (fun _ h => h), h1, decide_false, Bool.false_and, Bool.not_false, Bool.true_and, DEn.start]
theorem daltTo_ok (d : DEn) (i : Nat) (x : DRes) (l : List GAl) (hl : ∀ a, a ∈ l → ∃ dd, okE a.body dd = true) : ∀ k, k ≤ l.length → (daltTo d i x l k).st.ok = (x.st.ok && (l.take k).all fun a => knownE (d.names ++ d.terms) a.body)
  | 0, _ => by simp [daltTo]
  | k + 1, h => by
    obtain ⟨dd, hdd⟩ := hl _ (nth_mem (l := l) (k := k) (by omega))
    rw [take_succ_nth (by omega), List.all_append]
    simp only [daltTo, stepA]
    rw [symE_ok d _ dd hdd, daltTo_ok d i x l hl k (by omega)]
    simp [Bool.and_assoc]
def kRule (f : GFi) (terms : List ByteArray) (r : GRu) : Bool := r.alts.all fun a => knownE (ruleNames f ++ terms) a.body
theorem drulTo_ok (f : GFi) (terms : List ByteArray) (hf : ∀ r, r ∈ f.rules → ∀ a, a ∈ r.alts → ∃ dd, okE a.body dd = true) : ∀ k, k ≤ f.rules.length → (drulTo f terms k).st.ok = (f.rules.take k).all (kRule f terms)
  | 0, _ => by simp [drulTo]
  | k + 1, h => by
    have hr : (drulTo f terms k).reset.st.ok = (drulTo f terms k).st.ok := rfl
    rw [take_succ_nth (by omega), List.all_append]
    simp only [drulTo]
    rw [daltTo_ok _ _ _ _ (hf _ (nth_mem (by omega))) _ (Nat.le_refl _), hr, drulTo_ok f terms hf k (by omega), List.take_length]
    simp [kRule, envOf, ruleNames]
theorem valid_ok {f : GFi} (h : validF f = true) : ∀ r, r ∈ f.rules → ∀ a, a ∈ r.alts → ∃ dd, okE a.body dd = true := by
  intro r hr a ha
  unfold validF at h
  simp only [Bool.and_eq_true] at h
  have h1 := List.all_eq_true.1 h.1.1.1.1.2 r hr
  unfold gruleOk at h1
  simp only [Bool.and_eq_true] at h1
  have h2 := List.all_eq_true.1 h1.2 a ha
  unfold altOk at h2
  simp only [Bool.and_eq_true] at h2
  exact ⟨_, h2.2⟩
end Go.Lg

namespace Go.Lg
open Go.Proofs
set_option linter.unusedSimpArgs false
set_option linter.unusedVariables false
attribute [local irreducible] Ap Rq asemC WP RunD Ret Gq thenA inBlockA bodyQ noGotoA RqL RqP OpP
theorem idx_or {a b : List ByteArray} {n : ByteArray} (h : ¬ idx (a ++ b) n < 0) : 0 ≤ idx a n ∨ 0 ≤ idx b n := by
  have h1 := idx_any a n
  have h2 := idx_any b n
  have h3 := idx_any (a ++ b) n
  rw [List.any_append, h1, h2, decide_eq_false h] at h3
  by_cases h4 : 0 ≤ idx a n
  · exact .inl h4
  · by_cases h5 : 0 ≤ idx b n
    · exact .inr h5
    · rw [decide_eq_true (show idx a n < 0 by omega), decide_eq_true (show idx b n < 0 by omega)] at h3
      cases h3
theorem rsym_fn (f : GFi) (d : DEn) (hd : d.names = ruleNames f) (hf : f.rules.length ≤ 10000) (hru : d.rule.size ≤ 100000) (e : GEx) : ∀ dd : Int, okE e dd = true → knownE (d.names ++ d.terms) e = true → RSym f d e := by
  induction e using GEx.ind with
  | h e ih =>
    intro dd he hk
    rw [okE_eq] at he
    simp only [Bool.and_eq_true, List.all_eq_true, decide_eq_true_eq] at he
    rw [knownE_eq, Bool.and_eq_true, List.all_eq_true] at hk
    have hkids : ∀ x, x ∈ e.kids → RSym f d x := fun x hx => ih x hx (dd - 1) (he.2 x hx) (hk.2 x hx)
    cases e with
    | mk k n l =>
      simp only [GEx.kind, GEx.name, GEx.kids] at he hk hkids
      by_cases h1 : k = 1
      · subst h1
        refine rsym1 f d hd (by omega) n l (idx_or ?_)
        intro hlt
        have := hk.1
        simp only [decide_true, Bool.true_and, Bool.not_eq_true'] at this
        exact of_decide_eq_false this hlt
      · by_cases h2 : k = 2
        · subst h2; exact rsym2 f d n l hkids
        · by_cases h3 : k = 3
          · subst h3
            have := okK_alt he.1.2
            exact rsym3 f d hd hf hru n l (by omega) hkids
          · obtain ⟨h4, h5⟩ := okK_more he.1.2 h1 h2 h3
            obtain ⟨x, rfl⟩ := List.length_eq_one_iff.1 h4
            exact rsym4 f d hd hf hru n k h5 x (hkids x (by simp))
theorem desugarP_unknown {f : GFi} {terms : List ByteArray} (hval : (validF f && termsOk terms) = true) {i k : Nat} (hi : i < f.rules.length) (hk : k < (nth f.rules i).alts.length) (h : knownE (ruleNames f ++ terms) (nth (nth f.rules i).alts k).body = false) : desugarP f terms = (failG, [], 4) := by
  have hv := (Bool.and_eq_true _ _ ▸ hval).1
  have h1 := drulTo_ok f terms (valid_ok hv) f.rules.length (Nat.le_refl _)
  have h2 : (drulTo f terms f.rules.length).st.ok = false := by
    rw [h1, List.take_length, List.all_eq_false]
    refine ⟨_, nth_mem hi, ?_⟩
    unfold kRule
    rw [Bool.not_eq_true, List.all_eq_false]
    exact ⟨_, nth_mem hk, by rw [h]; decide⟩
  unfold desugarP
  rw [if_neg (by rw [hval]; decide), h2]
  rfl
theorem desugarP_known {f : GFi} {terms : List ByteArray} (hval : (validF f && termsOk terms) = true) (h : ∀ i, i < f.rules.length → ∀ k, k < (nth f.rules i).alts.length → knownE (ruleNames f ++ terms) (nth (nth f.rules i).alts k).body = true) :
    desugarP f terms = if (ruleNames f).any (fun s => terms.any fun x => decide (s = x)) then (failG, [], 14)
      else if !validG (desugarG f terms (drulTo f terms f.rules.length)) then (failG, [], 11)
      else (desugarG f terms (drulTo f terms f.rules.length), desugarN f (drulTo f terms f.rules.length), 0) := by
  have hv := (Bool.and_eq_true _ _ ▸ hval).1
  have h1 := drulTo_ok f terms (valid_ok hv) f.rules.length (Nat.le_refl _)
  have h2 : (drulTo f terms f.rules.length).st.ok = true := by
    rw [h1, List.take_length, List.all_eq_true]
    intro r hr
    obtain ⟨i, hi, rfl⟩ := List.getElem_of_mem hr
    unfold kRule
    rw [List.all_eq_true]
    intro a ha
    obtain ⟨k, hk, rfl⟩ := List.getElem_of_mem ha
    have h3 := h i hi k (by rw [nth_eq hi]; exact hk)
    rw [nth_eq (l := f.rules) hi] at h3
    rw [nth_eq hk] at h3
    exact h3
  unfold desugarP
  rw [if_neg (by rw [hval]; decide), h2]
  rfl
theorem newS_nth (d : DEn) (s : DSt) {i : Nat} (h : i < s.extra.length) : nth (newS d s) i = extR d.names.length i (nth s.extra i).2 := by
  have h1 := newS_len d s
  rw [nth_eq (by omega), nth_eq h]
  simp [newS]
end Go.Lg

namespace Go.Lg
open Go.Proofs
set_option linter.unusedSimpArgs false
set_option linter.unusedVariables false
attribute [local irreducible] Ap Rq asemC WP RunD Ret Gq thenA inBlockA bodyQ noGotoA RqL RqP OpP
set_option maxHeartbeats 8000000
set_option maxRecDepth 20000
attribute [local simp] AV.cells
theorem rules19_own (f : GFi) (hl : f.rules.length ≤ 100000) : FnO Tryd.prog 32 [fileA f] [] (.ref 0 1 0 (ruleNames f).length) [some (.arr 1 ((ruleNames f).map strA))] := by
  unfold fileA grulesA
  refine FnO.intro (by exact Nat.le_of_ble_eq_true rfl) rfl (by kernel_rfl) Tryd.func32 rfl rfl Tryd.ntmps32 (by exact Nat.le_of_ble_eq_true rfl) ?_; intro Γ hm
  (repeat' (first | apply jA | apply jF | apply jH | (refine WP.regionC (id := 0) ?_; (refine se_box rfl (by exact ⟨rfl, rfl⟩) ?_); (refine sassign rfl ?_); apply jW) | (refine WP.regionC ?_; (refine sassign rfl ?_); apply jW)))
  refine wp_nil 3 1 rfl ?_
  refine wp_loop (fun k => k ≤ f.rules.length) (fun k => f.rules.length - k) (fun k => (S 22 [(1, .ptr 0 3 0 0), (3, .ref 1 1 0 ((ruleNames f).take k).length), (4, intA (k : Nat))] 2 [(0, some (.arr 3 [fileA f])), (1, some (.arr 1 (((ruleNames f).take k).map strA)))])) 0 ⟨[0, 1], ToR.S rfl (by repeat' (first | exact rt_nil | refine rt_r rfl rfl ?_ | refine rt_t rfl rfl ?_ | refine rt_e rfl rfl ?_)) (by repeat' (first | exact ro_nil | refine ro_e rfl rfl ?_ | refine ro_p rfl (by first | exact rfl | fail) (by first | (simp [bdL, bdL_append, AV.bd]; done) | fail) ?_)) rfl (by (rw [hm]; exact rfl)) rfl (by (simp [bdT, AV.bd, bdL, bdL_append]; done)) (by repeat' (first | exact True.intro | exact rfl | refine And.intro ?_ ?_ | (simp [bdOq, bdL, bdL_append, AV.bd]; done))) (by (rw [hm]; exact Nat.le_of_ble_eq_true rfl))⟩ (Nat.zero_le _) ?_
  rintro k hk
  have hn : (ruleNames f).length = f.rules.length := by simp [ruleNames]
  unfold fileA grulesA
  by_cases h : k < f.rules.length
  · have e : (ruleNames f).take (k + 1) = (ruleNames f).take k ++ [(nth f.rules k).name] := by
      rw [take_succ_nth (by omega)]
      congr 1
      simp [ruleNames, nth_map GRu.name h]
    have hb : ((ruleNames f).take k).length ≤ 100000 := by simp; omega
    generalize hq : (ruleNames f).take k = q at *
    (repeat' (first | apply jA | apply jF | apply jH | apply jI | apply jN | (refine wp_cond rfl (fun hc => ?_) (fun hc => ?_) <;> (try simp only [sB, ne_eq, reduceCtorEq] at hc) <;> (try (exfalso; omega))) | (refine WP.regionC (id := 3) ?_; (refine smove rfl ?_); (refine sfieldp rfl rfl rfl ?_); (refine sloadp rfl rfl rfl rfl ?_); (refine slenm rfl rfl ?_); (refine slss rfl rfl ?_); apply jW) | (refine WP.regionC (id := 5) ?_; (refine smove rfl ?_); (refine sfieldp rfl rfl rfl ?_); (refine sloadp rfl rfl rfl rfl ?_); (refine smove rfl ?_); (refine sidxn rfl rfl (by omega) ?_); (refine su (afieldi rfl rfl rfl) ?_); (refine su (aloadi rfl rfl) ?_); (refine se_lit (OpP.cons rfl (OpP.nil)) rfl rfl rfl rfl rfl rfl ?_); (refine se_app1 rfl rfl rfl rfl rfl rfl rfl rfl (by omega) ?_); (refine sassign rfl ?_); apply jW) | (refine WP.regionC (id := 4) ?_; (refine smove rfl ?_); (refine sadd rfl rfl (by exact inr_i64_of (by omega)) ?_); (refine sassign rfl ?_); apply jW)))
    refine ⟨k + 1, ⟨by omega, by omega⟩, ?_⟩
    rw [e, List.length_append, List.map_append]
    exact ⟨[0, 3], ToR.S rfl (by repeat' (first | exact rt_nil | refine rt_r rfl rfl ?_ | refine rt_t rfl rfl ?_ | refine rt_e rfl rfl ?_)) (by repeat' (first | exact ro_nil | refine ro_p rfl (by first | exact rfl | fail) (by first | (simp [bdL, bdL_append, AV.bd]; done) | fail) ?_)) rfl (by (rw [hm]; exact rfl)) rfl (by (simp [bdT, AV.bd, bdL, bdL_append]; done)) (by repeat' (first | exact True.intro | refine And.intro ?_ ?_ | (simp [bdOq, bdL, bdL_append, AV.bd]; done))) (by (rw [hm]; exact Nat.le_of_ble_eq_true rfl))⟩
  · have : k = f.rules.length := by omega
    subst this
    have ht : (ruleNames f).take f.rules.length = ruleNames f := by rw [← hn, List.take_length]
    rw [ht]
    (repeat' (first | apply jA | apply jH | apply jJ | apply jK | apply jL | apply jP | apply jS | (refine wp_cond rfl (fun hc => ?_) (fun hc => ?_) <;> (try simp only [sB, ne_eq, reduceCtorEq] at hc) <;> (try (exfalso; omega))) | (refine WP.regionC (id := 3) ?_; (refine smove rfl ?_); (refine sfieldp rfl rfl rfl ?_); (refine sloadp rfl rfl rfl rfl ?_); (refine slenm rfl rfl ?_); (refine slss rfl rfl ?_); apply jW) | (refine WP.regionC (id := 6) ?_; (refine smove rfl ?_); (refine sassign rfl ?_); apply jW)))
    refine retO_L (x := .ref 1 1 0 (ruleNames f).length) (k := 1) (os1 := [(0, some (.arr 1 ((ruleNames f).map strA)))]) (.tmp rfl .nil) rfl ⟨[1], ToR.S rfl (by repeat' (first | exact rt_nil | refine rt_r rfl rfl ?_)) (by repeat' (first | exact ro_nil | refine ro_p rfl (by first | exact rfl | fail) (by first | exact bdL_map (fun _ => by exact rfl) _ | fail) ?_)) rfl rfl rfl (by (simp [bdT, AV.bd, bdL, bdL_append]; done)) (by repeat' (first | exact True.intro | refine And.intro ?_ ?_ | exact bdL_map (fun _ => by exact rfl) _)) (by exact Nat.le_of_ble_eq_true rfl)⟩ rfl
end Go.Lg

namespace Go.Lg
open Go.Proofs
set_option linter.unusedSimpArgs false
set_option linter.unusedVariables false
attribute [local irreducible] Ap Rq asemC WP RunD Ret Gq thenA inBlockA bodyQ noGotoA RqL RqP OpP
set_option maxHeartbeats 4000000
theorem indexFuncS_fn (l : List ByteArray) (g : FuncId) (cap : List AV) (p : ByteArray → Bool) (hcap : ∀ n, bdL n cap = true) (h : ∀ x, x ∈ l → Fn Tryd.prog g (strA x :: cap) (boolA (p x))) :
    Fn Tryd.prog 47 [strsA l, .clo (.func g) [] cap] (intA (indexP p l)) := by
  refine Fn.intro rfl (by kernel_rfl) Tryd.func47 rfl rfl Tryd.ntmps47 (by exact Nat.le_of_ble_eq_true rfl) ?_; intro Γ hm
  refine wp_lens 0 rfl fun h0 => ?_
  rw [lens_strsA] at h0
  (repeat' (first | apply jA | apply jF | apply jH | (refine WP.regionC (id := 0) ?_; (refine sassign rfl ?_); apply jW) | (refine WP.regionC (id := 1) ?_; (refine smove rfl ?_); (refine slenm rfl rfl ?_); (refine smove rfl ?_); apply jW)))
  refine wp_loop (fun k => k ≤ l.length ∧ (l.take k).any p = false) (fun k => l.length - k) (fun k => (S 19 [(0, strsA l), (1, .clo (.func g) [] cap), (7, intA (l.length : Nat)), (8, intA (k : Nat))] 0 [])) 0 ⟨[], ToR.S rfl (by repeat' (first | exact rt_nil | refine rt_e rfl rfl ?_ | refine rt_p rfl rfl (by first | (simp [AV.bd, bdL, bdL_append]; done) | (simp [AV.bd, bdL, bdL_append, *]; done) | fail) ?_)) (by repeat' (exact ro_nil)) rfl (by (rw [hm]; exact rfl)) rfl (by simp [bdT, AV.bd, bdL, bdL_append, *]) (by repeat' (exact True.intro)) (by (rw [hm]; exact Nat.le_of_ble_eq_true rfl))⟩ ⟨Nat.zero_le _, rfl⟩ ?_
  rintro k ⟨hk, hall⟩
  (repeat' (first | apply jA | apply jF | apply jH | apply jI | apply jJ | apply jK | apply jL | apply jM | apply jN | apply jO | apply jP | apply jS | (refine wp_cond rfl (fun hc => ?_) (fun hc => ?_) <;> (try simp only [sB, ne_eq, reduceCtorEq] at hc) <;> (try (exfalso; omega))) | (refine WP.regionC (id := 2) ?_; (refine slss rfl rfl ?_); apply jW) | (refine WP.regionC ?_; (refine smove rfl ?_); (refine sassign rfl ?_); apply jW) | (refine WP.regionC (id := 4) ?_; (refine smove rfl ?_); (refine smove rfl ?_); (refine smove rfl ?_); (refine sidxn rfl rfl (by omega) ?_); (refine sloadw rfl rfl ?_); (refine sc_p rfl rfl (by first | ((repeat' first | refine SubL.cons ?_ ?_ | exact SubL.rfl | exact Sub.refl); done) | fail) (by first | (simp [bdL, bdL_append, AV.bd, *]; done) | fail) (h _ (nth_mem (by omega))) ?_); apply jW) | (refine WP.regionC (id := 6) ?_; (refine sadd rfl rfl (by exact inr_i64_of (by omega)) ?_); (refine smove rfl ?_); apply jW) | (refine WP.regionC (id := 7) ?_; (refine sassign rfl ?_); apply jW) | refine ret_i rfl ?_))
  · exact (indexP_at (by omega) hall hc).symm
  · exact ⟨k + 1, ⟨by omega, by omega, take_any_succ (by omega) hall hc⟩, ⟨[], ToR.S rfl (by repeat' (first | exact rt_nil | refine rt_e rfl rfl ?_ | refine rt_p rfl rfl (by first | (simp [AV.bd, bdL, bdL_append]; done) | (simp [AV.bd, bdL, bdL_append, *]; done) | fail) ?_)) (by repeat' (exact ro_nil)) rfl (by (rw [hm]; exact rfl)) rfl (by simp [bdT, AV.bd, bdL, bdL_append, *]) (by repeat' (exact True.intro)) (by (rw [hm]; exact Nat.le_of_ble_eq_true rfl))⟩⟩
  · exact (indexP_no (by omega) hall).symm
theorem containsFuncS_fn (l : List ByteArray) (g : FuncId) (cap : List AV) (p : ByteArray → Bool) (hcap : ∀ n, bdL n cap = true) (h : ∀ x, x ∈ l → Fn Tryd.prog g (strA x :: cap) (boolA (p x))) :
    Fn Tryd.prog 26 [strsA l, .clo (.func g) [] cap] (boolA (l.any p)) := by
  refine Fn.intro rfl (by kernel_rfl) Tryd.func26 rfl rfl Tryd.ntmps26 (by exact Nat.le_of_ble_eq_true rfl) ?_; intro Γ hm
  (repeat' (first | apply jA | apply jH | apply jK | apply jS | (refine WP.regionC (id := 0) ?_; (refine sassign rfl ?_); apply jW) | (refine WP.regionC (id := 1) ?_; (refine smove rfl ?_); (refine smove rfl ?_); (refine sc_p rfl rfl (by first | ((repeat' first | exact SubL.nil | refine SubL.cons ?_ ?_ | exact Sub.refl); done) | fail) (by first | (simp [bdL, bdL_append, AV.bd, *]; done) | fail) (indexFuncS_fn _ _ _ p hcap h) ?_); (refine su (ageq rfl rfl) ?_); (refine sassign rfl ?_); apply jW) | refine ret_b rfl ?_))
  exact indexP_any
theorem desugar1_fn (terms : List ByteArray) (s : ByteArray) : Fn Tryd.prog 27 [strA s, .iptr [strsA terms] 0] (boolA (terms.any fun x => decide (s = x))) := by
  refine Fn.intro rfl (by kernel_rfl) Tryd.func27 rfl rfl Tryd.ntmps27 (by exact Nat.le_of_ble_eq_true rfl) ?_; intro Γ hm
  (repeat' (first | apply jA | apply jH | apply jK | apply jS | (refine WP.regionC (id := 0) ?_; (refine sassign rfl ?_); apply jW) | (refine WP.regionC (id := 1) ?_; (refine su (aloadi rfl rfl) ?_); (refine smove rfl ?_); (refine sc_p rfl rfl (by first | ((repeat' first | exact SubL.nil | refine SubL.cons ?_ ?_ | exact Sub.refl); done) | fail) (by first | (simp [bdL, bdL_append, AV.bd]; done) | fail) (containsS_fn _ _) ?_); (refine sassign rfl ?_); apply jW) | exact ret_eq rfl rfl rfl))
end Go.Lg
