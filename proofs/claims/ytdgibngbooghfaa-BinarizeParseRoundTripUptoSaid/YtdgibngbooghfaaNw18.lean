/-
  Part 18 of the proof of BinarizeParseRoundTripUpto: the logic over the model, the functions' contracts and the plain laws.
-/
import Derived.Test.YtdgibngbooghfaaNw17

set_option linter.unusedSimpArgs false
set_option linter.unusedVariables false
set_option linter.unusedSectionVars false
set_option linter.defProp false

namespace Go.Lg
open Go.Proofs
theorem bodyQ_r {Q : St → Prop} {s : St} (h : Q s) : bodyQ Q .ret s := h
set_option linter.unusedSimpArgs false
set_option linter.unusedVariables false
attribute [local irreducible] Ap Rq asemC WP RunD Ret Gq thenA inBlockA bodyQ noGotoA RqL RqP OpP
set_option maxHeartbeats 8000000
set_option maxRecDepth 20000
attribute [local simp] AV.cells
def numT (g : Gram) (a : Nat) : Int := if needT g a = true then tnum g a else -1
def numsT (g : Gram) : List Int := (List.range g.terms.length).map (numT g)
theorem nth_set_self {α : Type} [Inhabited α] {l : List α} {i : Nat} (v : α) (h : i < l.length) : nth (l.set i v) i = v := by simp [nth, List.getD, h]
def numsU (g : Gram) (a : Nat) : List Int := (List.range g.terms.length).map fun j => if j < a then numT g j else 0
theorem numsU_len (g : Gram) (a : Nat) : (numsU g a).length = g.terms.length := by simp [numsU]
theorem numsU_set (g : Gram) {a : Nat} (h : a < g.terms.length) : (numsU g a).set a (numT g a) = numsU g (a + 1) := by
  apply List.ext_getElem?
  intro j
  rw [List.getElem?_set]
  simp only [numsU, List.length_map, List.length_range, List.getElem?_map, List.getElem?_range]
  by_cases e : a = j
  · subst e; simp [h]
  · rw [if_neg e]
    by_cases hj : j < g.terms.length
    · simp only [List.getElem?_range hj, Option.map_some]
      have : (j < a) = (j < a + 1) := propext ⟨fun _ => by omega, fun _ => by omega⟩
      simp only [this]
    · simp [List.getElem?_eq_none (show (List.range g.terms.length).length ≤ j by simp; omega)]
theorem numsU_zero (g : Gram) : numsU g 0 = List.replicate g.terms.length 0 := by
  apply List.ext_getElem?
  intro j
  simp only [numsU, List.getElem?_map, List.getElem?_replicate]
  by_cases hj : j < g.terms.length
  · simp [List.getElem?_range hj, hj]
  · simp [List.getElem?_eq_none (show (List.range g.terms.length).length ≤ j by simp; omega), hj]
theorem numsU_all (g : Gram) : numsU g g.terms.length = numsT g := by
  unfold numsU numsT
  exact List.map_congr_left fun j hj => if_pos (List.mem_range.1 hj)
theorem needR_any {g : Gram} {a i : Nat} (hi : i ≤ g.rules.length) (h : g.rules.length ≤ i ∨ (g.rules.take i).any (needR a) = true) : (g.rules.take i).any (needR a) = needT g a := by
  rw [needT_eq]
  rcases h with h | h
  · rw [List.take_of_length_le h]
  · rw [h]
    rw [List.any_eq_true] at h
    obtain ⟨x, hx, hp⟩ := h
    exact (List.any_eq_true.2 ⟨x, List.mem_of_mem_take hx, hp⟩).symm
theorem numbers_fn (g : Gram) (hv : g.terms.length ≤ 1000) (hn : g.nonterms.length ≤ 1000) (hr : g.rules.length ≤ 1000) : Fn Try.prog 43 [gramA g] (.tup [intsA (numsT g), intA (baseN g)]) := by
  refine Fn.intro (by simp [AV.bd, bdL, bdL_append]) (by kernel_rfl) Try.func43 rfl rfl Try.ntmps43 (by exact Nat.le_of_ble_eq_true rfl) ?_; intro Γ hm
  (repeat' (first | apply jA | apply jF | apply jH | (refine WP.regionC (id := 0) ?_; (refine se_box rfl (by exact ⟨rfl, rfl⟩) ?_); (refine sassign rfl ?_); (refine sassign rfl ?_); apply jW) | (refine WP.regionC (id := 1) ?_; (refine sfieldp rfl rfl rfl ?_); (refine sloadp rfl rfl rfl rfl ?_); (refine slenm rfl rfl ?_); (refine se_makeT intA 0 rfl rfl rfl rfl rfl (by omega) ?_); (refine sassign rfl ?_); apply jW) | (refine WP.regionC (id := 2) ?_; (refine sfieldp rfl rfl rfl ?_); (refine sloadp rfl rfl rfl rfl ?_); (refine slenm rfl rfl ?_); (refine sassign rfl ?_); apply jW) | (refine WP.regionC (id := 3) ?_; (refine sassign rfl ?_); apply jW)))
  refine wp_loop (fun (a : Nat) => a ≤ g.terms.length) (fun a => g.terms.length - a)
    (fun a => (S 65 [(1, .ptr 0 4 0 0), (4, .ref 1 1 0 g.terms.length), (5, intA (tnum g a)), (6, intA (a : Nat))] 2 [(0, some (.arr 4 [gramA g])), (1, some (.arr 1 ((numsU g a).map intA)))])) 0 ?_ (Nat.zero_le _) ?_
  · rw [numsU_zero]
    exact ⟨[0, 1], ToR.S rfl (by repeat' (first | exact rt_nil | refine rt_r rfl rfl ?_ | refine rt_t rfl rfl ?_ | refine rt_e rfl rfl ?_)) (by repeat' (first | exact ro_nil | refine ro_p rfl (by first | exact rfl | fail) (by first | exact bdL_map (fun _ => by exact rfl) _ | (simp [bdL, bdL_append, AV.bd]; done) | fail) ?_)) rfl (by (rw [hm]; exact rfl)) rfl (by (simp [bdT, AV.bd, bdL, bdL_append]; done)) (by repeat' (first | exact True.intro | refine And.intro ?_ ?_ | exact bdL_map (fun _ => by exact rfl) _ | (simp [bdOq, bdL, bdL_append, AV.bd]; done))) (by (rw [hm]; exact Nat.le_of_ble_eq_true rfl))⟩
  intro a ha
  have htl := tlist_len g a
  have hnx : (0 : Int) ≤ tnum g a ∧ tnum g a ≤ 2000 := by unfold tnum; omega
  have hul := numsU_len g a
  by_cases hlt : a < g.terms.length
  · (repeat' (first | apply jA | apply jF | apply jH | apply jI | (refine wp_cond rfl (fun hc => ?_) (fun hc => ?_) <;> (try simp only [sB, ne_eq, reduceCtorEq] at hc) <;> (try (exfalso; omega))) | (refine WP.regionC (id := 4) ?_; (refine smove rfl ?_); (refine sfieldp rfl rfl rfl ?_); (refine sloadp rfl rfl rfl rfl ?_); (refine slenm rfl rfl ?_); (refine slss rfl rfl ?_); apply jW) | (refine WP.regionC (id := 6) ?_; (refine smove rfl ?_); (refine smove rfl ?_); (refine su (aidxrn rfl rfl (by omega)) ?_); (refine se_store_t rfl rfl (by omega) rfl rfl ?_); apply jW) | (refine WP.regionC (id := 7) ?_; (refine sassign rfl ?_); apply jW)))
    have hts := tnum_succ g a
    refine wp_loop (fun (x : Nat × List Int × Int) => x.1 ≤ g.rules.length ∧ x.2.1 = (numsU g a).set a (if (g.rules.take x.1).any (needR a) = true then tnum g a else -1) ∧ x.2.2 = tnum g a + (if (g.rules.take x.1).any (needR a) = true then 1 else 0)) (fun x => g.rules.length - x.1)
      (fun x => (S 65 [(1, .ptr 0 4 0 0), (4, .ref 1 1 0 g.terms.length), (5, intA x.2.2), (6, intA (a : Nat)), (7, intA (x.1 : Nat))] 2 [(0, some (.arr 4 [gramA g])), (1, some (.arr 1 (x.2.1.map intA)))])) (0, (numsU g a).set a (-1), tnum g a) ⟨[0, 1], ToR.S rfl (by repeat' (first | exact rt_nil | refine rt_r rfl rfl ?_ | refine rt_t rfl rfl ?_ | refine rt_e rfl rfl ?_)) (by repeat' (first | exact ro_nil | refine ro_p rfl (by first | exact rfl | fail) (by first | exact bdL_map (fun _ => by exact rfl) _ | (simp [bdL, bdL_append, AV.bd]; done) | fail) ?_)) rfl (by (rw [hm]; exact rfl)) rfl (by (simp [bdT, AV.bd, bdL, bdL_append]; done)) (by repeat' (first | exact True.intro | refine And.intro ?_ ?_ | exact bdL_map (fun _ => by exact rfl) _ | (simp [bdOq, bdL, bdL_append, AV.bd]; done))) (by (rw [hm]; exact Nat.le_of_ble_eq_true rfl))⟩ ⟨Nat.zero_le _, by simp, by simp⟩ ?_
    rintro ⟨i, L, nx⟩ ⟨hi, hL, hN⟩
    dsimp only at *
    have hll : L.length = g.terms.length := by rw [hL, List.length_set, hul]
    have hna : nth L a = if (g.rules.take i).any (needR a) = true then tnum g a else -1 := by rw [hL, nth_set_self _ (by omega)]
    cases hf : (g.rules.take i).any (needR a) with
    | true =>
      have hy := needR_any (a := a) hi (.inr hf)
      rw [hf] at hy
      rw [hf, if_pos rfl] at hL hN hna
      rw [← hy, if_pos rfl] at hts
      have hnt : numT g a = tnum g a := by unfold numT; rw [← hy, if_pos rfl]
      have hset := numsU_set g hlt
      rw [hnt, ← hL] at hset
      (repeat' (first | apply jA | apply jH | apply jJ | apply jL | apply jN | apply jP | (refine wp_cond rfl (fun hc => ?_) (fun hc => ?_) <;> (try simp only [sB, ne_eq, reduceCtorEq] at hc) <;> (try (exfalso; omega))) | (refine WP.regionC (id := 8) ?_; (refine smove rfl ?_); (refine sfieldp rfl rfl rfl ?_); (refine sloadp rfl rfl rfl rfl ?_); (refine slenm rfl rfl ?_); (refine slss rfl rfl ?_); (refine smove rfl ?_); (refine sg (gq_vt rfl rfl) (fun he => ap_move (rq_p rfl rfl)) ?_); (refine sg (gq_vt rfl rfl) (fun he => ap_move (rq_p rfl rfl)) ?_); (refine sg (gq_vt rfl rfl) (fun he => ap_idxr_n (rq_c rfl rfl) (rq_c rfl rfl) (by (try simp only [sH, id, sB, ne_eq, reduceCtorEq] at he); omega)) ?_); (refine sg (gq_vt rfl rfl) (fun he => ap_load_pt (rq_c rfl rfl) rfl (by (try simp only [sH, id, sB, ne_eq, reduceCtorEq] at he); omega) rfl) ?_); (refine sg (gq_vt rfl rfl) (fun he => ap_lss (rq_c rfl rfl) (rq_p rfl rfl)) ?_); (refine su (ap_and (rq_p rfl rfl) (rq_c rfl rfl)) ?_); apply jW) | (refine WP.regionC (id := 5) ?_; (refine smove rfl ?_); (refine sadd rfl rfl (by exact inr_i64_of (by omega)) ?_); (refine sassign rfl ?_); apply jW)))
      refine ⟨a + 1, ⟨by omega, by omega⟩, ?_⟩
      rw [← hset, hts, ← hN]
      exact ⟨[0, 1], ToR.S rfl (by repeat' (first | exact rt_nil | refine rt_r rfl rfl ?_ | refine rt_t rfl rfl ?_ | refine rt_e rfl rfl ?_)) (by repeat' (first | exact ro_nil | refine ro_p rfl (by first | exact rfl | fail) (by first | exact bdL_map (fun _ => by exact rfl) _ | (simp [bdL, bdL_append, AV.bd]; done) | fail) ?_)) rfl (by (rw [hm]; exact rfl)) rfl (by (simp [bdT, AV.bd, bdL, bdL_append]; done)) (by repeat' (first | exact True.intro | refine And.intro ?_ ?_ | exact bdL_map (fun _ => by exact rfl) _ | (simp [bdOq, bdL, bdL_append, AV.bd]; done))) (by (rw [hm]; exact Nat.le_of_ble_eq_true rfl))⟩
    | false =>
      rw [hf, if_neg Bool.false_ne_true] at hL hN hna
      by_cases hlr : i < g.rules.length
      · have hsn : (g.rules.take (i + 1)).any (needR a) = needR a (nth g.rules i) := by rw [take_succ_nth hlr, List.any_append, hf]; simp
        have hcomm : ((nth g.rules i).body.any fun x => decide (x = (a : Int))) = (nth g.rules i).body.any fun x => decide ((a : Int) = x) := by congr 1; funext x; simp [eq_comm]
        (repeat' (first | apply jA | apply jF | apply jH | apply jI | apply jN | (refine wp_cond rfl (fun hc => ?_) (fun hc => ?_) <;> (try simp only [sB, ne_eq, reduceCtorEq] at hc) <;> (try (exfalso; omega))) | (refine WP.regionC (id := 8) ?_; (refine smove rfl ?_); (refine sfieldp rfl rfl rfl ?_); (refine sloadp rfl rfl rfl rfl ?_); (refine slenm rfl rfl ?_); (refine slss rfl rfl ?_); (refine smove rfl ?_); (refine sg (gq_vt rfl rfl) (fun he => ap_move (rq_p rfl rfl)) ?_); (refine sg (gq_vt rfl rfl) (fun he => ap_move (rq_p rfl rfl)) ?_); (refine sg (gq_vt rfl rfl) (fun he => ap_idxr_n (rq_c rfl rfl) (rq_c rfl rfl) (by (try simp only [sH, id, sB, ne_eq, reduceCtorEq] at he); omega)) ?_); (refine sg (gq_vt rfl rfl) (fun he => ap_load_pt (rq_c rfl rfl) rfl (by (try simp only [sH, id, sB, ne_eq, reduceCtorEq] at he); omega) rfl) ?_); (refine sg (gq_vt rfl rfl) (fun he => ap_lss (rq_c rfl rfl) (rq_p rfl rfl)) ?_); (refine su (ap_and (rq_p rfl rfl) (rq_c rfl rfl)) ?_); apply jW) | (refine WP.regionC (id := 10) ?_; (refine sfieldp rfl rfl rfl ?_); (refine sloadp rfl rfl rfl rfl ?_); (refine smove rfl ?_); (refine sidxn rfl rfl (by omega) ?_); (refine su (afieldi rfl rfl rfl) ?_); (refine su (aloadi rfl rfl) ?_); (refine slenm rfl rfl ?_); (refine su (ageq rfl rfl) ?_); (refine smove rfl ?_); (refine sg (gq_vt rfl rfl) (fun he => ap_field_p (rq_p rfl rfl) rfl rfl) ?_); (refine sg (gq_vt rfl rfl) (fun he => ap_load_p (rq_c rfl rfl) rfl rfl rfl) ?_); (refine sg (gq_vt rfl rfl) (fun he => ap_move (rq_p rfl rfl)) ?_); (refine sg (gq_vt rfl rfl) (fun he => ap_idx_n (rq_c rfl rfl) (rq_c rfl rfl) (by (try simp only [sH, id, sB, ne_eq, reduceCtorEq] at he); omega)) ?_); (refine sg (gq_vt rfl rfl) (fun he => ap_field_i (rq_c rfl rfl) rfl rfl) ?_); (refine sg (gq_vt rfl rfl) (fun he => ap_load_i (rq_c rfl rfl) rfl) ?_); (refine sg (gq_vt rfl rfl) (fun he => ap_move (rq_p rfl rfl)) ?_); (refine sg_p (gq_vt rfl rfl) (fun he => ⟨(rq_p rfl rfl), (RqL.cons (rq_c rfl rfl) (RqL.cons (rq_c rfl rfl) (RqL.nil))), (by first | ((repeat' first | exact SubL.nil | refine SubL.cons ?_ ?_ | exact Sub.refl); done) | fail), (by first | (simp [bdL, bdL_append, AV.bd]; done) | fail), in21_fn _ _⟩) ?_); (refine su (ap_and (rq_p rfl rfl) (rq_c rfl rfl)) ?_); apply jW) | (refine WP.regionC (id := 11) ?_; (refine smove rfl ?_); (refine smove rfl ?_); (refine smove rfl ?_); (refine su (aidxrn rfl rfl (by omega)) ?_); (refine se_store_t rfl rfl (by omega) rfl rfl ?_); apply jW) | (refine WP.regionC ?_; (refine smove rfl ?_); (refine sadd rfl rfl (by exact inr_i64_of (by omega)) ?_); (refine sassign rfl ?_); apply jW)))
        · have hnr : needR a (nth g.rules i) = true := by
            unfold needR
            rw [← hcomm, hc.2, decide_eq_true (by omega)]; rfl
          refine ⟨(i + 1, L.set a (tnum g a), tnum g a + 1), ⟨by dsimp only; omega, by dsimp only; omega, ?_, ?_⟩, ?_⟩
          · dsimp only; rw [hsn, hnr, if_pos rfl, hL, List.set_set]
          · dsimp only; rw [hsn, hnr, if_pos rfl]
          · rw [hN, Int.add_zero]
            exact ⟨[0, 1], ToR.S rfl (by repeat' (first | exact rt_nil | refine rt_r rfl rfl ?_ | refine rt_t rfl rfl ?_ | refine rt_e rfl rfl ?_)) (by repeat' (first | exact ro_nil | refine ro_p rfl (by first | exact rfl | fail) (by first | exact bdL_map (fun _ => by exact rfl) _ | (simp [bdL, bdL_append, AV.bd]; done) | fail) ?_)) rfl (by (rw [hm]; exact rfl)) rfl (by (simp [bdT, AV.bd, bdL, bdL_append]; done)) (by repeat' (first | exact True.intro | refine And.intro ?_ ?_ | exact bdL_map (fun _ => by exact rfl) _ | (simp [bdOq, bdL, bdL_append, AV.bd]; done))) (by (rw [hm]; exact Nat.le_of_ble_eq_true rfl))⟩
        · have hnr : needR a (nth g.rules i) = false := by
            unfold needR
            rw [← hcomm]
            rcases hc with hc | hc
            · rw [decide_eq_false (by omega)]; rfl
            · rw [hc, Bool.and_false]
          refine ⟨(i + 1, L, nx), ⟨by dsimp only; omega, by dsimp only; omega, ?_, ?_⟩, ?_⟩
          · dsimp only; rw [hsn, hnr, if_neg Bool.false_ne_true, hL]
          · dsimp only; rw [hsn, hnr, if_neg Bool.false_ne_true, hN]
          · exact ⟨[0, 1], ToR.S rfl (by repeat' (first | exact rt_nil | refine rt_r rfl rfl ?_ | refine rt_t rfl rfl ?_ | refine rt_e rfl rfl ?_)) (by repeat' (first | exact ro_nil | refine ro_p rfl (by first | exact rfl | fail) (by first | exact bdL_map (fun _ => by exact rfl) _ | (simp [bdL, bdL_append, AV.bd]; done) | fail) ?_)) rfl (by (rw [hm]; exact rfl)) rfl (by (simp [bdT, AV.bd, bdL, bdL_append]; done)) (by repeat' (first | exact True.intro | refine And.intro ?_ ?_ | exact bdL_map (fun _ => by exact rfl) _ | (simp [bdOq, bdL, bdL_append, AV.bd]; done))) (by (rw [hm]; exact Nat.le_of_ble_eq_true rfl))⟩
      · have hy := needR_any (a := a) hi (.inl (by omega))
        rw [hf] at hy
        rw [← hy, if_neg Bool.false_ne_true] at hts
        have hnt : numT g a = -1 := by unfold numT; rw [← hy, if_neg Bool.false_ne_true]
        have hset := numsU_set g hlt
        rw [hnt, ← hL] at hset
        (repeat' (first | apply jA | apply jH | apply jJ | apply jL | apply jN | apply jP | (refine wp_cond rfl (fun hc => ?_) (fun hc => ?_) <;> (try simp only [sB, ne_eq, reduceCtorEq] at hc) <;> (try (exfalso; omega))) | (refine WP.regionC (id := 8) ?_; (refine smove rfl ?_); (refine sfieldp rfl rfl rfl ?_); (refine sloadp rfl rfl rfl rfl ?_); (refine slenm rfl rfl ?_); (refine slss rfl rfl ?_); (refine smove rfl ?_); (refine sg (gq_vt rfl rfl) (fun he => ap_move (rq_p rfl rfl)) ?_); (refine sg (gq_vt rfl rfl) (fun he => ap_move (rq_p rfl rfl)) ?_); (refine sg (gq_vt rfl rfl) (fun he => ap_idxr_n (rq_c rfl rfl) (rq_c rfl rfl) (by (try simp only [sH, id, sB, ne_eq, reduceCtorEq] at he); omega)) ?_); (refine sg (gq_vt rfl rfl) (fun he => ap_load_pt (rq_c rfl rfl) rfl (by (try simp only [sH, id, sB, ne_eq, reduceCtorEq] at he); omega) rfl) ?_); (refine sg (gq_vt rfl rfl) (fun he => ap_lss (rq_c rfl rfl) (rq_p rfl rfl)) ?_); (refine su (ap_and (rq_p rfl rfl) (rq_c rfl rfl)) ?_); apply jW) | (refine WP.regionC (id := 5) ?_; (refine smove rfl ?_); (refine sadd rfl rfl (by exact inr_i64_of (by omega)) ?_); (refine sassign rfl ?_); apply jW)))
        refine ⟨a + 1, ⟨by omega, by omega⟩, ?_⟩
        rw [← hset, hts, ← hN]
        exact ⟨[0, 1], ToR.S rfl (by repeat' (first | exact rt_nil | refine rt_r rfl rfl ?_ | refine rt_t rfl rfl ?_ | refine rt_e rfl rfl ?_)) (by repeat' (first | exact ro_nil | refine ro_p rfl (by first | exact rfl | fail) (by first | exact bdL_map (fun _ => by exact rfl) _ | (simp [bdL, bdL_append, AV.bd]; done) | fail) ?_)) rfl (by (rw [hm]; exact rfl)) rfl (by (simp [bdT, AV.bd, bdL, bdL_append]; done)) (by repeat' (first | exact True.intro | refine And.intro ?_ ?_ | exact bdL_map (fun _ => by exact rfl) _ | (simp [bdOq, bdL, bdL_append, AV.bd]; done))) (by (rw [hm]; exact Nat.le_of_ble_eq_true rfl))⟩
  · obtain rfl : a = g.terms.length := by omega
    rw [numsU_all] at hul ⊢
    (repeat' (first | apply jA | apply jH | apply jJ | apply jL | apply jP | (refine wp_cond rfl (fun hc => ?_) (fun hc => ?_) <;> (try simp only [sB, ne_eq, reduceCtorEq] at hc) <;> (try (exfalso; omega))) | (refine WP.regionC (id := 4) ?_; (refine smove rfl ?_); (refine sfieldp rfl rfl rfl ?_); (refine sloadp rfl rfl rfl rfl ?_); (refine slenm rfl rfl ?_); (refine slss rfl rfl ?_); apply jW) | (refine WP.regionC (id := 13) ?_; (refine smove rfl ?_); (refine smove rfl ?_); (refine sassign rfl ?_); (refine sassign rfl ?_); apply jW)))
    refine WP.ret ?_
    refine bodyQ_r ?_
    exact ret_many (.tmp rfl (.tmp rfl .nil)) (Nat.le_of_ble_eq_true rfl) (by first | ((repeat' first | exact FzL.nil | refine FzL.cons ?_ ?_ | (exact Fz.list rfl (by assumption) (fun _ => by simp [AV.bd, bdL, bdL_append]) (fun _ => rfl)) | (exact Fz.reflp (by simp [AV.bd, bdL, bdL_append]))); done) | fail)
theorem symN_num {g : Gram} {x : Int} (hx : 0 ≤ x) (hn : needT g x.toNat = true) (ht : x.toNat < g.terms.length) : nth (numsT g) x.toNat = symN g x := by
  have : nth (numsT g) x.toNat = numT g x.toNat := by
    unfold numsT
    rw [nth_eq (by simpa using ht)]; simp
  rw [this, numT, if_pos hn, symN, if_neg (by omega)]
theorem set_app_replicate {α : Type} (A : List α) (n : Nat) (z v : α) : (A ++ List.replicate (n + 1) z).set A.length v = A ++ [v] ++ List.replicate n z := by
  rw [List.set_append_right _ _ (Nat.le_refl _), Nat.sub_self, List.replicate_succ, List.set_cons_zero]; simp
theorem bodU_set {f : Int → Int} {l : List Int} {k : Nat} (h : k < l.length) : ((l.take k).map f ++ List.replicate (l.length - k) 0).set k (f (nth l k)) = (l.take (k + 1)).map f ++ List.replicate (l.length - (k + 1)) 0 := by
  have e : l.length - k = l.length - (k + 1) + 1 := by omega
  have hk : ((l.take k).map f).length = k := by simp; omega
  have := set_app_replicate ((l.take k).map f) (l.length - (k + 1)) 0 (f (nth l k))
  rw [hk] at this
  rw [e, this, take_succ_nth h, List.map_append]; rfl
theorem rbinarize_fn (g : Gram) : Fn Try.prog 14 [gramA g] (.tup [nrmA (binG g).1, intA (binG g).2]) := by
  refine Fn.intro (by simp [AV.bd, bdL, bdL_append]) (by kernel_rfl) Try.func14 rfl rfl Try.ntmps14 (by exact Nat.le_of_ble_eq_true rfl) ?_; intro Γ hm
  by_cases hval : validG g = true
  · have hv := validG_iff.1 hval
    have hn1 := hv.n1
    have hn2 := hv.n2
    have hr2 := hv.r2
    have ht2 := hv.terms
    have hnu := numbers_fn g (by omega) (by omega) (by omega)
    (repeat' (first | apply jA | apply jF | apply jH | apply jI | (refine wp_cond rfl (fun hc => ?_) (fun hc => ?_) <;> (try simp only [sB, ne_eq, reduceCtorEq] at hc) <;> (try (exfalso; omega))) | (refine WP.regionC (id := 0) ?_; (refine se_box rfl (by exact ⟨rfl, rfl⟩) ?_); (refine se_alloc rfl ?_); (refine sassign rfl ?_); apply jW) | (refine WP.regionC (id := 1) ?_; (refine sloadpw rfl rfl rfl rfl ?_); (refine sc_p rfl rfl (by first | ((repeat' first | exact SubL.nil | refine SubL.cons ?_ ?_ | exact Sub.refl); done) | fail) (by first | (simp [bdL, bdL_append, AV.bd]; done) | fail) (rvalid18_fn _) ?_); (refine su (anot rfl) ?_); apply jW) | (refine WP.regionC (id := 3) ?_; (refine sloadpw rfl rfl rfl rfl ?_); (refine sc_p rfl rfl (by first | ((repeat' first | exact SubL.nil | refine SubL.cons ?_ ?_ | exact Sub.refl); done) | fail) (by first | (simp [bdL, bdL_append, AV.bd]; done) | fail) (hnu) ?_); (refine smove rfl ?_); (refine su (aextract rfl rfl) ?_); (refine su (aextract rfl rfl) ?_); (refine sassign rfl ?_); (refine sassign rfl ?_); apply jW) | (refine WP.regionC ?_; (refine sassign rfl ?_); apply jW)))
    · rw [hval] at hc; cases hc
    refine wp_nil 6 6 rfl ?_
    have hbase : 0 ≤ baseN g ∧ baseN g ≤ 240 := by have := tlist_len g g.terms.length; unfold baseN; omega
    have hfit : ∀ i, ∀ r, r ∈ g.rules.take i → r.body.length ≤ 12 := fun i r hr => (hv.rule r (List.mem_of_mem_take hr)).len
    have hnx : ∀ i, i ≤ g.rules.length → 0 ≤ nextN (baseN g) (g.rules.take i) ∧ nextN (baseN g) (g.rules.take i) ≤ 2000 ∧ (chns g 0 (baseN g) (g.rules.take i)).length ≤ 5000 := fun i hi => by
      have h1 := nextN_le (g.rules.take i) (baseN g) (hfit i)
      have h2 := nextN_ge (g.rules.take i) (baseN g)
      have h3 := nextN_len g (g.rules.take i) 0 (baseN g)
      rw [List.length_take] at h1 h3
      omega
    have hnl : (numsT g).length = g.terms.length := by simp [numsT]
    refine wp_loop (fun (i : Nat) => i ≤ g.rules.length) (fun i => g.rules.length - i)
      (fun i => (S 193 [(1, .ptr 0 4 0 0), (2, .ptr 1 4 0 0), (4, intsA (numsT g)), (5, intA (nextN (baseN g) (g.rules.take i))), (6, .ref 2 6 0 (chns g 0 (baseN g) (g.rules.take i)).length), (7, intA (i : Nat))] 3 [(0, some (.arr 4 [gramA g])), (1, some (.arr 4 [.agg [intA 0, intA 0, intA 0, .val (.slice none 0 0)]])), (2, some (.arr 6 ((chns g 0 (baseN g) (g.rules.take i)).map nruleA)))])) 0 ?_ (Nat.zero_le _) ?_
    · rw [List.take_zero]
      exact ⟨[0, 1, 2], ToR.S rfl (by repeat' (first | exact rt_nil | refine rt_r rfl rfl ?_ | refine rt_t rfl rfl ?_ | refine rt_e rfl rfl ?_ | refine rt_p rfl rfl (by first | (simp [AV.bd, bdL, bdL_append]; done) | fail) ?_)) (by repeat' (first | exact ro_nil | refine ro_e rfl rfl ?_ | refine ro_p rfl (by first | exact rfl | fail) (by first | (simp [bdL, bdL_append, AV.bd]; done) | fail) ?_)) rfl (by (rw [hm]; exact rfl)) rfl (by (simp [bdT, AV.bd, bdL, bdL_append]; done)) (by repeat' (first | exact True.intro | exact rfl | refine And.intro ?_ ?_ | (simp [bdOq, bdL, bdL_append, AV.bd]; done))) (by (rw [hm]; exact Nat.le_of_ble_eq_true rfl))⟩
    intro i hi
    have hnxi := hnx i hi
    by_cases hlt : i < g.rules.length
    · have hrf := hv.rule _ (nth_mem hlt)
      have hsn := nextN_snoc (nth g.rules i) (g.rules.take i) (baseN g)
      have hcs := chns_snoc g (nth g.rules i) (g.rules.take i) 0 (baseN g)
      rw [← take_succ_nth hlt] at hsn hcs
      rw [Nat.zero_add, List.length_take, Nat.min_eq_left (by omega)] at hcs
      generalize hN : nextN (baseN g) (g.rules.take i) = N at *
      generalize hA : chns g 0 (baseN g) (g.rules.take i) = acc at *
      have hrm : nth g.rules i ∈ g.rules := nth_mem hlt
      have hb : ∀ x, x ∈ (nth g.rules i).body → -1000000 ≤ x ∧ x ≤ 1000000 := fun x hx => by have := hrf.hi x hx; have := hrf.lo x hx; omega
      have hlen := hrf.len
      by_cases hb2 : 2 ≤ (nth g.rules i).body.length
      · have hcl := chn_len g (nth g.rules i).body (nth g.rules i).head (nth g.rules i).price i N
        have hcn := fun k hk => chn_nth g (nth g.rules i).body (nth g.rules i).head (nth g.rules i).price i N k hb2 hk
        have hsym : ∀ k, k < (nth g.rules i).body.length → 0 ≤ nth (nth g.rules i).body k → (nth (nth g.rules i).body k).toNat < (numsT g).length ∧ nth (numsT g) (nth (nth g.rules i).body k).toNat = symN g (nth (nth g.rules i).body k) := fun k hk h0 => by
          have h1 := hrf.hi _ (nth_mem hk)
          exact ⟨by omega, symN_num h0 (need_of hrm hb2 (nth_mem hk) h0) (by omega)⟩
        generalize hC : chn g (nth g.rules i).head (nth g.rules i).price i N (nth g.rules i).body = C at *
        (repeat' (first | apply jA | apply jF | apply jH | apply jI | apply jN | (refine wp_cond rfl (fun hc => ?_) (fun hc => ?_) <;> (try simp only [sB, ne_eq, reduceCtorEq] at hc) <;> (try (exfalso; omega))) | (refine WP.regionC (id := 6) ?_; (refine smove rfl ?_); (refine sfieldp rfl rfl rfl ?_); (refine sloadp rfl rfl rfl rfl ?_); (refine slenm rfl rfl ?_); (refine slss rfl rfl ?_); apply jW) | (refine WP.regionC (id := 8) ?_; (refine sfieldp rfl rfl rfl ?_); (refine sloadp rfl rfl rfl rfl ?_); (refine smove rfl ?_); (refine sidxn rfl rfl (by omega) ?_); (refine sloadw rfl rfl ?_); (refine se_alloc rfl ?_); (refine se_store_b rfl rfl rfl rfl ?_); apply jW) | (refine WP.regionC (id := 9) ?_; (refine sfieldp rfl rfl rfl ?_); (refine sloadp rfl rfl rfl rfl ?_); (refine sfieldp rfl rfl rfl ?_); (refine sloadp rfl rfl rfl rfl ?_); (refine smove rfl ?_); (refine su (ap_build (RqP.cons (rq_p rfl rfl) (RqP.cons (rq_p rfl rfl) (RqP.cons (rq_p rfl rfl) (RqP.nil)))) rfl) ?_); (refine se_alloc rfl ?_); (refine se_store_b rfl rfl rfl rfl ?_); apply jW) | (refine WP.regionC ?_; (refine sfieldp rfl rfl rfl ?_); (refine sloadp rfl rfl rfl rfl ?_); (refine slenm rfl rfl ?_); (refine seql rfl rfl ?_); (refine sassign rfl ?_); apply jW) | (refine WP.regionC (id := 13) ?_; (refine sfieldp rfl rfl rfl ?_); (refine sloadp rfl rfl rfl rfl ?_); (refine slenm rfl rfl ?_); (refine seql rfl rfl ?_); (refine smove rfl ?_); (refine sg (gq_vt rfl rfl) (fun he => ap_field_p (rq_p rfl rfl) rfl rfl) ?_); (refine sg (gq_vt rfl rfl) (fun he => ap_load_p (rq_c rfl rfl) rfl rfl rfl) ?_); (refine sg (gq_vt rfl rfl) (fun he => ap_idx_n (rq_c rfl rfl) (rq_p rfl rfl) (by (try simp only [sH, id, sB, ne_eq, reduceCtorEq] at he); omega)) ?_); (refine sg (gq_vt rfl rfl) (fun he => ap_load_w (rq_c rfl rfl) rfl) ?_); (refine sg (gq_vt rfl rfl) (fun he => ap_geq (rq_c rfl rfl) (rq_p rfl rfl)) ?_); (refine su (ap_and (rq_p rfl rfl) (rq_c rfl rfl)) ?_); (refine sassign rfl ?_); apply jW) | (refine WP.regionC (id := 19) ?_; (refine sfieldp rfl rfl rfl ?_); (refine sloadp rfl rfl rfl rfl ?_); (refine slenm rfl rfl ?_); (refine se_makeT intA 0 rfl rfl rfl rfl rfl (by omega) ?_); (refine sassign rfl ?_); apply jW) | (refine WP.regionC (id := 20) ?_; (refine sassign rfl ?_); apply jW)))
        refine wp_loop (fun (x : Nat × List Int) => x.1 ≤ (nth g.rules i).body.length ∧ x.2 = ((nth g.rules i).body.take x.1).map (symN g) ++ List.replicate ((nth g.rules i).body.length - x.1) 0) (fun x => (nth g.rules i).body.length - x.1)
          (fun x => (S 193 [(1, .ptr 0 4 0 0), (2, .ptr 1 4 0 0), (4, intsA (numsT g)), (5, intA N), (6, .ref 2 6 0 acc.length), (7, intA (i : Nat)), (8, .ptr 3 3 0 0), (9, .ptr 4 6 0 0), (10, .ref 5 1 0 (nth g.rules i).body.length), (11, intA (x.1 : Nat))] 6 [(0, some (.arr 4 [gramA g])), (1, some (.arr 4 [.agg [intA 0, intA 0, intA 0, .val (.slice none 0 0)]])), (2, some (.arr 6 (acc.map nruleA))), (3, some (.arr 3 [ruleA (nth g.rules i)])), (4, some (.arr 6 [nruleA ⟨0, (nth g.rules i).head, 0, 0, (nth g.rules i).price, i⟩])), (5, some (.arr 1 (x.2.map intA)))])) (0, List.replicate (nth g.rules i).body.length 0) ⟨[0, 1, 2, 3, 4, 5], ToR.S rfl (by repeat' (first | exact rt_nil | refine rt_r rfl rfl ?_ | refine rt_t rfl rfl ?_ | refine rt_e rfl rfl ?_ | refine rt_p rfl rfl (by first | (simp [AV.bd, bdL, bdL_append]; done) | fail) ?_)) (by repeat' (first | exact ro_nil | refine ro_e rfl rfl ?_ | refine ro_p rfl (by first | exact rfl | fail) (by first | exact bdL_map (fun _ => by exact rfl) _ | (simp [bdL, bdL_append, AV.bd]; done) | fail) ?_)) rfl (by (rw [hm]; exact rfl)) rfl (by (simp [bdT, AV.bd, bdL, bdL_append]; done)) (by repeat' (first | exact True.intro | exact rfl | refine And.intro ?_ ?_ | exact bdL_map (fun _ => by exact rfl) _ | (simp [bdOq, bdL, bdL_append, AV.bd]; done))) (by (rw [hm]; exact Nat.le_of_ble_eq_true rfl))⟩ ⟨Nat.zero_le _, by simp⟩ ?_
        rintro ⟨k, Y⟩ ⟨hk, hY⟩
        dsimp only at *
        have hYl : Y.length = (nth g.rules i).body.length := by rw [hY]; simp; omega
        by_cases hkl : k < (nth g.rules i).body.length
        · have hset := bodU_set (f := symN g) hkl
          rw [← hY] at hset
          have hxb := hb _ (nth_mem hkl)
          by_cases hx0 : 0 ≤ nth (nth g.rules i).body k
          · obtain ⟨q1, q2⟩ := hsym k hkl hx0
            (repeat' (first | apply jA | apply jF | apply jH | apply jI | apply jN | (refine wp_cond rfl (fun hc => ?_) (fun hc => ?_) <;> (try simp only [sB, ne_eq, reduceCtorEq] at hc) <;> (try (exfalso; omega))) | (refine WP.regionC (id := 21) ?_; (refine smove rfl ?_); (refine sfieldp rfl rfl rfl ?_); (refine sloadp rfl rfl rfl rfl ?_); (refine slenm rfl rfl ?_); (refine slss rfl rfl ?_); apply jW) | (refine WP.regionC (id := 23) ?_; (refine sfieldp rfl rfl rfl ?_); (refine sloadp rfl rfl rfl rfl ?_); (refine smove rfl ?_); (refine sidxn rfl rfl (by omega) ?_); (refine sloadw rfl rfl ?_); (refine su (ageq rfl rfl) ?_); apply jW) | (refine WP.regionC (id := 24) ?_; (refine smove rfl ?_); (refine smove rfl ?_); (refine smove rfl ?_); (refine sfieldp rfl rfl rfl ?_); (refine sloadp rfl rfl rfl rfl ?_); (refine smove rfl ?_); (refine sidxn rfl rfl (by omega) ?_); (refine sloadw rfl rfl ?_); (refine su (aidxz rfl rfl (by omega)) ?_); (refine sloadw rfl rfl ?_); (refine su (aidxrn rfl rfl (by omega)) ?_); (refine se_store_t rfl rfl (by omega) rfl rfl ?_); apply jW) | (refine WP.regionC (id := 22) ?_; (refine smove rfl ?_); (refine sadd rfl rfl (by exact inr_i64_of (by omega)) ?_); (refine sassign rfl ?_); apply jW)))
            refine ⟨(k + 1, Y.set k (symN g (nth (nth g.rules i).body k))), ⟨by dsimp only; omega, by dsimp only; omega, hset⟩, ?_⟩
            rw [← q2]
            exact ⟨[0, 1, 2, 3, 4, 5], ToR.S rfl (by repeat' (first | exact rt_nil | refine rt_r rfl rfl ?_ | refine rt_t rfl rfl ?_ | refine rt_e rfl rfl ?_ | refine rt_p rfl rfl (by first | (simp [AV.bd, bdL, bdL_append]; done) | fail) ?_)) (by repeat' (first | exact ro_nil | refine ro_e rfl rfl ?_ | refine ro_p rfl (by first | exact rfl | fail) (by first | exact bdL_map (fun _ => by exact rfl) _ | (simp [bdL, bdL_append, AV.bd]; done) | fail) ?_)) rfl (by (rw [hm]; exact rfl)) rfl (by (simp [bdT, AV.bd, bdL, bdL_append]; done)) (by repeat' (first | exact True.intro | exact rfl | refine And.intro ?_ ?_ | exact bdL_map (fun _ => by exact rfl) _ | (simp [bdOq, bdL, bdL_append, AV.bd]; done))) (by (rw [hm]; exact Nat.le_of_ble_eq_true rfl))⟩
          · have q2 : -1 - nth (nth g.rules i).body k = symN g (nth (nth g.rules i).body k) := by rw [symN, if_pos (by omega)]
            (repeat' (first | apply jA | apply jF | apply jH | apply jI | apply jN | (refine wp_cond rfl (fun hc => ?_) (fun hc => ?_) <;> (try simp only [sB, ne_eq, reduceCtorEq] at hc) <;> (try (exfalso; omega))) | (refine WP.regionC (id := 21) ?_; (refine smove rfl ?_); (refine sfieldp rfl rfl rfl ?_); (refine sloadp rfl rfl rfl rfl ?_); (refine slenm rfl rfl ?_); (refine slss rfl rfl ?_); apply jW) | (refine WP.regionC (id := 23) ?_; (refine sfieldp rfl rfl rfl ?_); (refine sloadp rfl rfl rfl rfl ?_); (refine smove rfl ?_); (refine sidxn rfl rfl (by omega) ?_); (refine sloadw rfl rfl ?_); (refine su (ageq rfl rfl) ?_); apply jW) | (refine WP.regionC (id := 25) ?_; (refine smove rfl ?_); (refine smove rfl ?_); (refine sfieldp rfl rfl rfl ?_); (refine sloadp rfl rfl rfl rfl ?_); (refine smove rfl ?_); (refine sidxn rfl rfl (by omega) ?_); (refine sloadw rfl rfl ?_); (refine su (asub rfl rfl (by exact inr_i64_of (by omega))) ?_); (refine su (aidxrn rfl rfl (by omega)) ?_); (refine se_store_t rfl rfl (by omega) rfl rfl ?_); apply jW) | (refine WP.regionC (id := 22) ?_; (refine smove rfl ?_); (refine sadd rfl rfl (by exact inr_i64_of (by omega)) ?_); (refine sassign rfl ?_); apply jW)))
            refine ⟨(k + 1, Y.set k (symN g (nth (nth g.rules i).body k))), ⟨by dsimp only; omega, by dsimp only; omega, hset⟩, ?_⟩
            rw [← q2]
            exact ⟨[0, 1, 2, 3, 4, 5], ToR.S rfl (by repeat' (first | exact rt_nil | refine rt_r rfl rfl ?_ | refine rt_t rfl rfl ?_ | refine rt_e rfl rfl ?_ | refine rt_p rfl rfl (by first | (simp [AV.bd, bdL, bdL_append]; done) | fail) ?_)) (by repeat' (first | exact ro_nil | refine ro_e rfl rfl ?_ | refine ro_p rfl (by first | exact rfl | fail) (by first | exact bdL_map (fun _ => by exact rfl) _ | (simp [bdL, bdL_append, AV.bd]; done) | fail) ?_)) rfl (by (rw [hm]; exact rfl)) rfl (by (simp [bdT, AV.bd, bdL, bdL_append]; done)) (by repeat' (first | exact True.intro | exact rfl | refine And.intro ?_ ?_ | exact bdL_map (fun _ => by exact rfl) _ | (simp [bdOq, bdL, bdL_append, AV.bd]; done))) (by (rw [hm]; exact Nat.le_of_ble_eq_true rfl))⟩
        · obtain rfl : k = (nth g.rules i).body.length := by omega
          rw [List.take_length, Nat.sub_self, List.replicate_zero, List.append_nil] at hY
          have hyn : ∀ k, k < (nth g.rules i).body.length → nth Y k = symN g (nth (nth g.rules i).body k) := fun k hk => by rw [hY, nth_eq (by simpa using hk), List.getElem_map, nth_eq hk]
          (repeat' (first | apply jA | apply jF | apply jH | apply jJ | apply jL | apply jP | (refine wp_cond rfl (fun hc => ?_) (fun hc => ?_) <;> (try simp only [sB, ne_eq, reduceCtorEq] at hc) <;> (try (exfalso; omega))) | (refine WP.regionC (id := 21) ?_; (refine smove rfl ?_); (refine sfieldp rfl rfl rfl ?_); (refine sloadp rfl rfl rfl rfl ?_); (refine slenm rfl rfl ?_); (refine slss rfl rfl ?_); apply jW) | (refine WP.regionC (id := 26) ?_; (refine sassign rfl ?_); apply jW)))
          refine wp_loop (fun (x : Nat × Int × List NRul × NRul) => x.1 ≤ (nth g.rules i).body.length - 1 ∧ x.2.1 = N + (min x.1 ((nth g.rules i).body.length - 2) : Nat) ∧ x.2.2.1 = acc ++ C.take x.1 ∧ x.2.2.2 = ⟨0, if x.1 = 0 then (nth g.rules i).head else (nth C (x.1 - 1)).b, 0, 0, if x.1 = 0 then (nth g.rules i).price else 0, if x.1 = 0 then (i : Int) else -1⟩) (fun x => (nth g.rules i).body.length - x.1)
            (fun x => (S 193 [(1, .ptr 0 4 0 0), (2, .ptr 1 4 0 0), (4, intsA (numsT g)), (5, intA x.2.1), (6, .ref 2 6 0 x.2.2.1.length), (7, intA (i : Nat)), (9, .ptr 3 6 0 0), (10, .ref 4 1 0 (nth g.rules i).body.length), (12, intA (x.1 : Nat))] 5 [(0, some (.arr 4 [gramA g])), (1, some (.arr 4 [.agg [intA 0, intA 0, intA 0, .val (.slice none 0 0)]])), (2, some (.arr 6 (x.2.2.1.map nruleA))), (3, some (.arr 6 [nruleA x.2.2.2])), (4, some (.arr 1 (Y.map intA)))])) (0, N, acc, ⟨0, (nth g.rules i).head, 0, 0, (nth g.rules i).price, i⟩) ⟨[0, 1, 2, 4, 5], ToR.S rfl (by repeat' (first | exact rt_nil | refine rt_r rfl rfl ?_ | refine rt_t rfl rfl ?_ | refine rt_e rfl rfl ?_ | refine rt_p rfl rfl (by first | (simp [AV.bd, bdL, bdL_append]; done) | fail) ?_)) (by repeat' (first | exact ro_nil | refine ro_e rfl rfl ?_ | refine ro_p rfl (by first | exact rfl | fail) (by first | exact bdL_map (fun _ => by exact rfl) _ | (simp [bdL, bdL_append, AV.bd]; done) | fail) ?_)) rfl (by (rw [hm]; exact rfl)) rfl (by (simp [bdT, AV.bd, bdL, bdL_append]; done)) (by repeat' (first | exact True.intro | exact rfl | refine And.intro ?_ ?_ | exact bdL_map (fun _ => by exact rfl) _ | (simp [bdOq, bdL, bdL_append, AV.bd]; done))) (by (rw [hm]; exact Nat.le_of_ble_eq_true rfl))⟩ ⟨Nat.zero_le _, by simp, by simp, by simp⟩ ?_
          rintro ⟨k, nx, A, o⟩ ⟨hk, hnx2, hA2, ho⟩
          dsimp only at *
          have hAl : A.length ≤ 6000 := by rw [hA2, List.length_append, List.length_take]; omega
          by_cases hkl : k < (nth g.rules i).body.length - 1
          · have hyk := hyn k (by omega)
            have hyk1 := hyn (k + 1) (by omega)
            have hck := hcn k (by omega)
            have hCk : C.take (k + 1) = C.take k ++ [nth C k] := take_succ_nth (by omega)
            have hm2 : ∀ o : NRul, (A ++ [o]).map nruleA = A.map nruleA ++ [nruleA o] := fun o => by rw [List.map_append]; rfl
            have hl2 : ∀ o : NRul, (A ++ [o]).length = (A.map nruleA ++ [nruleA o]).length := fun o => by simp
            have hohd : o.head = (nth C k).head ∧ o.price = (nth C k).price ∧ o.origin = (nth C k).origin := by
              rw [ho, hck]
              refine ⟨?_, rfl, rfl⟩
              by_cases e : k = 0
              · simp only [if_pos e]
              · simp only [if_neg e]
                rw [hcn (k - 1) (by omega)]
                simp only
                rw [if_neg (by omega)]
                omega
            by_cases hke : k = (nth g.rules i).body.length - 2
            · have hCe : (⟨4, o.head, nth Y k, nth Y (k + 1), o.price, o.origin⟩ : NRul) = nth C k := by
                rw [hohd.1, hohd.2.1, hohd.2.2, hck, hyk, hyk1]
                simp only [if_pos hke]
              (repeat' (first | apply jA | apply jF | apply jH | apply jI | apply jN | (refine wp_cond rfl (fun hc => ?_) (fun hc => ?_) <;> (try simp only [sB, ne_eq, reduceCtorEq] at hc) <;> (try (exfalso; omega))) | (refine WP.regionC (id := 27) ?_; (refine smove rfl ?_); (refine smove rfl ?_); (refine su (alenr rfl rfl) ?_); (refine su (asub rfl rfl (by exact inr_i64_of (by omega))) ?_); (refine slss rfl rfl ?_); apply jW) | (refine wp_draw (id := 29) 8 mixed (by kernel_rfl) (by kernel_rfl) rfl ?_ <;> (refine rmove rfl ?_) <;> (refine rmove rfl ?_) <;> (refine rd_u rfl rfl (aidxrn rfl rfl (by omega)) ?_) <;> (refine rd_u rfl rfl (aloadpt rfl rfl (by omega) rfl) ?_) <;> (refine rfieldp rfl rfl rfl ?_) <;> (refine rd_store_b rfl rfl rfl rfl ?_) <;> (refine rfieldp rfl rfl rfl ?_) <;> (refine rd_store_b rfl rfl rfl rfl ?_) <;> (refine rd_end (by kernel_rfl) ?_)) | (refine WP.regionC (id := 30) ?_; (refine smove rfl ?_); (refine smove rfl ?_); (refine su (alenr rfl rfl) ?_); (refine su (asub rfl rfl (by exact inr_i64_of (by omega))) ?_); (refine seql rfl rfl ?_); apply jW) | (refine WP.regionC (id := 31) ?_; (refine smove rfl ?_); (refine smove rfl ?_); (refine sadd rfl rfl (by exact inr_i64_of (by omega)) ?_); (refine su (aidxrn rfl rfl (by (simp only [sL] <;> omega))) ?_); (refine su (aloadpt rfl rfl (by (simp only [sL] <;> omega)) rfl) ?_); (refine sfieldp rfl rfl rfl ?_); (refine se_store_b rfl rfl rfl rfl ?_); apply jW) | (refine WP.regionC (id := 34) ?_; (refine smove rfl ?_); (refine sloadpw rfl rfl rfl rfl ?_); (refine se_lit (OpP.cons rfl (OpP.nil)) rfl rfl rfl rfl rfl rfl ?_); (refine se_app rfl rfl rfl (by (simp; done)) rfl rfl rfl rfl (by (simp only [sL] <;> omega)) ?_); (refine sassign rfl ?_); apply jW) | (refine WP.regionC (id := 35) ?_; (refine sfieldp rfl rfl rfl ?_); (refine sloadp rfl rfl rfl rfl ?_); (refine su (ap_build (RqP.cons (rq_p rfl rfl) (RqP.cons (rq_p rfl rfl) (RqP.nil))) rfl) ?_); (refine se_store_b rfl rfl rfl rfl ?_); apply jW) | (refine WP.regionC (id := 28) ?_; (refine smove rfl ?_); (refine sadd rfl rfl (by exact inr_i64_of (by omega)) ?_); (refine sassign rfl ?_); apply jW)))
              refine ⟨(k + 1, nx, A ++ [⟨4, o.head, nth Y k, nth Y (k + 1), o.price, o.origin⟩], ⟨0, nth Y (k + 1), 0, 0, 0, -1⟩), ⟨by dsimp only; omega, by dsimp only; omega, by dsimp only; omega, ?_, ?_⟩, ?_⟩
              · dsimp only; rw [hCe, hCk, hA2, List.append_assoc]
              · dsimp only
                rw [if_neg (by omega), if_neg (by omega), if_neg (by omega), Nat.add_sub_cancel, ← hCe]
              · rw [hl2, hm2]
                exact ⟨[0, 1, 14, 3, 4], ToR.S rfl (by repeat' (first | exact rt_nil | refine rt_r rfl rfl ?_ | refine rt_t rfl rfl ?_ | refine rt_e rfl rfl ?_ | refine rt_p rfl rfl (by first | (simp [AV.bd, bdL, bdL_append]; done) | fail) ?_)) (by repeat' (first | exact ro_nil | refine ro_e rfl rfl ?_ | refine ro_p rfl (by first | exact rfl | fail) (by first | exact bdL_map (fun _ => by exact rfl) _ | (simp [bdL, bdL_append, AV.bd]; done) | fail) ?_)) rfl (by (rw [hm]; exact rfl)) rfl (by (simp [bdT, AV.bd, bdL, bdL_append]; done)) (by repeat' (first | exact True.intro | exact rfl | refine And.intro ?_ ?_ | exact bdL_map (fun _ => by exact rfl) _ | (simp [bdOq, bdL, bdL_append, AV.bd]; done))) (by (rw [hm]; exact Nat.le_of_ble_eq_true rfl))⟩
            · have hnk : nx = N + k := by omega
              have hCe : (⟨4, o.head, nth Y k, nx, o.price, o.origin⟩ : NRul) = nth C k := by
                rw [hohd.1, hohd.2.1, hohd.2.2, hck, hyk, hnk]
                simp only [if_neg hke]
              (repeat' (first | apply jA | apply jF | apply jH | apply jI | apply jN | (refine wp_cond rfl (fun hc => ?_) (fun hc => ?_) <;> (try simp only [sB, ne_eq, reduceCtorEq] at hc) <;> (try (exfalso; omega))) | (refine WP.regionC (id := 27) ?_; (refine smove rfl ?_); (refine smove rfl ?_); (refine su (alenr rfl rfl) ?_); (refine su (asub rfl rfl (by exact inr_i64_of (by omega))) ?_); (refine slss rfl rfl ?_); apply jW) | (refine wp_draw (id := 29) 8 mixed (by kernel_rfl) (by kernel_rfl) rfl ?_ <;> (refine rmove rfl ?_) <;> (refine rmove rfl ?_) <;> (refine rd_u rfl rfl (aidxrn rfl rfl (by omega)) ?_) <;> (refine rd_u rfl rfl (aloadpt rfl rfl (by omega) rfl) ?_) <;> (refine rfieldp rfl rfl rfl ?_) <;> (refine rd_store_b rfl rfl rfl rfl ?_) <;> (refine rfieldp rfl rfl rfl ?_) <;> (refine rd_store_b rfl rfl rfl rfl ?_) <;> (refine rd_end (by kernel_rfl) ?_)) | (refine WP.regionC (id := 30) ?_; (refine smove rfl ?_); (refine smove rfl ?_); (refine su (alenr rfl rfl) ?_); (refine su (asub rfl rfl (by exact inr_i64_of (by omega))) ?_); (refine seql rfl rfl ?_); apply jW) | (refine WP.regionC (id := 32) ?_; (refine smove rfl ?_); (refine sfieldp rfl rfl rfl ?_); (refine se_store_b rfl rfl rfl rfl ?_); apply jW) | (refine WP.regionC ?_; (refine smove rfl ?_); (refine sadd rfl rfl (by exact inr_i64_of (by omega)) ?_); (refine sassign rfl ?_); apply jW) | (refine WP.regionC (id := 34) ?_; (refine smove rfl ?_); (refine sloadpw rfl rfl rfl rfl ?_); (refine se_lit (OpP.cons rfl (OpP.nil)) rfl rfl rfl rfl rfl rfl ?_); (refine se_app rfl rfl rfl (by (simp; done)) rfl rfl rfl rfl (by (simp only [sL] <;> omega)) ?_); (refine sassign rfl ?_); apply jW) | (refine WP.regionC (id := 35) ?_; (refine sfieldp rfl rfl rfl ?_); (refine sloadp rfl rfl rfl rfl ?_); (refine su (ap_build (RqP.cons (rq_p rfl rfl) (RqP.cons (rq_p rfl rfl) (RqP.nil))) rfl) ?_); (refine se_store_b rfl rfl rfl rfl ?_); apply jW)))
              refine ⟨(k + 1, nx + 1, A ++ [⟨4, o.head, nth Y k, nx, o.price, o.origin⟩], ⟨0, nx, 0, 0, 0, -1⟩), ⟨by dsimp only; omega, by dsimp only; omega, by dsimp only; omega, ?_, ?_⟩, ?_⟩
              · dsimp only; rw [hCe, hCk, hA2, List.append_assoc]
              · dsimp only
                rw [if_neg (by omega), if_neg (by omega), if_neg (by omega), Nat.add_sub_cancel, ← hCe]
              · rw [hl2, hm2]
                exact ⟨[0, 1, 14, 3, 4], ToR.S rfl (by repeat' (first | exact rt_nil | refine rt_r rfl rfl ?_ | refine rt_t rfl rfl ?_ | refine rt_e rfl rfl ?_ | refine rt_p rfl rfl (by first | (simp [AV.bd, bdL, bdL_append]; done) | fail) ?_)) (by repeat' (first | exact ro_nil | refine ro_e rfl rfl ?_ | refine ro_p rfl (by first | exact rfl | fail) (by first | exact bdL_map (fun _ => by exact rfl) _ | (simp [bdL, bdL_append, AV.bd]; done) | fail) ?_)) rfl (by (rw [hm]; exact rfl)) rfl (by (simp [bdT, AV.bd, bdL, bdL_append]; done)) (by repeat' (first | exact True.intro | exact rfl | refine And.intro ?_ ?_ | exact bdL_map (fun _ => by exact rfl) _ | (simp [bdOq, bdL, bdL_append, AV.bd]; done))) (by (rw [hm]; exact Nat.le_of_ble_eq_true rfl))⟩
          · obtain rfl : k = (nth g.rules i).body.length - 1 := by omega
            rw [List.take_of_length_le (by omega)] at hA2
            rw [← hA2] at hcs
            have hnk : nx = N + extraN (nth g.rules i) := by unfold extraN; omega
            rw [← hnk] at hsn
            (repeat' (first | apply jA | apply jH | apply jJ | apply jL | apply jN | apply jP | (refine wp_cond rfl (fun hc => ?_) (fun hc => ?_) <;> (try simp only [sB, ne_eq, reduceCtorEq] at hc) <;> (try (exfalso; omega))) | (refine WP.regionC (id := 27) ?_; (refine smove rfl ?_); (refine smove rfl ?_); (refine su (alenr rfl rfl) ?_); (refine su (asub rfl rfl (by exact inr_i64_of (by omega))) ?_); (refine slss rfl rfl ?_); apply jW) | (refine WP.regionC (id := 7) ?_; (refine smove rfl ?_); (refine sadd rfl rfl (by exact inr_i64_of (by omega)) ?_); (refine sassign rfl ?_); apply jW)))
            refine ⟨i + 1, ⟨by omega, by omega⟩, ?_⟩
            rw [hsn, hcs]
            exact ⟨[0, 1, 2], ToR.S rfl (by repeat' (first | exact rt_nil | refine rt_r rfl rfl ?_ | refine rt_t rfl rfl ?_ | refine rt_e rfl rfl ?_ | refine rt_p rfl rfl (by first | (simp [AV.bd, bdL, bdL_append]; done) | fail) ?_)) (by repeat' (first | exact ro_nil | refine ro_e rfl rfl ?_ | refine ro_p rfl (by first | exact rfl | fail) (by first | exact bdL_map (fun _ => by exact rfl) _ | (simp [bdL, bdL_append, AV.bd]; done) | fail) ?_)) rfl (by (rw [hm]; exact rfl)) rfl (by (simp [bdT, AV.bd, bdL, bdL_append]; done)) (by repeat' (first | exact True.intro | exact rfl | refine And.intro ?_ ?_ | exact bdL_map (fun _ => by exact rfl) _ | (simp [bdOq, bdL, bdL_append, AV.bd]; done))) (by (rw [hm]; exact Nat.le_of_ble_eq_true rfl))⟩
      · obtain ⟨kd, a, hch, hcase⟩ := chn_one g (l := (nth g.rules i).body) (h := (nth g.rules i).head) (p := (nth g.rules i).price) (o := i) (nx := N) (by omega)
        have hex : (extraN (nth g.rules i) : Int) = 0 := by unfold extraN; omega
        have hln : ∀ x, (nth g.rules i).body = [x] → (nth g.rules i).body.length = 1 ∧ nth (nth g.rules i).body (nat_lit 0) = x ∧ -1000000 ≤ x ∧ x ≤ 1000000 := fun x hx => ⟨by rw [hx]; rfl, by rw [hx]; rfl, hb x (by rw [hx]; simp)⟩
        rw [hex, Int.add_zero] at hsn
        rw [hch] at hcs
        have hm2 : ∀ o : NRul, (acc ++ [o]).map nruleA = acc.map nruleA ++ [nruleA o] := fun o => by rw [List.map_append]; rfl
        have hl2 : ∀ o : NRul, (acc ++ [o]).length = (acc.map nruleA ++ [nruleA o]).length := fun o => by simp
        rcases hcase with ⟨hbd, hkd, ha⟩ | ⟨x, hbd, hx, hkd, ha⟩ | ⟨x, hbd, hx, hkd, ha⟩ <;> rw [hkd, ha] at hcs
        · have hl0 : (nth g.rules i).body.length = 0 := by rw [hbd]; rfl
          (repeat' (first | apply jA | apply jF | apply jH | apply jI | apply jJ | apply jL | apply jP | refine bl_y rfl ?_ | (refine wp_cond rfl (fun hc => ?_) (fun hc => ?_) <;> (try simp only [sB, ne_eq, reduceCtorEq] at hc) <;> (try (exfalso; omega))) | (refine WP.regionC (id := 6) ?_; (refine smove rfl ?_); (refine sfieldp rfl rfl rfl ?_); (refine sloadp rfl rfl rfl rfl ?_); (refine slenm rfl rfl ?_); (refine slss rfl rfl ?_); apply jW) | (refine WP.regionC (id := 8) ?_; (refine sfieldp rfl rfl rfl ?_); (refine sloadp rfl rfl rfl rfl ?_); (refine smove rfl ?_); (refine sidxn rfl rfl (by omega) ?_); (refine sloadw rfl rfl ?_); (refine se_alloc rfl ?_); (refine se_store_b rfl rfl rfl rfl ?_); apply jW) | (refine WP.regionC (id := 9) ?_; (refine sfieldp rfl rfl rfl ?_); (refine sloadp rfl rfl rfl rfl ?_); (refine sfieldp rfl rfl rfl ?_); (refine sloadp rfl rfl rfl rfl ?_); (refine smove rfl ?_); (refine su (ap_build (RqP.cons (rq_p rfl rfl) (RqP.cons (rq_p rfl rfl) (RqP.cons (rq_p rfl rfl) (RqP.nil)))) rfl) ?_); (refine se_alloc rfl ?_); (refine se_store_b rfl rfl rfl rfl ?_); apply jW) | (refine WP.regionC (id := 10) ?_; (refine sfieldp rfl rfl rfl ?_); (refine sloadp rfl rfl rfl rfl ?_); (refine slenm rfl rfl ?_); (refine seql rfl rfl ?_); (refine sassign rfl ?_); apply jW) | (refine WP.regionC (id := 11) ?_; (refine sfieldp rfl rfl rfl ?_); (refine se_store_b rfl rfl rfl rfl ?_); apply jW) | (refine WP.regionC (id := 12) ?_; (refine smove rfl ?_); (refine sloadpw rfl rfl rfl rfl ?_); (refine se_lit (OpP.cons rfl (OpP.nil)) rfl rfl rfl rfl rfl rfl ?_); (refine se_app rfl rfl rfl (by (simp; done)) rfl rfl rfl rfl (by (simp only [sL] <;> omega)) ?_); (refine sassign rfl ?_); apply jW) | (refine WP.regionC (id := 7) ?_; (refine smove rfl ?_); (refine sadd rfl rfl (by exact inr_i64_of (by omega)) ?_); (refine sassign rfl ?_); apply jW)))
          refine ⟨i + 1, ⟨by omega, by omega⟩, ?_⟩
          rw [hsn, hcs, hl2, hm2]
          exact ⟨[0, 1, 6], ToR.S rfl (by repeat' (first | exact rt_nil | refine rt_r rfl rfl ?_ | refine rt_t rfl rfl ?_ | refine rt_e rfl rfl ?_ | refine rt_p rfl rfl (by first | (simp [AV.bd, bdL, bdL_append]; done) | fail) ?_)) (by repeat' (first | exact ro_nil | refine ro_e rfl rfl ?_ | refine ro_p rfl (by first | exact rfl | fail) (by first | (simp [bdL, bdL_append, AV.bd]; done) | fail) ?_)) rfl (by (rw [hm]; exact rfl)) rfl (by (simp [bdT, AV.bd, bdL, bdL_append]; done)) (by repeat' (first | exact True.intro | exact rfl | refine And.intro ?_ ?_ | (simp [bdOq, bdL, bdL_append, AV.bd]; done))) (by (rw [hm]; exact Nat.le_of_ble_eq_true rfl))⟩
        · obtain ⟨hl1, e0, x1, x2⟩ := hln _ hbd
          have e0b : nth (nth g.rules i).body 0 = x := e0
          rw [← e0b] at hcs
          (repeat' (first | apply jA | apply jF | apply jH | apply jI | apply jJ | apply jL | apply jP | refine bl_y rfl ?_ | (refine wp_cond rfl (fun hc => ?_) (fun hc => ?_) <;> (try simp only [sB, ne_eq, reduceCtorEq] at hc) <;> (try (exfalso; omega))) | (refine WP.regionC (id := 6) ?_; (refine smove rfl ?_); (refine sfieldp rfl rfl rfl ?_); (refine sloadp rfl rfl rfl rfl ?_); (refine slenm rfl rfl ?_); (refine slss rfl rfl ?_); apply jW) | (refine WP.regionC (id := 8) ?_; (refine sfieldp rfl rfl rfl ?_); (refine sloadp rfl rfl rfl rfl ?_); (refine smove rfl ?_); (refine sidxn rfl rfl (by omega) ?_); (refine sloadw rfl rfl ?_); (refine se_alloc rfl ?_); (refine se_store_b rfl rfl rfl rfl ?_); apply jW) | (refine WP.regionC (id := 9) ?_; (refine sfieldp rfl rfl rfl ?_); (refine sloadp rfl rfl rfl rfl ?_); (refine sfieldp rfl rfl rfl ?_); (refine sloadp rfl rfl rfl rfl ?_); (refine smove rfl ?_); (refine su (ap_build (RqP.cons (rq_p rfl rfl) (RqP.cons (rq_p rfl rfl) (RqP.cons (rq_p rfl rfl) (RqP.nil)))) rfl) ?_); (refine se_alloc rfl ?_); (refine se_store_b rfl rfl rfl rfl ?_); apply jW) | (refine WP.regionC (id := 10) ?_; (refine sfieldp rfl rfl rfl ?_); (refine sloadp rfl rfl rfl rfl ?_); (refine slenm rfl rfl ?_); (refine seql rfl rfl ?_); (refine sassign rfl ?_); apply jW) | (refine WP.regionC (id := 13) ?_; (refine sfieldp rfl rfl rfl ?_); (refine sloadp rfl rfl rfl rfl ?_); (refine slenm rfl rfl ?_); (refine seql rfl rfl ?_); (refine smove rfl ?_); (refine sg (gq_vt rfl rfl) (fun he => ap_field_p (rq_p rfl rfl) rfl rfl) ?_); (refine sg (gq_vt rfl rfl) (fun he => ap_load_p (rq_c rfl rfl) rfl rfl rfl) ?_); (refine sg (gq_vt rfl rfl) (fun he => ap_idx_n (rq_c rfl rfl) (rq_p rfl rfl) (by (try simp only [sH, id, sB, ne_eq, reduceCtorEq] at he); (simp only [sL] <;> omega))) ?_); (refine sg (gq_vt rfl rfl) (fun he => ap_load_w (rq_c rfl rfl) rfl) ?_); (refine sg (gq_vt rfl rfl) (fun he => ap_geq (rq_c rfl rfl) (rq_p rfl rfl)) ?_); (refine su (ap_and (rq_p rfl rfl) (rq_c rfl rfl)) ?_); (refine sassign rfl ?_); apply jW) | (refine wp_draw (id := 14) 8 mixed (by kernel_rfl) (by kernel_rfl) rfl ?_ <;> (refine rfieldp rfl rfl rfl ?_) <;> (refine rloadp rfl rfl rfl rfl ?_) <;> (refine rd_u rfl rfl (aidxn rfl rfl (by (simp only [sL] <;> omega))) ?_) <;> (refine rd_u rfl rfl (aloadw rfl rfl) ?_) <;> (refine rfieldp rfl rfl rfl ?_) <;> (refine rd_store_b rfl rfl rfl rfl ?_) <;> (refine rfieldp rfl rfl rfl ?_) <;> (refine rd_store_b rfl rfl rfl rfl ?_) <;> (refine rd_end (by kernel_rfl) ?_)) | (refine WP.regionC (id := 15) ?_; (refine smove rfl ?_); (refine sloadpw rfl rfl rfl rfl ?_); (refine se_lit (OpP.cons rfl (OpP.nil)) rfl rfl rfl rfl rfl rfl ?_); (refine se_app rfl rfl rfl (by (simp; done)) rfl rfl rfl rfl (by (simp only [sL] <;> omega)) ?_); (refine sassign rfl ?_); apply jW) | (refine WP.regionC (id := 7) ?_; (refine smove rfl ?_); (refine sadd rfl rfl (by exact inr_i64_of (by omega)) ?_); (refine sassign rfl ?_); apply jW)))
          refine ⟨i + 1, ⟨by omega, by omega⟩, ?_⟩
          rw [hsn, hcs, hl2, hm2]
          exact ⟨[0, 1, 14], ToR.S rfl (by repeat' (first | exact rt_nil | refine rt_r rfl rfl ?_ | refine rt_t rfl rfl ?_ | refine rt_e rfl rfl ?_ | refine rt_p rfl rfl (by first | (simp [AV.bd, bdL, bdL_append]; done) | fail) ?_)) (by repeat' (first | exact ro_nil | refine ro_e rfl rfl ?_ | refine ro_p rfl (by first | exact rfl | fail) (by first | (simp [bdL, bdL_append, AV.bd]; done) | fail) ?_)) rfl (by (rw [hm]; exact rfl)) rfl (by (simp [bdT, AV.bd, bdL, bdL_append]; done)) (by repeat' (first | exact True.intro | exact rfl | refine And.intro ?_ ?_ | (simp [bdOq, bdL, bdL_append, AV.bd]; done))) (by (rw [hm]; exact Nat.le_of_ble_eq_true rfl))⟩
        · obtain ⟨hl1, e0, x1, x2⟩ := hln _ hbd
          have e0b : nth (nth g.rules i).body 0 = x := e0
          rw [← e0b] at hcs
          (repeat' (first | apply jA | apply jF | apply jH | apply jI | apply jJ | apply jL | apply jP | refine bl_y rfl ?_ | (refine wp_cond rfl (fun hc => ?_) (fun hc => ?_) <;> (try simp only [sB, ne_eq, reduceCtorEq] at hc) <;> (try (exfalso; omega))) | (refine WP.regionC (id := 6) ?_; (refine smove rfl ?_); (refine sfieldp rfl rfl rfl ?_); (refine sloadp rfl rfl rfl rfl ?_); (refine slenm rfl rfl ?_); (refine slss rfl rfl ?_); apply jW) | (refine WP.regionC (id := 8) ?_; (refine sfieldp rfl rfl rfl ?_); (refine sloadp rfl rfl rfl rfl ?_); (refine smove rfl ?_); (refine sidxn rfl rfl (by omega) ?_); (refine sloadw rfl rfl ?_); (refine se_alloc rfl ?_); (refine se_store_b rfl rfl rfl rfl ?_); apply jW) | (refine WP.regionC (id := 9) ?_; (refine sfieldp rfl rfl rfl ?_); (refine sloadp rfl rfl rfl rfl ?_); (refine sfieldp rfl rfl rfl ?_); (refine sloadp rfl rfl rfl rfl ?_); (refine smove rfl ?_); (refine su (ap_build (RqP.cons (rq_p rfl rfl) (RqP.cons (rq_p rfl rfl) (RqP.cons (rq_p rfl rfl) (RqP.nil)))) rfl) ?_); (refine se_alloc rfl ?_); (refine se_store_b rfl rfl rfl rfl ?_); apply jW) | (refine WP.regionC ?_; (refine sfieldp rfl rfl rfl ?_); (refine sloadp rfl rfl rfl rfl ?_); (refine slenm rfl rfl ?_); (refine seql rfl rfl ?_); (refine sassign rfl ?_); apply jW) | (refine WP.regionC (id := 13) ?_; (refine sfieldp rfl rfl rfl ?_); (refine sloadp rfl rfl rfl rfl ?_); (refine slenm rfl rfl ?_); (refine seql rfl rfl ?_); (refine smove rfl ?_); (refine sg (gq_vt rfl rfl) (fun he => ap_field_p (rq_p rfl rfl) rfl rfl) ?_); (refine sg (gq_vt rfl rfl) (fun he => ap_load_p (rq_c rfl rfl) rfl rfl rfl) ?_); (refine sg (gq_vt rfl rfl) (fun he => ap_idx_n (rq_c rfl rfl) (rq_p rfl rfl) (by (try simp only [sH, id, sB, ne_eq, reduceCtorEq] at he); (simp only [sL] <;> omega))) ?_); (refine sg (gq_vt rfl rfl) (fun he => ap_load_w (rq_c rfl rfl) rfl) ?_); (refine sg (gq_vt rfl rfl) (fun he => ap_geq (rq_c rfl rfl) (rq_p rfl rfl)) ?_); (refine su (ap_and (rq_p rfl rfl) (rq_c rfl rfl)) ?_); (refine sassign rfl ?_); apply jW) | (refine wp_draw (id := 17) 9 mixed (by kernel_rfl) (by kernel_rfl) rfl ?_ <;> (refine rfieldp rfl rfl rfl ?_) <;> (refine rloadp rfl rfl rfl rfl ?_) <;> (refine rd_u rfl rfl (aidxn rfl rfl (by (simp only [sL] <;> omega))) ?_) <;> (refine rd_u rfl rfl (aloadw rfl rfl) ?_) <;> (refine rd_u rfl rfl (asub rfl rfl (by exact inr_i64_of (by omega))) ?_) <;> (refine rfieldp rfl rfl rfl ?_) <;> (refine rd_store_b rfl rfl rfl rfl ?_) <;> (refine rfieldp rfl rfl rfl ?_) <;> (refine rd_store_b rfl rfl rfl rfl ?_) <;> (refine rd_end (by kernel_rfl) ?_)) | (refine WP.regionC (id := 18) ?_; (refine smove rfl ?_); (refine sloadpw rfl rfl rfl rfl ?_); (refine se_lit (OpP.cons rfl (OpP.nil)) rfl rfl rfl rfl rfl rfl ?_); (refine se_app rfl rfl rfl (by (simp; done)) rfl rfl rfl rfl (by (simp only [sL] <;> omega)) ?_); (refine sassign rfl ?_); apply jW) | (refine WP.regionC (id := 7) ?_; (refine smove rfl ?_); (refine sadd rfl rfl (by exact inr_i64_of (by omega)) ?_); (refine sassign rfl ?_); apply jW)))
          refine ⟨i + 1, ⟨by omega, by omega⟩, ?_⟩
          rw [hsn, hcs, hl2, hm2]
          exact ⟨[0, 1, 15], ToR.S rfl (by repeat' (first | exact rt_nil | refine rt_r rfl rfl ?_ | refine rt_t rfl rfl ?_ | refine rt_e rfl rfl ?_ | refine rt_p rfl rfl (by first | (simp [AV.bd, bdL, bdL_append]; done) | fail) ?_)) (by repeat' (first | exact ro_nil | refine ro_e rfl rfl ?_ | refine ro_p rfl (by first | exact rfl | fail) (by first | (simp [bdL, bdL_append, AV.bd]; done) | fail) ?_)) rfl (by (rw [hm]; exact rfl)) rfl (by (simp [bdT, AV.bd, bdL, bdL_append]; done)) (by repeat' (first | exact True.intro | exact rfl | refine And.intro ?_ ?_ | (simp [bdOq, bdL, bdL_append, AV.bd]; done))) (by (rw [hm]; exact Nat.le_of_ble_eq_true rfl))⟩
    · obtain rfl : i = g.rules.length := by omega
      rw [List.take_length] at hnxi ⊢
      have hch : chns g 0 (baseN g) g.rules = chainsN g := rfl
      rw [hch] at hnxi ⊢
      (repeat' (first | apply jA | apply jF | apply jH | apply jJ | apply jL | apply jP | (refine wp_cond rfl (fun hc => ?_) (fun hc => ?_) <;> (try simp only [sB, ne_eq, reduceCtorEq] at hc) <;> (try (exfalso; omega))) | (refine WP.regionC (id := 6) ?_; (refine smove rfl ?_); (refine sfieldp rfl rfl rfl ?_); (refine sloadp rfl rfl rfl rfl ?_); (refine slenm rfl rfl ?_); (refine slss rfl rfl ?_); apply jW) | (refine WP.regionC (id := 36) ?_; (refine sassign rfl ?_); apply jW)))
      refine wp_loop (fun (t : Nat) => t ≤ g.terms.length) (fun t => g.terms.length - t)
        (fun t => (S 193 [(1, .ptr 0 4 0 0), (2, .ptr 1 4 0 0), (4, intsA (numsT g)), (5, intA (nextN (baseN g) g.rules)), (6, .ref 2 6 0 (chainsN g ++ (tlist g t).map (termN g)).length), (13, intA (t : Nat))] 3 [(0, some (.arr 4 [gramA g])), (1, some (.arr 4 [.agg [intA 0, intA 0, intA 0, .val (.slice none 0 0)]])), (2, some (.arr 6 ((chainsN g ++ (tlist g t).map (termN g)).map nruleA)))])) 0 ?_ (Nat.zero_le _) ?_
      · rw [show (tlist g 0).map (termN g) = [] from rfl, List.append_nil]
        exact ⟨[0, 1, 2], ToR.S rfl (by repeat' (first | exact rt_nil | refine rt_r rfl rfl ?_ | refine rt_t rfl rfl ?_ | refine rt_e rfl rfl ?_ | refine rt_p rfl rfl (by first | (simp [AV.bd, bdL, bdL_append]; done) | fail) ?_)) (by repeat' (first | exact ro_nil | refine ro_e rfl rfl ?_ | refine ro_p rfl (by first | exact rfl | fail) (by first | exact bdL_map (fun _ => by exact rfl) _ | (simp [bdL, bdL_append, AV.bd]; done) | fail) ?_)) rfl (by (rw [hm]; exact rfl)) rfl (by (simp [bdT, AV.bd, bdL, bdL_append]; done)) (by repeat' (first | exact True.intro | exact rfl | refine And.intro ?_ ?_ | exact bdL_map (fun _ => by exact rfl) _ | (simp [bdOq, bdL, bdL_append, AV.bd]; done))) (by (rw [hm]; exact Nat.le_of_ble_eq_true rfl))⟩
      intro t ht
      have htl := tlist_len g t
      have hrl : (chainsN g ++ (tlist g t).map (termN g)).length ≤ 6000 := by rw [List.length_append, List.length_map]; omega
      by_cases hlt2 : t < g.terms.length
      · have hnt : nth (numsT g) t = numT g t := by unfold numsT; rw [nth_eq (by simpa using hlt2)]; simp
        have hsuc : tlist g (t + 1) = tlist g t ++ (if needT g t then [t] else []) := rfl
        unfold numT at hnt
        have htn : (0 : Int) ≤ tnum g t := by unfold tnum; omega
        cases hn : needT g t with
        | true =>
          rw [hn, if_pos rfl] at hnt hsuc
          generalize hR : chainsN g ++ (tlist g t).map (termN g) = R at *
          have hR2 : chainsN g ++ (tlist g (t + 1)).map (termN g) = R ++ [termN g t] := by rw [hsuc, List.map_append, ← List.append_assoc, hR]; rfl
          have hm2 : (R ++ [termN g t]).map nruleA = R.map nruleA ++ [nruleA (termN g t)] := by rw [List.map_append]; rfl
          have hl2 : (R ++ [termN g t]).length = (R.map nruleA ++ [nruleA (termN g t)]).length := by simp
          (repeat' (first | apply jA | apply jF | apply jH | apply jI | apply jN | (refine wp_cond rfl (fun hc => ?_) (fun hc => ?_) <;> (try simp only [sB, ne_eq, reduceCtorEq] at hc) <;> (try (exfalso; omega))) | (refine WP.regionC (id := 37) ?_; (refine smove rfl ?_); (refine smove rfl ?_); (refine slenm rfl rfl ?_); (refine slss rfl rfl ?_); apply jW) | (refine WP.regionC (id := 39) ?_; (refine smove rfl ?_); (refine smove rfl ?_); (refine sidxn rfl rfl (by omega) ?_); (refine sloadw rfl rfl ?_); (refine su (ageq rfl rfl) ?_); apply jW) | (refine WP.regionC (id := 40) ?_; (refine smove rfl ?_); (refine smove rfl ?_); (refine smove rfl ?_); (refine sidxn rfl rfl (by omega) ?_); (refine sloadw rfl rfl ?_); (refine smove rfl ?_); (refine su (ap_build (RqP.cons (rq_p rfl rfl) (RqP.cons (rq_p rfl rfl) (RqP.cons (rq_p rfl rfl) (RqP.cons (rq_p rfl rfl) (RqP.nil))))) rfl) ?_); (refine se_lit (OpP.cons rfl (OpP.nil)) rfl rfl rfl rfl rfl rfl ?_); (refine se_app rfl rfl rfl (by (simp; done)) rfl rfl rfl rfl (by (simp only [sL] <;> omega)) ?_); (refine sassign rfl ?_); apply jW) | (refine WP.regionC (id := 38) ?_; (refine smove rfl ?_); (refine sadd rfl rfl (by exact inr_i64_of (by omega)) ?_); (refine sassign rfl ?_); apply jW)))
          refine ⟨t + 1, ⟨by omega, by omega⟩, ?_⟩
          rw [hR2, hl2, hm2, hnt]
          exact ⟨[0, 1, 4], ToR.S rfl (by repeat' (first | exact rt_nil | refine rt_r rfl rfl ?_ | refine rt_t rfl rfl ?_ | refine rt_e rfl rfl ?_ | refine rt_p rfl rfl (by first | (simp [AV.bd, bdL, bdL_append]; done) | fail) ?_)) (by repeat' (first | exact ro_nil | refine ro_e rfl rfl ?_ | refine ro_p rfl (by first | exact rfl | fail) (by first | (simp [bdL, bdL_append, AV.bd]; done) | fail) ?_)) rfl (by (rw [hm]; exact rfl)) rfl (by (simp [bdT, AV.bd, bdL, bdL_append]; done)) (by repeat' (first | exact True.intro | exact rfl | refine And.intro ?_ ?_ | (simp [bdOq, bdL, bdL_append, AV.bd]; done))) (by (rw [hm]; exact Nat.le_of_ble_eq_true rfl))⟩
        | false =>
          rw [hn, if_neg Bool.false_ne_true] at hnt hsuc
          (repeat' (first | apply jA | apply jF | apply jH | apply jI | apply jN | (refine wp_cond rfl (fun hc => ?_) (fun hc => ?_) <;> (try simp only [sB, ne_eq, reduceCtorEq] at hc) <;> (try (exfalso; omega))) | (refine WP.regionC (id := 37) ?_; (refine smove rfl ?_); (refine smove rfl ?_); (refine slenm rfl rfl ?_); (refine slss rfl rfl ?_); apply jW) | (refine WP.regionC (id := 39) ?_; (refine smove rfl ?_); (refine smove rfl ?_); (refine sidxn rfl rfl (by omega) ?_); (refine sloadw rfl rfl ?_); (refine su (ageq rfl rfl) ?_); apply jW) | (refine WP.regionC (id := 38) ?_; (refine smove rfl ?_); (refine sadd rfl rfl (by exact inr_i64_of (by omega)) ?_); (refine sassign rfl ?_); apply jW)))
          refine ⟨t + 1, ⟨by omega, by omega⟩, ?_⟩
          rw [hsuc, List.append_nil]
          exact ⟨[0, 1, 2], ToR.S rfl (by repeat' (first | exact rt_nil | refine rt_r rfl rfl ?_ | refine rt_t rfl rfl ?_ | refine rt_e rfl rfl ?_ | refine rt_p rfl rfl (by first | (simp [AV.bd, bdL, bdL_append]; done) | fail) ?_)) (by repeat' (first | exact ro_nil | refine ro_e rfl rfl ?_ | refine ro_p rfl (by first | exact rfl | fail) (by first | exact bdL_map (fun _ => by exact rfl) _ | (simp [bdL, bdL_append, AV.bd]; done) | fail) ?_)) rfl (by (rw [hm]; exact rfl)) rfl (by (simp [bdT, AV.bd, bdL, bdL_append]; done)) (by repeat' (first | exact True.intro | exact rfl | refine And.intro ?_ ?_ | exact bdL_map (fun _ => by exact rfl) _ | (simp [bdOq, bdL, bdL_append, AV.bd]; done))) (by (rw [hm]; exact Nat.le_of_ble_eq_true rfl))⟩
      · obtain rfl : t = g.terms.length := by omega
        have hnr := nrm_rules g
        rw [← hnr] at hrl ⊢
        by_cases h600 : 600 < (nrmOf g).rules.length
        · have hb : binG g = (⟨0, 0, 0, []⟩, 11) := by rw [binG, if_pos hval, if_pos h600]
          rw [hb]
          (repeat' (first | apply jA | apply jH | apply jJ | apply jK | apply jL | apply jM | apply jP | apply jS | (refine wp_cond rfl (fun hc => ?_) (fun hc => ?_) <;> (try simp only [sB, ne_eq, reduceCtorEq] at hc) <;> (try (exfalso; omega))) | (refine WP.regionC (id := 37) ?_; (refine smove rfl ?_); (refine smove rfl ?_); (refine slenm rfl rfl ?_); (refine slss rfl rfl ?_); apply jW) | (refine WP.regionC (id := 41) ?_; (refine smove rfl ?_); (refine su (alenr rfl rfl) ?_); (refine su (agtr rfl rfl) ?_); apply jW) | (refine WP.regionC (id := 42) ?_; (refine su (ap_build (RqP.nil) rfl) ?_); (refine se_store_b rfl rfl rfl rfl ?_); (refine sassign rfl ?_); apply jW)))
          exact ret_many (.cellT rfl rfl rfl rfl (.tmp rfl .nil)) (Nat.le_of_ble_eq_true rfl) (by first | ((repeat' first | exact FzL.nil | refine FzL.cons ?_ ?_ | exact Fz.nil | (exact Fz.reflp (by simp [AV.bd, bdL, bdL_append])) | refine Fz.aggL ?_); done) | fail)
        · have hb : binG g = (nrmOf g, 0) := by rw [binG, if_pos hval, if_neg h600]
          rw [hb]
          (repeat' (first | apply jA | apply jH | apply jI | apply jJ | apply jK | apply jL | apply jP | apply jS | (refine wp_cond rfl (fun hc => ?_) (fun hc => ?_) <;> (try simp only [sB, ne_eq, reduceCtorEq] at hc) <;> (try (exfalso; omega))) | (refine WP.regionC (id := 37) ?_; (refine smove rfl ?_); (refine smove rfl ?_); (refine slenm rfl rfl ?_); (refine slss rfl rfl ?_); apply jW) | (refine WP.regionC (id := 41) ?_; (refine smove rfl ?_); (refine su (alenr rfl rfl) ?_); (refine su (agtr rfl rfl) ?_); apply jW) | (refine WP.regionC (id := 43) ?_; (refine sfieldp rfl rfl rfl ?_); (refine sloadp rfl rfl rfl rfl ?_); (refine slenm rfl rfl ?_); (refine smove rfl ?_); (refine sfieldp rfl rfl rfl ?_); (refine sloadp rfl rfl rfl rfl ?_); (refine smove rfl ?_); (refine su (ap_build (RqP.cons (rq_p rfl rfl) (RqP.cons (rq_p rfl rfl) (RqP.cons (rq_p rfl rfl) (RqP.cons (rq_p rfl rfl) (RqP.nil))))) rfl) ?_); (refine se_store_b rfl rfl rfl rfl ?_); (refine sassign rfl ?_); apply jW)))
          exact ret_many (xs := [.agg [intA g.terms.length, intA (nextN (baseN g) g.rules), intA g.start, .ref 2 6 0 (nrmOf g).rules.length], .val (.int .i64 0)]) (.cellT rfl rfl rfl rfl (.tmp rfl .nil)) (Nat.le_of_ble_eq_true rfl) (by first | ((repeat' first | exact FzL.nil | refine FzL.cons ?_ ?_ | (exact Fz.list rfl rfl (fun _ => by simp [AV.bd, bdL, bdL_append]) (fun _ => rfl)) | (exact Fz.reflp (by simp [AV.bd, bdL, bdL_append])) | refine Fz.aggL ?_); done) | fail)
  · have hv0 : validG g = false := by simpa using hval
    have hbg : binG g = (⟨0, 0, 0, []⟩, 1) := by rw [binG, hv0]; rfl
    rw [hbg]
    (repeat' (first | apply jA | apply jH | apply jI | apply jK | apply jM | apply jS | (refine wp_cond rfl (fun hc => ?_) (fun hc => ?_) <;> (try simp only [sB, ne_eq, reduceCtorEq] at hc) <;> (try (exfalso; omega))) | (refine WP.regionC (id := 0) ?_; (refine se_box rfl (by exact ⟨rfl, rfl⟩) ?_); (refine se_alloc rfl ?_); (refine sassign rfl ?_); apply jW) | (refine WP.regionC (id := 1) ?_; (refine sloadpw rfl rfl rfl rfl ?_); (refine sc_p rfl rfl (by first | ((repeat' first | exact SubL.nil | refine SubL.cons ?_ ?_ | exact Sub.refl); done) | fail) (by first | (simp [bdL, bdL_append, AV.bd]; done) | fail) (rvalid18_fn _) ?_); (refine su (anot rfl) ?_); apply jW) | (refine WP.regionC (id := 2) ?_; (refine su (ap_build (RqP.nil) rfl) ?_); (refine se_store_b rfl rfl rfl rfl ?_); (refine sassign rfl ?_); apply jW)))
    · exact ret_many (.cellT rfl rfl rfl rfl (.tmp rfl .nil)) (Nat.le_of_ble_eq_true rfl) (by first | ((repeat' first | exact FzL.nil | refine FzL.cons ?_ ?_ | exact Fz.nil | (exact Fz.reflp (by simp [AV.bd, bdL, bdL_append])) | refine Fz.aggL ?_); done) | fail)
    · exact absurd hc hval
end Go.Lg

namespace Go.Lg
open Go.Proofs
set_option linter.unusedSimpArgs false
set_option linter.unusedVariables false
attribute [local irreducible] Ap Rq asemC WP RunD Ret Gq thenA inBlockA bodyQ noGotoA RqL RqP OpP
set_option maxHeartbeats 8000000
set_option maxRecDepth 20000
attribute [local simp] AV.cells
end Go.Lg

namespace Go.Lg
open Go.Proofs
set_option linter.unusedSimpArgs false
set_option linter.unusedVariables false
attribute [local irreducible] Ap Rq asemC WP RunD Ret Gq thenA inBlockA bodyQ noGotoA RqL RqP OpP
set_option maxHeartbeats 8000000
set_option maxRecDepth 20000
attribute [local simp] AV.cells
theorem sizeP_eq (p : Prs) : sizeP p = 1 + sizePL p.kids := by cases p; rw [sizeP]; rfl
theorem sizeP_pos (p : Prs) : 1 ≤ sizeP p := by
  induction p using Prs.ind with
  | h p ih =>
    rw [sizeP_eq]
    generalize p.kids = l at *
    have : 0 ≤ sizePL l := by
      induction l with
      | nil => rw [sizePL]; omega
      | cons a l ihl => rw [sizePL]; have := ih a (by simp); have := ihl fun x hx => ih x (by simp [hx]); omega
    omega
theorem sizePL_app : ∀ (a b : List Prs), sizePL (a ++ b) = sizePL a + sizePL b
  | [], b => by rw [List.nil_append, sizePL]; omega
  | p :: a, b => by rw [List.cons_append, sizePL, sizePL, sizePL_app a b]; omega
theorem sizePL_nn : ∀ (l : List Prs), 0 ≤ sizePL l
  | [] => by rw [sizePL]; omega
  | p :: l => by rw [sizePL]; have := sizeP_pos p; have := sizePL_nn l; omega
theorem sizePL_take (l : List Prs) (i : Nat) : sizePL (l.take i) ≤ sizePL l := by
  have := sizePL_app (l.take i) (l.drop i)
  rw [List.take_append_drop] at this
  have := sizePL_nn (l.drop i)
  omega
theorem sizePL_mem {l : List Prs} {x : Prs} (h : x ∈ l) : sizeP x ≤ sizePL l := by
  induction l with
  | nil => simp at h
  | cons a l ih =>
    rw [sizePL]
    have := sizePL_nn l
    have := sizeP_pos a
    rcases List.mem_cons.1 h with rfl | h
    · omega
    · have := ih h; omega
theorem yieldPL_snoc (n : Nrm) (p : Prs) : ∀ l : List Prs, yieldPL n (l ++ [p]) = yieldPL n l ++ yieldP n p
  | [] => by simp [yieldPL]
  | q :: l => by simp [yieldPL, yieldPL_snoc n p l]
theorem pricePL_snoc (n : Nrm) (p : Prs) : ∀ l : List Prs, pricePL n (l ++ [p]) = pricePL n l + priceP n p
  | [] => by simp [pricePL]
  | q :: l => by simp [pricePL, pricePL_snoc n p l]; omega
theorem yield_len (n : Nrm) (p : Prs) : ((yieldP n p).length : Int) ≤ sizeP p := by
  induction p using Prs.ind with
  | h p ih =>
    rw [yieldP_eq, sizeP_eq]
    generalize p.kids = l at *
    have : ((yieldPL n l).length : Int) ≤ sizePL l := by
      induction l with
      | nil => simp [yieldPL, sizePL]
      | cons a l ihl => rw [yieldPL, sizePL, List.length_append]; have := ih a (by simp); have := ihl fun x hx => ih x (by simp [hx]); omega
    split
    · have := sizePL_nn l; simp; omega
    · omega
theorem yieldL_len (n : Nrm) : ∀ l : List Prs, ((yieldPL n l).length : Int) ≤ sizePL l
  | [] => by simp [yieldPL, sizePL]
  | a :: l => by rw [yieldPL, sizePL, List.length_append]; have := yield_len n a; have := yieldL_len n l; omega
theorem rule_price {n : Nrm} (hn : validN n = true) {i : Nat} (hi : i < n.rules.length) : 0 ≤ (nth n.rules i).price ∧ (nth n.rules i).price ≤ 1000 := by
  unfold validN at hn
  simp only [Bool.and_eq_true, List.all_eq_true] at hn
  have := hn.2 _ (nth_mem hi)
  unfold nruleOk at this
  simp only [Bool.and_eq_true, decide_eq_true_eq] at this
  omega
theorem priceL_bd {n : Nrm} : ∀ {l : List Prs}, (∀ x, x ∈ l → 0 ≤ priceP n x ∧ priceP n x ≤ 1000 * sizeP x) → 0 ≤ pricePL n l ∧ pricePL n l ≤ 1000 * sizePL l
  | [], _ => by rw [pricePL, sizePL]; omega
  | a :: l, h => by
    have := h a (by simp)
    have := priceL_bd (l := l) fun x hx => h x (by simp [hx])
    rw [pricePL, sizePL]; omega
theorem price_bd {n : Nrm} (hn : validN n = true) (p : Prs) : ∀ h, okP n h p = true → 0 ≤ priceP n p ∧ priceP n p ≤ 1000 * sizeP p := by
  induction p using Prs.ind with
  | h p ih =>
    intro h hp
    have hp := okP_in.1 hp
    rw [priceP_eq, sizeP_eq]
    have h1 := rule_price hn hp.rn
    have h2 : 0 ≤ pricePL n p.kids ∧ pricePL n p.kids ≤ 1000 * sizePL p.kids := priceL_bd fun x hx => by
      obtain ⟨i, hi, rfl⟩ := List.getElem_of_mem hx
      have := hp.kid i hi
      rw [nth_eq hi] at this
      exact ih _ hx _ this
    simp only [nruleAt]
    omega
theorem yield24_fn (n : Nrm) (p : Prs) : ∀ h, okP n h p = true → sizeP p ≤ 1000000 → Fn Try.prog 21 [nrmA n, prsA p] (intsA (yieldP n p)) := by
  induction p using Prs.ind with
  | h p ih =>
    intro h hp hsz
    have hq := okP_in.1 hp
    have hrn := hq.rn
    have hr0 := hq.r0
    have hkk := hq.kid
    rw [sizeP_eq] at hsz
    rw [yieldP_eq, prsA_kids]
    generalize p.kids = kids at *
    generalize p.rule = rule at *
    unfold nruleAt
    clear hq hp p
    refine Fn.intro (by simp [AV.bd, bdL, bdL_append]) (by kernel_rfl) Try.func21 rfl rfl Try.ntmps21 (by exact Nat.le_of_ble_eq_true rfl) ?_; intro Γ hm
    refine wp_lens 0 rfl fun h0 => wp_lens 1 rfl fun hl => ?_
    have h0 := lens_nrm h0
    have hl : kids.length ≤ 9223372036854775807 := by have := hl; simp [AV.lens, lensL, prssA] at this; omega
    by_cases hk2 : (nth n.rules rule.toNat).kind = 2
    · rw [if_pos hk2]
      (repeat' (first | apply jA | apply jH | apply jK | apply jM | apply jS | (refine wp_cond rfl (fun hc => ?_) (fun hc => ?_) <;> (try simp only [sB, ne_eq, reduceCtorEq] at hc) <;> (try (exfalso; omega))) | (refine WP.regionC (id := 0) ?_; (refine se_box rfl (by exact ⟨rfl, rfl⟩) ?_); (refine se_box rfl (by exact ⟨rfl, rfl⟩) ?_); (refine sassign rfl ?_); apply jW) | (refine WP.regionC (id := 1) ?_; (refine sfieldp rfl rfl rfl ?_); (refine sloadp rfl rfl rfl rfl ?_); (refine sfieldp rfl rfl rfl ?_); (refine sloadp rfl rfl rfl rfl ?_); (refine su (aidxz rfl rfl (by omega)) ?_); (refine sloadw rfl rfl ?_); (refine se_alloc rfl ?_); (refine se_store_b rfl rfl rfl rfl ?_); apply jW) | (refine WP.regionC (id := 2) ?_; (refine sfieldp rfl rfl rfl ?_); (refine sloadp rfl rfl rfl rfl ?_); (refine seql rfl rfl ?_); apply jW) | (refine WP.regionC (id := 3) ?_; (refine sfieldp rfl rfl rfl ?_); (refine sloadp rfl rfl rfl rfl ?_); (refine se_lit (OpP.cons rfl (OpP.nil)) rfl rfl rfl rfl rfl rfl ?_); (refine sassign rfl ?_); apply jW)))
      exact ret_sl (f := intA) (L := [(nth n.rules rule.toNat).a]) rfl rfl rfl (fun _ => rfl) (fun _ => rfl) rfl
    · rw [if_neg hk2]
      (repeat' (first | apply jA | apply jF | apply jH | apply jI | (refine wp_cond rfl (fun hc => ?_) (fun hc => ?_) <;> (try simp only [sB, ne_eq, reduceCtorEq] at hc) <;> (try (exfalso; omega))) | (refine WP.regionC (id := 0) ?_; (refine se_box rfl (by exact ⟨rfl, rfl⟩) ?_); (refine se_box rfl (by exact ⟨rfl, rfl⟩) ?_); (refine sassign rfl ?_); apply jW) | (refine WP.regionC (id := 1) ?_; (refine sfieldp rfl rfl rfl ?_); (refine sloadp rfl rfl rfl rfl ?_); (refine sfieldp rfl rfl rfl ?_); (refine sloadp rfl rfl rfl rfl ?_); (refine su (aidxz rfl rfl (by omega)) ?_); (refine sloadw rfl rfl ?_); (refine se_alloc rfl ?_); (refine se_store_b rfl rfl rfl rfl ?_); apply jW) | (refine WP.regionC (id := 2) ?_; (refine sfieldp rfl rfl rfl ?_); (refine sloadp rfl rfl rfl rfl ?_); (refine seql rfl rfl ?_); apply jW) | (refine WP.regionC (id := 4) ?_; (refine sassign rfl ?_); apply jW) | (refine WP.regionC (id := 5) ?_; (refine sfieldp rfl rfl rfl ?_); (refine sloadp rfl rfl rfl rfl ?_); (refine slenm rfl rfl ?_); (refine smove rfl ?_); apply jW)))
      refine wp_nil 6 1 rfl ?_
      refine wp_loop (fun (i : Nat) => i ≤ kids.length) (fun i => kids.length - i)
        (fun i => (S 35 [(2, .ptr 0 4 0 0), (6, .ref 1 1 0 (yieldPL n (kids.take i)).length), (22, prssA kids), (23, intA (kids.length : Nat)), (24, intA (i : Nat))] 2 [(0, some (.arr 4 [nrmA n])), (1, some (.arr 1 ((yieldPL n (kids.take i)).map intA)))])) 0 ?_ (Nat.zero_le _) ?_
      · rw [show yieldPL n (kids.take 0) = [] by simp [yieldPL]]
        exact ⟨[0, 3], ToR.S rfl (by repeat' (first | exact rt_nil | refine rt_r rfl rfl ?_ | refine rt_t rfl rfl ?_ | refine rt_e rfl rfl ?_ | refine rt_p rfl rfl (by first | (simp [AV.bd, bdL, bdL_append]; done) | fail) ?_)) (by repeat' (first | exact ro_nil | refine ro_e rfl rfl ?_ | refine ro_p rfl (by first | exact rfl | fail) (by first | (simp [bdL, bdL_append, AV.bd]; done) | fail) ?_)) rfl (by (rw [hm]; exact rfl)) rfl (by (simp [bdT, AV.bd, bdL, bdL_append]; done)) (by repeat' (first | exact True.intro | exact rfl | refine And.intro ?_ ?_ | (simp [bdOq, bdL, bdL_append, AV.bd]; done))) (by (rw [hm]; exact Nat.le_of_ble_eq_true rfl))⟩
      intro i hi
      have hyl := yieldL_len n (kids.take i)
      have hst := sizePL_take kids i
      by_cases hlt : i < kids.length
      · have hsk := sizePL_mem (nth_mem hlt)
        have hy2 := yield_len n (nth kids i)
        have hx := ih _ (nth_mem hlt) _ (hkk i hlt) (by omega)
        (repeat' (first | apply jA | apply jF | apply jH | apply jI | apply jN | (refine wp_cond rfl (fun hc => ?_) (fun hc => ?_) <;> (try simp only [sB, ne_eq, reduceCtorEq] at hc) <;> (try (exfalso; omega))) | (refine WP.regionC (id := 6) ?_; (refine slss rfl rfl ?_); apply jW) | (refine WP.regionC (id := 7) ?_; (refine sidxn rfl rfl (by omega) ?_); (refine sloadw rfl rfl ?_); (refine se_alloc rfl ?_); (refine se_store_b rfl rfl rfl rfl ?_); apply jW) | (refine WP.regionC (id := 8) ?_; (refine smove rfl ?_); (refine sloadpw rfl rfl rfl rfl ?_); (refine sloadpw rfl rfl rfl rfl ?_); (refine sc_p rfl rfl (by first | ((repeat' first | exact SubL.nil | refine SubL.cons ?_ ?_ | exact Sub.refl); done) | fail) (by first | (simp [bdL, bdL_append, AV.bd]; done) | fail) (hx) ?_); (refine se_appL rfl rfl rfl rfl rfl rfl rfl (by omega) ?_); (refine sassign rfl ?_); apply jW) | (refine WP.regionC (id := 9) ?_; (refine sadd rfl rfl (by exact inr_i64_of (by omega)) ?_); (refine smove rfl ?_); apply jW)))
        refine ⟨i + 1, ⟨by omega, by omega⟩, ?_⟩
        rw [take_succ_nth hlt, yieldPL_snoc]
        exact ⟨[0, 3], ToR.S rfl (by repeat' (first | exact rt_nil | refine rt_r rfl rfl ?_ | refine rt_t rfl rfl ?_ | refine rt_e rfl rfl ?_ | refine rt_p rfl rfl (by first | (simp [AV.bd, bdL, bdL_append]; done) | fail) ?_)) (by repeat' (first | exact ro_nil | refine ro_p rfl (by first | exact rfl | fail) (by first | exact bdL_map (fun _ => by exact rfl) _ | (simp [bdL, bdL_append, AV.bd]; done) | fail) ?_)) rfl (by (rw [hm]; exact rfl)) rfl (by (simp [bdT, AV.bd, bdL, bdL_append]; done)) (by repeat' (first | exact True.intro | refine And.intro ?_ ?_ | exact bdL_map (fun _ => by exact rfl) _ | (simp [bdOq, bdL, bdL_append, AV.bd]; done))) (by (rw [hm]; exact Nat.le_of_ble_eq_true rfl))⟩
      · have e1 : yieldPL n kids = yieldPL n (kids.take i) := by rw [List.take_of_length_le (by omega)]
        rw [e1]
        (repeat' (first | apply jA | apply jH | apply jJ | apply jK | apply jL | apply jP | apply jS | (refine wp_cond rfl (fun hc => ?_) (fun hc => ?_) <;> (try simp only [sB, ne_eq, reduceCtorEq] at hc) <;> (try (exfalso; omega))) | (refine WP.regionC (id := 6) ?_; (refine slss rfl rfl ?_); apply jW) | (refine WP.regionC (id := 10) ?_; (refine smove rfl ?_); (refine sassign rfl ?_); apply jW) | refine ret_sl rfl rfl rfl (fun _ => by exact rfl) (fun _ => rfl) ?_))
        rfl
theorem ryield24_fn (n : Nrm) (p : Prs) : ∀ h, okP n h p = true → sizeP p ≤ 1000000 → Fn Try.prog 22 [nrmA n, prsA p] (intsA (yieldP n p)) := by
  induction p using Prs.ind with
  | h p ih =>
    intro h hp hsz
    have hq := okP_in.1 hp
    have hrn := hq.rn
    have hr0 := hq.r0
    have hkk := hq.kid
    rw [sizeP_eq] at hsz
    rw [yieldP_eq, prsA_kids]
    generalize p.kids = kids at *
    generalize p.rule = rule at *
    unfold nruleAt
    clear hq hp p
    refine Fn.intro (by simp [AV.bd, bdL, bdL_append]) (by kernel_rfl) Try.func22 rfl rfl Try.ntmps22 (by exact Nat.le_of_ble_eq_true rfl) ?_; intro Γ hm
    refine wp_lens 0 rfl fun h0 => wp_lens 1 rfl fun hl => ?_
    have h0 := lens_nrm h0
    have hl : kids.length ≤ 9223372036854775807 := by have := hl; simp [AV.lens, lensL, prssA] at this; omega
    by_cases hk2 : (nth n.rules rule.toNat).kind = 2
    · rw [if_pos hk2]
      (repeat' (first | apply jA | apply jH | apply jK | apply jM | apply jS | (refine wp_cond rfl (fun hc => ?_) (fun hc => ?_) <;> (try simp only [sB, ne_eq, reduceCtorEq] at hc) <;> (try (exfalso; omega))) | (refine WP.regionC (id := 0) ?_; (refine se_box rfl (by exact ⟨rfl, rfl⟩) ?_); (refine se_box rfl (by exact ⟨rfl, rfl⟩) ?_); (refine sassign rfl ?_); apply jW) | (refine WP.regionC (id := 1) ?_; (refine sfieldp rfl rfl rfl ?_); (refine sloadp rfl rfl rfl rfl ?_); (refine sfieldp rfl rfl rfl ?_); (refine sloadp rfl rfl rfl rfl ?_); (refine su (aidxz rfl rfl (by omega)) ?_); (refine sloadw rfl rfl ?_); (refine se_alloc rfl ?_); (refine se_store_b rfl rfl rfl rfl ?_); apply jW) | (refine WP.regionC (id := 2) ?_; (refine sfieldp rfl rfl rfl ?_); (refine sloadp rfl rfl rfl rfl ?_); (refine seql rfl rfl ?_); apply jW) | (refine WP.regionC (id := 3) ?_; (refine sfieldp rfl rfl rfl ?_); (refine sloadp rfl rfl rfl rfl ?_); (refine se_lit (OpP.cons rfl (OpP.nil)) rfl rfl rfl rfl rfl rfl ?_); (refine sassign rfl ?_); apply jW)))
      exact ret_sl (f := intA) (L := [(nth n.rules rule.toNat).a]) rfl rfl rfl (fun _ => rfl) (fun _ => rfl) rfl
    · rw [if_neg hk2]
      (repeat' (first | apply jA | apply jF | apply jH | apply jI | (refine wp_cond rfl (fun hc => ?_) (fun hc => ?_) <;> (try simp only [sB, ne_eq, reduceCtorEq] at hc) <;> (try (exfalso; omega))) | (refine WP.regionC (id := 0) ?_; (refine se_box rfl (by exact ⟨rfl, rfl⟩) ?_); (refine se_box rfl (by exact ⟨rfl, rfl⟩) ?_); (refine sassign rfl ?_); apply jW) | (refine WP.regionC (id := 1) ?_; (refine sfieldp rfl rfl rfl ?_); (refine sloadp rfl rfl rfl rfl ?_); (refine sfieldp rfl rfl rfl ?_); (refine sloadp rfl rfl rfl rfl ?_); (refine su (aidxz rfl rfl (by omega)) ?_); (refine sloadw rfl rfl ?_); (refine se_alloc rfl ?_); (refine se_store_b rfl rfl rfl rfl ?_); apply jW) | (refine WP.regionC (id := 2) ?_; (refine sfieldp rfl rfl rfl ?_); (refine sloadp rfl rfl rfl rfl ?_); (refine seql rfl rfl ?_); apply jW) | (refine WP.regionC ?_; (refine sassign rfl ?_); apply jW)))
      refine wp_nil 6 1 rfl ?_
      refine wp_loop (fun (i : Nat) => i ≤ kids.length) (fun i => kids.length - i)
        (fun i => (S 37 [(2, .ptr 0 4 0 0), (3, .ptr 1 2 0 0), (6, .ref 2 1 0 (yieldPL n (kids.take i)).length), (7, intA (i : Nat))] 3 [(0, some (.arr 4 [nrmA n])), (1, some (.arr 2 [.agg [intA rule, prssA kids]])), (2, some (.arr 1 ((yieldPL n (kids.take i)).map intA)))])) 0 ?_ (Nat.zero_le _) ?_
      · rw [show yieldPL n (kids.take 0) = [] by simp [yieldPL]]
        exact ⟨[0, 1, 3], ToR.S rfl (by repeat' (first | exact rt_nil | refine rt_r rfl rfl ?_ | refine rt_t rfl rfl ?_ | refine rt_e rfl rfl ?_)) (by repeat' (first | exact ro_nil | refine ro_e rfl rfl ?_ | refine ro_p rfl (by first | exact rfl | fail) (by first | (simp [bdL, bdL_append, AV.bd]; done) | fail) ?_)) rfl (by (rw [hm]; exact rfl)) rfl (by (simp [bdT, AV.bd, bdL, bdL_append]; done)) (by repeat' (first | exact True.intro | exact rfl | refine And.intro ?_ ?_ | (simp [bdOq, bdL, bdL_append, AV.bd]; done))) (by (rw [hm]; exact Nat.le_of_ble_eq_true rfl))⟩
      intro i hi
      have hyl := yieldL_len n (kids.take i)
      have hst := sizePL_take kids i
      by_cases hlt : i < kids.length
      · have hsk := sizePL_mem (nth_mem hlt)
        have hy2 := yield_len n (nth kids i)
        have hx := ih _ (nth_mem hlt) _ (hkk i hlt) (by omega)
        (repeat' (first | apply jA | apply jF | apply jH | apply jI | apply jN | (refine wp_cond rfl (fun hc => ?_) (fun hc => ?_) <;> (try simp only [sB, ne_eq, reduceCtorEq] at hc) <;> (try (exfalso; omega))) | (refine WP.regionC (id := 6) ?_; (refine smove rfl ?_); (refine sfieldp rfl rfl rfl ?_); (refine sloadp rfl rfl rfl rfl ?_); (refine slenm rfl rfl ?_); (refine slss rfl rfl ?_); apply jW) | (refine wp_draw (id := 8) 10 mixed (by kernel_rfl) (by kernel_rfl) rfl ?_ <;> (refine rmove rfl ?_) <;> (refine rd_u rfl rfl (aloadpw rfl rfl rfl rfl) ?_) <;> (refine rfieldp rfl rfl rfl ?_) <;> (refine rloadp rfl rfl rfl rfl ?_) <;> (refine rmove rfl ?_) <;> (refine rd_u rfl rfl (aidxn rfl rfl (by omega)) ?_) <;> (refine rd_u rfl rfl (aloadw rfl rfl) ?_) <;> (refine rd_call rfl rfl (by first | ((repeat' first | exact SubL.nil | refine SubL.cons ?_ ?_ | exact Sub.refl); done) | fail) (by first | (simp [bdL, bdL_append, AV.bd]; done) | fail) (hx) ?_) <;> (refine rd_app rfl rfl rfl (by (simp; done)) rfl rfl rfl rfl (by (simp only [sL] <;> omega)) ?_) <;> (refine rd_u rfl rfl (aassign rfl) ?_) <;> (refine rd_end (by kernel_rfl) ?_)) | (refine WP.regionC (id := 7) ?_; (refine smove rfl ?_); (refine sadd rfl rfl (by exact inr_i64_of (by omega)) ?_); (refine sassign rfl ?_); apply jW)))
        refine ⟨i + 1, ⟨by omega, by omega⟩, ?_⟩
        have hl2 : (yieldPL n (kids.take i) ++ yieldP n (nth kids i)).length = ((yieldPL n (kids.take i)).map intA ++ (yieldP n (nth kids i)).map intA).length := by simp
        rw [take_succ_nth hlt, yieldPL_snoc, hl2, List.map_append]
        exact ⟨[0, 1, 11], ToR.S rfl (by repeat' (first | exact rt_nil | refine rt_r rfl rfl ?_ | refine rt_t rfl rfl ?_ | refine rt_e rfl rfl ?_)) (by repeat' (first | exact ro_nil | refine ro_p rfl (by first | exact rfl | fail) (by first | (simp [bdL, bdL_append, AV.bd]; done) | fail) ?_)) rfl (by (rw [hm]; exact rfl)) rfl (by (simp [bdT, AV.bd, bdL, bdL_append]; done)) (by repeat' (first | exact True.intro | refine And.intro ?_ ?_ | (simp [bdOq, bdL, bdL_append, AV.bd]; done))) (by (rw [hm]; exact Nat.le_of_ble_eq_true rfl))⟩
      · have e1 : yieldPL n kids = yieldPL n (kids.take i) := by rw [List.take_of_length_le (by omega)]
        rw [e1]
        (repeat' (first | apply jA | apply jH | apply jJ | apply jK | apply jL | apply jP | apply jS | (refine wp_cond rfl (fun hc => ?_) (fun hc => ?_) <;> (try simp only [sB, ne_eq, reduceCtorEq] at hc) <;> (try (exfalso; omega))) | (refine WP.regionC (id := 6) ?_; (refine smove rfl ?_); (refine sfieldp rfl rfl rfl ?_); (refine sloadp rfl rfl rfl rfl ?_); (refine slenm rfl rfl ?_); (refine slss rfl rfl ?_); apply jW) | (refine WP.regionC (id := 9) ?_; (refine smove rfl ?_); (refine sassign rfl ?_); apply jW) | refine ret_sl rfl rfl rfl (fun _ => by exact rfl) (fun _ => rfl) ?_))
        rfl
theorem price24_fn {n : Nrm} (hn : validN n = true) (p : Prs) : ∀ h, okP n h p = true → sizeP p ≤ 1000000 → Fn Try.prog 23 [nrmA n, prsA p] (intA (priceP n p)) := by
  induction p using Prs.ind with
  | h p ih =>
    intro h hp hsz
    have hq := okP_in.1 hp
    have hrn := hq.rn
    have hr0 := hq.r0
    have hkk := hq.kid
    have hpr := rule_price hn hrn
    rw [sizeP_eq] at hsz
    rw [priceP_eq, prsA_kids]
    generalize p.kids = kids at *
    generalize p.rule = rule at *
    unfold nruleAt
    clear hq hp p
    refine Fn.intro rfl (by kernel_rfl) Try.func23 rfl rfl Try.ntmps23 (by exact Nat.le_of_ble_eq_true rfl) ?_; intro Γ hm
    refine wp_lens 0 rfl fun h0 => wp_lens 1 rfl fun hl => ?_
    have h0 := lens_nrm h0
    have hl : kids.length ≤ 9223372036854775807 := by have := hl; simp [AV.lens, lensL, prssA] at this; omega
    (repeat' (first | apply jA | apply jF | apply jH | (refine WP.regionC (id := 0) ?_; (refine se_box rfl (by exact ⟨rfl, rfl⟩) ?_); (refine se_box rfl (by exact ⟨rfl, rfl⟩) ?_); (refine sassign rfl ?_); apply jW) | (refine WP.regionC (id := 1) ?_; (refine sfieldp rfl rfl rfl ?_); (refine sloadp rfl rfl rfl rfl ?_); (refine sfieldp rfl rfl rfl ?_); (refine sloadp rfl rfl rfl rfl ?_); (refine su (aidxz rfl rfl (by omega)) ?_); (refine su (afieldi rfl rfl rfl) ?_); (refine su (aloadi rfl rfl) ?_); (refine sassign rfl ?_); apply jW) | (refine WP.regionC (id := 2) ?_; (refine sfieldp rfl rfl rfl ?_); (refine sloadp rfl rfl rfl rfl ?_); (refine slenm rfl rfl ?_); (refine smove rfl ?_); apply jW)))
    refine wp_loop (fun (i : Nat) => i ≤ kids.length) (fun i => kids.length - i)
      (fun i => (S 29 [(2, .ptr 0 4 0 0), (5, intA ((nth n.rules rule.toNat).price + pricePL n (kids.take i))), (16, prssA kids), (17, intA (kids.length : Nat)), (18, intA (i : Nat))] 1 [(0, some (.arr 4 [nrmA n]))])) 0 ?_ (Nat.zero_le _) ?_
    · rw [show (nth n.rules rule.toNat).price + pricePL n (kids.take 0) = (nth n.rules rule.toNat).price by simp [pricePL]]
      exact ⟨[0], ToR.S rfl (by repeat' (first | exact rt_nil | refine rt_t rfl rfl ?_ | refine rt_e rfl rfl ?_ | refine rt_p rfl rfl (by first | (simp [AV.bd, bdL, bdL_append]; done) | fail) ?_)) (by repeat' (first | exact ro_nil | refine ro_p rfl (by first | exact rfl | fail) (by first | (simp [bdL, bdL_append, AV.bd]; done) | fail) ?_)) rfl (by (rw [hm]; exact rfl)) rfl (by (simp [bdT, AV.bd, bdL, bdL_append]; done)) (by repeat' (first | exact True.intro | refine And.intro ?_ ?_ | (simp [bdOq, bdL, bdL_append, AV.bd]; done))) (by (rw [hm]; exact Nat.le_of_ble_eq_true rfl))⟩
    intro i hi
    have hst := sizePL_take kids i
    have hpb : ∀ x, x ∈ kids → 0 ≤ priceP n x ∧ priceP n x ≤ 1000 * sizeP x := fun x hx => by
      obtain ⟨j, hj, rfl⟩ := List.getElem_of_mem hx
      have := hkk j hj
      rw [nth_eq hj] at this
      exact price_bd hn _ _ this
    have hpl := priceL_bd (n := n) (l := kids.take i) fun x hx => hpb x (List.mem_of_mem_take hx)
    by_cases hlt : i < kids.length
    · have hsk := sizePL_mem (nth_mem hlt)
      have hp2 := hpb _ (nth_mem hlt)
      have hx := ih _ (nth_mem hlt) _ (hkk i hlt) (by omega)
      (repeat' (first | apply jA | apply jF | apply jH | apply jI | apply jN | (refine wp_cond rfl (fun hc => ?_) (fun hc => ?_) <;> (try simp only [sB, ne_eq, reduceCtorEq] at hc) <;> (try (exfalso; omega))) | (refine WP.regionC (id := 3) ?_; (refine slss rfl rfl ?_); apply jW) | (refine WP.regionC (id := 4) ?_; (refine sidxn rfl rfl (by omega) ?_); (refine sloadw rfl rfl ?_); (refine se_alloc rfl ?_); (refine se_store_b rfl rfl rfl rfl ?_); apply jW) | (refine WP.regionC (id := 5) ?_; (refine smove rfl ?_); (refine sloadpw rfl rfl rfl rfl ?_); (refine sloadpw rfl rfl rfl rfl ?_); (refine sc_p rfl rfl (by first | ((repeat' first | exact SubL.nil | refine SubL.cons ?_ ?_ | exact Sub.refl); done) | fail) (by first | (simp [bdL, bdL_append, AV.bd]; done) | fail) (hx) ?_); (refine sadd rfl rfl (by exact inr_i64_of (by omega)) ?_); (refine sassign rfl ?_); apply jW) | (refine WP.regionC (id := 6) ?_; (refine sadd rfl rfl (by exact inr_i64_of (by omega)) ?_); (refine smove rfl ?_); apply jW)))
      refine ⟨i + 1, ⟨by omega, by omega⟩, ?_⟩
      rw [take_succ_nth hlt, pricePL_snoc, ← Int.add_assoc]
      exact ⟨[0], ToR.S rfl (by repeat' (first | exact rt_nil | refine rt_t rfl rfl ?_ | refine rt_e rfl rfl ?_ | refine rt_p rfl rfl (by first | (simp [AV.bd, bdL, bdL_append]; done) | fail) ?_)) (by repeat' (first | exact ro_nil | refine ro_p rfl (by first | exact rfl | fail) (by first | (simp [bdL, bdL_append, AV.bd]; done) | fail) ?_)) rfl (by (rw [hm]; exact rfl)) rfl (by (simp [bdT, AV.bd, bdL, bdL_append]; done)) (by repeat' (first | exact True.intro | refine And.intro ?_ ?_ | (simp [bdOq, bdL, bdL_append, AV.bd]; done))) (by (rw [hm]; exact Nat.le_of_ble_eq_true rfl))⟩
    · have e1 : pricePL n kids = pricePL n (kids.take i) := by rw [List.take_of_length_le (by omega)]
      rw [e1]
      (repeat' (first | apply jA | apply jH | apply jJ | apply jK | apply jL | apply jP | apply jS | (refine wp_cond rfl (fun hc => ?_) (fun hc => ?_) <;> (try simp only [sB, ne_eq, reduceCtorEq] at hc) <;> (try (exfalso; omega))) | (refine WP.regionC (id := 3) ?_; (refine slss rfl rfl ?_); apply jW) | (refine WP.regionC (id := 7) ?_; (refine smove rfl ?_); (refine sassign rfl ?_); apply jW) | exact ret_eq rfl rfl rfl))
theorem rprice24_fn {n : Nrm} (hn : validN n = true) (p : Prs) : ∀ h, okP n h p = true → sizeP p ≤ 1000000 → Fn Try.prog 24 [nrmA n, prsA p] (intA (priceP n p)) := by
  induction p using Prs.ind with
  | h p ih =>
    intro h hp hsz
    have hq := okP_in.1 hp
    have hrn := hq.rn
    have hr0 := hq.r0
    have hkk := hq.kid
    have hpr := rule_price hn hrn
    rw [sizeP_eq] at hsz
    rw [priceP_eq, prsA_kids]
    generalize p.kids = kids at *
    generalize p.rule = rule at *
    unfold nruleAt
    clear hq hp p
    refine Fn.intro rfl (by kernel_rfl) Try.func24 rfl rfl Try.ntmps24 (by exact Nat.le_of_ble_eq_true rfl) ?_; intro Γ hm
    refine wp_lens 0 rfl fun h0 => wp_lens 1 rfl fun hl => ?_
    have h0 := lens_nrm h0
    have hl : kids.length ≤ 9223372036854775807 := by have := hl; simp [AV.lens, lensL, prssA] at this; omega
    (repeat' (first | apply jA | apply jF | apply jH | (refine WP.regionC (id := 0) ?_; (refine se_box rfl (by exact ⟨rfl, rfl⟩) ?_); (refine se_box rfl (by exact ⟨rfl, rfl⟩) ?_); (refine sassign rfl ?_); apply jW) | (refine WP.regionC (id := 1) ?_; (refine sfieldp rfl rfl rfl ?_); (refine sloadp rfl rfl rfl rfl ?_); (refine sfieldp rfl rfl rfl ?_); (refine sloadp rfl rfl rfl rfl ?_); (refine su (aidxz rfl rfl (by omega)) ?_); (refine su (afieldi rfl rfl rfl) ?_); (refine su (aloadi rfl rfl) ?_); (refine sassign rfl ?_); apply jW) | (refine WP.regionC (id := 2) ?_; (refine sassign rfl ?_); apply jW)))
    refine wp_loop (fun (i : Nat) => i ≤ kids.length) (fun i => kids.length - i)
      (fun i => (S 31 [(2, .ptr 0 4 0 0), (3, .ptr 1 2 0 0), (5, intA ((nth n.rules rule.toNat).price + pricePL n (kids.take i))), (6, intA (i : Nat))] 2 [(0, some (.arr 4 [nrmA n])), (1, some (.arr 2 [.agg [intA rule, prssA kids]]))])) 0 ?_ (Nat.zero_le _) ?_
    · rw [show (nth n.rules rule.toNat).price + pricePL n (kids.take 0) = (nth n.rules rule.toNat).price by simp [pricePL]]
      exact ⟨[0, 1], ToR.S rfl (by repeat' (first | exact rt_nil | refine rt_t rfl rfl ?_ | refine rt_e rfl rfl ?_)) (by repeat' (first | exact ro_nil | refine ro_p rfl (by first | exact rfl | fail) (by first | (simp [bdL, bdL_append, AV.bd]; done) | fail) ?_)) rfl (by (rw [hm]; exact rfl)) rfl (by (simp [bdT, AV.bd, bdL, bdL_append]; done)) (by repeat' (first | exact True.intro | refine And.intro ?_ ?_ | (simp [bdOq, bdL, bdL_append, AV.bd]; done))) (by (rw [hm]; exact Nat.le_of_ble_eq_true rfl))⟩
    intro i hi
    have hst := sizePL_take kids i
    have hpb : ∀ x, x ∈ kids → 0 ≤ priceP n x ∧ priceP n x ≤ 1000 * sizeP x := fun x hx => by
      obtain ⟨j, hj, rfl⟩ := List.getElem_of_mem hx
      have := hkk j hj
      rw [nth_eq hj] at this
      exact price_bd hn _ _ this
    have hpl := priceL_bd (n := n) (l := kids.take i) fun x hx => hpb x (List.mem_of_mem_take hx)
    by_cases hlt : i < kids.length
    · have hsk := sizePL_mem (nth_mem hlt)
      have hp2 := hpb _ (nth_mem hlt)
      have hx := ih _ (nth_mem hlt) _ (hkk i hlt) (by omega)
      (repeat' (first | apply jA | apply jF | apply jH | apply jI | apply jN | (refine wp_cond rfl (fun hc => ?_) (fun hc => ?_) <;> (try simp only [sB, ne_eq, reduceCtorEq] at hc) <;> (try (exfalso; omega))) | (refine WP.regionC (id := 3) ?_; (refine smove rfl ?_); (refine sfieldp rfl rfl rfl ?_); (refine sloadp rfl rfl rfl rfl ?_); (refine slenm rfl rfl ?_); (refine slss rfl rfl ?_); apply jW) | (refine wp_draw (id := 5) 10 mixed (by kernel_rfl) (by kernel_rfl) rfl ?_ <;> (refine rmove rfl ?_) <;> (refine rd_u rfl rfl (aloadpw rfl rfl rfl rfl) ?_) <;> (refine rfieldp rfl rfl rfl ?_) <;> (refine rloadp rfl rfl rfl rfl ?_) <;> (refine rmove rfl ?_) <;> (refine rd_u rfl rfl (aidxn rfl rfl (by omega)) ?_) <;> (refine rd_u rfl rfl (aloadw rfl rfl) ?_) <;> (refine rd_call rfl rfl (by first | ((repeat' first | exact SubL.nil | refine SubL.cons ?_ ?_ | exact Sub.refl); done) | fail) (by first | (simp [bdL, bdL_append, AV.bd]; done) | fail) (hx) ?_) <;> (refine rd_u rfl rfl (aadd rfl rfl (by exact inr_i64_of (by omega))) ?_) <;> (refine rd_u rfl rfl (aassign rfl) ?_) <;> (refine rd_end (by kernel_rfl) ?_)) | (refine WP.regionC (id := 4) ?_; (refine smove rfl ?_); (refine sadd rfl rfl (by exact inr_i64_of (by omega)) ?_); (refine sassign rfl ?_); apply jW)))
      refine ⟨i + 1, ⟨by omega, by omega⟩, ?_⟩
      rw [take_succ_nth hlt, pricePL_snoc, ← Int.add_assoc]
      exact ⟨[0, 1], ToR.S rfl (by repeat' (first | exact rt_nil | refine rt_t rfl rfl ?_ | refine rt_e rfl rfl ?_)) (by repeat' (first | exact ro_nil | refine ro_p rfl (by first | exact rfl | fail) (by first | (simp [bdL, bdL_append, AV.bd]; done) | fail) ?_)) rfl (by (rw [hm]; exact rfl)) rfl (by (simp [bdT, AV.bd, bdL, bdL_append]; done)) (by repeat' (first | exact True.intro | refine And.intro ?_ ?_ | (simp [bdOq, bdL, bdL_append, AV.bd]; done))) (by (rw [hm]; exact Nat.le_of_ble_eq_true rfl))⟩
    · have e1 : pricePL n kids = pricePL n (kids.take i) := by rw [List.take_of_length_le (by omega)]
      rw [e1]
      (repeat' (first | apply jA | apply jH | apply jJ | apply jK | apply jL | apply jP | apply jS | (refine wp_cond rfl (fun hc => ?_) (fun hc => ?_) <;> (try simp only [sB, ne_eq, reduceCtorEq] at hc) <;> (try (exfalso; omega))) | (refine WP.regionC (id := 3) ?_; (refine smove rfl ?_); (refine sfieldp rfl rfl rfl ?_); (refine sloadp rfl rfl rfl rfl ?_); (refine slenm rfl rfl ?_); (refine slss rfl rfl ?_); apply jW) | (refine WP.regionC (id := 6) ?_; (refine smove rfl ?_); (refine sassign rfl ?_); apply jW) | exact ret_eq rfl rfl rfl))
end Go.Lg

namespace Go.Lg
open Go.Proofs
set_option linter.unusedSimpArgs false
set_option linter.unusedVariables false
attribute [local irreducible] Ap Rq asemC WP RunD Ret Gq thenA inBlockA bodyQ noGotoA RqL RqP OpP
set_option maxHeartbeats 8000000
set_option maxRecDepth 20000
attribute [local simp] AV.cells
def matG (g : Gram) (n : Nrm) : Bool := decide ((binG g).2 = 0) && decide ((binG g).1 = n)
theorem matG_of {g : Gram} {n : Nrm} (h : matG g n = true) : GVal g ∧ n = nrmOf g := by
  simp only [matG, Bool.and_eq_true, decide_eq_true_eq] at h
  obtain ⟨h1, h2⟩ := h
  unfold binG at h1 h2
  split at h1
  · rename_i hv
    rw [if_pos hv] at h2
    split at h1
    · simp at h1
    · rename_i h6
      rw [if_neg h6] at h2
      exact ⟨validG_iff.1 hv, h2.symm⟩
  · simp at h1
theorem matches_fn (g : Gram) (n : Nrm) : Fn Try.prog 49 [gramA g, nrmA n] (boolA (matG g n)) := by
  refine Fn.intro rfl (by kernel_rfl) Try.func49 rfl rfl Try.ntmps49 (by exact Nat.le_of_ble_eq_true rfl) ?_; intro Γ hm
  (repeat' (first | apply jA | apply jH | apply jK | apply jS | (refine WP.regionC (id := 0) ?_; (refine se_box rfl (by exact ⟨rfl, rfl⟩) ?_); (refine se_box rfl (by exact ⟨rfl, rfl⟩) ?_); (refine sassign rfl ?_); apply jW) | (refine WP.regionC (id := 1) ?_; (refine sloadpw rfl rfl rfl rfl ?_); (refine sc_p rfl rfl (by first | ((repeat' first | exact SubL.nil | refine SubL.cons ?_ ?_ | exact Sub.refl); done) | fail) (by first | (simp [bdL, bdL_append, AV.bd]; done) | fail) (binarize_fn g) ?_); (refine smove rfl ?_); (refine su (aextract rfl rfl) ?_); (refine su (aextract rfl rfl) ?_); (refine se_alloc rfl ?_); (refine se_store_b rfl rfl rfl rfl ?_); (refine sassign rfl ?_); apply jW) | (refine WP.regionC (id := 2) ?_; (refine smove rfl ?_); (refine seql rfl rfl ?_); (refine smove rfl ?_); (refine sg (gq_vt rfl rfl) (fun he => ap_load_pw (rq_p rfl rfl) rfl rfl rfl) ?_); (refine sg (gq_vt rfl rfl) (fun he => ap_load_pw (rq_p rfl rfl) rfl rfl rfl) ?_); (refine sg_p (gq_vt rfl rfl) (fun he => ⟨(rq_p rfl rfl), (RqL.cons (rq_c rfl rfl) (RqL.cons (rq_c rfl rfl) (RqL.nil))), (by first | ((repeat' first | exact SubL.nil | refine SubL.cons ?_ ?_ | exact Sub.refl); done) | fail), (by first | (simp [bdL, bdL_append, AV.bd]; done) | fail), bequal_fn (binG g).1 n⟩) ?_); (refine su (ap_and (rq_p rfl rfl) (rq_c rfl rfl)) ?_); (refine sassign rfl ?_); apply jW) | exact ret_eq rfl rfl rfl))
def toOk (g : Gram) (n : Nrm) (p : Prs) : Prop := matG g n = true ∧ 0 ≤ p.rule ∧ p.rule < n.rules.length ∧ (nth n.rules p.rule.toNat).head < g.nonterms.length ∧ okP n (nth n.rules p.rule.toNat).head p = true
open Classical in
noncomputable def toTreeG (g : Gram) (n : Nrm) (p : Prs) : Tre × Int := if toOk g n p then (toTF g (szP p) p, 0) else (.mk 0 0 [], 13)
def fromOk (g : Gram) (n : Nrm) (t : Tre) : Prop := matG g n = true ∧ 0 ≤ t.rule ∧ t.rule < g.rules.length ∧ okT g (-1 - (nth g.rules t.rule.toNat).head) t = true
open Classical in
noncomputable def fromTreeG (g : Gram) (n : Nrm) (t : Tre) : Prs × Int := if fromOk g n t then (fromTF g (szT t) t, 0) else (.mk 0 [], 13)
theorem tre0 : treA (.mk 0 0 []) = .agg [intA 0, intA 0, tresA []] := treA_kids _
theorem prs0 : prsA (.mk 0 []) = .agg [intA 0, prssA []] := prsA_kids _
theorem toTreeP_fn (g : Gram) (n : Nrm) (p : Prs) : Fn Try.prog 26 [gramA g, nrmA n, prsA p] (.tup [treA (toTreeG g n p).1, intA (toTreeG g n p).2]) := by
  by_cases hok : toOk g n p
  · have he : toTreeG g n p = (toTF g (szP p) p, 0) := if_pos hok
    rw [he]
    obtain ⟨h1, h2, h3, h4, h5⟩ := hok
    obtain ⟨hv, hn⟩ := matG_of h1
    have hm1 := matches_fn g n
    rw [h1] at hm1
    have hv1 := validParse_fn n p (nth n.rules p.rule.toNat).head
    rw [h5] at hv1
    have hto := toTree_fn hv (szP p) p (nth n.rules p.rule.toNat).head (Nat.le_refl _) h4 (by rw [← hn]; exact h5)
    rw [← hn] at hto
    rw [prsA_kids] at hv1 hto ⊢
    simp only
    refine Fn.intro (by simp [AV.bd, bdL, bdL_append]) (by kernel_rfl) Try.func26 rfl rfl Try.ntmps26 (by exact Nat.le_of_ble_eq_true rfl) ?_; intro Γ hm
    refine wp_lens 1 rfl fun hl0 => ?_
    have hl0 := lens_nrm hl0
    (repeat' (first | apply jA | apply jH | apply jI | apply jK | apply jS | (refine wp_cond rfl (fun hc => ?_) (fun hc => ?_) <;> (try simp only [sB, ne_eq, reduceCtorEq] at hc) <;> (try (exfalso; omega))) | (refine WP.regionC (id := 0) ?_; (refine se_box rfl (by exact ⟨rfl, rfl⟩) ?_); (refine se_box rfl (by exact ⟨rfl, rfl⟩) ?_); (refine se_box rfl (by exact ⟨rfl, rfl⟩) ?_); (refine se_alloc rfl ?_); (refine sassign rfl ?_); apply jW) | (refine wp_draw (id := 1) 43 mixed (by kernel_rfl) (by kernel_rfl) rfl ?_ <;> (refine rd_u rfl rfl (aloadpw rfl rfl rfl rfl) ?_) <;> (refine rd_u rfl rfl (aloadpw rfl rfl rfl rfl) ?_) <;> (refine rd_call rfl rfl (by first | ((repeat' first | exact SubL.nil | refine SubL.cons ?_ ?_ | exact Sub.refl); done) | fail) (by first | (simp [bdL, bdL_append, AV.bd]; done) | fail) (hm1) ?_) <;> (refine rd_u rfl rfl (anot rfl) ?_) <;> (refine rmove rfl ?_) <;> (refine gfieldp rfl rfl rfl rfl rfl ?_) <;> (refine gloadp rfl rfl rfl rfl rfl rfl ?_) <;> (refine rdg_u rfl rfl rfl rfl (alss rfl rfl) ?_) <;> (refine rd_pick_f rfl rfl ?_) <;> (refine rmove rfl ?_) <;> ((refine rd_split (t := 17) rfl (fun hc => ?_) (fun hc => ?_) <;> (try simp only [sB, ne_eq, reduceCtorEq] at hc) <;> (try (exfalso; omega)) <;> (refine gfieldp rfl rfl rfl rfl rfl ?_))) <;> (refine gloadp rfl rfl rfl rfl rfl rfl ?_) <;> (refine gfieldp rfl rfl rfl rfl rfl ?_) <;> (refine gloadp rfl rfl rfl rfl rfl rfl ?_) <;> (refine rdg_u rfl rfl rfl rfl (alenm rfl rfl) ?_) <;> (refine rdg_u rfl rfl rfl rfl (ageq rfl rfl) ?_) <;> (refine rd_pick_f rfl rfl ?_) <;> (refine rmove rfl ?_) <;> ((refine rd_split (t := 25) rfl (fun hc => ?_) (fun hc => ?_) <;> (try simp only [sB, ne_eq, reduceCtorEq] at hc) <;> (try (exfalso; omega)) <;> (refine gfieldp rfl rfl rfl rfl rfl ?_))) <;> (refine gloadp rfl rfl rfl rfl rfl rfl ?_) <;> (refine gfieldp rfl rfl rfl rfl rfl ?_) <;> (refine gloadp rfl rfl rfl rfl rfl rfl ?_) <;> (refine rdg_u rfl rfl rfl rfl (aidxz rfl rfl (by omega)) ?_) <;> (refine rdg_u rfl rfl rfl rfl (afieldi rfl rfl rfl) ?_) <;> (refine rdg_u rfl rfl rfl rfl (aloadi rfl rfl) ?_) <;> (refine gfieldp rfl rfl rfl rfl rfl ?_) <;> (refine gloadp rfl rfl rfl rfl rfl rfl ?_) <;> (refine rdg_u rfl rfl rfl rfl (alenm rfl rfl) ?_) <;> (refine rdg_u rfl rfl rfl rfl (ageq rfl rfl) ?_) <;> (refine rd_pick_f rfl rfl ?_) <;> (refine rmove rfl ?_) <;> ((refine rd_split (t := 38) rfl (fun hc => ?_) (fun hc => ?_) <;> (try simp only [sB, ne_eq, reduceCtorEq] at hc) <;> (try (exfalso; omega)) <;> (refine rdg_u rfl rfl rfl rfl (aloadpw rfl rfl rfl rfl) ?_))) <;> (refine gfieldp rfl rfl rfl rfl rfl ?_) <;> (refine gloadp rfl rfl rfl rfl rfl rfl ?_) <;> (refine gfieldp rfl rfl rfl rfl rfl ?_) <;> (refine gloadp rfl rfl rfl rfl rfl rfl ?_) <;> (refine rdg_u rfl rfl rfl rfl (aidxz rfl rfl (by omega)) ?_) <;> (refine rdg_u rfl rfl rfl rfl (afieldi rfl rfl rfl) ?_) <;> (refine rdg_u rfl rfl rfl rfl (aloadi rfl rfl) ?_) <;> (refine rdg_u rfl rfl rfl rfl (aloadpw rfl rfl rfl rfl) ?_) <;> (refine rdg_call rfl rfl rfl rfl (by first | ((repeat' first | exact SubL.nil | refine SubL.cons ?_ ?_ | exact Sub.refl); done) | fail) (by first | (simp [bdL, bdL_append, AV.bd]; done) | fail) (hv1) ?_) <;> (refine rdg_u rfl rfl rfl rfl (anot rfl) ?_) <;> (refine rd_pick_f rfl rfl ?_) <;> (refine rd_end (by kernel_rfl) ?_)) | (refine WP.regionC (id := 3) ?_; (refine sloadpw rfl rfl rfl rfl ?_); (refine sloadpw rfl rfl rfl rfl ?_); (refine sloadpw rfl rfl rfl rfl ?_); (refine sc_p rfl rfl (by first | ((repeat' first | exact SubL.nil | refine SubL.cons ?_ ?_ | exact Sub.refl); done) | fail) (by first | (simp [bdL, bdL_append, AV.bd]; done) | fail) (hto) ?_); (refine se_store_b rfl rfl rfl rfl ?_); (refine sassign rfl ?_); apply jW)))
    exact ret_many (.cellT (x := treA (toTF g (szP p) p)) rfl rfl rfl rfl (.tmp rfl .nil)) (Nat.le_of_ble_eq_true rfl) (by first | ((repeat' first | exact FzL.nil | refine FzL.cons ?_ ?_ | (exact Fz.reflp (by simp [AV.bd, bdL, bdL_append]))); done) | fail)
  · have he : toTreeG g n p = (.mk 0 0 [], 13) := if_neg hok
    rw [he]
    simp only
    rw [tre0]
    have hv1 := validParse_fn n p (nth n.rules p.rule.toNat).head
    unfold toOk at hok
    rw [prsA_kids] at hv1 ⊢
    refine Fn.intro rfl (by kernel_rfl) Try.func26 rfl rfl Try.ntmps26 (by exact Nat.le_of_ble_eq_true rfl) ?_; intro Γ hm
    refine wp_lens 1 rfl fun hl0 => ?_
    have hl0 := lens_nrm hl0
    (repeat' (first | apply jA | apply jH | apply jI | apply jK | apply jM | apply jS | (refine wp_cond rfl (fun hc => ?_) (fun hc => ?_) <;> (try simp only [sB, ne_eq, reduceCtorEq] at hc) <;> (try (exfalso; omega))) | (refine WP.regionC (id := 0) ?_; (refine se_box rfl (by exact ⟨rfl, rfl⟩) ?_); (refine se_box rfl (by exact ⟨rfl, rfl⟩) ?_); (refine se_box rfl (by exact ⟨rfl, rfl⟩) ?_); (refine se_alloc rfl ?_); (refine sassign rfl ?_); apply jW) | (refine wp_draw (id := 1) 43 mixed (by kernel_rfl) (by kernel_rfl) rfl ?_ <;> (refine rd_u rfl rfl (aloadpw rfl rfl rfl rfl) ?_) <;> (refine rd_u rfl rfl (aloadpw rfl rfl rfl rfl) ?_) <;> (refine rd_call rfl rfl (by first | ((repeat' first | exact SubL.nil | refine SubL.cons ?_ ?_ | exact Sub.refl); done) | fail) (by first | (simp [bdL, bdL_append, AV.bd]; done) | fail) (matches_fn g n) ?_) <;> (refine rd_u rfl rfl (anot rfl) ?_) <;> (refine rmove rfl ?_) <;> ((refine rd_split (t := 12) rfl (fun hc => ?_) (fun hc => ?_) <;> (try simp only [sB, ne_eq, reduceCtorEq] at hc) <;> (try (exfalso; omega)) <;> (first | refine rd_skip rfl rfl ?_ | refine gfieldp rfl rfl rfl rfl rfl ?_))) <;> (first | refine rd_skip rfl rfl ?_ | refine gloadp rfl rfl rfl rfl rfl rfl ?_) <;> (first | refine rd_skip rfl rfl ?_ | refine rdg_u rfl rfl rfl rfl (alss rfl rfl) ?_) <;> (first | refine rd_pick_t rfl rfl ?_ | refine rd_pick_f rfl rfl ?_) <;> (refine rmove rfl ?_) <;> (first | refine rd_skip rfl rfl ?_ | (refine rd_split (t := 17) rfl (fun hc => ?_) (fun hc => ?_) <;> (try simp only [sB, ne_eq, reduceCtorEq] at hc) <;> (try (exfalso; omega)) <;> (first | refine rd_skip rfl rfl ?_ | refine gfieldp rfl rfl rfl rfl rfl ?_))) <;> (first | refine rd_skip rfl rfl ?_ | refine gloadp rfl rfl rfl rfl rfl rfl ?_) <;> (first | refine rd_skip rfl rfl ?_ | refine gfieldp rfl rfl rfl rfl rfl ?_) <;> (first | refine rd_skip rfl rfl ?_ | refine gloadp rfl rfl rfl rfl rfl rfl ?_) <;> (first | refine rd_skip rfl rfl ?_ | refine rdg_u rfl rfl rfl rfl (alenm rfl rfl) ?_) <;> (first | refine rd_skip rfl rfl ?_ | refine rdg_u rfl rfl rfl rfl (ageq rfl rfl) ?_) <;> (first | refine rd_pick_t rfl rfl ?_ | refine rd_pick_f rfl rfl ?_) <;> (refine rmove rfl ?_) <;> (first | refine rd_skip rfl rfl ?_ | (refine rd_split (t := 25) rfl (fun hc => ?_) (fun hc => ?_) <;> (try simp only [sB, ne_eq, reduceCtorEq] at hc) <;> (try (exfalso; omega)) <;> (first | refine rd_skip rfl rfl ?_ | refine gfieldp rfl rfl rfl rfl rfl ?_))) <;> (first | refine rd_skip rfl rfl ?_ | refine gloadp rfl rfl rfl rfl rfl rfl ?_) <;> (first | refine rd_skip rfl rfl ?_ | refine gfieldp rfl rfl rfl rfl rfl ?_) <;> (first | refine rd_skip rfl rfl ?_ | refine gloadp rfl rfl rfl rfl rfl rfl ?_) <;> (first | refine rd_skip rfl rfl ?_ | refine rdg_u rfl rfl rfl rfl (aidxz rfl rfl (by omega)) ?_) <;> (first | refine rd_skip rfl rfl ?_ | refine rdg_u rfl rfl rfl rfl (afieldi rfl rfl rfl) ?_) <;> (first | refine rd_skip rfl rfl ?_ | refine rdg_u rfl rfl rfl rfl (aloadi rfl rfl) ?_) <;> (first | refine rd_skip rfl rfl ?_ | refine gfieldp rfl rfl rfl rfl rfl ?_) <;> (first | refine rd_skip rfl rfl ?_ | refine gloadp rfl rfl rfl rfl rfl rfl ?_) <;> (first | refine rd_skip rfl rfl ?_ | refine rdg_u rfl rfl rfl rfl (alenm rfl rfl) ?_) <;> (first | refine rd_skip rfl rfl ?_ | refine rdg_u rfl rfl rfl rfl (ageq rfl rfl) ?_) <;> (first | refine rd_pick_t rfl rfl ?_ | refine rd_pick_f rfl rfl ?_) <;> (refine rmove rfl ?_) <;> (first | refine rd_skip rfl rfl ?_ | (refine rd_split (t := 38) rfl (fun hc => ?_) (fun hc => ?_) <;> (try simp only [sB, ne_eq, reduceCtorEq] at hc) <;> (try (exfalso; omega)) <;> (first | refine rd_skip rfl rfl ?_ | refine rdg_u rfl rfl rfl rfl (aloadpw rfl rfl rfl rfl) ?_))) <;> (first | refine rd_skip rfl rfl ?_ | refine gfieldp rfl rfl rfl rfl rfl ?_) <;> (first | refine rd_skip rfl rfl ?_ | refine gloadp rfl rfl rfl rfl rfl rfl ?_) <;> (first | refine rd_skip rfl rfl ?_ | refine gfieldp rfl rfl rfl rfl rfl ?_) <;> (first | refine rd_skip rfl rfl ?_ | refine gloadp rfl rfl rfl rfl rfl rfl ?_) <;> (first | refine rd_skip rfl rfl ?_ | refine rdg_u rfl rfl rfl rfl (aidxz rfl rfl (by omega)) ?_) <;> (first | refine rd_skip rfl rfl ?_ | refine rdg_u rfl rfl rfl rfl (afieldi rfl rfl rfl) ?_) <;> (first | refine rd_skip rfl rfl ?_ | refine rdg_u rfl rfl rfl rfl (aloadi rfl rfl) ?_) <;> (first | refine rd_skip rfl rfl ?_ | refine rdg_u rfl rfl rfl rfl (aloadpw rfl rfl rfl rfl) ?_) <;> (first | refine rd_skip rfl rfl ?_ | refine rdg_call rfl rfl rfl rfl (by first | ((repeat' first | exact SubL.nil | refine SubL.cons ?_ ?_ | exact Sub.refl); done) | fail) (by first | (simp [bdL, bdL_append, AV.bd]; done) | fail) (hv1) ?_) <;> (first | refine rd_skip rfl rfl ?_ | refine rdg_u rfl rfl rfl rfl (anot rfl) ?_) <;> (first | refine rd_pick_t rfl rfl ?_ | refine rd_pick_f rfl rfl ?_) <;> (refine rd_end (by kernel_rfl) ?_)) | (refine WP.regionC (id := 2) ?_; (refine su (ap_build (RqP.nil) rfl) ?_); (refine se_store_b rfl rfl rfl rfl ?_); (refine sassign rfl ?_); apply jW)))
    all_goals (first | exact ret_many (.cellT rfl rfl rfl rfl (.tmp rfl .nil)) (Nat.le_of_ble_eq_true rfl) (by first | ((repeat' first | exact FzL.nil | refine FzL.cons ?_ ?_ | exact Fz.nil | (exact Fz.reflp (by simp [AV.bd, bdL, bdL_append])) | refine Fz.aggL ?_); done) | fail) | (exfalso; grind))
theorem fromTreeP_fn (g : Gram) (n : Nrm) (t : Tre) : Fn Try.prog 28 [gramA g, nrmA n, treA t] (.tup [prsA (fromTreeG g n t).1, intA (fromTreeG g n t).2]) := by
  by_cases hmg : matG g n = true
  · obtain ⟨hv, hn⟩ := matG_of hmg
    have hr2 := hv.r2
    have hm1 := matches_fn g n
    rw [hmg] at hm1
    have hhd : ∀ i, i < g.rules.length → 0 ≤ (nth g.rules i).head ∧ (nth g.rules i).head ≤ 120 := fun i hi => by
      have := hv.rule _ (nth_mem hi); have h1 := this.h0; have h2 := this.hn; have h3 := hv.n2; omega
    by_cases hok : fromOk g n t
    · have he : fromTreeG g n t = (fromTF g (szT t) t, 0) := if_pos hok
      rw [he]
      obtain ⟨h1, h2, h3, h4⟩ := hok
      have hh := hhd t.rule.toNat (by omega)
      have hv1 := whole_fn hv t (-1 - (nth g.rules t.rule.toNat).head) (by omega)
      rw [h4] at hv1
      have hto := fromTree_fn hv (szT t) t (-1 - (nth g.rules t.rule.toNat).head) (Nat.le_refl _) (by omega) h4
      rw [← hn] at hto
      rw [treA_kids] at hv1 hto ⊢
      simp only
      refine Fn.intro (by simp [AV.bd, bdL, bdL_append]) (by kernel_rfl) Try.func28 rfl rfl Try.ntmps28 (by exact Nat.le_of_ble_eq_true rfl) ?_; intro Γ hm
      (repeat' (first | apply jA | apply jH | apply jI | apply jK | apply jS | (refine wp_cond rfl (fun hc => ?_) (fun hc => ?_) <;> (try simp only [sB, ne_eq, reduceCtorEq] at hc) <;> (try (exfalso; omega))) | (refine WP.regionC (id := 0) ?_; (refine se_box rfl (by exact ⟨rfl, rfl⟩) ?_); (refine se_box rfl (by exact ⟨rfl, rfl⟩) ?_); (refine se_box rfl (by exact ⟨rfl, rfl⟩) ?_); (refine se_alloc rfl ?_); (refine sassign rfl ?_); apply jW) | (refine wp_draw (id := 1) 31 mixed (by kernel_rfl) (by kernel_rfl) rfl ?_ <;> (refine rd_u rfl rfl (aloadpw rfl rfl rfl rfl) ?_) <;> (refine rd_u rfl rfl (aloadpw rfl rfl rfl rfl) ?_) <;> (refine rd_call rfl rfl (by first | ((repeat' first | exact SubL.nil | refine SubL.cons ?_ ?_ | exact Sub.refl); done) | fail) (by first | (simp [bdL, bdL_append, AV.bd]; done) | fail) (hm1) ?_) <;> (refine rd_u rfl rfl (anot rfl) ?_) <;> (refine rmove rfl ?_) <;> (refine gfieldp rfl rfl rfl rfl rfl ?_) <;> (refine gloadp rfl rfl rfl rfl rfl rfl ?_) <;> (refine rdg_u rfl rfl rfl rfl (alss rfl rfl) ?_) <;> (refine rd_pick_f rfl rfl ?_) <;> (refine rmove rfl ?_) <;> ((refine rd_split (t := 17) rfl (fun hc => ?_) (fun hc => ?_) <;> (try simp only [sB, ne_eq, reduceCtorEq] at hc) <;> (try (exfalso; omega)) <;> (refine gfieldp rfl rfl rfl rfl rfl ?_))) <;> (refine gloadp rfl rfl rfl rfl rfl rfl ?_) <;> (refine gfieldp rfl rfl rfl rfl rfl ?_) <;> (refine gloadp rfl rfl rfl rfl rfl rfl ?_) <;> (refine rdg_u rfl rfl rfl rfl (alenm rfl rfl) ?_) <;> (refine rdg_u rfl rfl rfl rfl (ageq rfl rfl) ?_) <;> (refine rd_pick_f rfl rfl ?_) <;> (refine rmove rfl ?_) <;> ((refine rd_split (t := 25) rfl (fun hc => ?_) (fun hc => ?_) <;> (try simp only [sB, ne_eq, reduceCtorEq] at hc) <;> (try (exfalso; omega)) <;> (refine rdg_u rfl rfl rfl rfl (aloadpw rfl rfl rfl rfl) ?_))) <;> (refine gfieldp rfl rfl rfl rfl rfl ?_) <;> (refine gloadp rfl rfl rfl rfl rfl rfl ?_) <;> (refine gfieldp rfl rfl rfl rfl rfl ?_) <;> (refine gloadp rfl rfl rfl rfl rfl rfl ?_) <;> (refine rdg_u rfl rfl rfl rfl (aidxz rfl rfl (by omega)) ?_) <;> (refine rdg_u rfl rfl rfl rfl (afieldi rfl rfl rfl) ?_) <;> (refine rdg_u rfl rfl rfl rfl (aloadi rfl rfl) ?_) <;> (refine rdg_u rfl rfl rfl rfl (asub rfl rfl (by exact inr_i64_of (by omega))) ?_) <;> (refine rdg_u rfl rfl rfl rfl (aloadpw rfl rfl rfl rfl) ?_) <;> (refine rdg_call rfl rfl rfl rfl (by first | ((repeat' first | exact SubL.nil | refine SubL.cons ?_ ?_ | exact Sub.refl); done) | fail) (by first | (simp [bdL, bdL_append, AV.bd]; done) | fail) (hv1) ?_) <;> (refine rdg_u rfl rfl rfl rfl (anot rfl) ?_) <;> (refine rd_pick_f rfl rfl ?_) <;> (refine rd_end (by kernel_rfl) ?_)) | (refine WP.regionC (id := 3) ?_; (refine sloadpw rfl rfl rfl rfl ?_); (refine sloadpw rfl rfl rfl rfl ?_); (refine sloadpw rfl rfl rfl rfl ?_); (refine sc_p rfl rfl (by first | ((repeat' first | exact SubL.nil | refine SubL.cons ?_ ?_ | exact Sub.refl); done) | fail) (by first | (simp [bdL, bdL_append, AV.bd]; done) | fail) (hto) ?_); (refine se_store_b rfl rfl rfl rfl ?_); (refine sassign rfl ?_); apply jW)))
      exact ret_many (.cellT (x := prsA (fromTF g (szT t) t)) rfl rfl rfl rfl (.tmp rfl .nil)) (Nat.le_of_ble_eq_true rfl) (by first | ((repeat' first | exact FzL.nil | refine FzL.cons ?_ ?_ | (exact Fz.reflp (by simp [AV.bd, bdL, bdL_append]))); done) | fail)
    · have he : fromTreeG g n t = (.mk 0 [], 13) := if_neg hok
      rw [he]
      simp only
      rw [prs0]
      unfold fromOk at hok
      by_cases hr : 0 ≤ t.rule ∧ t.rule < g.rules.length
      · obtain ⟨h2, h3⟩ := hr
        have hh := hhd t.rule.toNat (by omega)
        have hv1 := whole_fn hv t (-1 - (nth g.rules t.rule.toNat).head) (by omega)
        have h4 : okT g (-1 - (nth g.rules t.rule.toNat).head) t = false := by grind
        rw [h4] at hv1
        rw [treA_kids] at hv1 ⊢
        refine Fn.intro rfl (by kernel_rfl) Try.func28 rfl rfl Try.ntmps28 (by exact Nat.le_of_ble_eq_true rfl) ?_; intro Γ hm
        (repeat' (first | apply jA | apply jH | apply jK | apply jM | apply jS | (refine wp_cond rfl (fun hc => ?_) (fun hc => ?_) <;> (try simp only [sB, ne_eq, reduceCtorEq] at hc) <;> (try (exfalso; omega))) | (refine WP.regionC (id := 0) ?_; (refine se_box rfl (by exact ⟨rfl, rfl⟩) ?_); (refine se_box rfl (by exact ⟨rfl, rfl⟩) ?_); (refine se_box rfl (by exact ⟨rfl, rfl⟩) ?_); (refine se_alloc rfl ?_); (refine sassign rfl ?_); apply jW) | (refine wp_draw (id := 1) 31 mixed (by kernel_rfl) (by kernel_rfl) rfl ?_ <;> (refine rd_u rfl rfl (aloadpw rfl rfl rfl rfl) ?_) <;> (refine rd_u rfl rfl (aloadpw rfl rfl rfl rfl) ?_) <;> (refine rd_call rfl rfl (by first | ((repeat' first | exact SubL.nil | refine SubL.cons ?_ ?_ | exact Sub.refl); done) | fail) (by first | (simp [bdL, bdL_append, AV.bd]; done) | fail) (hm1) ?_) <;> (refine rd_u rfl rfl (anot rfl) ?_) <;> (refine rmove rfl ?_) <;> (refine gfieldp rfl rfl rfl rfl rfl ?_) <;> (refine gloadp rfl rfl rfl rfl rfl rfl ?_) <;> (refine rdg_u rfl rfl rfl rfl (alss rfl rfl) ?_) <;> (refine rd_pick_f rfl rfl ?_) <;> (refine rmove rfl ?_) <;> ((refine rd_split (t := 17) rfl (fun hc => ?_) (fun hc => ?_) <;> (try simp only [sB, ne_eq, reduceCtorEq] at hc) <;> (try (exfalso; omega)) <;> (refine gfieldp rfl rfl rfl rfl rfl ?_))) <;> (refine gloadp rfl rfl rfl rfl rfl rfl ?_) <;> (refine gfieldp rfl rfl rfl rfl rfl ?_) <;> (refine gloadp rfl rfl rfl rfl rfl rfl ?_) <;> (refine rdg_u rfl rfl rfl rfl (alenm rfl rfl) ?_) <;> (refine rdg_u rfl rfl rfl rfl (ageq rfl rfl) ?_) <;> (refine rd_pick_f rfl rfl ?_) <;> (refine rmove rfl ?_) <;> ((refine rd_split (t := 25) rfl (fun hc => ?_) (fun hc => ?_) <;> (try simp only [sB, ne_eq, reduceCtorEq] at hc) <;> (try (exfalso; omega)) <;> (refine rdg_u rfl rfl rfl rfl (aloadpw rfl rfl rfl rfl) ?_))) <;> (refine gfieldp rfl rfl rfl rfl rfl ?_) <;> (refine gloadp rfl rfl rfl rfl rfl rfl ?_) <;> (refine gfieldp rfl rfl rfl rfl rfl ?_) <;> (refine gloadp rfl rfl rfl rfl rfl rfl ?_) <;> (refine rdg_u rfl rfl rfl rfl (aidxz rfl rfl (by omega)) ?_) <;> (refine rdg_u rfl rfl rfl rfl (afieldi rfl rfl rfl) ?_) <;> (refine rdg_u rfl rfl rfl rfl (aloadi rfl rfl) ?_) <;> (refine rdg_u rfl rfl rfl rfl (asub rfl rfl (by exact inr_i64_of (by omega))) ?_) <;> (refine rdg_u rfl rfl rfl rfl (aloadpw rfl rfl rfl rfl) ?_) <;> (refine rdg_call rfl rfl rfl rfl (by first | ((repeat' first | exact SubL.nil | refine SubL.cons ?_ ?_ | exact Sub.refl); done) | fail) (by first | (simp [bdL, bdL_append, AV.bd]; done) | fail) (hv1) ?_) <;> (refine rdg_u rfl rfl rfl rfl (anot rfl) ?_) <;> (refine rd_pick_f rfl rfl ?_) <;> (refine rd_end (by kernel_rfl) ?_)) | (refine WP.regionC (id := 2) ?_; (refine su (ap_build (RqP.nil) rfl) ?_); (refine se_store_b rfl rfl rfl rfl ?_); (refine sassign rfl ?_); apply jW)))
        exact ret_many (.cellT rfl rfl rfl rfl (.tmp rfl .nil)) (Nat.le_of_ble_eq_true rfl) (by first | ((repeat' first | exact FzL.nil | refine FzL.cons ?_ ?_ | exact Fz.nil | (exact Fz.reflp (by simp [AV.bd, bdL, bdL_append])) | refine Fz.aggL ?_); done) | fail)
      · have hr : t.rule < 0 ∨ g.rules.length ≤ t.rule := by omega
        rw [treA_kids]
        refine Fn.intro rfl (by kernel_rfl) Try.func28 rfl rfl Try.ntmps28 (by exact Nat.le_of_ble_eq_true rfl) ?_; intro Γ hm
        (repeat' (first | apply jA | apply jH | apply jK | apply jM | apply jS | (refine wp_cond rfl (fun hc => ?_) (fun hc => ?_) <;> (try simp only [sB, ne_eq, reduceCtorEq] at hc) <;> (try (exfalso; omega))) | (refine WP.regionC (id := 0) ?_; (refine se_box rfl (by exact ⟨rfl, rfl⟩) ?_); (refine se_box rfl (by exact ⟨rfl, rfl⟩) ?_); (refine se_box rfl (by exact ⟨rfl, rfl⟩) ?_); (refine se_alloc rfl ?_); (refine sassign rfl ?_); apply jW) | (refine wp_draw (id := 1) 31 mixed (by kernel_rfl) (by kernel_rfl) rfl ?_ <;> (refine rd_u rfl rfl (aloadpw rfl rfl rfl rfl) ?_) <;> (refine rd_u rfl rfl (aloadpw rfl rfl rfl rfl) ?_) <;> (refine rd_call rfl rfl (by first | ((repeat' first | exact SubL.nil | refine SubL.cons ?_ ?_ | exact Sub.refl); done) | fail) (by first | (simp [bdL, bdL_append, AV.bd]; done) | fail) (hm1) ?_) <;> (refine rd_u rfl rfl (anot rfl) ?_) <;> (refine rmove rfl ?_) <;> (refine gfieldp rfl rfl rfl rfl rfl ?_) <;> (refine gloadp rfl rfl rfl rfl rfl rfl ?_) <;> (refine rdg_u rfl rfl rfl rfl (alss rfl rfl) ?_) <;> (refine rd_pick_f rfl rfl ?_) <;> (refine rmove rfl ?_) <;> ((refine rd_split (t := 17) rfl (fun hc => ?_) (fun hc => ?_) <;> (try simp only [sB, ne_eq, reduceCtorEq] at hc) <;> (try (exfalso; omega)) <;> (first | refine rd_skip rfl rfl ?_ | refine gfieldp rfl rfl rfl rfl rfl ?_))) <;> (first | refine rd_skip rfl rfl ?_ | refine gloadp rfl rfl rfl rfl rfl rfl ?_) <;> (first | refine rd_skip rfl rfl ?_ | refine gfieldp rfl rfl rfl rfl rfl ?_) <;> (first | refine rd_skip rfl rfl ?_ | refine gloadp rfl rfl rfl rfl rfl rfl ?_) <;> (first | refine rd_skip rfl rfl ?_ | refine rdg_u rfl rfl rfl rfl (alenm rfl rfl) ?_) <;> (first | refine rd_skip rfl rfl ?_ | refine rdg_u rfl rfl rfl rfl (ageq rfl rfl) ?_) <;> (first | refine rd_pick_t rfl rfl ?_ | refine rd_pick_f rfl rfl ?_) <;> (refine rmove rfl ?_) <;> (first | refine rd_skip rfl rfl ?_ | (refine rd_split (t := 25) rfl (fun hc => ?_) (fun hc => ?_) <;> (try simp only [sB, ne_eq, reduceCtorEq] at hc) <;> (try (exfalso; omega)) <;> (refine rd_skip rfl rfl ?_))) <;> (refine rd_skip rfl rfl ?_) <;> (refine rd_skip rfl rfl ?_) <;> (refine rd_skip rfl rfl ?_) <;> (refine rd_skip rfl rfl ?_) <;> (refine rd_skip rfl rfl ?_) <;> (refine rd_skip rfl rfl ?_) <;> (refine rd_skip rfl rfl ?_) <;> (refine rd_skip rfl rfl ?_) <;> (refine rd_skip rfl rfl ?_) <;> (refine rd_skip rfl rfl ?_) <;> (refine rd_skip rfl rfl ?_) <;> (refine rd_pick_t rfl rfl ?_) <;> (refine rd_end (by kernel_rfl) ?_)) | (refine WP.regionC (id := 2) ?_; (refine su (ap_build (RqP.nil) rfl) ?_); (refine se_store_b rfl rfl rfl rfl ?_); (refine sassign rfl ?_); apply jW)))
        all_goals exact ret_many (.cellT rfl rfl rfl rfl (.tmp rfl .nil)) (Nat.le_of_ble_eq_true rfl) (by first | ((repeat' first | exact FzL.nil | refine FzL.cons ?_ ?_ | exact Fz.nil | (exact Fz.reflp (by simp [AV.bd, bdL, bdL_append])) | refine Fz.aggL ?_); done) | fail)
  · have hmf : matG g n = false := by simpa using hmg
    have hm1 := matches_fn g n
    rw [hmf] at hm1
    have he : fromTreeG g n t = (.mk 0 [], 13) := if_neg fun h => hmg h.1
    rw [he]
    simp only
    rw [prs0, treA_kids]
    refine Fn.intro rfl (by kernel_rfl) Try.func28 rfl rfl Try.ntmps28 (by exact Nat.le_of_ble_eq_true rfl) ?_; intro Γ hm
    (repeat' (first | apply jA | apply jH | apply jK | apply jM | apply jS | (refine wp_cond rfl (fun hc => ?_) (fun hc => ?_) <;> (try simp only [sB, ne_eq, reduceCtorEq] at hc) <;> (try (exfalso; omega))) | (refine WP.regionC (id := 0) ?_; (refine se_box rfl (by exact ⟨rfl, rfl⟩) ?_); (refine se_box rfl (by exact ⟨rfl, rfl⟩) ?_); (refine se_box rfl (by exact ⟨rfl, rfl⟩) ?_); (refine se_alloc rfl ?_); (refine sassign rfl ?_); apply jW) | (refine wp_draw (id := 1) 31 mixed (by kernel_rfl) (by kernel_rfl) rfl ?_ <;> (refine rd_u rfl rfl (aloadpw rfl rfl rfl rfl) ?_) <;> (refine rd_u rfl rfl (aloadpw rfl rfl rfl rfl) ?_) <;> (refine rd_call rfl rfl (by first | ((repeat' first | exact SubL.nil | refine SubL.cons ?_ ?_ | exact Sub.refl); done) | fail) (by first | (simp [bdL, bdL_append, AV.bd]; done) | fail) (hm1) ?_) <;> (refine rd_u rfl rfl (anot rfl) ?_) <;> (refine rmove rfl ?_) <;> (refine rd_skip rfl rfl ?_) <;> (refine rd_skip rfl rfl ?_) <;> (refine rd_skip rfl rfl ?_) <;> (refine rd_pick_t rfl rfl ?_) <;> (refine rmove rfl ?_) <;> (refine rd_skip rfl rfl ?_) <;> (refine rd_skip rfl rfl ?_) <;> (refine rd_skip rfl rfl ?_) <;> (refine rd_skip rfl rfl ?_) <;> (refine rd_skip rfl rfl ?_) <;> (refine rd_skip rfl rfl ?_) <;> (refine rd_pick_t rfl rfl ?_) <;> (refine rmove rfl ?_) <;> (refine rd_skip rfl rfl ?_) <;> (refine rd_skip rfl rfl ?_) <;> (refine rd_skip rfl rfl ?_) <;> (refine rd_skip rfl rfl ?_) <;> (refine rd_skip rfl rfl ?_) <;> (refine rd_skip rfl rfl ?_) <;> (refine rd_skip rfl rfl ?_) <;> (refine rd_skip rfl rfl ?_) <;> (refine rd_skip rfl rfl ?_) <;> (refine rd_skip rfl rfl ?_) <;> (refine rd_skip rfl rfl ?_) <;> (refine rd_skip rfl rfl ?_) <;> (refine rd_pick_t rfl rfl ?_) <;> (refine rd_end (by kernel_rfl) ?_)) | (refine WP.regionC (id := 2) ?_; (refine su (ap_build (RqP.nil) rfl) ?_); (refine se_store_b rfl rfl rfl rfl ?_); (refine sassign rfl ?_); apply jW)))
    exact ret_many (.cellT rfl rfl rfl rfl (.tmp rfl .nil)) (Nat.le_of_ble_eq_true rfl) (by first | ((repeat' first | exact FzL.nil | refine FzL.cons ?_ ?_ | exact Fz.nil | (exact Fz.reflp (by simp [AV.bd, bdL, bdL_append])) | refine Fz.aggL ?_); done) | fail)
theorem small18_fn (g : Gram) : Fn Try.prog 47 [gramA g] (boolA (decide (g.terms.length ≤ 6) && decide (g.nonterms.length ≤ 8) && decide (g.rules.length ≤ 16) && validG g)) := by
  refine Fn.intro rfl (by kernel_rfl) Try.func47 rfl rfl Try.ntmps47 (by exact Nat.le_of_ble_eq_true rfl) ?_; intro Γ hm
  (repeat' (first | apply jA | apply jH | apply jK | apply jS | (refine WP.regionC (id := 0) ?_; (refine se_box rfl (by exact ⟨rfl, rfl⟩) ?_); (refine sassign rfl ?_); apply jW) | (refine WP.regionC (id := 1) ?_; (refine sfieldp rfl rfl rfl ?_); (refine sloadp rfl rfl rfl rfl ?_); (refine slenm rfl rfl ?_); (refine su (aleq rfl rfl) ?_); (refine smove rfl ?_); (refine sg (gq_vt rfl rfl) (fun he => ap_field_p (rq_p rfl rfl) rfl rfl) ?_); (refine sg (gq_vt rfl rfl) (fun he => ap_load_p (rq_c rfl rfl) rfl rfl rfl) ?_); (refine sg (gq_vt rfl rfl) (fun he => ap_len_m rfl (rq_c rfl rfl)) ?_); (refine sg (gq_vt rfl rfl) (fun he => ap_leq (rq_c rfl rfl) (rq_p rfl rfl)) ?_); (refine su (ap_and (rq_p rfl rfl) (rq_c rfl rfl)) ?_); (refine smove rfl ?_); (refine sg (gq_vt rfl rfl) (fun he => ap_field_p (rq_p rfl rfl) rfl rfl) ?_); (refine sg (gq_vt rfl rfl) (fun he => ap_load_p (rq_c rfl rfl) rfl rfl rfl) ?_); (refine sg (gq_vt rfl rfl) (fun he => ap_len_m rfl (rq_c rfl rfl)) ?_); (refine sg (gq_vt rfl rfl) (fun he => ap_leq (rq_c rfl rfl) (rq_p rfl rfl)) ?_); (refine su (ap_and (rq_p rfl rfl) (rq_c rfl rfl)) ?_); (refine smove rfl ?_); (refine sg (gq_vt rfl rfl) (fun he => ap_load_pw (rq_p rfl rfl) rfl rfl rfl) ?_); (refine sg_p (gq_vt rfl rfl) (fun he => ⟨(rq_p rfl rfl), (RqL.cons (rq_c rfl rfl) (RqL.nil)), (by first | ((repeat' first | exact SubL.nil | refine SubL.cons ?_ ?_ | exact Sub.refl); done) | fail), (by first | (simp [bdL, bdL_append, AV.bd]; done) | fail), rvalid18_fn _⟩) ?_); (refine su (ap_and (rq_p rfl rfl) (rq_c rfl rfl)) ?_); (refine sassign rfl ?_); apply jW) | refine ret_b rfl ?_))
  all_goals (rw [Bool.eq_iff_iff]; simp only [Bool.and_eq_true, decide_eq_true_eq]; constructor <;> rintro ⟨⟨⟨h1, h2⟩, h3⟩, h4⟩ <;> exact ⟨⟨⟨by omega, by omega⟩, by omega⟩, h4⟩)
end Go.Lg

namespace Go.Lg
open Go.RowKit
section
variable {P : Program} {Γ : Cx} {A : Nat → Prop} {ρ : Nat → Option Nat} {s : St} {a : Act} {w : World}
theorem fz_gen (h : SRa Γ A ρ s a w) {I : Nat → Prop} (hI : ∀ b, Im Γ ρ s w b → I b) {look : Nat → Option AObj} (hlk : ∀ id o, look id = some o → s.look id = some o ∧ ∀ b, ρ id = some b → I b) {x y : AV} (hz : Fz look x y) : ∀ {v : Value}, RV A ρ I w x v → RV A ρ I w y v := by
  have hRd : ∀ b, Im Γ ρ s w b → I b ∧ w.heap[b]? = w.heap[b]? := fun b hb => ⟨hI b hb, rfl⟩
  induction hz with
  | pure hb => exact fun hx => hx
  | nil => intro v hx; rw [hx.val_eq]; exact .nils
  | @agg cs cs' hl _ ih =>
    intro v hx
    cases hx with
    | agg hlv ha hr =>
      refine .agg (by omega) ha fun i y u hy hu => ?_
      have hi : i < cs.length := by rw [← hl]; exact (List.getElem?_eq_some_iff.1 hy).1
      exact ih i _ y (List.getElem?_eq_getElem hi) hy (hr i _ u (List.getElem?_eq_getElem hi) hu)
  | @tup cs cs' hl _ ih =>
    intro v hx
    cases hx with
    | tup hlv hr =>
      refine .tup (by omega) fun i y u hy hu => ?_
      have hi : i < cs.length := by rw [← hl]; exact (List.getElem?_eq_some_iff.1 hy).1
      exact ih i _ y (List.getElem?_eq_getElem hi) hy (hr i _ u (List.getElem?_eq_getElem hi) hu)
  | @ref id k off len es ys hlook hle hl hkys hfl _ ih =>
    intro v hx
    cases hx with
    | @ref _ _ _ _ cap b hA hb hlc hcs hm =>
      obtain ⟨cs, t, hblk, hrow⟩ := h.row (hlk _ _ hlook).1 hb
      have hlen : ((es.drop off).take len).length = len := by simp; omega
      have hk' : ∀ e, e ∈ (es.drop off).take len → e.cells.length = k := fun e he => hrow.wide e (List.mem_of_mem_drop (List.mem_of_mem_take he))
      have hbd : off * k + (flat ((es.drop off).take len)).length ≤ cs.size := by
        have h1 := flat_length hrow.wide
        have h2 := flat_length hk'
        have h3 := hrow.len
        rw [h2, hlen, ← Nat.add_mul]
        have := Nat.mul_le_mul_right k hle
        omega
      have hget : ∀ j, j < (flat ys).length → cs[off * k + j]? = some (cs.getD (off * k + j) undef) := fun j hj => by
        have : off * k + j < cs.size := by omega
        simp [Array.getD, this]
      have key : ∀ j, j < (flat ys).length → ∃ u, (flat es)[off * k + j]? = some u ∧ ((flat ((es.drop off).take len))[j]? = some u) := fun j hj => by
        have hj' : j < (flat ((es.drop off).take len)).length := by omega
        refine ⟨(flat ((es.drop off).take len))[j], ?_, List.getElem?_eq_getElem hj'⟩
        rw [← sub_flat hrow.wide hle j hj']; exact List.getElem?_eq_getElem hj'
      rw [← hl]
      refine .sl (fun j => cs.getD (off * k + j) undef) ⟨by omega, hm⟩ ((hlk _ _ hlook).2 _ hb) hkys (fun j hj => by rw [cell_of_block hblk]; exact hget j hj) (fun j hj => ?_) (fun j y hy => ?_)
      · obtain ⟨u, hu, _⟩ := key j hj
        exact hrow.atoms _ _ (List.getElem?_eq_some_iff.1 hu).1 (hget j hj)
      · have hj : j < (flat ys).length := (List.getElem?_eq_some_iff.1 hy).1
        obtain ⟨u, hu, hu'⟩ := key j hj
        exact ih j u y hu' hy ((hrow.vals _ u _ hu (hget j hj)).mono (fun _ hA => ⟨hA, rfl⟩) hRd (fun _ _ hn => hn))
    | refn hA hb =>
      have : ys = [] := List.eq_nil_of_length_eq_zero hl
      subst this
      exact .nils
  | @ptr id k i j es e ys hlook he hl _ ih =>
    intro v hx
    cases hx with
    | @ptr _ _ _ _ b hA hb =>
      obtain ⟨cs, t, hblk, hrow⟩ := h.row (hlk _ _ hlook).1 hb
      have hek := hrow.wide e (List.mem_of_getElem? he)
      have hget : ∀ m, m < ys.length → (flat es)[i * k + m]? = some (e.cells[m]?.getD .any) ∧ e.cells[m]? = some (e.cells[m]?.getD .any) := fun m hm => by
        have h1 := flat_get hrow.wide i m e he (by omega)
        have h2 : e.cells[m]? = some (e.cells[m]'(by omega)) := List.getElem?_eq_getElem (by omega)
        rw [h1, h2]; exact ⟨rfl, rfl⟩
      have hlt : ∀ m, m < ys.length → i * k + m < cs.size := fun m hm => Nat.lt_of_lt_of_le (List.getElem?_eq_some_iff.1 (hget m hm).1).1 hrow.len
      refine .iptr (o := i * k) (fun m => cs.getD (i * k + m) undef) ((hlk _ _ hlook).2 _ hb) (fun m hm => ?_) (fun m hm => ?_) (fun m y hy => ?_)
      · rw [cell_of_block hblk]; simp [Array.getD, hlt m hm]
      · exact hrow.atoms _ _ (List.getElem?_eq_some_iff.1 (hget m hm).1).1 (by simp [Array.getD, hlt m hm])
      · have hm : m < ys.length := (List.getElem?_eq_some_iff.1 hy).1
        exact ih m _ y (hget m hm).2 hy ((hrow.vals _ _ _ (hget m hm).1 (by simp [Array.getD, hlt m hm])).mono (fun _ hA => ⟨hA, rfl⟩) hRd (fun _ _ hn => hn))
  | @clo fn xs ys xs' ys' h1 h2 _ _ ih3 ih4 =>
    intro v hx
    cases hx with
    | clo g1 g2 g3 g4 =>
      refine .clo (by omega) (by omega) (fun i y u hy hu => ?_) (fun i y u hy hu => ?_)
      · have hi : i < xs.length := by rw [← h1]; exact (List.getElem?_eq_some_iff.1 hy).1
        exact ih3 i _ y (List.getElem?_eq_getElem hi) hy (g3 i _ u (List.getElem?_eq_getElem hi) hu)
      · have hi : i < ys.length := by rw [← h2]; exact (List.getElem?_eq_some_iff.1 hy).1
        exact ih4 i _ y (List.getElem?_eq_getElem hi) hy (g4 i _ u (List.getElem?_eq_getElem hi) hu)
end
def St.kills (s : St) : List Nat → St
  | [] => s
  | i :: is => St.kills (s.set i none) is
theorem kills_live {is : List Nat} : ∀ {s : St} {id : Nat} {o : AObj}, (s.kills is).live id o → s.live id o ∧ id ∉ is := by
  induction is with
  | nil => exact fun h => ⟨h, by simp⟩
  | cons i is ih =>
    intro s id o h
    obtain ⟨h1, h2⟩ := ih h
    obtain ⟨h3, h4⟩ := St.live_kill h1
    exact ⟨h4, by simp [h3, h2]⟩
section
variable {P : Program} {Γ : Cx} {A : Nat → Prop} {ρ : Nat → Option Nat} {s : St} {a : Act} {w : World}
theorem SRa.kills (h : SRa Γ A ρ s a w) : ∀ is : List Nat, SRa Γ A ρ (s.kills is) a w := by
  intro is
  induction is generalizing s with
  | nil => exact h
  | cons i is ih => exact ih (h.kill i)
theorem fz_kills (h : SRa Γ A ρ s a w) (hm : Γ.m = 0) (ks : List Nat) {x y : AV} (hz : Fz (fun id => cond (ks.contains id) (s.look id) none) x y) {v : Value} (hv : RV A ρ (Im Γ ρ (s.kills ks) w) w x v) : RV A ρ (Im Γ ρ (s.kills ks) w) w y v := by
  refine fz_gen h (fun b hb => ⟨hb.1, hb.2.1, fun i o hl => hb.2.2 i o (kills_live hl).1⟩) (fun id o hl => ?_) hz hv
  cases hc : ks.contains id with
  | false => rw [hc] at hl; cases hl
  | true =>
    rw [hc] at hl
    have hl : s.look id = some o := hl
    refine ⟨hl, fun b hb => ?_⟩
    have hlive := St.look_some.1 hl
    refine ⟨.inr ?_, ?_, fun i o' hl' hr => ?_⟩
    · rcases h.own id _ b hlive hb with h1 | ⟨i, hi, _⟩
      · exact h1
      · rw [hm] at hi; exact absurd hi (Nat.not_lt_zero i)
    · have ho := h.obj id o hlive
      rw [hb] at ho
      cases o with
      | arr k es => obtain ⟨cs, t, h1, _⟩ := ho; exact World.lt_of_block h1
      | map m => obtain ⟨cs, t, h1, _⟩ := ho; exact World.lt_of_block h1
      | bytes l => obtain ⟨cs, h1, _⟩ := ho; exact World.lt_of_block h1
      | bld T x => obtain ⟨p, v, h1, _⟩ := ho; exact World.lt_of_block h1
      | lop c ts => obtain ⟨tm, df, h1, _⟩ := ho; exact World.lt_of_block h1
    · obtain ⟨q1, q2⟩ := kills_live hl'
      have := h.inj i id o' _ b q1 hlive hr hb
      subst this
      exact q2 (by simpa using hc)
end
section
variable {P : Program} {Γ : Cx} {n M : Nat} {l : List (Nat × AV)} {os : List (Nat × Option AObj)} {Q : Exit → St → Prop}
theorem S_kills : ∀ (ks : List Nat) (os : List (Nat × Option AObj)), (S n l M os).kills ks = S n l M ((ks.reverse.map fun i => (i, none)) ++ os)
  | [], os => rfl
  | i :: ks, os => by
    have e : (S n l M os).set i none = S n l M ((i, none) :: os) := by simp [S, St.set, ol_set]
    rw [St.kills, e, S_kills ks]
    simp
theorem wp_fzO {c : Code} (ks : List Nat) (ido : Nat) {k : Nat} {x : AV} (y : AV) (hm : Γ.m = 0) (hid : ks.contains ido = false) (hob : lookq M os ido = some (.arr k [x])) (hz : Fz (fun id => cond (ks.contains id) (lookq M os id) none) x y)
    (hw : WP P Γ c Q (S n l M ((ido, some (.arr k [y])) :: (ks.reverse.map fun i => (i, none)) ++ os))) : WP P Γ c Q (S n l M os) := fun a w hs => by
  refine hw a w ?_
  obtain ⟨ρ, hs⟩ := hs
  have h1 := hs.kills ks
  have hlook := St.look_some.1 (by rw [S_look]; exact hob : (S n l M os).look ido = some (.arr k [x]))
  have hwide : x.cells.length = k := by
    have := hs.obj ido _ hlook
    cases hr : ρ ido with
    | none => rw [hr] at this; obtain ⟨_, h2⟩ := this.resolve_left (by simp); cases h2
    | some b => rw [hr] at this; obtain ⟨_, _, _, _, h3, _⟩ := this; exact h3 x (by simp)
  have hz' : Fz (fun id => cond (ks.contains id) ((S n l M os).look id) none) x y := by simpa only [S_look] using hz
  obtain ⟨c1, c2⟩ := hz'.cells
  have hlt : ido < M := by
    simp only [lookq] at hob
    cases hb : Nat.blt ido M with
    | false => rw [hb] at hob; simp at hob
    | true => exact blt_of hb
  have hni : ido ∉ ks := by simpa using hid
  have hob' : ((S n l M os).kills ks).live ido (.arr k [x]) := by
    have gen : ∀ (ks : List Nat) (s : St), ido ∉ ks → s.live ido (.arr k [x]) → (s.kills ks).live ido (.arr k [x]) := by
      intro ks
      induction ks with
      | nil => exact fun s _ h => h
      | cons i ks ih =>
        intro s hn h
        simp only [List.mem_cons, not_or] at hn
        refine ih _ hn.2 ?_
        simp only [St.live, St.set_objs] at h ⊢
        rw [List.getElem?_set_ne (fun e => hn.1 e.symm)]; exact h
    exact gen ks _ hni hlook
  have h2 := h1.recell hob' (es' := [y]) (by simp [flat, c1]) (by simp [c1, hwide]) (by simp) (fun j u v hu hv v' hrv => by
    simp only [flat, List.flatMap_cons, List.flatMap_nil, List.append_nil] at hu hv
    exact fz_kills hs hm ks (c2 j u v hu hv) hrv)
  have e : (((S n l M os).kills ks).set ido (some (.arr k [y]))) = S n l M ((ido, some (.arr k [y])) :: (ks.reverse.map fun i => (i, none)) ++ os) := by
    rw [S_kills]; simp [S, St.set, ol_set]
  rw [e] at h2
  refine ⟨ρ, ?_⟩
  have eM : (S n l M os).objs.length = (S n l M ((ido, some (AObj.arr k [y])) :: (ks.reverse.map fun i => (i, none)) ++ os)).objs.length := by simp [S, ol_length]
  rw [eM] at h2
  exact h2
end
end Go.Lg

namespace Go.Lg
open Go.Proofs
set_option linter.unusedSimpArgs false
set_option linter.unusedVariables false
attribute [local irreducible] Ap Rq asemC WP RunD Ret Gq thenA inBlockA bodyQ noGotoA RqL RqP OpP
set_option maxHeartbeats 8000000
set_option maxRecDepth 20000
attribute [local simp] AV.cells casA
theorem same24_fn (a b : List Int) : Fn Try.prog 20 [intsA a, intsA b] (boolA (decide (a = b))) := by
  have h := same21_fn [a] [b]
  rw [show decide ([a] = [b]) = decide (a = b) by simp] at h
  refine Fn.intro rfl (by kernel_rfl) Try.func20 rfl rfl Try.ntmps20 (by exact Nat.le_of_ble_eq_true rfl) ?_; intro Γ hm
  (repeat' (first | apply jA | apply jH | apply jK | apply jS | (refine WP.regionC (id := 0) ?_; (refine sassign rfl ?_); apply jW) | (refine WP.regionC (id := 1) ?_; (refine smove rfl ?_); (refine se_lit (OpP.cons rfl (OpP.nil)) rfl rfl rfl rfl rfl rfl ?_); (refine smove rfl ?_); (refine se_lit (OpP.cons rfl (OpP.nil)) rfl rfl rfl rfl rfl rfl ?_); (refine sc_b rfl rfl (by first | ((repeat' first | exact FzL.nil | refine FzL.cons ?_ ?_ | (exact Fz.list rfl rfl (fun _ => by simp [AV.bd, bdL, bdL_append]) (fun _ => rfl))); done) | fail) (h) rfl ?_); (refine sassign rfl ?_); apply jW) | exact ret_eq rfl rfl rfl))
noncomputable def fairG (x : Cas) : Nrm × Bool := if (decide (x.g.terms.length ≤ 6) && decide (x.g.nonterms.length ≤ 8) && decide (x.g.rules.length ≤ 16) && validG x.g) = true ∧ nodesW x.t ≤ 200 ∧ sizeW x.p ≤ 300 then ((binG x.g).1, decide ((binG x.g).2 = 0)) else (⟨0, 0, 0, []⟩, false)
theorem fair_fn (x : Cas) : Fn Try.prog 25 [casA x] (.tup [nrmA (fairG x).1, boolA (fairG x).2]) := by
  have hs := small18_fn x.g
  by_cases hc0 : (decide (x.g.terms.length ≤ 6) && decide (x.g.nonterms.length ≤ 8) && decide (x.g.rules.length ≤ 16) && validG x.g) = true ∧ nodesW x.t ≤ 200 ∧ sizeW x.p ≤ 300
  · have he : fairG x = ((binG x.g).1, decide ((binG x.g).2 = 0)) := if_pos hc0
    rw [he]
    obtain ⟨h1, h2, h3⟩ := hc0
    rw [h1] at hs
    refine Fn.intro (by simp [AV.bd, bdL, bdL_append]) (by kernel_rfl) Try.func25 rfl rfl Try.ntmps25 (by exact Nat.le_of_ble_eq_true rfl) ?_; intro Γ hm
    (repeat' (first | apply jA | apply jH | apply jI | apply jK | apply jS | (refine wp_cond rfl (fun hc => ?_) (fun hc => ?_) <;> (try simp only [sB, ne_eq, reduceCtorEq] at hc) <;> (try (exfalso; omega))) | (refine WP.regionC (id := 0) ?_; (refine se_box rfl (by exact ⟨rfl, rfl⟩) ?_); (refine se_alloc rfl ?_); (refine sassign rfl ?_); apply jW) | (refine WP.regionC (id := 1) ?_; (refine sfieldp rfl rfl rfl ?_); (refine sloadp rfl rfl rfl rfl ?_); (refine sc_p rfl rfl (by first | ((repeat' first | exact SubL.nil | refine SubL.cons ?_ ?_ | exact Sub.refl); done) | fail) (by first | (simp [bdL, bdL_append, AV.bd]; done) | fail) (hs) ?_); (refine su (anot rfl) ?_); (refine smove rfl ?_); (refine sg (gq_vf rfl rfl) (fun he => ap_field_p (rq_p rfl rfl) rfl rfl) ?_); (refine sg (gq_vf rfl rfl) (fun he => ap_load_p (rq_c rfl rfl) rfl rfl rfl) ?_); (refine sg_p (gq_vf rfl rfl) (fun he => ⟨(rq_p rfl rfl), (RqL.cons (rq_c rfl rfl) (RqL.nil)), (by first | ((repeat' first | exact SubL.nil | refine SubL.cons ?_ ?_ | exact Sub.refl); done) | fail), (by first | (simp [bdL, bdL_append, AV.bd]; done) | fail), nodes21_fn x.t⟩) ?_); (refine sg (gq_vf rfl rfl) (fun he => ap_gtr (rq_c rfl rfl) (rq_p rfl rfl)) ?_); (refine su (ap_or (rq_p rfl rfl) (rq_c rfl rfl)) ?_); (refine smove rfl ?_); (refine sg (gq_vf rfl rfl) (fun he => ap_field_p (rq_p rfl rfl) rfl rfl) ?_); (refine sg (gq_vf rfl rfl) (fun he => ap_load_p (rq_c rfl rfl) rfl rfl rfl) ?_); (refine sg_p (gq_vf rfl rfl) (fun he => ⟨(rq_p rfl rfl), (RqL.cons (rq_c rfl rfl) (RqL.nil)), (by first | ((repeat' first | exact SubL.nil | refine SubL.cons ?_ ?_ | exact Sub.refl); done) | fail), (by first | (simp [bdL, bdL_append, AV.bd]; done) | fail), size24_fn x.p⟩) ?_); (refine sg (gq_vf rfl rfl) (fun he => ap_gtr (rq_c rfl rfl) (rq_p rfl rfl)) ?_); (refine su (ap_or (rq_p rfl rfl) (rq_c rfl rfl)) ?_); apply jW) | (refine WP.regionC (id := 3) ?_; (refine sfieldp rfl rfl rfl ?_); (refine sloadp rfl rfl rfl rfl ?_); (refine sc_p rfl rfl (by first | ((repeat' first | exact SubL.nil | refine SubL.cons ?_ ?_ | exact Sub.refl); done) | fail) (by first | (simp [bdL, bdL_append, AV.bd]; done) | fail) (rbinarize_fn x.g) ?_); (refine smove rfl ?_); (refine su (aextract rfl rfl) ?_); (refine su (aextract rfl rfl) ?_); (refine se_alloc rfl ?_); (refine se_store_b rfl rfl rfl rfl ?_); (refine sassign rfl ?_); apply jW) | (refine WP.regionC (id := 4) ?_; (refine sloadpw rfl rfl rfl rfl ?_); (refine smove rfl ?_); (refine seql rfl rfl ?_); (refine se_store_b rfl rfl rfl rfl ?_); (refine sassign rfl ?_); apply jW)))
    · exfalso; rcases hc with (hc | hc) | hc
      · exact hc
      · omega
      · omega
    · exact ret_many (.cellT (x := nrmA (binG x.g).1) rfl rfl rfl rfl (.tmp rfl .nil)) (Nat.le_of_ble_eq_true rfl) (by first | ((repeat' first | exact FzL.nil | refine FzL.cons ?_ ?_ | (exact Fz.reflp (by simp [AV.bd, bdL, bdL_append]))); done) | fail)
  · have he : fairG x = (⟨0, 0, 0, []⟩, false) := if_neg hc0
    rw [he]
    refine Fn.intro rfl (by kernel_rfl) Try.func25 rfl rfl Try.ntmps25 (by exact Nat.le_of_ble_eq_true rfl) ?_; intro Γ hm
    (repeat' (first | apply jA | apply jH | apply jI | apply jK | apply jM | apply jS | (refine wp_cond rfl (fun hc => ?_) (fun hc => ?_) <;> (try simp only [sB, ne_eq, reduceCtorEq] at hc) <;> (try (exfalso; omega))) | (refine WP.regionC (id := 0) ?_; (refine se_box rfl (by exact ⟨rfl, rfl⟩) ?_); (refine se_alloc rfl ?_); (refine sassign rfl ?_); apply jW) | (refine WP.regionC (id := 1) ?_; (refine sfieldp rfl rfl rfl ?_); (refine sloadp rfl rfl rfl rfl ?_); (refine sc_p rfl rfl (by first | ((repeat' first | exact SubL.nil | refine SubL.cons ?_ ?_ | exact Sub.refl); done) | fail) (by first | (simp [bdL, bdL_append, AV.bd]; done) | fail) (hs) ?_); (refine su (anot rfl) ?_); (refine smove rfl ?_); (refine sg (gq_vf rfl rfl) (fun he => ap_field_p (rq_p rfl rfl) rfl rfl) ?_); (refine sg (gq_vf rfl rfl) (fun he => ap_load_p (rq_c rfl rfl) rfl rfl rfl) ?_); (refine sg_p (gq_vf rfl rfl) (fun he => ⟨(rq_p rfl rfl), (RqL.cons (rq_c rfl rfl) (RqL.nil)), (by first | ((repeat' first | exact SubL.nil | refine SubL.cons ?_ ?_ | exact Sub.refl); done) | fail), (by first | (simp [bdL, bdL_append, AV.bd]; done) | fail), nodes21_fn x.t⟩) ?_); (refine sg (gq_vf rfl rfl) (fun he => ap_gtr (rq_c rfl rfl) (rq_p rfl rfl)) ?_); (refine su (ap_or (rq_p rfl rfl) (rq_c rfl rfl)) ?_); (refine smove rfl ?_); (refine sg (gq_vf rfl rfl) (fun he => ap_field_p (rq_p rfl rfl) rfl rfl) ?_); (refine sg (gq_vf rfl rfl) (fun he => ap_load_p (rq_c rfl rfl) rfl rfl rfl) ?_); (refine sg_p (gq_vf rfl rfl) (fun he => ⟨(rq_p rfl rfl), (RqL.cons (rq_c rfl rfl) (RqL.nil)), (by first | ((repeat' first | exact SubL.nil | refine SubL.cons ?_ ?_ | exact Sub.refl); done) | fail), (by first | (simp [bdL, bdL_append, AV.bd]; done) | fail), size24_fn x.p⟩) ?_); (refine sg (gq_vf rfl rfl) (fun he => ap_gtr (rq_c rfl rfl) (rq_p rfl rfl)) ?_); (refine su (ap_or (rq_p rfl rfl) (rq_c rfl rfl)) ?_); apply jW) | (refine WP.regionC (id := 2) ?_; (refine su (ap_build (RqP.nil) rfl) ?_); (refine se_store_b rfl rfl rfl rfl ?_); (refine sassign rfl ?_); apply jW)))
    · exact ret_many (.cellT rfl rfl rfl rfl (.tmp rfl .nil)) (Nat.le_of_ble_eq_true rfl) (by first | ((repeat' first | exact FzL.nil | refine FzL.cons ?_ ?_ | exact Fz.nil | (exact Fz.reflp (by simp [AV.bd, bdL, bdL_append])) | refine Fz.aggL ?_); done) | fail)
    · exfalso
      apply hc0
      grind
def bb (n : UInt8) : ByteArray := ⟨#[n]⟩
def exG : Gram := ⟨[bb 97, bb 98], [bb 83], 0, [⟨0, [0, -1, 1], 2⟩, ⟨0, [], 0⟩]⟩
def exN : Nrm := ⟨2, 4, 0, [⟨4, 0, 1, 3, 2, 0⟩, ⟨4, 3, 0, 2, 0, -1⟩, ⟨1, 0, 0, 0, 0, 1⟩, ⟨2, 1, 0, 0, 0, -1⟩, ⟨2, 2, 1, 0, 0, -1⟩]⟩
def exP : Prs := .mk 0 [.mk 3 [], .mk 1 [.mk 2 [], .mk 4 []]]
def exT : Tre := .mk 0 0 [.mk (-1) 0 [], .mk 1 0 [], .mk (-1) 1 []]
theorem ex_bin : binG exG = (exN, 0) := by decide +kernel
theorem ex_mat : matG exG exN = true := by unfold matG; rw [ex_bin]; decide +kernel
theorem ex_ok : okP exN 0 exP = true := by decide +kernel
theorem ex_no : okP exN 1 exP = false := by decide +kernel
theorem ex_okT : okT exG (-1) exT = true := by decide +kernel
theorem ex_val : validN exN = true := by decide +kernel
theorem ex_to : toTF exG (szP exP) exP = exT := by kernel_rfl
theorem ex_from : fromTF exG (szT exT) exT = exP := by kernel_rfl
theorem ex_yield : yieldP exN exP = [0, 1] := by decide +kernel
theorem ex_price : priceP exN exP = 2 := by decide +kernel
theorem ex_toG : toTreeG exG exN exP = (exT, 0) := by
  unfold toTreeG
  rw [if_pos ⟨ex_mat, by decide, by decide, by decide, ex_ok⟩, ex_to]
theorem ex_fromG : fromTreeG exG exN exT = (exP, 0) := by
  unfold fromTreeG
  rw [if_pos ⟨ex_mat, by decide, by decide, ex_okT⟩, ex_from]
theorem example24_fn : Fn Try.prog 35 [] (.tup [gramA exG, nrmA exN]) := by
  refine Fn.intro rfl (by kernel_rfl) Try.func35 rfl rfl Try.ntmps35 (by exact Nat.le_of_ble_eq_true rfl) ?_; intro Γ hm
  (repeat' (first | apply jA | apply jH | apply jK | apply jS | (refine WP.regionC (id := 0) ?_; (refine se_alloc rfl ?_); (refine se_alloc rfl ?_); apply jW) | (refine WP.regionC (id := 1) ?_; (refine se_lit (OpP.cons rfl (OpP.cons rfl (OpP.nil))) rfl rfl rfl rfl rfl rfl ?_); (refine se_lit (OpP.cons rfl (OpP.nil)) rfl rfl rfl rfl rfl rfl ?_); (refine se_lit (OpP.cons rfl (OpP.cons rfl (OpP.cons rfl (OpP.nil)))) rfl rfl rfl rfl rfl rfl ?_); (refine su (ap_build (RqP.cons (rq_p rfl rfl) (RqP.cons (rq_p rfl rfl) (RqP.nil))) rfl) ?_); (refine su (ap_build (RqP.nil) rfl) ?_); (refine se_lit (OpP.cons rfl (OpP.cons rfl (OpP.nil))) rfl rfl rfl rfl rfl rfl ?_); (refine su (ap_build (RqP.cons (rq_p rfl rfl) (RqP.cons (rq_p rfl rfl) (RqP.cons (rq_p rfl rfl) (RqP.nil)))) rfl) ?_); (refine se_alloc rfl ?_); (refine se_store_b rfl rfl rfl rfl ?_); apply jW) | (refine WP.regionC (id := 2) ?_; (refine su (ap_build (RqP.cons (rq_p rfl rfl) (RqP.cons (rq_p rfl rfl) (RqP.cons (rq_p rfl rfl) (RqP.cons (rq_p rfl rfl) (RqP.nil))))) rfl) ?_); (refine su (ap_build (RqP.cons (rq_p rfl rfl) (RqP.cons (rq_p rfl rfl) (RqP.cons (rq_p rfl rfl) (RqP.cons (rq_p rfl rfl) (RqP.cons (rq_p rfl rfl) (RqP.nil)))))) rfl) ?_); (refine su (ap_build (RqP.cons (rq_p rfl rfl) (RqP.cons (rq_p rfl rfl) (RqP.nil))) rfl) ?_); (refine su (ap_build (RqP.cons (rq_p rfl rfl) (RqP.cons (rq_p rfl rfl) (RqP.cons (rq_p rfl rfl) (RqP.nil)))) rfl) ?_); (refine su (ap_build (RqP.cons (rq_p rfl rfl) (RqP.cons (rq_p rfl rfl) (RqP.cons (rq_p rfl rfl) (RqP.cons (rq_p rfl rfl) (RqP.nil))))) rfl) ?_); (refine se_lit (OpP.cons rfl (OpP.cons rfl (OpP.cons rfl (OpP.cons rfl (OpP.cons rfl (OpP.nil)))))) rfl rfl rfl rfl rfl rfl ?_); (refine su (ap_build (RqP.cons (rq_p rfl rfl) (RqP.cons (rq_p rfl rfl) (RqP.cons (rq_p rfl rfl) (RqP.nil)))) rfl) ?_); (refine se_alloc rfl ?_); (refine se_store_b rfl rfl rfl rfl ?_); apply jW) | (refine wp_draw (id := 3) 4 mixed (by kernel_rfl) (by kernel_rfl) rfl ?_ <;> (refine rd_u rfl rfl (aloadpw rfl rfl rfl rfl) ?_) <;> (refine rd_u rfl rfl (aloadpw rfl rfl rfl rfl) ?_) <;> (refine rd_store_b rfl rfl rfl rfl ?_) <;> (refine rd_store_b rfl rfl rfl rfl ?_) <;> (refine rd_end (by kernel_rfl) ?_))))
  exact ret_many (.cellT rfl rfl rfl rfl (.cellT rfl rfl rfl rfl .nil)) (Nat.le_of_ble_eq_true rfl) (by first | ((repeat' first | exact FzL.nil | refine FzL.cons ?_ ?_ | exact Fz.nil | (exact Fz.list rfl rfl (fun _ => by simp [AV.bd, bdL, bdL_append]) (fun _ => rfl)) | (exact Fz.reflp (by simp [AV.bd, bdL, bdL_append])) | refine Fz.rowL rfl rfl rfl ?_ | refine Fz.aggL ?_); done) | fail)
theorem awake24_fn : Fn Try.prog 9 [] (boolA true) := by
  have hb := binarize_fn exG
  rw [ex_bin] at hb
  have ht := toTreeP_fn exG exN exP
  rw [ex_toG] at ht
  have hf := fromTreeP_fn exG exN exT
  rw [ex_fromG] at hf
  have hqe := requal24_fn exN exN
  rw [decide_eq_true rfl] at hqe
  have hv := bvalid_fn exN
  rw [ex_val] at hv
  have hz := bvalid_fn ⟨0, 0, 0, []⟩
  rw [show validN ⟨0, 0, 0, []⟩ = false from rfl] at hz
  have hp0 := validParse_fn exN exP 0
  rw [ex_ok] at hp0
  have hp1 := validParse_fn exN exP 1
  rw [ex_no] at hp1
  have hy := yield24_fn exN exP 0 ex_ok (by decide)
  rw [ex_yield] at hy
  have hpr := price24_fn ex_val exP 0 ex_ok (by decide)
  rw [ex_price] at hpr
  have het := equalTree_fn exT exT
  rw [decide_eq_true rfl] at het
  have hep := equalParse_fn exP exP
  rw [decide_eq_true rfl] at hep
  refine Fn.intro rfl (by kernel_rfl) Try.func9 rfl rfl Try.ntmps9 (by exact Nat.le_of_ble_eq_true rfl) ?_; intro Γ hm
  (repeat' (first | apply jA | apply jH | (refine WP.regionC (id := 0) ?_; (refine sassign rfl ?_); apply jW) | (refine WP.regionC (id := 1) ?_; (refine sc_p rfl rfl (by first | ((repeat' (exact SubL.nil)); done) | fail) (by first | (simp [bdL, bdL_append, AV.bd]; done) | fail) (example24_fn) ?_); (refine smove rfl ?_); (refine su (aextract rfl rfl) ?_); (refine su (aextract rfl rfl) ?_); (refine se_alloc rfl ?_); (refine se_alloc rfl ?_); (refine se_store_b rfl rfl rfl rfl ?_); (refine se_store_b rfl rfl rfl rfl ?_); apply jW) | (refine WP.regionC (id := 2) ?_; (refine sloadpw rfl rfl rfl rfl ?_); (refine sc_p rfl rfl (by first | ((repeat' first | exact SubL.nil | refine SubL.cons ?_ ?_ | exact Sub.refl); done) | fail) (by first | (simp [bdL, bdL_append, AV.bd]; done) | fail) (hb) ?_); (refine smove rfl ?_); (refine su (aextract rfl rfl) ?_); (refine su (aextract rfl rfl) ?_); (refine se_alloc rfl ?_); (refine se_store_b rfl rfl rfl rfl ?_); (refine sassign rfl ?_); apply jW) | (refine WP.regionC (id := 3) ?_; (refine su (ap_build (RqP.cons (rq_p rfl rfl) (RqP.nil)) rfl) ?_); (refine su (ap_build (RqP.cons (rq_p rfl rfl) (RqP.nil)) rfl) ?_); (refine su (ap_build (RqP.cons (rq_p rfl rfl) (RqP.nil)) rfl) ?_); (refine se_lit (OpP.cons rfl (OpP.cons rfl (OpP.nil))) rfl rfl rfl rfl rfl rfl ?_); (refine su (ap_build (RqP.cons (rq_p rfl rfl) (RqP.cons (rq_p rfl rfl) (RqP.nil))) rfl) ?_); (refine se_lit (OpP.cons rfl (OpP.cons rfl (OpP.nil))) rfl rfl rfl rfl rfl rfl ?_); (refine su (ap_build (RqP.cons (rq_p rfl rfl) (RqP.cons (rq_p rfl rfl) (RqP.nil))) rfl) ?_); (refine se_alloc rfl ?_); (refine se_store_b rfl rfl rfl rfl ?_); apply jW) | (refine WP.regionC (id := 4) ?_; (refine su (ap_build (RqP.cons (rq_p rfl rfl) (RqP.nil)) rfl) ?_); (refine su (ap_build (RqP.cons (rq_p rfl rfl) (RqP.nil)) rfl) ?_); (refine su (ap_build (RqP.cons (rq_p rfl rfl) (RqP.cons (rq_p rfl rfl) (RqP.nil))) rfl) ?_); (refine se_lit (OpP.cons rfl (OpP.cons rfl (OpP.cons rfl (OpP.nil)))) rfl rfl rfl rfl rfl rfl ?_); (refine su (ap_build (RqP.cons (rq_p rfl rfl) (RqP.cons (rq_p rfl rfl) (RqP.nil))) rfl) ?_); (refine se_alloc rfl ?_); (refine se_store_b rfl rfl rfl rfl ?_); apply jW)))
  refine wp_fzO [4, 3] 5 (.agg [intA 0, .sl 2 [.agg [intA 3, .sl 2 []], .agg [intA 1, .sl 2 [.agg [intA 2, .sl 2 []], .agg [intA 4, .sl 2 []]]]]]) hm rfl rfl (by first | ((repeat' first | exact FzL.nil | refine FzL.cons ?_ ?_ | exact Fz.nil | (exact Fz.reflp (by simp [AV.bd, bdL, bdL_append])) | refine Fz.rowL rfl rfl rfl ?_ | refine Fz.aggL ?_); done) | fail) ?_
  refine wp_fzO [6] 7 (.agg [intA 0, intA 0, .sl 3 [.agg [intA (-1), intA 0, .sl 3 []], .agg [intA 1, intA 0, .sl 3 []], .agg [intA (-1), intA 1, .sl 3 []]]]) hm rfl rfl (by first | ((repeat' first | exact FzL.nil | refine FzL.cons ?_ ?_ | exact Fz.nil | (exact Fz.reflp (by simp [AV.bd, bdL, bdL_append])) | refine Fz.rowL rfl rfl rfl ?_ | refine Fz.aggL ?_); done) | fail) ?_
  refine wp_st (S 117 [(1, .ptr 0 4 0 0), (2, .ptr 1 4 0 0), (3, .ptr 2 4 0 0), (4, intA 0), (5, .ptr 3 2 0 0), (6, .ptr 4 3 0 0)] 5 [(0, some (.arr 4 [gramA exG])), (1, some (.arr 4 [nrmA exN])), (2, some (.arr 4 [nrmA exN])), (3, some (.arr 2 [prsA exP])), (4, some (.arr 3 [treA exT]))]) ⟨[0, 1, 2, 5, 7], ToR.S rfl (by repeat' (first | exact rt_nil | refine rt_t rfl rfl ?_ | refine rt_e rfl rfl ?_)) (by repeat' (first | exact ro_nil | refine ro_e rfl rfl ?_)) rfl (by (rw [hm]; exact rfl)) rfl (by (simp [bdT, AV.bd, bdL, bdL_append]; done)) (by repeat' (first | exact True.intro | exact rfl | refine And.intro ?_ ?_)) (by (rw [hm]; exact Nat.le_of_ble_eq_true rfl))⟩ ?_
  (repeat' (first | apply jA | apply jH | apply jI | apply jK | apply jM | apply jS | (refine wp_cond rfl (fun hc => ?_) (fun hc => ?_) <;> (try simp only [sB, ne_eq, reduceCtorEq] at hc) <;> (try (exfalso; omega))) | (refine WP.regionC (id := 5) ?_; (refine sloadpw rfl rfl rfl rfl ?_); (refine sloadpw rfl rfl rfl rfl ?_); (refine sloadpw rfl rfl rfl rfl ?_); (refine sc_p rfl rfl (by first | ((repeat' first | exact SubL.nil | refine SubL.cons ?_ ?_ | exact Sub.refl); done) | fail) (by first | (simp [bdL, bdL_append, AV.bd]; done) | fail) (ht) ?_); (refine smove rfl ?_); (refine su (aextract rfl rfl) ?_); (refine su (aextract rfl rfl) ?_); (refine se_alloc rfl ?_); (refine se_store_b rfl rfl rfl rfl ?_); (refine sassign rfl ?_); apply jW) | (refine WP.regionC (id := 6) ?_; (refine sloadpw rfl rfl rfl rfl ?_); (refine sloadpw rfl rfl rfl rfl ?_); (refine sloadpw rfl rfl rfl rfl ?_); (refine sc_p rfl rfl (by first | ((repeat' first | exact SubL.nil | refine SubL.cons ?_ ?_ | exact Sub.refl); done) | fail) (by first | (simp [bdL, bdL_append, AV.bd]; done) | fail) (hf) ?_); (refine smove rfl ?_); (refine su (aextract rfl rfl) ?_); (refine su (aextract rfl rfl) ?_); (refine se_alloc rfl ?_); (refine se_store_b rfl rfl rfl rfl ?_); (refine sassign rfl ?_); apply jW) | (refine WP.regionC (id := 7) ?_; (refine smove rfl ?_); (refine su (aneq rfl rfl) ?_); (refine smove rfl ?_); (refine sg (gq_vf rfl rfl) (fun he => ap_move (rq_p rfl rfl)) ?_); (refine sg (gq_vf rfl rfl) (fun he => ap_neq (rq_c rfl rfl) (rq_p rfl rfl)) ?_); (refine su (ap_or (rq_p rfl rfl) (rq_c rfl rfl)) ?_); (refine smove rfl ?_); (refine sg (gq_vf rfl rfl) (fun he => ap_move (rq_p rfl rfl)) ?_); (refine sg (gq_vf rfl rfl) (fun he => ap_neq (rq_c rfl rfl) (rq_p rfl rfl)) ?_); (refine su (ap_or (rq_p rfl rfl) (rq_c rfl rfl)) ?_); (refine smove rfl ?_); (refine sg (gq_vf rfl rfl) (fun he => ap_load_pw (rq_p rfl rfl) rfl rfl rfl) ?_); (refine sg (gq_vf rfl rfl) (fun he => ap_load_pw (rq_p rfl rfl) rfl rfl rfl) ?_); (refine sg_p (gq_vf rfl rfl) (fun he => ⟨(rq_p rfl rfl), (RqL.cons (rq_c rfl rfl) (RqL.cons (rq_c rfl rfl) (RqL.nil))), (by first | ((repeat' first | exact SubL.nil | refine SubL.cons ?_ ?_ | exact Sub.refl); done) | fail), (by first | (simp [bdL, bdL_append, AV.bd]; done) | fail), hqe⟩) ?_); (refine sg (gq_vf rfl rfl) (fun he => ap_not (rq_c rfl rfl)) ?_); (refine su (ap_or (rq_p rfl rfl) (rq_c rfl rfl)) ?_); (refine smove rfl ?_); (refine sg (gq_vf rfl rfl) (fun he => ap_load_pw (rq_p rfl rfl) rfl rfl rfl) ?_); (refine sg_p (gq_vf rfl rfl) (fun he => ⟨(rq_p rfl rfl), (RqL.cons (rq_c rfl rfl) (RqL.nil)), (by first | ((repeat' first | exact SubL.nil | refine SubL.cons ?_ ?_ | exact Sub.refl); done) | fail), (by first | (simp [bdL, bdL_append, AV.bd]; done) | fail), hv⟩) ?_); (refine sg (gq_vf rfl rfl) (fun he => ap_not (rq_c rfl rfl)) ?_); (refine su (ap_or (rq_p rfl rfl) (rq_c rfl rfl)) ?_); (refine smove rfl ?_); (refine sg (gq_vf rfl rfl) (fun he => ap_build (RqP.nil) rfl) ?_); (refine sg_p (gq_vf rfl rfl) (fun he => ⟨(rq_p rfl rfl), (RqL.cons (rq_c rfl rfl) (RqL.nil)), (by first | ((repeat' first | exact SubL.nil | refine SubL.cons ?_ ?_ | exact Sub.refl | exact Sub.nil | refine Sub.aggL ?_); done) | fail), (by first | (simp [bdL, bdL_append, AV.bd]; done) | fail), hz⟩) ?_); (refine su (ap_or (rq_p rfl rfl) (rq_c rfl rfl)) ?_); (refine smove rfl ?_); (refine sg (gq_vf rfl rfl) (fun he => ap_load_pw (rq_p rfl rfl) rfl rfl rfl) ?_); (refine sg (gq_vf rfl rfl) (fun he => ap_load_pw (rq_p rfl rfl) rfl rfl rfl) ?_); (refine sg_p (gq_vf rfl rfl) (fun he => ⟨(rq_p rfl rfl), (RqL.cons (rq_c rfl rfl) (RqL.cons (rq_p rfl rfl) (RqL.cons (rq_c rfl rfl) (RqL.nil)))), (by first | ((repeat' first | exact SubL.nil | refine SubL.cons ?_ ?_ | exact Sub.refl); done) | fail), (by first | (simp [bdL, bdL_append, AV.bd]; done) | fail), hp0⟩) ?_); (refine sg (gq_vf rfl rfl) (fun he => ap_not (rq_c rfl rfl)) ?_); (refine su (ap_or (rq_p rfl rfl) (rq_c rfl rfl)) ?_); (refine smove rfl ?_); (refine sg (gq_vf rfl rfl) (fun he => ap_load_pw (rq_p rfl rfl) rfl rfl rfl) ?_); (refine sg (gq_vf rfl rfl) (fun he => ap_load_pw (rq_p rfl rfl) rfl rfl rfl) ?_); (refine sg_p (gq_vf rfl rfl) (fun he => ⟨(rq_p rfl rfl), (RqL.cons (rq_c rfl rfl) (RqL.cons (rq_p rfl rfl) (RqL.cons (rq_c rfl rfl) (RqL.nil)))), (by first | ((repeat' first | exact SubL.nil | refine SubL.cons ?_ ?_ | exact Sub.refl); done) | fail), (by first | (simp [bdL, bdL_append, AV.bd]; done) | fail), hp1⟩) ?_); (refine su (ap_or (rq_p rfl rfl) (rq_c rfl rfl)) ?_); apply jW) | (refine WP.regionC (id := 8) ?_; (refine sassign rfl ?_); apply jW) | refine ret_b rfl ?_))
  · exfalso; simp at hc
  refine wp_st (S 117 [(2, .ptr 1 4 0 0), (5, .ptr 3 2 0 0), (6, .ptr 4 3 0 0), (7, .ptr 5 3 0 0), (9, .ptr 6 2 0 0)] 7 [(0, some (.arr 4 [gramA exG])), (1, some (.arr 4 [nrmA exN])), (2, some (.arr 4 [nrmA exN])), (3, some (.arr 2 [prsA exP])), (4, some (.arr 3 [treA exT])), (5, some (.arr 3 [treA exT])), (6, some (.arr 2 [prsA exP]))]) ⟨[0, 1, 2, 3, 4, 5, 6], ToR.S rfl (by repeat' (first | exact rt_nil | refine rt_t rfl rfl ?_)) (by repeat' (first | exact ro_nil | refine ro_e rfl rfl ?_)) rfl (by (rw [hm]; exact rfl)) rfl (by (simp [bdT, AV.bd, bdL, bdL_append]; done)) (by repeat' (first | exact True.intro | exact rfl | refine And.intro ?_ ?_)) (by (rw [hm]; exact Nat.le_of_ble_eq_true rfl))⟩ ?_
  (repeat' (first | apply jA | apply jH | apply jK | apply jS | (refine WP.regionC (id := 9) ?_; (refine sloadpw rfl rfl rfl rfl ?_); (refine sloadpw rfl rfl rfl rfl ?_); (refine sc_p rfl rfl (by first | ((repeat' first | exact SubL.nil | refine SubL.cons ?_ ?_ | exact Sub.refl); done) | fail) (by first | (simp [bdL, bdL_append, AV.bd]; done) | fail) (hy) ?_); (refine sassign rfl ?_); apply jW) | (refine WP.regionC (id := 10) ?_; (refine sloadpw rfl rfl rfl rfl ?_); (refine sloadpw rfl rfl rfl rfl ?_); (refine sc_p rfl rfl (by first | ((repeat' first | exact SubL.nil | refine SubL.cons ?_ ?_ | exact Sub.refl); done) | fail) (by first | (simp [bdL, bdL_append, AV.bd]; done) | fail) (het) ?_); (refine smove rfl ?_); (refine sg (gq_vt rfl rfl) (fun he => ap_load_pw (rq_p rfl rfl) rfl rfl rfl) ?_); (refine sg (gq_vt rfl rfl) (fun he => ap_load_pw (rq_p rfl rfl) rfl rfl rfl) ?_); (refine sg_p (gq_vt rfl rfl) (fun he => ⟨(rq_p rfl rfl), (RqL.cons (rq_c rfl rfl) (RqL.cons (rq_c rfl rfl) (RqL.nil))), (by first | ((repeat' first | exact SubL.nil | refine SubL.cons ?_ ?_ | exact Sub.refl); done) | fail), (by first | (simp [bdL, bdL_append, AV.bd]; done) | fail), hep⟩) ?_); (refine su (ap_and (rq_p rfl rfl) (rq_c rfl rfl)) ?_); (refine smove rfl ?_); (refine sg (gq_vt rfl rfl) (fun he => ap_move (rq_p rfl rfl)) ?_); (refine sg (gq_vt rfl rfl) (fun he => ap_len_m rfl (rq_c rfl rfl)) ?_); (refine sg (gq_vt rfl rfl) (fun he => ap_eql (rq_c rfl rfl) (rq_p rfl rfl)) ?_); (refine su (ap_and (rq_p rfl rfl) (rq_c rfl rfl)) ?_); (refine smove rfl ?_); (refine sg (gq_vt rfl rfl) (fun he => ap_move (rq_p rfl rfl)) ?_); (refine sg (gq_vt rfl rfl) (fun he => ap_idx_n (rq_c rfl rfl) (rq_p rfl rfl) (by (try simp only [sH, id, sB, ne_eq, reduceCtorEq] at he); (simp only [sL] <;> omega))) ?_); (refine sg (gq_vt rfl rfl) (fun he => ap_load_w (rq_c rfl rfl) rfl) ?_); (refine sg (gq_vt rfl rfl) (fun he => ap_eql (rq_c rfl rfl) (rq_p rfl rfl)) ?_); (refine su (ap_and (rq_p rfl rfl) (rq_c rfl rfl)) ?_); (refine smove rfl ?_); (refine sg (gq_vt rfl rfl) (fun he => ap_move (rq_p rfl rfl)) ?_); (refine sg (gq_vt rfl rfl) (fun he => ap_idx_n (rq_c rfl rfl) (rq_p rfl rfl) (by (try simp only [sH, id, sB, ne_eq, reduceCtorEq] at he); (simp only [sL] <;> omega))) ?_); (refine sg (gq_vt rfl rfl) (fun he => ap_load_w (rq_c rfl rfl) rfl) ?_); (refine sg (gq_vt rfl rfl) (fun he => ap_eql (rq_c rfl rfl) (rq_p rfl rfl)) ?_); (refine su (ap_and (rq_p rfl rfl) (rq_c rfl rfl)) ?_); (refine smove rfl ?_); (refine sg (gq_vt rfl rfl) (fun he => ap_load_pw (rq_p rfl rfl) rfl rfl rfl) ?_); (refine sg (gq_vt rfl rfl) (fun he => ap_load_pw (rq_p rfl rfl) rfl rfl rfl) ?_); (refine sg_p (gq_vt rfl rfl) (fun he => ⟨(rq_p rfl rfl), (RqL.cons (rq_c rfl rfl) (RqL.cons (rq_c rfl rfl) (RqL.nil))), (by first | ((repeat' first | exact SubL.nil | refine SubL.cons ?_ ?_ | exact Sub.refl); done) | fail), (by first | (simp [bdL, bdL_append, AV.bd]; done) | fail), hpr⟩) ?_); (refine sg (gq_vt rfl rfl) (fun he => ap_eql (rq_c rfl rfl) (rq_p rfl rfl)) ?_); (refine su (ap_and (rq_p rfl rfl) (rq_c rfl rfl)) ?_); (refine sassign rfl ?_); apply jW) | exact ret_eq rfl rfl rfl))
end Go.Lg

namespace Go.Lg
open Go.Proofs
set_option linter.unusedSimpArgs false
set_option linter.unusedVariables false
attribute [local irreducible] Ap Rq asemC WP RunD Ret Gq thenA inBlockA bodyQ noGotoA RqL RqP OpP
set_option maxHeartbeats 8000000
set_option maxRecDepth 20000
attribute [local simp] AV.cells casA
theorem binG_valid (g : Gram) : validN (binG g).1 = decide ((binG g).2 = 0) := by
  unfold binG
  split
  · rename_i hv
    split
    · rfl
    · rename_i h6
      exact nrm_valid (validG_iff.1 hv) (by omega)
  · rfl
end Go.Lg

namespace Go.Lg
mutual
theorem sizeP_sz : ∀ p : Prs, sizeP p = szP p
  | .mk _ l => by rw [sizeP, szP, sizePL_sz l]; omega
theorem sizePL_sz : ∀ l : List Prs, sizePL l = szPL l
  | [] => by rw [sizePL, szPL]; rfl
  | p :: l => by rw [sizePL, szPL, sizeP_sz p, sizePL_sz l]; omega
end
mutual
theorem sizeT_sz : ∀ p : Tre, sizeT p = szT p
  | .mk _ _ l => by rw [sizeT, szT, sizeTL_sz l]; omega
theorem sizeTL_sz : ∀ l : List Tre, sizeTL l = szTL l
  | [] => by rw [sizeTL, szTL]; rfl
  | p :: l => by rw [sizeTL, szTL, sizeT_sz p, sizeTL_sz l]; omega
end
theorem wrap_lo {x : Int} (h0 : 0 ≤ x) (h1 : x ≤ 1048577) : IntKind.wrap .i64 x = x := by
  simp only [IntKind.wrap, IntKind.signed, IntKind.bits]
  simp
  omega
mutual
theorem sizeW_small : ∀ p : Prs, szP p ≤ 1048576 → sizeW p = szP p
  | .mk _ l, h => by
    rw [szP] at h
    rw [sizeW, szP]
    have := sizeWL_small l 1 (by omega) (by omega)
    omega
theorem sizeWL_small : ∀ (l : List Prs) (n : Nat), 1 ≤ n → n + szPL l ≤ 1048577 → sizeWL l n = (n + szPL l : Nat)
  | [], n, _, _ => by rw [sizeWL, szPL, Nat.add_zero]
  | p :: l, n, h0, h => by
    rw [szPL] at h ⊢
    have h1 := sizeW_small p (by omega)
    have h2 := sizeWL_small l (n + szP p) (by omega) (by omega)
    rw [sizeWL, h1, wrap_lo (by omega) (by omega), show ((n : Int) + (szP p : Nat)) = ((n + szP p : Nat) : Int) by omega, h2, Nat.add_assoc]
end
mutual
theorem nodesW_small : ∀ p : Tre, szT p ≤ 1048576 → nodesW p = szT p
  | .mk _ _ l, h => by
    rw [szT] at h
    rw [nodesW, szT]
    have := nodesWL_small l 1 (by omega) (by omega)
    omega
theorem nodesWL_small : ∀ (l : List Tre) (n : Nat), 1 ≤ n → n + szTL l ≤ 1048577 → nodesWL l n = (n + szTL l : Nat)
  | [], n, _, _ => by rw [nodesWL, szTL, Nat.add_zero]
  | p :: l, n, h0, h => by
    rw [szTL] at h ⊢
    have h1 := nodesW_small p (by omega)
    have h2 := nodesWL_small l (n + szT p) (by omega) (by omega)
    rw [nodesWL, h1, wrap_lo (by omega) (by omega), show ((n : Int) + (szT p : Nat)) = ((n + szT p : Nat) : Int) by omega, h2, Nat.add_assoc]
end
section
variable {g : Gram}
theorem szT_pos (t : Tre) : 1 ≤ szT t := by rw [szT_eq]; omega
theorem szP_pos (t : Prs) : 1 ≤ szP t := by rw [szP_eq]; omega
theorem chainP_sz : ∀ (l : List Prs) (a : Int), szP (chainP a l) + 1 ≤ szPL l + l.length + 2 ∧ (2 ≤ l.length → szPL l + 1 ≤ szP (chainP a l))
  | [], a => by rw [show chainP a [] = .mk a [] from rfl]; simp [szP, szPL]
  | [x], a => by rw [show chainP a [x] = .mk a [x] from rfl]; simp [szP, szPL]; omega
  | [x, y], a => by rw [show chainP a [x, y] = .mk a [x, y] from rfl]; simp [szP, szPL]; omega
  | x :: y :: z :: l, a => by
    have h := chainP_sz (y :: z :: l) (a + 1)
    rw [chainP, szP, szPL, szPL, szPL, szPL]
    simp only [szPL, List.length_cons] at h ⊢
    have := h.2 (by omega)
    omega
  termination_by l => l.length
theorem sum_sz : ∀ (l : List Prs) (ts : List Tre), l.length = ts.length → (∀ i, i < l.length → szP (nth l i) + 1 ≤ 2 * szT (nth ts i) ∧ szT (nth ts i) ≤ 2 * szP (nth l i)) → szPL l + l.length ≤ 2 * szTL ts ∧ szTL ts ≤ 2 * szPL l
  | [], [], _, _ => by simp [szPL, szTL]
  | [], _ :: _, h, _ => by simp at h
  | _ :: _, [], h, _ => by simp at h
  | p :: l, t :: ts, h, hb => by
    have h1 := hb 0 (by simp)
    have h2 := sum_sz l ts (by simpa using h) fun i hi => hb (i + 1) (by simpa using hi)
    rw [szPL, szTL, List.length_cons]
    have e1 : nth (p :: l) 0 = p := rfl
    have e2 : nth (t :: ts) 0 = t := rfl
    rw [e1, e2] at h1
    omega
theorem body_cases (b : List Int) : (∃ x, b = [x]) ∨ b.length ≠ 1 := by
  match b with
  | [x] => exact .inl ⟨x, rfl⟩
  | [] => exact .inr (by simp)
  | _ :: _ :: _ => exact .inr (by simp)
theorem fromTF_one {k : Nat} {t : Tre} {x : Int} (h : bodyAt g t.rule = [x]) : fromTF g (k + 1) t = if 0 ≤ x then .mk (posN g.rules t.rule.toNat) [] else .mk (posN g.rules t.rule.toNat) [fromTF g k (nth t.kids 0)] := by
  rw [fromTF, h]
theorem fromTF_many {k : Nat} {t : Tre} (h : (bodyAt g t.rule).length ≠ 1) : fromTF g (k + 1) t = chainP (posN g.rules t.rule.toNat) ((List.range (bodyAt g t.rule).length).map fun i => if 0 ≤ nth (bodyAt g t.rule) i then termP g (nth (bodyAt g t.rule) i) else fromTF g k (nth t.kids i)) := by
  rw [fromTF]
  generalize bodyAt g t.rule = b at *
  match b, h with
  | [], _ => rfl
  | x :: y :: l, _ => rfl
theorem fromTF_fuel : ∀ (k k' : Nat) (t : Tre) (x : Int), szT t ≤ k → szT t ≤ k' → x < 0 → okT g x t = true → fromTF g k t = fromTF g k' t := by
  intro k
  induction k with
  | zero => intro k' t x h; have := szT_pos t; omega
  | succ k ih =>
    intro k' t x h h' hx hok
    cases k' with
    | zero => have := szT_pos t; omega
    | succ k' =>
      have hT := (okT_in hx).1 hok
      have hkid : ∀ i, i < (bodyAt g t.rule).length → ¬ 0 ≤ nth (bodyAt g t.rule) i → fromTF g k (nth t.kids i) = fromTF g k' (nth t.kids i) := fun i hi hn => by
        have hi' : i < t.kids.length := by rw [hT.len]; exact hi
        have hs := szT_kid (nth_mem hi')
        exact ih k' _ _ (by omega) (by omega) (Int.not_le.1 hn) (hT.kid i hi')
      rcases body_cases (bodyAt g t.rule) with ⟨y, hy⟩ | hy
      · rw [fromTF_one hy, fromTF_one hy]
        split
        · rfl
        · rename_i h0
          rw [hkid 0 (by rw [hy]; simp) (by rw [hy]; exact h0)]
      · rw [fromTF_many hy, fromTF_many hy]
        congr 1
        refine List.map_congr_left fun i hi => ?_
        split
        · rfl
        · rename_i h0
          exact hkid i (List.mem_range.1 hi) h0
theorem from_sz : ∀ (k : Nat) (t : Tre) (x : Int), szT t ≤ k → x < 0 → okT g x t = true → szP (fromTF g k t) + 1 ≤ 2 * szT t ∧ szT t ≤ 2 * szP (fromTF g k t) := by
  intro k
  induction k with
  | zero => intro t x h; have := szT_pos t; omega
  | succ k ih =>
    intro t x h hx hok
    have hT := (okT_in hx).1 hok
    have hl : t.kids.length = (bodyAt g t.rule).length := hT.len
    have hkid : ∀ i, i < t.kids.length → ¬ 0 ≤ nth (bodyAt g t.rule) i → szP (fromTF g k (nth t.kids i)) + 1 ≤ 2 * szT (nth t.kids i) ∧ szT (nth t.kids i) ≤ 2 * szP (fromTF g k (nth t.kids i)) := fun i hi hn => by
      have hs := szT_kid (nth_mem hi)
      exact ih _ _ (by omega) (Int.not_le.1 hn) (hT.kid i hi)
    have hleaf : ∀ i, i < t.kids.length → 0 ≤ nth (bodyAt g t.rule) i → szT (nth t.kids i) = 1 := fun i hi hn => by
      rw [(okT_leaf hn).1 (hT.kid i hi)]; simp [leafT, szT, szTL]
    rw [szT_eq t]
    rcases body_cases (bodyAt g t.rule) with ⟨y, hy⟩ | hy
    · rw [fromTF_one hy]
      rw [hy] at hl hkid hleaf
      obtain ⟨c, hc⟩ : ∃ c, t.kids = [c] := by
        match hq : t.kids with
        | [c] => exact ⟨c, rfl⟩
        | [] => rw [hq] at hl; simp at hl
        | _ :: _ :: _ => rw [hq] at hl; simp at hl
      rw [hc] at hkid hleaf ⊢
      have e : nth [c] 0 = c := rfl
      have e' : nth [y] 0 = y := rfl
      split
      · rename_i h0
        have := hleaf 0 (by simp) (by rw [e']; exact h0)
        rw [e] at this
        simp only [szP, szPL, szTL, this]
        omega
      · rename_i h0
        have := hkid 0 (by simp) (by rw [e']; exact h0)
        rw [e] at this
        simp only [szP, szPL, szTL, e]
        omega
    · rw [fromTF_many hy]
      have h1 := chainP_sz ((List.range (bodyAt g t.rule).length).map fun i => if 0 ≤ nth (bodyAt g t.rule) i then termP g (nth (bodyAt g t.rule) i) else fromTF g k (nth t.kids i)) (posN g.rules t.rule.toNat)
      have h2 := sum_sz ((List.range (bodyAt g t.rule).length).map fun i => if 0 ≤ nth (bodyAt g t.rule) i then termP g (nth (bodyAt g t.rule) i) else fromTF g k (nth t.kids i)) t.kids (by simp [hl]) fun i hi => by
        have hi' : i < (bodyAt g t.rule).length := by simpa using hi
        rw [nth_map_range _ hi']
        split
        · rename_i h0
          rw [hleaf i (by omega) h0]
          simp [termP, szP, szPL]
        · rename_i h0
          exact hkid i (by omega) h0
      have hle : ((List.range (bodyAt g t.rule).length).map fun i => if 0 ≤ nth (bodyAt g t.rule) i then termP g (nth (bodyAt g t.rule) i) else fromTF g k (nth t.kids i)).length = (bodyAt g t.rule).length := by simp
      generalize ((List.range (bodyAt g t.rule).length).map fun i => if 0 ≤ nth (bodyAt g t.rule) i then termP g (nth (bodyAt g t.rule) i) else fromTF g k (nth t.kids i)) = l at *
      have hp := szP_pos (chainP (posN g.rules t.rule.toNat) l)
      rcases Nat.lt_or_ge l.length 2 with h3 | h3
      · have : l = [] := List.eq_nil_of_length_eq_zero (by omega)
        subst this
        simp only [szPL] at h1 h2
        simp only [List.length_nil] at h1 h2
        omega
      · have := h1.2 h3
        omega
theorem toTF_fuel (hv : GVal g) : ∀ (k k' : Nat) (p : Prs) (h : Int), szP p ≤ k → szP p ≤ k' → h < g.nonterms.length → okP (nrmOf g) h p = true → toTF g k p = toTF g k' p := by
  intro k
  induction k with
  | zero => intro k' p h hs; have := szP_pos p; omega
  | succ k ih =>
    intro k' p h hs hs' hl hok
    cases k' with
    | zero => have := szP_pos p; omega
    | succ k' =>
      have hp := okP_in.1 hok
      obtain ⟨i, hi, hpr, hhd⟩ := low_pos hv hl hp
      have hrf := hv.rule _ (nth_mem hi)
      have hpn : p.rule.toNat = posN g.rules i := by omega
      have hlow : ∀ {x : Int}, x ∈ (nth g.rules i).body → x < 0 → -1 - x < g.nonterms.length := fun hx _ => by have := hrf.lo _ hx; omega
      rw [toTF_at hi hpr, toTF_at hi hpr]
      congr 1
      refine List.map_congr_left fun j hj => ?_
      have hj := List.mem_range.1 hj
      split
      · rfl
      · rename_i h0
        by_cases h2 : 2 ≤ (nth g.rules i).body.length
        · have hu := unr_of hv hi h2 _ 0 p h rfl (Nat.zero_le _) (by simpa using hpr) hp
          rw [Nat.sub_zero] at hu
          have hul := hu.len
          rw [Nat.sub_zero] at hul
          have h3 := hu.ok j (by omega)
          rw [Nat.zero_add, symN, if_pos (by omega)] at h3
          have h4 := hu.sz _ (nth_mem (k := j) (by omega))
          exact ih _ _ _ (by omega) (by omega) (hlow (nth_mem hj) (by omega)) h3
        · obtain ⟨kd, a, q1, q2⟩ := one_pos hi (by omega)
          have h3 := hp.len
          have h4 := hp.kid
          rw [hpn, q1] at h3 h4
          rcases q2 with ⟨hb, ek, ea⟩ | ⟨y, hb, hy, ek, ea⟩ | ⟨y, hb, hy, ek, ea⟩
          · rw [hb] at hj; simp at hj
          · exfalso
            have hj0 : j = 0 := by rw [hb] at hj; simp at hj; omega
            subst hj0
            rw [hb] at h0
            exact h0 hy
          · rw [ek, ea] at h3 h4
            have hj0 : j = 0 := by rw [hb] at hj; simp at hj; omega
            subst hj0
            have h5 : 0 < p.kids.length := by rw [← h3]; simp [kidsN]
            have hun : unroll (nth g.rules i).body.length p = p.kids := by rw [hb]; rfl
            rw [hun]
            have h6 : okP (nrmOf g) (-1 - y) (nth p.kids 0) = true := h4 0 h5
            have h7 := szP_kid (nth_mem h5)
            exact ih _ _ _ (by omega) (by omega) (hlow (by rw [hb]; simp) hy) h6
structure FromW (g : Gram) (x : Int) (t : Tre) (p : Prs) : Prop where
  ok : okP (nrmOf g) (-1 - x) p = true
  yl : yieldP (nrmOf g) p = leavesT t
  pr : priceP (nrmOf g) p = priceT g t
  back : toTF g (szP p) p = t
  sz : szP p ≤ 2 * szT t
structure ToW (g : Gram) (h : Int) (p : Prs) (t : Tre) : Prop where
  ok : okT g (-1 - h) t = true
  yl : leavesT t = yieldP (nrmOf g) p
  pr : priceT g t = priceP (nrmOf g) p
  back : fromTF g (szT t) t = p
  sz : szT t ≤ 2 * szP p
  r0 : 0 ≤ t.rule
  rn : t.rule < g.rules.length
  hd : (nth g.rules t.rule.toNat).head = h
  h0 : 0 ≤ h
theorem to_whole (hv : GVal g) {p : Prs} {h : Int} (hl : h < g.nonterms.length) (hok : okP (nrmOf g) h p = true) : ToW g h p (toTF g (szP p) p) := by
  have hp := okP_in.1 hok
  obtain ⟨i, hi, hpr, hhd⟩ := low_pos hv hl hp
  have hh0 := (hv.rule _ (nth_mem hi)).h0
  have hK := toTF_fuel hv (szP p) (max (szP p) (szT (toTF g (szP p) p))) p h (Nat.le_refl _) (Nat.le_max_left _ _) hl hok
  obtain ⟨q1, q2⟩ := to_all hv (max (szP p) (szT (toTF g (szP p) p))) p h (Nat.le_max_left _ _) hl hok
  rw [← hK] at q1 q2
  have hx : -1 - h < 0 := by omega
  have hF := from_all hv (max (szP p) (szT (toTF g (szP p) p))) _ _ (Nat.le_max_right _ _) hx q1
  obtain ⟨r1, r2, r3, r4⟩ := hF
  rw [q2] at r2 r3
  have hs := from_sz _ _ _ (Nat.le_max_right (szP p) _) hx q1
  rw [q2] at hs
  have hT := (okT_in hx).1 q1
  have h1 := hT.r0
  have h2 := hT.rn
  have h3 := hT.hd
  exact ⟨q1, r2.symm, r3.symm, by rw [fromTF_fuel _ _ _ _ (Nat.le_refl _) (Nat.le_max_right (szP p) _) hx q1]; exact q2, by omega, h1, by omega, by omega, by omega⟩
end
end Go.Lg

namespace Go.Lg
open Go.Proofs
set_option linter.unusedSimpArgs false
set_option linter.unusedVariables false
attribute [local irreducible] Ap Rq asemC WP RunD Ret Gq thenA inBlockA bodyQ noGotoA RqL RqP OpP
set_option maxHeartbeats 8000000
set_option maxRecDepth 20000
attribute [local simp] AV.cells casA
structure FairT (x : Cas) : Prop where
  val : GVal x.g
  n : (fairG x).1 = nrmOf x.g
  mat : matG x.g (nrmOf x.g) = true
  tm : x.g.terms.length ≤ 6
  nt : x.g.nonterms.length ≤ 8
  rl : x.g.rules.length ≤ 16
  t : szT x.t ≤ 200
  p : szP x.p ≤ 300
theorem fair_true {x : Cas} (hsz : szT x.t + szP x.p ≤ 1048576) (h : (fairG x).2 = true) : FairT x := by
  unfold fairG at h
  split at h
  · rename_i hc
    have e : fairG x = ((binG x.g).1, decide ((binG x.g).2 = 0)) := if_pos hc
    obtain ⟨h1, h2, h3⟩ := hc
    have hm : matG x.g (binG x.g).1 = true := by unfold matG; simp only at h; rw [h]; simp
    obtain ⟨hv, hn⟩ := matG_of hm
    simp only [Bool.and_eq_true, decide_eq_true_eq] at h1
    have := sizeW_small x.p (by omega)
    have := nodesW_small x.t (by omega)
    exact ⟨hv, by rw [e]; exact hn, by rw [← hn]; exact hm, h1.1.1.1, h1.1.1.2, h1.1.2, by omega, by omega⟩
  · cases h
end Go.Lg

namespace Go.Lg
open Go.Proofs
set_option linter.unusedSimpArgs false
set_option linter.unusedVariables false
attribute [local irreducible] Ap Rq asemC WP RunD Ret Gq thenA inBlockA bodyQ noGotoA RqL RqP OpP
set_option maxHeartbeats 8000000
set_option maxRecDepth 20000
attribute [local simp] AV.cells casA
theorem law_pround (x : Cas) (hsz : szT x.t + szP x.p ≤ 1048576) : Fn Try.prog 8 [casA x] (boolA true) := by
  have hf := fair_fn x
  cases hF : (fairG x).2 with
  | false =>
    rw [hF] at hf
    refine Fn.intro rfl (by kernel_rfl) Try.func8 rfl rfl Try.ntmps8 (by exact Nat.le_of_ble_eq_true rfl) ?_; intro Γ hm
    (repeat' (first | apply jA | apply jH | apply jI | apply jK | apply jM | apply jS | (refine wp_cond rfl (fun hc => ?_) (fun hc => ?_) <;> (try simp only [sB, ne_eq, reduceCtorEq] at hc) <;> (try (exfalso; omega))) | (refine WP.regionC (id := 0) ?_; (refine se_box rfl (by exact ⟨rfl, rfl⟩) ?_); (refine sassign rfl ?_); apply jW) | (refine WP.regionC (id := 1) ?_; (refine sc_p rfl rfl (by first | ((repeat' (exact SubL.nil)); done) | fail) (by first | (simp [bdL, bdL_append, AV.bd]; done) | fail) (awake24_fn) ?_); (refine su (anot rfl) ?_); apply jW) | (refine WP.regionC (id := 3) ?_; (refine sloadpw rfl rfl rfl rfl ?_); (refine sc_p rfl rfl (by first | ((repeat' first | exact SubL.nil | refine SubL.cons ?_ ?_ | exact Sub.refl); done) | fail) (by first | (simp [bdL, bdL_append, AV.bd]; done) | fail) (hf) ?_); (refine smove rfl ?_); (refine su (aextract rfl rfl) ?_); (refine su (aextract rfl rfl) ?_); (refine se_alloc rfl ?_); (refine se_store_b rfl rfl rfl rfl ?_); (refine sassign rfl ?_); apply jW) | (refine wp_draw (id := 4) 47 mixed (by kernel_rfl) (by kernel_rfl) rfl ?_ <;> (refine rmove rfl ?_) <;> (refine rd_u rfl rfl (anot rfl) ?_) <;> (refine rmove rfl ?_) <;> (refine rd_skip rfl rfl ?_) <;> (refine rd_skip rfl rfl ?_) <;> (refine rd_skip rfl rfl ?_) <;> (refine rd_skip rfl rfl ?_) <;> (refine rd_pick_t rfl rfl ?_) <;> (refine rmove rfl ?_) <;> (refine rd_skip rfl rfl ?_) <;> (refine rd_skip rfl rfl ?_) <;> (refine rd_skip rfl rfl ?_) <;> (refine rd_skip rfl rfl ?_) <;> (refine rd_skip rfl rfl ?_) <;> (refine rd_skip rfl rfl ?_) <;> (refine rd_skip rfl rfl ?_) <;> (refine rd_pick_t rfl rfl ?_) <;> (refine rmove rfl ?_) <;> (refine rd_skip rfl rfl ?_) <;> (refine rd_skip rfl rfl ?_) <;> (refine rd_skip rfl rfl ?_) <;> (refine rd_skip rfl rfl ?_) <;> (refine rd_skip rfl rfl ?_) <;> (refine rd_skip rfl rfl ?_) <;> (refine rd_skip rfl rfl ?_) <;> (refine rd_skip rfl rfl ?_) <;> (refine rd_skip rfl rfl ?_) <;> (refine rd_skip rfl rfl ?_) <;> (refine rd_skip rfl rfl ?_) <;> (refine rd_skip rfl rfl ?_) <;> (refine rd_skip rfl rfl ?_) <;> (refine rd_pick_t rfl rfl ?_) <;> (refine rmove rfl ?_) <;> (refine rd_skip rfl rfl ?_) <;> (refine rd_skip rfl rfl ?_) <;> (refine rd_skip rfl rfl ?_) <;> (refine rd_skip rfl rfl ?_) <;> (refine rd_skip rfl rfl ?_) <;> (refine rd_skip rfl rfl ?_) <;> (refine rd_skip rfl rfl ?_) <;> (refine rd_skip rfl rfl ?_) <;> (refine rd_skip rfl rfl ?_) <;> (refine rd_skip rfl rfl ?_) <;> (refine rd_skip rfl rfl ?_) <;> (refine rd_skip rfl rfl ?_) <;> (refine rd_skip rfl rfl ?_) <;> (refine rd_pick_t rfl rfl ?_) <;> (refine rd_end (by kernel_rfl) ?_)) | (refine WP.regionC (id := 5) ?_; (refine sassign rfl ?_); apply jW) | exact ret_eq rfl rfl rfl))
    all_goals ((exfalso; simp at hc; done))
  | true =>
    obtain ⟨hv, hn, hmat, htm, hnt, hrl, hzt, hzp⟩ := fair_true hsz hF
    rw [hF, hn] at hf
    have hvn : validN (nrmOf x.g) = true := by
      have := binG_valid x.g
      unfold matG at hmat
      simp only [Bool.and_eq_true, decide_eq_true_eq] at hmat
      rw [hmat.2] at this
      rw [this, hmat.1]; rfl
    have hnr : (nrmOf x.g).rules.length ≤ 600 := by
      unfold validN at hvn
      simp only [Bool.and_eq_true, decide_eq_true_eq] at hvn
      exact hvn.1.2
    by_cases hr : 0 ≤ x.p.rule ∧ x.p.rule < (nrmOf x.g).rules.length
    · obtain ⟨hr0, hr1⟩ := hr
      have hk := rvalidParse_fn (nrmOf x.g) x.p (nth (nrmOf x.g).rules x.p.rule.toNat).head
      by_cases hr2 : (nth (nrmOf x.g).rules x.p.rule.toNat).head < x.g.nonterms.length
      · cases ho : okP (nrmOf x.g) (nth (nrmOf x.g).rules x.p.rule.toNat).head x.p with
        | false =>
          rw [ho] at hk
          refine Fn.intro rfl (by kernel_rfl) Try.func8 rfl rfl Try.ntmps8 (by exact Nat.le_of_ble_eq_true rfl) ?_; intro Γ hm
          (repeat' (first | apply jA | apply jH | apply jI | apply jK | apply jM | apply jS | (refine wp_cond rfl (fun hc => ?_) (fun hc => ?_) <;> (try simp only [sB, ne_eq, reduceCtorEq] at hc) <;> (try (exfalso; omega))) | (refine WP.regionC (id := 0) ?_; (refine se_box rfl (by exact ⟨rfl, rfl⟩) ?_); (refine sassign rfl ?_); apply jW) | (refine WP.regionC (id := 1) ?_; (refine sc_p rfl rfl (by first | ((repeat' (exact SubL.nil)); done) | fail) (by first | (simp [bdL, bdL_append, AV.bd]; done) | fail) (awake24_fn) ?_); (refine su (anot rfl) ?_); apply jW) | (refine WP.regionC (id := 3) ?_; (refine sloadpw rfl rfl rfl rfl ?_); (refine sc_p rfl rfl (by first | ((repeat' first | exact SubL.nil | refine SubL.cons ?_ ?_ | exact Sub.refl); done) | fail) (by first | (simp [bdL, bdL_append, AV.bd]; done) | fail) (hf) ?_); (refine smove rfl ?_); (refine su (aextract rfl rfl) ?_); (refine su (aextract rfl rfl) ?_); (refine se_alloc rfl ?_); (refine se_store_b rfl rfl rfl rfl ?_); (refine sassign rfl ?_); apply jW) | (refine wp_draw (id := 4) 47 mixed (by kernel_rfl) (by kernel_rfl) rfl ?_ <;> (refine rmove rfl ?_) <;> (refine rd_u rfl rfl (anot rfl) ?_) <;> (refine rmove rfl ?_) <;> (refine gfieldp rfl rfl rfl rfl rfl ?_) <;> (refine gfieldp rfl rfl rfl rfl rfl ?_) <;> (refine gloadp rfl rfl rfl rfl rfl rfl ?_) <;> (refine rdg_u rfl rfl rfl rfl (alss rfl rfl) ?_) <;> (refine rd_pick_f rfl rfl ?_) <;> (refine rmove rfl ?_) <;> ((refine rd_split (t := 24) rfl (fun hc => ?_) (fun hc => ?_) <;> (try simp only [sB, ne_eq, reduceCtorEq] at hc) <;> (try (exfalso; omega)) <;> (refine gfieldp rfl rfl rfl rfl rfl ?_))) <;> (refine gfieldp rfl rfl rfl rfl rfl ?_) <;> (refine gloadp rfl rfl rfl rfl rfl rfl ?_) <;> (refine gfieldp rfl rfl rfl rfl rfl ?_) <;> (refine gloadp rfl rfl rfl rfl rfl rfl ?_) <;> (refine rdg_u rfl rfl rfl rfl (alenm rfl rfl) ?_) <;> (refine rdg_u rfl rfl rfl rfl (ageq rfl rfl) ?_) <;> (refine rd_pick_f rfl rfl ?_) <;> (refine rmove rfl ?_) <;> ((refine rd_split (t := 33) rfl (fun hc => ?_) (fun hc => ?_) <;> (try simp only [sB, ne_eq, reduceCtorEq] at hc) <;> (try (exfalso; omega)) <;> (refine gfieldp rfl rfl rfl rfl rfl ?_))) <;> (refine gloadp rfl rfl rfl rfl rfl rfl ?_) <;> (refine gfieldp rfl rfl rfl rfl rfl ?_) <;> (refine gfieldp rfl rfl rfl rfl rfl ?_) <;> (refine gloadp rfl rfl rfl rfl rfl rfl ?_) <;> (refine rdg_u rfl rfl rfl rfl (aidxz rfl rfl (by omega)) ?_) <;> (refine rdg_u rfl rfl rfl rfl (afieldi rfl rfl rfl) ?_) <;> (refine rdg_u rfl rfl rfl rfl (aloadi rfl rfl) ?_) <;> (refine gfieldp rfl rfl rfl rfl rfl ?_) <;> (refine gfieldp rfl rfl rfl rfl rfl ?_) <;> (refine gloadp rfl rfl rfl rfl rfl rfl ?_) <;> (refine rdg_u rfl rfl rfl rfl (alenm rfl rfl) ?_) <;> (refine rdg_u rfl rfl rfl rfl (ageq rfl rfl) ?_) <;> (refine rd_pick_f rfl rfl ?_) <;> (refine rmove rfl ?_) <;> ((refine rd_split (t := 48) rfl (fun hc => ?_) (fun hc => ?_) <;> (try simp only [sB, ne_eq, reduceCtorEq] at hc) <;> (try (exfalso; omega)) <;> (refine rdg_u rfl rfl rfl rfl (aloadpw rfl rfl rfl rfl) ?_))) <;> (refine gfieldp rfl rfl rfl rfl rfl ?_) <;> (refine gloadp rfl rfl rfl rfl rfl rfl ?_) <;> (refine gfieldp rfl rfl rfl rfl rfl ?_) <;> (refine gfieldp rfl rfl rfl rfl rfl ?_) <;> (refine gloadp rfl rfl rfl rfl rfl rfl ?_) <;> (refine rdg_u rfl rfl rfl rfl (aidxz rfl rfl (by omega)) ?_) <;> (refine rdg_u rfl rfl rfl rfl (afieldi rfl rfl rfl) ?_) <;> (refine rdg_u rfl rfl rfl rfl (aloadi rfl rfl) ?_) <;> (refine gfieldp rfl rfl rfl rfl rfl ?_) <;> (refine gloadp rfl rfl rfl rfl rfl rfl ?_) <;> (refine rdg_call rfl rfl rfl rfl (by first | ((repeat' first | exact SubL.nil | refine SubL.cons ?_ ?_ | exact Sub.refl); done) | fail) (by first | (simp [bdL, bdL_append, AV.bd]; done) | fail) (hk) ?_) <;> (refine rdg_u rfl rfl rfl rfl (anot rfl) ?_) <;> (refine rd_pick_f rfl rfl ?_) <;> (refine rd_end (by kernel_rfl) ?_)) | (refine WP.regionC (id := 5) ?_; (refine sassign rfl ?_); apply jW) | exact ret_eq rfl rfl rfl))
          all_goals ((exfalso; simp at hc; done))
        | true =>
          have hW := to_whole hv hr2 ho
          have h1 := toTreeP_fn x.g (nrmOf x.g) x.p
          have e1 : toTreeG x.g (nrmOf x.g) x.p = (toTF x.g (szP x.p) x.p, 0) := if_pos ⟨hmat, hr0, hr1, hr2, ho⟩
          rw [e1] at h1
          generalize toTF x.g (szP x.p) x.p = t at *
          obtain ⟨w1, w2, w3, w4, w5, w6, w7, w8, w9⟩ := hW
          have ht := tree21_fn hv t (-1 - (nth (nrmOf x.g).rules x.p.rule.toNat).head) (by omega)
          rw [w1] at ht
          have h3 := fromTreeP_fn x.g (nrmOf x.g) t
          have e3 : fromTreeG x.g (nrmOf x.g) t = (x.p, 0) := by
            rw [← w4]
            exact if_pos ⟨hmat, w6, w7, by rw [w8]; exact w1⟩
          rw [e3] at h3
          have hps := sizeP_sz x.p
          have hts := sizeT_sz t
          have h4 := ryield24_fn (nrmOf x.g) x.p _ ho (by omega)
          have h5 := leaves21_fn t (by omega)
          have h6 := rprice24_fn hvn x.p _ ho (by omega)
          have h7 := treePrice_fn hv t _ w1 (by omega)
          have h8 := same24_fn (yieldP (nrmOf x.g) x.p) (yieldP (nrmOf x.g) x.p)
          have h9 := equalParse_fn x.p x.p
          rw [decide_eq_true rfl] at h8 h9
          rw [ho] at hk
          rw [w2] at h5
          rw [w3] at h7
          simp only at h1 h3
          rw [treA_kids t] at ht h1 h3 h5 h7
          refine Fn.intro rfl (by kernel_rfl) Try.func8 rfl rfl Try.ntmps8 (by exact Nat.le_of_ble_eq_true rfl) ?_; intro Γ hm
          (repeat' (first | apply jA | apply jH | apply jI | apply jK | apply jS | (refine wp_cond rfl (fun hc => ?_) (fun hc => ?_) <;> (try simp only [sB, ne_eq, reduceCtorEq] at hc) <;> (try (exfalso; omega))) | (refine WP.regionC (id := 0) ?_; (refine se_box rfl (by exact ⟨rfl, rfl⟩) ?_); (refine sassign rfl ?_); apply jW) | (refine WP.regionC (id := 1) ?_; (refine sc_p rfl rfl (by first | ((repeat' (exact SubL.nil)); done) | fail) (by first | (simp [bdL, bdL_append, AV.bd]; done) | fail) (awake24_fn) ?_); (refine su (anot rfl) ?_); apply jW) | (refine WP.regionC (id := 3) ?_; (refine sloadpw rfl rfl rfl rfl ?_); (refine sc_p rfl rfl (by first | ((repeat' first | exact SubL.nil | refine SubL.cons ?_ ?_ | exact Sub.refl); done) | fail) (by first | (simp [bdL, bdL_append, AV.bd]; done) | fail) (hf) ?_); (refine smove rfl ?_); (refine su (aextract rfl rfl) ?_); (refine su (aextract rfl rfl) ?_); (refine se_alloc rfl ?_); (refine se_store_b rfl rfl rfl rfl ?_); (refine sassign rfl ?_); apply jW) | (refine wp_draw (id := 4) 47 mixed (by kernel_rfl) (by kernel_rfl) rfl ?_ <;> (refine rmove rfl ?_) <;> (refine rd_u rfl rfl (anot rfl) ?_) <;> (refine rmove rfl ?_) <;> (refine gfieldp rfl rfl rfl rfl rfl ?_) <;> (refine gfieldp rfl rfl rfl rfl rfl ?_) <;> (refine gloadp rfl rfl rfl rfl rfl rfl ?_) <;> (refine rdg_u rfl rfl rfl rfl (alss rfl rfl) ?_) <;> (refine rd_pick_f rfl rfl ?_) <;> (refine rmove rfl ?_) <;> ((refine rd_split (t := 24) rfl (fun hc => ?_) (fun hc => ?_) <;> (try simp only [sB, ne_eq, reduceCtorEq] at hc) <;> (try (exfalso; omega)) <;> (refine gfieldp rfl rfl rfl rfl rfl ?_))) <;> (refine gfieldp rfl rfl rfl rfl rfl ?_) <;> (refine gloadp rfl rfl rfl rfl rfl rfl ?_) <;> (refine gfieldp rfl rfl rfl rfl rfl ?_) <;> (refine gloadp rfl rfl rfl rfl rfl rfl ?_) <;> (refine rdg_u rfl rfl rfl rfl (alenm rfl rfl) ?_) <;> (refine rdg_u rfl rfl rfl rfl (ageq rfl rfl) ?_) <;> (refine rd_pick_f rfl rfl ?_) <;> (refine rmove rfl ?_) <;> ((refine rd_split (t := 33) rfl (fun hc => ?_) (fun hc => ?_) <;> (try simp only [sB, ne_eq, reduceCtorEq] at hc) <;> (try (exfalso; omega)) <;> (refine gfieldp rfl rfl rfl rfl rfl ?_))) <;> (refine gloadp rfl rfl rfl rfl rfl rfl ?_) <;> (refine gfieldp rfl rfl rfl rfl rfl ?_) <;> (refine gfieldp rfl rfl rfl rfl rfl ?_) <;> (refine gloadp rfl rfl rfl rfl rfl rfl ?_) <;> (refine rdg_u rfl rfl rfl rfl (aidxz rfl rfl (by omega)) ?_) <;> (refine rdg_u rfl rfl rfl rfl (afieldi rfl rfl rfl) ?_) <;> (refine rdg_u rfl rfl rfl rfl (aloadi rfl rfl) ?_) <;> (refine gfieldp rfl rfl rfl rfl rfl ?_) <;> (refine gfieldp rfl rfl rfl rfl rfl ?_) <;> (refine gloadp rfl rfl rfl rfl rfl rfl ?_) <;> (refine rdg_u rfl rfl rfl rfl (alenm rfl rfl) ?_) <;> (refine rdg_u rfl rfl rfl rfl (ageq rfl rfl) ?_) <;> (refine rd_pick_f rfl rfl ?_) <;> (refine rmove rfl ?_) <;> ((refine rd_split (t := 48) rfl (fun hc => ?_) (fun hc => ?_) <;> (try simp only [sB, ne_eq, reduceCtorEq] at hc) <;> (try (exfalso; omega)) <;> (refine rdg_u rfl rfl rfl rfl (aloadpw rfl rfl rfl rfl) ?_))) <;> (refine gfieldp rfl rfl rfl rfl rfl ?_) <;> (refine gloadp rfl rfl rfl rfl rfl rfl ?_) <;> (refine gfieldp rfl rfl rfl rfl rfl ?_) <;> (refine gfieldp rfl rfl rfl rfl rfl ?_) <;> (refine gloadp rfl rfl rfl rfl rfl rfl ?_) <;> (refine rdg_u rfl rfl rfl rfl (aidxz rfl rfl (by omega)) ?_) <;> (refine rdg_u rfl rfl rfl rfl (afieldi rfl rfl rfl) ?_) <;> (refine rdg_u rfl rfl rfl rfl (aloadi rfl rfl) ?_) <;> (refine gfieldp rfl rfl rfl rfl rfl ?_) <;> (refine gloadp rfl rfl rfl rfl rfl rfl ?_) <;> (refine rdg_call rfl rfl rfl rfl (by first | ((repeat' first | exact SubL.nil | refine SubL.cons ?_ ?_ | exact Sub.refl); done) | fail) (by first | (simp [bdL, bdL_append, AV.bd]; done) | fail) (hk) ?_) <;> (refine rdg_u rfl rfl rfl rfl (anot rfl) ?_) <;> (refine rd_pick_f rfl rfl ?_) <;> (refine rd_end (by kernel_rfl) ?_)) | (refine WP.regionC (id := 6) ?_; (refine sfieldp rfl rfl rfl ?_); (refine sloadp rfl rfl rfl rfl ?_); (refine sloadpw rfl rfl rfl rfl ?_); (refine sfieldp rfl rfl rfl ?_); (refine sloadp rfl rfl rfl rfl ?_); (refine sc_p rfl rfl (by first | ((repeat' first | exact SubL.nil | refine SubL.cons ?_ ?_ | exact Sub.refl); done) | fail) (by first | (simp [bdL, bdL_append, AV.bd]; done) | fail) (h1) ?_); (refine smove rfl ?_); (refine su (aextract rfl rfl) ?_); (refine su (aextract rfl rfl) ?_); (refine se_alloc rfl ?_); (refine se_store_b rfl rfl rfl rfl ?_); (refine sassign rfl ?_); apply jW) | (refine wp_draw (id := 7) 32 mixed (by kernel_rfl) (by kernel_rfl) rfl ?_ <;> (refine rmove rfl ?_) <;> (refine rd_u rfl rfl (aneq rfl rfl) ?_) <;> (refine rmove rfl ?_) <;> (refine gfieldp rfl rfl rfl rfl rfl ?_) <;> (refine gloadp rfl rfl rfl rfl rfl rfl ?_) <;> (refine rdg_u rfl rfl rfl rfl (alss rfl rfl) ?_) <;> (refine rd_pick_f rfl rfl ?_) <;> (refine rmove rfl ?_) <;> ((refine rd_split (t := 79) rfl (fun hc => ?_) (fun hc => ?_) <;> (try simp only [sB, ne_eq, reduceCtorEq] at hc) <;> (try (exfalso; omega)) <;> (refine gfieldp rfl rfl rfl rfl rfl ?_))) <;> (refine gloadp rfl rfl rfl rfl rfl rfl ?_) <;> (refine gfieldp rfl rfl rfl rfl rfl ?_) <;> (refine gfieldp rfl rfl rfl rfl rfl ?_) <;> (refine gloadp rfl rfl rfl rfl rfl rfl ?_) <;> (refine rdg_u rfl rfl rfl rfl (alenm rfl rfl) ?_) <;> (refine rdg_u rfl rfl rfl rfl (ageq rfl rfl) ?_) <;> (refine rd_pick_f rfl rfl ?_) <;> (refine rmove rfl ?_) <;> ((refine rd_split (t := 88) rfl (fun hc => ?_) (fun hc => ?_) <;> (try simp only [sB, ne_eq, reduceCtorEq] at hc) <;> (try (exfalso; omega)) <;> (refine gfieldp rfl rfl rfl rfl rfl ?_))) <;> (refine gloadp rfl rfl rfl rfl rfl rfl ?_) <;> (refine gfieldp rfl rfl rfl rfl rfl ?_) <;> (refine gloadp rfl rfl rfl rfl rfl rfl ?_) <;> (refine gfieldp rfl rfl rfl rfl rfl ?_) <;> (refine gfieldp rfl rfl rfl rfl rfl ?_) <;> (refine gloadp rfl rfl rfl rfl rfl rfl ?_) <;> (refine rdg_u rfl rfl rfl rfl (aidxz rfl rfl (by omega)) ?_) <;> (refine rdg_u rfl rfl rfl rfl (afieldi rfl rfl rfl) ?_) <;> (refine rdg_u rfl rfl rfl rfl (aloadi rfl rfl) ?_) <;> (refine rdg_u rfl rfl rfl rfl (asub rfl rfl (by exact inr_i64_of (by omega))) ?_) <;> (refine rdg_u rfl rfl rfl rfl (aloadpw rfl rfl rfl rfl) ?_) <;> (refine rdg_call rfl rfl rfl rfl (by first | ((repeat' first | exact SubL.nil | refine SubL.cons ?_ ?_ | exact Sub.refl); done) | fail) (by first | (simp [bdL, bdL_append, AV.bd]; done) | fail) (ht) ?_) <;> (refine rdg_u rfl rfl rfl rfl (anot rfl) ?_) <;> (refine rd_pick_f rfl rfl ?_) <;> (refine rd_end (by kernel_rfl) ?_)) | (refine WP.regionC (id := 9) ?_; (refine sfieldp rfl rfl rfl ?_); (refine sloadp rfl rfl rfl rfl ?_); (refine sloadpw rfl rfl rfl rfl ?_); (refine sloadpw rfl rfl rfl rfl ?_); (refine sc_p rfl rfl (by first | ((repeat' first | exact SubL.nil | refine SubL.cons ?_ ?_ | exact Sub.refl); done) | fail) (by first | (simp [bdL, bdL_append, AV.bd]; done) | fail) (h3) ?_); (refine smove rfl ?_); (refine su (aextract rfl rfl) ?_); (refine su (aextract rfl rfl) ?_); (refine se_alloc rfl ?_); (refine se_store_b rfl rfl rfl rfl ?_); (refine sassign rfl ?_); apply jW) | (refine wp_draw (id := 10) 29 mixed (by kernel_rfl) (by kernel_rfl) rfl ?_ <;> (refine rmove rfl ?_) <;> (refine rd_u rfl rfl (aeql rfl rfl) ?_) <;> (refine rmove rfl ?_) <;> (refine rdg_u rfl rfl rfl rfl (aloadpw rfl rfl rfl rfl) ?_) <;> (refine gfieldp rfl rfl rfl rfl rfl ?_) <;> (refine gloadp rfl rfl rfl rfl rfl rfl ?_) <;> (refine rdg_call rfl rfl rfl rfl (by first | ((repeat' first | exact SubL.nil | refine SubL.cons ?_ ?_ | exact Sub.refl); done) | fail) (by first | (simp [bdL, bdL_append, AV.bd]; done) | fail) (h9) ?_) <;> (refine rd_pick_t rfl rfl ?_) <;> (refine rmove rfl ?_) <;> (refine rdg_u rfl rfl rfl rfl (aloadpw rfl rfl rfl rfl) ?_) <;> (refine rdg_call rfl rfl rfl rfl (by first | ((repeat' first | exact SubL.nil | refine SubL.cons ?_ ?_ | exact Sub.refl); done) | fail) (by first | (simp [bdL, bdL_append, AV.bd]; done) | fail) (h5) ?_) <;> (refine rdg_u rfl rfl rfl rfl (aloadpw rfl rfl rfl rfl) ?_) <;> (refine gfieldp rfl rfl rfl rfl rfl ?_) <;> (refine gloadp rfl rfl rfl rfl rfl rfl ?_) <;> (refine rdg_call rfl rfl rfl rfl (by first | ((repeat' first | exact SubL.nil | refine SubL.cons ?_ ?_ | exact Sub.refl); done) | fail) (by first | (simp [bdL, bdL_append, AV.bd]; done) | fail) (h4) ?_) <;> (refine rdg_call rfl rfl rfl rfl (by first | ((repeat' first | exact SubL.nil | refine SubL.cons ?_ ?_ | exact Sub.refl); done) | fail) (by first | (simp [bdL, bdL_append, AV.bd]; done) | fail) (h8) ?_) <;> (refine rd_pick_t rfl rfl ?_) <;> (refine rmove rfl ?_) <;> (refine gfieldp rfl rfl rfl rfl rfl ?_) <;> (refine gloadp rfl rfl rfl rfl rfl rfl ?_) <;> (refine rdg_u rfl rfl rfl rfl (aloadpw rfl rfl rfl rfl) ?_) <;> (refine rdg_call rfl rfl rfl rfl (by first | ((repeat' first | exact SubL.nil | refine SubL.cons ?_ ?_ | exact Sub.refl); done) | fail) (by first | (simp [bdL, bdL_append, AV.bd]; done) | fail) (h7) ?_) <;> (refine rdg_u rfl rfl rfl rfl (aloadpw rfl rfl rfl rfl) ?_) <;> (refine gfieldp rfl rfl rfl rfl rfl ?_) <;> (refine gloadp rfl rfl rfl rfl rfl rfl ?_) <;> (refine rdg_call rfl rfl rfl rfl (by first | ((repeat' first | exact SubL.nil | refine SubL.cons ?_ ?_ | exact Sub.refl); done) | fail) (by first | (simp [bdL, bdL_append, AV.bd]; done) | fail) (h6) ?_) <;> (refine rdg_u rfl rfl rfl rfl (aeql rfl rfl) ?_) <;> (refine rd_pick_t rfl rfl ?_) <;> (refine rd_u rfl rfl (aassign rfl) ?_) <;> (refine rd_end (by kernel_rfl) ?_)) | refine ret_b rfl ?_))
          all_goals (simp)
      · refine Fn.intro rfl (by kernel_rfl) Try.func8 rfl rfl Try.ntmps8 (by exact Nat.le_of_ble_eq_true rfl) ?_; intro Γ hm
        (repeat' (first | apply jA | apply jH | apply jI | apply jK | apply jM | apply jS | (refine wp_cond rfl (fun hc => ?_) (fun hc => ?_) <;> (try simp only [sB, ne_eq, reduceCtorEq] at hc) <;> (try (exfalso; omega))) | (refine WP.regionC (id := 0) ?_; (refine se_box rfl (by exact ⟨rfl, rfl⟩) ?_); (refine sassign rfl ?_); apply jW) | (refine WP.regionC (id := 1) ?_; (refine sc_p rfl rfl (by first | ((repeat' (exact SubL.nil)); done) | fail) (by first | (simp [bdL, bdL_append, AV.bd]; done) | fail) (awake24_fn) ?_); (refine su (anot rfl) ?_); apply jW) | (refine WP.regionC (id := 3) ?_; (refine sloadpw rfl rfl rfl rfl ?_); (refine sc_p rfl rfl (by first | ((repeat' first | exact SubL.nil | refine SubL.cons ?_ ?_ | exact Sub.refl); done) | fail) (by first | (simp [bdL, bdL_append, AV.bd]; done) | fail) (hf) ?_); (refine smove rfl ?_); (refine su (aextract rfl rfl) ?_); (refine su (aextract rfl rfl) ?_); (refine se_alloc rfl ?_); (refine se_store_b rfl rfl rfl rfl ?_); (refine sassign rfl ?_); apply jW) | (refine wp_draw (id := 4) 47 mixed (by kernel_rfl) (by kernel_rfl) rfl ?_ <;> (refine rmove rfl ?_) <;> (refine rd_u rfl rfl (anot rfl) ?_) <;> (refine rmove rfl ?_) <;> (refine gfieldp rfl rfl rfl rfl rfl ?_) <;> (refine gfieldp rfl rfl rfl rfl rfl ?_) <;> (refine gloadp rfl rfl rfl rfl rfl rfl ?_) <;> (refine rdg_u rfl rfl rfl rfl (alss rfl rfl) ?_) <;> (refine rd_pick_f rfl rfl ?_) <;> (refine rmove rfl ?_) <;> ((refine rd_split (t := 24) rfl (fun hc => ?_) (fun hc => ?_) <;> (try simp only [sB, ne_eq, reduceCtorEq] at hc) <;> (try (exfalso; omega)) <;> (refine gfieldp rfl rfl rfl rfl rfl ?_))) <;> (refine gfieldp rfl rfl rfl rfl rfl ?_) <;> (refine gloadp rfl rfl rfl rfl rfl rfl ?_) <;> (refine gfieldp rfl rfl rfl rfl rfl ?_) <;> (refine gloadp rfl rfl rfl rfl rfl rfl ?_) <;> (refine rdg_u rfl rfl rfl rfl (alenm rfl rfl) ?_) <;> (refine rdg_u rfl rfl rfl rfl (ageq rfl rfl) ?_) <;> (refine rd_pick_f rfl rfl ?_) <;> (refine rmove rfl ?_) <;> ((refine rd_split (t := 33) rfl (fun hc => ?_) (fun hc => ?_) <;> (try simp only [sB, ne_eq, reduceCtorEq] at hc) <;> (try (exfalso; omega)) <;> (refine gfieldp rfl rfl rfl rfl rfl ?_))) <;> (refine gloadp rfl rfl rfl rfl rfl rfl ?_) <;> (refine gfieldp rfl rfl rfl rfl rfl ?_) <;> (refine gfieldp rfl rfl rfl rfl rfl ?_) <;> (refine gloadp rfl rfl rfl rfl rfl rfl ?_) <;> (refine rdg_u rfl rfl rfl rfl (aidxz rfl rfl (by omega)) ?_) <;> (refine rdg_u rfl rfl rfl rfl (afieldi rfl rfl rfl) ?_) <;> (refine rdg_u rfl rfl rfl rfl (aloadi rfl rfl) ?_) <;> (refine gfieldp rfl rfl rfl rfl rfl ?_) <;> (refine gfieldp rfl rfl rfl rfl rfl ?_) <;> (refine gloadp rfl rfl rfl rfl rfl rfl ?_) <;> (refine rdg_u rfl rfl rfl rfl (alenm rfl rfl) ?_) <;> (refine rdg_u rfl rfl rfl rfl (ageq rfl rfl) ?_) <;> (refine rd_pick_f rfl rfl ?_) <;> (refine rmove rfl ?_) <;> ((refine rd_split (t := 48) rfl (fun hc => ?_) (fun hc => ?_) <;> (try simp only [sB, ne_eq, reduceCtorEq] at hc) <;> (try (exfalso; omega)) <;> (refine rd_skip rfl rfl ?_))) <;> (refine rd_skip rfl rfl ?_) <;> (refine rd_skip rfl rfl ?_) <;> (refine rd_skip rfl rfl ?_) <;> (refine rd_skip rfl rfl ?_) <;> (refine rd_skip rfl rfl ?_) <;> (refine rd_skip rfl rfl ?_) <;> (refine rd_skip rfl rfl ?_) <;> (refine rd_skip rfl rfl ?_) <;> (refine rd_skip rfl rfl ?_) <;> (refine rd_skip rfl rfl ?_) <;> (refine rd_skip rfl rfl ?_) <;> (refine rd_skip rfl rfl ?_) <;> (refine rd_pick_t rfl rfl ?_) <;> (refine rd_end (by kernel_rfl) ?_)) | (refine WP.regionC (id := 5) ?_; (refine sassign rfl ?_); apply jW) | exact ret_eq rfl rfl rfl))
        all_goals (rfl)
    · refine Fn.intro rfl (by kernel_rfl) Try.func8 rfl rfl Try.ntmps8 (by exact Nat.le_of_ble_eq_true rfl) ?_; intro Γ hm
      (repeat' (first | apply jA | apply jH | apply jI | apply jK | apply jM | apply jS | (refine wp_cond rfl (fun hc => ?_) (fun hc => ?_) <;> (try simp only [sB, ne_eq, reduceCtorEq] at hc) <;> (try (exfalso; omega))) | (refine WP.regionC (id := 0) ?_; (refine se_box rfl (by exact ⟨rfl, rfl⟩) ?_); (refine sassign rfl ?_); apply jW) | (refine WP.regionC (id := 1) ?_; (refine sc_p rfl rfl (by first | ((repeat' (exact SubL.nil)); done) | fail) (by first | (simp [bdL, bdL_append, AV.bd]; done) | fail) (awake24_fn) ?_); (refine su (anot rfl) ?_); apply jW) | (refine WP.regionC (id := 3) ?_; (refine sloadpw rfl rfl rfl rfl ?_); (refine sc_p rfl rfl (by first | ((repeat' first | exact SubL.nil | refine SubL.cons ?_ ?_ | exact Sub.refl); done) | fail) (by first | (simp [bdL, bdL_append, AV.bd]; done) | fail) (hf) ?_); (refine smove rfl ?_); (refine su (aextract rfl rfl) ?_); (refine su (aextract rfl rfl) ?_); (refine se_alloc rfl ?_); (refine se_store_b rfl rfl rfl rfl ?_); (refine sassign rfl ?_); apply jW) | (refine wp_draw (id := 4) 47 mixed (by kernel_rfl) (by kernel_rfl) rfl ?_ <;> (refine rmove rfl ?_) <;> (refine rd_u rfl rfl (anot rfl) ?_) <;> (refine rmove rfl ?_) <;> (refine gfieldp rfl rfl rfl rfl rfl ?_) <;> (refine gfieldp rfl rfl rfl rfl rfl ?_) <;> (refine gloadp rfl rfl rfl rfl rfl rfl ?_) <;> (refine rdg_u rfl rfl rfl rfl (alss rfl rfl) ?_) <;> (refine rd_pick_f rfl rfl ?_) <;> (refine rmove rfl ?_) <;> ((refine rd_split (t := 24) rfl (fun hc => ?_) (fun hc => ?_) <;> (try simp only [sB, ne_eq, reduceCtorEq] at hc) <;> (try (exfalso; omega)) <;> (first | refine rd_skip rfl rfl ?_ | refine gfieldp rfl rfl rfl rfl rfl ?_))) <;> (first | refine rd_skip rfl rfl ?_ | refine gfieldp rfl rfl rfl rfl rfl ?_) <;> (first | refine rd_skip rfl rfl ?_ | refine gloadp rfl rfl rfl rfl rfl rfl ?_) <;> (first | refine rd_skip rfl rfl ?_ | refine gfieldp rfl rfl rfl rfl rfl ?_) <;> (first | refine rd_skip rfl rfl ?_ | refine gloadp rfl rfl rfl rfl rfl rfl ?_) <;> (first | refine rd_skip rfl rfl ?_ | refine rdg_u rfl rfl rfl rfl (alenm rfl rfl) ?_) <;> (first | refine rd_skip rfl rfl ?_ | refine rdg_u rfl rfl rfl rfl (ageq rfl rfl) ?_) <;> (first | refine rd_pick_t rfl rfl ?_ | refine rd_pick_f rfl rfl ?_) <;> (refine rmove rfl ?_) <;> (first | refine rd_skip rfl rfl ?_ | (refine rd_split (t := 33) rfl (fun hc => ?_) (fun hc => ?_) <;> (try simp only [sB, ne_eq, reduceCtorEq] at hc) <;> (try (exfalso; omega)) <;> (refine rd_skip rfl rfl ?_))) <;> (refine rd_skip rfl rfl ?_) <;> (refine rd_skip rfl rfl ?_) <;> (refine rd_skip rfl rfl ?_) <;> (refine rd_skip rfl rfl ?_) <;> (refine rd_skip rfl rfl ?_) <;> (refine rd_skip rfl rfl ?_) <;> (refine rd_skip rfl rfl ?_) <;> (refine rd_skip rfl rfl ?_) <;> (refine rd_skip rfl rfl ?_) <;> (refine rd_skip rfl rfl ?_) <;> (refine rd_skip rfl rfl ?_) <;> (refine rd_skip rfl rfl ?_) <;> (refine rd_pick_t rfl rfl ?_) <;> (refine rmove rfl ?_) <;> (refine rd_skip rfl rfl ?_) <;> (refine rd_skip rfl rfl ?_) <;> (refine rd_skip rfl rfl ?_) <;> (refine rd_skip rfl rfl ?_) <;> (refine rd_skip rfl rfl ?_) <;> (refine rd_skip rfl rfl ?_) <;> (refine rd_skip rfl rfl ?_) <;> (refine rd_skip rfl rfl ?_) <;> (refine rd_skip rfl rfl ?_) <;> (refine rd_skip rfl rfl ?_) <;> (refine rd_skip rfl rfl ?_) <;> (refine rd_skip rfl rfl ?_) <;> (refine rd_skip rfl rfl ?_) <;> (refine rd_pick_t rfl rfl ?_) <;> (refine rd_end (by kernel_rfl) ?_)) | (refine WP.regionC (id := 5) ?_; (refine sassign rfl ?_); apply jW) | exact ret_eq rfl rfl rfl))
      all_goals (rfl)
end Go.Lg
