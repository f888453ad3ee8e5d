/-
  Part 21 of the proof of TreeLiftCard: the logic over the model, the functions' contracts and the plain laws.
-/
import Derived.Test.YtfaoljcgigkonaaDoorTl20

set_option linter.unusedSimpArgs false
set_option linter.unusedVariables false
set_option linter.unusedSectionVars false
set_option linter.defProp false

namespace Go.Lg
open Go.Proofs
set_option linter.unusedSimpArgs false
set_option linter.unusedVariables false
attribute [local irreducible] Ap Rq asemC WP RunD Ret Gq thenA inBlockA bodyQ noGotoA RqL RqP OpP
set_option maxHeartbeats 4000000
set_option maxRecDepth 20000
attribute [local simp] AV.cells
theorem tresA_one (f tm : Int) (L : List Tre) : tresA [.mk f tm L] = .sl 3 [.agg [intA f, intA tm, .sl 3 (L.map treA)]] := by
  simp only [tresA, List.map_cons, List.map_nil, treA_eq, Tre.rule, Tre.term, Tre.kids]
theorem liftTL_take_len (fr : List Int) (l : List Tre) (i : Nat) : (liftTL fr (l.take i)).length ≤ szTL l := by
  have h1 := liftTL_len fr (l.take i)
  have h2 := szTL_take l i
  omega
theorem lift_fn (from_ : List Int) (hf : from_.length ≤ 1000) (t : Tre) : lfT from_.length t = true → szT t ≤ 1000000 → Fn Tryd.prog 50 [treA t, intsA from_] (tresA (liftT from_ t)) := by
  induction t using Tre.ind with
  | h t ih =>
    intro hlf hz
    have hle := leaf_fn t
    rw [lfT_eq] at hlf
    rw [szT_eq] at hz
    have hLL := liftTL_len from_ t.kids
    have hszk := fun (i : Nat) (hi : i < t.kids.length) => szTL_mem (nth_mem hi)
    have htk := liftTL_take_len from_ t.kids
    rw [liftT_eq]
    have het : t = .mk t.rule t.term t.kids := by cases t; rfl
    by_cases hr : t.rule = -1
    · rw [if_pos hr]
      rw [decide_eq_true hr] at hle
      rw [treA_kids] at hle ⊢
      refine Fn.intro (by simp [AV.bd, bdL, bdL_append]) (by kernel_rfl) Tryd.func50 rfl rfl Tryd.ntmps50 (by exact Nat.le_of_ble_eq_true rfl) ?_; intro Γ hm
      (repeat' (first | apply jA | apply jH | apply jK | apply jM | apply jS | (refine wp_cond rfl (fun hc => ?_) (fun hc => ?_) <;> (try simp only [sB, ne_eq, reduceCtorEq] at hc) <;> (try (exfalso; omega))) | (refine WP.regionC (id := 0) ?_; (refine se_box rfl (by exact ⟨rfl, rfl⟩) ?_); (refine sassign rfl ?_); apply jW) | (refine WP.regionC (id := 1) ?_; (refine sloadpw rfl rfl rfl rfl ?_); (refine sc_p rfl rfl (by first | ((repeat' first | exact SubL.nil | refine SubL.cons ?_ ?_ | exact Sub.refl); done) | fail) (by first | (simp [bdL, bdL_append, AV.bd]; done) | fail) (hle) ?_); apply jW) | (refine WP.regionC (id := 2) ?_; (refine sloadpw rfl rfl rfl rfl ?_); (refine se_lit (OpP.cons rfl (OpP.nil)) rfl rfl rfl rfl rfl rfl ?_); (refine sassign rfl ?_); apply jW)))
      all_goals try (exfalso; simp at hc; done)
      rw [show tresA [t] = .sl 3 [.agg [intA t.rule, intA t.term, tresA t.kids]] by simp only [tresA, List.map_cons, List.map_nil, treA_eq]]
      exact ret_1 rfl (by first | ((repeat' first | exact FzL.nil | refine FzL.cons ?_ ?_ | (exact Fz.reflp (by simp [AV.bd, bdL, bdL_append])) | refine Fz.rowL rfl rfl rfl ?_); done) | fail)
    · rw [if_neg hr]
      rw [decide_eq_false hr] at hle
      have hl2 : 0 ≤ t.rule ∧ t.rule < from_.length ∧ lfTL from_.length t.kids = true := by
        split at hlf
        · simp only [Bool.and_eq_true, decide_eq_true_eq] at hlf; exact absurd hlf.1 hr
        · simp only [Bool.and_eq_true, decide_eq_true_eq] at hlf; exact ⟨by omega, hlf.1, hlf.2⟩
      obtain ⟨hr0, hrn, hlk⟩ := hl2
      have hlk := (lfTL_iff _ _).1 hlk
      have hin := fun i (hi : i < t.kids.length) => ih _ (nth_mem hi) (hlk i hi)
      clear ih het hlf hlk
      rw [treA_kids] at hle ⊢
      generalize t.kids = kids at *
      generalize t.rule = rule at *
      generalize t.term = term at *
      clear t
      refine Fn.intro (by simp [AV.bd, bdL, bdL_append]) (by kernel_rfl) Tryd.func50 rfl rfl Tryd.ntmps50 (by exact Nat.le_of_ble_eq_true rfl) ?_; intro Γ hm
      refine wp_lens 0 rfl fun hl => ?_
      have hl : kids.length ≤ 9223372036854775807 := by have := hl; simp [AV.lens, lensL, tresA] at this; omega
      (repeat' (first | apply jA | apply jF | apply jH | apply jI | (refine wp_cond rfl (fun hc => ?_) (fun hc => ?_) <;> (try simp only [sB, ne_eq, reduceCtorEq] at hc) <;> (try (exfalso; omega))) | (refine WP.regionC (id := 0) ?_; (refine se_box rfl (by exact ⟨rfl, rfl⟩) ?_); (refine sassign rfl ?_); apply jW) | (refine WP.regionC (id := 1) ?_; (refine sloadpw rfl rfl rfl rfl ?_); (refine sc_p rfl rfl (by first | ((repeat' first | exact SubL.nil | refine SubL.cons ?_ ?_ | exact Sub.refl); done) | fail) (by first | (simp [bdL, bdL_append, AV.bd]; done) | fail) (hle) ?_); apply jW) | (refine WP.regionC (id := 3) ?_; (refine sassign rfl ?_); apply jW) | (refine WP.regionC (id := 4) ?_; (refine sfieldp rfl rfl rfl ?_); (refine sloadp rfl rfl rfl rfl ?_); (refine slenm rfl rfl ?_); (refine smove rfl ?_); apply jW)))
      all_goals try (exfalso; simp at hc; done)
      refine wp_nil 5 3 rfl ?_
      refine wp_loop (fun (i : Nat) => i ≤ kids.length) (fun i => kids.length - i)
        (fun i => (S 40 [(1, intsA from_), (2, .ptr 0 3 0 0), (5, .ref 1 3 0 (liftTL from_ (kids.take i)).length), (13, tresA kids), (14, intA (kids.length : Nat)), (15, intA (i : Nat))] 2 [(0, some (.arr 3 [.agg [intA rule, intA term, tresA kids]])), (1, some (.arr 3 ((liftTL from_ (kids.take i)).map treA)))])) 0 ⟨[0, 1], ToR.S rfl (by repeat' (first | exact rt_nil | refine rt_r rfl rfl ?_ | refine rt_t rfl rfl ?_ | refine rt_e rfl rfl ?_ | refine rt_p rfl rfl (by first | (simp [AV.bd, bdL, bdL_append]; done) | fail) ?_)) (by repeat' (first | exact ro_nil | refine ro_e rfl rfl ?_ | refine ro_p rfl (by first | exact rfl | fail) (by first | (simp [bdL, bdL_append, AV.bd]; done) | fail) ?_)) rfl (by (rw [hm]; exact rfl)) rfl (by (simp [bdT, AV.bd, bdL, bdL_append]; done)) (by repeat' (first | exact True.intro | exact rfl | refine And.intro ?_ ?_ | (simp [bdOq, bdL, bdL_append, AV.bd]; done))) (by (rw [hm]; exact Nat.le_of_ble_eq_true rfl))⟩ (Nat.zero_le _) ?_
      intro i hi
      by_cases hlt : i < kids.length
      · have hsk := hszk i hlt
        have hx := hin i hlt (by omega)
        have hn := liftTL_snoc from_ (nth kids i) (kids.take i)
        rw [← take_succ_nth hlt] at hn
        have hn2 := congrArg List.length hn
        rw [List.length_append] at hn2
        have ht1 := htk i
        have ht2 := htk (i + 1)
        (repeat' (first | apply jA | apply jF | apply jH | apply jI | apply jN | (refine wp_cond rfl (fun hc => ?_) (fun hc => ?_) <;> (try simp only [sB, ne_eq, reduceCtorEq] at hc) <;> (try (exfalso; omega))) | (refine WP.regionC (id := 5) ?_; (refine slss rfl rfl ?_); apply jW) | (refine WP.regionC (id := 6) ?_; (refine sidxn rfl rfl (by omega) ?_); (refine sloadw rfl rfl ?_); (refine se_alloc rfl ?_); (refine se_store_b rfl rfl rfl rfl ?_); apply jW) | (refine WP.regionC (id := 7) ?_; (refine smove rfl ?_); (refine sloadpw rfl rfl rfl rfl ?_); (refine smove rfl ?_); (refine sc_p rfl rfl (by first | ((repeat' first | exact SubL.nil | refine SubL.cons ?_ ?_ | exact Sub.refl); done) | fail) (by first | (simp [bdL, bdL_append, AV.bd]; done) | fail) (hx) ?_); (refine se_appL rfl rfl rfl rfl rfl rfl rfl (by omega) ?_); (refine sassign rfl ?_); apply jW) | (refine WP.regionC (id := 8) ?_; (refine sadd rfl rfl (by exact inr_i64_of (by omega)) ?_); (refine smove rfl ?_); apply jW)))
        refine ⟨i + 1, ⟨by omega, by omega⟩, ?_⟩
        rw [hn]
        exact ⟨[0, 3], ToR.S rfl (by repeat' (first | exact rt_nil | refine rt_r rfl rfl ?_ | refine rt_t rfl rfl ?_ | refine rt_e rfl rfl ?_ | refine rt_p rfl rfl (by first | (simp [AV.bd, bdL, bdL_append]; done) | fail) ?_)) (by repeat' (first | exact ro_nil | refine ro_p rfl (by first | exact rfl | fail) (by first | exact bdL_map (fun _ => by simp [AV.bd, bdL, bdL_append]) _ | (simp [bdL, bdL_append, AV.bd]; done) | fail) ?_)) rfl (by (rw [hm]; exact rfl)) rfl (by (simp [bdT, AV.bd, bdL, bdL_append]; done)) (by repeat' (first | exact True.intro | refine And.intro ?_ ?_ | exact bdL_map (fun _ => by simp [AV.bd, bdL, bdL_append]) _ | (simp [bdOq, bdL, bdL_append, AV.bd]; done))) (by (rw [hm]; exact Nat.le_of_ble_eq_true rfl))⟩
      · rw [List.take_of_length_le (by omega)]
        by_cases hfr : nth from_ rule.toNat = -1
        · rw [if_pos hfr]
          (repeat' (first | apply jA | apply jH | apply jJ | apply jK | apply jL | apply jM | apply jP | apply jS | (refine wp_cond rfl (fun hc => ?_) (fun hc => ?_) <;> (try simp only [sB, ne_eq, reduceCtorEq] at hc) <;> (try (exfalso; omega))) | (refine WP.regionC (id := 5) ?_; (refine slss rfl rfl ?_); apply jW) | (refine WP.regionC (id := 9) ?_; (refine smove rfl ?_); (refine sfieldp rfl rfl rfl ?_); (refine sloadp rfl rfl rfl rfl ?_); (refine su (aidxz rfl rfl (by omega)) ?_); (refine sloadw rfl rfl ?_); (refine seql rfl rfl ?_); apply jW) | (refine WP.regionC (id := 10) ?_; (refine smove rfl ?_); (refine sassign rfl ?_); apply jW) | refine ret_sl rfl rfl rfl (fun _ => by simp [AV.bd, bdL, bdL_append]) (fun _ => rfl) ?_))
          all_goals (rfl)
        · rw [if_neg hfr]
          (repeat' (first | apply jA | apply jH | apply jI | apply jJ | apply jK | apply jL | apply jP | apply jS | (refine wp_cond rfl (fun hc => ?_) (fun hc => ?_) <;> (try simp only [sB, ne_eq, reduceCtorEq] at hc) <;> (try (exfalso; omega))) | (refine WP.regionC (id := 5) ?_; (refine slss rfl rfl ?_); apply jW) | (refine WP.regionC (id := 9) ?_; (refine smove rfl ?_); (refine sfieldp rfl rfl rfl ?_); (refine sloadp rfl rfl rfl rfl ?_); (refine su (aidxz rfl rfl (by omega)) ?_); (refine sloadw rfl rfl ?_); (refine seql rfl rfl ?_); apply jW) | (refine WP.regionC (id := 11) ?_; (refine smove rfl ?_); (refine sfieldp rfl rfl rfl ?_); (refine sloadp rfl rfl rfl rfl ?_); (refine su (aidxz rfl rfl (by omega)) ?_); (refine sloadw rfl rfl ?_); (refine smove rfl ?_); (refine su (ap_build (RqP.cons (rq_p rfl rfl) (RqP.cons (rq_p rfl rfl) (RqP.nil))) rfl) ?_); (refine se_lit (OpP.cons rfl (OpP.nil)) rfl rfl rfl rfl rfl rfl ?_); (refine sassign rfl ?_); apply jW)))
          all_goals try (exfalso; omega)
          rw [tresA_one]
          exact ret_1 rfl (by first | ((repeat' first | exact FzL.nil | refine FzL.cons ?_ ?_ | (exact Fz.list rfl rfl (fun _ => by simp [AV.bd, bdL, bdL_append]) (fun _ => rfl)) | (exact Fz.reflp (by simp [AV.bd, bdL, bdL_append])) | refine Fz.rowL rfl rfl rfl ?_ | refine Fz.aggL ?_); done) | fail)
theorem lift23_fn (from_ : List Int) (hf : from_.length ≤ 1000) (hf1 : ∀ x, x ∈ from_ → -1 ≤ x) (t : Tre) : lfT from_.length t = true → szT t ≤ 1000000 → Fn Tryd.prog 52 [treA t, intsA from_] (tresA (liftT from_ t)) := by
  induction t using Tre.ind with
  | h t ih =>
    intro hlf hz
    rw [lfT_eq] at hlf
    rw [szT_eq] at hz
    have hLL := liftTL_len from_ t.kids
    have hszk := fun (i : Nat) (hi : i < t.kids.length) => szTL_mem (nth_mem hi)
    have htk := liftTL_take_len from_ t.kids
    rw [liftT_eq]
    have het : t = .mk t.rule t.term t.kids := by cases t; rfl
    by_cases hr : t.rule = -1
    · rw [if_pos hr]
      rw [treA_kids]
      refine Fn.intro (by simp [AV.bd, bdL, bdL_append]) (by kernel_rfl) Tryd.func52 rfl rfl Tryd.ntmps52 (by exact Nat.le_of_ble_eq_true rfl) ?_; intro Γ hm
      (repeat' (first | apply jA | apply jH | apply jK | apply jM | apply jS | (refine wp_cond rfl (fun hc => ?_) (fun hc => ?_) <;> (try simp only [sB, ne_eq, reduceCtorEq] at hc) <;> (try (exfalso; omega))) | (refine WP.regionC (id := 0) ?_; (refine se_box rfl (by exact ⟨rfl, rfl⟩) ?_); (refine sassign rfl ?_); apply jW) | (refine WP.regionC (id := 1) ?_; (refine sfieldp rfl rfl rfl ?_); (refine sloadp rfl rfl rfl rfl ?_); (refine seql rfl rfl ?_); apply jW) | (refine WP.regionC (id := 2) ?_; (refine sloadpw rfl rfl rfl rfl ?_); (refine se_lit (OpP.cons rfl (OpP.nil)) rfl rfl rfl rfl rfl rfl ?_); (refine sassign rfl ?_); apply jW)))
      all_goals try (exfalso; omega)
      rw [show tresA [t] = .sl 3 [.agg [intA t.rule, intA t.term, tresA t.kids]] by simp only [tresA, List.map_cons, List.map_nil, treA_eq]]
      exact ret_1 rfl (by first | ((repeat' first | exact FzL.nil | refine FzL.cons ?_ ?_ | (exact Fz.reflp (by simp [AV.bd, bdL, bdL_append])) | refine Fz.rowL rfl rfl rfl ?_); done) | fail)
    · rw [if_neg hr]
      have hl2 : 0 ≤ t.rule ∧ t.rule < from_.length ∧ lfTL from_.length t.kids = true := by
        split at hlf
        · simp only [Bool.and_eq_true, decide_eq_true_eq] at hlf; exact absurd hlf.1 hr
        · simp only [Bool.and_eq_true, decide_eq_true_eq] at hlf; exact ⟨by omega, hlf.1, hlf.2⟩
      obtain ⟨hr0, hrn, hlk⟩ := hl2
      have hlk := (lfTL_iff _ _).1 hlk
      have hin := fun i (hi : i < t.kids.length) => ih _ (nth_mem hi) (hlk i hi)
      clear ih het hlf hlk
      rw [treA_kids]
      generalize t.kids = kids at *
      generalize t.rule = rule at *
      generalize t.term = term at *
      clear t
      have hf2 := hf1 _ (nth_mem (show rule.toNat < from_.length by omega))
      refine Fn.intro (by simp [AV.bd, bdL, bdL_append]) (by kernel_rfl) Tryd.func52 rfl rfl Tryd.ntmps52 (by exact Nat.le_of_ble_eq_true rfl) ?_; intro Γ hm
      refine wp_lens 0 rfl fun hl => ?_
      have hl : kids.length ≤ 9223372036854775807 := by have := hl; simp [AV.lens, lensL, tresA] at this; omega
      (repeat' (first | apply jA | apply jF | apply jH | apply jI | (refine wp_cond rfl (fun hc => ?_) (fun hc => ?_) <;> (try simp only [sB, ne_eq, reduceCtorEq] at hc) <;> (try (exfalso; omega))) | (refine WP.regionC (id := 0) ?_; (refine se_box rfl (by exact ⟨rfl, rfl⟩) ?_); (refine sassign rfl ?_); apply jW) | (refine WP.regionC (id := 1) ?_; (refine sfieldp rfl rfl rfl ?_); (refine sloadp rfl rfl rfl rfl ?_); (refine seql rfl rfl ?_); apply jW) | (refine WP.regionC ?_; (refine sassign rfl ?_); apply jW)))
      all_goals try (exfalso; omega)
      refine wp_nil 5 3 rfl ?_
      refine wp_loop (fun (i : Nat) => i ≤ kids.length) (fun i => kids.length - i)
        (fun i => (S 43 [(1, intsA from_), (2, .ptr 0 3 0 0), (5, .ref 1 3 0 (liftTL from_ (kids.take i)).length), (6, intA (i : Nat))] 2 [(0, some (.arr 3 [.agg [intA rule, intA term, tresA kids]])), (1, some (.arr 3 ((liftTL from_ (kids.take i)).map treA)))])) 0 ⟨[0, 1], ToR.S rfl (by repeat' (first | exact rt_nil | refine rt_r rfl rfl ?_ | refine rt_t rfl rfl ?_ | refine rt_e rfl rfl ?_ | refine rt_p rfl rfl (by first | (simp [AV.bd, bdL, bdL_append]; done) | fail) ?_)) (by repeat' (first | exact ro_nil | refine ro_e rfl rfl ?_ | refine ro_p rfl (by first | exact rfl | fail) (by first | (simp [bdL, bdL_append, AV.bd]; done) | fail) ?_)) rfl (by (rw [hm]; exact rfl)) rfl (by (simp [bdT, AV.bd, bdL, bdL_append]; done)) (by repeat' (first | exact True.intro | exact rfl | refine And.intro ?_ ?_ | (simp [bdOq, bdL, bdL_append, AV.bd]; done))) (by (rw [hm]; exact Nat.le_of_ble_eq_true rfl))⟩ (Nat.zero_le _) ?_
      intro i hi
      by_cases hlt : i < kids.length
      · have hsk := hszk i hlt
        have hx := hin i hlt (by omega)
        have hn := liftTL_snoc from_ (nth kids i) (kids.take i)
        rw [← take_succ_nth hlt] at hn
        have hn2 := congrArg List.length hn
        rw [List.length_append] at hn2
        have ht1 := htk i
        have ht2 := htk (i + 1)
        (repeat' (first | apply jA | apply jF | apply jH | apply jI | apply jN | (refine wp_cond rfl (fun hc => ?_) (fun hc => ?_) <;> (try simp only [sB, ne_eq, reduceCtorEq] at hc) <;> (try (exfalso; omega))) | (refine WP.regionC (id := 5) ?_; (refine smove rfl ?_); (refine sfieldp rfl rfl rfl ?_); (refine sloadp rfl rfl rfl rfl ?_); (refine slenm rfl rfl ?_); (refine slss rfl rfl ?_); apply jW) | (refine WP.regionC (id := 7) ?_; (refine smove rfl ?_); (refine sfieldp rfl rfl rfl ?_); (refine sloadp rfl rfl rfl rfl ?_); (refine smove rfl ?_); (refine sidxn rfl rfl (by omega) ?_); (refine sloadw rfl rfl ?_); (refine smove rfl ?_); (refine sc_p rfl rfl (by first | ((repeat' first | exact SubL.nil | refine SubL.cons ?_ ?_ | exact Sub.refl); done) | fail) (by first | (simp [bdL, bdL_append, AV.bd]; done) | fail) (hx) ?_); (refine se_appL rfl rfl rfl rfl rfl rfl rfl (by omega) ?_); (refine sassign rfl ?_); apply jW) | (refine WP.regionC (id := 6) ?_; (refine smove rfl ?_); (refine sadd rfl rfl (by exact inr_i64_of (by omega)) ?_); (refine sassign rfl ?_); apply jW)))
        refine ⟨i + 1, ⟨by omega, by omega⟩, ?_⟩
        rw [hn]
        exact ⟨[0, 2], ToR.S rfl (by repeat' (first | exact rt_nil | refine rt_r rfl rfl ?_ | refine rt_t rfl rfl ?_ | refine rt_e rfl rfl ?_ | refine rt_p rfl rfl (by first | (simp [AV.bd, bdL, bdL_append]; done) | fail) ?_)) (by repeat' (first | exact ro_nil | refine ro_p rfl (by first | exact rfl | fail) (by first | exact bdL_map (fun _ => by simp [AV.bd, bdL, bdL_append]) _ | (simp [bdL, bdL_append, AV.bd]; done) | fail) ?_)) rfl (by (rw [hm]; exact rfl)) rfl (by (simp [bdT, AV.bd, bdL, bdL_append]; done)) (by repeat' (first | exact True.intro | refine And.intro ?_ ?_ | exact bdL_map (fun _ => by simp [AV.bd, bdL, bdL_append]) _ | (simp [bdOq, bdL, bdL_append, AV.bd]; done))) (by (rw [hm]; exact Nat.le_of_ble_eq_true rfl))⟩
      · rw [List.take_of_length_le (by omega)]
        by_cases hfr : nth from_ rule.toNat = -1
        · rw [if_pos hfr]
          (repeat' (first | apply jA | apply jH | apply jJ | apply jK | apply jL | apply jM | apply jP | apply jS | (refine wp_cond rfl (fun hc => ?_) (fun hc => ?_) <;> (try simp only [sB, ne_eq, reduceCtorEq] at hc) <;> (try (exfalso; omega))) | (refine WP.regionC (id := 5) ?_; (refine smove rfl ?_); (refine sfieldp rfl rfl rfl ?_); (refine sloadp rfl rfl rfl rfl ?_); (refine slenm rfl rfl ?_); (refine slss rfl rfl ?_); apply jW) | (refine WP.regionC (id := 8) ?_; (refine smove rfl ?_); (refine sfieldp rfl rfl rfl ?_); (refine sloadp rfl rfl rfl rfl ?_); (refine su (aidxz rfl rfl (by omega)) ?_); (refine sloadw rfl rfl ?_); (refine slss rfl rfl ?_); apply jW) | (refine WP.regionC (id := 9) ?_; (refine smove rfl ?_); (refine sassign rfl ?_); apply jW) | refine ret_sl rfl rfl rfl (fun _ => by simp [AV.bd, bdL, bdL_append]) (fun _ => rfl) ?_))
          all_goals (rfl)
        · rw [if_neg hfr]
          (repeat' (first | apply jA | apply jH | apply jI | apply jJ | apply jK | apply jL | apply jP | apply jS | (refine wp_cond rfl (fun hc => ?_) (fun hc => ?_) <;> (try simp only [sB, ne_eq, reduceCtorEq] at hc) <;> (try (exfalso; omega))) | (refine WP.regionC (id := 5) ?_; (refine smove rfl ?_); (refine sfieldp rfl rfl rfl ?_); (refine sloadp rfl rfl rfl rfl ?_); (refine slenm rfl rfl ?_); (refine slss rfl rfl ?_); apply jW) | (refine WP.regionC (id := 8) ?_; (refine smove rfl ?_); (refine sfieldp rfl rfl rfl ?_); (refine sloadp rfl rfl rfl rfl ?_); (refine su (aidxz rfl rfl (by omega)) ?_); (refine sloadw rfl rfl ?_); (refine slss rfl rfl ?_); apply jW) | (refine WP.regionC (id := 10) ?_; (refine smove rfl ?_); (refine sfieldp rfl rfl rfl ?_); (refine sloadp rfl rfl rfl rfl ?_); (refine su (aidxz rfl rfl (by omega)) ?_); (refine sloadw rfl rfl ?_); (refine smove rfl ?_); (refine su (ap_build (RqP.cons (rq_p rfl rfl) (RqP.cons (rq_p rfl rfl) (RqP.nil))) rfl) ?_); (refine se_lit (OpP.cons rfl (OpP.nil)) rfl rfl rfl rfl rfl rfl ?_); (refine sassign rfl ?_); apply jW)))
          all_goals try (exfalso; omega)
          rw [tresA_one]
          exact ret_1 rfl (by first | ((repeat' first | exact FzL.nil | refine FzL.cons ?_ ?_ | (exact Fz.list rfl rfl (fun _ => by simp [AV.bd, bdL, bdL_append]) (fun _ => rfl)) | (exact Fz.reflp (by simp [AV.bd, bdL, bdL_append])) | refine Fz.rowL rfl rfl rfl ?_ | refine Fz.aggL ?_); done) | fail)
theorem all_ge_no {l : List Int} {i : Nat} (hi : i < l.length) (h : nth l i < -1) : l.all (fun x => decide (-1 ≤ x)) = false := all_nth_no (f := fun x => decide (-1 ≤ x)) hi (decide_eq_false (by omega))
def liftA (x : Tre × Int) : AV := .tup [treA x.1, intA x.2]
@[simp] theorem bd_liftA (n : Nat) (x : Tre × Int) : (liftA x).bd n = true := by simp [liftA, AV.bd, bdL]
theorem liftA_z (e : Int) : liftA (zT, e) = .tup [.agg [intA 0, intA 0, .sl 3 []], intA e] := by
  simp only [liftA, zT, treA_eq, Tre.rule, Tre.term, Tre.kids, List.map_nil]
theorem tlift_fn (t : Tre) (from_ : List Int) (hf : from_.length ≤ 1000) (hz : szT t ≤ 1000000) : Fn Tryd.prog 30 [treA t, intsA from_] (liftA (liftR t from_)) := by
  have hlb := liftable_fn from_ hf t
  have hlt := lift_fn from_ hf t
  unfold liftR
  rw [treA_kids] at hlb hlt ⊢
  refine Fn.intro (by simp [AV.bd, bdL, bdL_append]) (by kernel_rfl) Tryd.func30 rfl rfl Tryd.ntmps30 (by exact Nat.le_of_ble_eq_true rfl) ?_; intro Γ hm
  (repeat' (first | apply jA | apply jF | apply jH | (refine WP.regionC (id := 0) ?_; (refine se_box rfl (by exact ⟨rfl, rfl⟩) ?_); (refine se_alloc rfl ?_); (refine sassign rfl ?_); apply jW) | (refine WP.regionC (id := 1) ?_; (refine smove rfl ?_); (refine slenm rfl rfl ?_); (refine smove rfl ?_); apply jW)))
  refine wp_loop (fun (i : Nat) => i ≤ from_.length ∧ (from_.take i).all (fun x => decide (-1 ≤ x)) = true) (fun i => from_.length - i)
    (fun i => (S 34 [(1, intsA from_), (2, .ptr 0 3 0 0), (4, .ptr 1 3 0 0), (9, intsA from_), (10, intA (from_.length : Nat)), (11, intA (i : Nat))] 2 [(0, some (.arr 3 [.agg [intA t.rule, intA t.term, tresA t.kids]])), (1, some (.arr 3 [.agg [intA 0, intA 0, .val (.slice none 0 0)]]))])) 0 ⟨[0, 1], ToR.S rfl (by repeat' (first | exact rt_nil | refine rt_t rfl rfl ?_ | refine rt_e rfl rfl ?_ | refine rt_p rfl rfl (by first | (simp [AV.bd, bdL, bdL_append]; done) | fail) ?_)) (by repeat' (first | exact ro_nil | refine ro_e rfl rfl ?_ | refine ro_p rfl (by first | exact rfl | fail) (by first | (simp [bdL, bdL_append, AV.bd]; done) | fail) ?_)) rfl (by (rw [hm]; exact rfl)) rfl (by (simp [bdT, AV.bd, bdL, bdL_append]; done)) (by repeat' (first | exact True.intro | exact rfl | refine And.intro ?_ ?_ | (simp [bdOq, bdL, bdL_append, AV.bd]; done))) (by (rw [hm]; exact Nat.le_of_ble_eq_true rfl))⟩ ⟨Nat.zero_le _, rfl⟩ ?_
  rintro i ⟨hi, hall⟩
  by_cases hlti : i < from_.length
  · (repeat' (first | apply jA | apply jF | apply jH | apply jI | apply jK | apply jM | apply jN | apply jO | apply jS | (refine wp_cond rfl (fun hc => ?_) (fun hc => ?_) <;> (try simp only [sB, ne_eq, reduceCtorEq] at hc) <;> (try (exfalso; omega))) | (refine WP.regionC (id := 2) ?_; (refine slss rfl rfl ?_); apply jW) | (refine WP.regionC (id := 3) ?_; (refine sidxn rfl rfl (by omega) ?_); (refine sloadw rfl rfl ?_); (refine sassign rfl ?_); apply jW) | (refine WP.regionC (id := 4) ?_; (refine smove rfl ?_); (refine slss rfl rfl ?_); apply jW) | (refine WP.regionC (id := 5) ?_; (refine su (ap_build (RqP.nil) rfl) ?_); (refine se_store_b rfl rfl rfl rfl ?_); (refine sassign rfl ?_); apply jW) | (refine WP.regionC (id := 6) ?_; (refine sadd rfl rfl (by exact inr_i64_of (by omega)) ?_); (refine smove rfl ?_); apply jW)))
    · rw [all_ge_no (i := i) hlti (by omega)]
      simp only [Bool.false_eq_true, if_false]
      rw [liftA_z]
      exact ret_many (.cellT rfl rfl rfl rfl (.tmp rfl .nil)) (Nat.le_of_ble_eq_true rfl) (by first | ((repeat' first | exact FzL.nil | refine FzL.cons ?_ ?_ | exact Fz.nil | (exact Fz.reflp (by simp [AV.bd, bdL, bdL_append])) | refine Fz.aggL ?_); done) | fail)
    · exact ⟨i + 1, ⟨by omega, by omega, take_all_succ hlti hall (decide_eq_true (by omega))⟩, ⟨[0, 1], ToR.S rfl (by repeat' (first | exact rt_nil | refine rt_t rfl rfl ?_ | refine rt_e rfl rfl ?_ | refine rt_p rfl rfl (by first | (simp [AV.bd, bdL, bdL_append]; done) | fail) ?_)) (by repeat' (first | exact ro_nil | refine ro_e rfl rfl ?_ | refine ro_p rfl (by first | exact rfl | fail) (by first | (simp [bdL, bdL_append, AV.bd]; done) | fail) ?_)) rfl (by (rw [hm]; exact rfl)) rfl (by (simp [bdT, AV.bd, bdL, bdL_append]; done)) (by repeat' (first | exact True.intro | exact rfl | refine And.intro ?_ ?_ | (simp [bdOq, bdL, bdL_append, AV.bd]; done))) (by (rw [hm]; exact Nat.le_of_ble_eq_true rfl))⟩⟩
  · rw [all_of_take' (by omega) hall]
    simp only [if_true]
    cases hq : lfT from_.length t with
    | false =>
      rw [hq] at hlb
      (repeat' (first | apply jA | apply jH | apply jJ | apply jK | apply jL | apply jM | apply jP | apply jS | (refine wp_cond rfl (fun hc => ?_) (fun hc => ?_) <;> (try simp only [sB, ne_eq, reduceCtorEq] at hc) <;> (try (exfalso; omega))) | (refine WP.regionC (id := 2) ?_; (refine slss rfl rfl ?_); apply jW) | (refine WP.regionC (id := 7) ?_; (refine sloadpw rfl rfl rfl rfl ?_); (refine smove rfl ?_); (refine sc_p rfl rfl (by first | ((repeat' first | exact SubL.nil | refine SubL.cons ?_ ?_ | exact Sub.refl); done) | fail) (by first | (simp [bdL, bdL_append, AV.bd]; done) | fail) (hlb) ?_); (refine su (anot rfl) ?_); apply jW) | (refine WP.regionC (id := 8) ?_; (refine su (ap_build (RqP.nil) rfl) ?_); (refine se_store_b rfl rfl rfl rfl ?_); (refine sassign rfl ?_); apply jW)))
      all_goals try (exfalso; simp at hc; done)
      simp only [Bool.false_eq_true, if_false]
      rw [liftA_z]
      exact ret_many (.cellT rfl rfl rfl rfl (.tmp rfl .nil)) (Nat.le_of_ble_eq_true rfl) (by first | ((repeat' first | exact FzL.nil | refine FzL.cons ?_ ?_ | exact Fz.nil | (exact Fz.reflp (by simp [AV.bd, bdL, bdL_append])) | refine Fz.aggL ?_); done) | fail)
    | true =>
      rw [hq] at hlb
      have hlt := hlt hq hz
      have hLn := liftT_len from_ t
      simp only [if_true]
      cases hL : liftT from_ t with
      | nil =>
        rw [hL] at hlt
        (repeat' (first | apply jA | apply jH | apply jI | apply jJ | apply jK | apply jL | apply jM | apply jP | apply jS | (refine wp_cond rfl (fun hc => ?_) (fun hc => ?_) <;> (try simp only [sB, ne_eq, reduceCtorEq] at hc) <;> (try (exfalso; omega))) | (refine WP.regionC (id := 2) ?_; (refine slss rfl rfl ?_); apply jW) | (refine WP.regionC (id := 7) ?_; (refine sloadpw rfl rfl rfl rfl ?_); (refine smove rfl ?_); (refine sc_p rfl rfl (by first | ((repeat' first | exact SubL.nil | refine SubL.cons ?_ ?_ | exact Sub.refl); done) | fail) (by first | (simp [bdL, bdL_append, AV.bd]; done) | fail) (hlb) ?_); (refine su (anot rfl) ?_); apply jW) | (refine WP.regionC (id := 9) ?_; (refine sloadpw rfl rfl rfl rfl ?_); (refine smove rfl ?_); (refine sc_p rfl rfl (by first | ((repeat' first | exact SubL.nil | refine SubL.cons ?_ ?_ | exact Sub.refl); done) | fail) (by first | (simp [bdL, bdL_append, AV.bd]; done) | fail) (hlt) ?_); (refine sassign rfl ?_); apply jW) | (refine WP.regionC (id := 10) ?_; (refine smove rfl ?_); (refine slenm rfl rfl ?_); (refine su (aneq rfl rfl) ?_); apply jW) | (refine WP.regionC (id := 11) ?_; (refine su (ap_build (RqP.nil) rfl) ?_); (refine se_store_b rfl rfl rfl rfl ?_); (refine sassign rfl ?_); apply jW)))
        all_goals try (exfalso; simp at hc; done)
        simp only
        rw [liftA_z]
        exact ret_many (.cellT rfl rfl rfl rfl (.tmp rfl .nil)) (Nat.le_of_ble_eq_true rfl) (by first | ((repeat' first | exact FzL.nil | refine FzL.cons ?_ ?_ | exact Fz.nil | (exact Fz.reflp (by simp [AV.bd, bdL, bdL_append])) | refine Fz.aggL ?_); done) | fail)
      | cons a L =>
        rw [hL] at hlt hLn
        simp only [List.length_cons] at hLn
        cases L with
        | nil =>
          (repeat' (first | apply jA | apply jH | apply jI | apply jJ | apply jK | apply jL | apply jP | apply jS | (refine wp_cond rfl (fun hc => ?_) (fun hc => ?_) <;> (try simp only [sB, ne_eq, reduceCtorEq] at hc) <;> (try (exfalso; omega))) | (refine WP.regionC (id := 2) ?_; (refine slss rfl rfl ?_); apply jW) | (refine WP.regionC (id := 7) ?_; (refine sloadpw rfl rfl rfl rfl ?_); (refine smove rfl ?_); (refine sc_p rfl rfl (by first | ((repeat' first | exact SubL.nil | refine SubL.cons ?_ ?_ | exact Sub.refl); done) | fail) (by first | (simp [bdL, bdL_append, AV.bd]; done) | fail) (hlb) ?_); (refine su (anot rfl) ?_); apply jW) | (refine WP.regionC (id := 9) ?_; (refine sloadpw rfl rfl rfl rfl ?_); (refine smove rfl ?_); (refine sc_p rfl rfl (by first | ((repeat' first | exact SubL.nil | refine SubL.cons ?_ ?_ | exact Sub.refl); done) | fail) (by first | (simp [bdL, bdL_append, AV.bd]; done) | fail) (hlt) ?_); (refine sassign rfl ?_); apply jW) | (refine WP.regionC (id := 10) ?_; (refine smove rfl ?_); (refine slenm rfl rfl ?_); (refine su (aneq rfl rfl) ?_); apply jW) | (refine WP.regionC (id := 12) ?_; (refine smove rfl ?_); (refine sidxn rfl rfl (by (simp only [sL] <;> omega)) ?_); (refine sloadw rfl rfl ?_); (refine se_store_b rfl rfl rfl rfl ?_); (refine sassign rfl ?_); apply jW)))
          all_goals try (exfalso; simp at hc; done)
          simp only [liftA]
          exact ret_many (.cellT rfl rfl rfl rfl (.tmp rfl .nil)) (Nat.le_of_ble_eq_true rfl) (by first | ((repeat' first | exact FzL.nil | refine FzL.cons ?_ ?_ | (exact Fz.reflp (by simp [AV.bd, bdL, bdL_append]))); done) | fail)
        | cons b L =>
          simp only [List.length_cons] at hLn
          (repeat' (first | apply jA | apply jH | apply jI | apply jJ | apply jK | apply jL | apply jM | apply jP | apply jS | (refine wp_cond rfl (fun hc => ?_) (fun hc => ?_) <;> (try simp only [sB, ne_eq, reduceCtorEq] at hc) <;> (try (exfalso; omega))) | (refine WP.regionC (id := 2) ?_; (refine slss rfl rfl ?_); apply jW) | (refine WP.regionC (id := 7) ?_; (refine sloadpw rfl rfl rfl rfl ?_); (refine smove rfl ?_); (refine sc_p rfl rfl (by first | ((repeat' first | exact SubL.nil | refine SubL.cons ?_ ?_ | exact Sub.refl); done) | fail) (by first | (simp [bdL, bdL_append, AV.bd]; done) | fail) (hlb) ?_); (refine su (anot rfl) ?_); apply jW) | (refine WP.regionC (id := 9) ?_; (refine sloadpw rfl rfl rfl rfl ?_); (refine smove rfl ?_); (refine sc_p rfl rfl (by first | ((repeat' first | exact SubL.nil | refine SubL.cons ?_ ?_ | exact Sub.refl); done) | fail) (by first | (simp [bdL, bdL_append, AV.bd]; done) | fail) (hlt) ?_); (refine sassign rfl ?_); apply jW) | (refine WP.regionC (id := 10) ?_; (refine smove rfl ?_); (refine slenm rfl rfl ?_); (refine su (aneq rfl rfl) ?_); apply jW) | (refine WP.regionC (id := 11) ?_; (refine su (ap_build (RqP.nil) rfl) ?_); (refine se_store_b rfl rfl rfl rfl ?_); (refine sassign rfl ?_); apply jW)))
          all_goals try (exfalso; simp at hc; omega)
          simp only
          rw [liftA_z]
          exact ret_many (.cellT rfl rfl rfl rfl (.tmp rfl .nil)) (Nat.le_of_ble_eq_true rfl) (by first | ((repeat' first | exact FzL.nil | refine FzL.cons ?_ ?_ | exact Fz.nil | (exact Fz.reflp (by simp [AV.bd, bdL, bdL_append])) | refine Fz.aggL ?_); done) | fail)
theorem tlift23_fn (t : Tre) (from_ : List Int) (hf : from_.length ≤ 1000) (hz : szT t ≤ 1000000) : Fn Tryd.prog 31 [treA t, intsA from_] (liftA (liftR t from_)) := by
  have hlb := liftable23_fn from_ hf t
  have hlt := fun h => lift23_fn from_ hf h t
  unfold liftR
  rw [treA_kids] at hlb ⊢
  simp only [treA_kids] at hlt
  refine Fn.intro (by simp [AV.bd, bdL, bdL_append]) (by kernel_rfl) Tryd.func31 rfl rfl Tryd.ntmps31 (by exact Nat.le_of_ble_eq_true rfl) ?_; intro Γ hm
  (repeat' (first | apply jA | apply jF | apply jH | (refine WP.regionC (id := 0) ?_; (refine se_box rfl (by exact ⟨rfl, rfl⟩) ?_); (refine se_alloc rfl ?_); (refine sassign rfl ?_); apply jW) | (refine WP.regionC (id := 1) ?_; (refine sassign rfl ?_); apply jW)))
  refine wp_loop (fun (i : Nat) => i ≤ from_.length ∧ (from_.take i).all (fun x => decide (-1 ≤ x)) = true) (fun i => from_.length - i)
    (fun i => (S 35 [(1, intsA from_), (2, .ptr 0 3 0 0), (4, .ptr 1 3 0 0), (6, intA (i : Nat))] 2 [(0, some (.arr 3 [.agg [intA t.rule, intA t.term, tresA t.kids]])), (1, some (.arr 3 [.agg [intA 0, intA 0, .val (.slice none 0 0)]]))])) 0 ⟨[0, 1], ToR.S rfl (by repeat' (first | exact rt_nil | refine rt_t rfl rfl ?_ | refine rt_e rfl rfl ?_ | refine rt_p rfl rfl (by first | (simp [AV.bd, bdL, bdL_append]; done) | fail) ?_)) (by repeat' (first | exact ro_nil | refine ro_e rfl rfl ?_ | refine ro_p rfl (by first | exact rfl | fail) (by first | (simp [bdL, bdL_append, AV.bd]; done) | fail) ?_)) rfl (by (rw [hm]; exact rfl)) rfl (by (simp [bdT, AV.bd, bdL, bdL_append]; done)) (by repeat' (first | exact True.intro | exact rfl | refine And.intro ?_ ?_ | (simp [bdOq, bdL, bdL_append, AV.bd]; done))) (by (rw [hm]; exact Nat.le_of_ble_eq_true rfl))⟩ ⟨Nat.zero_le _, rfl⟩ ?_
  rintro i ⟨hi, hall⟩
  by_cases hlti : i < from_.length
  · (repeat' (first | apply jA | apply jF | apply jH | apply jI | apply jK | apply jM | apply jN | apply jO | apply jS | (refine wp_cond rfl (fun hc => ?_) (fun hc => ?_) <;> (try simp only [sB, ne_eq, reduceCtorEq] at hc) <;> (try (exfalso; omega))) | (refine WP.regionC (id := 2) ?_; (refine smove rfl ?_); (refine smove rfl ?_); (refine slenm rfl rfl ?_); (refine slss rfl rfl ?_); apply jW) | (refine WP.regionC (id := 4) ?_; (refine smove rfl ?_); (refine smove rfl ?_); (refine sidxn rfl rfl (by omega) ?_); (refine sloadw rfl rfl ?_); (refine slss rfl rfl ?_); apply jW) | (refine WP.regionC (id := 5) ?_; (refine su (ap_build (RqP.nil) rfl) ?_); (refine se_store_b rfl rfl rfl rfl ?_); (refine sassign rfl ?_); apply jW) | (refine WP.regionC (id := 3) ?_; (refine smove rfl ?_); (refine sadd rfl rfl (by exact inr_i64_of (by omega)) ?_); (refine sassign rfl ?_); apply jW)))
    · rw [all_ge_no (i := i) hlti (by omega)]
      simp only [Bool.false_eq_true, if_false]
      rw [liftA_z]
      exact ret_many (.cellT rfl rfl rfl rfl (.tmp rfl .nil)) (Nat.le_of_ble_eq_true rfl) (by first | ((repeat' first | exact FzL.nil | refine FzL.cons ?_ ?_ | exact Fz.nil | (exact Fz.reflp (by simp [AV.bd, bdL, bdL_append])) | refine Fz.aggL ?_); done) | fail)
    · exact ⟨i + 1, ⟨by omega, by omega, take_all_succ hlti hall (decide_eq_true (by omega))⟩, ⟨[0, 1], ToR.S rfl (by repeat' (first | exact rt_nil | refine rt_t rfl rfl ?_ | refine rt_e rfl rfl ?_ | refine rt_p rfl rfl (by first | (simp [AV.bd, bdL, bdL_append]; done) | fail) ?_)) (by repeat' (first | exact ro_nil | refine ro_e rfl rfl ?_ | refine ro_p rfl (by first | exact rfl | fail) (by first | (simp [bdL, bdL_append, AV.bd]; done) | fail) ?_)) rfl (by (rw [hm]; exact rfl)) rfl (by (simp [bdT, AV.bd, bdL, bdL_append]; done)) (by repeat' (first | exact True.intro | exact rfl | refine And.intro ?_ ?_ | (simp [bdOq, bdL, bdL_append, AV.bd]; done))) (by (rw [hm]; exact Nat.le_of_ble_eq_true rfl))⟩⟩
  · have hfa := all_of_take' (by omega) hall
    rw [hfa]
    simp only [if_true]
    cases hq : lfT from_.length t with
    | false =>
      rw [hq] at hlb
      (repeat' (first | apply jA | apply jH | apply jJ | apply jK | apply jL | apply jM | apply jP | apply jS | (refine wp_cond rfl (fun hc => ?_) (fun hc => ?_) <;> (try simp only [sB, ne_eq, reduceCtorEq] at hc) <;> (try (exfalso; omega))) | (refine WP.regionC (id := 2) ?_; (refine smove rfl ?_); (refine smove rfl ?_); (refine slenm rfl rfl ?_); (refine slss rfl rfl ?_); apply jW) | (refine WP.regionC (id := 6) ?_; (refine sloadpw rfl rfl rfl rfl ?_); (refine smove rfl ?_); (refine sc_p rfl rfl (by first | ((repeat' first | exact SubL.nil | refine SubL.cons ?_ ?_ | exact Sub.refl); done) | fail) (by first | (simp [bdL, bdL_append, AV.bd]; done) | fail) (hlb) ?_); (refine su (anot rfl) ?_); apply jW) | (refine WP.regionC (id := 7) ?_; (refine su (ap_build (RqP.nil) rfl) ?_); (refine se_store_b rfl rfl rfl rfl ?_); (refine sassign rfl ?_); apply jW)))
      all_goals try (exfalso; simp at hc; done)
      simp only [Bool.false_eq_true, if_false]
      rw [liftA_z]
      exact ret_many (.cellT rfl rfl rfl rfl (.tmp rfl .nil)) (Nat.le_of_ble_eq_true rfl) (by first | ((repeat' first | exact FzL.nil | refine FzL.cons ?_ ?_ | exact Fz.nil | (exact Fz.reflp (by simp [AV.bd, bdL, bdL_append])) | refine Fz.aggL ?_); done) | fail)
    | true =>
      rw [hq] at hlb
      have hlt := hlt (fun x hx => by have := List.all_eq_true.1 hfa x hx; simpa using this) hq hz
      have hLn := liftT_len from_ t
      simp only [if_true]
      cases hL : liftT from_ t with
      | nil =>
        rw [hL] at hlt
        (repeat' (first | apply jA | apply jH | apply jI | apply jJ | apply jK | apply jL | apply jM | apply jP | apply jS | (refine wp_cond rfl (fun hc => ?_) (fun hc => ?_) <;> (try simp only [sB, ne_eq, reduceCtorEq] at hc) <;> (try (exfalso; omega))) | (refine WP.regionC (id := 2) ?_; (refine smove rfl ?_); (refine smove rfl ?_); (refine slenm rfl rfl ?_); (refine slss rfl rfl ?_); apply jW) | (refine WP.regionC (id := 6) ?_; (refine sloadpw rfl rfl rfl rfl ?_); (refine smove rfl ?_); (refine sc_p rfl rfl (by first | ((repeat' first | exact SubL.nil | refine SubL.cons ?_ ?_ | exact Sub.refl); done) | fail) (by first | (simp [bdL, bdL_append, AV.bd]; done) | fail) (hlb) ?_); (refine su (anot rfl) ?_); apply jW) | (refine WP.regionC (id := 8) ?_; (refine sloadpw rfl rfl rfl rfl ?_); (refine smove rfl ?_); (refine sc_p rfl rfl (by first | ((repeat' first | exact SubL.nil | refine SubL.cons ?_ ?_ | exact Sub.refl); done) | fail) (by first | (simp [bdL, bdL_append, AV.bd]; done) | fail) (hlt) ?_); (refine sassign rfl ?_); apply jW) | (refine WP.regionC (id := 9) ?_; (refine smove rfl ?_); (refine slenm rfl rfl ?_); (refine su (aneq rfl rfl) ?_); apply jW) | (refine WP.regionC (id := 10) ?_; (refine su (ap_build (RqP.nil) rfl) ?_); (refine se_store_b rfl rfl rfl rfl ?_); (refine sassign rfl ?_); apply jW)))
        all_goals try (exfalso; simp at hc; done)
        simp only
        rw [liftA_z]
        exact ret_many (.cellT rfl rfl rfl rfl (.tmp rfl .nil)) (Nat.le_of_ble_eq_true rfl) (by first | ((repeat' first | exact FzL.nil | refine FzL.cons ?_ ?_ | exact Fz.nil | (exact Fz.reflp (by simp [AV.bd, bdL, bdL_append])) | refine Fz.aggL ?_); done) | fail)
      | cons a L =>
        rw [hL] at hlt hLn
        simp only [List.length_cons] at hLn
        cases L with
        | nil =>
          (repeat' (first | apply jA | apply jH | apply jI | apply jJ | apply jK | apply jL | apply jP | apply jS | (refine wp_cond rfl (fun hc => ?_) (fun hc => ?_) <;> (try simp only [sB, ne_eq, reduceCtorEq] at hc) <;> (try (exfalso; omega))) | (refine WP.regionC (id := 2) ?_; (refine smove rfl ?_); (refine smove rfl ?_); (refine slenm rfl rfl ?_); (refine slss rfl rfl ?_); apply jW) | (refine WP.regionC (id := 6) ?_; (refine sloadpw rfl rfl rfl rfl ?_); (refine smove rfl ?_); (refine sc_p rfl rfl (by first | ((repeat' first | exact SubL.nil | refine SubL.cons ?_ ?_ | exact Sub.refl); done) | fail) (by first | (simp [bdL, bdL_append, AV.bd]; done) | fail) (hlb) ?_); (refine su (anot rfl) ?_); apply jW) | (refine WP.regionC (id := 8) ?_; (refine sloadpw rfl rfl rfl rfl ?_); (refine smove rfl ?_); (refine sc_p rfl rfl (by first | ((repeat' first | exact SubL.nil | refine SubL.cons ?_ ?_ | exact Sub.refl); done) | fail) (by first | (simp [bdL, bdL_append, AV.bd]; done) | fail) (hlt) ?_); (refine sassign rfl ?_); apply jW) | (refine WP.regionC (id := 9) ?_; (refine smove rfl ?_); (refine slenm rfl rfl ?_); (refine su (aneq rfl rfl) ?_); apply jW) | (refine WP.regionC (id := 11) ?_; (refine smove rfl ?_); (refine sidxn rfl rfl (by (simp only [sL] <;> omega)) ?_); (refine sloadw rfl rfl ?_); (refine se_store_b rfl rfl rfl rfl ?_); (refine sassign rfl ?_); apply jW)))
          all_goals try (exfalso; simp at hc; done)
          simp only [liftA]
          exact ret_many (.cellT rfl rfl rfl rfl (.tmp rfl .nil)) (Nat.le_of_ble_eq_true rfl) (by first | ((repeat' first | exact FzL.nil | refine FzL.cons ?_ ?_ | (exact Fz.reflp (by simp [AV.bd, bdL, bdL_append]))); done) | fail)
        | cons b L =>
          simp only [List.length_cons] at hLn
          (repeat' (first | apply jA | apply jH | apply jI | apply jJ | apply jK | apply jL | apply jM | apply jP | apply jS | (refine wp_cond rfl (fun hc => ?_) (fun hc => ?_) <;> (try simp only [sB, ne_eq, reduceCtorEq] at hc) <;> (try (exfalso; omega))) | (refine WP.regionC (id := 2) ?_; (refine smove rfl ?_); (refine smove rfl ?_); (refine slenm rfl rfl ?_); (refine slss rfl rfl ?_); apply jW) | (refine WP.regionC (id := 6) ?_; (refine sloadpw rfl rfl rfl rfl ?_); (refine smove rfl ?_); (refine sc_p rfl rfl (by first | ((repeat' first | exact SubL.nil | refine SubL.cons ?_ ?_ | exact Sub.refl); done) | fail) (by first | (simp [bdL, bdL_append, AV.bd]; done) | fail) (hlb) ?_); (refine su (anot rfl) ?_); apply jW) | (refine WP.regionC (id := 8) ?_; (refine sloadpw rfl rfl rfl rfl ?_); (refine smove rfl ?_); (refine sc_p rfl rfl (by first | ((repeat' first | exact SubL.nil | refine SubL.cons ?_ ?_ | exact Sub.refl); done) | fail) (by first | (simp [bdL, bdL_append, AV.bd]; done) | fail) (hlt) ?_); (refine sassign rfl ?_); apply jW) | (refine WP.regionC (id := 9) ?_; (refine smove rfl ?_); (refine slenm rfl rfl ?_); (refine su (aneq rfl rfl) ?_); apply jW) | (refine WP.regionC (id := 10) ?_; (refine su (ap_build (RqP.nil) rfl) ?_); (refine se_store_b rfl rfl rfl rfl ?_); (refine sassign rfl ?_); apply jW)))
          all_goals try (exfalso; simp at hc; omega)
          simp only
          rw [liftA_z]
          exact ret_many (.cellT rfl rfl rfl rfl (.tmp rfl .nil)) (Nat.le_of_ble_eq_true rfl) (by first | ((repeat' first | exact FzL.nil | refine FzL.cons ?_ ?_ | exact Fz.nil | (exact Fz.reflp (by simp [AV.bd, bdL, bdL_append])) | refine Fz.aggL ?_); done) | fail)
end Go.Lg

namespace Go.Lg
open Go.Proofs
set_option linter.unusedSimpArgs false
set_option linter.unusedVariables false
attribute [local irreducible] Ap Rq asemC WP RunD Ret Gq thenA inBlockA bodyQ noGotoA RqL RqP OpP
set_option maxHeartbeats 1000000
end Go.Lg

namespace Go.Lg
open Go.Proofs
set_option linter.unusedSimpArgs false
set_option linter.unusedVariables false
attribute [local irreducible] Ap Rq asemC WP RunD Ret Gq thenA inBlockA bodyQ noGotoA RqL RqP OpP
set_option maxHeartbeats 4000000
def UnderP (g : Gram) (out : List Bool) : Prop := out.length = g.nonterms.length ∧ ∀ S : List Bool, S.length = g.nonterms.length → leB (stepP g S) S → leB out S
theorem UnderP.nob (g : Gram) : UnderP g (nob g.nonterms.length) := ⟨nob_len _, fun S hS _ => nob_le hS⟩
theorem UnderP.set {g : Gram} {out : List Bool} (hv : GVal g) (h : UnderP g out) {r : Rul} (hr : r ∈ g.rules) (hb : r.body.all (okSym out) = true) : UnderP g (out.set r.head.toNat true) := by
  refine ⟨by simp [h.1], fun S hS hc => leB_set (h.2 S hS hc) ?_⟩
  refine stepP_closes hc hr (hv.rule r hr).h0 (by rw [hS]; exact (hv.rule r hr).hn) ?_
  rw [List.all_eq_true] at *
  exact fun x hx => okSym_mono (h.2 S hS hc) (hb x hx)
theorem UnderP.eq {g : Gram} {out : List Bool} (h : UnderP g out) (hc : ∀ r, r ∈ g.rules → r.body.all (okSym out) = true → nth out r.head.toNat = true) : out = prodG g :=
  (lfpB_eq (stepP_mono g _) (nob_len _) (nob_le h.1) (stepP_closed hc) (fun S h1 h2 => h.2 S (by rw [← h1.1, nob_len]) h2)).symm
end Go.Lg

namespace Go.Lg
open Go.Proofs
open Go.RowKit
set_option maxRecDepth 20000
section
variable {P : Program} {n M : Nat} {l : List (Nat × AV)} {os : List (Nat × Option AObj)} {e : List Bool} {a : Operand} {ty : TypeId} {ti tj : TI}
end
end Go.Lg

namespace Go.Lg
open Go.Proofs
set_option linter.unusedSimpArgs false
set_option linter.unusedVariables false
attribute [local irreducible] Ap Rq asemC WP RunD Ret Gq thenA inBlockA bodyQ noGotoA RqL RqP OpP
set_option maxHeartbeats 4000000
set_option maxRecDepth 20000
theorem dd_lt {u : Nat} (h : u / 10 = 0) : Lib.decDigits u = [UInt8.ofNat (48 + u % 10)] := by
  rw [Lib.decDigits_one (by omega), Nat.mod_eq_of_lt (by omega)]
theorem fmtTL_snoc (g : Gram) (t : Tre) : ∀ l : List Tre, fmtTL g (l ++ [t]) = fmtTL g l ++ 32 :: fmtT g t
  | [] => by simp [fmtTL]
  | q :: l => by rw [List.cons_append, fmtTL, fmtTL, fmtTL_snoc g t l]; simp
theorem fmtTL_take (g : Gram) (l : List Tre) (i : Nat) : (fmtTL g (l.take i)).length ≤ (fmtTL g l).length := by
  have h : ∀ (a b : List Tre), fmtTL g (a ++ b) = fmtTL g a ++ fmtTL g b := by
    intro a b
    induction a with
    | nil => simp [fmtTL]
    | cons p a ih => rw [List.cons_append, fmtTL, fmtTL, ih]; simp
  have := congrArg List.length (h (l.take i) (l.drop i))
  rw [List.take_append_drop, List.length_append] at this
  omega
theorem fmtTL_mem (g : Gram) {l : List Tre} {t : Tre} (h : t ∈ l) : (fmtT g t).length ≤ (fmtTL g l).length := by
  induction l with
  | nil => cases h
  | cons a l ih =>
    rw [fmtTL, List.length_cons, List.length_append]
    rcases List.mem_cons.1 h with rfl | h
    · omega
    · have := ih h; omega
attribute [local simp] AV.cells
theorem tformat_fn {g : Gram} (hv : GVal g) (hnm : ∀ x, x ∈ g.nonterms → x.size ≤ 48) (t : Tre) : ∀ x, okT g x t = true → x < g.terms.length → (fmtT g t).length ≤ 100000000 → Fn Tryd.prog 25 [gramA g, treA t] (strA (tx (fmtT g t))) := by
  induction t using Tre.ind with
  | h t ih =>
    intro x hok hx hz
    have hle := leaf_fn t
    have hr2 := hv.r2
    have ht2 := hv.terms
    by_cases hx0 : 0 ≤ x
    · obtain rfl := (okT_leaf hx0).1 hok
      rw [decide_eq_true (show (leafT x).rule = -1 from rfl)] at hle
      rw [fmtT_leaf, tx_bl]
      rw [treA_kids] at hle ⊢
      simp only [leafT, Tre.rule, Tre.term, Tre.kids] at hle ⊢
      refine Fn.intro rfl (by kernel_rfl) Tryd.func25 rfl rfl Tryd.ntmps25 (by exact Nat.le_of_ble_eq_true rfl) ?_; intro Γ hm
      (repeat' (first | apply jA | apply jH | apply jK | apply jM | apply jS | (refine wp_cond rfl (fun hc => ?_) (fun hc => ?_) <;> (try simp only [sB, ne_eq, reduceCtorEq] at hc) <;> (try (exfalso; omega))) | (refine WP.regionC (id := 0) ?_; (refine se_box rfl (by exact ⟨rfl, rfl⟩) ?_); (refine se_box rfl (by exact ⟨rfl, rfl⟩) ?_); (refine sassign rfl ?_); apply jW) | (refine WP.regionC (id := 1) ?_; (refine sloadpw rfl rfl rfl rfl ?_); (refine sc_p rfl rfl (by first | ((repeat' first | exact SubL.nil | refine SubL.cons ?_ ?_ | exact Sub.refl); done) | fail) (by first | (simp [bdL, bdL_append, AV.bd]; done) | fail) (hle) ?_); apply jW) | (refine WP.regionC (id := 2) ?_; (refine sfieldp rfl rfl rfl ?_); (refine sloadp rfl rfl rfl rfl ?_); (refine sfieldp rfl rfl rfl ?_); (refine sloadp rfl rfl rfl rfl ?_); (refine su (aidxz rfl rfl (by omega)) ?_); (refine sloadw rfl rfl ?_); (refine sassign rfl ?_); apply jW) | exact ret_eq rfl rfl rfl))
      all_goals (exfalso; simp at hc; done)
    · have hT := (okT_in (by omega)).1 hok
      have hr0 := hT.r0
      have hrn := hT.rn
      have hlen := hT.len
      have hkid := hT.kid
      have hrf := hv.rule _ (nth_mem hrn)
      have hh0 := hrf.h0
      have hh1 := hrf.hn
      have hhi := hrf.hi
      have hlb := label_fn hv t.rule.toNat hrn (by rw [bl_len]; exact hnm _ (nth_mem (by omega)))
      have hll := label_len g t.rule.toNat (by rw [bl_len]; exact hnm _ (nth_mem (by omega))) (by omega)
      rw [Int.toNat_of_nonneg hr0] at hlb
      rw [decide_eq_false (by omega)] at hle
      rw [fmtT_in g t (by omega)] at hz ⊢
      simp only [List.length_cons, List.length_append, List.length_nil] at hz
      have hmem := fun (i : Nat) (hi : i < t.kids.length) => fmtTL_mem g (nth_mem hi)
      have htake := fmtTL_take g t.kids
      have hin := fun i (hi : i < t.kids.length) => ih _ (nth_mem hi) _ (hkid i hi) (hhi _ (nth_mem (by omega))) (by have := hmem i hi; omega)
      have hsl := tx_size (labelT g t.rule.toNat)
      clear ih hok hT hkid hlen
      rw [treA_kids] at hle ⊢
      generalize t.kids = kids at *
      generalize t.rule = rule at *
      generalize t.term = term at *
      generalize labelT g rule.toNat = lab at *
      refine Fn.intro rfl (by kernel_rfl) Tryd.func25 rfl rfl Tryd.ntmps25 (by exact Nat.le_of_ble_eq_true rfl) ?_; intro Γ hm
      refine wp_lens 1 rfl fun hl => ?_
      have hl : kids.length ≤ 9223372036854775807 := by have := hl; simp [AV.lens, lensL, tresA] at this; omega
      (repeat' (first | apply jA | apply jF | apply jH | apply jI | (refine wp_cond rfl (fun hc => ?_) (fun hc => ?_) <;> (try simp only [sB, ne_eq, reduceCtorEq] at hc) <;> (try (exfalso; omega))) | (refine WP.regionC (id := 0) ?_; (refine se_box rfl (by exact ⟨rfl, rfl⟩) ?_); (refine se_box rfl (by exact ⟨rfl, rfl⟩) ?_); (refine sassign rfl ?_); apply jW) | (refine WP.regionC (id := 1) ?_; (refine sloadpw rfl rfl rfl rfl ?_); (refine sc_p rfl rfl (by first | ((repeat' first | exact SubL.nil | refine SubL.cons ?_ ?_ | exact Sub.refl); done) | fail) (by first | (simp [bdL, bdL_append, AV.bd]; done) | fail) (hle) ?_); apply jW) | (refine WP.regionC (id := 3) ?_; (refine sloadpw rfl rfl rfl rfl ?_); (refine sfieldp rfl rfl rfl ?_); (refine sloadp rfl rfl rfl rfl ?_); (refine sc_p rfl rfl (by first | ((repeat' first | exact SubL.nil | refine SubL.cons ?_ ?_ | exact Sub.refl); done) | fail) (by first | (simp [bdL, bdL_append, AV.bd]; done) | fail) (hlb) ?_); (refine su (acat rfl rfl (by (simp only [bsz, sZ] <;> omega))) ?_); (refine sassign rfl ?_); apply jW) | (refine WP.regionC (id := 4) ?_; (refine sfieldp rfl rfl rfl ?_); (refine sloadp rfl rfl rfl rfl ?_); (refine slenm rfl rfl ?_); (refine smove rfl ?_); apply jW)))
      all_goals try (exfalso; simp at hc; done)
      refine wp_loop (fun (i : Nat) => i ≤ kids.length) (fun i => kids.length - i)
        (fun i => (S 37 [(2, .ptr 0 4 0 0), (5, strA (tx (40 :: (lab ++ fmtTL g (kids.take i))))), (22, tresA kids), (23, intA (kids.length : Nat)), (24, intA (i : Nat))] 1 [(0, some (.arr 4 [gramA g]))])) 0 ?_ (Nat.zero_le _) ?_
      · rw [show tx (40 :: (lab ++ fmtTL g (kids.take 0))) = ⟨#[40]⟩ ++ tx lab by rw [List.take_zero, fmtTL, List.append_nil]; exact (tx_app [40] lab).symm]
        exact ⟨[0], ToR.S rfl (by repeat' (first | exact rt_nil | refine rt_t rfl rfl ?_ | refine rt_e rfl rfl ?_ | refine rt_p rfl rfl (by first | (simp [AV.bd, bdL, bdL_append]; done) | fail) ?_)) (by repeat' (first | exact ro_nil | refine ro_p rfl (by first | exact rfl | fail) (by first | (simp [bdL, bdL_append, AV.bd]; done) | fail) ?_)) rfl (by (rw [hm]; exact rfl)) rfl (by (simp [bdT, AV.bd, bdL, bdL_append]; done)) (by repeat' (first | exact True.intro | refine And.intro ?_ ?_ | (simp [bdOq, bdL, bdL_append, AV.bd]; done))) (by (rw [hm]; exact Nat.le_of_ble_eq_true rfl))⟩
      intro i hi
      have hti := htake i
      have hsz := tx_size (40 :: (lab ++ fmtTL g (kids.take i)))
      simp only [List.length_cons, List.length_append] at hsz
      by_cases hlt : i < kids.length
      · have hx := hin i hlt
        have hmi := hmem i hlt
        have hsk := tx_size (fmtT g (nth kids i))
        have hn := fmtTL_snoc g (nth kids i) (kids.take i)
        rw [← take_succ_nth hlt] at hn
        (repeat' (first | apply jA | apply jF | apply jH | apply jI | apply jN | (refine wp_cond rfl (fun hc => ?_) (fun hc => ?_) <;> (try simp only [sB, ne_eq, reduceCtorEq] at hc) <;> (try (exfalso; omega))) | (refine WP.regionC (id := 5) ?_; (refine slss rfl rfl ?_); apply jW) | (refine WP.regionC (id := 6) ?_; (refine sidxn rfl rfl (by omega) ?_); (refine sloadw rfl rfl ?_); (refine se_alloc rfl ?_); (refine se_store_b rfl rfl rfl rfl ?_); apply jW) | (refine WP.regionC (id := 7) ?_; (refine smove rfl ?_); (refine sloadpw rfl rfl rfl rfl ?_); (refine sloadpw rfl rfl rfl rfl ?_); (refine sc_p rfl rfl (by first | ((repeat' first | exact SubL.nil | refine SubL.cons ?_ ?_ | exact Sub.refl); done) | fail) (by first | (simp [bdL, bdL_append, AV.bd]; done) | fail) (hx) ?_); (refine su (acat rfl rfl (by (simp only [bsz, sZ] <;> omega))) ?_); (refine su (acat rfl rfl (by (simp only [bsz, sZ] <;> omega))) ?_); (refine sassign rfl ?_); apply jW) | (refine WP.regionC (id := 8) ?_; (refine sadd rfl rfl (by exact inr_i64_of (by omega)) ?_); (refine smove rfl ?_); apply jW)))
        refine ⟨i + 1, ⟨by omega, by omega⟩, ?_⟩
        rw [hn, show tx (40 :: (lab ++ (fmtTL g (kids.take i) ++ 32 :: fmtT g (nth kids i)))) = tx (40 :: (lab ++ fmtTL g (kids.take i))) ++ (⟨#[32]⟩ ++ tx (fmtT g (nth kids i))) by
          rw [show (⟨#[32]⟩ : ByteArray) ++ tx (fmtT g (nth kids i)) = tx (32 :: fmtT g (nth kids i)) from tx_app [32] _, tx_app]
          simp]
        exact ⟨[0], ToR.S rfl (by repeat' (first | exact rt_nil | refine rt_t rfl rfl ?_ | refine rt_e rfl rfl ?_ | refine rt_p rfl rfl (by first | (simp [AV.bd, bdL, bdL_append]; done) | fail) ?_)) (by repeat' (first | exact ro_nil | refine ro_p rfl (by first | exact rfl | fail) (by first | (simp [bdL, bdL_append, AV.bd]; done) | fail) ?_)) rfl (by (rw [hm]; exact rfl)) rfl (by (simp [bdT, AV.bd, bdL, bdL_append]; done)) (by repeat' (first | exact True.intro | refine And.intro ?_ ?_ | (simp [bdOq, bdL, bdL_append, AV.bd]; done))) (by (rw [hm]; exact Nat.le_of_ble_eq_true rfl))⟩
      · rw [List.take_of_length_le (by omega)] at hsz ⊢
        have e : tx (40 :: (lab ++ fmtTL g kids ++ [41])) = tx (40 :: (lab ++ fmtTL g kids)) ++ ⟨#[41]⟩ := (tx_app (40 :: (lab ++ fmtTL g kids)) [41]).symm
        rw [e]
        (repeat' (first | apply jA | apply jH | apply jJ | apply jK | apply jL | apply jP | apply jS | (refine wp_cond rfl (fun hc => ?_) (fun hc => ?_) <;> (try simp only [sB, ne_eq, reduceCtorEq] at hc) <;> (try (exfalso; omega))) | (refine WP.regionC (id := 5) ?_; (refine slss rfl rfl ?_); apply jW) | (refine WP.regionC (id := 9) ?_; (refine smove rfl ?_); (refine su (acat rfl rfl (by (simp only [bsz, sZ] <;> omega))) ?_); (refine sassign rfl ?_); apply jW) | exact ret_eq rfl rfl rfl))
end Go.Lg

namespace Go.Lg
open Go.Proofs
set_option linter.unusedSimpArgs false
set_option linter.unusedVariables false
attribute [local irreducible] Ap Rq asemC WP RunD Ret Gq thenA inBlockA bodyQ noGotoA RqL RqP OpP
set_option maxHeartbeats 4000000
set_option maxRecDepth 20000
end Go.Lg

namespace Go.Lg
open Go.Proofs
set_option linter.unusedSimpArgs false
set_option linter.unusedVariables false
attribute [local irreducible] Ap Rq asemC WP RunD Ret Gq thenA inBlockA bodyQ noGotoA RqL RqP OpP
set_option maxHeartbeats 4000000
set_option maxRecDepth 20000
attribute [local simp] AV.cells
def RTA (r : RT) : AV := .tup [.agg [intA r.1.rule, intA r.1.term, tresA r.1.kids], intA (r.2.1 : Nat), boolA r.2.2]
@[simp] theorem bd_RTA (n : Nat) (r : RT) : (RTA r).bd n = true := by simp [RTA, tresA, AV.bd, bdL]
end Go.Lg

namespace Go.Lg
open Go.Proofs
set_option linter.unusedSimpArgs false
set_option linter.unusedVariables false
attribute [local irreducible] Ap Rq asemC WP RunD Ret Gq thenA inBlockA bodyQ noGotoA RqL RqP OpP
set_option maxHeartbeats 4000000
set_option maxRecDepth 20000
attribute [local simp] AV.cells rdT
theorem ren_tresY (π : Nat → Nat) (l : List Tre) : AV.ren π (tresA l) = tresA l := ren_pure (by simp)
theorem tree_fn {g : Gram} (hv : GVal g) (hnt : ∀ x, x ∈ g.terms → x.size ≤ 48) (hnm : ∀ x, x ∈ g.nonterms → x.size ≤ 48) (s : ByteArray) (hs : s.size ≤ 100000) (pr : List Bool) (hpr : pr.length = g.nonterms.length) :
    FnP Tryd.prog 43 [.ptr 0 7 0 0] [rdT g s 0 pr] (resT g s pr (treeT g pr (bl s))) := by
  have hfine := resT_fine g s pr (treeT g pr (bl s))
  have ht2 := hv.terms
  have hcm := fun (x : ByteArray) (hx : x ∈ g.terms) => common_fn g s 0 pr x (by omega) (by omega) (by have := hnt x hx; omega)
  simp only [List.drop_zero] at hcm
  unfold treeT at hfine ⊢
  unfold rdT at hcm ⊢
  refine FnP.intro ?_ (by kernel_rfl) Tryd.func43 rfl rfl Tryd.ntmps43 (by exact Nat.le_of_ble_eq_true rfl) ?_; rotate_left; intro Γ hm
  · (repeat' (first | apply jA | apply jF | apply jH | (refine WP.regionC (id := 0) ?_; (refine se_alloc rfl ?_); apply jW) | (refine WP.regionC (id := 1) ?_; (refine sassign rfl ?_); apply jW) | (refine WP.regionC (id := 2) ?_; (refine smove rfl ?_); (refine snilc rfl ?_); (refine sfieldp rfl rfl rfl ?_); (refine sfieldp rfl rfl rfl ?_); (refine sloadp rfl rfl rfl rfl ?_); (refine slenm rfl rfl ?_); (refine smove rfl ?_); apply jW)))
    refine wp_loop (fun (x : Nat × Nat) => x.1 ≤ g.terms.length ∧ x.2 ≤ 100000 ∧ termT (bl s) (g.terms.drop x.1) x.1 x.2 = termT (bl s) g.terms 0 0) (fun x => g.terms.length - x.1)
      (fun x => (S 71 [(0, .ptr 0 7 0 0), (2, .ptr 1 3 0 0), (3, intA (x.2 : Nat)), (12, strsA g.terms), (13, intA (g.terms.length : Nat)), (14, intA (x.1 : Nat))] 2 [(0, some (.arr 7 [.agg [strsA g.terms, strsA g.nonterms, intA g.start, rulesA g.rules, strA s, intA 0, boolsA pr]])), (1, some (.arr 3 [.agg [intA 0, intA 0, .val (.slice none 0 0)]]))])) (0, 0) ⟨[0, 1], ToR.S rfl (by repeat' (first | exact rt_nil | refine rt_t rfl rfl ?_ | refine rt_e rfl rfl ?_ | refine rt_p rfl rfl (by first | (simp [AV.bd, bdL, bdL_append]; done) | fail) ?_)) (by repeat' (first | exact ro_nil | refine ro_e rfl rfl ?_ | refine ro_p rfl (by first | exact rfl | fail) (by first | (simp [bdL, bdL_append, AV.bd]; done) | fail) ?_)) rfl (by (rw [hm]; exact rfl)) rfl (by (simp [bdT, AV.bd, bdL, bdL_append]; done)) (by repeat' (first | exact True.intro | exact rfl | refine And.intro ?_ ?_ | (simp [bdOq, bdL, bdL_append, AV.bd]; done))) (by (rw [hm]; exact Nat.le_of_ble_eq_true rfl))⟩ ⟨Nat.zero_le _, Nat.zero_le _, rfl⟩ ?_
    rintro ⟨j, b⟩ ⟨hj, hb, hT⟩
    simp only at hj hb hT ⊢
    by_cases hlt : j < g.terms.length
    · have hd : g.terms.drop j = nth g.terms j :: g.terms.drop (j + 1) := by rw [List.drop_eq_getElem_cons hlt, nth_eq hlt]
      have hc0 := hcm _ (nth_mem hlt)
      have hts := hnt _ (nth_mem hlt)
      have hle := lcp_le (bl (nth g.terms j)) (bl s)
      rw [bl_len, bl_len] at hle
      rw [hd, termT] at hT
      by_cases hf : lcp (bl (nth g.terms j)) (bl s) = (bl (nth g.terms j)).length ∧ lcp (bl (nth g.terms j)) (bl s) = (bl s).length
      · rw [if_pos hf] at hT
        rw [bl_len, bl_len] at hf
        rw [← hT]
        have hr : resT g s pr (.ok (.mk (-1) (j : Int) []) (bl s).length) = .ok (.agg [intA (-1), intA (j : Nat), .sl 3 []]) [some (.arr 7 [.agg [strsA g.terms, strsA g.nonterms, intA g.start, rulesA g.rules, strA s, intA (s.size : Nat), boolsA pr]])] := by
          show Res.ok (treA (.mk (-1) (j : Int) [])) _ = _
          rw [treA_kids, bl_len]; rfl
        simp only
        rw [hr]
        rw [hf.2] at hc0
        (repeat' (first | apply jA | apply jF | apply jH | apply jI | (refine wp_cond rfl (fun hc => ?_) (fun hc => ?_) <;> (try simp only [sB, ne_eq, reduceCtorEq] at hc) <;> (try (exfalso; omega))) | (refine WP.regionC (id := 3) ?_; (refine slss rfl rfl ?_); apply jW) | (refine WP.regionC (id := 4) ?_; (refine smove rfl ?_); (refine sidxn rfl rfl (by omega) ?_); (refine sloadw rfl rfl ?_); (refine sassign rfl ?_); (refine sassign rfl ?_); apply jW) | (refine WP.regionC (id := 5) ?_; (refine smove rfl ?_); (refine smove rfl ?_); (refine sc_o [0] rfl rfl (hc0) (Lend.S (by first | ((repeat' first | exact RenL.nil | refine RenL.cons rfl ?_); done) | fail) (by first | ((repeat' first | exact LendO.nil | refine LendO.arr rfl (by (refine (renL_pure ?_).symm; (simp [AV.bd, bdL, bdL_append]; done))) ?_); done) | fail) (by decide) rfl (by simp [AV.bd, bdL, bdL_append]) (by repeat' (first | exact True.intro | refine And.intro ?_ ?_ | simp [AV.bd, bdL, bdL_append]))) ?_; simp only [updN, newO, AObj.ren, renL, AV.ren, apx, ap, if_true, if_false, Nat.reduceLT, Nat.reduceAdd, Nat.reduceSub, sO, intA, boolA, strA, ren_rulesY, ren_boolsY]); (refine sassign rfl ?_); apply jW) | (refine WP.regionC (id := 6) ?_; (refine smove rfl ?_); (refine smove rfl ?_); (refine su (alenstr rfl rfl) ?_); (refine seql rfl rfl ?_); (refine smove rfl ?_); (refine sg (gq_vt rfl rfl) (fun he => ap_move (rq_p rfl rfl)) ?_); (refine sg (gq_vt rfl rfl) (fun he => ap_move (rq_p rfl rfl)) ?_); (refine sg (gq_vt rfl rfl) (fun he => ap_nilc (rq_c rfl rfl)) ?_); (refine sg (gq_vt rfl rfl) (fun he => ap_field_p (rq_c rfl rfl) rfl rfl) ?_); (refine sg (gq_vt rfl rfl) (fun he => ap_load_p (rq_c rfl rfl) rfl rfl rfl) ?_); (refine sg (gq_vt rfl rfl) (fun he => ap_len_str rfl (rq_c rfl rfl)) ?_); (refine sg (gq_vt rfl rfl) (fun he => ap_eql (rq_c rfl rfl) (rq_c rfl rfl)) ?_); (refine su (ap_and (rq_p rfl rfl) (rq_c rfl rfl)) ?_); apply jW) | (refine WP.regionC (id := 7) ?_; (refine smove rfl ?_); (refine smove rfl ?_); (refine snilc rfl ?_); (refine sfieldp rfl rfl rfl ?_); (refine se_store_b rfl rfl rfl rfl ?_); apply jW) | (refine WP.regionC (id := 8) ?_; (refine smove rfl ?_); (refine su (ap_build (RqP.cons (rq_p rfl rfl) (RqP.cons (rq_p rfl rfl) (RqP.nil))) rfl) ?_); (refine se_store_b rfl rfl rfl rfl ?_); apply jW)))
        · refine wp_lastw 1 (A := []) (x := .agg [intA (-1), intA (j : Nat), .val (.slice none 0 0)]) (.agg [intA (-1), intA (j : Nat), .sl 3 []]) rfl ⟨.inl rfl, .inl rfl, .inr ⟨rfl, 3, rfl⟩, trivial⟩ ?_
          (repeat' (first | apply jK | apply jM | apply jO))
          refine bp_r rfl ?_
          refine retO_L (x := .agg [intA (-1), intA (j : Nat), .sl 3 []]) (k := 1) (os1 := [(0, some (.arr 7 [.agg [strsA g.terms, strsA g.nonterms, intA g.start, rulesA g.rules, strA s, intA (s.size : Nat), boolsA pr]]))]) (.cellT rfl rfl rfl rfl .nil) rfl ⟨[0], ToR.S rfl (by repeat' (first | exact rt_nil | refine rt_e rfl rfl ?_)) (by repeat' (first | exact ro_nil | refine ro_p rfl (by first | exact rfl | fail) (by first | (simp [bdL, bdL_append, AV.bd]; done) | fail) ?_)) rfl rfl rfl (by (simp [bdT, AV.bd, bdL, bdL_append]; done)) (by repeat' (first | exact True.intro | refine And.intro ?_ ?_ | (simp [bdOq, bdL, bdL_append, AV.bd]; done))) (by exact Nat.le_of_ble_eq_true rfl)⟩ rfl
        all_goals (exfalso; rcases hc with hc | hc; exact absurd (by omega) hc; exact hc trivial)
      · rw [if_neg hf] at hT
        rw [bl_len, bl_len] at hf
        (repeat' (first | apply jA | apply jF | apply jH | apply jI | apply jN | (refine wp_cond rfl (fun hc => ?_) (fun hc => ?_) <;> (try simp only [sB, ne_eq, reduceCtorEq] at hc) <;> (try (exfalso; omega))) | (refine WP.regionC (id := 3) ?_; (refine slss rfl rfl ?_); apply jW) | (refine WP.regionC (id := 4) ?_; (refine smove rfl ?_); (refine sidxn rfl rfl (by omega) ?_); (refine sloadw rfl rfl ?_); (refine sassign rfl ?_); (refine sassign rfl ?_); apply jW) | (refine WP.regionC (id := 5) ?_; (refine smove rfl ?_); (refine smove rfl ?_); (refine sc_o [0] rfl rfl (hc0) (Lend.S (by first | ((repeat' first | exact RenL.nil | refine RenL.cons rfl ?_); done) | fail) (by first | ((repeat' first | exact LendO.nil | refine LendO.arr rfl (by (refine (renL_pure ?_).symm; (simp [AV.bd, bdL, bdL_append]; done))) ?_); done) | fail) (by decide) rfl (by simp [AV.bd, bdL, bdL_append]) (by repeat' (first | exact True.intro | refine And.intro ?_ ?_ | simp [AV.bd, bdL, bdL_append]))) ?_; simp only [updN, newO, AObj.ren, renL, AV.ren, apx, ap, if_true, if_false, Nat.reduceLT, Nat.reduceAdd, Nat.reduceSub, sO, intA, boolA, strA, ren_rulesY, ren_boolsY]); (refine sassign rfl ?_); apply jW) | (refine WP.regionC (id := 6) ?_; (refine smove rfl ?_); (refine smove rfl ?_); (refine su (alenstr rfl rfl) ?_); (refine seql rfl rfl ?_); (refine smove rfl ?_); (refine sg (gq_vt rfl rfl) (fun he => ap_move (rq_p rfl rfl)) ?_); (refine sg (gq_vt rfl rfl) (fun he => ap_move (rq_p rfl rfl)) ?_); (refine sg (gq_vt rfl rfl) (fun he => ap_nilc (rq_c rfl rfl)) ?_); (refine sg (gq_vt rfl rfl) (fun he => ap_field_p (rq_c rfl rfl) rfl rfl) ?_); (refine sg (gq_vt rfl rfl) (fun he => ap_load_p (rq_c rfl rfl) rfl rfl rfl) ?_); (refine sg (gq_vt rfl rfl) (fun he => ap_len_str rfl (rq_c rfl rfl)) ?_); (refine sg (gq_vt rfl rfl) (fun he => ap_eql (rq_c rfl rfl) (rq_c rfl rfl)) ?_); (refine su (ap_and (rq_p rfl rfl) (rq_c rfl rfl)) ?_); apply jW) | (refine WP.regionC (id := 9) ?_; (refine smove rfl ?_); (refine smove rfl ?_); (refine su (amax rfl rfl) ?_); (refine sassign rfl ?_); apply jW) | (refine WP.regionC (id := 10) ?_; (refine sadd rfl rfl (by exact inr_i64_of (by omega)) ?_); (refine smove rfl ?_); apply jW)))
        all_goals try (exfalso; omega)
        all_goals refine ⟨(j + 1, max b (lcp (bl (nth g.terms j)) (bl s))), ⟨by simp only; omega, by simp only; omega, by simp only; omega, hT⟩, ?_⟩
        all_goals simp only
        all_goals rw [show ((max b (lcp (bl (nth g.terms j)) (bl s)) : Nat) : Int) = max (b : Int) (lcp (bl (nth g.terms j)) (bl s) : Nat) by omega]
        all_goals exact ⟨[0, 1], ToR.S rfl (by repeat' (first | exact rt_nil | refine rt_t rfl rfl ?_ | refine rt_e rfl rfl ?_ | refine rt_p rfl rfl (by first | (simp [AV.bd, bdL, bdL_append]; done) | fail) ?_)) (by repeat' (first | exact ro_nil | refine ro_e rfl rfl ?_ | refine ro_p rfl (by first | exact rfl | fail) (by first | (simp [bdL, bdL_append, AV.bd]; done) | fail) ?_)) rfl (by (rw [hm]; exact rfl)) rfl (by (simp [bdT, AV.bd, bdL, bdL_append]; done)) (by repeat' (first | exact True.intro | exact rfl | refine And.intro ?_ ?_ | (simp [bdOq, bdL, bdL_append, AV.bd]; done))) (by (rw [hm]; exact Nat.le_of_ble_eq_true rfl))⟩
    · rw [List.drop_of_length_le (by omega), termT] at hT
      rw [← hT]
      simp only
      by_cases hb0 : 0 < b
      · rw [if_pos hb0]
        (repeat' (first | apply jA | apply jH | apply jJ | apply jL | apply jP | apply jT | (refine wp_cond rfl (fun hc => ?_) (fun hc => ?_) <;> (try simp only [sB, ne_eq, reduceCtorEq] at hc) <;> (try (exfalso; omega))) | (refine WP.regionC (id := 3) ?_; (refine slss rfl rfl ?_); apply jW) | (refine WP.regionC (id := 11) ?_; (refine smove rfl ?_); (refine su (agtr rfl rfl) ?_); apply jW) | (refine wpl_region (id := 12) ?_; (refine wpl_step rfl ?_); (refine smove rfl ?_); (apply jW); (refine wpl_step rfl ?_); (refine se_iface rfl (by kernel_rfl) (by kernel_rfl) ?_); (apply jW); (refine wpl_panic rfl ?_))))
        all_goals (exact bp_p rfl)
      · rw [if_neg hb0]
        have hru := rules_fn hv hnm s 0 pr hpr (-1) (by omega) (by omega)
        have hchl : ∀ c, c ∈ chR g pr (-1) g.rules.length → c.1.length ≤ 1000000 := fun c hc => by
          obtain ⟨q, hq, _, _, rfl⟩ := mem_chR.1 hc
          have hrq := hv.rule _ (nth_mem hq)
          have hr2 := hv.r2
          have h0 := hrq.h0
          have h1 := hrq.hn
          have := label_len g q (by rw [bl_len]; exact hnm _ (nth_mem (by omega))) (by omega)
          rw [ch_eq, folT_is]
          simp only [List.length_append, List.length_cons, List.length_nil]
          omega
        have hcc := choose_fn g s 0 pr (chR g pr (-1) g.rules.length) (by omega) (by omega) hchl
        rw [List.drop_zero] at hcc
        unfold rdT at hru hcc
        simp only [Int.natCast_zero] at hcc
        cases hq1 : chooseT (bl s) 0 (chR g pr (-1) g.rules.length) 0 with
        | err e =>
          have hX := hcc.dieC hq1
          simp only
          (repeat' (first | apply jA | apply jH | apply jI | apply jJ | apply jL | apply jP | apply jT | (refine wp_cond rfl (fun hc => ?_) (fun hc => ?_) <;> (try simp only [sB, ne_eq, reduceCtorEq] at hc) <;> (try (exfalso; omega))) | (refine WP.regionC (id := 3) ?_; (refine slss rfl rfl ?_); apply jW) | (refine WP.regionC (id := 11) ?_; (refine smove rfl ?_); (refine su (agtr rfl rfl) ?_); apply jW) | (refine wpl_region (id := 13) ?_; (refine wpl_step rfl ?_; (refine smove rfl ?_); apply jW; (refine wpl_step rfl ?_; (refine smove rfl ?_); apply jW; (refine wpl_step rfl ?_; (refine smove rfl ?_); apply jW; ((refine wpl_step rfl ?_; (refine sc_o [0] rfl rfl (hru) (Lend.S (by first | ((repeat' first | exact RenL.nil | refine RenL.cons rfl ?_); done) | fail) (by first | ((repeat' first | exact LendO.nil | refine LendO.arr rfl (by (refine (renL_pure ?_).symm; (simp [AV.bd, bdL, bdL_append]; done))) ?_); done) | fail) (by decide) rfl (by simp [AV.bd, bdL, bdL_append]) (by repeat' (first | exact True.intro | refine And.intro ?_ ?_ | simp [AV.bd, bdL, bdL_append]))) ?_; simp only [updN, newO, AObj.ren, renL, AV.ren, apx, ap, if_true, if_false, Nat.reduceLT, Nat.reduceAdd, Nat.reduceSub, sO, intA, boolA, strA, ren_rulesY, ren_boolsY, ren_chsY]); apply jW; ((refine wpl_x [0] rfl rfl (hX) (Lend.S (by first | ((repeat' first | exact RenL.nil | refine RenL.cons (by first | exact rfl | exact ren_p (by simp [AV.bd, bdL, bdL_append])) ?_); done) | fail) (by first | ((repeat' first | exact LendO.nil | refine LendO.arr rfl (by (refine (renL_pure ?_).symm; (simp [AV.bd, bdL, bdL_append]; done))) ?_); done) | fail) (by decide) rfl (by simp [AV.bd, bdL, bdL_append]) (by repeat' (first | exact True.intro | refine And.intro ?_ ?_ | simp [AV.bd, bdL, bdL_append]))) ?_))))))))))
          all_goals (exact bp_p rfl)
        | ok t a1 =>
          obtain ⟨c, hc1, rfl, rfl, hpre⟩ := choose_ok hq1
          obtain ⟨q, hqn, _, _, rfl⟩ := mem_chR.1 hc1
          have hO := hcc.okC hq1
          have hraw : rawA (chT g q).2 = .agg [intA (q : Nat), intA 0, .val (.slice none 0 0)] := rfl
          rw [hraw] at hO
          have hlen := hpre.length_le
          rw [bl_len] at hlen
          have hto : (chT g q).2.rule.toNat = q := Int.toNat_natCast _
          simp only [hto]
          rw [Nat.zero_add] at hO ⊢
          generalize (chT g q).1.length = L at *
          have hki := kids_fn hv hnt hnm s hs pr hpr ((bl s).length + 1) q L (by omega) (by rw [bl_len]; omega) hqn
          unfold rdT at hki
          cases hq2 : kidsT g pr (bl s) ((bl s).length + 1) q L with
          | err e =>
            rw [hq2] at hki
            have hX : FnX Tryd.prog _ _ _ _ := hki
            simp only
            (repeat' (first | apply jA | apply jH | apply jI | apply jJ | apply jL | apply jP | apply jT | (refine wp_cond rfl (fun hc => ?_) (fun hc => ?_) <;> (try simp only [sB, ne_eq, reduceCtorEq] at hc) <;> (try (exfalso; omega))) | (refine WP.regionC (id := 3) ?_; (refine slss rfl rfl ?_); apply jW) | (refine WP.regionC (id := 11) ?_; (refine smove rfl ?_); (refine su (agtr rfl rfl) ?_); apply jW) | (refine wpl_region (id := 13) ?_; (refine wpl_step rfl ?_; (refine smove rfl ?_); apply jW; (refine wpl_step rfl ?_; (refine smove rfl ?_); apply jW; (refine wpl_step rfl ?_; (refine smove rfl ?_); apply jW; ((refine wpl_step rfl ?_; (refine sc_o [0] rfl rfl (hru) (Lend.S (by first | ((repeat' first | exact RenL.nil | refine RenL.cons rfl ?_); done) | fail) (by first | ((repeat' first | exact LendO.nil | refine LendO.arr rfl (by (refine (renL_pure ?_).symm; (simp [AV.bd, bdL, bdL_append]; done))) ?_); done) | fail) (by decide) rfl (by simp [AV.bd, bdL, bdL_append]) (by repeat' (first | exact True.intro | refine And.intro ?_ ?_ | simp [AV.bd, bdL, bdL_append]))) ?_; simp only [updN, newO, AObj.ren, renL, AV.ren, apx, ap, if_true, if_false, Nat.reduceLT, Nat.reduceAdd, Nat.reduceSub, sO, intA, boolA, strA, ren_rulesY, ren_boolsY, ren_chsY]); apply jW; ((refine wpl_step rfl ?_; (refine sc_o [0] rfl rfl (hO) (Lend.S (by first | ((repeat' first | exact RenL.nil | refine RenL.cons (by first | exact rfl | exact ren_p (by simp [AV.bd, bdL, bdL_append])) ?_); done) | fail) (by first | ((repeat' first | exact LendO.nil | refine LendO.arr rfl (by (refine (renL_pure ?_).symm; (simp [AV.bd, bdL, bdL_append]; done))) ?_); done) | fail) (by decide) rfl (by simp [AV.bd, bdL, bdL_append]) (by repeat' (first | exact True.intro | refine And.intro ?_ ?_ | simp [AV.bd, bdL, bdL_append]))) ?_; simp only [updN, newO, AObj.ren, renL, AV.ren, apx, ap, if_true, if_false, Nat.reduceLT, Nat.reduceAdd, Nat.reduceSub, sO, intA, boolA, strA, ren_rulesY, ren_boolsY, ren_chsY]); apply jW; ((refine wpl_x [0] rfl rfl (hX) (Lend.S (by first | ((repeat' first | exact RenL.nil | refine RenL.cons rfl ?_); done) | fail) (by first | ((repeat' first | exact LendO.nil | refine LendO.arr rfl (by (refine (renL_pure ?_).symm; (simp [AV.bd, bdL, bdL_append]; done))) ?_); done) | fail) (by decide) rfl (by simp [AV.bd, bdL, bdL_append]) (by repeat' (first | exact True.intro | refine And.intro ?_ ?_ | simp [AV.bd, bdL, bdL_append]))) ?_))))))))))))
            all_goals (exact bp_p rfl)
          | ok t' a2 =>
            have hle2 := kids_le g pr (bl s) ((bl s).length + 1) q L t' a2 (by rw [bl_len]; omega) hq2
            rw [bl_len] at hle2
            rw [hq2] at hki
            have hO2 : FnO Tryd.prog _ _ _ _ _ := hki
            unfold rdT at hO2
            simp only
            rw [treA_kids] at hO2
            by_cases hl : a2 < s.size
            · rw [if_pos (by rw [bl_len]; exact hl)]
              (repeat' (first | apply jA | apply jH | apply jI | apply jJ | apply jL | apply jP | apply jT | (refine wp_cond rfl (fun hc => ?_) (fun hc => ?_) <;> (try simp only [sB, ne_eq, reduceCtorEq] at hc) <;> (try (exfalso; omega))) | (refine WP.regionC (id := 3) ?_; (refine slss rfl rfl ?_); apply jW) | (refine WP.regionC (id := 11) ?_; (refine smove rfl ?_); (refine su (agtr rfl rfl) ?_); apply jW) | (refine WP.regionC (id := 13) ?_; (refine smove rfl ?_); (refine smove rfl ?_); (refine smove rfl ?_); (refine sc_o [0] rfl rfl (hru) (Lend.S (by first | ((repeat' first | exact RenL.nil | refine RenL.cons rfl ?_); done) | fail) (by first | ((repeat' first | exact LendO.nil | refine LendO.arr rfl (by (refine (renL_pure ?_).symm; (simp [AV.bd, bdL, bdL_append]; done))) ?_); done) | fail) (by decide) rfl (by simp [AV.bd, bdL, bdL_append]) (by repeat' (first | exact True.intro | refine And.intro ?_ ?_ | simp [AV.bd, bdL, bdL_append]))) ?_; simp only [updN, newO, AObj.ren, renL, AV.ren, apx, ap, if_true, if_false, Nat.reduceLT, Nat.reduceAdd, Nat.reduceSub, sO, intA, boolA, strA, ren_rulesY, ren_boolsY, ren_chsY]); (refine sc_o [0] rfl rfl (hO) (Lend.S (by first | ((repeat' first | exact RenL.nil | refine RenL.cons (by first | exact rfl | exact ren_p (by simp [AV.bd, bdL, bdL_append])) ?_); done) | fail) (by first | ((repeat' first | exact LendO.nil | refine LendO.arr rfl (by (refine (renL_pure ?_).symm; (simp [AV.bd, bdL, bdL_append]; done))) ?_); done) | fail) (by decide) rfl (by simp [AV.bd, bdL, bdL_append]) (by repeat' (first | exact True.intro | refine And.intro ?_ ?_ | simp [AV.bd, bdL, bdL_append]))) ?_; simp only [updN, newO, AObj.ren, renL, AV.ren, apx, ap, if_true, if_false, Nat.reduceLT, Nat.reduceAdd, Nat.reduceSub, sO, intA, boolA, strA, ren_rulesY, ren_boolsY, ren_chsY]); (refine sc_o [0] rfl rfl (hO2) (Lend.S (by first | ((repeat' first | exact RenL.nil | refine RenL.cons rfl ?_); done) | fail) (by first | ((repeat' first | exact LendO.nil | refine LendO.arr rfl (by (refine (renL_pure ?_).symm; (simp [AV.bd, bdL, bdL_append]; done))) ?_); done) | fail) (by decide) rfl (by simp [AV.bd, bdL, bdL_append]) (by repeat' (first | exact True.intro | refine And.intro ?_ ?_ | simp [AV.bd, bdL, bdL_append]))) ?_; simp only [updN, newO, AObj.ren, renL, AV.ren, apx, ap, if_true, if_false, Nat.reduceLT, Nat.reduceAdd, Nat.reduceSub, sO, intA, boolA, strA, ren_rulesY, ren_boolsY, ren_tresY]); (refine se_alloc rfl ?_); (refine se_store_b rfl rfl rfl rfl ?_); apply jW) | (refine wp_draw (id := 14) 10 mixed (by kernel_rfl) (by kernel_rfl) rfl ?_ <;> (refine rmove rfl ?_) <;> (refine rnilc rfl ?_) <;> (refine rfieldp rfl rfl rfl ?_) <;> (refine rloadp rfl rfl rfl rfl ?_) <;> (refine rmove rfl ?_) <;> (refine rnilc rfl ?_) <;> (refine rfieldp rfl rfl rfl ?_) <;> (refine rloadp rfl rfl rfl rfl ?_) <;> (refine rd_u rfl rfl (alenstr rfl rfl) ?_) <;> (refine rd_u rfl rfl (alss rfl rfl) ?_) <;> (refine rd_end (by kernel_rfl) ?_)) | (refine wpl_region (id := 15) ?_; (refine wpl_step rfl ?_); (refine smove rfl ?_); (apply jW); (refine wpl_step rfl ?_); (refine snilc rfl ?_); (apply jW); (refine wpl_step rfl ?_); (refine sfieldp rfl rfl rfl ?_); (apply jW); (refine wpl_step rfl ?_); (refine sloadp rfl rfl rfl rfl ?_); (apply jW); (refine wpl_step rfl ?_); (refine se_iface rfl (by kernel_rfl) (by kernel_rfl) ?_); (apply jW); (refine wpl_panic rfl ?_))))
              all_goals (exact bp_p rfl)
            · rw [if_neg (by rw [bl_len]; exact hl)]
              have hr : resT g s pr (.ok t' a2) = .ok (.agg [intA t'.rule, intA t'.term, tresA t'.kids]) [some (.arr 7 [.agg [strsA g.terms, strsA g.nonterms, intA g.start, rulesA g.rules, strA s, intA (a2 : Nat), boolsA pr]])] := by
                show Res.ok (treA t') _ = _
                rw [treA_kids]; rfl
              rw [hr]
              (repeat' (first | apply jA | apply jH | apply jI | apply jJ | apply jK | apply jL | apply jP | (refine wp_cond rfl (fun hc => ?_) (fun hc => ?_) <;> (try simp only [sB, ne_eq, reduceCtorEq] at hc) <;> (try (exfalso; omega))) | (refine WP.regionC (id := 3) ?_; (refine slss rfl rfl ?_); apply jW) | (refine WP.regionC (id := 11) ?_; (refine smove rfl ?_); (refine su (agtr rfl rfl) ?_); apply jW) | (refine WP.regionC (id := 13) ?_; (refine smove rfl ?_); (refine smove rfl ?_); (refine smove rfl ?_); (refine sc_o [0] rfl rfl (hru) (Lend.S (by first | ((repeat' first | exact RenL.nil | refine RenL.cons rfl ?_); done) | fail) (by first | ((repeat' first | exact LendO.nil | refine LendO.arr rfl (by (refine (renL_pure ?_).symm; (simp [AV.bd, bdL, bdL_append]; done))) ?_); done) | fail) (by decide) rfl (by simp [AV.bd, bdL, bdL_append]) (by repeat' (first | exact True.intro | refine And.intro ?_ ?_ | simp [AV.bd, bdL, bdL_append]))) ?_; simp only [updN, newO, AObj.ren, renL, AV.ren, apx, ap, if_true, if_false, Nat.reduceLT, Nat.reduceAdd, Nat.reduceSub, sO, intA, boolA, strA, ren_rulesY, ren_boolsY, ren_chsY]); (refine sc_o [0] rfl rfl (hO) (Lend.S (by first | ((repeat' first | exact RenL.nil | refine RenL.cons (by first | exact rfl | exact ren_p (by simp [AV.bd, bdL, bdL_append])) ?_); done) | fail) (by first | ((repeat' first | exact LendO.nil | refine LendO.arr rfl (by (refine (renL_pure ?_).symm; (simp [AV.bd, bdL, bdL_append]; done))) ?_); done) | fail) (by decide) rfl (by simp [AV.bd, bdL, bdL_append]) (by repeat' (first | exact True.intro | refine And.intro ?_ ?_ | simp [AV.bd, bdL, bdL_append]))) ?_; simp only [updN, newO, AObj.ren, renL, AV.ren, apx, ap, if_true, if_false, Nat.reduceLT, Nat.reduceAdd, Nat.reduceSub, sO, intA, boolA, strA, ren_rulesY, ren_boolsY, ren_chsY]); (refine sc_o [0] rfl rfl (hO2) (Lend.S (by first | ((repeat' first | exact RenL.nil | refine RenL.cons rfl ?_); done) | fail) (by first | ((repeat' first | exact LendO.nil | refine LendO.arr rfl (by (refine (renL_pure ?_).symm; (simp [AV.bd, bdL, bdL_append]; done))) ?_); done) | fail) (by decide) rfl (by simp [AV.bd, bdL, bdL_append]) (by repeat' (first | exact True.intro | refine And.intro ?_ ?_ | simp [AV.bd, bdL, bdL_append]))) ?_; simp only [updN, newO, AObj.ren, renL, AV.ren, apx, ap, if_true, if_false, Nat.reduceLT, Nat.reduceAdd, Nat.reduceSub, sO, intA, boolA, strA, ren_rulesY, ren_boolsY, ren_tresY]); (refine se_alloc rfl ?_); (refine se_store_b rfl rfl rfl rfl ?_); apply jW) | (refine wp_draw (id := 14) 10 mixed (by kernel_rfl) (by kernel_rfl) rfl ?_ <;> (refine rmove rfl ?_) <;> (refine rnilc rfl ?_) <;> (refine rfieldp rfl rfl rfl ?_) <;> (refine rloadp rfl rfl rfl rfl ?_) <;> (refine rmove rfl ?_) <;> (refine rnilc rfl ?_) <;> (refine rfieldp rfl rfl rfl ?_) <;> (refine rloadp rfl rfl rfl rfl ?_) <;> (refine rd_u rfl rfl (alenstr rfl rfl) ?_) <;> (refine rd_u rfl rfl (alss rfl rfl) ?_) <;> (refine rd_end (by kernel_rfl) ?_)) | (refine WP.regionC (id := 16) ?_; (refine sloadpw rfl rfl rfl rfl ?_); (refine se_store_b rfl rfl rfl rfl ?_); apply jW)))
              all_goals try (exfalso; omega)
              all_goals refine bp_r rfl ?_
              all_goals refine retO_L (x := .agg [intA t'.rule, intA t'.term, tresA t'.kids]) (k := 1) (os1 := [(0, some (.arr 7 [.agg [strsA g.terms, strsA g.nonterms, intA g.start, rulesA g.rules, strA s, intA (a2 : Nat), boolsA pr]]))]) (.cellT rfl rfl rfl rfl .nil) rfl ⟨[0], ToR.S rfl (by repeat' (first | exact rt_nil | refine rt_p rfl rfl (by first | (simp [AV.bd, bdL, bdL_append]; done) | fail) ?_)) (by repeat' (first | exact ro_nil | refine ro_p rfl (by first | exact rfl | fail) (by first | (simp [bdL, bdL_append, AV.bd]; done) | fail) ?_)) rfl rfl rfl (by (simp [bdT, AV.bd, bdL, bdL_append]; done)) (by repeat' (first | exact True.intro | refine And.intro ?_ ?_ | (simp [bdOq, bdL, bdL_append, AV.bd]; done))) (by exact Nat.le_of_ble_eq_true rfl)⟩ rfl
  · exact hfine
end Go.Lg
