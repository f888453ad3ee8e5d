/-
  Part 18 of the proof of GrammarfileInjectiveCard: the logic over the model, the functions' contracts and the plain laws.
-/
import Derived.Test.YteipbjbnlleheaaDoorKj17

set_option linter.unusedSimpArgs false
set_option linter.unusedVariables false
set_option linter.unusedSectionVars false

namespace Go.Lg
open Go.Proofs
set_option linter.unusedSimpArgs false
set_option linter.unusedVariables false
attribute [local irreducible] Ap Rq asemC WP RunD Ret Gq thenA inBlockA bodyQ noGotoA RqL RqP OpP
set_option maxHeartbeats 8000000
set_option maxRecDepth 20000
attribute [local simp] AV.cells altA
theorem requalE_fn (a : GEx) : ∀ b : GEx, Fn Tryd.prog 35 [exprA a, exprA b] (boolA (decide (a = b))) := by
  induction a using GEx.ind with
  | h a ih =>
    intro b
    have e1 : decide (a = b) = (decide (a.kind = b.kind) && decide (a.name = b.name) && decide (a.kids = b.kids)) := by
      rw [Bool.eq_iff_iff]; simp only [Bool.and_eq_true, decide_eq_true_eq]; exact gex_iff
    rw [e1, exprA, exprA, kids_exprsA, kids_exprsA]
    refine Fn.intro (by exact rfl) (by kernel_rfl) Tryd.func35 rfl rfl Tryd.ntmps35 (by exact Nat.le_of_ble_eq_true rfl) ?_; intro Γ hm
    refine wp_lens 0 rfl fun hl => ?_
    have hl : a.kids.length ≤ 9223372036854775807 := by have := hl; simp [AV.lens, lensL, exprsA] at this; omega
    (repeat' (first | refine WP.seq ?_ | refine WP.block ?_ | refine go_n ?_ | refine WP.skip ?_ | refine WP.ret ?_ | refine go_r ?_ | refine bo_r ?_ | (refine wp_cond (by exact rfl) (fun hc => ?_) (fun hc => ?_) <;> (try simp only [decide_eq_true_eq, decide_eq_false_iff_not, Decidable.not_not, Bool.and_eq_true, Bool.or_eq_true, Bool.not_eq_true', Bool.not_eq_false', Bool.or_eq_false_iff, Bool.and_eq_false_iff, Int.not_lt, Int.not_le, reduceCtorEq, ne_eq, Bool.not_true, Bool.not_false, Bool.not_eq_true, Bool.not_eq_false] at hc) <;> (try (exfalso; omega))) | (refine WP.regionC (id := 0) ?_; (refine se_box (by exact rfl) (by exact ⟨rfl, rfl⟩) ?_); (refine se_box (by exact rfl) (by exact ⟨rfl, rfl⟩) ?_); (refine su (ap_assign (by exact rq_p rfl rfl)) ?_); refine asemC_end ?_) | (refine WP.regionC (id := 1) ?_; (refine su (ap_field_p (by exact rq_p rfl rfl) (by exact rfl) (by exact rfl)) ?_); (refine su (ap_load_p (by exact rq_p rfl rfl) (by exact rfl) (by exact rfl) (by exact rfl)) ?_); (refine su (ap_field_p (by exact rq_p rfl rfl) (by exact rfl) (by exact rfl)) ?_); (refine su (ap_load_p (by exact rq_p rfl rfl) (by exact rfl) (by exact rfl) (by exact rfl)) ?_); (refine su (ap_neq (by exact rq_p rfl rfl) (by exact rq_p rfl rfl)) ?_); (refine su (ap_move (by exact rq_p rfl rfl)) ?_); (refine sg (by exact gq_vf rfl rfl) (fun he => ap_field_p (by exact rq_p rfl rfl) (by exact rfl) (by exact rfl)) ?_); (refine sg (by exact gq_vf rfl rfl) (fun he => ap_load_p (by exact rq_c rfl rfl) (by exact rfl) (by exact rfl) (by exact rfl)) ?_); (refine sg (by exact gq_vf rfl rfl) (fun he => ap_field_p (by exact rq_p rfl rfl) (by exact rfl) (by exact rfl)) ?_); (refine sg (by exact gq_vf rfl rfl) (fun he => ap_load_p (by exact rq_c rfl rfl) (by exact rfl) (by exact rfl) (by exact rfl)) ?_); (refine sg (by exact gq_vf rfl rfl) (fun he => ap_nes (by exact rq_c rfl rfl) (by exact rq_c rfl rfl)) ?_); (refine su (ap_or (by exact rq_p rfl rfl) (by exact rq_c rfl rfl)) ?_); (refine su (ap_move (by exact rq_p rfl rfl)) ?_); (refine sg (by exact gq_vf rfl rfl) (fun he => ap_field_p (by exact rq_p rfl rfl) (by exact rfl) (by exact rfl)) ?_); (refine sg (by exact gq_vf rfl rfl) (fun he => ap_load_p (by exact rq_c rfl rfl) (by exact rfl) (by exact rfl) (by exact rfl)) ?_); (refine sg (by exact gq_vf rfl rfl) (fun he => ap_len_m (by exact rfl) (by exact rq_c rfl rfl)) ?_); (refine sg (by exact gq_vf rfl rfl) (fun he => ap_field_p (by exact rq_p rfl rfl) (by exact rfl) (by exact rfl)) ?_); (refine sg (by exact gq_vf rfl rfl) (fun he => ap_load_p (by exact rq_c rfl rfl) (by exact rfl) (by exact rfl) (by exact rfl)) ?_); (refine sg (by exact gq_vf rfl rfl) (fun he => ap_len_m (by exact rfl) (by exact rq_c rfl rfl)) ?_); (refine sg (by exact gq_vf rfl rfl) (fun he => ap_neq (by exact rq_c rfl rfl) (by exact rq_c rfl rfl)) ?_); (refine su (ap_or (by exact rq_p rfl rfl) (by exact rq_c rfl rfl)) ?_); refine asemC_end ?_) | (refine WP.regionC (id := 2) ?_; (refine su (ap_assign (by exact rq_p rfl rfl)) ?_); refine asemC_end ?_) | (refine WP.regionC (id := 3) ?_; (refine su (ap_assign (by exact rq_p rfl rfl)) ?_); refine asemC_end ?_) | refine ret_b (by exact rfl) ?_))
    · rw [← e1, decide_eq_false]
      rintro rfl
      simp at hc
    have hc0 := hc
    refine wp_loop (fun (i : Nat) => i ≤ a.kids.length ∧ a.kids.take i = b.kids.take i) (fun i => a.kids.length - i)
      (fun i => (S 46 [(2, .ptr 0 3 0 0), (3, .ptr 1 3 0 0), (5, intA (i : Nat))] 2 [(0, some (.arr 3 [.agg [intA a.kind, strA a.name, exprsA a.kids]])), (1, some (.arr 3 [.agg [intA b.kind, strA b.name, exprsA b.kids]]))])) 0 ⟨[0, 1], ToR.S rfl (by repeat' (first | exact rt_nil | refine rt_t (by exact rfl) (by exact rfl) ?_ | refine rt_e (by exact rfl) (by exact rfl) ?_)) (by repeat' (first | exact ro_nil | refine ro_p (by exact rfl) (by first | exact rfl | fail) (by first | (simp [bdL, bdL_append, AV.bd]; done) | fail) ?_)) (by exact rfl) (by (rw [hm]; exact rfl)) (by exact rfl) (by (simp [bdT, AV.bd, bdL, bdL_append]; done)) (by repeat' (first | exact True.intro | refine And.intro ?_ ?_ | (simp [bdOq, bdL, bdL_append, AV.bd]; done))) (by (rw [hm]; exact Nat.le_of_ble_eq_true rfl))⟩ ⟨Nat.zero_le _, rfl⟩ ?_
    rintro i ⟨hi, hall⟩
    have hab : a.kids.length = b.kids.length := by omega
    by_cases hlt : i < a.kids.length
    · have hx := ih _ (nth_mem hlt) (nth b.kids i)
      (repeat' (first | refine WP.seq ?_ | refine WP.block ?_ | refine go_n ?_ | refine WP.skip ?_ | refine WP.ret ?_ | refine go_r ?_ | refine bl_n ?_ | refine bl_r ?_ | refine bo_r ?_ | (refine wp_cond (by exact rfl) (fun hc => ?_) (fun hc => ?_) <;> (try simp only [decide_eq_true_eq, decide_eq_false_iff_not, Decidable.not_not, Bool.and_eq_true, Bool.or_eq_true, Bool.not_eq_true', Bool.not_eq_false', Bool.or_eq_false_iff, Bool.and_eq_false_iff, Int.not_lt, Int.not_le, reduceCtorEq, ne_eq, Bool.not_true, Bool.not_false, Bool.not_eq_true, Bool.not_eq_false] at hc) <;> (try (exfalso; omega))) | (refine WP.regionC (id := 4) ?_; (refine su (ap_move (by exact rq_p rfl rfl)) ?_); (refine su (ap_field_p (by exact rq_p rfl rfl) (by exact rfl) (by exact rfl)) ?_); (refine su (ap_load_p (by exact rq_p rfl rfl) (by exact rfl) (by exact rfl) (by exact rfl)) ?_); (refine su (ap_len_m (by exact rfl) (by exact rq_p rfl rfl)) ?_); (refine su (ap_lss (by exact rq_p rfl rfl) (by exact rq_p rfl rfl)) ?_); refine asemC_end ?_) | (refine wp_draw (id := 6) 12 mixed (by kernel_rfl) (by kernel_rfl) rfl ?_ <;> (refine rd_u (by exact rfl) (by exact rfl) (ap_field_p (by exact rq_p rfl rfl) (by exact rfl) (by exact rfl)) ?_) <;> (refine rd_u (by exact rfl) (by exact rfl) (ap_load_p (by exact rq_p rfl rfl) (by exact rfl) (by exact rfl) (by exact rfl)) ?_) <;> (refine rd_u (by exact rfl) (by exact rfl) (ap_move (by exact rq_p rfl rfl)) ?_) <;> (refine rd_u (by exact rfl) (by exact rfl) (ap_idx_n (by exact rq_p rfl rfl) (by exact rq_p rfl rfl) (by omega)) ?_) <;> (refine rd_u (by exact rfl) (by exact rfl) (ap_load_w (by exact rq_p rfl rfl) (by exact rfl)) ?_) <;> (refine rd_u (by exact rfl) (by exact rfl) (ap_field_p (by exact rq_p rfl rfl) (by exact rfl) (by exact rfl)) ?_) <;> (refine rd_u (by exact rfl) (by exact rfl) (ap_load_p (by exact rq_p rfl rfl) (by exact rfl) (by exact rfl) (by exact rfl)) ?_) <;> (refine rd_u (by exact rfl) (by exact rfl) (ap_move (by exact rq_p rfl rfl)) ?_) <;> (refine rd_u (by exact rfl) (by exact rfl) (ap_idx_n (by exact rq_p rfl rfl) (by exact rq_p rfl rfl) (by omega)) ?_) <;> (refine rd_u (by exact rfl) (by exact rfl) (ap_load_w (by exact rq_p rfl rfl) (by exact rfl)) ?_) <;> (refine rd_call rfl rfl (by first | ((repeat' first | exact SubL.nil | refine SubL.cons ?_ ?_ | exact Sub.refl); done) | fail) (by first | (simp [bdL, bdL_append, AV.bd]; done) | fail) (hx) ?_) <;> (refine rd_u (by exact rfl) (by exact rfl) (ap_not (by exact rq_p rfl rfl)) ?_) <;> (refine rd_end (by kernel_rfl) ?_)) | (refine WP.regionC (id := 7) ?_; (refine su (ap_assign (by exact rq_p rfl rfl)) ?_); refine asemC_end ?_) | (refine WP.regionC (id := 5) ?_; (refine su (ap_move (by exact rq_p rfl rfl)) ?_); (refine su (ap_add (by exact rq_p rfl rfl) (by exact rq_p rfl rfl) (by exact inr_i64_of (by omega))) ?_); (refine su (ap_assign (by exact rq_p rfl rfl)) ?_); refine asemC_end ?_) | refine ret_b (by exact rfl) ?_))
      · have : a.kids ≠ b.kids := by intro h; rw [h] at hc; exact hc rfl
        simp [this]
      · exact ⟨i + 1, ⟨by omega, by omega, take_eq_succ (by omega) (by omega) hall hc⟩, ⟨[0, 1], ToR.S rfl (by repeat' (first | exact rt_nil | refine rt_t (by exact rfl) (by exact rfl) ?_ | refine rt_e (by exact rfl) (by exact rfl) ?_)) (by repeat' (first | exact ro_nil | refine ro_p (by exact rfl) (by first | exact rfl | fail) (by first | (simp [bdL, bdL_append, AV.bd]; done) | fail) ?_)) (by exact rfl) (by (rw [hm]; exact rfl)) (by exact rfl) (by (simp [bdT, AV.bd, bdL, bdL_append]; done)) (by repeat' (first | exact True.intro | refine And.intro ?_ ?_ | (simp [bdOq, bdL, bdL_append, AV.bd]; done))) (by (rw [hm]; exact Nat.le_of_ble_eq_true rfl))⟩⟩
    (repeat' (first | refine WP.seq ?_ | refine go_n ?_ | refine WP.exit ?_ | refine WP.ret ?_ | refine go_x ?_ | refine bl_x ?_ | refine bo_r ?_ | (refine wp_cond (by exact rfl) (fun hc => ?_) (fun hc => ?_) <;> (try simp only [decide_eq_true_eq, decide_eq_false_iff_not, Decidable.not_not, Bool.and_eq_true, Bool.or_eq_true, Bool.not_eq_true', Bool.not_eq_false', Bool.or_eq_false_iff, Bool.and_eq_false_iff, Int.not_lt, Int.not_le, reduceCtorEq, ne_eq, Bool.not_true, Bool.not_false, Bool.not_eq_true, Bool.not_eq_false] at hc) <;> (try (exfalso; omega))) | (refine WP.regionC (id := 4) ?_; (refine su (ap_move (by exact rq_p rfl rfl)) ?_); (refine su (ap_field_p (by exact rq_p rfl rfl) (by exact rfl) (by exact rfl)) ?_); (refine su (ap_load_p (by exact rq_p rfl rfl) (by exact rfl) (by exact rfl) (by exact rfl)) ?_); (refine su (ap_len_m (by exact rfl) (by exact rq_p rfl rfl)) ?_); (refine su (ap_lss (by exact rq_p rfl rfl) (by exact rq_p rfl rfl)) ?_); refine asemC_end ?_) | (refine WP.regionC (id := 8) ?_; (refine su (ap_assign (by exact rq_p rfl rfl)) ?_); refine asemC_end ?_) | refine ret_b (by exact rfl) ?_))
    simp [eq_of_takes hab (by omega) hall, hc0.1.1, hc0.1.2]
theorem level_ne {a b : List GLe} {i : Nat} (h : nth a i ≠ nth b i) : a ≠ b := by rintro rfl; exact h rfl
theorem samelev_fn (a b : List GLe) : Fn Tryd.prog 34 [levelsA a, levelsA b] (boolA (decide (a = b))) := by
  refine Fn.intro (by exact rfl) (by kernel_rfl) Tryd.func34 rfl rfl Tryd.ntmps34 (by exact Nat.le_of_ble_eq_true rfl) ?_; intro Γ hm
  refine wp_lens 0 rfl fun hl => ?_
  have hl0 : a.length ≤ 9223372036854775807 := by simpa [levelsA] using hl.1
  have hll : ∀ x, x ∈ a → x.tokens.length ≤ 9223372036854775807 := by
    have := hl; simp [AV.lens, levelsA, lensL_map, levelA, lensL] at this
    exact this.2
  (repeat' (first | refine WP.seq ?_ | refine WP.block ?_ | refine go_n ?_ | refine WP.skip ?_ | refine WP.ret ?_ | refine go_r ?_ | refine bo_r ?_ | (refine wp_cond (by exact rfl) (fun hc => ?_) (fun hc => ?_) <;> (try simp only [decide_eq_true_eq, decide_eq_false_iff_not, Decidable.not_not, Bool.and_eq_true, Bool.or_eq_true, Bool.not_eq_true', Bool.not_eq_false', Bool.or_eq_false_iff, Bool.and_eq_false_iff, Int.not_lt, Int.not_le, reduceCtorEq, ne_eq, Bool.not_true, Bool.not_false, Bool.not_eq_true, Bool.not_eq_false] at hc) <;> (try (exfalso; omega))) | (refine WP.regionC (id := 0) ?_; (refine su (ap_assign (by exact rq_p rfl rfl)) ?_); refine asemC_end ?_) | (refine WP.regionC (id := 1) ?_; (refine su (ap_move (by exact rq_p rfl rfl)) ?_); (refine su (ap_len_m (by exact rfl) (by exact rq_p rfl rfl)) ?_); (refine su (ap_move (by exact rq_p rfl rfl)) ?_); (refine su (ap_len_m (by exact rfl) (by exact rq_p rfl rfl)) ?_); (refine su (ap_neq (by exact rq_p rfl rfl) (by exact rq_p rfl rfl)) ?_); refine asemC_end ?_) | (refine WP.regionC (id := 2) ?_; (refine su (ap_assign (by exact rq_p rfl rfl)) ?_); refine asemC_end ?_) | (refine WP.regionC (id := 3) ?_; (refine su (ap_assign (by exact rq_p rfl rfl)) ?_); refine asemC_end ?_) | refine ret_b (by exact rfl) ?_))
  · rw [decide_eq_false]
    rintro rfl
    exact hc rfl
  refine wp_loop (fun (i : Nat) => i ≤ a.length ∧ a.take i = b.take i) (fun i => a.length - i)
    (fun i => (S 71 [(0, levelsA a), (1, levelsA b), (5, intA (i : Nat))] 0 [])) 0 ⟨[], ToR.S rfl (by repeat' (first | exact rt_nil | refine rt_e (by exact rfl) (by exact rfl) ?_ | refine rt_p (by exact rfl) (by exact rfl) (by first | (simp [AV.bd, bdL, bdL_append]; done) | fail) ?_)) (by repeat' (exact ro_nil)) (by exact rfl) (by (rw [hm]; exact rfl)) (by exact rfl) (by (simp [bdT, AV.bd, bdL, bdL_append]; done)) (by repeat' (exact True.intro)) (by (rw [hm]; exact Nat.le_of_ble_eq_true rfl))⟩ ⟨Nat.zero_le _, rfl⟩ ?_
  rintro i ⟨hi, hall⟩
  have hab : a.length = b.length := by omega
  by_cases hlt : i < a.length
  · have hlb : i < b.length := by omega
    have hti := hll _ (nth_mem hlt)
    (repeat' (first | refine WP.seq ?_ | refine WP.block ?_ | refine go_n ?_ | refine WP.skip ?_ | refine WP.ret ?_ | refine go_r ?_ | refine bl_r ?_ | refine bo_r ?_ | (refine wp_cond (by exact rfl) (fun hc => ?_) (fun hc => ?_) <;> (try simp only [decide_eq_true_eq, decide_eq_false_iff_not, Decidable.not_not, Bool.and_eq_true, Bool.or_eq_true, Bool.not_eq_true', Bool.not_eq_false', Bool.or_eq_false_iff, Bool.and_eq_false_iff, Int.not_lt, Int.not_le, reduceCtorEq, ne_eq, Bool.not_true, Bool.not_false, Bool.not_eq_true, Bool.not_eq_false] at hc) <;> (try (exfalso; omega))) | (refine WP.regionC (id := 4) ?_; (refine su (ap_move (by exact rq_p rfl rfl)) ?_); (refine su (ap_move (by exact rq_p rfl rfl)) ?_); (refine su (ap_len_m (by exact rfl) (by exact rq_p rfl rfl)) ?_); (refine su (ap_lss (by exact rq_p rfl rfl) (by exact rq_p rfl rfl)) ?_); refine asemC_end ?_) | (refine wp_draw (id := 6) 26 mixed (by kernel_rfl) (by kernel_rfl) rfl ?_ <;> (refine rd_u (by exact rfl) (by exact rfl) (ap_move (by exact rq_p rfl rfl)) ?_) <;> (refine rd_u (by exact rfl) (by exact rfl) (ap_move (by exact rq_p rfl rfl)) ?_) <;> (refine rd_u (by exact rfl) (by exact rfl) (ap_idx_n (by exact rq_p rfl rfl) (by exact rq_p rfl rfl) (by omega)) ?_) <;> (refine rd_u (by exact rfl) (by exact rfl) (ap_field_i (by exact rq_p rfl rfl) (by exact rfl) (by exact rfl)) ?_) <;> (refine rd_u (by exact rfl) (by exact rfl) (ap_load_i (by exact rq_p rfl rfl) (by exact rfl)) ?_) <;> (refine rd_u (by exact rfl) (by exact rfl) (ap_move (by exact rq_p rfl rfl)) ?_) <;> (refine rd_u (by exact rfl) (by exact rfl) (ap_move (by exact rq_p rfl rfl)) ?_) <;> (refine rd_u (by exact rfl) (by exact rfl) (ap_idx_n (by exact rq_p rfl rfl) (by exact rq_p rfl rfl) (by omega)) ?_) <;> (refine rd_u (by exact rfl) (by exact rfl) (ap_field_i (by exact rq_p rfl rfl) (by exact rfl) (by exact rfl)) ?_) <;> (refine rd_u (by exact rfl) (by exact rfl) (ap_load_i (by exact rq_p rfl rfl) (by exact rfl)) ?_) <;> (refine rd_u (by exact rfl) (by exact rfl) (ap_neq (by exact rq_p rfl rfl) (by exact rq_p rfl rfl)) ?_) <;> (refine rd_u (by exact rfl) (by exact rfl) (ap_move (by exact rq_p rfl rfl)) ?_) <;> ((refine rd_split (t := 29) (by exact rfl) (fun hc => ?_) (fun hc => ?_) <;> (try simp only [decide_eq_true_eq, decide_eq_false_iff_not, Decidable.not_not, Bool.and_eq_true, Bool.or_eq_true, Bool.not_eq_true', Bool.not_eq_false', Bool.or_eq_false_iff, Bool.and_eq_false_iff, Int.not_lt, Int.not_le, reduceCtorEq, ne_eq, Bool.not_true, Bool.not_false, Bool.not_eq_true, Bool.not_eq_false] at hc) <;> (try (exfalso; omega)) <;> (first | refine rd_skip rfl rfl ?_ | refine rdg_u rfl rfl (by exact rfl) (by exact rfl) (ap_move (by exact rq_p rfl rfl)) ?_))) <;> (first | refine rd_skip rfl rfl ?_ | refine rdg_u rfl rfl (by exact rfl) (by exact rfl) (ap_move (by exact rq_p rfl rfl)) ?_) <;> (first | refine rd_skip rfl rfl ?_ | refine rdg_u rfl rfl (by exact rfl) (by exact rfl) (ap_idx_n (by exact rq_p rfl rfl) (by exact rq_p rfl rfl) (by omega)) ?_) <;> (first | refine rd_skip rfl rfl ?_ | refine rdg_u rfl rfl (by exact rfl) (by exact rfl) (ap_field_i (by exact rq_p rfl rfl) (by exact rfl) (by exact rfl)) ?_) <;> (first | refine rd_skip rfl rfl ?_ | refine rdg_u rfl rfl (by exact rfl) (by exact rfl) (ap_load_i (by exact rq_p rfl rfl) (by exact rfl)) ?_) <;> (first | refine rd_skip rfl rfl ?_ | refine rdg_u rfl rfl (by exact rfl) (by exact rfl) (ap_len_m (by exact rfl) (by exact rq_p rfl rfl)) ?_) <;> (first | refine rd_skip rfl rfl ?_ | refine rdg_u rfl rfl (by exact rfl) (by exact rfl) (ap_move (by exact rq_p rfl rfl)) ?_) <;> (first | refine rd_skip rfl rfl ?_ | refine rdg_u rfl rfl (by exact rfl) (by exact rfl) (ap_move (by exact rq_p rfl rfl)) ?_) <;> (first | refine rd_skip rfl rfl ?_ | refine rdg_u rfl rfl (by exact rfl) (by exact rfl) (ap_idx_n (by exact rq_p rfl rfl) (by exact rq_p rfl rfl) (by omega)) ?_) <;> (first | refine rd_skip rfl rfl ?_ | refine rdg_u rfl rfl (by exact rfl) (by exact rfl) (ap_field_i (by exact rq_p rfl rfl) (by exact rfl) (by exact rfl)) ?_) <;> (first | refine rd_skip rfl rfl ?_ | refine rdg_u rfl rfl (by exact rfl) (by exact rfl) (ap_load_i (by exact rq_p rfl rfl) (by exact rfl)) ?_) <;> (first | refine rd_skip rfl rfl ?_ | refine rdg_u rfl rfl (by exact rfl) (by exact rfl) (ap_len_m (by exact rfl) (by exact rq_p rfl rfl)) ?_) <;> (first | refine rd_skip rfl rfl ?_ | refine rdg_u rfl rfl (by exact rfl) (by exact rfl) (ap_neq (by exact rq_p rfl rfl) (by exact rq_p rfl rfl)) ?_) <;> (first | refine rd_pick_t (by exact rfl) (by exact rfl) ?_ | refine rd_pick_f (by exact rfl) (by exact rfl) ?_) <;> (refine rd_end (by kernel_rfl) ?_)) | (refine WP.regionC (id := 7) ?_; (refine su (ap_assign (by exact rq_p rfl rfl)) ?_); refine asemC_end ?_) | (refine WP.regionC (id := 8) ?_; (refine su (ap_assign (by exact rq_p rfl rfl)) ?_); refine asemC_end ?_) | refine ret_b (by exact rfl) ?_))
    · rename_i hA
      rw [decide_eq_false (level_ne fun h => hA (by rw [h]))]
    · rw [decide_eq_false (level_ne fun h => hc (by rw [h]))]
    rename_i hA
    have hc1 := hc
    refine wp_loop (fun (k : Nat) => k ≤ (nth a i).tokens.length ∧ (nth a i).tokens.take k = (nth b i).tokens.take k) (fun k => (nth a i).tokens.length - k)
      (fun k => (S 71 [(0, levelsA a), (1, levelsA b), (5, intA (i : Nat)), (6, intA (k : Nat))] 0 [])) 0 ⟨[], ToR.S rfl (by repeat' (first | exact rt_nil | refine rt_e (by exact rfl) (by exact rfl) ?_ | refine rt_p (by exact rfl) (by exact rfl) (by first | (simp [AV.bd, bdL, bdL_append]; done) | fail) ?_)) (by repeat' (exact ro_nil)) (by exact rfl) (by (rw [hm]; exact rfl)) (by exact rfl) (by (simp [bdT, AV.bd, bdL, bdL_append]; done)) (by repeat' (exact True.intro)) (by (rw [hm]; exact Nat.le_of_ble_eq_true rfl))⟩ ⟨Nat.zero_le _, rfl⟩ ?_
    rintro k ⟨hk, hkall⟩
    have htl : (nth a i).tokens.length = (nth b i).tokens.length := by omega
    by_cases hkl : k < (nth a i).tokens.length
    · (repeat' (first | refine WP.seq ?_ | refine WP.block ?_ | refine go_n ?_ | refine WP.skip ?_ | refine WP.ret ?_ | refine go_r ?_ | refine bl_n ?_ | refine bl_r ?_ | refine bo_r ?_ | (refine wp_cond (by exact rfl) (fun hc => ?_) (fun hc => ?_) <;> (try simp only [decide_eq_true_eq, decide_eq_false_iff_not, Decidable.not_not, Bool.and_eq_true, Bool.or_eq_true, Bool.not_eq_true', Bool.not_eq_false', Bool.or_eq_false_iff, Bool.and_eq_false_iff, Int.not_lt, Int.not_le, reduceCtorEq, ne_eq, Bool.not_true, Bool.not_false, Bool.not_eq_true, Bool.not_eq_false] at hc) <;> (try (exfalso; omega))) | (refine WP.regionC (id := 9) ?_; (refine su (ap_move (by exact rq_p rfl rfl)) ?_); (refine su (ap_move (by exact rq_p rfl rfl)) ?_); (refine su (ap_move (by exact rq_p rfl rfl)) ?_); (refine su (ap_idx_n (by exact rq_p rfl rfl) (by exact rq_p rfl rfl) (by omega)) ?_); (refine su (ap_field_i (by exact rq_p rfl rfl) (by exact rfl) (by exact rfl)) ?_); (refine su (ap_load_i (by exact rq_p rfl rfl) (by exact rfl)) ?_); (refine su (ap_len_m (by exact rfl) (by exact rq_p rfl rfl)) ?_); (refine su (ap_lss (by exact rq_p rfl rfl) (by exact rq_p rfl rfl)) ?_); refine asemC_end ?_) | (refine wp_draw (id := 11) 17 mixed (by kernel_rfl) (by kernel_rfl) rfl ?_ <;> (refine rd_u (by exact rfl) (by exact rfl) (ap_move (by exact rq_p rfl rfl)) ?_) <;> (refine rd_u (by exact rfl) (by exact rfl) (ap_move (by exact rq_p rfl rfl)) ?_) <;> (refine rd_u (by exact rfl) (by exact rfl) (ap_idx_n (by exact rq_p rfl rfl) (by exact rq_p rfl rfl) (by omega)) ?_) <;> (refine rd_u (by exact rfl) (by exact rfl) (ap_field_i (by exact rq_p rfl rfl) (by exact rfl) (by exact rfl)) ?_) <;> (refine rd_u (by exact rfl) (by exact rfl) (ap_load_i (by exact rq_p rfl rfl) (by exact rfl)) ?_) <;> (refine rd_u (by exact rfl) (by exact rfl) (ap_move (by exact rq_p rfl rfl)) ?_) <;> (refine rd_u (by exact rfl) (by exact rfl) (ap_idx_n (by exact rq_p rfl rfl) (by exact rq_p rfl rfl) (by omega)) ?_) <;> (refine rd_u (by exact rfl) (by exact rfl) (ap_load_w (by exact rq_p rfl rfl) (by exact rfl)) ?_) <;> (refine rd_u (by exact rfl) (by exact rfl) (ap_move (by exact rq_p rfl rfl)) ?_) <;> (refine rd_u (by exact rfl) (by exact rfl) (ap_move (by exact rq_p rfl rfl)) ?_) <;> (refine rd_u (by exact rfl) (by exact rfl) (ap_idx_n (by exact rq_p rfl rfl) (by exact rq_p rfl rfl) (by omega)) ?_) <;> (refine rd_u (by exact rfl) (by exact rfl) (ap_field_i (by exact rq_p rfl rfl) (by exact rfl) (by exact rfl)) ?_) <;> (refine rd_u (by exact rfl) (by exact rfl) (ap_load_i (by exact rq_p rfl rfl) (by exact rfl)) ?_) <;> (refine rd_u (by exact rfl) (by exact rfl) (ap_move (by exact rq_p rfl rfl)) ?_) <;> (refine rd_u (by exact rfl) (by exact rfl) (ap_idx_n (by exact rq_p rfl rfl) (by exact rq_p rfl rfl) (by omega)) ?_) <;> (refine rd_u (by exact rfl) (by exact rfl) (ap_load_w (by exact rq_p rfl rfl) (by exact rfl)) ?_) <;> (refine rd_u (by exact rfl) (by exact rfl) (ap_nes (by exact rq_p rfl rfl) (by exact rq_p rfl rfl)) ?_) <;> (refine rd_end (by kernel_rfl) ?_)) | (refine WP.regionC (id := 12) ?_; (refine su (ap_assign (by exact rq_p rfl rfl)) ?_); refine asemC_end ?_) | (refine WP.regionC (id := 10) ?_; (refine su (ap_move (by exact rq_p rfl rfl)) ?_); (refine su (ap_add (by exact rq_p rfl rfl) (by exact rq_p rfl rfl) (by exact inr_i64_of (by omega))) ?_); (refine su (ap_assign (by exact rq_p rfl rfl)) ?_); refine asemC_end ?_) | refine ret_b (by exact rfl) ?_))
      · have hne : nth a i ≠ nth b i := by
          intro h; rw [h] at hc; exact hc rfl
        rw [decide_eq_false (level_ne hne)]
      · exact ⟨k + 1, ⟨by omega, by omega, take_eq_succ (by omega) (by omega) hkall hc⟩, ⟨[], ToR.S rfl (by repeat' (first | exact rt_nil | refine rt_e (by exact rfl) (by exact rfl) ?_ | refine rt_p (by exact rfl) (by exact rfl) (by first | (simp [AV.bd, bdL, bdL_append]; done) | fail) ?_)) (by repeat' (exact ro_nil)) (by exact rfl) (by (rw [hm]; exact rfl)) (by exact rfl) (by (simp [bdT, AV.bd, bdL, bdL_append]; done)) (by repeat' (exact True.intro)) (by (rw [hm]; exact Nat.le_of_ble_eq_true rfl))⟩⟩
    (repeat' (first | refine WP.seq ?_ | refine go_n ?_ | refine WP.exit ?_ | refine go_x ?_ | refine bl_n ?_ | refine bl_x ?_ | (refine wp_cond (by exact rfl) (fun hc => ?_) (fun hc => ?_) <;> (try simp only [decide_eq_true_eq, decide_eq_false_iff_not, Decidable.not_not, Bool.and_eq_true, Bool.or_eq_true, Bool.not_eq_true', Bool.not_eq_false', Bool.or_eq_false_iff, Bool.and_eq_false_iff, Int.not_lt, Int.not_le, reduceCtorEq, ne_eq, Bool.not_true, Bool.not_false, Bool.not_eq_true, Bool.not_eq_false] at hc) <;> (try (exfalso; omega))) | (refine WP.regionC (id := 9) ?_; (refine su (ap_move (by exact rq_p rfl rfl)) ?_); (refine su (ap_move (by exact rq_p rfl rfl)) ?_); (refine su (ap_move (by exact rq_p rfl rfl)) ?_); (refine su (ap_idx_n (by exact rq_p rfl rfl) (by exact rq_p rfl rfl) (by omega)) ?_); (refine su (ap_field_i (by exact rq_p rfl rfl) (by exact rfl) (by exact rfl)) ?_); (refine su (ap_load_i (by exact rq_p rfl rfl) (by exact rfl)) ?_); (refine su (ap_len_m (by exact rfl) (by exact rq_p rfl rfl)) ?_); (refine su (ap_lss (by exact rq_p rfl rfl) (by exact rq_p rfl rfl)) ?_); refine asemC_end ?_) | (refine WP.regionC (id := 5) ?_; (refine su (ap_move (by exact rq_p rfl rfl)) ?_); (refine su (ap_add (by exact rq_p rfl rfl) (by exact rq_p rfl rfl) (by exact inr_i64_of (by omega))) ?_); (refine su (ap_assign (by exact rq_p rfl rfl)) ?_); refine asemC_end ?_)))
    exact ⟨i + 1, ⟨by omega, by omega, take_eq_succ (by omega) (by omega) hall (gle_iff.2 ⟨hA, eq_of_takes htl (by omega) hkall⟩)⟩, ⟨[], ToR.S rfl (by repeat' (first | exact rt_nil | refine rt_e (by exact rfl) (by exact rfl) ?_ | refine rt_p (by exact rfl) (by exact rfl) (by first | (simp [AV.bd, bdL, bdL_append]; done) | fail) ?_)) (by repeat' (exact ro_nil)) (by exact rfl) (by (rw [hm]; exact rfl)) (by exact rfl) (by (simp [bdT, AV.bd, bdL, bdL_append]; done)) (by repeat' (exact True.intro)) (by (rw [hm]; exact Nat.le_of_ble_eq_true rfl))⟩⟩
  (repeat' (first | refine WP.seq ?_ | refine go_n ?_ | refine WP.exit ?_ | refine WP.ret ?_ | refine go_x ?_ | refine bl_x ?_ | refine bo_r ?_ | (refine wp_cond (by exact rfl) (fun hc => ?_) (fun hc => ?_) <;> (try simp only [decide_eq_true_eq, decide_eq_false_iff_not, Decidable.not_not, Bool.and_eq_true, Bool.or_eq_true, Bool.not_eq_true', Bool.not_eq_false', Bool.or_eq_false_iff, Bool.and_eq_false_iff, Int.not_lt, Int.not_le, reduceCtorEq, ne_eq, Bool.not_true, Bool.not_false, Bool.not_eq_true, Bool.not_eq_false] at hc) <;> (try (exfalso; omega))) | (refine WP.regionC (id := 4) ?_; (refine su (ap_move (by exact rq_p rfl rfl)) ?_); (refine su (ap_move (by exact rq_p rfl rfl)) ?_); (refine su (ap_len_m (by exact rfl) (by exact rq_p rfl rfl)) ?_); (refine su (ap_lss (by exact rq_p rfl rfl) (by exact rq_p rfl rfl)) ?_); refine asemC_end ?_) | (refine WP.regionC (id := 13) ?_; (refine su (ap_assign (by exact rq_p rfl rfl)) ?_); refine asemC_end ?_) | refine ret_b (by exact rfl) ?_))
  simp [eq_of_takes hab (by omega) hall]
theorem requal_fn (x y : GFi) : Fn Tryd.prog 14 [fileA x, fileA y] (boolA (decide (x = y))) := by
  have e1 : decide (x = y) = (decide (x.start = y.start) && decide (x.levels = y.levels) && decide (x.rules = y.rules)) := by
    rw [Bool.eq_iff_iff]; simp only [Bool.and_eq_true, decide_eq_true_eq]; exact gfi_iff
  rw [e1]
  refine Fn.intro (by exact rfl) (by kernel_rfl) Tryd.func14 rfl rfl Tryd.ntmps14 (by exact Nat.le_of_ble_eq_true rfl) ?_; intro Γ hm
  refine wp_lens 0 rfl fun hl => ?_
  have hl0 : x.rules.length ≤ 9223372036854775807 := by have := hl; simp [AV.lens, lensL, fileA, levelsA, grulesA] at this; omega
  have hll : ∀ r, r ∈ x.rules → r.alts.length ≤ 9223372036854775807 := by
    have := hl; simp [AV.lens, lensL, fileA, levelsA, grulesA, lensL_map] at this
    intro r hr
    have := this.2.2.2 _ hr
    simp [gruleA, AV.lens, lensL, altsA] at this
    omega
  (repeat' (first | refine WP.seq ?_ | refine WP.block ?_ | refine go_n ?_ | refine WP.skip ?_ | refine WP.ret ?_ | refine go_r ?_ | refine bo_r ?_ | (refine wp_cond (by exact rfl) (fun hc => ?_) (fun hc => ?_) <;> (try simp only [decide_eq_true_eq, decide_eq_false_iff_not, Decidable.not_not, Bool.and_eq_true, Bool.or_eq_true, Bool.not_eq_true', Bool.not_eq_false', Bool.or_eq_false_iff, Bool.and_eq_false_iff, Int.not_lt, Int.not_le, reduceCtorEq, ne_eq, Bool.not_true, Bool.not_false, Bool.not_eq_true, Bool.not_eq_false] at hc) <;> (try (exfalso; omega))) | (refine WP.regionC (id := 0) ?_; (refine se_box (by exact rfl) (by exact ⟨rfl, rfl⟩) ?_); (refine se_box (by exact rfl) (by exact ⟨rfl, rfl⟩) ?_); (refine su (ap_assign (by exact rq_p rfl rfl)) ?_); refine asemC_end ?_) | (refine WP.regionC (id := 1) ?_; (refine su (ap_field_p (by exact rq_p rfl rfl) (by exact rfl) (by exact rfl)) ?_); (refine su (ap_load_p (by exact rq_p rfl rfl) (by exact rfl) (by exact rfl) (by exact rfl)) ?_); (refine su (ap_field_p (by exact rq_p rfl rfl) (by exact rfl) (by exact rfl)) ?_); (refine su (ap_load_p (by exact rq_p rfl rfl) (by exact rfl) (by exact rfl) (by exact rfl)) ?_); (refine su (ap_nes (by exact rq_p rfl rfl) (by exact rq_p rfl rfl)) ?_); (refine su (ap_move (by exact rq_p rfl rfl)) ?_); (refine sg (by exact gq_vf rfl rfl) (fun he => ap_field_p (by exact rq_p rfl rfl) (by exact rfl) (by exact rfl)) ?_); (refine sg (by exact gq_vf rfl rfl) (fun he => ap_load_p (by exact rq_c rfl rfl) (by exact rfl) (by exact rfl) (by exact rfl)) ?_); (refine sg (by exact gq_vf rfl rfl) (fun he => ap_field_p (by exact rq_p rfl rfl) (by exact rfl) (by exact rfl)) ?_); (refine sg (by exact gq_vf rfl rfl) (fun he => ap_load_p (by exact rq_c rfl rfl) (by exact rfl) (by exact rfl) (by exact rfl)) ?_); (refine sg_p (by exact gq_vf rfl rfl) (fun he => ⟨(by exact rq_p rfl rfl), (RqL.cons (by exact rq_c rfl rfl) (RqL.cons (by exact rq_c rfl rfl) (RqL.nil))), (by first | ((repeat' first | exact SubL.nil | refine SubL.cons ?_ ?_ | exact Sub.refl); done) | fail), (by first | (simp [bdL, bdL_append, AV.bd]; done) | fail), samelev_fn x.levels y.levels⟩) ?_); (refine sg (by exact gq_vf rfl rfl) (fun he => ap_not (by exact rq_c rfl rfl)) ?_); (refine su (ap_or (by exact rq_p rfl rfl) (by exact rq_c rfl rfl)) ?_); (refine su (ap_move (by exact rq_p rfl rfl)) ?_); (refine sg (by exact gq_vf rfl rfl) (fun he => ap_field_p (by exact rq_p rfl rfl) (by exact rfl) (by exact rfl)) ?_); (refine sg (by exact gq_vf rfl rfl) (fun he => ap_load_p (by exact rq_c rfl rfl) (by exact rfl) (by exact rfl) (by exact rfl)) ?_); (refine sg (by exact gq_vf rfl rfl) (fun he => ap_len_m (by exact rfl) (by exact rq_c rfl rfl)) ?_); (refine sg (by exact gq_vf rfl rfl) (fun he => ap_field_p (by exact rq_p rfl rfl) (by exact rfl) (by exact rfl)) ?_); (refine sg (by exact gq_vf rfl rfl) (fun he => ap_load_p (by exact rq_c rfl rfl) (by exact rfl) (by exact rfl) (by exact rfl)) ?_); (refine sg (by exact gq_vf rfl rfl) (fun he => ap_len_m (by exact rfl) (by exact rq_c rfl rfl)) ?_); (refine sg (by exact gq_vf rfl rfl) (fun he => ap_neq (by exact rq_c rfl rfl) (by exact rq_c rfl rfl)) ?_); (refine su (ap_or (by exact rq_p rfl rfl) (by exact rq_c rfl rfl)) ?_); refine asemC_end ?_) | (refine WP.regionC (id := 2) ?_; (refine su (ap_assign (by exact rq_p rfl rfl)) ?_); refine asemC_end ?_) | (refine WP.regionC (id := 3) ?_; (refine su (ap_assign (by exact rq_p rfl rfl)) ?_); refine asemC_end ?_) | refine ret_b (by exact rfl) ?_))
  · rw [← e1, decide_eq_false]
    rintro rfl
    simp at hc
  have hc0 := hc
  refine wp_loop (fun (i : Nat) => i ≤ x.rules.length ∧ x.rules.take i = y.rules.take i) (fun i => x.rules.length - i)
    (fun i => (S 98 [(2, .ptr 0 3 0 0), (3, .ptr 1 3 0 0), (5, intA (i : Nat))] 2 [(0, some (.arr 3 [fileA x])), (1, some (.arr 3 [fileA y]))])) 0 ⟨[0, 1], ToR.S rfl (by repeat' (first | exact rt_nil | refine rt_t (by exact rfl) (by exact rfl) ?_ | refine rt_e (by exact rfl) (by exact rfl) ?_)) (by repeat' (first | exact ro_nil | refine ro_p (by exact rfl) (by first | exact rfl | fail) (by first | (simp [bdL, bdL_append, AV.bd]; done) | fail) ?_)) (by exact rfl) (by (rw [hm]; exact rfl)) (by exact rfl) (by (simp [bdT, AV.bd, bdL, bdL_append]; done)) (by repeat' (first | exact True.intro | refine And.intro ?_ ?_ | (simp [bdOq, bdL, bdL_append, AV.bd]; done))) (by (rw [hm]; exact Nat.le_of_ble_eq_true rfl))⟩ ⟨Nat.zero_le _, rfl⟩ ?_
  rintro i ⟨hi, hall⟩
  have hab : x.rules.length = y.rules.length := by omega
  by_cases hlt : i < x.rules.length
  · have hlb : i < y.rules.length := by omega
    have hti := hll _ (nth_mem hlt)
    have hno : nth x.rules i ≠ nth y.rules i → (decide (x.start = y.start) && decide (x.levels = y.levels) && decide (x.rules = y.rules)) = false := by
      intro h
      have : x.rules ≠ y.rules := by intro h2; rw [h2] at h; exact h rfl
      simp [this]
    (repeat' (first | refine WP.seq ?_ | refine WP.block ?_ | refine go_n ?_ | refine WP.skip ?_ | refine WP.ret ?_ | refine go_r ?_ | refine bl_r ?_ | refine bo_r ?_ | (refine wp_cond (by exact rfl) (fun hc => ?_) (fun hc => ?_) <;> (try simp only [decide_eq_true_eq, decide_eq_false_iff_not, Decidable.not_not, Bool.and_eq_true, Bool.or_eq_true, Bool.not_eq_true', Bool.not_eq_false', Bool.or_eq_false_iff, Bool.and_eq_false_iff, Int.not_lt, Int.not_le, reduceCtorEq, ne_eq, Bool.not_true, Bool.not_false, Bool.not_eq_true, Bool.not_eq_false] at hc) <;> (try (exfalso; omega))) | (refine WP.regionC (id := 4) ?_; (refine su (ap_move (by exact rq_p rfl rfl)) ?_); (refine su (ap_field_p (by exact rq_p rfl rfl) (by exact rfl) (by exact rfl)) ?_); (refine su (ap_load_p (by exact rq_p rfl rfl) (by exact rfl) (by exact rfl) (by exact rfl)) ?_); (refine su (ap_len_m (by exact rfl) (by exact rq_p rfl rfl)) ?_); (refine su (ap_lss (by exact rq_p rfl rfl) (by exact rq_p rfl rfl)) ?_); refine asemC_end ?_) | (refine wp_draw (id := 6) 14 mixed (by kernel_rfl) (by kernel_rfl) rfl ?_ <;> (refine rd_u (by exact rfl) (by exact rfl) (ap_field_p (by exact rq_p rfl rfl) (by exact rfl) (by exact rfl)) ?_) <;> (refine rd_u (by exact rfl) (by exact rfl) (ap_load_p (by exact rq_p rfl rfl) (by exact rfl) (by exact rfl) (by exact rfl)) ?_) <;> (refine rd_u (by exact rfl) (by exact rfl) (ap_move (by exact rq_p rfl rfl)) ?_) <;> (refine rd_u (by exact rfl) (by exact rfl) (ap_idx_n (by exact rq_p rfl rfl) (by exact rq_p rfl rfl) (by omega)) ?_) <;> (refine rd_u (by exact rfl) (by exact rfl) (ap_load_w (by exact rq_p rfl rfl) (by exact rfl)) ?_) <;> (refine rd_u (by exact rfl) (by exact rfl) (ap_field_p (by exact rq_p rfl rfl) (by exact rfl) (by exact rfl)) ?_) <;> (refine rd_u (by exact rfl) (by exact rfl) (ap_load_p (by exact rq_p rfl rfl) (by exact rfl) (by exact rfl) (by exact rfl)) ?_) <;> (refine rd_u (by exact rfl) (by exact rfl) (ap_move (by exact rq_p rfl rfl)) ?_) <;> (refine rd_u (by exact rfl) (by exact rfl) (ap_idx_n (by exact rq_p rfl rfl) (by exact rq_p rfl rfl) (by omega)) ?_) <;> (refine rd_u (by exact rfl) (by exact rfl) (ap_load_w (by exact rq_p rfl rfl) (by exact rfl)) ?_) <;> (refine rd_alloc (by exact rfl) ?_) <;> (refine rd_alloc (by exact rfl) ?_) <;> (refine rd_store_b (by exact rfl) (by exact rfl) (by exact rfl) (by exact rfl) ?_) <;> (refine rd_store_b (by exact rfl) (by exact rfl) (by exact rfl) (by exact rfl) ?_) <;> (refine rd_end (by kernel_rfl) ?_)) | (refine WP.regionC (id := 7) ?_; (refine su (ap_field_p (by exact rq_p rfl rfl) (by exact rfl) (by exact rfl)) ?_); (refine su (ap_load_p (by exact rq_p rfl rfl) (by exact rfl) (by exact rfl) (by exact rfl)) ?_); (refine su (ap_field_p (by exact rq_p rfl rfl) (by exact rfl) (by exact rfl)) ?_); (refine su (ap_load_p (by exact rq_p rfl rfl) (by exact rfl) (by exact rfl) (by exact rfl)) ?_); (refine su (ap_nes (by exact rq_p rfl rfl) (by exact rq_p rfl rfl)) ?_); (refine su (ap_move (by exact rq_p rfl rfl)) ?_); (refine sg (by exact gq_vf rfl rfl) (fun he => ap_field_p (by exact rq_p rfl rfl) (by exact rfl) (by exact rfl)) ?_); (refine sg (by exact gq_vf rfl rfl) (fun he => ap_load_p (by exact rq_c rfl rfl) (by exact rfl) (by exact rfl) (by exact rfl)) ?_); (refine sg (by exact gq_vf rfl rfl) (fun he => ap_len_m (by exact rfl) (by exact rq_c rfl rfl)) ?_); (refine sg (by exact gq_vf rfl rfl) (fun he => ap_field_p (by exact rq_p rfl rfl) (by exact rfl) (by exact rfl)) ?_); (refine sg (by exact gq_vf rfl rfl) (fun he => ap_load_p (by exact rq_c rfl rfl) (by exact rfl) (by exact rfl) (by exact rfl)) ?_); (refine sg (by exact gq_vf rfl rfl) (fun he => ap_len_m (by exact rfl) (by exact rq_c rfl rfl)) ?_); (refine sg (by exact gq_vf rfl rfl) (fun he => ap_neq (by exact rq_c rfl rfl) (by exact rq_c rfl rfl)) ?_); (refine su (ap_or (by exact rq_p rfl rfl) (by exact rq_c rfl rfl)) ?_); refine asemC_end ?_) | (refine WP.regionC (id := 8) ?_; (refine su (ap_assign (by exact rq_p rfl rfl)) ?_); refine asemC_end ?_) | (refine WP.regionC (id := 9) ?_; (refine su (ap_assign (by exact rq_p rfl rfl)) ?_); refine asemC_end ?_) | refine ret_b (by exact rfl) ?_))
    · rw [hno fun h => by rcases hc with hc | hc <;> exact hc (by rw [h])]
    have hc1 := hc
    refine wp_loop (fun (k : Nat) => k ≤ (nth x.rules i).alts.length ∧ (nth x.rules i).alts.take k = (nth y.rules i).alts.take k) (fun k => (nth x.rules i).alts.length - k)
      (fun k => (S 98 [(2, .ptr 0 3 0 0), (3, .ptr 1 3 0 0), (5, intA (i : Nat)), (6, .ptr 2 2 0 0), (7, .ptr 3 2 0 0), (8, intA (k : Nat))] 4 [(0, some (.arr 3 [fileA x])), (1, some (.arr 3 [fileA y])), (2, some (.arr 2 [gruleA (nth x.rules i)])), (3, some (.arr 2 [gruleA (nth y.rules i)]))])) 0 ⟨[0, 1, 12, 13], ToR.S rfl (by repeat' (first | exact rt_nil | refine rt_t (by exact rfl) (by exact rfl) ?_ | refine rt_e (by exact rfl) (by exact rfl) ?_)) (by repeat' (first | exact ro_nil | refine ro_p (by exact rfl) (by first | exact rfl | fail) (by first | (simp [bdL, bdL_append, AV.bd]; done) | fail) ?_)) (by exact rfl) (by (rw [hm]; exact rfl)) (by exact rfl) (by (simp [bdT, AV.bd, bdL, bdL_append]; done)) (by repeat' (first | exact True.intro | refine And.intro ?_ ?_ | (simp [bdOq, bdL, bdL_append, AV.bd]; done))) (by (rw [hm]; exact Nat.le_of_ble_eq_true rfl))⟩ ⟨Nat.zero_le _, rfl⟩ ?_
    rintro k ⟨hk, hkall⟩
    have htl : (nth x.rules i).alts.length = (nth y.rules i).alts.length := by omega
    by_cases hkl : k < (nth x.rules i).alts.length
    · have hE := requalE_fn (nth (nth x.rules i).alts k).body (nth (nth y.rules i).alts k).body
      have hno2 : nth (nth x.rules i).alts k ≠ nth (nth y.rules i).alts k → (decide (x.start = y.start) && decide (x.levels = y.levels) && decide (x.rules = y.rules)) = false := fun h => hno fun h2 => h (by rw [h2])
      (repeat' (first | refine WP.seq ?_ | refine WP.block ?_ | refine go_n ?_ | refine WP.skip ?_ | refine WP.ret ?_ | refine go_r ?_ | refine bl_n ?_ | refine bl_r ?_ | refine bo_r ?_ | (refine wp_cond (by exact rfl) (fun hc => ?_) (fun hc => ?_) <;> (try simp only [decide_eq_true_eq, decide_eq_false_iff_not, Decidable.not_not, Bool.and_eq_true, Bool.or_eq_true, Bool.not_eq_true', Bool.not_eq_false', Bool.or_eq_false_iff, Bool.and_eq_false_iff, Int.not_lt, Int.not_le, reduceCtorEq, ne_eq, Bool.not_true, Bool.not_false, Bool.not_eq_true, Bool.not_eq_false] at hc) <;> (try (exfalso; omega))) | (refine WP.regionC (id := 10) ?_; (refine su (ap_move (by exact rq_p rfl rfl)) ?_); (refine su (ap_field_p (by exact rq_p rfl rfl) (by exact rfl) (by exact rfl)) ?_); (refine su (ap_load_p (by exact rq_p rfl rfl) (by exact rfl) (by exact rfl) (by exact rfl)) ?_); (refine su (ap_len_m (by exact rfl) (by exact rq_p rfl rfl)) ?_); (refine su (ap_lss (by exact rq_p rfl rfl) (by exact rq_p rfl rfl)) ?_); refine asemC_end ?_) | (refine wp_draw (id := 12) 29 mixed (by kernel_rfl) (by kernel_rfl) rfl ?_ <;> (refine rd_u (by exact rfl) (by exact rfl) (ap_field_p (by exact rq_p rfl rfl) (by exact rfl) (by exact rfl)) ?_) <;> (refine rd_u (by exact rfl) (by exact rfl) (ap_load_p (by exact rq_p rfl rfl) (by exact rfl) (by exact rfl) (by exact rfl)) ?_) <;> (refine rd_u (by exact rfl) (by exact rfl) (ap_move (by exact rq_p rfl rfl)) ?_) <;> (refine rd_u (by exact rfl) (by exact rfl) (ap_idx_n (by exact rq_p rfl rfl) (by exact rq_p rfl rfl) (by omega)) ?_) <;> (refine rd_u (by exact rfl) (by exact rfl) (ap_field_i (by exact rq_p rfl rfl) (by exact rfl) (by exact rfl)) ?_) <;> (refine rd_u (by exact rfl) (by exact rfl) (ap_load_i (by exact rq_p rfl rfl) (by exact rfl)) ?_) <;> (refine rd_u (by exact rfl) (by exact rfl) (ap_field_p (by exact rq_p rfl rfl) (by exact rfl) (by exact rfl)) ?_) <;> (refine rd_u (by exact rfl) (by exact rfl) (ap_load_p (by exact rq_p rfl rfl) (by exact rfl) (by exact rfl) (by exact rfl)) ?_) <;> (refine rd_u (by exact rfl) (by exact rfl) (ap_move (by exact rq_p rfl rfl)) ?_) <;> (refine rd_u (by exact rfl) (by exact rfl) (ap_idx_n (by exact rq_p rfl rfl) (by exact rq_p rfl rfl) (by omega)) ?_) <;> (refine rd_u (by exact rfl) (by exact rfl) (ap_field_i (by exact rq_p rfl rfl) (by exact rfl) (by exact rfl)) ?_) <;> (refine rd_u (by exact rfl) (by exact rfl) (ap_load_i (by exact rq_p rfl rfl) (by exact rfl)) ?_) <;> (refine rd_u (by exact rfl) (by exact rfl) (ap_neq (by exact rq_p rfl rfl) (by exact rq_p rfl rfl)) ?_) <;> (refine rd_u (by exact rfl) (by exact rfl) (ap_move (by exact rq_p rfl rfl)) ?_) <;> ((refine rd_split (t := 82) (by exact rfl) (fun hc => ?_) (fun hc => ?_) <;> (try simp only [decide_eq_true_eq, decide_eq_false_iff_not, Decidable.not_not, Bool.and_eq_true, Bool.or_eq_true, Bool.not_eq_true', Bool.not_eq_false', Bool.or_eq_false_iff, Bool.and_eq_false_iff, Int.not_lt, Int.not_le, reduceCtorEq, ne_eq, Bool.not_true, Bool.not_false, Bool.not_eq_true, Bool.not_eq_false] at hc) <;> (try (exfalso; omega)) <;> (first | refine rd_skip rfl rfl ?_ | refine rdg_u rfl rfl (by exact rfl) (by exact rfl) (ap_field_p (by exact rq_p rfl rfl) (by exact rfl) (by exact rfl)) ?_))) <;> (first | refine rd_skip rfl rfl ?_ | refine rdg_u rfl rfl (by exact rfl) (by exact rfl) (ap_load_p (by exact rq_p rfl rfl) (by exact rfl) (by exact rfl) (by exact rfl)) ?_) <;> (first | refine rd_skip rfl rfl ?_ | refine rdg_u rfl rfl (by exact rfl) (by exact rfl) (ap_move (by exact rq_p rfl rfl)) ?_) <;> (first | refine rd_skip rfl rfl ?_ | refine rdg_u rfl rfl (by exact rfl) (by exact rfl) (ap_idx_n (by exact rq_p rfl rfl) (by exact rq_p rfl rfl) (by omega)) ?_) <;> (first | refine rd_skip rfl rfl ?_ | refine rdg_u rfl rfl (by exact rfl) (by exact rfl) (ap_field_i (by exact rq_p rfl rfl) (by exact rfl) (by exact rfl)) ?_) <;> (first | refine rd_skip rfl rfl ?_ | refine rdg_u rfl rfl (by exact rfl) (by exact rfl) (ap_load_i (by exact rq_p rfl rfl) (by exact rfl)) ?_) <;> (first | refine rd_skip rfl rfl ?_ | refine rdg_u rfl rfl (by exact rfl) (by exact rfl) (ap_field_p (by exact rq_p rfl rfl) (by exact rfl) (by exact rfl)) ?_) <;> (first | refine rd_skip rfl rfl ?_ | refine rdg_u rfl rfl (by exact rfl) (by exact rfl) (ap_load_p (by exact rq_p rfl rfl) (by exact rfl) (by exact rfl) (by exact rfl)) ?_) <;> (first | refine rd_skip rfl rfl ?_ | refine rdg_u rfl rfl (by exact rfl) (by exact rfl) (ap_move (by exact rq_p rfl rfl)) ?_) <;> (first | refine rd_skip rfl rfl ?_ | refine rdg_u rfl rfl (by exact rfl) (by exact rfl) (ap_idx_n (by exact rq_p rfl rfl) (by exact rq_p rfl rfl) (by omega)) ?_) <;> (first | refine rd_skip rfl rfl ?_ | refine rdg_u rfl rfl (by exact rfl) (by exact rfl) (ap_field_i (by exact rq_p rfl rfl) (by exact rfl) (by exact rfl)) ?_) <;> (first | refine rd_skip rfl rfl ?_ | refine rdg_u rfl rfl (by exact rfl) (by exact rfl) (ap_load_i (by exact rq_p rfl rfl) (by exact rfl)) ?_) <;> (first | refine rd_skip rfl rfl ?_ | refine rdg_call rfl (by exact rfl) rfl rfl (by first | ((repeat' first | exact SubL.nil | refine SubL.cons ?_ ?_ | exact Sub.refl); done) | fail) (by first | (simp [bdL, bdL_append, AV.bd]; done) | fail) (hE) ?_) <;> (first | refine rd_skip rfl rfl ?_ | refine rdg_u rfl rfl (by exact rfl) (by exact rfl) (ap_not (by exact rq_p rfl rfl)) ?_) <;> (first | refine rd_pick_t (by exact rfl) (by exact rfl) ?_ | refine rd_pick_f (by exact rfl) (by exact rfl) ?_) <;> (refine rd_end (by kernel_rfl) ?_)) | (refine WP.regionC (id := 13) ?_; (refine su (ap_assign (by exact rq_p rfl rfl)) ?_); refine asemC_end ?_) | (refine WP.regionC (id := 11) ?_; (refine su (ap_move (by exact rq_p rfl rfl)) ?_); (refine su (ap_add (by exact rq_p rfl rfl) (by exact rq_p rfl rfl) (by exact inr_i64_of (by omega))) ?_); (refine su (ap_assign (by exact rq_p rfl rfl)) ?_); refine asemC_end ?_) | refine ret_b (by exact rfl) ?_))
      · rename_i hA
        rw [hno2 fun h => hA (by rw [h])]
      · rw [hno2 fun h => hc (by rw [h])]
      · rename_i hA
        exact ⟨k + 1, ⟨by omega, by omega, take_eq_succ (by omega) (by omega) hkall (gal_iff.2 ⟨hA, hc⟩)⟩, ⟨[0, 1, 2, 3], ToR.S rfl (by repeat' (first | exact rt_nil | refine rt_t (by exact rfl) (by exact rfl) ?_ | refine rt_e (by exact rfl) (by exact rfl) ?_)) (by repeat' (first | exact ro_nil | refine ro_p (by exact rfl) (by first | exact rfl | fail) (by first | (simp [bdL, bdL_append, AV.bd]; done) | fail) ?_)) (by exact rfl) (by (rw [hm]; exact rfl)) (by exact rfl) (by (simp [bdT, AV.bd, bdL, bdL_append]; done)) (by repeat' (first | exact True.intro | refine And.intro ?_ ?_ | (simp [bdOq, bdL, bdL_append, AV.bd]; done))) (by (rw [hm]; exact Nat.le_of_ble_eq_true rfl))⟩⟩
    (repeat' (first | refine WP.seq ?_ | refine go_n ?_ | refine WP.exit ?_ | refine go_x ?_ | refine bl_n ?_ | refine bl_x ?_ | (refine wp_cond (by exact rfl) (fun hc => ?_) (fun hc => ?_) <;> (try simp only [decide_eq_true_eq, decide_eq_false_iff_not, Decidable.not_not, Bool.and_eq_true, Bool.or_eq_true, Bool.not_eq_true', Bool.not_eq_false', Bool.or_eq_false_iff, Bool.and_eq_false_iff, Int.not_lt, Int.not_le, reduceCtorEq, ne_eq, Bool.not_true, Bool.not_false, Bool.not_eq_true, Bool.not_eq_false] at hc) <;> (try (exfalso; omega))) | (refine WP.regionC (id := 10) ?_; (refine su (ap_move (by exact rq_p rfl rfl)) ?_); (refine su (ap_field_p (by exact rq_p rfl rfl) (by exact rfl) (by exact rfl)) ?_); (refine su (ap_load_p (by exact rq_p rfl rfl) (by exact rfl) (by exact rfl) (by exact rfl)) ?_); (refine su (ap_len_m (by exact rfl) (by exact rq_p rfl rfl)) ?_); (refine su (ap_lss (by exact rq_p rfl rfl) (by exact rq_p rfl rfl)) ?_); refine asemC_end ?_) | (refine WP.regionC (id := 5) ?_; (refine su (ap_move (by exact rq_p rfl rfl)) ?_); (refine su (ap_add (by exact rq_p rfl rfl) (by exact rq_p rfl rfl) (by exact inr_i64_of (by omega))) ?_); (refine su (ap_assign (by exact rq_p rfl rfl)) ?_); refine asemC_end ?_)))
    exact ⟨i + 1, ⟨by omega, by omega, take_eq_succ (by omega) (by omega) hall (gru_iff.2 ⟨hc1.1, eq_of_takes htl (by omega) hkall⟩)⟩, ⟨[0, 1], ToR.S rfl (by repeat' (first | exact rt_nil | refine rt_t (by exact rfl) (by exact rfl) ?_ | refine rt_e (by exact rfl) (by exact rfl) ?_)) (by repeat' (first | exact ro_nil | refine ro_p (by exact rfl) (by first | exact rfl | fail) (by first | (simp [bdL, bdL_append, AV.bd]; done) | fail) ?_)) (by exact rfl) (by (rw [hm]; exact rfl)) (by exact rfl) (by (simp [bdT, AV.bd, bdL, bdL_append]; done)) (by repeat' (first | exact True.intro | refine And.intro ?_ ?_ | (simp [bdOq, bdL, bdL_append, AV.bd]; done))) (by (rw [hm]; exact Nat.le_of_ble_eq_true rfl))⟩⟩
  (repeat' (first | refine WP.seq ?_ | refine go_n ?_ | refine WP.exit ?_ | refine WP.ret ?_ | refine go_x ?_ | refine bl_x ?_ | refine bo_r ?_ | (refine wp_cond (by exact rfl) (fun hc => ?_) (fun hc => ?_) <;> (try simp only [decide_eq_true_eq, decide_eq_false_iff_not, Decidable.not_not, Bool.and_eq_true, Bool.or_eq_true, Bool.not_eq_true', Bool.not_eq_false', Bool.or_eq_false_iff, Bool.and_eq_false_iff, Int.not_lt, Int.not_le, reduceCtorEq, ne_eq, Bool.not_true, Bool.not_false, Bool.not_eq_true, Bool.not_eq_false] at hc) <;> (try (exfalso; omega))) | (refine WP.regionC (id := 4) ?_; (refine su (ap_move (by exact rq_p rfl rfl)) ?_); (refine su (ap_field_p (by exact rq_p rfl rfl) (by exact rfl) (by exact rfl)) ?_); (refine su (ap_load_p (by exact rq_p rfl rfl) (by exact rfl) (by exact rfl) (by exact rfl)) ?_); (refine su (ap_len_m (by exact rfl) (by exact rq_p rfl rfl)) ?_); (refine su (ap_lss (by exact rq_p rfl rfl) (by exact rq_p rfl rfl)) ?_); refine asemC_end ?_) | (refine WP.regionC (id := 14) ?_; (refine su (ap_assign (by exact rq_p rfl rfl)) ?_); refine asemC_end ?_) | refine ret_b (by exact rfl) ?_))
  simp [eq_of_takes hab (by omega) hall, hc0.1.1, hc0.1.2]
end Go.Lg

namespace Go.Lg
open Go.Proofs
set_option linter.unusedSimpArgs false
set_option linter.unusedVariables false
attribute [local irreducible] Ap Rq asemC WP RunD Ret Gq thenA inBlockA bodyQ noGotoA RqL RqP OpP
set_option maxHeartbeats 8000000
def rulesTo (f : GFi) (k : Nat) : Prop := ∀ j, j < k → (gnOk (nth f.rules j).name = true ∧ gruleOk (nth f.rules j) = true) ∧ ∀ i, i < j → (nth f.rules i).name ≠ (nth f.rules j).name
def startTo (f : GFi) (k : Nat) : Bool := (f.rules.take k).any fun r => decide (r.name = f.start)
theorem startTo_succ {f : GFi} {k : Nat} (hk : k < f.rules.length) : startTo f (k + 1) = (startTo f k || decide ((nth f.rules k).name = f.start)) := by
  simp [startTo, take_succ_nth hk]
theorem altOk_iff {a : GAl} : altOk a = true ↔ (0 ≤ a.price ∧ a.price ≤ 1000) ∧ okE a.body 30 = true := by
  simp only [altOk, Bool.and_eq_true, decide_eq_true_eq]
theorem altOk_no {a : GAl} (h : (a.price < 0 ∨ 1000 < a.price) ∨ okE a.body 30 = false) : altOk a = false := by
  cases hg : altOk a with
  | false => rfl
  | true =>
    have := altOk_iff.1 hg
    rcases h with h | h
    · omega
    · rw [h] at this; exact absurd this.2 (by decide)
theorem nth_map {α β : Type} [Inhabited α] [Inhabited β] (g : α → β) {l : List α} {k : Nat} (hk : k < l.length) : nth (l.map g) k = g (nth l k) := by
  rw [nth_eq (by simpa using hk), nth_eq hk, List.getElem_map]
theorem rnames_all (f : GFi) : rnames f f.rules.length = f.rules.map (·.name) := by simp [rnames]
theorem rules_no1 {f : GFi} {k : Nat} (hk : k < f.rules.length) (h : gnOk (nth f.rules k).name = false) : validF f = false := by
  have : distOk (rnames f f.rules.length) = false := by
    rw [rnames_all]
    simp only [distOk, all_nth_no (l := f.rules.map (·.name)) (f := gnOk) (k := k) (by simpa using hk) (by rw [nth_map _ hk]; exact h), Bool.false_and]
  simp only [validF, this, Bool.and_false, Bool.false_and]
theorem rules_no2 {f : GFi} {i k : Nat} (hk : k < f.rules.length) (hi : i < k) (h : (nth f.rules i).name = (nth f.rules k).name) : validF f = false := by
  have : distOk (rnames f f.rules.length) = false := by
    rw [rnames_all]
    simp only [distOk, decide_eq_false (not_nodup (l := f.rules.map (·.name)) (j := k) (k := i) (by simpa using hk) hi (by rw [nth_map _ (by omega), nth_map _ hk]; exact h)), Bool.and_false]
  simp only [validF, this, Bool.and_false, Bool.false_and]
theorem rules_no3 {f : GFi} {k : Nat} (hk : k < f.rules.length) (h : gruleOk (nth f.rules k) = false) : validF f = false := by
  simp only [validF, all_nth_no (l := f.rules) (f := gruleOk) (k := k) hk h, Bool.and_false, Bool.false_and]
theorem rules_yes {f : GFi} (h : rulesTo f f.rules.length) : f.rules.all gruleOk = true ∧ distOk (rnames f f.rules.length) = true := by
  refine ⟨all_of_nth fun j hj => (h j hj).1.2, ?_⟩
  rw [rnames_all]
  simp only [distOk, Bool.and_eq_true, decide_eq_true_eq]
  refine ⟨all_of_nth fun j hj => ?_, nodup_nth fun j hj i hi => ?_⟩
  · have hj' : j < f.rules.length := by simpa using hj
    rw [nth_map _ hj']; exact (h j hj').1.1
  · have hj' : j < f.rules.length := by simpa using hj
    rw [nth_map _ hj', nth_map _ (by omega)]; exact (h j hj').2 i hi
theorem start_any (f : GFi) : (rnames f f.rules.length).any (fun x => decide (f.start = x)) = startTo f f.rules.length := by
  rw [rnames_all, startTo, List.take_of_length_le (Nat.le_refl _), List.any_map]
  congr 1
  funext r
  simp only [Function.comp]
  rw [Bool.eq_iff_iff]; simp [eq_comm]
theorem distOk_iff {l : List ByteArray} : distOk l = true ↔ (∀ x, x ∈ l → gnOk x = true) ∧ l.Nodup := by
  simp only [distOk, Bool.and_eq_true, decide_eq_true_eq, List.all_eq_true]
theorem distOk_add {l : List ByteArray} {x : ByteArray} (h : distOk l = true) (h1 : gnOk x = true) (h2 : x ∉ l) : distOk (l ++ [x]) = true := by
  rw [distOk_iff] at h ⊢
  refine ⟨fun y hy => ?_, ?_⟩
  · rcases List.mem_append.1 hy with hy | hy
    · exact h.1 y hy
    · rw [List.mem_singleton.1 hy]; exact h1
  · rw [List.nodup_append]; exact ⟨h.2, by simp, fun a ha b hb => by rw [List.mem_singleton.1 hb]; rintro rfl; exact h2 ha⟩
theorem distOk_no {l r : List ByteArray} {x : ByteArray} (h : gnOk x = false ∨ x ∈ l) : distOk (l ++ x :: r) = false := by
  cases hg : distOk (l ++ x :: r) with
  | false => rfl
  | true =>
    rw [distOk_iff] at hg
    rcases h with h | h
    · have := hg.1 x (by simp); rw [h] at this; cases this
    · exact absurd rfl ((List.nodup_append.1 hg.2).2.2 x h x (by simp))
def toks2 (f : GFi) (j k : Nat) : List ByteArray := toks f j ++ (nth f.levels j).tokens.take k
theorem toks2_no {f : GFi} {j k : Nat} (hj : j < f.levels.length) (hk : k < (nth f.levels j).tokens.length) (h : gnOk (nth (nth f.levels j).tokens k) = false ∨ nth (nth f.levels j).tokens k ∈ toks2 f j k) : validF f = false := by
  have key : ∃ r, toks f f.levels.length = toks2 f j k ++ nth (nth f.levels j).tokens k :: r := by
    refine ⟨(nth f.levels j).tokens.drop (k + 1) ++ ((f.levels.drop (j + 1)).map (·.tokens)).flatten, ?_⟩
    have e1 : toks f f.levels.length = toks f (j + 1) ++ ((f.levels.drop (j + 1)).map (·.tokens)).flatten := by
      simp only [toks, List.take_of_length_le (Nat.le_refl f.levels.length)]
      rw [← List.flatten_append, ← List.map_append, List.take_append_drop]
    rw [e1, toks_succ hj, toks2]
    have e2 : (nth f.levels j).tokens = (nth f.levels j).tokens.take k ++ nth (nth f.levels j).tokens k :: (nth f.levels j).tokens.drop (k + 1) := by
      rw [nth_eq hk, ← List.drop_eq_getElem_cons hk, List.take_append_drop]
    conv => lhs; rw [e2]
    simp only [List.append_assoc, List.cons_append]
  obtain ⟨r, hr⟩ := key
  have : distOk (toks f f.levels.length) = false := by rw [hr]; exact distOk_no h
  simp only [validF, this, Bool.and_false, Bool.false_and]
theorem rvalid_fn (f : GFi) (hf : f.fit) (hT : (toks f f.levels.length).length ≤ 1000000) : Fn Tryd.prog 12 [fileA f] (boolA (validF f)) := by
  obtain ⟨hf1, hf2, hf3⟩ := hf
  refine Fn.intro (by exact rfl) (by kernel_rfl) Tryd.func12 rfl rfl Tryd.ntmps12 (by exact Nat.le_of_ble_eq_true rfl) ?_; intro Γ hm
  refine wp_lens 0 rfl fun hl => ?_
  have hl2 : f.rules.length ≤ 9223372036854775807 ∧ f.levels.length ≤ 9223372036854775807 := by have := hl; simp [AV.lens, lensL, fileA, levelsA, grulesA] at this; omega
  (repeat' (first | refine WP.seq ?_ | refine WP.block ?_ | refine go_n ?_ | refine WP.skip ?_ | refine WP.ret ?_ | refine go_r ?_ | refine bo_r ?_ | (refine wp_cond (by exact rfl) (fun hc => ?_) (fun hc => ?_) <;> (try simp only [decide_eq_true_eq, decide_eq_false_iff_not, Decidable.not_not, Bool.and_eq_true, Bool.or_eq_true, Bool.not_eq_true', Bool.not_eq_false', Bool.or_eq_false_iff, Bool.and_eq_false_iff, Int.not_lt, Int.not_le, reduceCtorEq, ne_eq, Bool.not_true, Bool.not_false, Bool.not_eq_true, Bool.not_eq_false] at hc) <;> (try (exfalso; omega))) | (refine WP.regionC (id := 0) ?_; (refine se_box (by exact rfl) (by exact ⟨rfl, rfl⟩) ?_); (refine su (ap_assign (by exact rq_p rfl rfl)) ?_); refine asemC_end ?_) | (refine WP.regionC (id := 1) ?_; (refine su (ap_field_p (by exact rq_p rfl rfl) (by exact rfl) (by exact rfl)) ?_); (refine su (ap_load_p (by exact rq_p rfl rfl) (by exact rfl) (by exact rfl) (by exact rfl)) ?_); (refine su (ap_len_m (by exact rfl) (by exact rq_p rfl rfl)) ?_); (refine su (ap_lss (by exact rq_p rfl rfl) (by exact rq_p rfl rfl)) ?_); (refine su (ap_move (by exact rq_p rfl rfl)) ?_); (refine sg (by exact gq_vf rfl rfl) (fun he => ap_field_p (by exact rq_p rfl rfl) (by exact rfl) (by exact rfl)) ?_); (refine sg (by exact gq_vf rfl rfl) (fun he => ap_load_p (by exact rq_c rfl rfl) (by exact rfl) (by exact rfl) (by exact rfl)) ?_); (refine sg (by exact gq_vf rfl rfl) (fun he => ap_len_m (by exact rfl) (by exact rq_c rfl rfl)) ?_); (refine sg (by exact gq_vf rfl rfl) (fun he => ap_gtr (by exact rq_c rfl rfl) (by exact rq_p rfl rfl)) ?_); (refine su (ap_or (by exact rq_p rfl rfl) (by exact rq_c rfl rfl)) ?_); refine asemC_end ?_) | (refine WP.regionC (id := 2) ?_; (refine su (ap_assign (by exact rq_p rfl rfl)) ?_); refine asemC_end ?_) | (refine WP.regionC (id := 3) ?_; (refine su (ap_assign (by exact rq_p rfl rfl)) ?_); refine asemC_end ?_) | (refine WP.regionC (id := 4) ?_; (refine su (ap_assign (by exact rq_p rfl rfl)) ?_); refine asemC_end ?_) | refine ret_b (by exact rfl) ?_))
  · simp [validF]; omega
  refine wp_loop (fun (i : Nat) => i ≤ f.rules.length ∧ rulesTo f i) (fun i => f.rules.length - i)
    (fun i => (S 159 [(1, .ptr 0 3 0 0), (3, boolA (startTo f i)), (4, intA (i : Nat))] 1 [(0, some (.arr 3 [fileA f]))])) 0 ⟨[0], ToR.S rfl (by repeat' (first | exact rt_nil | refine rt_t (by exact rfl) (by exact rfl) ?_ | refine rt_e (by exact rfl) (by exact rfl) ?_)) (by repeat' (first | exact ro_nil | refine ro_p (by exact rfl) (by first | exact rfl | fail) (by first | (simp [bdL, bdL_append, AV.bd]; done) | fail) ?_)) (by exact rfl) (by (rw [hm]; exact rfl)) (by exact rfl) (by (simp [bdT, AV.bd, bdL, bdL_append]; done)) (by repeat' (first | exact True.intro | refine And.intro ?_ ?_ | (simp [bdOq, bdL, bdL_append, AV.bd]; done))) (by (rw [hm]; exact Nat.le_of_ble_eq_true rfl))⟩ ⟨Nat.zero_le _, fun j hj => absurd hj (Nat.not_lt_zero _)⟩ ?_
  rintro i ⟨hi, hall⟩
  by_cases hlt : i < f.rules.length
  · have hrf := hf3 _ (nth_mem hlt)
    have hns : (nth f.rules i).name.size ≤ 9223372036854775807 := hrf.1
    have hal : (nth f.rules i).alts.length ≤ 9223372036854775807 := by
      have := hl; simp [AV.lens, lensL, fileA, levelsA, grulesA, lensL_map] at this
      have := this.2.2.2 _ (nth_mem hlt)
      simp [gruleA, AV.lens, lensL, altsA] at this
      omega
    (repeat' (first | refine WP.seq ?_ | refine WP.block ?_ | refine go_n ?_ | refine WP.skip ?_ | refine WP.ret ?_ | refine go_r ?_ | refine bl_r ?_ | refine bo_r ?_ | (refine wp_cond (by exact rfl) (fun hc => ?_) (fun hc => ?_) <;> (try simp only [decide_eq_true_eq, decide_eq_false_iff_not, Decidable.not_not, Bool.and_eq_true, Bool.or_eq_true, Bool.not_eq_true', Bool.not_eq_false', Bool.or_eq_false_iff, Bool.and_eq_false_iff, Int.not_lt, Int.not_le, reduceCtorEq, ne_eq, Bool.not_true, Bool.not_false, Bool.not_eq_true, Bool.not_eq_false] at hc) <;> (try (exfalso; omega))) | (refine WP.regionC (id := 5) ?_; (refine su (ap_move (by exact rq_p rfl rfl)) ?_); (refine su (ap_field_p (by exact rq_p rfl rfl) (by exact rfl) (by exact rfl)) ?_); (refine su (ap_load_p (by exact rq_p rfl rfl) (by exact rfl) (by exact rfl) (by exact rfl)) ?_); (refine su (ap_len_m (by exact rfl) (by exact rq_p rfl rfl)) ?_); (refine su (ap_lss (by exact rq_p rfl rfl) (by exact rq_p rfl rfl)) ?_); refine asemC_end ?_) | (refine WP.regionC (id := 7) ?_; (refine su (ap_field_p (by exact rq_p rfl rfl) (by exact rfl) (by exact rfl)) ?_); (refine su (ap_load_p (by exact rq_p rfl rfl) (by exact rfl) (by exact rfl) (by exact rfl)) ?_); (refine su (ap_move (by exact rq_p rfl rfl)) ?_); (refine su (ap_idx_n (by exact rq_p rfl rfl) (by exact rq_p rfl rfl) (by omega)) ?_); (refine su (ap_load_w (by exact rq_p rfl rfl) (by exact rfl)) ?_); (refine se_alloc (by exact rfl) ?_); (refine se_store_b (by exact rfl) (by exact rfl) (by exact rfl) (by exact rfl) ?_); refine asemC_end ?_) | (refine WP.regionC (id := 8) ?_; (refine su (ap_move (by exact rq_p rfl rfl)) ?_); (refine su (ap_move (by exact rq_p rfl rfl)) ?_); (refine sg (by exact gq_vf rfl rfl) (fun he => ap_field_p (by exact rq_p rfl rfl) (by exact rfl) (by exact rfl)) ?_); (refine sg (by exact gq_vf rfl rfl) (fun he => ap_load_p (by exact rq_c rfl rfl) (by exact rfl) (by exact rfl) (by exact rfl)) ?_); (refine sg (by exact gq_vf rfl rfl) (fun he => ap_field_p (by exact rq_p rfl rfl) (by exact rfl) (by exact rfl)) ?_); (refine sg (by exact gq_vf rfl rfl) (fun he => ap_load_p (by exact rq_c rfl rfl) (by exact rfl) (by exact rfl) (by exact rfl)) ?_); (refine sg (by exact gq_vf rfl rfl) (fun he => ap_eqs (by exact rq_c rfl rfl) (by exact rq_c rfl rfl)) ?_); (refine su (ap_or (by exact rq_p rfl rfl) (by exact rq_c rfl rfl)) ?_); (refine su (ap_assign (by exact rq_p rfl rfl)) ?_); refine asemC_end ?_) | (refine WP.regionC (id := 9) ?_; (refine su (ap_field_p (by exact rq_p rfl rfl) (by exact rfl) (by exact rfl)) ?_); (refine su (ap_load_p (by exact rq_p rfl rfl) (by exact rfl) (by exact rfl) (by exact rfl)) ?_); (refine sc_p rfl rfl (by first | ((repeat' first | exact SubL.nil | refine SubL.cons ?_ ?_ | exact Sub.refl); done) | fail) (by first | (simp [bdL, bdL_append, AV.bd]; done) | fail) (rname_fn _ (by assumption)) ?_); (refine su (ap_not (by exact rq_p rfl rfl)) ?_); (refine su (ap_move (by exact rq_p rfl rfl)) ?_); (refine sg (by exact gq_vf rfl rfl) (fun he => ap_field_p (by exact rq_p rfl rfl) (by exact rfl) (by exact rfl)) ?_); (refine sg (by exact gq_vf rfl rfl) (fun he => ap_load_p (by exact rq_c rfl rfl) (by exact rfl) (by exact rfl) (by exact rfl)) ?_); (refine sg (by exact gq_vf rfl rfl) (fun he => ap_len_m (by exact rfl) (by exact rq_c rfl rfl)) ?_); (refine sg (by exact gq_vf rfl rfl) (fun he => ap_eql (by exact rq_c rfl rfl) (by exact rq_p rfl rfl)) ?_); (refine su (ap_or (by exact rq_p rfl rfl) (by exact rq_c rfl rfl)) ?_); refine asemC_end ?_) | (refine WP.regionC (id := 10) ?_; (refine su (ap_assign (by exact rq_p rfl rfl)) ?_); refine asemC_end ?_) | (refine WP.regionC (id := 11) ?_; (refine su (ap_assign (by exact rq_p rfl rfl)) ?_); refine asemC_end ?_) | refine ret_b (by exact rfl) ?_))
    · rcases hc with hc | hc
      · rw [rules_no1 hlt hc]
      · rw [rules_no3 hlt (by unfold gruleOk; rw [show (nth f.rules i).alts = [] from List.eq_nil_of_length_eq_zero (by omega)]; rfl)]
    have hnm : gnOk (nth f.rules i).name = true := hc.1
    have hne : ¬ (nth f.rules i).alts.length = 0 := by omega
    rw [← startTo_succ hlt]
    refine wp_loop (fun (k : Nat) => k ≤ i ∧ ∀ j, j < k → (nth f.rules j).name ≠ (nth f.rules i).name) (fun k => i - k)
      (fun k => (S 159 [(1, .ptr 0 3 0 0), (3, boolA (startTo f (i + 1))), (4, intA (i : Nat)), (5, .ptr 1 2 0 0), (6, intA (k : Nat))] 2 [(0, some (.arr 3 [fileA f])), (1, some (.arr 2 [gruleA (nth f.rules i)]))])) 0 ⟨[0, 1], ToR.S rfl (by repeat' (first | exact rt_nil | refine rt_t (by exact rfl) (by exact rfl) ?_ | refine rt_e (by exact rfl) (by exact rfl) ?_)) (by repeat' (first | exact ro_nil | refine ro_p (by exact rfl) (by first | exact rfl | fail) (by first | (simp [bdL, bdL_append, AV.bd]; done) | fail) ?_)) (by exact rfl) (by (rw [hm]; exact rfl)) (by exact rfl) (by (simp [bdT, AV.bd, bdL, bdL_append]; done)) (by repeat' (first | exact True.intro | refine And.intro ?_ ?_ | (simp [bdOq, bdL, bdL_append, AV.bd]; done))) (by (rw [hm]; exact Nat.le_of_ble_eq_true rfl))⟩ ⟨Nat.zero_le _, fun j hj => absurd hj (Nat.not_lt_zero _)⟩ ?_
    rintro k ⟨hk, hnd⟩
    by_cases hki : k < i
    · (repeat' (first | refine WP.seq ?_ | refine WP.block ?_ | refine go_n ?_ | refine WP.skip ?_ | refine WP.ret ?_ | refine go_r ?_ | refine bl_n ?_ | refine bl_r ?_ | refine bo_r ?_ | (refine wp_cond (by exact rfl) (fun hc => ?_) (fun hc => ?_) <;> (try simp only [decide_eq_true_eq, decide_eq_false_iff_not, Decidable.not_not, Bool.and_eq_true, Bool.or_eq_true, Bool.not_eq_true', Bool.not_eq_false', Bool.or_eq_false_iff, Bool.and_eq_false_iff, Int.not_lt, Int.not_le, reduceCtorEq, ne_eq, Bool.not_true, Bool.not_false, Bool.not_eq_true, Bool.not_eq_false] at hc) <;> (try (exfalso; omega))) | (refine WP.regionC (id := 12) ?_; (refine su (ap_move (by exact rq_p rfl rfl)) ?_); (refine su (ap_move (by exact rq_p rfl rfl)) ?_); (refine su (ap_lss (by exact rq_p rfl rfl) (by exact rq_p rfl rfl)) ?_); refine asemC_end ?_) | (refine wp_draw (id := 14) 9 mixed (by kernel_rfl) (by kernel_rfl) rfl ?_ <;> (refine rd_u (by exact rfl) (by exact rfl) (ap_field_p (by exact rq_p rfl rfl) (by exact rfl) (by exact rfl)) ?_) <;> (refine rd_u (by exact rfl) (by exact rfl) (ap_load_p (by exact rq_p rfl rfl) (by exact rfl) (by exact rfl) (by exact rfl)) ?_) <;> (refine rd_u (by exact rfl) (by exact rfl) (ap_move (by exact rq_p rfl rfl)) ?_) <;> (refine rd_u (by exact rfl) (by exact rfl) (ap_idx_n (by exact rq_p rfl rfl) (by exact rq_p rfl rfl) (by omega)) ?_) <;> (refine rd_u (by exact rfl) (by exact rfl) (ap_field_i (by exact rq_p rfl rfl) (by exact rfl) (by exact rfl)) ?_) <;> (refine rd_u (by exact rfl) (by exact rfl) (ap_load_i (by exact rq_p rfl rfl) (by exact rfl)) ?_) <;> (refine rd_u (by exact rfl) (by exact rfl) (ap_field_p (by exact rq_p rfl rfl) (by exact rfl) (by exact rfl)) ?_) <;> (refine rd_u (by exact rfl) (by exact rfl) (ap_load_p (by exact rq_p rfl rfl) (by exact rfl) (by exact rfl) (by exact rfl)) ?_) <;> (refine rd_u (by exact rfl) (by exact rfl) (ap_eqs (by exact rq_p rfl rfl) (by exact rq_p rfl rfl)) ?_) <;> (refine rd_end (by kernel_rfl) ?_)) | (refine WP.regionC (id := 15) ?_; (refine su (ap_assign (by exact rq_p rfl rfl)) ?_); refine asemC_end ?_) | (refine WP.regionC (id := 13) ?_; (refine su (ap_move (by exact rq_p rfl rfl)) ?_); (refine su (ap_add (by exact rq_p rfl rfl) (by exact rq_p rfl rfl) (by exact inr_i64_of (by omega))) ?_); (refine su (ap_assign (by exact rq_p rfl rfl)) ?_); refine asemC_end ?_) | refine ret_b (by exact rfl) ?_))
      · rw [rules_no2 hlt hki hc]
      · refine ⟨k + 1, ⟨by omega, by omega, fun j hj => ?_⟩, ⟨[0, 1], ToR.S rfl (by repeat' (first | exact rt_nil | refine rt_t (by exact rfl) (by exact rfl) ?_ | refine rt_e (by exact rfl) (by exact rfl) ?_)) (by repeat' (first | exact ro_nil | refine ro_p (by exact rfl) (by first | exact rfl | fail) (by first | (simp [bdL, bdL_append, AV.bd]; done) | fail) ?_)) (by exact rfl) (by (rw [hm]; exact rfl)) (by exact rfl) (by (simp [bdT, AV.bd, bdL, bdL_append]; done)) (by repeat' (first | exact True.intro | refine And.intro ?_ ?_ | (simp [bdOq, bdL, bdL_append, AV.bd]; done))) (by (rw [hm]; exact Nat.le_of_ble_eq_true rfl))⟩⟩
        by_cases h : j = k
        · subst h; exact hc
        · exact hnd j (by omega)
    obtain rfl : k = i := by omega
    (repeat' (first | refine WP.seq ?_ | refine WP.block ?_ | refine go_n ?_ | refine WP.exit ?_ | refine go_x ?_ | refine bl_x ?_ | (refine wp_cond (by exact rfl) (fun hc => ?_) (fun hc => ?_) <;> (try simp only [decide_eq_true_eq, decide_eq_false_iff_not, Decidable.not_not, Bool.and_eq_true, Bool.or_eq_true, Bool.not_eq_true', Bool.not_eq_false', Bool.or_eq_false_iff, Bool.and_eq_false_iff, Int.not_lt, Int.not_le, reduceCtorEq, ne_eq, Bool.not_true, Bool.not_false, Bool.not_eq_true, Bool.not_eq_false] at hc) <;> (try (exfalso; omega))) | (refine WP.regionC (id := 12) ?_; (refine su (ap_move (by exact rq_p rfl rfl)) ?_); (refine su (ap_move (by exact rq_p rfl rfl)) ?_); (refine su (ap_lss (by exact rq_p rfl rfl) (by exact rq_p rfl rfl)) ?_); refine asemC_end ?_) | (refine WP.regionC (id := 16) ?_; (refine su (ap_assign (by exact rq_p rfl rfl)) ?_); refine asemC_end ?_)))
    refine wp_loop (fun (m : Nat) => m ≤ (nth f.rules k).alts.length ∧ ((nth f.rules k).alts.take m).all altOk = true) (fun m => (nth f.rules k).alts.length - m)
      (fun m => (S 159 [(1, .ptr 0 3 0 0), (3, boolA (startTo f (k + 1))), (4, intA (k : Nat)), (5, .ptr 1 2 0 0), (7, intA (m : Nat))] 2 [(0, some (.arr 3 [fileA f])), (1, some (.arr 2 [gruleA (nth f.rules k)]))])) 0 ⟨[0, 1], ToR.S rfl (by repeat' (first | exact rt_nil | refine rt_t (by exact rfl) (by exact rfl) ?_ | refine rt_e (by exact rfl) (by exact rfl) ?_)) (by repeat' (first | exact ro_nil | refine ro_p (by exact rfl) (by first | exact rfl | fail) (by first | (simp [bdL, bdL_append, AV.bd]; done) | fail) ?_)) (by exact rfl) (by (rw [hm]; exact rfl)) (by exact rfl) (by (simp [bdT, AV.bd, bdL, bdL_append]; done)) (by repeat' (first | exact True.intro | refine And.intro ?_ ?_ | (simp [bdOq, bdL, bdL_append, AV.bd]; done))) (by (rw [hm]; exact Nat.le_of_ble_eq_true rfl))⟩ ⟨Nat.zero_le _, rfl⟩ ?_
    rintro m ⟨hm2, hall2⟩
    by_cases hml : m < (nth f.rules k).alts.length
    · have hbf := hrf.2 _ (nth_mem hml)
      have hE := rexpr_fn _ hbf 30 (by decide) (by decide)
      (repeat' (first | refine WP.seq ?_ | refine WP.block ?_ | refine go_n ?_ | refine WP.skip ?_ | refine WP.ret ?_ | refine go_r ?_ | refine bl_n ?_ | refine bl_r ?_ | refine bo_r ?_ | (refine wp_cond (by exact rfl) (fun hc => ?_) (fun hc => ?_) <;> (try simp only [decide_eq_true_eq, decide_eq_false_iff_not, Decidable.not_not, Bool.and_eq_true, Bool.or_eq_true, Bool.not_eq_true', Bool.not_eq_false', Bool.or_eq_false_iff, Bool.and_eq_false_iff, Int.not_lt, Int.not_le, reduceCtorEq, ne_eq, Bool.not_true, Bool.not_false, Bool.not_eq_true, Bool.not_eq_false] at hc) <;> (try (exfalso; omega))) | (refine WP.regionC (id := 17) ?_; (refine su (ap_move (by exact rq_p rfl rfl)) ?_); (refine su (ap_field_p (by exact rq_p rfl rfl) (by exact rfl) (by exact rfl)) ?_); (refine su (ap_load_p (by exact rq_p rfl rfl) (by exact rfl) (by exact rfl) (by exact rfl)) ?_); (refine su (ap_len_m (by exact rfl) (by exact rq_p rfl rfl)) ?_); (refine su (ap_lss (by exact rq_p rfl rfl) (by exact rq_p rfl rfl)) ?_); refine asemC_end ?_) | (refine WP.regionC (id := 19) ?_; (refine su (ap_field_p (by exact rq_p rfl rfl) (by exact rfl) (by exact rfl)) ?_); (refine su (ap_load_p (by exact rq_p rfl rfl) (by exact rfl) (by exact rfl) (by exact rfl)) ?_); (refine su (ap_move (by exact rq_p rfl rfl)) ?_); (refine su (ap_idx_n (by exact rq_p rfl rfl) (by exact rq_p rfl rfl) (by omega)) ?_); (refine su (ap_load_w (by exact rq_p rfl rfl) (by exact rfl)) ?_); (refine se_alloc (by exact rfl) ?_); (refine se_store_b (by exact rfl) (by exact rfl) (by exact rfl) (by exact rfl) ?_); refine asemC_end ?_) | (refine WP.regionC (id := 20) ?_; (refine su (ap_field_p (by exact rq_p rfl rfl) (by exact rfl) (by exact rfl)) ?_); (refine su (ap_load_p (by exact rq_p rfl rfl) (by exact rfl) (by exact rfl) (by exact rfl)) ?_); (refine su (ap_lss (by exact rq_p rfl rfl) (by exact rq_p rfl rfl)) ?_); (refine su (ap_move (by exact rq_p rfl rfl)) ?_); (refine sg (by exact gq_vf rfl rfl) (fun he => ap_field_p (by exact rq_p rfl rfl) (by exact rfl) (by exact rfl)) ?_); (refine sg (by exact gq_vf rfl rfl) (fun he => ap_load_p (by exact rq_c rfl rfl) (by exact rfl) (by exact rfl) (by exact rfl)) ?_); (refine sg (by exact gq_vf rfl rfl) (fun he => ap_gtr (by exact rq_c rfl rfl) (by exact rq_p rfl rfl)) ?_); (refine su (ap_or (by exact rq_p rfl rfl) (by exact rq_c rfl rfl)) ?_); (refine su (ap_move (by exact rq_p rfl rfl)) ?_); (refine sg (by exact gq_vf rfl rfl) (fun he => ap_field_p (by exact rq_p rfl rfl) (by exact rfl) (by exact rfl)) ?_); (refine sg (by exact gq_vf rfl rfl) (fun he => ap_load_p (by exact rq_c rfl rfl) (by exact rfl) (by exact rfl) (by exact rfl)) ?_); (refine sg_p (by exact gq_vf rfl rfl) (fun he => ⟨(by exact rq_p rfl rfl), (RqL.cons (by exact rq_c rfl rfl) (RqL.cons (by exact rq_p rfl rfl) (RqL.nil))), (by first | ((repeat' first | exact SubL.nil | refine SubL.cons ?_ ?_ | exact Sub.refl); done) | fail), (by first | (simp [bdL, bdL_append, AV.bd, AV.cells]; done) | fail), hE⟩) ?_); (refine sg (by exact gq_vf rfl rfl) (fun he => ap_not (by exact rq_c rfl rfl)) ?_); (refine su (ap_or (by exact rq_p rfl rfl) (by exact rq_c rfl rfl)) ?_); refine asemC_end ?_) | (refine WP.regionC (id := 21) ?_; (refine su (ap_assign (by exact rq_p rfl rfl)) ?_); refine asemC_end ?_) | (refine WP.regionC (id := 18) ?_; (refine su (ap_move (by exact rq_p rfl rfl)) ?_); (refine su (ap_add (by exact rq_p rfl rfl) (by exact rq_p rfl rfl) (by exact inr_i64_of (by omega))) ?_); (refine su (ap_assign (by exact rq_p rfl rfl)) ?_); refine asemC_end ?_) | refine ret_b (by exact rfl) ?_))
      · rw [rules_no3 hlt (by unfold gruleOk; rw [all_nth_no (l := (nth f.rules k).alts) (f := altOk) (k := m) hml (altOk_no hc), Bool.and_false])]
      · exact ⟨m + 1, ⟨by omega, by omega, take_all_succ hml hall2 (altOk_iff.2 hc)⟩, ⟨[0, 1], ToR.S rfl (by repeat' (first | exact rt_nil | refine rt_t (by exact rfl) (by exact rfl) ?_ | refine rt_e (by exact rfl) (by exact rfl) ?_)) (by repeat' (first | exact ro_nil | refine ro_p (by exact rfl) (by first | exact rfl | fail) (by first | (simp [bdL, bdL_append, AV.bd]; done) | fail) ?_)) (by exact rfl) (by (rw [hm]; exact rfl)) (by exact rfl) (by (simp [bdT, AV.bd, bdL, bdL_append]; done)) (by repeat' (first | exact True.intro | refine And.intro ?_ ?_ | (simp [bdOq, bdL, bdL_append, AV.bd]; done))) (by (rw [hm]; exact Nat.le_of_ble_eq_true rfl))⟩⟩
    have hra := all_of_take' (by omega) hall2
    (repeat' (first | refine WP.seq ?_ | refine go_n ?_ | refine WP.exit ?_ | refine go_x ?_ | refine bl_n ?_ | refine bl_x ?_ | (refine wp_cond (by exact rfl) (fun hc => ?_) (fun hc => ?_) <;> (try simp only [decide_eq_true_eq, decide_eq_false_iff_not, Decidable.not_not, Bool.and_eq_true, Bool.or_eq_true, Bool.not_eq_true', Bool.not_eq_false', Bool.or_eq_false_iff, Bool.and_eq_false_iff, Int.not_lt, Int.not_le, reduceCtorEq, ne_eq, Bool.not_true, Bool.not_false, Bool.not_eq_true, Bool.not_eq_false] at hc) <;> (try (exfalso; omega))) | (refine WP.regionC (id := 17) ?_; (refine su (ap_move (by exact rq_p rfl rfl)) ?_); (refine su (ap_field_p (by exact rq_p rfl rfl) (by exact rfl) (by exact rfl)) ?_); (refine su (ap_load_p (by exact rq_p rfl rfl) (by exact rfl) (by exact rfl) (by exact rfl)) ?_); (refine su (ap_len_m (by exact rfl) (by exact rq_p rfl rfl)) ?_); (refine su (ap_lss (by exact rq_p rfl rfl) (by exact rq_p rfl rfl)) ?_); refine asemC_end ?_) | (refine WP.regionC (id := 6) ?_; (refine su (ap_move (by exact rq_p rfl rfl)) ?_); (refine su (ap_add (by exact rq_p rfl rfl) (by exact rq_p rfl rfl) (by exact inr_i64_of (by omega))) ?_); (refine su (ap_assign (by exact rq_p rfl rfl)) ?_); refine asemC_end ?_)))
    refine ⟨k + 1, ⟨by omega, by omega, fun j hj => ?_⟩, ⟨[0], ToR.S rfl (by repeat' (first | exact rt_nil | refine rt_t (by exact rfl) (by exact rfl) ?_ | refine rt_e (by exact rfl) (by exact rfl) ?_)) (by repeat' (first | exact ro_nil | refine ro_p (by exact rfl) (by first | exact rfl | fail) (by first | (simp [bdL, bdL_append, AV.bd]; done) | fail) ?_)) (by exact rfl) (by (rw [hm]; exact rfl)) (by exact rfl) (by (simp [bdT, AV.bd, bdL, bdL_append]; done)) (by repeat' (first | exact True.intro | refine And.intro ?_ ?_ | (simp [bdOq, bdL, bdL_append, AV.bd]; done))) (by (rw [hm]; exact Nat.le_of_ble_eq_true rfl))⟩⟩
    by_cases h : j = k
    · subst h
      refine ⟨⟨hnm, ?_⟩, hnd⟩
      unfold gruleOk
      rw [hra, decide_eq_false (by rintro e; rw [e] at hne; exact hne rfl)]; rfl
    · exact hall j (by omega)
  obtain rfl : i = f.rules.length := by omega
  obtain ⟨hr1, hr2⟩ := rules_yes hall
  (repeat' (first | refine WP.seq ?_ | refine WP.block ?_ | refine go_n ?_ | refine WP.exit ?_ | refine go_x ?_ | refine bl_x ?_ | (refine wp_cond (by exact rfl) (fun hc => ?_) (fun hc => ?_) <;> (try simp only [decide_eq_true_eq, decide_eq_false_iff_not, Decidable.not_not, Bool.and_eq_true, Bool.or_eq_true, Bool.not_eq_true', Bool.not_eq_false', Bool.or_eq_false_iff, Bool.and_eq_false_iff, Int.not_lt, Int.not_le, reduceCtorEq, ne_eq, Bool.not_true, Bool.not_false, Bool.not_eq_true, Bool.not_eq_false] at hc) <;> (try (exfalso; omega))) | (refine WP.regionC (id := 5) ?_; (refine su (ap_move (by exact rq_p rfl rfl)) ?_); (refine su (ap_field_p (by exact rq_p rfl rfl) (by exact rfl) (by exact rfl)) ?_); (refine su (ap_load_p (by exact rq_p rfl rfl) (by exact rfl) (by exact rfl) (by exact rfl)) ?_); (refine su (ap_len_m (by exact rfl) (by exact rq_p rfl rfl)) ?_); (refine su (ap_lss (by exact rq_p rfl rfl) (by exact rq_p rfl rfl)) ?_); refine asemC_end ?_) | (refine WP.regionC (id := 22) ?_; (refine su (ap_assign (by exact rq_p rfl rfl)) ?_); refine asemC_end ?_) | (refine WP.regionC (id := 23) ?_; (refine su (ap_assign (by exact rq_p rfl rfl)) ?_); refine asemC_end ?_)))
  refine wp_nil 9 1 (by exact rfl) ?_
  refine wp_loop (fun (j : Nat) => j ≤ f.levels.length ∧ (f.levels.take j).all glevelOk = true ∧ distOk (toks f j) = true) (fun j => f.levels.length - j)
    (fun j => (S 159 [(1, .ptr 0 3 0 0), (3, boolA (startTo f f.rules.length)), (9, .ref 1 1 0 (toks f j).length), (10, intA (j : Nat))] 2 [(0, some (.arr 3 [fileA f])), (1, some (.arr 1 ((toks f j).map strA)))])) 0 ⟨[0, 1], ToR.S rfl (by repeat' (first | exact rt_nil | refine rt_r (by exact rfl) (by exact rfl) ?_ | refine rt_t (by exact rfl) (by exact rfl) ?_ | refine rt_e (by exact rfl) (by exact rfl) ?_)) (by repeat' (first | exact ro_nil | refine ro_e (by exact rfl) (by exact rfl) ?_ | refine ro_p (by exact rfl) (by first | exact rfl | fail) (by first | (simp [bdL, bdL_append, AV.bd]; done) | fail) ?_)) (by exact rfl) (by (rw [hm]; exact rfl)) (by exact rfl) (by (simp [bdT, AV.bd, bdL, bdL_append]; done)) (by repeat' (first | exact True.intro | exact rfl | refine And.intro ?_ ?_ | (simp [bdOq, bdL, bdL_append, AV.bd]; done))) (by (rw [hm]; exact Nat.le_of_ble_eq_true rfl))⟩ ⟨Nat.zero_le _, rfl, by simp [toks, distOk]⟩ ?_
  rintro j ⟨hj, hjall, hjd⟩
  have htm := toks_mono f hj
  by_cases hlt2 : j < f.levels.length
  · have htm2 := toks_mono f (k := j + 1) (by omega)
    rw [toks_succ hlt2, List.length_append] at htm2
    have hlf := hf2 _ (nth_mem hlt2)
    (repeat' (first | refine WP.seq ?_ | refine WP.block ?_ | refine go_n ?_ | refine WP.skip ?_ | refine WP.ret ?_ | refine go_r ?_ | refine bl_r ?_ | refine bo_r ?_ | (refine wp_cond (by exact rfl) (fun hc => ?_) (fun hc => ?_) <;> (try simp only [decide_eq_true_eq, decide_eq_false_iff_not, Decidable.not_not, Bool.and_eq_true, Bool.or_eq_true, Bool.not_eq_true', Bool.not_eq_false', Bool.or_eq_false_iff, Bool.and_eq_false_iff, Int.not_lt, Int.not_le, reduceCtorEq, ne_eq, Bool.not_true, Bool.not_false, Bool.not_eq_true, Bool.not_eq_false] at hc) <;> (try (exfalso; omega))) | (refine WP.regionC (id := 24) ?_; (refine su (ap_move (by exact rq_p rfl rfl)) ?_); (refine su (ap_field_p (by exact rq_p rfl rfl) (by exact rfl) (by exact rfl)) ?_); (refine su (ap_load_p (by exact rq_p rfl rfl) (by exact rfl) (by exact rfl) (by exact rfl)) ?_); (refine su (ap_len_m (by exact rfl) (by exact rq_p rfl rfl)) ?_); (refine su (ap_lss (by exact rq_p rfl rfl) (by exact rq_p rfl rfl)) ?_); refine asemC_end ?_) | (refine WP.regionC (id := 26) ?_; (refine su (ap_field_p (by exact rq_p rfl rfl) (by exact rfl) (by exact rfl)) ?_); (refine su (ap_load_p (by exact rq_p rfl rfl) (by exact rfl) (by exact rfl) (by exact rfl)) ?_); (refine su (ap_move (by exact rq_p rfl rfl)) ?_); (refine su (ap_idx_n (by exact rq_p rfl rfl) (by exact rq_p rfl rfl) (by omega)) ?_); (refine su (ap_load_w (by exact rq_p rfl rfl) (by exact rfl)) ?_); (refine se_alloc (by exact rfl) ?_); (refine se_store_b (by exact rfl) (by exact rfl) (by exact rfl) (by exact rfl) ?_); refine asemC_end ?_) | (refine WP.regionC (id := 27) ?_; (refine su (ap_field_p (by exact rq_p rfl rfl) (by exact rfl) (by exact rfl)) ?_); (refine su (ap_load_p (by exact rq_p rfl rfl) (by exact rfl) (by exact rfl) (by exact rfl)) ?_); (refine su (ap_lss (by exact rq_p rfl rfl) (by exact rq_p rfl rfl)) ?_); (refine su (ap_move (by exact rq_p rfl rfl)) ?_); (refine sg (by exact gq_vf rfl rfl) (fun he => ap_field_p (by exact rq_p rfl rfl) (by exact rfl) (by exact rfl)) ?_); (refine sg (by exact gq_vf rfl rfl) (fun he => ap_load_p (by exact rq_c rfl rfl) (by exact rfl) (by exact rfl) (by exact rfl)) ?_); (refine sg (by exact gq_vf rfl rfl) (fun he => ap_gtr (by exact rq_c rfl rfl) (by exact rq_p rfl rfl)) ?_); (refine su (ap_or (by exact rq_p rfl rfl) (by exact rq_c rfl rfl)) ?_); (refine su (ap_move (by exact rq_p rfl rfl)) ?_); (refine sg (by exact gq_vf rfl rfl) (fun he => ap_field_p (by exact rq_p rfl rfl) (by exact rfl) (by exact rfl)) ?_); (refine sg (by exact gq_vf rfl rfl) (fun he => ap_load_p (by exact rq_c rfl rfl) (by exact rfl) (by exact rfl) (by exact rfl)) ?_); (refine sg (by exact gq_vf rfl rfl) (fun he => ap_len_m (by exact rfl) (by exact rq_c rfl rfl)) ?_); (refine sg (by exact gq_vf rfl rfl) (fun he => ap_eql (by exact rq_c rfl rfl) (by exact rq_p rfl rfl)) ?_); (refine su (ap_or (by exact rq_p rfl rfl) (by exact rq_c rfl rfl)) ?_); refine asemC_end ?_) | (refine WP.regionC (id := 28) ?_; (refine su (ap_assign (by exact rq_p rfl rfl)) ?_); refine asemC_end ?_) | (refine WP.regionC (id := 29) ?_; (refine su (ap_assign (by exact rq_p rfl rfl)) ?_); refine asemC_end ?_) | refine ret_b (by exact rfl) ?_))
    · rw [show validF f = false by simp only [validF, all_nth_no (l := f.levels) (f := glevelOk) (k := j) hlt2 (glevel_no (by omega)), Bool.and_false, Bool.false_and]]
    have hgl : glevelOk (nth f.levels j) = true := glevel_iff.2 (by omega)
    refine wp_loop (fun (k : Nat) => k ≤ (nth f.levels j).tokens.length ∧ distOk (toks2 f j k) = true) (fun k => (nth f.levels j).tokens.length - k)
      (fun k => (S 159 [(1, .ptr 0 3 0 0), (3, boolA (startTo f f.rules.length)), (9, .ref 1 1 0 (toks2 f j k).length), (10, intA (j : Nat)), (11, .ptr 2 2 0 0), (12, intA (k : Nat))] 3 [(0, some (.arr 3 [fileA f])), (1, some (.arr 1 ((toks2 f j k).map strA))), (2, some (.arr 2 [levelA (nth f.levels j)]))])) 0 ?_ ⟨Nat.zero_le _, by rw [toks2, List.take_zero, List.append_nil]; exact hjd⟩ ?_
    · rw [show toks2 f j 0 = toks f j by rw [toks2, List.take_zero, List.append_nil]]
      exact ⟨[0, 1, 2], ToR.S rfl (by repeat' (first | exact rt_nil | refine rt_r (by exact rfl) (by exact rfl) ?_ | refine rt_t (by exact rfl) (by exact rfl) ?_ | refine rt_e (by exact rfl) (by exact rfl) ?_)) (by repeat' (first | exact ro_nil | refine ro_p (by exact rfl) (by first | exact rfl | fail) (by first | exact bdL_map (fun _ => by exact rfl) _ | (simp [bdL, bdL_append, AV.bd]; done) | fail) ?_)) (by exact rfl) (by (rw [hm]; exact rfl)) (by exact rfl) (by (simp [bdT, AV.bd, bdL, bdL_append]; done)) (by repeat' (first | exact True.intro | refine And.intro ?_ ?_ | exact bdL_map (fun _ => by exact rfl) _ | (simp [bdOq, bdL, bdL_append, AV.bd]; done))) (by (rw [hm]; exact Nat.le_of_ble_eq_true rfl))⟩
    rintro k ⟨hk, hkd⟩
    have hk2 : (toks2 f j k).length = (toks f j).length + k := by simp [toks2]; omega
    by_cases hkl : k < (nth f.levels j).tokens.length
    · have hsz : (nth (nth f.levels j).tokens k).size ≤ 9223372036854775807 := hlf _ (nth_mem hkl)
      (repeat' (first | refine WP.seq ?_ | refine WP.block ?_ | refine go_n ?_ | refine WP.skip ?_ | (refine wp_cond (by exact rfl) (fun hc => ?_) (fun hc => ?_) <;> (try simp only [decide_eq_true_eq, decide_eq_false_iff_not, Decidable.not_not, Bool.and_eq_true, Bool.or_eq_true, Bool.not_eq_true', Bool.not_eq_false', Bool.or_eq_false_iff, Bool.and_eq_false_iff, Int.not_lt, Int.not_le, reduceCtorEq, ne_eq, Bool.not_true, Bool.not_false, Bool.not_eq_true, Bool.not_eq_false] at hc) <;> (try (exfalso; omega))) | (refine WP.regionC (id := 30) ?_; (refine su (ap_move (by exact rq_p rfl rfl)) ?_); (refine su (ap_field_p (by exact rq_p rfl rfl) (by exact rfl) (by exact rfl)) ?_); (refine su (ap_load_p (by exact rq_p rfl rfl) (by exact rfl) (by exact rfl) (by exact rfl)) ?_); (refine su (ap_len_m (by exact rfl) (by exact rq_p rfl rfl)) ?_); (refine su (ap_lss (by exact rq_p rfl rfl) (by exact rq_p rfl rfl)) ?_); refine asemC_end ?_) | (refine WP.regionC (id := 32) ?_; (refine su (ap_assign (by exact rq_p rfl rfl)) ?_); refine asemC_end ?_)))
      refine wp_loop (fun (m : Nat) => m ≤ (toks2 f j k).length ∧ ∀ i, i < m → nth (toks2 f j k) i ≠ nth (nth f.levels j).tokens k) (fun m => (toks2 f j k).length - m)
        (fun m => (S 159 [(1, .ptr 0 3 0 0), (3, boolA (startTo f f.rules.length)), (9, .ref 1 1 0 (toks2 f j k).length), (10, intA (j : Nat)), (11, .ptr 2 2 0 0), (12, intA (k : Nat)), (13, intA (m : Nat))] 3 [(0, some (.arr 3 [fileA f])), (1, some (.arr 1 ((toks2 f j k).map strA))), (2, some (.arr 2 [levelA (nth f.levels j)]))])) 0 ⟨[0, 1, 2], ToR.S rfl (by repeat' (first | exact rt_nil | refine rt_r (by exact rfl) (by exact rfl) ?_ | refine rt_t (by exact rfl) (by exact rfl) ?_ | refine rt_e (by exact rfl) (by exact rfl) ?_)) (by repeat' (first | exact ro_nil | refine ro_p (by exact rfl) (by first | exact rfl | fail) (by first | exact bdL_map (fun _ => by exact rfl) _ | (simp [bdL, bdL_append, AV.bd]; done) | fail) ?_)) (by exact rfl) (by (rw [hm]; exact rfl)) (by exact rfl) (by (simp [bdT, AV.bd, bdL, bdL_append]; done)) (by repeat' (first | exact True.intro | refine And.intro ?_ ?_ | exact bdL_map (fun _ => by exact rfl) _ | (simp [bdOq, bdL, bdL_append, AV.bd]; done))) (by (rw [hm]; exact Nat.le_of_ble_eq_true rfl))⟩ ⟨Nat.zero_le _, fun j hj => absurd hj (Nat.not_lt_zero _)⟩ ?_
      rintro m ⟨hm3, hmne⟩
      by_cases hml : m < (toks2 f j k).length
      · (repeat' (first | refine WP.seq ?_ | refine WP.block ?_ | refine go_n ?_ | refine WP.skip ?_ | refine WP.ret ?_ | refine go_r ?_ | refine bl_n ?_ | refine bl_r ?_ | refine bo_r ?_ | (refine wp_cond (by exact rfl) (fun hc => ?_) (fun hc => ?_) <;> (try simp only [decide_eq_true_eq, decide_eq_false_iff_not, Decidable.not_not, Bool.and_eq_true, Bool.or_eq_true, Bool.not_eq_true', Bool.not_eq_false', Bool.or_eq_false_iff, Bool.and_eq_false_iff, Int.not_lt, Int.not_le, reduceCtorEq, ne_eq, Bool.not_true, Bool.not_false, Bool.not_eq_true, Bool.not_eq_false] at hc) <;> (try (exfalso; omega))) | (refine WP.regionC (id := 33) ?_; (refine su (ap_move (by exact rq_p rfl rfl)) ?_); (refine su (ap_move (by exact rq_p rfl rfl)) ?_); (refine su (ap_len_r (by exact rfl) (by exact rq_p rfl rfl)) ?_); (refine su (ap_lss (by exact rq_p rfl rfl) (by exact rq_p rfl rfl)) ?_); refine asemC_end ?_) | (refine wp_draw (id := 35) 10 mixed (by kernel_rfl) (by kernel_rfl) rfl ?_ <;> (refine rd_u (by exact rfl) (by exact rfl) (ap_move (by exact rq_p rfl rfl)) ?_) <;> (refine rd_u (by exact rfl) (by exact rfl) (ap_move (by exact rq_p rfl rfl)) ?_) <;> (refine rd_u (by exact rfl) (by exact rfl) (ap_idxr_n (by exact rq_p rfl rfl) (by exact rq_p rfl rfl) (by omega)) ?_) <;> (refine rd_u (by exact rfl) (by exact rfl) (ap_load_pt (by exact rq_p rfl rfl) (by exact rfl) (by omega) (by exact rfl)) ?_) <;> (refine rd_u (by exact rfl) (by exact rfl) (ap_field_p (by exact rq_p rfl rfl) (by exact rfl) (by exact rfl)) ?_) <;> (refine rd_u (by exact rfl) (by exact rfl) (ap_load_p (by exact rq_p rfl rfl) (by exact rfl) (by exact rfl) (by exact rfl)) ?_) <;> (refine rd_u (by exact rfl) (by exact rfl) (ap_move (by exact rq_p rfl rfl)) ?_) <;> (refine rd_u (by exact rfl) (by exact rfl) (ap_idx_n (by exact rq_p rfl rfl) (by exact rq_p rfl rfl) (by omega)) ?_) <;> (refine rd_u (by exact rfl) (by exact rfl) (ap_load_w (by exact rq_p rfl rfl) (by exact rfl)) ?_) <;> (refine rd_u (by exact rfl) (by exact rfl) (ap_eqs (by exact rq_p rfl rfl) (by exact rq_p rfl rfl)) ?_) <;> (refine rd_end (by kernel_rfl) ?_)) | (refine WP.regionC (id := 36) ?_; (refine su (ap_assign (by exact rq_p rfl rfl)) ?_); refine asemC_end ?_) | (refine WP.regionC (id := 34) ?_; (refine su (ap_move (by exact rq_p rfl rfl)) ?_); (refine su (ap_add (by exact rq_p rfl rfl) (by exact rq_p rfl rfl) (by exact inr_i64_of (by omega))) ?_); (refine su (ap_assign (by exact rq_p rfl rfl)) ?_); refine asemC_end ?_) | refine ret_b (by exact rfl) ?_))
        · rw [toks2_no hlt2 hkl (.inr (hc ▸ nth_mem hml))]
        · refine ⟨m + 1, ⟨by omega, by omega, fun i hi => ?_⟩, ⟨[0, 1, 2], ToR.S rfl (by repeat' (first | exact rt_nil | refine rt_r (by exact rfl) (by exact rfl) ?_ | refine rt_t (by exact rfl) (by exact rfl) ?_ | refine rt_e (by exact rfl) (by exact rfl) ?_)) (by repeat' (first | exact ro_nil | refine ro_p (by exact rfl) (by first | exact rfl | fail) (by first | exact bdL_map (fun _ => by exact rfl) _ | (simp [bdL, bdL_append, AV.bd]; done) | fail) ?_)) (by exact rfl) (by (rw [hm]; exact rfl)) (by exact rfl) (by (simp [bdT, AV.bd, bdL, bdL_append]; done)) (by repeat' (first | exact True.intro | refine And.intro ?_ ?_ | exact bdL_map (fun _ => by exact rfl) _ | (simp [bdOq, bdL, bdL_append, AV.bd]; done))) (by (rw [hm]; exact Nat.le_of_ble_eq_true rfl))⟩⟩
          by_cases h : i = m
          · subst h; exact hc
          · exact hmne i (by omega)
      obtain rfl : m = (toks2 f j k).length := by omega
      (repeat' (first | refine WP.seq ?_ | refine go_n ?_ | refine WP.skip ?_ | refine WP.exit ?_ | refine WP.ret ?_ | refine go_x ?_ | refine go_r ?_ | refine bl_n ?_ | refine bl_r ?_ | refine bl_x ?_ | refine bo_r ?_ | (refine wp_cond (by exact rfl) (fun hc => ?_) (fun hc => ?_) <;> (try simp only [decide_eq_true_eq, decide_eq_false_iff_not, Decidable.not_not, Bool.and_eq_true, Bool.or_eq_true, Bool.not_eq_true', Bool.not_eq_false', Bool.or_eq_false_iff, Bool.and_eq_false_iff, Int.not_lt, Int.not_le, reduceCtorEq, ne_eq, Bool.not_true, Bool.not_false, Bool.not_eq_true, Bool.not_eq_false] at hc) <;> (try (exfalso; omega))) | (refine WP.regionC (id := 33) ?_; (refine su (ap_move (by exact rq_p rfl rfl)) ?_); (refine su (ap_move (by exact rq_p rfl rfl)) ?_); (refine su (ap_len_r (by exact rfl) (by exact rq_p rfl rfl)) ?_); (refine su (ap_lss (by exact rq_p rfl rfl) (by exact rq_p rfl rfl)) ?_); refine asemC_end ?_) | (refine WP.regionC (id := 37) ?_; (refine su (ap_field_p (by exact rq_p rfl rfl) (by exact rfl) (by exact rfl)) ?_); (refine su (ap_load_p (by exact rq_p rfl rfl) (by exact rfl) (by exact rfl) (by exact rfl)) ?_); (refine su (ap_move (by exact rq_p rfl rfl)) ?_); (refine su (ap_idx_n (by exact rq_p rfl rfl) (by exact rq_p rfl rfl) (by omega)) ?_); (refine su (ap_load_w (by exact rq_p rfl rfl) (by exact rfl)) ?_); (refine sc_p rfl rfl (by first | ((repeat' first | exact SubL.nil | refine SubL.cons ?_ ?_ | exact Sub.refl); done) | fail) (by first | (simp [bdL, bdL_append, AV.bd]; done) | fail) (rname_fn _ (by assumption)) ?_); (refine su (ap_not (by exact rq_p rfl rfl)) ?_); refine asemC_end ?_) | (refine WP.regionC (id := 38) ?_; (refine su (ap_assign (by exact rq_p rfl rfl)) ?_); refine asemC_end ?_) | (refine WP.regionC (id := 39) ?_; (refine su (ap_move (by exact rq_p rfl rfl)) ?_); (refine su (ap_field_p (by exact rq_p rfl rfl) (by exact rfl) (by exact rfl)) ?_); (refine su (ap_load_p (by exact rq_p rfl rfl) (by exact rfl) (by exact rfl) (by exact rfl)) ?_); (refine su (ap_move (by exact rq_p rfl rfl)) ?_); (refine su (ap_idx_n (by exact rq_p rfl rfl) (by exact rq_p rfl rfl) (by omega)) ?_); (refine su (ap_load_w (by exact rq_p rfl rfl) (by exact rfl)) ?_); (refine se_lit (OpP.cons (by exact rfl) (OpP.nil)) (by exact rfl) (by exact rfl) (by exact rfl) (by exact rfl) (by exact rfl) (by exact rfl) ?_); (refine se_app1 (by exact rfl) (by exact rfl) (by exact rfl) (by exact rfl) (by exact rfl) (by exact rfl) (by exact rfl) (by exact rfl) (by omega) ?_); (refine su (ap_assign (by exact rq_p rfl rfl)) ?_); refine asemC_end ?_) | (refine WP.regionC (id := 31) ?_; (refine su (ap_move (by exact rq_p rfl rfl)) ?_); (refine su (ap_add (by exact rq_p rfl rfl) (by exact rq_p rfl rfl) (by exact inr_i64_of (by omega))) ?_); (refine su (ap_assign (by exact rq_p rfl rfl)) ?_); refine asemC_end ?_) | refine ret_b (by exact rfl) ?_))
      · rw [toks2_no hlt2 hkl (.inl hc)]
      · have e1 : toks2 f j (k + 1) = toks2 f j k ++ [nth (nth f.levels j).tokens k] := by rw [toks2, toks2, take_succ_nth hkl, List.append_assoc]
        refine ⟨k + 1, ⟨by omega, by omega, ?_⟩, ?_⟩
        · rw [e1]
          refine distOk_add hkd hc fun hx => ?_
          obtain ⟨i, hi, he⟩ := List.getElem_of_mem hx
          exact hmne i hi (by rw [nth_eq hi]; exact he)
        · rw [e1]
          exact ⟨[0, 4, 2], ToR.S rfl (by repeat' (first | exact rt_nil | refine rt_r (by exact rfl) (by exact rfl) ?_ | refine rt_t (by exact rfl) (by exact rfl) ?_ | refine rt_e (by exact rfl) (by exact rfl) ?_)) (by repeat' (first | exact ro_nil | refine ro_p (by exact rfl) (by first | exact rfl | fail) (by first | exact bdL_map (fun _ => by exact rfl) _ | (simp [bdL, bdL_append, AV.bd]; done) | fail) ?_)) (by exact rfl) (by (rw [hm]; exact rfl)) (by exact rfl) (by (simp [bdT, AV.bd, bdL, bdL_append]; done)) (by repeat' (first | exact True.intro | refine And.intro ?_ ?_ | exact bdL_map (fun _ => by exact rfl) _ | (simp [bdOq, bdL, bdL_append, AV.bd]; done))) (by (rw [hm]; exact Nat.le_of_ble_eq_true rfl))⟩
    obtain rfl : k = (nth f.levels j).tokens.length := by omega
    have e2 : toks2 f j (nth f.levels j).tokens.length = toks f (j + 1) := by rw [toks2, List.take_of_length_le (Nat.le_refl _), toks_succ hlt2]
    rw [e2] at hkd
    rw [e2]
    (repeat' (first | refine WP.seq ?_ | refine go_n ?_ | refine WP.exit ?_ | refine go_x ?_ | refine bl_n ?_ | refine bl_x ?_ | (refine wp_cond (by exact rfl) (fun hc => ?_) (fun hc => ?_) <;> (try simp only [decide_eq_true_eq, decide_eq_false_iff_not, Decidable.not_not, Bool.and_eq_true, Bool.or_eq_true, Bool.not_eq_true', Bool.not_eq_false', Bool.or_eq_false_iff, Bool.and_eq_false_iff, Int.not_lt, Int.not_le, reduceCtorEq, ne_eq, Bool.not_true, Bool.not_false, Bool.not_eq_true, Bool.not_eq_false] at hc) <;> (try (exfalso; omega))) | (refine WP.regionC (id := 30) ?_; (refine su (ap_move (by exact rq_p rfl rfl)) ?_); (refine su (ap_field_p (by exact rq_p rfl rfl) (by exact rfl) (by exact rfl)) ?_); (refine su (ap_load_p (by exact rq_p rfl rfl) (by exact rfl) (by exact rfl) (by exact rfl)) ?_); (refine su (ap_len_m (by exact rfl) (by exact rq_p rfl rfl)) ?_); (refine su (ap_lss (by exact rq_p rfl rfl) (by exact rq_p rfl rfl)) ?_); refine asemC_end ?_) | (refine WP.regionC (id := 25) ?_; (refine su (ap_move (by exact rq_p rfl rfl)) ?_); (refine su (ap_add (by exact rq_p rfl rfl) (by exact rq_p rfl rfl) (by exact inr_i64_of (by omega))) ?_); (refine su (ap_assign (by exact rq_p rfl rfl)) ?_); refine asemC_end ?_)))
    exact ⟨j + 1, ⟨by omega, by omega, take_all_succ hlt2 hjall hgl, hkd⟩, ⟨[0, 1], ToR.S rfl (by repeat' (first | exact rt_nil | refine rt_r (by exact rfl) (by exact rfl) ?_ | refine rt_t (by exact rfl) (by exact rfl) ?_ | refine rt_e (by exact rfl) (by exact rfl) ?_)) (by repeat' (first | exact ro_nil | refine ro_p (by exact rfl) (by first | exact rfl | fail) (by first | exact bdL_map (fun _ => by exact rfl) _ | (simp [bdL, bdL_append, AV.bd]; done) | fail) ?_)) (by exact rfl) (by (rw [hm]; exact rfl)) (by exact rfl) (by (simp [bdT, AV.bd, bdL, bdL_append]; done)) (by repeat' (first | exact True.intro | refine And.intro ?_ ?_ | exact bdL_map (fun _ => by exact rfl) _ | (simp [bdOq, bdL, bdL_append, AV.bd]; done))) (by (rw [hm]; exact Nat.le_of_ble_eq_true rfl))⟩⟩
  obtain rfl : j = f.levels.length := by omega
  have hls := all_of_take' (by omega) hjall
  (repeat' (first | refine WP.seq ?_ | refine go_n ?_ | refine WP.exit ?_ | refine WP.ret ?_ | refine go_x ?_ | refine bl_x ?_ | refine bo_r ?_ | (refine wp_cond (by exact rfl) (fun hc => ?_) (fun hc => ?_) <;> (try simp only [decide_eq_true_eq, decide_eq_false_iff_not, Decidable.not_not, Bool.and_eq_true, Bool.or_eq_true, Bool.not_eq_true', Bool.not_eq_false', Bool.or_eq_false_iff, Bool.and_eq_false_iff, Int.not_lt, Int.not_le, reduceCtorEq, ne_eq, Bool.not_true, Bool.not_false, Bool.not_eq_true, Bool.not_eq_false] at hc) <;> (try (exfalso; omega))) | (refine WP.regionC (id := 24) ?_; (refine su (ap_move (by exact rq_p rfl rfl)) ?_); (refine su (ap_field_p (by exact rq_p rfl rfl) (by exact rfl) (by exact rfl)) ?_); (refine su (ap_load_p (by exact rq_p rfl rfl) (by exact rfl) (by exact rfl) (by exact rfl)) ?_); (refine su (ap_len_m (by exact rfl) (by exact rq_p rfl rfl)) ?_); (refine su (ap_lss (by exact rq_p rfl rfl) (by exact rq_p rfl rfl)) ?_); refine asemC_end ?_) | (refine WP.regionC (id := 40) ?_; (refine su (ap_move (by exact rq_p rfl rfl)) ?_); (refine su (ap_assign (by exact rq_p rfl rfl)) ?_); refine asemC_end ?_) | refine ret_b (by exact rfl) ?_))
  have a1 : decide (1 ≤ f.rules.length) = true := decide_eq_true (by omega)
  have a2 : decide (f.rules.length ≤ 120) = true := decide_eq_true (by omega)
  simp only [validF, a1, a2, hr1, hr2, hls, hjd, start_any, Bool.true_and]
end Go.Lg

namespace Go.Lg
open Go.Proofs
set_option linter.unusedSimpArgs false
set_option linter.unusedVariables false
attribute [local irreducible] Ap Rq asemC WP RunD Ret Gq thenA inBlockA bodyQ noGotoA RqL RqP OpP
set_option maxHeartbeats 8000000
set_option maxRecDepth 20000
theorem law_fvalid (f : GFi) (hf : f.fit ∧ TokB f) : Fn Tryd.prog 3 [fileA f] (boolA true) := by
  have hs := small_fn f hf.2 200 (by decide) (by decide)
  by_cases hz : sizeF f 200 ≤ 200
  · have ht := toks_small hf.2 (by decide) hz
    have h1 := gvalid_fn f (by omega)
    have h2 := rvalid_fn f hf.1 (by omega)
    refine Fn.intro (by exact rfl) (by kernel_rfl) Tryd.func3 rfl rfl Tryd.ntmps3 (by exact Nat.le_of_ble_eq_true rfl) ?_; intro Γ hm
    (repeat' (first | refine WP.seq ?_ | refine go_n ?_ | refine WP.skip ?_ | refine WP.ret ?_ | refine bo_r ?_ | (refine wp_cond (by exact rfl) (fun hc => ?_) (fun hc => ?_) <;> (try simp only [decide_eq_true_eq, decide_eq_false_iff_not, Decidable.not_not, Bool.and_eq_true, Bool.or_eq_true, Bool.not_eq_true', Bool.not_eq_false', Bool.or_eq_false_iff, Bool.and_eq_false_iff, Int.not_lt, Int.not_le, reduceCtorEq, ne_eq, Bool.not_true, Bool.not_false, Bool.not_eq_true, Bool.not_eq_false] at hc) <;> (try (exfalso; omega))) | (refine WP.regionC (id := 0) ?_; (refine se_box (by exact rfl) (by exact ⟨rfl, rfl⟩) ?_); (refine su (ap_assign (by exact rq_p rfl rfl)) ?_); refine asemC_end ?_) | (refine WP.regionC (id := 1) ?_; (refine su (ap_load_pw (by exact rq_p rfl rfl) (by exact rfl) (by exact rfl) (by exact rfl)) ?_); (refine sc_p rfl rfl (by first | ((repeat' first | exact SubL.nil | refine SubL.cons ?_ ?_ | exact Sub.refl); done) | fail) (by first | (simp [bdL, bdL_append, AV.bd]; done) | fail) (hs) ?_); (refine su (ap_not (by exact rq_p rfl rfl)) ?_); refine asemC_end ?_) | (refine wp_draw (id := 3) 9 mixed (by kernel_rfl) (by kernel_rfl) rfl ?_ <;> (refine rd_call rfl rfl (by first | ((repeat' (exact SubL.nil)); done) | fail) (by first | (simp [bdL, bdL_append, AV.bd]; done) | fail) (awake16_fn) ?_) <;> (refine rd_u (by exact rfl) (by exact rfl) (ap_move (by exact rq_p rfl rfl)) ?_) <;> (refine rdg_u rfl rfl (by exact rfl) (by exact rfl) (ap_load_pw (by exact rq_p rfl rfl) (by exact rfl) (by exact rfl) (by exact rfl)) ?_) <;> (refine rdg_call rfl (by exact rfl) rfl rfl (by first | ((repeat' first | exact SubL.nil | refine SubL.cons ?_ ?_ | exact Sub.refl); done) | fail) (by first | (simp [bdL, bdL_append, AV.bd]; done) | fail) (h1) ?_) <;> (refine rdg_u rfl rfl (by exact rfl) (by exact rfl) (ap_load_pw (by exact rq_p rfl rfl) (by exact rfl) (by exact rfl) (by exact rfl)) ?_) <;> (refine rdg_call rfl (by exact rfl) rfl rfl (by first | ((repeat' first | exact SubL.nil | refine SubL.cons ?_ ?_ | exact Sub.refl); done) | fail) (by first | (simp [bdL, bdL_append, AV.bd]; done) | fail) (h2) ?_) <;> (refine rdg_u rfl rfl (by exact rfl) (by exact rfl) (ap_eqb (by kernel_rfl) (by exact rq_p rfl rfl) (by exact rq_p rfl rfl)) ?_) <;> (refine rd_pick_t (by exact rfl) (by exact rfl) ?_) <;> (refine rd_u (by exact rfl) (by exact rfl) (ap_assign (by exact rq_p rfl rfl)) ?_) <;> (refine rd_end (by kernel_rfl) ?_)) | refine ret_b (by exact rfl) ?_))
    simp
  · refine Fn.intro (by exact rfl) (by kernel_rfl) Tryd.func3 rfl rfl Tryd.ntmps3 (by exact Nat.le_of_ble_eq_true rfl) ?_; intro Γ hm
    (repeat' (first | refine WP.seq ?_ | refine go_n ?_ | refine WP.ret ?_ | refine go_r ?_ | refine bo_r ?_ | (refine wp_cond (by exact rfl) (fun hc => ?_) (fun hc => ?_) <;> (try simp only [decide_eq_true_eq, decide_eq_false_iff_not, Decidable.not_not, Bool.and_eq_true, Bool.or_eq_true, Bool.not_eq_true', Bool.not_eq_false', Bool.or_eq_false_iff, Bool.and_eq_false_iff, Int.not_lt, Int.not_le, reduceCtorEq, ne_eq, Bool.not_true, Bool.not_false, Bool.not_eq_true, Bool.not_eq_false] at hc) <;> (try (exfalso; omega))) | (refine WP.regionC (id := 0) ?_; (refine se_box (by exact rfl) (by exact ⟨rfl, rfl⟩) ?_); (refine su (ap_assign (by exact rq_p rfl rfl)) ?_); refine asemC_end ?_) | (refine WP.regionC (id := 1) ?_; (refine su (ap_load_pw (by exact rq_p rfl rfl) (by exact rfl) (by exact rfl) (by exact rfl)) ?_); (refine sc_p rfl rfl (by first | ((repeat' first | exact SubL.nil | refine SubL.cons ?_ ?_ | exact Sub.refl); done) | fail) (by first | (simp [bdL, bdL_append, AV.bd]; done) | fail) (hs) ?_); (refine su (ap_not (by exact rq_p rfl rfl)) ?_); refine asemC_end ?_) | (refine WP.regionC (id := 2) ?_; (refine sc_p rfl rfl (by first | ((repeat' (exact SubL.nil)); done) | fail) (by first | (simp [bdL, bdL_append, AV.bd]; done) | fail) (awake16_fn) ?_); (refine su (ap_assign (by exact rq_p rfl rfl)) ?_); refine asemC_end ?_) | exact ret_eq (by exact rfl) (by exact rfl) rfl))
theorem law_fequal (a : GFi) (ha : a.fit ∧ TokB a) (b : GFi) (hb : b.fit ∧ TokB b) : Fn Tryd.prog 4 [fileA a, fileA b] (boolA true) := by
  have hs := small_fn a ha.2 200 (by decide) (by decide)
  have ht := small_fn b hb.2 200 (by decide) (by decide)
  have e1 := gequal_fn a b
  have e2 := requal_fn a b
  have e3 := gequal_fn a a
  have e4 := gequal_fn b a
  refine Fn.intro (by exact rfl) (by kernel_rfl) Tryd.func4 rfl rfl Tryd.ntmps4 (by exact Nat.le_of_ble_eq_true rfl) ?_; intro Γ hm
  (repeat' (first | refine WP.seq ?_ | refine go_n ?_ | refine WP.skip ?_ | refine WP.ret ?_ | refine go_r ?_ | refine bo_r ?_ | (refine wp_cond (by exact rfl) (fun hc => ?_) (fun hc => ?_) <;> (try simp only [decide_eq_true_eq, decide_eq_false_iff_not, Decidable.not_not, Bool.and_eq_true, Bool.or_eq_true, Bool.not_eq_true', Bool.not_eq_false', Bool.or_eq_false_iff, Bool.and_eq_false_iff, Int.not_lt, Int.not_le, reduceCtorEq, ne_eq, Bool.not_true, Bool.not_false, Bool.not_eq_true, Bool.not_eq_false] at hc) <;> (try (exfalso; omega))) | (refine WP.regionC (id := 0) ?_; (refine se_box (by exact rfl) (by exact ⟨rfl, rfl⟩) ?_); (refine se_box (by exact rfl) (by exact ⟨rfl, rfl⟩) ?_); (refine su (ap_assign (by exact rq_p rfl rfl)) ?_); refine asemC_end ?_) | (refine WP.regionC (id := 1) ?_; (refine su (ap_load_pw (by exact rq_p rfl rfl) (by exact rfl) (by exact rfl) (by exact rfl)) ?_); (refine sc_p rfl rfl (by first | ((repeat' first | exact SubL.nil | refine SubL.cons ?_ ?_ | exact Sub.refl); done) | fail) (by first | (simp [bdL, bdL_append, AV.bd]; done) | fail) (hs) ?_); (refine su (ap_not (by exact rq_p rfl rfl)) ?_); (refine su (ap_move (by exact rq_p rfl rfl)) ?_); (refine sg (by exact gq_vf rfl rfl) (fun he => ap_load_pw (by exact rq_p rfl rfl) (by exact rfl) (by exact rfl) (by exact rfl)) ?_); (refine sg_p (by exact gq_vf rfl rfl) (fun he => ⟨(by exact rq_p rfl rfl), (RqL.cons (by exact rq_c rfl rfl) (RqL.cons (by exact rq_p rfl rfl) (RqL.nil))), (by first | ((repeat' first | exact SubL.nil | refine SubL.cons ?_ ?_ | exact Sub.refl); done) | fail), (by first | (simp [bdL, bdL_append, AV.bd]; done) | fail), ht⟩) ?_); (refine sg (by exact gq_vf rfl rfl) (fun he => ap_not (by exact rq_c rfl rfl)) ?_); (refine su (ap_or (by exact rq_p rfl rfl) (by exact rq_c rfl rfl)) ?_); refine asemC_end ?_) | (refine WP.regionC (id := 2) ?_; (refine sc_p rfl rfl (by first | ((repeat' (exact SubL.nil)); done) | fail) (by first | (simp [bdL, bdL_append, AV.bd]; done) | fail) (awake16_fn) ?_); (refine su (ap_assign (by exact rq_p rfl rfl)) ?_); refine asemC_end ?_) | (refine wp_draw (id := 3) 25 mixed (by kernel_rfl) (by kernel_rfl) rfl ?_ <;> (refine rd_call rfl rfl (by first | ((repeat' (exact SubL.nil)); done) | fail) (by first | (simp [bdL, bdL_append, AV.bd]; done) | fail) (awake16_fn) ?_) <;> (refine rd_u (by exact rfl) (by exact rfl) (ap_move (by exact rq_p rfl rfl)) ?_) <;> (refine rdg_u rfl rfl (by exact rfl) (by exact rfl) (ap_load_pw (by exact rq_p rfl rfl) (by exact rfl) (by exact rfl) (by exact rfl)) ?_) <;> (refine rdg_u rfl rfl (by exact rfl) (by exact rfl) (ap_load_pw (by exact rq_p rfl rfl) (by exact rfl) (by exact rfl) (by exact rfl)) ?_) <;> (refine rdg_call rfl (by exact rfl) rfl rfl (by first | ((repeat' first | exact SubL.nil | refine SubL.cons ?_ ?_ | exact Sub.refl); done) | fail) (by first | (simp [bdL, bdL_append, AV.bd]; done) | fail) (e1) ?_) <;> (refine rdg_u rfl rfl (by exact rfl) (by exact rfl) (ap_load_pw (by exact rq_p rfl rfl) (by exact rfl) (by exact rfl) (by exact rfl)) ?_) <;> (refine rdg_u rfl rfl (by exact rfl) (by exact rfl) (ap_load_pw (by exact rq_p rfl rfl) (by exact rfl) (by exact rfl) (by exact rfl)) ?_) <;> (refine rdg_call rfl (by exact rfl) rfl rfl (by first | ((repeat' first | exact SubL.nil | refine SubL.cons ?_ ?_ | exact Sub.refl); done) | fail) (by first | (simp [bdL, bdL_append, AV.bd]; done) | fail) (e2) ?_) <;> (refine rdg_u rfl rfl (by exact rfl) (by exact rfl) (ap_eqb (by kernel_rfl) (by exact rq_p rfl rfl) (by exact rq_p rfl rfl)) ?_) <;> (refine rd_pick_t (by exact rfl) (by exact rfl) ?_) <;> (refine rd_u (by exact rfl) (by exact rfl) (ap_move (by exact rq_p rfl rfl)) ?_) <;> ((refine rd_split (t := 24) (by exact rfl) (fun hc => ?_) (fun hc => ?_) <;> (try simp only [decide_eq_true_eq, decide_eq_false_iff_not, Decidable.not_not, Bool.and_eq_true, Bool.or_eq_true, Bool.not_eq_true', Bool.not_eq_false', Bool.or_eq_false_iff, Bool.and_eq_false_iff, Int.not_lt, Int.not_le, reduceCtorEq, ne_eq, Bool.not_true, Bool.not_false, Bool.not_eq_true, Bool.not_eq_false] at hc) <;> (try (exfalso; omega)) <;> (first | refine rd_skip rfl rfl ?_ | refine rdg_u rfl rfl (by exact rfl) (by exact rfl) (ap_load_pw (by exact rq_p rfl rfl) (by exact rfl) (by exact rfl) (by exact rfl)) ?_))) <;> (first | refine rd_skip rfl rfl ?_ | refine rdg_u rfl rfl (by exact rfl) (by exact rfl) (ap_load_pw (by exact rq_p rfl rfl) (by exact rfl) (by exact rfl) (by exact rfl)) ?_) <;> (first | refine rd_skip rfl rfl ?_ | refine rdg_call rfl (by exact rfl) rfl rfl (by first | ((repeat' first | exact SubL.nil | refine SubL.cons ?_ ?_ | exact Sub.refl); done) | fail) (by first | (simp [bdL, bdL_append, AV.bd]; done) | fail) (e3) ?_) <;> (first | refine rd_pick_t (by exact rfl) (by exact rfl) ?_ | refine rd_pick_f (by exact rfl) (by exact rfl) ?_) <;> (refine rd_u (by exact rfl) (by exact rfl) (ap_move (by exact rq_p rfl rfl)) ?_) <;> (first | refine rd_skip rfl rfl ?_ | (refine rd_split (t := 29) (by exact rfl) (fun hc => ?_) (fun hc => ?_) <;> (try simp only [decide_eq_true_eq, decide_eq_false_iff_not, Decidable.not_not, Bool.and_eq_true, Bool.or_eq_true, Bool.not_eq_true', Bool.not_eq_false', Bool.or_eq_false_iff, Bool.and_eq_false_iff, Int.not_lt, Int.not_le, reduceCtorEq, ne_eq, Bool.not_true, Bool.not_false, Bool.not_eq_true, Bool.not_eq_false] at hc) <;> (try (exfalso; omega)) <;> (first | refine rd_skip rfl rfl ?_ | refine rdg_u rfl rfl (by exact rfl) (by exact rfl) (ap_load_pw (by exact rq_p rfl rfl) (by exact rfl) (by exact rfl) (by exact rfl)) ?_))) <;> (first | refine rd_skip rfl rfl ?_ | refine rdg_u rfl rfl (by exact rfl) (by exact rfl) (ap_load_pw (by exact rq_p rfl rfl) (by exact rfl) (by exact rfl) (by exact rfl)) ?_) <;> (first | refine rd_skip rfl rfl ?_ | refine rdg_call rfl (by exact rfl) rfl rfl (by first | ((repeat' first | exact SubL.nil | refine SubL.cons ?_ ?_ | exact Sub.refl); done) | fail) (by first | (simp [bdL, bdL_append, AV.bd]; done) | fail) (e4) ?_) <;> (first | refine rd_skip rfl rfl ?_ | refine rdg_u rfl rfl (by exact rfl) (by exact rfl) (ap_load_pw (by exact rq_p rfl rfl) (by exact rfl) (by exact rfl) (by exact rfl)) ?_) <;> (first | refine rd_skip rfl rfl ?_ | refine rdg_u rfl rfl (by exact rfl) (by exact rfl) (ap_load_pw (by exact rq_p rfl rfl) (by exact rfl) (by exact rfl) (by exact rfl)) ?_) <;> (first | refine rd_skip rfl rfl ?_ | refine rdg_call rfl (by exact rfl) rfl rfl (by first | ((repeat' first | exact SubL.nil | refine SubL.cons ?_ ?_ | exact Sub.refl); done) | fail) (by first | (simp [bdL, bdL_append, AV.bd]; done) | fail) (e1) ?_) <;> (first | refine rd_skip rfl rfl ?_ | refine rdg_u rfl rfl (by exact rfl) (by exact rfl) (ap_eqb (by kernel_rfl) (by exact rq_p rfl rfl) (by exact rq_p rfl rfl)) ?_) <;> (first | refine rd_pick_t (by exact rfl) (by exact rfl) ?_ | refine rd_pick_f (by exact rfl) (by exact rfl) ?_) <;> (refine rd_u (by exact rfl) (by exact rfl) (ap_assign (by exact rq_p rfl rfl)) ?_) <;> (refine rd_end (by kernel_rfl) ?_)) | exact ret_eq (by exact rfl) (by exact rfl) rfl | refine ret_b (by exact rfl) ?_))
  · rw [show decide (b = a) = decide (a = b) by rw [Bool.eq_iff_iff]; simp [eq_comm]]; simp
  · simp at hc
  · simp at hc
end Go.Lg

namespace Go.Lg
open Go.Proofs
set_option linter.unusedSimpArgs false
set_option linter.unusedVariables false
attribute [local irreducible] Ap Rq asemC WP RunD Ret Gq thenA inBlockA bodyQ noGotoA RqL RqP OpP
set_option maxHeartbeats 8000000
set_option maxRecDepth 20000
attribute [local simp] AV.cells altA
section
variable {P : Program} {n M : Nat} {l : List (Nat × AV)} {os : List (Nat × Option AObj)} {e : List Bool} {a : Operand} {ty : TypeId} {ti tj : TI}
theorem ap_conv_r1 {src : TypeId} {z : Int} {id : Nat} [h0 : TIc P src tj] [h : TIc P ty ti] (ha : Rq n l e a (.ref id 1 0 1)) (ho : lookq M os id = some (.arr 1 [.val (.int .u8 z)])) (hz : 0 ≤ z ∧ z ≤ 255) (hk : ti.kind = none) (hs : ti.sh = .string) (hb : b8 P ti = false) (hb' : b8 P tj = true) : Ap P n l M os e (.convert src ty a) (.val (.string (strB [UInt8.ofNat z.toNat]))) := by
  refine ap_conv_ref ha ?_ rfl hk hs hb hb'
  rw [ho]
  have : byteA (UInt8.ofNat z.toNat) = .val (.int .u8 z) := by
    simp only [byteA]
    have h1 : ((UInt8.ofNat z.toNat).toNat : Int) = z := by
      rw [UInt8.toNat_ofNat']
      omega
    rw [h1]
  rw [List.map_cons, List.map_nil, this]
end
theorem decDigits_step {u : Nat} (h : 0 < u / 10) : Lib.decDigits u = Lib.decDigits (u / 10) ++ [UInt8.ofNat (48 + u % 10)] := by
  rw [Lib.decDigits]
  split
  · omega
  · rfl
theorem decDigits_lt {u : Nat} (h : u / 10 = 0) : Lib.decDigits u = [UInt8.ofNat (48 + u % 10)] := by
  rw [Lib.decDigits_one (by omega), Nat.mod_eq_of_lt (by omega)]
theorem dec_inv {u : Nat} {s r : List UInt8} (h : Lib.decDigits u ++ s = r) : (if u / 10 = 0 then [UInt8.ofNat (48 + u % 10)] ++ s = r else Lib.decDigits (u / 10) ++ ([UInt8.ofNat (48 + u % 10)] ++ s) = r) := by
  split
  · rename_i h0; rw [← decDigits_lt h0]; exact h
  · rename_i h0; rw [← List.append_assoc, ← decDigits_step (by omega)]; exact h
theorem tmod10 (n : Nat) : (n : Int).tmod 10 = ((n % 10 : Nat) : Int) := by rw [Int.tmod_eq_emod_of_nonneg (by omega)]; omega
theorem tdiv10 (n : Nat) : (n : Int).tdiv 10 = ((n / 10 : Nat) : Int) := by rw [Int.tdiv_eq_ediv_of_nonneg (by omega)]; omega
theorem decimal_fn (n : Nat) (hn : n ≤ 1000) : Fn Tryd.prog 55 [intA (n : Int)] (strA (tx (Lib.itoa n))) := by
  rw [Lib.itoa_nonneg]
  have t1 := tmod10 n
  have t2 := tdiv10 n
  refine Fn.intro (by exact rfl) (by kernel_rfl) Tryd.func55 rfl rfl Tryd.ntmps55 (by exact Nat.le_of_ble_eq_true rfl) ?_; intro Γ hm
  (repeat' (first | refine WP.seq ?_ | refine WP.block ?_ | refine go_n ?_ | (refine WP.regionC (id := 0) ?_; (refine su (ap_assign (by exact rq_p rfl rfl)) ?_); refine asemC_end ?_) | (refine WP.regionC (id := 1) ?_; (refine su (ap_move (by exact rq_p rfl rfl)) ?_); (refine su (ap_rem (by exact rq_p rfl rfl) (by exact rq_p rfl rfl) (by omega)) ?_); (refine su (ap_add (by exact rq_p rfl rfl) (by exact rq_p rfl rfl) (by exact inr_i64_of (by omega))) ?_); (refine su (ap_conv (by exact rq_p rfl rfl) (by exact rfl) (by kernel_rfl) (by exact inr_u8_of (by omega))) ?_); (refine se_lit (OpP.cons (by exact rfl) (OpP.nil)) (by exact rfl) (by exact rfl) (by exact rfl) (by exact rfl) (by exact rfl) (by exact rfl) ?_); (refine su (ap_conv_r1 (by exact rq_p rfl rfl) (by exact rfl) (by omega) (by exact rfl) (by exact rfl) (by kernel_rfl) (by kernel_rfl)) ?_); (refine su (ap_assign (by exact rq_p rfl rfl)) ?_); refine asemC_end ?_) | (refine WP.regionC (id := 2) ?_; (refine su (ap_move (by exact rq_p rfl rfl)) ?_); (refine su (ap_quo (by exact rq_p rfl rfl) (by exact rq_p rfl rfl) (And.intro (by decide) (by exact inr_i64_of (by omega)))) ?_); (refine su (ap_assign (by exact rq_p rfl rfl)) ?_); refine asemC_end ?_)))
  rw [t1, t2]
  have h0 : strB [UInt8.ofNat ((48 : Int) + ((n % 10 : Nat) : Int)).toNat] = tx [UInt8.ofNat (48 + n % 10)] := by
    rw [show ((48 : Int) + ((n % 10 : Nat) : Int)).toNat = 48 + n % 10 by omega]; rfl
  rw [h0]
  refine wp_loop (fun (x : Nat × List UInt8) => x.1 ≤ 1000 ∧ x.2.length ≤ 1000 - x.1 ∧ (if x.1 = 0 then x.2 = Lib.decDigits n else Lib.decDigits x.1 ++ x.2 = Lib.decDigits n)) (fun x => x.1)
    (fun x => (S 25 [(0, intA (x.1 : Nat)), (3, strA (tx x.2))] 0 [])) (n / 10, [UInt8.ofNat (48 + n % 10)]) ⟨[], ToR.S rfl (by repeat' (first | exact rt_nil | refine rt_e (by exact rfl) (by exact rfl) ?_)) (by repeat' (exact ro_nil)) (by exact rfl) (by (rw [hm]; exact rfl)) (by exact rfl) (by (simp [bdT, AV.bd, bdL, bdL_append]; done)) (by repeat' (exact True.intro)) (by (rw [hm]; exact Nat.le_of_ble_eq_true rfl))⟩ ⟨by dsimp only; omega, by simp; omega, ?_⟩ ?_
  · dsimp only
    split
    · rename_i hz; exact (decDigits_lt hz).symm
    · rename_i hz; exact (decDigits_step (by omega)).symm
  rintro ⟨m, s⟩ ⟨hm1, hm2, hm3⟩
  dsimp only at *
  have t1 := tmod10 m
  have t2 := tdiv10 m
  have hsz : (tx s).size = s.length := tx_size s
  by_cases hz : m = 0
  · subst hz
    rw [if_pos rfl] at hm3
    subst hm3
    (repeat' (first | refine WP.seq ?_ | refine go_n ?_ | refine WP.exit ?_ | refine WP.ret ?_ | refine go_x ?_ | refine bl_x ?_ | refine bo_r ?_ | (refine wp_cond (by exact rfl) (fun hc => ?_) (fun hc => ?_) <;> (try simp only [decide_eq_true_eq, decide_eq_false_iff_not, Decidable.not_not, Bool.and_eq_true, Bool.or_eq_true, Bool.not_eq_true', Bool.not_eq_false', Bool.or_eq_false_iff, Bool.and_eq_false_iff, Int.not_lt, Int.not_le, reduceCtorEq, ne_eq, Bool.not_true, Bool.not_false, Bool.not_eq_true, Bool.not_eq_false] at hc) <;> (try (exfalso; omega))) | (refine WP.regionC (id := 3) ?_; (refine su (ap_move (by exact rq_p rfl rfl)) ?_); (refine su (ap_gtr (by exact rq_p rfl rfl) (by exact rq_p rfl rfl)) ?_); refine asemC_end ?_) | (refine WP.regionC (id := 6) ?_; (refine su (ap_move (by exact rq_p rfl rfl)) ?_); (refine su (ap_assign (by exact rq_p rfl rfl)) ?_); refine asemC_end ?_) | exact ret_eq (by exact rfl) (by exact rfl) rfl))
  · rw [if_neg hz] at hm3
    have hsb : (strB [UInt8.ofNat ((48 : Int) + (m : Int).tmod 10).toNat]).size = 1 := rfl
    (repeat' (first | refine WP.seq ?_ | refine WP.block ?_ | refine go_n ?_ | refine WP.skip ?_ | refine bl_n ?_ | (refine wp_cond (by exact rfl) (fun hc => ?_) (fun hc => ?_) <;> (try simp only [decide_eq_true_eq, decide_eq_false_iff_not, Decidable.not_not, Bool.and_eq_true, Bool.or_eq_true, Bool.not_eq_true', Bool.not_eq_false', Bool.or_eq_false_iff, Bool.and_eq_false_iff, Int.not_lt, Int.not_le, reduceCtorEq, ne_eq, Bool.not_true, Bool.not_false, Bool.not_eq_true, Bool.not_eq_false] at hc) <;> (try (exfalso; omega))) | (refine WP.regionC (id := 3) ?_; (refine su (ap_move (by exact rq_p rfl rfl)) ?_); (refine su (ap_gtr (by exact rq_p rfl rfl) (by exact rq_p rfl rfl)) ?_); refine asemC_end ?_) | (refine WP.regionC (id := 5) ?_; (refine su (ap_move (by exact rq_p rfl rfl)) ?_); (refine su (ap_rem (by exact rq_p rfl rfl) (by exact rq_p rfl rfl) (by omega)) ?_); (refine su (ap_add (by exact rq_p rfl rfl) (by exact rq_p rfl rfl) (by exact inr_i64_of (by omega))) ?_); (refine su (ap_conv (by exact rq_p rfl rfl) (by exact rfl) (by kernel_rfl) (by exact inr_u8_of (by omega))) ?_); (refine se_lit (OpP.cons (by exact rfl) (OpP.nil)) (by exact rfl) (by exact rfl) (by exact rfl) (by exact rfl) (by exact rfl) (by exact rfl) ?_); (refine su (ap_conv_r1 (by exact rq_p rfl rfl) (by exact rfl) (by omega) (by exact rfl) (by exact rfl) (by kernel_rfl) (by kernel_rfl)) ?_); (refine su (ap_move (by exact rq_p rfl rfl)) ?_); (refine su (ap_cat (by exact rq_p rfl rfl) (by exact rq_p rfl rfl) (by omega)) ?_); (refine su (ap_assign (by exact rq_p rfl rfl)) ?_); refine asemC_end ?_) | (refine WP.regionC (id := 4) ?_; (refine su (ap_move (by exact rq_p rfl rfl)) ?_); (refine su (ap_quo (by exact rq_p rfl rfl) (by exact rq_p rfl rfl) (And.intro (by decide) (by exact inr_i64_of (by omega)))) ?_); (refine su (ap_assign (by exact rq_p rfl rfl)) ?_); refine asemC_end ?_)))
    rw [t1, t2]
    have h0 : strB [UInt8.ofNat ((48 : Int) + ((m % 10 : Nat) : Int)).toNat] ++ tx s = tx ([UInt8.ofNat (48 + m % 10)] ++ s) := by
      rw [show ((48 : Int) + ((m % 10 : Nat) : Int)).toNat = 48 + m % 10 by omega]; exact tx_app _ _
    rw [h0]
    refine ⟨(m / 10, [UInt8.ofNat (48 + m % 10)] ++ s), ⟨by dsimp only; omega, by dsimp only; omega, by simp; omega, dec_inv hm3⟩, ⟨[], ToR.S rfl (by repeat' (first | exact rt_nil | refine rt_e (by exact rfl) (by exact rfl) ?_)) (by repeat' (exact ro_nil)) (by exact rfl) (by (rw [hm]; exact rfl)) (by exact rfl) (by (simp [bdT, AV.bd, bdL, bdL_append]; done)) (by repeat' (exact True.intro)) (by (rw [hm]; exact Nat.le_of_ble_eq_true rfl))⟩⟩
end Go.Lg

namespace Go.Lg
open Go.Proofs
set_option linter.unusedSimpArgs false
set_option linter.unusedVariables false
attribute [local irreducible] Ap Rq asemC WP RunD Ret Gq thenA inBlockA bodyQ noGotoA RqL RqP OpP
set_option maxHeartbeats 8000000
set_option maxRecDepth 20000
attribute [local simp] AV.cells altA
theorem kid_fn (e : GEx) (r : Bool) (hE : Fn Tryd.prog 64 [exprA e] (strA (tx (exT e)))) (hb : (exT e).length ≤ 1000000000) : Fn Tryd.prog 54 [exprA e, boolA r] (strA (tx (encT (exT e) r))) := by
  have hsz : (tx (exT e)).size = (exT e).length := tx_size _
  cases r with
  | false =>
    rw [show encT (exT e) false = exT e from rfl]
    refine Fn.intro (by exact rfl) (by kernel_rfl) Tryd.func54 rfl rfl Tryd.ntmps54 (by exact Nat.le_of_ble_eq_true rfl) ?_; intro Γ hm
    (repeat' (first | refine WP.seq ?_ | refine go_n ?_ | refine WP.skip ?_ | refine WP.ret ?_ | refine bo_r ?_ | (refine wp_cond (by exact rfl) (fun hc => ?_) (fun hc => ?_) <;> (try simp only [decide_eq_true_eq, decide_eq_false_iff_not, Decidable.not_not, Bool.and_eq_true, Bool.or_eq_true, Bool.not_eq_true', Bool.not_eq_false', Bool.or_eq_false_iff, Bool.and_eq_false_iff, Int.not_lt, Int.not_le, reduceCtorEq, ne_eq, Bool.not_true, Bool.not_false, Bool.not_eq_true, Bool.not_eq_false] at hc) <;> (try (exfalso; omega))) | (refine WP.regionC (id := 0) ?_; (refine se_box (by exact rfl) (by exact ⟨rfl, rfl⟩) ?_); (refine su (ap_assign (by exact rq_p rfl rfl)) ?_); refine asemC_end ?_) | (refine WP.regionC (id := 1) ?_; (refine su (ap_move (by exact rq_p rfl rfl)) ?_); refine asemC_end ?_) | (refine WP.regionC (id := 3) ?_; (refine su (ap_load_pw (by exact rq_p rfl rfl) (by exact rfl) (by exact rfl) (by exact rfl)) ?_); (refine sc_p rfl rfl (by first | ((repeat' first | exact SubL.nil | refine SubL.cons ?_ ?_ | exact Sub.refl); done) | fail) (by first | (simp [bdL, bdL_append, AV.bd]; done) | fail) (hE) ?_); (refine su (ap_assign (by exact rq_p rfl rfl)) ?_); refine asemC_end ?_) | exact ret_eq (by exact rfl) (by exact rfl) rfl))
  | true =>
    have e1 : tx (encT (exT e) true) = (⟨#[40]⟩ : ByteArray) ++ tx (exT e) ++ ⟨#[41]⟩ := by
      apply ba_ext; simp only [encT, if_true, bl_app, bl_tx]; rfl
    rw [e1]
    refine Fn.intro (by exact rfl) (by kernel_rfl) Tryd.func54 rfl rfl Tryd.ntmps54 (by exact Nat.le_of_ble_eq_true rfl) ?_; intro Γ hm
    (repeat' (first | refine WP.seq ?_ | refine go_n ?_ | refine WP.ret ?_ | refine go_r ?_ | refine bo_r ?_ | (refine wp_cond (by exact rfl) (fun hc => ?_) (fun hc => ?_) <;> (try simp only [decide_eq_true_eq, decide_eq_false_iff_not, Decidable.not_not, Bool.and_eq_true, Bool.or_eq_true, Bool.not_eq_true', Bool.not_eq_false', Bool.or_eq_false_iff, Bool.and_eq_false_iff, Int.not_lt, Int.not_le, reduceCtorEq, ne_eq, Bool.not_true, Bool.not_false, Bool.not_eq_true, Bool.not_eq_false] at hc) <;> (try (exfalso; omega))) | (refine WP.regionC (id := 0) ?_; (refine se_box (by exact rfl) (by exact ⟨rfl, rfl⟩) ?_); (refine su (ap_assign (by exact rq_p rfl rfl)) ?_); refine asemC_end ?_) | (refine WP.regionC (id := 1) ?_; (refine su (ap_move (by exact rq_p rfl rfl)) ?_); refine asemC_end ?_) | (refine WP.regionC (id := 2) ?_; (refine su (ap_load_pw (by exact rq_p rfl rfl) (by exact rfl) (by exact rfl) (by exact rfl)) ?_); (refine sc_p rfl rfl (by first | ((repeat' first | exact SubL.nil | refine SubL.cons ?_ ?_ | exact Sub.refl); done) | fail) (by first | (simp [bdL, bdL_append, AV.bd]; done) | fail) (hE) ?_); (refine su (ap_cat (by exact rq_p rfl rfl) (by exact rq_p rfl rfl) (by (simp only [bsz, List.size_toArray, ByteArray.size_append, List.length_append, List.length_cons, List.length_nil] <;> omega))) ?_); (refine su (ap_cat (by exact rq_p rfl rfl) (by exact rq_p rfl rfl) (by (simp only [bsz, List.size_toArray, ByteArray.size_append, List.length_append, List.length_cons, List.length_nil] <;> omega))) ?_); (refine su (ap_assign (by exact rq_p rfl rfl)) ?_); refine asemC_end ?_) | exact ret_eq (by exact rfl) (by exact rfl) rfl))
theorem okE_iff {e : GEx} {d : Int} (h : okE e d = true) : okK e.kind e.name e.kids.length = true ∧ ∀ k, k ∈ e.kids → okE k (d - 1) = true := by
  rw [okE_eq] at h
  simp only [Bool.and_eq_true, List.all_eq_true] at h
  exact ⟨h.1.2, h.2⟩
theorem encT_len (t : List UInt8) (r : Bool) : t.length ≤ (encT t r).length := by cases r <;> simp [encT]; omega
theorem tx3 (a : List UInt8) (b : ByteArray) (c : List UInt8) : tx a ++ b ++ tx c = tx (a ++ (bl b ++ c)) := by
  apply ba_ext; simp [bl_app]
theorem fexpr_fn (e : GEx) : ∀ d : Int, okE e d = true → (exT e).length ≤ 1000000000 → Fn Tryd.prog 64 [exprA e] (strA (tx (exT e))) := by
  induction e using GEx.ind with
  | h e ih =>
    intro d hv hb
    obtain ⟨hk, hkids⟩ := okE_iff hv
    rw [exT_eq] at hb ⊢
    rw [exprA, kids_exprsA]
    generalize hkd : e.kids = kids at *
    generalize e.kind = kk at *
    generalize e.name = nm at *
    clear hkd hv e
    rw [List.length_append] at hb
    have hK : ∀ i, i < kids.length → (exT (nth kids i)).length ≤ 1000000000 → ∀ r, Fn Tryd.prog 54 [exprA (nth kids i), boolA r] (strA (tx (encT (exT (nth kids i)) r))) :=
      fun i hi hl r => kid_fn _ r (ih _ (nth_mem hi) (d - 1) (hkids _ (nth_mem hi)) hl) hl
    have hl : True := trivial
    by_cases h1 : kk = 1
    · have hk0 : kids = [] := by
        subst h1; simp [okK] at hk; exact hk.2
      subst hk0
      have e1 : tx (kidsT kk false [] ++ tailT kk nm) = nm := by simp [kidsT, tailT, h1, tx_bl]
      rw [e1]
      refine Fn.intro (by exact rfl) (by kernel_rfl) Tryd.func64 rfl rfl Tryd.ntmps64 (by exact Nat.le_of_ble_eq_true rfl) ?_; intro Γ hm
      (repeat' (first | refine WP.seq ?_ | refine WP.block ?_ | refine go_n ?_ | refine WP.ret ?_ | refine bl_n ?_ | refine bo_r ?_ | (refine wp_cond (by exact rfl) (fun hc => ?_) (fun hc => ?_) <;> (try simp only [decide_eq_true_eq, decide_eq_false_iff_not, Decidable.not_not, Bool.and_eq_true, Bool.or_eq_true, Bool.not_eq_true', Bool.not_eq_false', Bool.or_eq_false_iff, Bool.and_eq_false_iff, Int.not_lt, Int.not_le, reduceCtorEq, ne_eq, Bool.not_true, Bool.not_false, Bool.not_eq_true, Bool.not_eq_false] at hc) <;> (try (exfalso; omega))) | (refine WP.regionC (id := 0) ?_; (refine se_box (by exact rfl) (by exact ⟨rfl, rfl⟩) ?_); (refine su (ap_assign (by exact rq_p rfl rfl)) ?_); refine asemC_end ?_) | (refine WP.regionC (id := 1) ?_; (refine su (ap_assign (by exact rq_p rfl rfl)) ?_); refine asemC_end ?_) | (refine WP.regionC (id := 2) ?_; (refine su (ap_field_p (by exact rq_p rfl rfl) (by exact rfl) (by exact rfl)) ?_); (refine su (ap_load_p (by exact rq_p rfl rfl) (by exact rfl) (by exact rfl) (by exact rfl)) ?_); refine asemC_end ?_) | (refine WP.regionC (id := 10) ?_; (refine su (ap_eql (by exact rq_p rfl rfl) (by exact rq_p rfl rfl)) ?_); (refine su (ap_assign (by exact rq_p rfl rfl)) ?_); refine asemC_end ?_) | (refine WP.regionC (id := 11) ?_; (refine su (ap_field_p (by exact rq_p rfl rfl) (by exact rfl) (by exact rfl)) ?_); (refine su (ap_load_p (by exact rq_p rfl rfl) (by exact rfl) (by exact rfl) (by exact rfl)) ?_); (refine su (ap_assign (by exact rq_p rfl rfl)) ?_); refine asemC_end ?_) | (refine WP.regionC (id := 26) ?_; (refine su (ap_move (by exact rq_p rfl rfl)) ?_); (refine su (ap_assign (by exact rq_p rfl rfl)) ?_); refine asemC_end ?_) | exact ret_eq (by exact rfl) (by exact rfl) rfl))
    have ht : kk = 2 ∨ kk = 3 → tailT kk nm = [] := by rintro (h | h) <;> simp [tailT, h]
    by_cases h2 : kk = 2
    · rw [ht (.inl h2), List.append_nil]
      refine Fn.intro (by exact rfl) (by kernel_rfl) Tryd.func64 rfl rfl Tryd.ntmps64 (by exact Nat.le_of_ble_eq_true rfl) ?_; intro Γ hm
      refine wp_lens 0 rfl fun hl => ?_
      have hl : kids.length ≤ 9223372036854775807 := by have := hl; simp [AV.lens, lensL, exprsA] at this; omega
      (repeat' (first | refine WP.seq ?_ | refine WP.block ?_ | refine go_n ?_ | (refine wp_cond (by exact rfl) (fun hc => ?_) (fun hc => ?_) <;> (try simp only [decide_eq_true_eq, decide_eq_false_iff_not, Decidable.not_not, Bool.and_eq_true, Bool.or_eq_true, Bool.not_eq_true', Bool.not_eq_false', Bool.or_eq_false_iff, Bool.and_eq_false_iff, Int.not_lt, Int.not_le, reduceCtorEq, ne_eq, Bool.not_true, Bool.not_false, Bool.not_eq_true, Bool.not_eq_false] at hc) <;> (try (exfalso; omega))) | (refine WP.regionC (id := 0) ?_; (refine se_box (by exact rfl) (by exact ⟨rfl, rfl⟩) ?_); (refine su (ap_assign (by exact rq_p rfl rfl)) ?_); refine asemC_end ?_) | (refine WP.regionC (id := 1) ?_; (refine su (ap_assign (by exact rq_p rfl rfl)) ?_); refine asemC_end ?_) | (refine WP.regionC (id := 2) ?_; (refine su (ap_field_p (by exact rq_p rfl rfl) (by exact rfl) (by exact rfl)) ?_); (refine su (ap_load_p (by exact rq_p rfl rfl) (by exact rfl) (by exact rfl) (by exact rfl)) ?_); refine asemC_end ?_) | (refine WP.regionC (id := 10) ?_; (refine su (ap_eql (by exact rq_p rfl rfl) (by exact rq_p rfl rfl)) ?_); (refine su (ap_assign (by exact rq_p rfl rfl)) ?_); refine asemC_end ?_) | (refine WP.regionC (id := 12) ?_; (refine su (ap_eql (by exact rq_p rfl rfl) (by exact rq_p rfl rfl)) ?_); (refine su (ap_assign (by exact rq_p rfl rfl)) ?_); refine asemC_end ?_) | (refine WP.regionC (id := 13) ?_; (refine su (ap_assign (by exact rq_p rfl rfl)) ?_); refine asemC_end ?_)))
      refine wp_loop (fun (i : Nat) => i ≤ kids.length) (fun i => kids.length - i)
        (fun i => (S 120 [(1, .ptr 0 3 0 0), (3, strA (tx (kidsT kk false (kids.take i)))), (4, intA (i : Nat))] 1 [(0, some (.arr 3 [.agg [intA kk, strA nm, exprsA kids]]))])) 0 ⟨[0], ToR.S rfl (by repeat' (first | exact rt_nil | refine rt_t (by exact rfl) (by exact rfl) ?_ | refine rt_e (by exact rfl) (by exact rfl) ?_)) (by repeat' (first | exact ro_nil | refine ro_p (by exact rfl) (by first | exact rfl | fail) (by first | (simp [bdL, bdL_append, AV.bd]; done) | fail) ?_)) (by exact rfl) (by (rw [hm]; exact rfl)) (by exact rfl) (by (simp [bdT, AV.bd, bdL, bdL_append]; done)) (by repeat' (first | exact True.intro | refine And.intro ?_ ?_ | (simp [bdOq, bdL, bdL_append, AV.bd]; done))) (by (rw [hm]; exact Nat.le_of_ble_eq_true rfl))⟩ (Nat.zero_le _) ?_
      rintro i hi
      have hmo := kidsT_mono kk kids hi
      have hs1 : (tx (kidsT kk false (kids.take i))).size = (kidsT kk false (kids.take i)).length := tx_size _
      by_cases hlt : i < kids.length
      · have hmo2 := kidsT_mono kk kids (i := i + 1) (by omega)
        rw [kidsT_take hlt, List.length_append, oneT, List.length_append] at hmo2
        have hen := encT_len (exT (nth kids i)) (reqP kk (nth kids i))
        have hX := hK i hlt (by omega)
        have hen2 : ∀ r, (tx (encT (exT (nth kids i)) r)).size ≤ (exT (nth kids i)).length + 2 := fun r => by rw [tx_size]; cases r <;> simp [encT]
        have hen3 := hen2 true
        have hen4 := hen2 (decide ((nth kids i).kind = 3))
        (repeat' (first | refine WP.seq ?_ | refine WP.block ?_ | refine go_n ?_ | refine WP.skip ?_ | refine bl_n ?_ | (refine wp_cond (by exact rfl) (fun hc => ?_) (fun hc => ?_) <;> (try simp only [decide_eq_true_eq, decide_eq_false_iff_not, Decidable.not_not, Bool.and_eq_true, Bool.or_eq_true, Bool.not_eq_true', Bool.not_eq_false', Bool.or_eq_false_iff, Bool.and_eq_false_iff, Int.not_lt, Int.not_le, reduceCtorEq, ne_eq, Bool.not_true, Bool.not_false, Bool.not_eq_true, Bool.not_eq_false] at hc) <;> (try (exfalso; omega))) | (refine WP.regionC (id := 14) ?_; (refine su (ap_move (by exact rq_p rfl rfl)) ?_); (refine su (ap_field_p (by exact rq_p rfl rfl) (by exact rfl) (by exact rfl)) ?_); (refine su (ap_load_p (by exact rq_p rfl rfl) (by exact rfl) (by exact rfl) (by exact rfl)) ?_); (refine su (ap_len_m (by exact rfl) (by exact rq_p rfl rfl)) ?_); (refine su (ap_lss (by exact rq_p rfl rfl) (by exact rq_p rfl rfl)) ?_); refine asemC_end ?_) | (refine WP.regionC (id := 16) ?_; (refine su (ap_move (by exact rq_p rfl rfl)) ?_); (refine su (ap_gtr (by exact rq_p rfl rfl) (by exact rq_p rfl rfl)) ?_); refine asemC_end ?_) | (refine WP.regionC (id := 17) ?_; (refine su (ap_move (by exact rq_p rfl rfl)) ?_); (refine su (ap_cat (by exact rq_p rfl rfl) (by exact rq_p rfl rfl) (by (simp only [bsz, List.size_toArray, ByteArray.size_append, List.length_append, List.length_cons, List.length_nil] <;> omega))) ?_); (refine su (ap_assign (by exact rq_p rfl rfl)) ?_); refine asemC_end ?_) | (refine wp_draw (id := 18) 25 mixed (by kernel_rfl) (by kernel_rfl) rfl ?_ <;> (refine rd_u (by exact rfl) (by exact rfl) (ap_move (by exact rq_p rfl rfl)) ?_) <;> (refine rd_u (by exact rfl) (by exact rfl) (ap_field_p (by exact rq_p rfl rfl) (by exact rfl) (by exact rfl)) ?_) <;> (refine rd_u (by exact rfl) (by exact rfl) (ap_load_p (by exact rq_p rfl rfl) (by exact rfl) (by exact rfl) (by exact rfl)) ?_) <;> (refine rd_u (by exact rfl) (by exact rfl) (ap_move (by exact rq_p rfl rfl)) ?_) <;> (refine rd_u (by exact rfl) (by exact rfl) (ap_idx_n (by exact rq_p rfl rfl) (by exact rq_p rfl rfl) (by omega)) ?_) <;> (refine rd_u (by exact rfl) (by exact rfl) (ap_load_w (by exact rq_p rfl rfl) (by exact rfl)) ?_) <;> (refine rd_u (by exact rfl) (by exact rfl) (ap_field_p (by exact rq_p rfl rfl) (by exact rfl) (by exact rfl)) ?_) <;> (refine rd_u (by exact rfl) (by exact rfl) (ap_load_p (by exact rq_p rfl rfl) (by exact rfl) (by exact rfl) (by exact rfl)) ?_) <;> (refine rd_u (by exact rfl) (by exact rfl) (ap_move (by exact rq_p rfl rfl)) ?_) <;> (refine rd_u (by exact rfl) (by exact rfl) (ap_idx_n (by exact rq_p rfl rfl) (by exact rq_p rfl rfl) (by omega)) ?_) <;> (refine rd_u (by exact rfl) (by exact rfl) (ap_field_i (by exact rq_p rfl rfl) (by exact rfl) (by exact rfl)) ?_) <;> (refine rd_u (by exact rfl) (by exact rfl) (ap_load_i (by exact rq_p rfl rfl) (by exact rfl)) ?_) <;> (refine rd_u (by exact rfl) (by exact rfl) (ap_eql (by exact rq_p rfl rfl) (by exact rq_p rfl rfl)) ?_) <;> (refine rd_u (by exact rfl) (by exact rfl) (ap_move (by exact rq_p rfl rfl)) ?_) <;> ((refine rd_split (t := 61) (by exact rfl) (fun hc => ?_) (fun hc => ?_) <;> (try simp only [decide_eq_true_eq, decide_eq_false_iff_not, Decidable.not_not, Bool.and_eq_true, Bool.or_eq_true, Bool.not_eq_true', Bool.not_eq_false', Bool.or_eq_false_iff, Bool.and_eq_false_iff, Int.not_lt, Int.not_le, reduceCtorEq, ne_eq, Bool.not_true, Bool.not_false, Bool.not_eq_true, Bool.not_eq_false] at hc) <;> (try (exfalso; omega)) <;> (first | refine rd_skip rfl rfl ?_ | refine rdg_u rfl rfl (by exact rfl) (by exact rfl) (ap_field_p (by exact rq_p rfl rfl) (by exact rfl) (by exact rfl)) ?_))) <;> (first | refine rd_skip rfl rfl ?_ | refine rdg_u rfl rfl (by exact rfl) (by exact rfl) (ap_load_p (by exact rq_p rfl rfl) (by exact rfl) (by exact rfl) (by exact rfl)) ?_) <;> (first | refine rd_skip rfl rfl ?_ | refine rdg_u rfl rfl (by exact rfl) (by exact rfl) (ap_move (by exact rq_p rfl rfl)) ?_) <;> (first | refine rd_skip rfl rfl ?_ | refine rdg_u rfl rfl (by exact rfl) (by exact rfl) (ap_idx_n (by exact rq_p rfl rfl) (by exact rq_p rfl rfl) (by omega)) ?_) <;> (first | refine rd_skip rfl rfl ?_ | refine rdg_u rfl rfl (by exact rfl) (by exact rfl) (ap_field_i (by exact rq_p rfl rfl) (by exact rfl) (by exact rfl)) ?_) <;> (first | refine rd_skip rfl rfl ?_ | refine rdg_u rfl rfl (by exact rfl) (by exact rfl) (ap_load_i (by exact rq_p rfl rfl) (by exact rfl)) ?_) <;> (first | refine rd_skip rfl rfl ?_ | refine rdg_u rfl rfl (by exact rfl) (by exact rfl) (ap_eql (by exact rq_p rfl rfl) (by exact rq_p rfl rfl)) ?_) <;> (first | refine rd_pick_t (by exact rfl) (by exact rfl) ?_ | refine rd_pick_f (by exact rfl) (by exact rfl) ?_) <;> (refine rd_call rfl rfl (by first | ((repeat' first | exact SubL.nil | refine SubL.cons ?_ ?_ | exact Sub.refl); done) | fail) (by first | (simp [bdL, bdL_append, AV.bd]; done) | fail) (hX _) ?_) <;> (refine rd_u (by exact rfl) (by exact rfl) (ap_cat (by exact rq_p rfl rfl) (by exact rq_p rfl rfl) (by first | omega | (simp only [bsz, List.size_toArray, ByteArray.size_append, List.length_append, List.length_cons, List.length_nil] <;> omega))) ?_) <;> (refine rd_u (by exact rfl) (by exact rfl) (ap_assign (by exact rq_p rfl rfl)) ?_) <;> (refine rd_end (by kernel_rfl) ?_)) | (refine WP.regionC (id := 15) ?_; (refine su (ap_move (by exact rq_p rfl rfl)) ?_); (refine su (ap_add (by exact rq_p rfl rfl) (by exact rq_p rfl rfl) (by exact inr_i64_of (by omega))) ?_); (refine su (ap_assign (by exact rq_p rfl rfl)) ?_); refine asemC_end ?_)))
        · have e1 : tx (kidsT kk false (kids.take (i + 1))) = tx (kidsT kk false (kids.take i)) ++ (⟨#[32]⟩ : ByteArray) ++ tx (encT (exT (nth kids i)) (true)) := by
            rw [tx3, kidsT_take hlt, oneT, if_neg (by omega), show reqP kk (nth kids i) = (true) by simp [reqP, h2, hc]]; simp [sepT, bl, h2, hc]
          refine ⟨i + 1, ⟨by omega, by omega⟩, ?_⟩
          rw [e1]
          exact ⟨[0], ToR.S rfl (by repeat' (first | exact rt_nil | refine rt_t (by exact rfl) (by exact rfl) ?_ | refine rt_e (by exact rfl) (by exact rfl) ?_)) (by repeat' (first | exact ro_nil | refine ro_p (by exact rfl) (by first | exact rfl | fail) (by first | (simp [bdL, bdL_append, AV.bd]; done) | fail) ?_)) (by exact rfl) (by (rw [hm]; exact rfl)) (by exact rfl) (by (simp [bdT, AV.bd, bdL, bdL_append]; done)) (by repeat' (first | exact True.intro | refine And.intro ?_ ?_ | (simp [bdOq, bdL, bdL_append, AV.bd]; done))) (by (rw [hm]; exact Nat.le_of_ble_eq_true rfl))⟩
        · have e1 : tx (kidsT kk false (kids.take (i + 1))) = tx (kidsT kk false (kids.take i)) ++ (⟨#[32]⟩ : ByteArray) ++ tx (encT (exT (nth kids i)) (decide ((nth kids i).kind = 3))) := by
            rw [tx3, kidsT_take hlt, oneT, if_neg (by omega), show reqP kk (nth kids i) = (decide ((nth kids i).kind = 3)) by simp [reqP, h2, hc]]; simp [sepT, bl, h2, hc]
          refine ⟨i + 1, ⟨by omega, by omega⟩, ?_⟩
          rw [e1]
          exact ⟨[0], ToR.S rfl (by repeat' (first | exact rt_nil | refine rt_t (by exact rfl) (by exact rfl) ?_ | refine rt_e (by exact rfl) (by exact rfl) ?_)) (by repeat' (first | exact ro_nil | refine ro_p (by exact rfl) (by first | exact rfl | fail) (by first | (simp [bdL, bdL_append, AV.bd]; done) | fail) ?_)) (by exact rfl) (by (rw [hm]; exact rfl)) (by exact rfl) (by (simp [bdT, AV.bd, bdL, bdL_append]; done)) (by repeat' (first | exact True.intro | refine And.intro ?_ ?_ | (simp [bdOq, bdL, bdL_append, AV.bd]; done))) (by (rw [hm]; exact Nat.le_of_ble_eq_true rfl))⟩
        · have e1 : tx (kidsT kk false (kids.take (i + 1))) = tx (kidsT kk false (kids.take i)) ++ tx (encT (exT (nth kids i)) (true)) := by
            rw [tx_app, kidsT_take hlt, oneT, if_pos (by omega), show reqP kk (nth kids i) = (true) by simp [reqP, h2, hc], List.nil_append]
          refine ⟨i + 1, ⟨by omega, by omega⟩, ?_⟩
          rw [e1]
          exact ⟨[0], ToR.S rfl (by repeat' (first | exact rt_nil | refine rt_t (by exact rfl) (by exact rfl) ?_ | refine rt_e (by exact rfl) (by exact rfl) ?_)) (by repeat' (first | exact ro_nil | refine ro_p (by exact rfl) (by first | exact rfl | fail) (by first | (simp [bdL, bdL_append, AV.bd]; done) | fail) ?_)) (by exact rfl) (by (rw [hm]; exact rfl)) (by exact rfl) (by (simp [bdT, AV.bd, bdL, bdL_append]; done)) (by repeat' (first | exact True.intro | refine And.intro ?_ ?_ | (simp [bdOq, bdL, bdL_append, AV.bd]; done))) (by (rw [hm]; exact Nat.le_of_ble_eq_true rfl))⟩
        · have e1 : tx (kidsT kk false (kids.take (i + 1))) = tx (kidsT kk false (kids.take i)) ++ tx (encT (exT (nth kids i)) (decide ((nth kids i).kind = 3))) := by
            rw [tx_app, kidsT_take hlt, oneT, if_pos (by omega), show reqP kk (nth kids i) = (decide ((nth kids i).kind = 3)) by simp [reqP, h2, hc], List.nil_append]
          refine ⟨i + 1, ⟨by omega, by omega⟩, ?_⟩
          rw [e1]
          exact ⟨[0], ToR.S rfl (by repeat' (first | exact rt_nil | refine rt_t (by exact rfl) (by exact rfl) ?_ | refine rt_e (by exact rfl) (by exact rfl) ?_)) (by repeat' (first | exact ro_nil | refine ro_p (by exact rfl) (by first | exact rfl | fail) (by first | (simp [bdL, bdL_append, AV.bd]; done) | fail) ?_)) (by exact rfl) (by (rw [hm]; exact rfl)) (by exact rfl) (by (simp [bdT, AV.bd, bdL, bdL_append]; done)) (by repeat' (first | exact True.intro | refine And.intro ?_ ?_ | (simp [bdOq, bdL, bdL_append, AV.bd]; done))) (by (rw [hm]; exact Nat.le_of_ble_eq_true rfl))⟩
      · obtain rfl : i = kids.length := by omega
        rw [List.take_of_length_le (Nat.le_refl _)]
        (repeat' (first | refine WP.seq ?_ | refine go_n ?_ | refine WP.exit ?_ | refine WP.ret ?_ | refine go_x ?_ | refine bl_n ?_ | refine bl_x ?_ | refine bo_r ?_ | (refine wp_cond (by exact rfl) (fun hc => ?_) (fun hc => ?_) <;> (try simp only [decide_eq_true_eq, decide_eq_false_iff_not, Decidable.not_not, Bool.and_eq_true, Bool.or_eq_true, Bool.not_eq_true', Bool.not_eq_false', Bool.or_eq_false_iff, Bool.and_eq_false_iff, Int.not_lt, Int.not_le, reduceCtorEq, ne_eq, Bool.not_true, Bool.not_false, Bool.not_eq_true, Bool.not_eq_false] at hc) <;> (try (exfalso; omega))) | (refine WP.regionC (id := 14) ?_; (refine su (ap_move (by exact rq_p rfl rfl)) ?_); (refine su (ap_field_p (by exact rq_p rfl rfl) (by exact rfl) (by exact rfl)) ?_); (refine su (ap_load_p (by exact rq_p rfl rfl) (by exact rfl) (by exact rfl) (by exact rfl)) ?_); (refine su (ap_len_m (by exact rfl) (by exact rq_p rfl rfl)) ?_); (refine su (ap_lss (by exact rq_p rfl rfl) (by exact rq_p rfl rfl)) ?_); refine asemC_end ?_) | (refine WP.regionC (id := 26) ?_; (refine su (ap_move (by exact rq_p rfl rfl)) ?_); (refine su (ap_assign (by exact rq_p rfl rfl)) ?_); refine asemC_end ?_) | exact ret_eq (by exact rfl) (by exact rfl) rfl))
    by_cases h3 : kk = 3
    · rw [ht (.inr h3), List.append_nil]
      refine Fn.intro (by exact rfl) (by kernel_rfl) Tryd.func64 rfl rfl Tryd.ntmps64 (by exact Nat.le_of_ble_eq_true rfl) ?_; intro Γ hm
      refine wp_lens 0 rfl fun hl => ?_
      have hl : kids.length ≤ 9223372036854775807 := by have := hl; simp [AV.lens, lensL, exprsA] at this; omega
      (repeat' (first | refine WP.seq ?_ | refine WP.block ?_ | refine go_n ?_ | (refine wp_cond (by exact rfl) (fun hc => ?_) (fun hc => ?_) <;> (try simp only [decide_eq_true_eq, decide_eq_false_iff_not, Decidable.not_not, Bool.and_eq_true, Bool.or_eq_true, Bool.not_eq_true', Bool.not_eq_false', Bool.or_eq_false_iff, Bool.and_eq_false_iff, Int.not_lt, Int.not_le, reduceCtorEq, ne_eq, Bool.not_true, Bool.not_false, Bool.not_eq_true, Bool.not_eq_false] at hc) <;> (try (exfalso; omega))) | (refine WP.regionC (id := 0) ?_; (refine se_box (by exact rfl) (by exact ⟨rfl, rfl⟩) ?_); (refine su (ap_assign (by exact rq_p rfl rfl)) ?_); refine asemC_end ?_) | (refine WP.regionC (id := 1) ?_; (refine su (ap_assign (by exact rq_p rfl rfl)) ?_); refine asemC_end ?_) | (refine WP.regionC (id := 2) ?_; (refine su (ap_field_p (by exact rq_p rfl rfl) (by exact rfl) (by exact rfl)) ?_); (refine su (ap_load_p (by exact rq_p rfl rfl) (by exact rfl) (by exact rfl) (by exact rfl)) ?_); refine asemC_end ?_) | (refine WP.regionC (id := 10) ?_; (refine su (ap_eql (by exact rq_p rfl rfl) (by exact rq_p rfl rfl)) ?_); (refine su (ap_assign (by exact rq_p rfl rfl)) ?_); refine asemC_end ?_) | (refine WP.regionC (id := 12) ?_; (refine su (ap_eql (by exact rq_p rfl rfl) (by exact rq_p rfl rfl)) ?_); (refine su (ap_assign (by exact rq_p rfl rfl)) ?_); refine asemC_end ?_) | (refine WP.regionC (id := 19) ?_; (refine su (ap_eql (by exact rq_p rfl rfl) (by exact rq_p rfl rfl)) ?_); (refine su (ap_assign (by exact rq_p rfl rfl)) ?_); refine asemC_end ?_) | (refine WP.regionC (id := 20) ?_; (refine su (ap_assign (by exact rq_p rfl rfl)) ?_); refine asemC_end ?_)))
      refine wp_loop (fun (i : Nat) => i ≤ kids.length) (fun i => kids.length - i)
        (fun i => (S 120 [(1, .ptr 0 3 0 0), (3, strA (tx (kidsT kk false (kids.take i)))), (5, intA (i : Nat))] 1 [(0, some (.arr 3 [.agg [intA kk, strA nm, exprsA kids]]))])) 0 ⟨[0], ToR.S rfl (by repeat' (first | exact rt_nil | refine rt_t (by exact rfl) (by exact rfl) ?_ | refine rt_e (by exact rfl) (by exact rfl) ?_)) (by repeat' (first | exact ro_nil | refine ro_p (by exact rfl) (by first | exact rfl | fail) (by first | (simp [bdL, bdL_append, AV.bd]; done) | fail) ?_)) (by exact rfl) (by (rw [hm]; exact rfl)) (by exact rfl) (by (simp [bdT, AV.bd, bdL, bdL_append]; done)) (by repeat' (first | exact True.intro | refine And.intro ?_ ?_ | (simp [bdOq, bdL, bdL_append, AV.bd]; done))) (by (rw [hm]; exact Nat.le_of_ble_eq_true rfl))⟩ (Nat.zero_le _) ?_
      rintro i hi
      have hmo := kidsT_mono kk kids hi
      have hs1 : (tx (kidsT kk false (kids.take i))).size = (kidsT kk false (kids.take i)).length := tx_size _
      by_cases hlt : i < kids.length
      · have hmo2 := kidsT_mono kk kids (i := i + 1) (by omega)
        rw [kidsT_take hlt, List.length_append, oneT, List.length_append] at hmo2
        have hen := encT_len (exT (nth kids i)) (reqP kk (nth kids i))
        have hX := hK i hlt (by omega)
        have hen2 : ∀ r, (tx (encT (exT (nth kids i)) r)).size ≤ (exT (nth kids i)).length + 2 := fun r => by rw [tx_size]; cases r <;> simp [encT]
        have hen3 := hen2 true
        have hen4 := hen2 false
        have hen5 := hen2 (decide (((kidsL (nth kids i)).length : Int) = 0))
        (repeat' (first | refine WP.seq ?_ | refine WP.block ?_ | refine go_n ?_ | refine WP.skip ?_ | refine bl_n ?_ | (refine wp_cond (by exact rfl) (fun hc => ?_) (fun hc => ?_) <;> (try simp only [decide_eq_true_eq, decide_eq_false_iff_not, Decidable.not_not, Bool.and_eq_true, Bool.or_eq_true, Bool.not_eq_true', Bool.not_eq_false', Bool.or_eq_false_iff, Bool.and_eq_false_iff, Int.not_lt, Int.not_le, reduceCtorEq, ne_eq, Bool.not_true, Bool.not_false, Bool.not_eq_true, Bool.not_eq_false] at hc) <;> (try (exfalso; omega))) | (refine WP.regionC (id := 21) ?_; (refine su (ap_move (by exact rq_p rfl rfl)) ?_); (refine su (ap_field_p (by exact rq_p rfl rfl) (by exact rfl) (by exact rfl)) ?_); (refine su (ap_load_p (by exact rq_p rfl rfl) (by exact rfl) (by exact rfl) (by exact rfl)) ?_); (refine su (ap_len_m (by exact rfl) (by exact rq_p rfl rfl)) ?_); (refine su (ap_lss (by exact rq_p rfl rfl) (by exact rq_p rfl rfl)) ?_); refine asemC_end ?_) | (refine WP.regionC (id := 23) ?_; (refine su (ap_move (by exact rq_p rfl rfl)) ?_); (refine su (ap_gtr (by exact rq_p rfl rfl) (by exact rq_p rfl rfl)) ?_); refine asemC_end ?_) | (refine WP.regionC (id := 24) ?_; (refine su (ap_move (by exact rq_p rfl rfl)) ?_); (refine su (ap_cat (by exact rq_p rfl rfl) (by exact rq_p rfl rfl) (by (simp only [bsz, List.size_toArray, ByteArray.size_append, List.length_append, List.length_cons, List.length_nil] <;> omega))) ?_); (refine su (ap_assign (by exact rq_p rfl rfl)) ?_); refine asemC_end ?_) | (refine wp_draw (id := 25) 35 mixed (by kernel_rfl) (by kernel_rfl) rfl ?_ <;> (refine rd_u (by exact rfl) (by exact rfl) (ap_move (by exact rq_p rfl rfl)) ?_) <;> (refine rd_u (by exact rfl) (by exact rfl) (ap_field_p (by exact rq_p rfl rfl) (by exact rfl) (by exact rfl)) ?_) <;> (refine rd_u (by exact rfl) (by exact rfl) (ap_load_p (by exact rq_p rfl rfl) (by exact rfl) (by exact rfl) (by exact rfl)) ?_) <;> (refine rd_u (by exact rfl) (by exact rfl) (ap_move (by exact rq_p rfl rfl)) ?_) <;> (refine rd_u (by exact rfl) (by exact rfl) (ap_idx_n (by exact rq_p rfl rfl) (by exact rq_p rfl rfl) (by omega)) ?_) <;> (refine rd_u (by exact rfl) (by exact rfl) (ap_load_w (by exact rq_p rfl rfl) (by exact rfl)) ?_) <;> (refine rd_u (by exact rfl) (by exact rfl) (ap_field_p (by exact rq_p rfl rfl) (by exact rfl) (by exact rfl)) ?_) <;> (refine rd_u (by exact rfl) (by exact rfl) (ap_load_p (by exact rq_p rfl rfl) (by exact rfl) (by exact rfl) (by exact rfl)) ?_) <;> (refine rd_u (by exact rfl) (by exact rfl) (ap_move (by exact rq_p rfl rfl)) ?_) <;> (refine rd_u (by exact rfl) (by exact rfl) (ap_idx_n (by exact rq_p rfl rfl) (by exact rq_p rfl rfl) (by omega)) ?_) <;> (refine rd_u (by exact rfl) (by exact rfl) (ap_field_i (by exact rq_p rfl rfl) (by exact rfl) (by exact rfl)) ?_) <;> (refine rd_u (by exact rfl) (by exact rfl) (ap_load_i (by exact rq_p rfl rfl) (by exact rfl)) ?_) <;> (refine rd_u (by exact rfl) (by exact rfl) (ap_eql (by exact rq_p rfl rfl) (by exact rq_p rfl rfl)) ?_) <;> (refine rd_u (by exact rfl) (by exact rfl) (ap_move (by exact rq_p rfl rfl)) ?_) <;> ((refine rd_split (t := 98) (by exact rfl) (fun hc => ?_) (fun hc => ?_) <;> (try simp only [decide_eq_true_eq, decide_eq_false_iff_not, Decidable.not_not, Bool.and_eq_true, Bool.or_eq_true, Bool.not_eq_true', Bool.not_eq_false', Bool.or_eq_false_iff, Bool.and_eq_false_iff, Int.not_lt, Int.not_le, reduceCtorEq, ne_eq, Bool.not_true, Bool.not_false, Bool.not_eq_true, Bool.not_eq_false] at hc) <;> (try (exfalso; omega)) <;> (first | refine rd_skip rfl rfl ?_ | refine rdg_u rfl rfl (by exact rfl) (by exact rfl) (ap_field_p (by exact rq_p rfl rfl) (by exact rfl) (by exact rfl)) ?_))) <;> (first | refine rd_skip rfl rfl ?_ | refine rdg_u rfl rfl (by exact rfl) (by exact rfl) (ap_load_p (by exact rq_p rfl rfl) (by exact rfl) (by exact rfl) (by exact rfl)) ?_) <;> (first | refine rd_skip rfl rfl ?_ | refine rdg_u rfl rfl (by exact rfl) (by exact rfl) (ap_move (by exact rq_p rfl rfl)) ?_) <;> (first | refine rd_skip rfl rfl ?_ | refine rdg_u rfl rfl (by exact rfl) (by exact rfl) (ap_idx_n (by exact rq_p rfl rfl) (by exact rq_p rfl rfl) (by omega)) ?_) <;> (first | refine rd_skip rfl rfl ?_ | refine rdg_u rfl rfl (by exact rfl) (by exact rfl) (ap_field_i (by exact rq_p rfl rfl) (by exact rfl) (by exact rfl)) ?_) <;> (first | refine rd_skip rfl rfl ?_ | refine rdg_u rfl rfl (by exact rfl) (by exact rfl) (ap_load_i (by exact rq_p rfl rfl) (by exact rfl)) ?_) <;> (first | refine rd_skip rfl rfl ?_ | refine rdg_u rfl rfl (by exact rfl) (by exact rfl) (ap_eql (by exact rq_p rfl rfl) (by exact rq_p rfl rfl)) ?_) <;> (first | refine rd_skip rfl rfl ?_ | refine rdg_u rfl rfl (by exact rfl) (by exact rfl) (ap_move (by exact rq_p rfl rfl)) ?_) <;> (first | refine rd_skip2 rfl rfl ?_ | (refine rd_split (t := 106) (by exact rfl) (fun hc => ?_) (fun hc => ?_) <;> (try simp only [decide_eq_true_eq, decide_eq_false_iff_not, Decidable.not_not, Bool.and_eq_true, Bool.or_eq_true, Bool.not_eq_true', Bool.not_eq_false', Bool.or_eq_false_iff, Bool.and_eq_false_iff, Int.not_lt, Int.not_le, reduceCtorEq, ne_eq, Bool.not_true, Bool.not_false, Bool.not_eq_true, Bool.not_eq_false] at hc) <;> (try (exfalso; omega)) <;> (first | refine rd_skip rfl rfl ?_ | refine rdg_u rfl rfl (by exact rfl) (by exact rfl) (ap_field_p (by exact rq_p rfl rfl) (by exact rfl) (by exact rfl)) ?_))) <;> (first | refine rd_skip rfl rfl ?_ | refine rd_skip2 rfl rfl ?_ | refine rdg_u rfl rfl (by exact rfl) (by exact rfl) (ap_load_p (by exact rq_p rfl rfl) (by exact rfl) (by exact rfl) (by exact rfl)) ?_) <;> (first | refine rd_skip rfl rfl ?_ | refine rd_skip2 rfl rfl ?_ | refine rdg_u rfl rfl (by exact rfl) (by exact rfl) (ap_move (by exact rq_p rfl rfl)) ?_) <;> (first | refine rd_skip rfl rfl ?_ | refine rd_skip2 rfl rfl ?_ | refine rdg_u rfl rfl (by exact rfl) (by exact rfl) (ap_idx_n (by exact rq_p rfl rfl) (by exact rq_p rfl rfl) (by omega)) ?_) <;> (first | refine rd_skip rfl rfl ?_ | refine rd_skip2 rfl rfl ?_ | refine rdg_u rfl rfl (by exact rfl) (by exact rfl) (ap_field_i (by exact rq_p rfl rfl) (by exact rfl) (by exact rfl)) ?_) <;> (first | refine rd_skip rfl rfl ?_ | refine rd_skip2 rfl rfl ?_ | refine rdg_u rfl rfl (by exact rfl) (by exact rfl) (ap_load_i (by exact rq_p rfl rfl) (by exact rfl)) ?_) <;> (first | refine rd_skip rfl rfl ?_ | refine rd_skip2 rfl rfl ?_ | refine rdg_u rfl rfl (by exact rfl) (by exact rfl) (ap_len_s (by exact rfl) (by exact rq_p rfl rfl)) ?_) <;> (first | refine rd_skip rfl rfl ?_ | refine rd_skip2 rfl rfl ?_ | refine rdg_u rfl rfl (by exact rfl) (by exact rfl) (ap_eql (by exact rq_p rfl rfl) (by exact rq_p rfl rfl)) ?_) <;> (first | refine rd_skip rfl rfl ?_ | refine rdg_pick_t rfl (by exact rfl) (by exact rfl) (by exact rfl) ?_ | refine rdg_pick_f rfl (by exact rfl) (by exact rfl) (by exact rfl) ?_) <;> (first | refine rd_pick_t (by exact rfl) (by exact rfl) ?_ | refine rd_pick_f (by exact rfl) (by exact rfl) ?_) <;> (refine rd_call rfl rfl (by first | ((repeat' first | exact SubL.nil | refine SubL.cons ?_ ?_ | exact Sub.refl); done) | fail) (by first | (simp [bdL, bdL_append, AV.bd]; done) | fail) (hX _) ?_) <;> (refine rd_u (by exact rfl) (by exact rfl) (ap_cat (by exact rq_p rfl rfl) (by exact rq_p rfl rfl) (by first | omega | (simp only [bsz, List.size_toArray, ByteArray.size_append, List.length_append, List.length_cons, List.length_nil] <;> omega))) ?_) <;> (refine rd_u (by exact rfl) (by exact rfl) (ap_assign (by exact rq_p rfl rfl)) ?_) <;> (refine rd_end (by kernel_rfl) ?_)) | (refine WP.regionC (id := 22) ?_; (refine su (ap_move (by exact rq_p rfl rfl)) ?_); (refine su (ap_add (by exact rq_p rfl rfl) (by exact rq_p rfl rfl) (by exact inr_i64_of (by omega))) ?_); (refine su (ap_assign (by exact rq_p rfl rfl)) ?_); refine asemC_end ?_)))
        · have e1 : tx (kidsT kk false (kids.take (i + 1))) = tx (kidsT kk false (kids.take i)) ++ (⟨#[32, 124, 32]⟩ : ByteArray) ++ tx (encT (exT (nth kids i)) (true)) := by
            rw [tx3, kidsT_take hlt, oneT, if_neg (by omega), show reqP kk (nth kids i) = (true) from by simp [reqP, h3, hc]]; simp [sepT, bl, h3, hc]
          refine ⟨i + 1, ⟨by omega, by omega⟩, ?_⟩
          rw [e1]
          exact ⟨[0], ToR.S rfl (by repeat' (first | exact rt_nil | refine rt_t (by exact rfl) (by exact rfl) ?_ | refine rt_e (by exact rfl) (by exact rfl) ?_)) (by repeat' (first | exact ro_nil | refine ro_p (by exact rfl) (by first | exact rfl | fail) (by first | (simp [bdL, bdL_append, AV.bd]; done) | fail) ?_)) (by exact rfl) (by (rw [hm]; exact rfl)) (by exact rfl) (by (simp [bdT, AV.bd, bdL, bdL_append]; done)) (by repeat' (first | exact True.intro | refine And.intro ?_ ?_ | (simp [bdOq, bdL, bdL_append, AV.bd]; done))) (by (rw [hm]; exact Nat.le_of_ble_eq_true rfl))⟩
        · have e1 : tx (kidsT kk false (kids.take (i + 1))) = tx (kidsT kk false (kids.take i)) ++ (⟨#[32, 124, 32]⟩ : ByteArray) ++ tx (encT (exT (nth kids i)) (decide (((kidsL (nth kids i)).length : Int) = 0))) := by
            rw [tx3, kidsT_take hlt, oneT, if_neg (by omega), show reqP kk (nth kids i) = (decide (((kidsL (nth kids i)).length : Int) = 0)) from by simp [reqP, h3, hc]]; simp [sepT, bl, h3, hc]
          refine ⟨i + 1, ⟨by omega, by omega⟩, ?_⟩
          rw [e1]
          exact ⟨[0], ToR.S rfl (by repeat' (first | exact rt_nil | refine rt_t (by exact rfl) (by exact rfl) ?_ | refine rt_e (by exact rfl) (by exact rfl) ?_)) (by repeat' (first | exact ro_nil | refine ro_p (by exact rfl) (by first | exact rfl | fail) (by first | (simp [bdL, bdL_append, AV.bd]; done) | fail) ?_)) (by exact rfl) (by (rw [hm]; exact rfl)) (by exact rfl) (by (simp [bdT, AV.bd, bdL, bdL_append]; done)) (by repeat' (first | exact True.intro | refine And.intro ?_ ?_ | (simp [bdOq, bdL, bdL_append, AV.bd]; done))) (by (rw [hm]; exact Nat.le_of_ble_eq_true rfl))⟩
        · rename_i hc3
          have e1 : tx (kidsT kk false (kids.take (i + 1))) = tx (kidsT kk false (kids.take i)) ++ (⟨#[32, 124, 32]⟩ : ByteArray) ++ tx (encT (exT (nth kids i)) (false)) := by
            rw [tx3, kidsT_take hlt, oneT, if_neg (by omega), show reqP kk (nth kids i) = (false) from by simp [reqP, h3, hc, hc3]]; simp [sepT, bl, h3, hc, hc3]
          refine ⟨i + 1, ⟨by omega, by omega⟩, ?_⟩
          rw [e1]
          exact ⟨[0], ToR.S rfl (by repeat' (first | exact rt_nil | refine rt_t (by exact rfl) (by exact rfl) ?_ | refine rt_e (by exact rfl) (by exact rfl) ?_)) (by repeat' (first | exact ro_nil | refine ro_p (by exact rfl) (by first | exact rfl | fail) (by first | (simp [bdL, bdL_append, AV.bd]; done) | fail) ?_)) (by exact rfl) (by (rw [hm]; exact rfl)) (by exact rfl) (by (simp [bdT, AV.bd, bdL, bdL_append]; done)) (by repeat' (first | exact True.intro | refine And.intro ?_ ?_ | (simp [bdOq, bdL, bdL_append, AV.bd]; done))) (by (rw [hm]; exact Nat.le_of_ble_eq_true rfl))⟩
        · have e1 : tx (kidsT kk false (kids.take (i + 1))) = tx (kidsT kk false (kids.take i)) ++ tx (encT (exT (nth kids i)) (true)) := by
            rw [tx_app, kidsT_take hlt, oneT, if_pos (by omega), show reqP kk (nth kids i) = (true) from by simp [reqP, h3, hc], List.nil_append]
          refine ⟨i + 1, ⟨by omega, by omega⟩, ?_⟩
          rw [e1]
          exact ⟨[0], ToR.S rfl (by repeat' (first | exact rt_nil | refine rt_t (by exact rfl) (by exact rfl) ?_ | refine rt_e (by exact rfl) (by exact rfl) ?_)) (by repeat' (first | exact ro_nil | refine ro_p (by exact rfl) (by first | exact rfl | fail) (by first | (simp [bdL, bdL_append, AV.bd]; done) | fail) ?_)) (by exact rfl) (by (rw [hm]; exact rfl)) (by exact rfl) (by (simp [bdT, AV.bd, bdL, bdL_append]; done)) (by repeat' (first | exact True.intro | refine And.intro ?_ ?_ | (simp [bdOq, bdL, bdL_append, AV.bd]; done))) (by (rw [hm]; exact Nat.le_of_ble_eq_true rfl))⟩
        · have e1 : tx (kidsT kk false (kids.take (i + 1))) = tx (kidsT kk false (kids.take i)) ++ tx (encT (exT (nth kids i)) (decide (((kidsL (nth kids i)).length : Int) = 0))) := by
            rw [tx_app, kidsT_take hlt, oneT, if_pos (by omega), show reqP kk (nth kids i) = (decide (((kidsL (nth kids i)).length : Int) = 0)) from by simp [reqP, h3, hc], List.nil_append]
          refine ⟨i + 1, ⟨by omega, by omega⟩, ?_⟩
          rw [e1]
          exact ⟨[0], ToR.S rfl (by repeat' (first | exact rt_nil | refine rt_t (by exact rfl) (by exact rfl) ?_ | refine rt_e (by exact rfl) (by exact rfl) ?_)) (by repeat' (first | exact ro_nil | refine ro_p (by exact rfl) (by first | exact rfl | fail) (by first | (simp [bdL, bdL_append, AV.bd]; done) | fail) ?_)) (by exact rfl) (by (rw [hm]; exact rfl)) (by exact rfl) (by (simp [bdT, AV.bd, bdL, bdL_append]; done)) (by repeat' (first | exact True.intro | refine And.intro ?_ ?_ | (simp [bdOq, bdL, bdL_append, AV.bd]; done))) (by (rw [hm]; exact Nat.le_of_ble_eq_true rfl))⟩
        · rename_i hc3
          have e1 : tx (kidsT kk false (kids.take (i + 1))) = tx (kidsT kk false (kids.take i)) ++ tx (encT (exT (nth kids i)) (false)) := by
            rw [tx_app, kidsT_take hlt, oneT, if_pos (by omega), show reqP kk (nth kids i) = (false) from by simp [reqP, h3, hc, hc3], List.nil_append]
          refine ⟨i + 1, ⟨by omega, by omega⟩, ?_⟩
          rw [e1]
          exact ⟨[0], ToR.S rfl (by repeat' (first | exact rt_nil | refine rt_t (by exact rfl) (by exact rfl) ?_ | refine rt_e (by exact rfl) (by exact rfl) ?_)) (by repeat' (first | exact ro_nil | refine ro_p (by exact rfl) (by first | exact rfl | fail) (by first | (simp [bdL, bdL_append, AV.bd]; done) | fail) ?_)) (by exact rfl) (by (rw [hm]; exact rfl)) (by exact rfl) (by (simp [bdT, AV.bd, bdL, bdL_append]; done)) (by repeat' (first | exact True.intro | refine And.intro ?_ ?_ | (simp [bdOq, bdL, bdL_append, AV.bd]; done))) (by (rw [hm]; exact Nat.le_of_ble_eq_true rfl))⟩
      · obtain rfl : i = kids.length := by omega
        rw [List.take_of_length_le (Nat.le_refl _)]
        (repeat' (first | refine WP.seq ?_ | refine go_n ?_ | refine WP.exit ?_ | refine WP.ret ?_ | refine go_x ?_ | refine bl_n ?_ | refine bl_x ?_ | refine bo_r ?_ | (refine wp_cond (by exact rfl) (fun hc => ?_) (fun hc => ?_) <;> (try simp only [decide_eq_true_eq, decide_eq_false_iff_not, Decidable.not_not, Bool.and_eq_true, Bool.or_eq_true, Bool.not_eq_true', Bool.not_eq_false', Bool.or_eq_false_iff, Bool.and_eq_false_iff, Int.not_lt, Int.not_le, reduceCtorEq, ne_eq, Bool.not_true, Bool.not_false, Bool.not_eq_true, Bool.not_eq_false] at hc) <;> (try (exfalso; omega))) | (refine WP.regionC (id := 21) ?_; (refine su (ap_move (by exact rq_p rfl rfl)) ?_); (refine su (ap_field_p (by exact rq_p rfl rfl) (by exact rfl) (by exact rfl)) ?_); (refine su (ap_load_p (by exact rq_p rfl rfl) (by exact rfl) (by exact rfl) (by exact rfl)) ?_); (refine su (ap_len_m (by exact rfl) (by exact rq_p rfl rfl)) ?_); (refine su (ap_lss (by exact rq_p rfl rfl) (by exact rq_p rfl rfl)) ?_); refine asemC_end ?_) | (refine WP.regionC (id := 26) ?_; (refine su (ap_move (by exact rq_p rfl rfl)) ?_); (refine su (ap_assign (by exact rq_p rfl rfl)) ?_); refine asemC_end ?_) | exact ret_eq (by exact rfl) (by exact rfl) rfl))
    obtain ⟨x, rfl⟩ : ∃ x, kids = [x] := by
      have : kids.length = 1 := by
        simp only [okK, Bool.or_eq_true, Bool.and_eq_true, decide_eq_true_eq] at hk
        omega
      exact List.length_eq_one_iff.1 this
    have e0 : kidsT kk false [x] = encT (exT x) (!decide (x.kind = 1)) := by simp [kidsT, reqP, h2, h3]
    rw [e0] at hb ⊢
    have hen := encT_len (exT x) (!decide (x.kind = 1))
    have hx : ∀ r, Fn Tryd.prog 54 [exprA x, boolA r] (strA (tx (encT (exT x) r))) := hK 0 (by simp) (by show (exT x).length ≤ _; omega)
    have hs1 : (tx (encT (exT x) (!decide (x.kind = 1)))).size = (encT (exT x) (!decide (x.kind = 1))).length := tx_size _
    have hs2 : (tx (encT (exT x) (!decide ((nth [x] 0).kind = 1)))).size = (encT (exT x) (!decide (x.kind = 1))).length := hs1
    by_cases h4 : kk = 4
    · have e1 : tx (encT (exT x) (!decide (x.kind = 1)) ++ tailT kk nm) = tx (encT (exT x) (!decide (x.kind = 1))) ++ ⟨#[63]⟩ := by
        rw [show tailT kk nm = [63] by simp [tailT, h4]]; exact (tx_app _ _).symm
      rw [e1]
      refine Fn.intro (by exact rfl) (by kernel_rfl) Tryd.func64 rfl rfl Tryd.ntmps64 (by exact Nat.le_of_ble_eq_true rfl) ?_; intro Γ hm
      (repeat' (first | refine WP.seq ?_ | refine WP.block ?_ | refine go_n ?_ | refine WP.ret ?_ | refine bl_n ?_ | refine bo_r ?_ | (refine wp_cond (by exact rfl) (fun hc => ?_) (fun hc => ?_) <;> (try simp only [decide_eq_true_eq, decide_eq_false_iff_not, Decidable.not_not, Bool.and_eq_true, Bool.or_eq_true, Bool.not_eq_true', Bool.not_eq_false', Bool.or_eq_false_iff, Bool.and_eq_false_iff, Int.not_lt, Int.not_le, reduceCtorEq, ne_eq, Bool.not_true, Bool.not_false, Bool.not_eq_true, Bool.not_eq_false] at hc) <;> (try (exfalso; omega))) | (refine WP.regionC (id := 0) ?_; (refine se_box (by exact rfl) (by exact ⟨rfl, rfl⟩) ?_); (refine su (ap_assign (by exact rq_p rfl rfl)) ?_); refine asemC_end ?_) | (refine WP.regionC (id := 1) ?_; (refine su (ap_assign (by exact rq_p rfl rfl)) ?_); refine asemC_end ?_) | (refine WP.regionC (id := 2) ?_; (refine su (ap_field_p (by exact rq_p rfl rfl) (by exact rfl) (by exact rfl)) ?_); (refine su (ap_load_p (by exact rq_p rfl rfl) (by exact rfl) (by exact rfl) (by exact rfl)) ?_); refine asemC_end ?_) | (refine WP.regionC (id := 10) ?_; (refine su (ap_eql (by exact rq_p rfl rfl) (by exact rq_p rfl rfl)) ?_); (refine su (ap_assign (by exact rq_p rfl rfl)) ?_); refine asemC_end ?_) | (refine WP.regionC (id := 12) ?_; (refine su (ap_eql (by exact rq_p rfl rfl) (by exact rq_p rfl rfl)) ?_); (refine su (ap_assign (by exact rq_p rfl rfl)) ?_); refine asemC_end ?_) | (refine WP.regionC (id := 19) ?_; (refine su (ap_eql (by exact rq_p rfl rfl) (by exact rq_p rfl rfl)) ?_); (refine su (ap_assign (by exact rq_p rfl rfl)) ?_); refine asemC_end ?_) | (refine wp_draw (id := 3) 12 mixed (by kernel_rfl) (by kernel_rfl) rfl ?_ <;> (refine rd_u (by exact rfl) (by exact rfl) (ap_field_p (by exact rq_p rfl rfl) (by exact rfl) (by exact rfl)) ?_) <;> (refine rd_u (by exact rfl) (by exact rfl) (ap_load_p (by exact rq_p rfl rfl) (by exact rfl) (by exact rfl) (by exact rfl)) ?_) <;> (refine rd_u (by exact rfl) (by exact rfl) (ap_idx_n (by exact rq_p rfl rfl) (by exact rq_p rfl rfl) (by (simp only [List.length_replicate, List.length_set, List.length_append, List.length_map, List.length_cons, List.length_nil, List.length_take, List.length_drop] <;> omega))) ?_) <;> (refine rd_u (by exact rfl) (by exact rfl) (ap_load_w (by exact rq_p rfl rfl) (by exact rfl)) ?_) <;> (refine rd_u (by exact rfl) (by exact rfl) (ap_field_p (by exact rq_p rfl rfl) (by exact rfl) (by exact rfl)) ?_) <;> (refine rd_u (by exact rfl) (by exact rfl) (ap_load_p (by exact rq_p rfl rfl) (by exact rfl) (by exact rfl) (by exact rfl)) ?_) <;> (refine rd_u (by exact rfl) (by exact rfl) (ap_idx_n (by exact rq_p rfl rfl) (by exact rq_p rfl rfl) (by (simp only [List.length_replicate, List.length_set, List.length_append, List.length_map, List.length_cons, List.length_nil, List.length_take, List.length_drop] <;> omega))) ?_) <;> (refine rd_u (by exact rfl) (by exact rfl) (ap_field_i (by exact rq_p rfl rfl) (by exact rfl) (by exact rfl)) ?_) <;> (refine rd_u (by exact rfl) (by exact rfl) (ap_load_i (by exact rq_p rfl rfl) (by exact rfl)) ?_) <;> (refine rd_u (by exact rfl) (by exact rfl) (ap_neq (by exact rq_p rfl rfl) (by exact rq_p rfl rfl)) ?_) <;> (refine rd_call rfl rfl (by first | ((repeat' first | exact SubL.nil | refine SubL.cons ?_ ?_ | exact Sub.refl); done) | fail) (by first | (simp [bdL, bdL_append, AV.bd]; done) | fail) (hx _) ?_) <;> (refine rd_u (by exact rfl) (by exact rfl) (ap_assign (by exact rq_p rfl rfl)) ?_) <;> (refine rd_end (by kernel_rfl) ?_)) | (refine WP.regionC (id := 4) ?_; (refine su (ap_field_p (by exact rq_p rfl rfl) (by exact rfl) (by exact rfl)) ?_); (refine su (ap_load_p (by exact rq_p rfl rfl) (by exact rfl) (by exact rfl) (by exact rfl)) ?_); refine asemC_end ?_) | (refine WP.regionC (id := 6) ?_; (refine su (ap_eql (by exact rq_p rfl rfl) (by exact rq_p rfl rfl)) ?_); (refine su (ap_assign (by exact rq_p rfl rfl)) ?_); refine asemC_end ?_) | (refine WP.regionC (id := 7) ?_; (refine su (ap_move (by exact rq_p rfl rfl)) ?_); (refine su (ap_cat (by exact rq_p rfl rfl) (by exact rq_p rfl rfl) (by (simp only [bsz, List.size_toArray, ByteArray.size_append, List.length_append, List.length_cons, List.length_nil] <;> omega))) ?_); (refine su (ap_assign (by exact rq_p rfl rfl)) ?_); refine asemC_end ?_) | (refine WP.regionC (id := 26) ?_; (refine su (ap_move (by exact rq_p rfl rfl)) ?_); (refine su (ap_assign (by exact rq_p rfl rfl)) ?_); refine asemC_end ?_) | exact ret_eq (by exact rfl) (by exact rfl) rfl))
    by_cases h5 : kk = 5
    · have e1 : tx (encT (exT x) (!decide (x.kind = 1)) ++ tailT kk nm) = tx (encT (exT x) (!decide (x.kind = 1))) ++ ⟨#[42]⟩ := by
        rw [show tailT kk nm = [42] by simp [tailT, h5]]; exact (tx_app _ _).symm
      rw [e1]
      refine Fn.intro (by exact rfl) (by kernel_rfl) Tryd.func64 rfl rfl Tryd.ntmps64 (by exact Nat.le_of_ble_eq_true rfl) ?_; intro Γ hm
      (repeat' (first | refine WP.seq ?_ | refine WP.block ?_ | refine go_n ?_ | refine WP.ret ?_ | refine bl_n ?_ | refine bo_r ?_ | (refine wp_cond (by exact rfl) (fun hc => ?_) (fun hc => ?_) <;> (try simp only [decide_eq_true_eq, decide_eq_false_iff_not, Decidable.not_not, Bool.and_eq_true, Bool.or_eq_true, Bool.not_eq_true', Bool.not_eq_false', Bool.or_eq_false_iff, Bool.and_eq_false_iff, Int.not_lt, Int.not_le, reduceCtorEq, ne_eq, Bool.not_true, Bool.not_false, Bool.not_eq_true, Bool.not_eq_false] at hc) <;> (try (exfalso; omega))) | (refine WP.regionC (id := 0) ?_; (refine se_box (by exact rfl) (by exact ⟨rfl, rfl⟩) ?_); (refine su (ap_assign (by exact rq_p rfl rfl)) ?_); refine asemC_end ?_) | (refine WP.regionC (id := 1) ?_; (refine su (ap_assign (by exact rq_p rfl rfl)) ?_); refine asemC_end ?_) | (refine WP.regionC (id := 2) ?_; (refine su (ap_field_p (by exact rq_p rfl rfl) (by exact rfl) (by exact rfl)) ?_); (refine su (ap_load_p (by exact rq_p rfl rfl) (by exact rfl) (by exact rfl) (by exact rfl)) ?_); refine asemC_end ?_) | (refine WP.regionC (id := 10) ?_; (refine su (ap_eql (by exact rq_p rfl rfl) (by exact rq_p rfl rfl)) ?_); (refine su (ap_assign (by exact rq_p rfl rfl)) ?_); refine asemC_end ?_) | (refine WP.regionC (id := 12) ?_; (refine su (ap_eql (by exact rq_p rfl rfl) (by exact rq_p rfl rfl)) ?_); (refine su (ap_assign (by exact rq_p rfl rfl)) ?_); refine asemC_end ?_) | (refine WP.regionC (id := 19) ?_; (refine su (ap_eql (by exact rq_p rfl rfl) (by exact rq_p rfl rfl)) ?_); (refine su (ap_assign (by exact rq_p rfl rfl)) ?_); refine asemC_end ?_) | (refine wp_draw (id := 3) 12 mixed (by kernel_rfl) (by kernel_rfl) rfl ?_ <;> (refine rd_u (by exact rfl) (by exact rfl) (ap_field_p (by exact rq_p rfl rfl) (by exact rfl) (by exact rfl)) ?_) <;> (refine rd_u (by exact rfl) (by exact rfl) (ap_load_p (by exact rq_p rfl rfl) (by exact rfl) (by exact rfl) (by exact rfl)) ?_) <;> (refine rd_u (by exact rfl) (by exact rfl) (ap_idx_n (by exact rq_p rfl rfl) (by exact rq_p rfl rfl) (by (simp only [List.length_replicate, List.length_set, List.length_append, List.length_map, List.length_cons, List.length_nil, List.length_take, List.length_drop] <;> omega))) ?_) <;> (refine rd_u (by exact rfl) (by exact rfl) (ap_load_w (by exact rq_p rfl rfl) (by exact rfl)) ?_) <;> (refine rd_u (by exact rfl) (by exact rfl) (ap_field_p (by exact rq_p rfl rfl) (by exact rfl) (by exact rfl)) ?_) <;> (refine rd_u (by exact rfl) (by exact rfl) (ap_load_p (by exact rq_p rfl rfl) (by exact rfl) (by exact rfl) (by exact rfl)) ?_) <;> (refine rd_u (by exact rfl) (by exact rfl) (ap_idx_n (by exact rq_p rfl rfl) (by exact rq_p rfl rfl) (by (simp only [List.length_replicate, List.length_set, List.length_append, List.length_map, List.length_cons, List.length_nil, List.length_take, List.length_drop] <;> omega))) ?_) <;> (refine rd_u (by exact rfl) (by exact rfl) (ap_field_i (by exact rq_p rfl rfl) (by exact rfl) (by exact rfl)) ?_) <;> (refine rd_u (by exact rfl) (by exact rfl) (ap_load_i (by exact rq_p rfl rfl) (by exact rfl)) ?_) <;> (refine rd_u (by exact rfl) (by exact rfl) (ap_neq (by exact rq_p rfl rfl) (by exact rq_p rfl rfl)) ?_) <;> (refine rd_call rfl rfl (by first | ((repeat' first | exact SubL.nil | refine SubL.cons ?_ ?_ | exact Sub.refl); done) | fail) (by first | (simp [bdL, bdL_append, AV.bd]; done) | fail) (hx _) ?_) <;> (refine rd_u (by exact rfl) (by exact rfl) (ap_assign (by exact rq_p rfl rfl)) ?_) <;> (refine rd_end (by kernel_rfl) ?_)) | (refine WP.regionC (id := 4) ?_; (refine su (ap_field_p (by exact rq_p rfl rfl) (by exact rfl) (by exact rfl)) ?_); (refine su (ap_load_p (by exact rq_p rfl rfl) (by exact rfl) (by exact rfl) (by exact rfl)) ?_); refine asemC_end ?_) | (refine WP.regionC (id := 6) ?_; (refine su (ap_eql (by exact rq_p rfl rfl) (by exact rq_p rfl rfl)) ?_); (refine su (ap_assign (by exact rq_p rfl rfl)) ?_); refine asemC_end ?_) | (refine WP.regionC (id := 8) ?_; (refine su (ap_eql (by exact rq_p rfl rfl) (by exact rq_p rfl rfl)) ?_); (refine su (ap_assign (by exact rq_p rfl rfl)) ?_); refine asemC_end ?_) | (refine WP.regionC (id := 9) ?_; (refine su (ap_move (by exact rq_p rfl rfl)) ?_); (refine su (ap_cat (by exact rq_p rfl rfl) (by exact rq_p rfl rfl) (by (simp only [bsz, List.size_toArray, ByteArray.size_append, List.length_append, List.length_cons, List.length_nil] <;> omega))) ?_); (refine su (ap_assign (by exact rq_p rfl rfl)) ?_); refine asemC_end ?_) | (refine WP.regionC (id := 26) ?_; (refine su (ap_move (by exact rq_p rfl rfl)) ?_); (refine su (ap_assign (by exact rq_p rfl rfl)) ?_); refine asemC_end ?_) | exact ret_eq (by exact rfl) (by exact rfl) rfl))
    have h6 : kk = 6 := by
      simp only [okK, Bool.or_eq_true, Bool.and_eq_true, decide_eq_true_eq] at hk
      omega
    have e1 : tx (encT (exT x) (!decide (x.kind = 1)) ++ tailT kk nm) = tx (encT (exT x) (!decide (x.kind = 1))) ++ ⟨#[43]⟩ := by
      rw [show tailT kk nm = [43] by simp [tailT, h6]]; exact (tx_app _ _).symm
    rw [e1]
    refine Fn.intro (by exact rfl) (by kernel_rfl) Tryd.func64 rfl rfl Tryd.ntmps64 (by exact Nat.le_of_ble_eq_true rfl) ?_; intro Γ hm
    (repeat' (first | refine WP.seq ?_ | refine WP.block ?_ | refine go_n ?_ | refine WP.ret ?_ | refine bl_n ?_ | refine bo_r ?_ | (refine wp_cond (by exact rfl) (fun hc => ?_) (fun hc => ?_) <;> (try simp only [decide_eq_true_eq, decide_eq_false_iff_not, Decidable.not_not, Bool.and_eq_true, Bool.or_eq_true, Bool.not_eq_true', Bool.not_eq_false', Bool.or_eq_false_iff, Bool.and_eq_false_iff, Int.not_lt, Int.not_le, reduceCtorEq, ne_eq, Bool.not_true, Bool.not_false, Bool.not_eq_true, Bool.not_eq_false] at hc) <;> (try (exfalso; omega))) | (refine WP.regionC (id := 0) ?_; (refine se_box (by exact rfl) (by exact ⟨rfl, rfl⟩) ?_); (refine su (ap_assign (by exact rq_p rfl rfl)) ?_); refine asemC_end ?_) | (refine WP.regionC (id := 1) ?_; (refine su (ap_assign (by exact rq_p rfl rfl)) ?_); refine asemC_end ?_) | (refine WP.regionC (id := 2) ?_; (refine su (ap_field_p (by exact rq_p rfl rfl) (by exact rfl) (by exact rfl)) ?_); (refine su (ap_load_p (by exact rq_p rfl rfl) (by exact rfl) (by exact rfl) (by exact rfl)) ?_); refine asemC_end ?_) | (refine WP.regionC (id := 10) ?_; (refine su (ap_eql (by exact rq_p rfl rfl) (by exact rq_p rfl rfl)) ?_); (refine su (ap_assign (by exact rq_p rfl rfl)) ?_); refine asemC_end ?_) | (refine WP.regionC (id := 12) ?_; (refine su (ap_eql (by exact rq_p rfl rfl) (by exact rq_p rfl rfl)) ?_); (refine su (ap_assign (by exact rq_p rfl rfl)) ?_); refine asemC_end ?_) | (refine WP.regionC (id := 19) ?_; (refine su (ap_eql (by exact rq_p rfl rfl) (by exact rq_p rfl rfl)) ?_); (refine su (ap_assign (by exact rq_p rfl rfl)) ?_); refine asemC_end ?_) | (refine wp_draw (id := 3) 12 mixed (by kernel_rfl) (by kernel_rfl) rfl ?_ <;> (refine rd_u (by exact rfl) (by exact rfl) (ap_field_p (by exact rq_p rfl rfl) (by exact rfl) (by exact rfl)) ?_) <;> (refine rd_u (by exact rfl) (by exact rfl) (ap_load_p (by exact rq_p rfl rfl) (by exact rfl) (by exact rfl) (by exact rfl)) ?_) <;> (refine rd_u (by exact rfl) (by exact rfl) (ap_idx_n (by exact rq_p rfl rfl) (by exact rq_p rfl rfl) (by (simp only [List.length_replicate, List.length_set, List.length_append, List.length_map, List.length_cons, List.length_nil, List.length_take, List.length_drop] <;> omega))) ?_) <;> (refine rd_u (by exact rfl) (by exact rfl) (ap_load_w (by exact rq_p rfl rfl) (by exact rfl)) ?_) <;> (refine rd_u (by exact rfl) (by exact rfl) (ap_field_p (by exact rq_p rfl rfl) (by exact rfl) (by exact rfl)) ?_) <;> (refine rd_u (by exact rfl) (by exact rfl) (ap_load_p (by exact rq_p rfl rfl) (by exact rfl) (by exact rfl) (by exact rfl)) ?_) <;> (refine rd_u (by exact rfl) (by exact rfl) (ap_idx_n (by exact rq_p rfl rfl) (by exact rq_p rfl rfl) (by (simp only [List.length_replicate, List.length_set, List.length_append, List.length_map, List.length_cons, List.length_nil, List.length_take, List.length_drop] <;> omega))) ?_) <;> (refine rd_u (by exact rfl) (by exact rfl) (ap_field_i (by exact rq_p rfl rfl) (by exact rfl) (by exact rfl)) ?_) <;> (refine rd_u (by exact rfl) (by exact rfl) (ap_load_i (by exact rq_p rfl rfl) (by exact rfl)) ?_) <;> (refine rd_u (by exact rfl) (by exact rfl) (ap_neq (by exact rq_p rfl rfl) (by exact rq_p rfl rfl)) ?_) <;> (refine rd_call rfl rfl (by first | ((repeat' first | exact SubL.nil | refine SubL.cons ?_ ?_ | exact Sub.refl); done) | fail) (by first | (simp [bdL, bdL_append, AV.bd]; done) | fail) (hx _) ?_) <;> (refine rd_u (by exact rfl) (by exact rfl) (ap_assign (by exact rq_p rfl rfl)) ?_) <;> (refine rd_end (by kernel_rfl) ?_)) | (refine WP.regionC (id := 4) ?_; (refine su (ap_field_p (by exact rq_p rfl rfl) (by exact rfl) (by exact rfl)) ?_); (refine su (ap_load_p (by exact rq_p rfl rfl) (by exact rfl) (by exact rfl) (by exact rfl)) ?_); refine asemC_end ?_) | (refine WP.regionC (id := 6) ?_; (refine su (ap_eql (by exact rq_p rfl rfl) (by exact rq_p rfl rfl)) ?_); (refine su (ap_assign (by exact rq_p rfl rfl)) ?_); refine asemC_end ?_) | (refine WP.regionC (id := 8) ?_; (refine su (ap_eql (by exact rq_p rfl rfl) (by exact rq_p rfl rfl)) ?_); (refine su (ap_assign (by exact rq_p rfl rfl)) ?_); refine asemC_end ?_) | (refine WP.regionC (id := 5) ?_; (refine su (ap_move (by exact rq_p rfl rfl)) ?_); (refine su (ap_cat (by exact rq_p rfl rfl) (by exact rq_p rfl rfl) (by (simp only [bsz, List.size_toArray, ByteArray.size_append, List.length_append, List.length_cons, List.length_nil] <;> omega))) ?_); (refine su (ap_assign (by exact rq_p rfl rfl)) ?_); refine asemC_end ?_) | (refine WP.regionC (id := 26) ?_; (refine su (ap_move (by exact rq_p rfl rfl)) ?_); (refine su (ap_assign (by exact rq_p rfl rfl)) ?_); refine asemC_end ?_) | exact ret_eq (by exact rfl) (by exact rfl) rfl))
end Go.Lg

namespace Go.Lg
open Go.Proofs
set_option linter.unusedSimpArgs false
set_option linter.unusedVariables false
attribute [local irreducible] Ap Rq asemC WP RunD Ret Gq thenA inBlockA bodyQ noGotoA RqL RqP OpP
set_option maxHeartbeats 8000000
set_option maxRecDepth 20000
attribute [local simp] AV.cells altA
theorem tx_data (l : List UInt8) : (tx l).data.toList = l := rfl
theorem decimalI_fn (p : Int) (h0 : 0 ≤ p) (h1 : p ≤ 1000) : Fn Tryd.prog 55 [intA p] (strA (tx (Lib.itoa p))) := by
  obtain ⟨n, rfl⟩ := Int.eq_ofNat_of_zero_le h0
  exact decimal_fn n (by omega)
theorem ralt_fn (a : GAl) (hv : altOk a = true) (hb : (altT a).length ≤ 1000000000) : Fn Tryd.prog 41 [altA a] (strA (tx (altT a))) := by
  obtain ⟨⟨hp0, hp1⟩, hE⟩ := altOk_iff.1 hv
  have hil := itoa_len hp0 hp1
  have hD := decimalI_fn a.price hp0 hp1
  have hds : (tx (Lib.itoa a.price)).size = (Lib.itoa a.price).length := tx_size _
  rw [altT, List.length_append] at hb
  have hkl : (kidsL a.body).length = a.body.kids.length := kidsL_len _
  by_cases hbod : ¬ a.body.kind = 2 ∨ 0 < (a.body.kids.length : Int)
  · have e1 : bodT a.body = [32] ++ encT (exT a.body) (decide (a.body.kind = 3)) := by rw [bodT, if_pos hbod]
    have hen := encT_len (exT a.body) (decide (a.body.kind = 3))
    rw [e1, List.length_append] at hb
    have hK := kid_fn a.body (decide (a.body.kind = 3)) (fexpr_fn a.body 30 hE (by omega)) (by omega)
    have hks : (tx (encT (exT a.body) (decide (a.body.kind = 3)))).size = (encT (exT a.body) (decide (a.body.kind = 3))).length := tx_size _
    by_cases hpz : a.price = 0
    · have e2 : tx (altT a) = (⟨#[32]⟩ : ByteArray) ++ tx (encT (exT a.body) (decide (a.body.kind = 3))) := by
        rw [altT, prT, if_pos hpz, List.append_nil, e1]; exact (tx_app _ _).symm
      rw [e2]
      unfold altA
      refine Fn.intro (by exact rfl) (by kernel_rfl) Tryd.func41 rfl rfl Tryd.ntmps41 (by exact Nat.le_of_ble_eq_true rfl) ?_; intro Γ hm
      (repeat' (first | refine WP.seq ?_ | refine go_n ?_ | refine WP.skip ?_ | refine WP.ret ?_ | refine bo_r ?_ | (refine wp_cond (by exact rfl) (fun hc => ?_) (fun hc => ?_) <;> (try simp only [decide_eq_true_eq, decide_eq_false_iff_not, Decidable.not_not, Bool.and_eq_true, Bool.or_eq_true, Bool.not_eq_true', Bool.not_eq_false', Bool.or_eq_false_iff, Bool.and_eq_false_iff, Int.not_lt, Int.not_le, reduceCtorEq, ne_eq, Bool.not_true, Bool.not_false, Bool.not_eq_true, Bool.not_eq_false] at hc) <;> (try (exfalso; omega))) | (refine WP.regionC (id := 0) ?_; (refine se_box (by exact rfl) (by exact ⟨rfl, rfl⟩) ?_); (refine su (ap_assign (by exact rq_p rfl rfl)) ?_); refine asemC_end ?_) | (refine WP.regionC (id := 1) ?_; (refine su (ap_assign (by exact rq_p rfl rfl)) ?_); refine asemC_end ?_) | (refine WP.regionC (id := 2) ?_; (refine su (ap_field_p (by exact rq_p rfl rfl) (by exact rfl) (by exact rfl)) ?_); (refine su (ap_field_p (by exact rq_p rfl rfl) (by exact rfl) (by exact rfl)) ?_); (refine su (ap_load_p (by exact rq_p rfl rfl) (by exact rfl) (by exact rfl) (by exact rfl)) ?_); (refine su (ap_neq (by exact rq_p rfl rfl) (by exact rq_p rfl rfl)) ?_); (refine su (ap_move (by exact rq_p rfl rfl)) ?_); (refine sg (by exact gq_vf rfl rfl) (fun he => ap_field_p (by exact rq_p rfl rfl) (by exact rfl) (by exact rfl)) ?_); (refine sg (by exact gq_vf rfl rfl) (fun he => ap_field_p (by exact rq_c rfl rfl) (by exact rfl) (by exact rfl)) ?_); (refine sg (by exact gq_vf rfl rfl) (fun he => ap_load_p (by exact rq_c rfl rfl) (by exact rfl) (by exact rfl) (by exact rfl)) ?_); (refine sg (by exact gq_vf rfl rfl) (fun he => ap_len_s (by exact rfl) (by exact rq_c rfl rfl)) ?_); (refine sg (by exact gq_vf rfl rfl) (fun he => ap_gtr (by exact rq_c rfl rfl) (by exact rq_p rfl rfl)) ?_); (refine su (ap_or (by exact rq_p rfl rfl) (by exact rq_c rfl rfl)) ?_); refine asemC_end ?_) | (refine WP.regionC (id := 3) ?_; (refine su (ap_field_p (by exact rq_p rfl rfl) (by exact rfl) (by exact rfl)) ?_); (refine su (ap_load_p (by exact rq_p rfl rfl) (by exact rfl) (by exact rfl) (by exact rfl)) ?_); (refine su (ap_field_p (by exact rq_p rfl rfl) (by exact rfl) (by exact rfl)) ?_); (refine su (ap_field_p (by exact rq_p rfl rfl) (by exact rfl) (by exact rfl)) ?_); (refine su (ap_load_p (by exact rq_p rfl rfl) (by exact rfl) (by exact rfl) (by exact rfl)) ?_); (refine su (ap_eql (by exact rq_p rfl rfl) (by exact rq_p rfl rfl)) ?_); (refine sc_p rfl rfl (by first | ((repeat' first | exact SubL.nil | refine SubL.cons ?_ ?_ | exact Sub.refl); done) | fail) (by first | (simp [bdL, bdL_append, AV.bd]; done) | fail) (hK) ?_); (refine su (ap_cat (by exact rq_p rfl rfl) (by exact rq_p rfl rfl) (by (simp only [bsz, List.size_toArray, ByteArray.size_append, List.length_append, List.length_cons, List.length_nil] <;> omega))) ?_); (refine su (ap_assign (by exact rq_p rfl rfl)) ?_); refine asemC_end ?_) | (refine WP.regionC (id := 4) ?_; (refine su (ap_field_p (by exact rq_p rfl rfl) (by exact rfl) (by exact rfl)) ?_); (refine su (ap_load_p (by exact rq_p rfl rfl) (by exact rfl) (by exact rfl) (by exact rfl)) ?_); (refine su (ap_neq (by exact rq_p rfl rfl) (by exact rq_p rfl rfl)) ?_); refine asemC_end ?_) | (refine WP.regionC (id := 6) ?_; (refine su (ap_move (by exact rq_p rfl rfl)) ?_); (refine su (ap_assign (by exact rq_p rfl rfl)) ?_); refine asemC_end ?_) | exact ret_eq (by exact rfl) (by exact rfl) rfl))
    · have e2 : tx (altT a) = (⟨#[32]⟩ : ByteArray) ++ tx (encT (exT a.body) (decide (a.body.kind = 3))) ++ ⟨#[32, 112, 114, 105, 99, 101, 32]⟩ ++ tx (Lib.itoa a.price) := by
        rw [altT, prT, if_neg hpz, e1]; apply ba_ext; simp [bl_app, wPrice, bl, tx_data]
      rw [e2]
      unfold altA
      refine Fn.intro (by exact rfl) (by kernel_rfl) Tryd.func41 rfl rfl Tryd.ntmps41 (by exact Nat.le_of_ble_eq_true rfl) ?_; intro Γ hm
      (repeat' (first | refine WP.seq ?_ | refine go_n ?_ | refine WP.ret ?_ | refine bo_r ?_ | (refine wp_cond (by exact rfl) (fun hc => ?_) (fun hc => ?_) <;> (try simp only [decide_eq_true_eq, decide_eq_false_iff_not, Decidable.not_not, Bool.and_eq_true, Bool.or_eq_true, Bool.not_eq_true', Bool.not_eq_false', Bool.or_eq_false_iff, Bool.and_eq_false_iff, Int.not_lt, Int.not_le, reduceCtorEq, ne_eq, Bool.not_true, Bool.not_false, Bool.not_eq_true, Bool.not_eq_false] at hc) <;> (try (exfalso; omega))) | (refine WP.regionC (id := 0) ?_; (refine se_box (by exact rfl) (by exact ⟨rfl, rfl⟩) ?_); (refine su (ap_assign (by exact rq_p rfl rfl)) ?_); refine asemC_end ?_) | (refine WP.regionC (id := 1) ?_; (refine su (ap_assign (by exact rq_p rfl rfl)) ?_); refine asemC_end ?_) | (refine WP.regionC (id := 2) ?_; (refine su (ap_field_p (by exact rq_p rfl rfl) (by exact rfl) (by exact rfl)) ?_); (refine su (ap_field_p (by exact rq_p rfl rfl) (by exact rfl) (by exact rfl)) ?_); (refine su (ap_load_p (by exact rq_p rfl rfl) (by exact rfl) (by exact rfl) (by exact rfl)) ?_); (refine su (ap_neq (by exact rq_p rfl rfl) (by exact rq_p rfl rfl)) ?_); (refine su (ap_move (by exact rq_p rfl rfl)) ?_); (refine sg (by exact gq_vf rfl rfl) (fun he => ap_field_p (by exact rq_p rfl rfl) (by exact rfl) (by exact rfl)) ?_); (refine sg (by exact gq_vf rfl rfl) (fun he => ap_field_p (by exact rq_c rfl rfl) (by exact rfl) (by exact rfl)) ?_); (refine sg (by exact gq_vf rfl rfl) (fun he => ap_load_p (by exact rq_c rfl rfl) (by exact rfl) (by exact rfl) (by exact rfl)) ?_); (refine sg (by exact gq_vf rfl rfl) (fun he => ap_len_s (by exact rfl) (by exact rq_c rfl rfl)) ?_); (refine sg (by exact gq_vf rfl rfl) (fun he => ap_gtr (by exact rq_c rfl rfl) (by exact rq_p rfl rfl)) ?_); (refine su (ap_or (by exact rq_p rfl rfl) (by exact rq_c rfl rfl)) ?_); refine asemC_end ?_) | (refine WP.regionC (id := 3) ?_; (refine su (ap_field_p (by exact rq_p rfl rfl) (by exact rfl) (by exact rfl)) ?_); (refine su (ap_load_p (by exact rq_p rfl rfl) (by exact rfl) (by exact rfl) (by exact rfl)) ?_); (refine su (ap_field_p (by exact rq_p rfl rfl) (by exact rfl) (by exact rfl)) ?_); (refine su (ap_field_p (by exact rq_p rfl rfl) (by exact rfl) (by exact rfl)) ?_); (refine su (ap_load_p (by exact rq_p rfl rfl) (by exact rfl) (by exact rfl) (by exact rfl)) ?_); (refine su (ap_eql (by exact rq_p rfl rfl) (by exact rq_p rfl rfl)) ?_); (refine sc_p rfl rfl (by first | ((repeat' first | exact SubL.nil | refine SubL.cons ?_ ?_ | exact Sub.refl); done) | fail) (by first | (simp [bdL, bdL_append, AV.bd]; done) | fail) (hK) ?_); (refine su (ap_cat (by exact rq_p rfl rfl) (by exact rq_p rfl rfl) (by (simp only [bsz, List.size_toArray, ByteArray.size_append, List.length_append, List.length_cons, List.length_nil] <;> omega))) ?_); (refine su (ap_assign (by exact rq_p rfl rfl)) ?_); refine asemC_end ?_) | (refine WP.regionC (id := 4) ?_; (refine su (ap_field_p (by exact rq_p rfl rfl) (by exact rfl) (by exact rfl)) ?_); (refine su (ap_load_p (by exact rq_p rfl rfl) (by exact rfl) (by exact rfl) (by exact rfl)) ?_); (refine su (ap_neq (by exact rq_p rfl rfl) (by exact rq_p rfl rfl)) ?_); refine asemC_end ?_) | (refine WP.regionC (id := 5) ?_; (refine su (ap_move (by exact rq_p rfl rfl)) ?_); (refine su (ap_cat (by exact rq_p rfl rfl) (by exact rq_p rfl rfl) (by (simp only [bsz, List.size_toArray, ByteArray.size_append, List.length_append, List.length_cons, List.length_nil] <;> omega))) ?_); (refine su (ap_field_p (by exact rq_p rfl rfl) (by exact rfl) (by exact rfl)) ?_); (refine su (ap_load_p (by exact rq_p rfl rfl) (by exact rfl) (by exact rfl) (by exact rfl)) ?_); (refine sc_p rfl rfl (by first | ((repeat' first | exact SubL.nil | refine SubL.cons ?_ ?_ | exact Sub.refl); done) | fail) (by first | (simp [bdL, bdL_append, AV.bd]; done) | fail) (hD) ?_); (refine su (ap_cat (by exact rq_p rfl rfl) (by exact rq_p rfl rfl) (by (simp only [bsz, List.size_toArray, ByteArray.size_append, List.length_append, List.length_cons, List.length_nil] <;> omega))) ?_); (refine su (ap_assign (by exact rq_p rfl rfl)) ?_); refine asemC_end ?_) | (refine WP.regionC (id := 6) ?_; (refine su (ap_move (by exact rq_p rfl rfl)) ?_); (refine su (ap_assign (by exact rq_p rfl rfl)) ?_); refine asemC_end ?_) | exact ret_eq (by exact rfl) (by exact rfl) rfl))
  · have e1 : bodT a.body = [] := by rw [bodT, if_neg hbod]
    have hk0 : a.body.kind = 2 ∧ (a.body.kids.length : Int) ≤ 0 := by omega
    by_cases hpz : a.price = 0
    · have e2 : tx (altT a) = ⟨#[]⟩ := by rw [altT, prT, if_pos hpz, e1]; rfl
      rw [e2]
      unfold altA
      refine Fn.intro (by exact rfl) (by kernel_rfl) Tryd.func41 rfl rfl Tryd.ntmps41 (by exact Nat.le_of_ble_eq_true rfl) ?_; intro Γ hm
      (repeat' (first | refine WP.seq ?_ | refine go_n ?_ | refine WP.skip ?_ | refine WP.ret ?_ | refine bo_r ?_ | (refine wp_cond (by exact rfl) (fun hc => ?_) (fun hc => ?_) <;> (try simp only [decide_eq_true_eq, decide_eq_false_iff_not, Decidable.not_not, Bool.and_eq_true, Bool.or_eq_true, Bool.not_eq_true', Bool.not_eq_false', Bool.or_eq_false_iff, Bool.and_eq_false_iff, Int.not_lt, Int.not_le, reduceCtorEq, ne_eq, Bool.not_true, Bool.not_false, Bool.not_eq_true, Bool.not_eq_false] at hc) <;> (try (exfalso; omega))) | (refine WP.regionC (id := 0) ?_; (refine se_box (by exact rfl) (by exact ⟨rfl, rfl⟩) ?_); (refine su (ap_assign (by exact rq_p rfl rfl)) ?_); refine asemC_end ?_) | (refine WP.regionC (id := 1) ?_; (refine su (ap_assign (by exact rq_p rfl rfl)) ?_); refine asemC_end ?_) | (refine WP.regionC (id := 2) ?_; (refine su (ap_field_p (by exact rq_p rfl rfl) (by exact rfl) (by exact rfl)) ?_); (refine su (ap_field_p (by exact rq_p rfl rfl) (by exact rfl) (by exact rfl)) ?_); (refine su (ap_load_p (by exact rq_p rfl rfl) (by exact rfl) (by exact rfl) (by exact rfl)) ?_); (refine su (ap_neq (by exact rq_p rfl rfl) (by exact rq_p rfl rfl)) ?_); (refine su (ap_move (by exact rq_p rfl rfl)) ?_); (refine sg (by exact gq_vf rfl rfl) (fun he => ap_field_p (by exact rq_p rfl rfl) (by exact rfl) (by exact rfl)) ?_); (refine sg (by exact gq_vf rfl rfl) (fun he => ap_field_p (by exact rq_c rfl rfl) (by exact rfl) (by exact rfl)) ?_); (refine sg (by exact gq_vf rfl rfl) (fun he => ap_load_p (by exact rq_c rfl rfl) (by exact rfl) (by exact rfl) (by exact rfl)) ?_); (refine sg (by exact gq_vf rfl rfl) (fun he => ap_len_s (by exact rfl) (by exact rq_c rfl rfl)) ?_); (refine sg (by exact gq_vf rfl rfl) (fun he => ap_gtr (by exact rq_c rfl rfl) (by exact rq_p rfl rfl)) ?_); (refine su (ap_or (by exact rq_p rfl rfl) (by exact rq_c rfl rfl)) ?_); refine asemC_end ?_) | (refine WP.regionC (id := 4) ?_; (refine su (ap_field_p (by exact rq_p rfl rfl) (by exact rfl) (by exact rfl)) ?_); (refine su (ap_load_p (by exact rq_p rfl rfl) (by exact rfl) (by exact rfl) (by exact rfl)) ?_); (refine su (ap_neq (by exact rq_p rfl rfl) (by exact rq_p rfl rfl)) ?_); refine asemC_end ?_) | (refine WP.regionC (id := 6) ?_; (refine su (ap_move (by exact rq_p rfl rfl)) ?_); (refine su (ap_assign (by exact rq_p rfl rfl)) ?_); refine asemC_end ?_) | exact ret_eq (by exact rfl) (by exact rfl) rfl))
    · have e2 : tx (altT a) = (⟨#[]⟩ : ByteArray) ++ ⟨#[32, 112, 114, 105, 99, 101, 32]⟩ ++ tx (Lib.itoa a.price) := by
        rw [altT, prT, if_neg hpz, e1]; apply ba_ext; simp [bl_app, wPrice, bl, tx_data]
      rw [e2]
      unfold altA
      refine Fn.intro (by exact rfl) (by kernel_rfl) Tryd.func41 rfl rfl Tryd.ntmps41 (by exact Nat.le_of_ble_eq_true rfl) ?_; intro Γ hm
      (repeat' (first | refine WP.seq ?_ | refine go_n ?_ | refine WP.skip ?_ | refine WP.ret ?_ | refine bo_r ?_ | (refine wp_cond (by exact rfl) (fun hc => ?_) (fun hc => ?_) <;> (try simp only [decide_eq_true_eq, decide_eq_false_iff_not, Decidable.not_not, Bool.and_eq_true, Bool.or_eq_true, Bool.not_eq_true', Bool.not_eq_false', Bool.or_eq_false_iff, Bool.and_eq_false_iff, Int.not_lt, Int.not_le, reduceCtorEq, ne_eq, Bool.not_true, Bool.not_false, Bool.not_eq_true, Bool.not_eq_false] at hc) <;> (try (exfalso; omega))) | (refine WP.regionC (id := 0) ?_; (refine se_box (by exact rfl) (by exact ⟨rfl, rfl⟩) ?_); (refine su (ap_assign (by exact rq_p rfl rfl)) ?_); refine asemC_end ?_) | (refine WP.regionC (id := 1) ?_; (refine su (ap_assign (by exact rq_p rfl rfl)) ?_); refine asemC_end ?_) | (refine WP.regionC (id := 2) ?_; (refine su (ap_field_p (by exact rq_p rfl rfl) (by exact rfl) (by exact rfl)) ?_); (refine su (ap_field_p (by exact rq_p rfl rfl) (by exact rfl) (by exact rfl)) ?_); (refine su (ap_load_p (by exact rq_p rfl rfl) (by exact rfl) (by exact rfl) (by exact rfl)) ?_); (refine su (ap_neq (by exact rq_p rfl rfl) (by exact rq_p rfl rfl)) ?_); (refine su (ap_move (by exact rq_p rfl rfl)) ?_); (refine sg (by exact gq_vf rfl rfl) (fun he => ap_field_p (by exact rq_p rfl rfl) (by exact rfl) (by exact rfl)) ?_); (refine sg (by exact gq_vf rfl rfl) (fun he => ap_field_p (by exact rq_c rfl rfl) (by exact rfl) (by exact rfl)) ?_); (refine sg (by exact gq_vf rfl rfl) (fun he => ap_load_p (by exact rq_c rfl rfl) (by exact rfl) (by exact rfl) (by exact rfl)) ?_); (refine sg (by exact gq_vf rfl rfl) (fun he => ap_len_s (by exact rfl) (by exact rq_c rfl rfl)) ?_); (refine sg (by exact gq_vf rfl rfl) (fun he => ap_gtr (by exact rq_c rfl rfl) (by exact rq_p rfl rfl)) ?_); (refine su (ap_or (by exact rq_p rfl rfl) (by exact rq_c rfl rfl)) ?_); refine asemC_end ?_) | (refine WP.regionC (id := 4) ?_; (refine su (ap_field_p (by exact rq_p rfl rfl) (by exact rfl) (by exact rfl)) ?_); (refine su (ap_load_p (by exact rq_p rfl rfl) (by exact rfl) (by exact rfl) (by exact rfl)) ?_); (refine su (ap_neq (by exact rq_p rfl rfl) (by exact rq_p rfl rfl)) ?_); refine asemC_end ?_) | (refine WP.regionC (id := 5) ?_; (refine su (ap_move (by exact rq_p rfl rfl)) ?_); (refine su (ap_cat (by exact rq_p rfl rfl) (by exact rq_p rfl rfl) (by (simp only [bsz, List.size_toArray, ByteArray.size_append, List.length_append, List.length_cons, List.length_nil] <;> omega))) ?_); (refine su (ap_field_p (by exact rq_p rfl rfl) (by exact rfl) (by exact rfl)) ?_); (refine su (ap_load_p (by exact rq_p rfl rfl) (by exact rfl) (by exact rfl) (by exact rfl)) ?_); (refine sc_p rfl rfl (by first | ((repeat' first | exact SubL.nil | refine SubL.cons ?_ ?_ | exact Sub.refl); done) | fail) (by first | (simp [bdL, bdL_append, AV.bd]; done) | fail) (hD) ?_); (refine su (ap_cat (by exact rq_p rfl rfl) (by exact rq_p rfl rfl) (by (simp only [bsz, List.size_toArray, ByteArray.size_append, List.length_append, List.length_cons, List.length_nil] <;> omega))) ?_); (refine su (ap_assign (by exact rq_p rfl rfl)) ?_); refine asemC_end ?_) | (refine WP.regionC (id := 6) ?_; (refine su (ap_move (by exact rq_p rfl rfl)) ?_); (refine su (ap_assign (by exact rq_p rfl rfl)) ?_); refine asemC_end ?_) | exact ret_eq (by exact rfl) (by exact rfl) rfl))
theorem join_spaced {l : List ByteArray} (h : l ≠ []) : [32] ++ Lib.join (l.map bl) [32] = spaced l := by
  cases l with
  | nil => exact absurd rfl h
  | cons x l =>
    have h1 := lineT_cons x l
    have h2 : Lib.join ((x :: l).map bl) [32] = bl x ++ spaced l := by
      have := List.append_cancel_right (show Lib.join ((x :: l).map bl) [32] ++ [10] = (bl x ++ spaced l) ++ [10] from h1)
      exact this
    rw [h2]
    simp [spaced]
theorem lvT_eq {l : GLe} (h : l.tokens ≠ []) : lvT l = bl (wordT l.assoc) ++ spaced l.tokens ++ endT := by
  rw [← join_spaced h, lvT]; simp only [List.append_assoc]
theorem spaced_take {l : List ByteArray} {k : Nat} (hk : k < l.length) : spaced (l.take (k + 1)) = spaced (l.take k) ++ (32 :: bl (nth l k)) := by
  rw [take_succ_nth hk, spaced_app]; simp [spaced]
theorem spaced_mono (l : List ByteArray) {k : Nat} (hk : k ≤ l.length) : (spaced (l.take k)).length ≤ (spaced l).length := by
  have h := congrArg List.length (spaced_app (l.take k) (l.drop k))
  rw [List.take_append_drop, List.length_append] at h
  omega
theorem rformat_fn (f : GFi) (hv : validF f = true) (hB : (fmtF f).length ≤ 100000000) : Fn Tryd.prog 16 [fileA f] (strA (tx (fmtF f))) := by
  have hv1 : (∀ r, r ∈ f.rules → gruleOk r = true) ∧ ∀ l, l ∈ f.levels → glevelOk l = true := by
    simp only [validF, Bool.and_eq_true, List.all_eq_true] at hv
    exact ⟨hv.1.1.1.1.2, hv.1.1.1.2⟩
  have hl0 := fmL0_le f
  have hl1 := fmL_mono f (Nat.zero_le _)
  have hz : (fm0 f).length = 8 + f.start.size := by simp [fm0, wStartT, endT, bl_len]; omega
  have hl2 : (fmL f 0).length = 8 + f.start.size := by rw [← hz]; simp [fmL]
  refine Fn.intro (by exact rfl) (by kernel_rfl) Tryd.func16 rfl rfl Tryd.ntmps16 (by exact Nat.le_of_ble_eq_true rfl) ?_; intro Γ hm
  refine wp_lens 0 rfl fun hl => ?_
  have hln : f.rules.length ≤ 9223372036854775807 ∧ f.levels.length ≤ 9223372036854775807 := by have := hl; simp [AV.lens, lensL, fileA, levelsA, grulesA] at this; omega
  (repeat' (first | refine WP.seq ?_ | refine WP.block ?_ | refine go_n ?_ | (refine WP.regionC (id := 0) ?_; (refine se_box (by exact rfl) (by exact ⟨rfl, rfl⟩) ?_); (refine su (ap_assign (by exact rq_p rfl rfl)) ?_); refine asemC_end ?_) | (refine WP.regionC (id := 1) ?_; (refine su (ap_field_p (by exact rq_p rfl rfl) (by exact rfl) (by exact rfl)) ?_); (refine su (ap_load_p (by exact rq_p rfl rfl) (by exact rfl) (by exact rfl) (by exact rfl)) ?_); (refine su (ap_cat (by exact rq_p rfl rfl) (by exact rq_p rfl rfl) (by (simp only [bsz, List.size_toArray, ByteArray.size_append, List.length_append, List.length_cons, List.length_nil] <;> omega))) ?_); (refine su (ap_cat (by exact rq_p rfl rfl) (by exact rq_p rfl rfl) (by (simp only [bsz, List.size_toArray, ByteArray.size_append, List.length_append, List.length_cons, List.length_nil] <;> omega))) ?_); (refine su (ap_assign (by exact rq_p rfl rfl)) ?_); refine asemC_end ?_) | (refine WP.regionC (id := 2) ?_; (refine su (ap_assign (by exact rq_p rfl rfl)) ?_); refine asemC_end ?_)))
  have e0 : ({ data := #[115, 116, 97, 114, 116, 32] } : ByteArray) ++ f.start ++ { data := #[59, 10] } = tx (fmL f 0) := by
    apply ba_ext; simp [fmL, fm0, wStartT, endT, bl, tx_data]
  rw [e0]
  refine wp_loop (fun (j : Nat) => j ≤ f.levels.length) (fun j => f.levels.length - j)
    (fun j => (S 106 [(1, .ptr 0 3 0 0), (3, strA (tx (fmL f j))), (4, intA (j : Nat))] 1 [(0, some (.arr 3 [fileA f]))])) 0 ⟨[0], ToR.S rfl (by repeat' (first | exact rt_nil | refine rt_t (by exact rfl) (by exact rfl) ?_ | refine rt_e (by exact rfl) (by exact rfl) ?_)) (by repeat' (first | exact ro_nil | refine ro_p (by exact rfl) (by first | exact rfl | fail) (by first | (simp [bdL, bdL_append, AV.bd]; done) | fail) ?_)) (by exact rfl) (by (rw [hm]; exact rfl)) (by exact rfl) (by (simp [bdT, AV.bd, bdL, bdL_append]; done)) (by repeat' (first | exact True.intro | refine And.intro ?_ ?_ | (simp [bdOq, bdL, bdL_append, AV.bd]; done))) (by (rw [hm]; exact Nat.le_of_ble_eq_true rfl))⟩ (Nat.zero_le _) ?_
  rintro j hj
  have hm1 := fmL_mono f hj
  have hs1 : (tx (fmL f j)).size = (fmL f j).length := tx_size _
  by_cases hlt : j < f.levels.length
  · have hm2 := fmL_mono f (k := j + 1) (by omega)
    have hne : (nth f.levels j).tokens ≠ [] := by
      have := (glevel_iff.1 (hv1.2 _ (nth_mem hlt))).2
      intro h; rw [h] at this; exact this rfl
    rw [fmL_succ hlt, lvT_eq hne, List.length_append, List.length_append, List.length_append, bl_len] at hm2
    have hsg := spaced_ge (nth f.levels j).tokens
    have hw := word_size (nth f.levels j).assoc
    have hend : endT.length = 2 := rfl
    have hw1 : (nth f.levels j).assoc = 1 → tx (fmL f j) ++ ({ data := #[108, 101, 102, 116] } : ByteArray) = tx (fmL f j ++ bl (wordT (nth f.levels j).assoc) ++ spaced ((nth f.levels j).tokens.take 0)) := fun h => by
      rw [wordT, if_pos h]; apply ba_ext; simp [bl_app, spaced, bl, tx_data, kw1]
    have hw2 : (nth f.levels j).assoc = 2 → tx (fmL f j) ++ ({ data := #[114, 105, 103, 104, 116] } : ByteArray) = tx (fmL f j ++ bl (wordT (nth f.levels j).assoc) ++ spaced ((nth f.levels j).tokens.take 0)) := fun h => by
      rw [wordT, if_neg (by omega), if_pos h]; apply ba_ext; simp [bl_app, spaced, bl, tx_data, kw2]
    have hw3 : ¬ (nth f.levels j).assoc = 1 → ¬ (nth f.levels j).assoc = 2 → tx (fmL f j) ++ ({ data := #[110, 111, 110, 101] } : ByteArray) = tx (fmL f j ++ bl (wordT (nth f.levels j).assoc) ++ spaced ((nth f.levels j).tokens.take 0)) := fun h h2 => by
      rw [wordT, if_neg h, if_neg h2]; apply ba_ext; simp [bl_app, spaced, bl, tx_data, kw3]
    (repeat' (first | refine WP.seq ?_ | refine WP.block ?_ | refine go_n ?_ | refine WP.skip ?_ | refine bl_n ?_ | (refine wp_cond (by exact rfl) (fun hc => ?_) (fun hc => ?_) <;> (try simp only [decide_eq_true_eq, decide_eq_false_iff_not, Decidable.not_not, Bool.and_eq_true, Bool.or_eq_true, Bool.not_eq_true', Bool.not_eq_false', Bool.or_eq_false_iff, Bool.and_eq_false_iff, Int.not_lt, Int.not_le, reduceCtorEq, ne_eq, Bool.not_true, Bool.not_false, Bool.not_eq_true, Bool.not_eq_false] at hc) <;> (try (exfalso; omega))) | (refine WP.regionC (id := 3) ?_; (refine su (ap_move (by exact rq_p rfl rfl)) ?_); (refine su (ap_field_p (by exact rq_p rfl rfl) (by exact rfl) (by exact rfl)) ?_); (refine su (ap_load_p (by exact rq_p rfl rfl) (by exact rfl) (by exact rfl) (by exact rfl)) ?_); (refine su (ap_len_m (by exact rfl) (by exact rq_p rfl rfl)) ?_); (refine su (ap_lss (by exact rq_p rfl rfl) (by exact rq_p rfl rfl)) ?_); refine asemC_end ?_) | (refine WP.regionC (id := 5) ?_; (refine su (ap_field_p (by exact rq_p rfl rfl) (by exact rfl) (by exact rfl)) ?_); (refine su (ap_load_p (by exact rq_p rfl rfl) (by exact rfl) (by exact rfl) (by exact rfl)) ?_); (refine su (ap_move (by exact rq_p rfl rfl)) ?_); (refine su (ap_idx_n (by exact rq_p rfl rfl) (by exact rq_p rfl rfl) (by omega)) ?_); (refine su (ap_field_i (by exact rq_p rfl rfl) (by exact rfl) (by exact rfl)) ?_); (refine su (ap_load_i (by exact rq_p rfl rfl) (by exact rfl)) ?_); refine asemC_end ?_) | (refine WP.regionC (id := 7) ?_; (refine su (ap_eql (by exact rq_p rfl rfl) (by exact rq_p rfl rfl)) ?_); (refine su (ap_assign (by exact rq_p rfl rfl)) ?_); refine asemC_end ?_) | (refine WP.regionC (id := 8) ?_; (refine su (ap_move (by exact rq_p rfl rfl)) ?_); (refine su (ap_cat (by exact rq_p rfl rfl) (by exact rq_p rfl rfl) (by (simp only [bsz, List.size_toArray, ByteArray.size_append, List.length_append, List.length_cons, List.length_nil] <;> omega))) ?_); (refine su (ap_assign (by exact rq_p rfl rfl)) ?_); refine asemC_end ?_) | (refine WP.regionC (id := 9) ?_; (refine su (ap_eql (by exact rq_p rfl rfl) (by exact rq_p rfl rfl)) ?_); (refine su (ap_assign (by exact rq_p rfl rfl)) ?_); refine asemC_end ?_) | (refine WP.regionC (id := 10) ?_; (refine su (ap_move (by exact rq_p rfl rfl)) ?_); (refine su (ap_cat (by exact rq_p rfl rfl) (by exact rq_p rfl rfl) (by (simp only [bsz, List.size_toArray, ByteArray.size_append, List.length_append, List.length_cons, List.length_nil] <;> omega))) ?_); (refine su (ap_assign (by exact rq_p rfl rfl)) ?_); refine asemC_end ?_) | (refine WP.regionC (id := 6) ?_; (refine su (ap_move (by exact rq_p rfl rfl)) ?_); (refine su (ap_cat (by exact rq_p rfl rfl) (by exact rq_p rfl rfl) (by (simp only [bsz, List.size_toArray, ByteArray.size_append, List.length_append, List.length_cons, List.length_nil] <;> omega))) ?_); (refine su (ap_assign (by exact rq_p rfl rfl)) ?_); refine asemC_end ?_) | (refine WP.regionC (id := 11) ?_; (refine su (ap_assign (by exact rq_p rfl rfl)) ?_); refine asemC_end ?_)))
    rw [hw1 hc]
    rotate_left 1
    rw [hw2 hc]
    rotate_left 1
    rw [hw3 (by assumption) hc]
    rotate_left 1
    all_goals
      refine wp_loop (fun (k : Nat) => k ≤ (nth f.levels j).tokens.length) (fun k => (nth f.levels j).tokens.length - k)
        (fun k => (S 106 [(1, .ptr 0 3 0 0), (3, strA (tx (fmL f j ++ bl (wordT (nth f.levels j).assoc) ++ spaced ((nth f.levels j).tokens.take k)))), (4, intA (j : Nat)), (5, intA (k : Nat))] 1 [(0, some (.arr 3 [fileA f]))])) 0 ⟨[0], ToR.S rfl (by repeat' (first | exact rt_nil | refine rt_t (by exact rfl) (by exact rfl) ?_ | refine rt_e (by exact rfl) (by exact rfl) ?_)) (by repeat' (first | exact ro_nil | refine ro_p (by exact rfl) (by first | exact rfl | fail) (by first | (simp [bdL, bdL_append, AV.bd]; done) | fail) ?_)) (by exact rfl) (by (rw [hm]; exact rfl)) (by exact rfl) (by (simp [bdT, AV.bd, bdL, bdL_append]; done)) (by repeat' (first | exact True.intro | refine And.intro ?_ ?_ | (simp [bdOq, bdL, bdL_append, AV.bd]; done))) (by (rw [hm]; exact Nat.le_of_ble_eq_true rfl))⟩ (Nat.zero_le _) ?_
      rintro k hk
      have hsp := spaced_mono (nth f.levels j).tokens hk
      have hs2 : (tx (fmL f j ++ bl (wordT (nth f.levels j).assoc) ++ spaced ((nth f.levels j).tokens.take k))).size = (fmL f j).length + (wordT (nth f.levels j).assoc).size + (spaced ((nth f.levels j).tokens.take k)).length := by rw [tx_size]; simp [bl_len]; omega
      by_cases hkl : k < (nth f.levels j).tokens.length
      · have hsp2 := spaced_mono (nth f.levels j).tokens (k := k + 1) (by omega)
        rw [spaced_take hkl, List.length_append, List.length_cons, bl_len] at hsp2
        have e1 : tx (fmL f j ++ bl (wordT (nth f.levels j).assoc) ++ spaced ((nth f.levels j).tokens.take (k + 1))) = tx (fmL f j ++ bl (wordT (nth f.levels j).assoc) ++ spaced ((nth f.levels j).tokens.take k)) ++ ({ data := #[32] } : ByteArray) ++ nth (nth f.levels j).tokens k := by
          rw [spaced_take hkl]; apply ba_ext; simp [bl_app, bl, tx_data]
        (repeat' (first | refine WP.seq ?_ | refine WP.block ?_ | refine go_n ?_ | refine WP.skip ?_ | refine bl_n ?_ | (refine wp_cond (by exact rfl) (fun hc => ?_) (fun hc => ?_) <;> (try simp only [decide_eq_true_eq, decide_eq_false_iff_not, Decidable.not_not, Bool.and_eq_true, Bool.or_eq_true, Bool.not_eq_true', Bool.not_eq_false', Bool.or_eq_false_iff, Bool.and_eq_false_iff, Int.not_lt, Int.not_le, reduceCtorEq, ne_eq, Bool.not_true, Bool.not_false, Bool.not_eq_true, Bool.not_eq_false] at hc) <;> (try (exfalso; omega))) | (refine WP.regionC (id := 12) ?_; (refine su (ap_move (by exact rq_p rfl rfl)) ?_); (refine su (ap_field_p (by exact rq_p rfl rfl) (by exact rfl) (by exact rfl)) ?_); (refine su (ap_load_p (by exact rq_p rfl rfl) (by exact rfl) (by exact rfl) (by exact rfl)) ?_); (refine su (ap_move (by exact rq_p rfl rfl)) ?_); (refine su (ap_idx_n (by exact rq_p rfl rfl) (by exact rq_p rfl rfl) (by omega)) ?_); (refine su (ap_field_i (by exact rq_p rfl rfl) (by exact rfl) (by exact rfl)) ?_); (refine su (ap_load_i (by exact rq_p rfl rfl) (by exact rfl)) ?_); (refine su (ap_len_m (by exact rfl) (by exact rq_p rfl rfl)) ?_); (refine su (ap_lss (by exact rq_p rfl rfl) (by exact rq_p rfl rfl)) ?_); refine asemC_end ?_) | (refine WP.regionC (id := 14) ?_; (refine su (ap_move (by exact rq_p rfl rfl)) ?_); (refine su (ap_cat (by exact rq_p rfl rfl) (by exact rq_p rfl rfl) (by (simp only [bsz, List.size_toArray, ByteArray.size_append, List.length_append, List.length_cons, List.length_nil] <;> omega))) ?_); (refine su (ap_field_p (by exact rq_p rfl rfl) (by exact rfl) (by exact rfl)) ?_); (refine su (ap_load_p (by exact rq_p rfl rfl) (by exact rfl) (by exact rfl) (by exact rfl)) ?_); (refine su (ap_move (by exact rq_p rfl rfl)) ?_); (refine su (ap_idx_n (by exact rq_p rfl rfl) (by exact rq_p rfl rfl) (by omega)) ?_); (refine su (ap_field_i (by exact rq_p rfl rfl) (by exact rfl) (by exact rfl)) ?_); (refine su (ap_load_i (by exact rq_p rfl rfl) (by exact rfl)) ?_); (refine su (ap_move (by exact rq_p rfl rfl)) ?_); (refine su (ap_idx_n (by exact rq_p rfl rfl) (by exact rq_p rfl rfl) (by omega)) ?_); (refine su (ap_load_w (by exact rq_p rfl rfl) (by exact rfl)) ?_); (refine su (ap_cat (by exact rq_p rfl rfl) (by exact rq_p rfl rfl) (by (simp only [bsz, List.size_toArray, ByteArray.size_append, List.length_append, List.length_cons, List.length_nil] <;> omega))) ?_); (refine su (ap_assign (by exact rq_p rfl rfl)) ?_); refine asemC_end ?_) | (refine WP.regionC (id := 13) ?_; (refine su (ap_move (by exact rq_p rfl rfl)) ?_); (refine su (ap_add (by exact rq_p rfl rfl) (by exact rq_p rfl rfl) (by exact inr_i64_of (by omega))) ?_); (refine su (ap_assign (by exact rq_p rfl rfl)) ?_); refine asemC_end ?_)))
        refine ⟨k + 1, ⟨by omega, by omega⟩, ?_⟩
        rw [e1]
        exact ⟨[0], ToR.S rfl (by repeat' (first | exact rt_nil | refine rt_t (by exact rfl) (by exact rfl) ?_ | refine rt_e (by exact rfl) (by exact rfl) ?_)) (by repeat' (first | exact ro_nil | refine ro_p (by exact rfl) (by first | exact rfl | fail) (by first | (simp [bdL, bdL_append, AV.bd]; done) | fail) ?_)) (by exact rfl) (by (rw [hm]; exact rfl)) (by exact rfl) (by (simp [bdT, AV.bd, bdL, bdL_append]; done)) (by repeat' (first | exact True.intro | refine And.intro ?_ ?_ | (simp [bdOq, bdL, bdL_append, AV.bd]; done))) (by (rw [hm]; exact Nat.le_of_ble_eq_true rfl))⟩
      have hkk : k = (nth f.levels j).tokens.length := by omega
      subst hkk
      have e2 : tx (fmL f (j + 1)) = tx (fmL f j ++ bl (wordT (nth f.levels j).assoc) ++ spaced ((nth f.levels j).tokens.take (nth f.levels j).tokens.length)) ++ ({ data := #[59, 10] } : ByteArray) := by
        rw [fmL_succ hlt, lvT_eq hne, List.take_of_length_le (Nat.le_refl _)]; apply ba_ext; simp [bl_app, bl, tx_data, endT]
      (repeat' (first | refine WP.seq ?_ | refine go_n ?_ | refine WP.exit ?_ | refine go_x ?_ | refine bl_n ?_ | refine bl_x ?_ | (refine wp_cond (by exact rfl) (fun hc => ?_) (fun hc => ?_) <;> (try simp only [decide_eq_true_eq, decide_eq_false_iff_not, Decidable.not_not, Bool.and_eq_true, Bool.or_eq_true, Bool.not_eq_true', Bool.not_eq_false', Bool.or_eq_false_iff, Bool.and_eq_false_iff, Int.not_lt, Int.not_le, reduceCtorEq, ne_eq, Bool.not_true, Bool.not_false, Bool.not_eq_true, Bool.not_eq_false] at hc) <;> (try (exfalso; omega))) | (refine WP.regionC (id := 12) ?_; (refine su (ap_move (by exact rq_p rfl rfl)) ?_); (refine su (ap_field_p (by exact rq_p rfl rfl) (by exact rfl) (by exact rfl)) ?_); (refine su (ap_load_p (by exact rq_p rfl rfl) (by exact rfl) (by exact rfl) (by exact rfl)) ?_); (refine su (ap_move (by exact rq_p rfl rfl)) ?_); (refine su (ap_idx_n (by exact rq_p rfl rfl) (by exact rq_p rfl rfl) (by omega)) ?_); (refine su (ap_field_i (by exact rq_p rfl rfl) (by exact rfl) (by exact rfl)) ?_); (refine su (ap_load_i (by exact rq_p rfl rfl) (by exact rfl)) ?_); (refine su (ap_len_m (by exact rfl) (by exact rq_p rfl rfl)) ?_); (refine su (ap_lss (by exact rq_p rfl rfl) (by exact rq_p rfl rfl)) ?_); refine asemC_end ?_) | (refine WP.regionC (id := 15) ?_; (refine su (ap_move (by exact rq_p rfl rfl)) ?_); (refine su (ap_cat (by exact rq_p rfl rfl) (by exact rq_p rfl rfl) (by (simp only [bsz, List.size_toArray, ByteArray.size_append, List.length_append, List.length_cons, List.length_nil] <;> omega))) ?_); (refine su (ap_assign (by exact rq_p rfl rfl)) ?_); refine asemC_end ?_) | (refine WP.regionC (id := 4) ?_; (refine su (ap_move (by exact rq_p rfl rfl)) ?_); (refine su (ap_add (by exact rq_p rfl rfl) (by exact rq_p rfl rfl) (by exact inr_i64_of (by omega))) ?_); (refine su (ap_assign (by exact rq_p rfl rfl)) ?_); refine asemC_end ?_)))
      refine ⟨j + 1, ⟨by omega, by omega⟩, ?_⟩
      rw [e2]
      exact ⟨[0], ToR.S rfl (by repeat' (first | exact rt_nil | refine rt_t (by exact rfl) (by exact rfl) ?_ | refine rt_e (by exact rfl) (by exact rfl) ?_)) (by repeat' (first | exact ro_nil | refine ro_p (by exact rfl) (by first | exact rfl | fail) (by first | (simp [bdL, bdL_append, AV.bd]; done) | fail) ?_)) (by exact rfl) (by (rw [hm]; exact rfl)) (by exact rfl) (by (simp [bdT, AV.bd, bdL, bdL_append]; done)) (by repeat' (first | exact True.intro | refine And.intro ?_ ?_ | (simp [bdOq, bdL, bdL_append, AV.bd]; done))) (by (rw [hm]; exact Nat.le_of_ble_eq_true rfl))⟩
  obtain rfl : j = f.levels.length := by omega
  (repeat' (first | refine WP.seq ?_ | refine WP.block ?_ | refine go_n ?_ | refine WP.exit ?_ | refine go_x ?_ | refine bl_x ?_ | (refine wp_cond (by exact rfl) (fun hc => ?_) (fun hc => ?_) <;> (try simp only [decide_eq_true_eq, decide_eq_false_iff_not, Decidable.not_not, Bool.and_eq_true, Bool.or_eq_true, Bool.not_eq_true', Bool.not_eq_false', Bool.or_eq_false_iff, Bool.and_eq_false_iff, Int.not_lt, Int.not_le, reduceCtorEq, ne_eq, Bool.not_true, Bool.not_false, Bool.not_eq_true, Bool.not_eq_false] at hc) <;> (try (exfalso; omega))) | (refine WP.regionC (id := 3) ?_; (refine su (ap_move (by exact rq_p rfl rfl)) ?_); (refine su (ap_field_p (by exact rq_p rfl rfl) (by exact rfl) (by exact rfl)) ?_); (refine su (ap_load_p (by exact rq_p rfl rfl) (by exact rfl) (by exact rfl) (by exact rfl)) ?_); (refine su (ap_len_m (by exact rfl) (by exact rq_p rfl rfl)) ?_); (refine su (ap_lss (by exact rq_p rfl rfl) (by exact rq_p rfl rfl)) ?_); refine asemC_end ?_) | (refine WP.regionC (id := 16) ?_; (refine su (ap_assign (by exact rq_p rfl rfl)) ?_); refine asemC_end ?_)))
  have e3 : fmL f f.levels.length = fmR f 0 := by simp [fmR]
  rw [e3]
  refine wp_loop (fun (k : Nat) => k ≤ f.rules.length) (fun k => f.rules.length - k)
    (fun k => (S 106 [(1, .ptr 0 3 0 0), (3, strA (tx (fmR f k))), (6, intA (k : Nat))] 1 [(0, some (.arr 3 [fileA f]))])) 0 ⟨[0], ToR.S rfl (by repeat' (first | exact rt_nil | refine rt_t (by exact rfl) (by exact rfl) ?_ | refine rt_e (by exact rfl) (by exact rfl) ?_)) (by repeat' (first | exact ro_nil | refine ro_p (by exact rfl) (by first | exact rfl | fail) (by first | (simp [bdL, bdL_append, AV.bd]; done) | fail) ?_)) (by exact rfl) (by (rw [hm]; exact rfl)) (by exact rfl) (by (simp [bdT, AV.bd, bdL, bdL_append]; done)) (by repeat' (first | exact True.intro | refine And.intro ?_ ?_ | (simp [bdOq, bdL, bdL_append, AV.bd]; done))) (by (rw [hm]; exact Nat.le_of_ble_eq_true rfl))⟩ (Nat.zero_le _) ?_
  rintro k hk
  have hr1 := fmR_mono f hk
  have hs3 : (tx (fmR f k)).size = (fmR f k).length := tx_size _
  by_cases hlt2 : k < f.rules.length
  · have hr2 := fmR_mono f (k := k + 1) (by omega)
    rw [fmR_succ hlt2, List.length_append] at hr2
    have hgr := hv1.1 _ (nth_mem hlt2)
    have hao : ∀ a, a ∈ (nth f.rules k).alts → altOk a = true := by
      simp only [gruleOk, Bool.and_eq_true, List.all_eq_true] at hgr
      exact hgr.2
    have hrt : (ruT (nth f.rules k)).length = (nth f.rules k).name.size + 2 + ((altsT (nth f.rules k).alts (nth f.rules k).alts.length).length + 2) := by
      simp [ruT, endT, bl_len]; omega
    have hal : (nth f.rules k).alts.length ≤ 9223372036854775807 := by
      have := hl; simp [AV.lens, lensL, fileA, levelsA, grulesA, lensL_map] at this
      have := this.2.2.2 _ (nth_mem hlt2)
      simp [gruleA, AV.lens, lensL, altsA] at this
      omega
    (repeat' (first | refine WP.seq ?_ | refine WP.block ?_ | refine go_n ?_ | refine WP.skip ?_ | (refine wp_cond (by exact rfl) (fun hc => ?_) (fun hc => ?_) <;> (try simp only [decide_eq_true_eq, decide_eq_false_iff_not, Decidable.not_not, Bool.and_eq_true, Bool.or_eq_true, Bool.not_eq_true', Bool.not_eq_false', Bool.or_eq_false_iff, Bool.and_eq_false_iff, Int.not_lt, Int.not_le, reduceCtorEq, ne_eq, Bool.not_true, Bool.not_false, Bool.not_eq_true, Bool.not_eq_false] at hc) <;> (try (exfalso; omega))) | (refine WP.regionC (id := 17) ?_; (refine su (ap_move (by exact rq_p rfl rfl)) ?_); (refine su (ap_field_p (by exact rq_p rfl rfl) (by exact rfl) (by exact rfl)) ?_); (refine su (ap_load_p (by exact rq_p rfl rfl) (by exact rfl) (by exact rfl) (by exact rfl)) ?_); (refine su (ap_len_m (by exact rfl) (by exact rq_p rfl rfl)) ?_); (refine su (ap_lss (by exact rq_p rfl rfl) (by exact rq_p rfl rfl)) ?_); refine asemC_end ?_) | (refine WP.regionC (id := 19) ?_; (refine su (ap_move (by exact rq_p rfl rfl)) ?_); (refine su (ap_field_p (by exact rq_p rfl rfl) (by exact rfl) (by exact rfl)) ?_); (refine su (ap_load_p (by exact rq_p rfl rfl) (by exact rfl) (by exact rfl) (by exact rfl)) ?_); (refine su (ap_move (by exact rq_p rfl rfl)) ?_); (refine su (ap_idx_n (by exact rq_p rfl rfl) (by exact rq_p rfl rfl) (by omega)) ?_); (refine su (ap_field_i (by exact rq_p rfl rfl) (by exact rfl) (by exact rfl)) ?_); (refine su (ap_load_i (by exact rq_p rfl rfl) (by exact rfl)) ?_); (refine su (ap_cat (by exact rq_p rfl rfl) (by exact rq_p rfl rfl) (by omega)) ?_); (refine su (ap_cat (by exact rq_p rfl rfl) (by exact rq_p rfl rfl) (by (simp only [bsz, List.size_toArray, ByteArray.size_append, List.length_append, List.length_cons, List.length_nil] <;> omega))) ?_); (refine su (ap_assign (by exact rq_p rfl rfl)) ?_); refine asemC_end ?_) | (refine WP.regionC (id := 20) ?_; (refine su (ap_assign (by exact rq_p rfl rfl)) ?_); refine asemC_end ?_)))
    have e4 : tx (fmR f k) ++ (nth f.rules k).name ++ ({ data := #[32, 61] } : ByteArray) = tx (fmR f k ++ (bl (nth f.rules k).name ++ [32, 61]) ++ altsT (nth f.rules k).alts 0) := by
      apply ba_ext; simp [bl_app, bl, tx_data, altsT]
    rw [e4]
    refine wp_loop (fun (i : Nat) => i ≤ (nth f.rules k).alts.length) (fun i => (nth f.rules k).alts.length - i)
      (fun i => (S 106 [(1, .ptr 0 3 0 0), (3, strA (tx (fmR f k ++ (bl (nth f.rules k).name ++ [32, 61]) ++ altsT (nth f.rules k).alts i))), (6, intA (k : Nat)), (7, intA (i : Nat))] 1 [(0, some (.arr 3 [fileA f]))])) 0 ⟨[0], ToR.S rfl (by repeat' (first | exact rt_nil | refine rt_t (by exact rfl) (by exact rfl) ?_ | refine rt_e (by exact rfl) (by exact rfl) ?_)) (by repeat' (first | exact ro_nil | refine ro_p (by exact rfl) (by first | exact rfl | fail) (by first | (simp [bdL, bdL_append, AV.bd]; done) | fail) ?_)) (by exact rfl) (by (rw [hm]; exact rfl)) (by exact rfl) (by (simp [bdT, AV.bd, bdL, bdL_append]; done)) (by repeat' (first | exact True.intro | refine And.intro ?_ ?_ | (simp [bdOq, bdL, bdL_append, AV.bd]; done))) (by (rw [hm]; exact Nat.le_of_ble_eq_true rfl))⟩ (Nat.zero_le _) ?_
    rintro i hi
    have ha1 := altsT_mono (nth f.rules k).alts hi
    have hs4 : (tx (fmR f k ++ (bl (nth f.rules k).name ++ [32, 61]) ++ altsT (nth f.rules k).alts i)).size = (fmR f k).length + (nth f.rules k).name.size + 2 + (altsT (nth f.rules k).alts i).length := by rw [tx_size]; simp [bl_len]; omega
    by_cases hlt3 : i < (nth f.rules k).alts.length
    · have ha2 := altsT_mono (nth f.rules k).alts (k := i + 1) (by omega)
      rw [altsT, List.length_append, List.length_append] at ha2
      have hX := ralt_fn (nth (nth f.rules k).alts i) (hao _ (nth_mem hlt3)) (by omega)
      have hs5 : (tx (altT (nth (nth f.rules k).alts i))).size = (altT (nth (nth f.rules k).alts i)).length := tx_size _
      (repeat' (first | refine WP.seq ?_ | refine WP.block ?_ | refine go_n ?_ | refine WP.skip ?_ | refine bl_n ?_ | (refine wp_cond (by exact rfl) (fun hc => ?_) (fun hc => ?_) <;> (try simp only [decide_eq_true_eq, decide_eq_false_iff_not, Decidable.not_not, Bool.and_eq_true, Bool.or_eq_true, Bool.not_eq_true', Bool.not_eq_false', Bool.or_eq_false_iff, Bool.and_eq_false_iff, Int.not_lt, Int.not_le, reduceCtorEq, ne_eq, Bool.not_true, Bool.not_false, Bool.not_eq_true, Bool.not_eq_false] at hc) <;> (try (exfalso; omega))) | (refine WP.regionC (id := 21) ?_; (refine su (ap_move (by exact rq_p rfl rfl)) ?_); (refine su (ap_field_p (by exact rq_p rfl rfl) (by exact rfl) (by exact rfl)) ?_); (refine su (ap_load_p (by exact rq_p rfl rfl) (by exact rfl) (by exact rfl) (by exact rfl)) ?_); (refine su (ap_move (by exact rq_p rfl rfl)) ?_); (refine su (ap_idx_n (by exact rq_p rfl rfl) (by exact rq_p rfl rfl) (by omega)) ?_); (refine su (ap_field_i (by exact rq_p rfl rfl) (by exact rfl) (by exact rfl)) ?_); (refine su (ap_load_i (by exact rq_p rfl rfl) (by exact rfl)) ?_); (refine su (ap_len_m (by exact rfl) (by exact rq_p rfl rfl)) ?_); (refine su (ap_lss (by exact rq_p rfl rfl) (by exact rq_p rfl rfl)) ?_); refine asemC_end ?_) | (refine WP.regionC (id := 23) ?_; (refine su (ap_move (by exact rq_p rfl rfl)) ?_); (refine su (ap_gtr (by exact rq_p rfl rfl) (by exact rq_p rfl rfl)) ?_); refine asemC_end ?_) | (refine WP.regionC (id := 24) ?_; (refine su (ap_move (by exact rq_p rfl rfl)) ?_); (refine su (ap_cat (by exact rq_p rfl rfl) (by exact rq_p rfl rfl) (by (simp only [bsz, List.size_toArray, ByteArray.size_append, List.length_append, List.length_cons, List.length_nil] <;> omega))) ?_); (refine su (ap_assign (by exact rq_p rfl rfl)) ?_); refine asemC_end ?_) | (refine WP.regionC (id := 25) ?_; (refine su (ap_move (by exact rq_p rfl rfl)) ?_); (refine su (ap_field_p (by exact rq_p rfl rfl) (by exact rfl) (by exact rfl)) ?_); (refine su (ap_load_p (by exact rq_p rfl rfl) (by exact rfl) (by exact rfl) (by exact rfl)) ?_); (refine su (ap_move (by exact rq_p rfl rfl)) ?_); (refine su (ap_idx_n (by exact rq_p rfl rfl) (by exact rq_p rfl rfl) (by omega)) ?_); (refine su (ap_field_i (by exact rq_p rfl rfl) (by exact rfl) (by exact rfl)) ?_); (refine su (ap_load_i (by exact rq_p rfl rfl) (by exact rfl)) ?_); (refine su (ap_move (by exact rq_p rfl rfl)) ?_); (refine su (ap_idx_n (by exact rq_p rfl rfl) (by exact rq_p rfl rfl) (by omega)) ?_); (refine su (ap_load_w (by exact rq_p rfl rfl) (by exact rfl)) ?_); (refine sc_p rfl rfl (by first | ((repeat' first | exact SubL.nil | refine SubL.cons ?_ ?_ | exact Sub.refl); done) | fail) (by first | (simp [bdL, bdL_append, AV.bd]; done) | fail) (hX) ?_); (refine su (ap_cat (by exact rq_p rfl rfl) (by exact rq_p rfl rfl) (by first | omega | (simp only [bsz, List.size_toArray, ByteArray.size_append, List.length_append, List.length_cons, List.length_nil] <;> omega))) ?_); (refine su (ap_assign (by exact rq_p rfl rfl)) ?_); refine asemC_end ?_) | (refine WP.regionC (id := 22) ?_; (refine su (ap_move (by exact rq_p rfl rfl)) ?_); (refine su (ap_add (by exact rq_p rfl rfl) (by exact rq_p rfl rfl) (by exact inr_i64_of (by omega))) ?_); (refine su (ap_assign (by exact rq_p rfl rfl)) ?_); refine asemC_end ?_)))
      · have e6 : tx (fmR f k ++ (bl (nth f.rules k).name ++ [32, 61]) ++ altsT (nth f.rules k).alts (i + 1)) = tx (fmR f k ++ (bl (nth f.rules k).name ++ [32, 61]) ++ altsT (nth f.rules k).alts i) ++ ({ data := #[32, 124] } : ByteArray) ++ tx (altT (nth (nth f.rules k).alts i)) := by
          rw [altsT, if_neg (by omega)]; apply ba_ext; simp [bl_app, bl, tx_data]
        refine ⟨i + 1, ⟨by omega, by omega⟩, ?_⟩
        rw [e6]
        exact ⟨[0], ToR.S rfl (by repeat' (first | exact rt_nil | refine rt_t (by exact rfl) (by exact rfl) ?_ | refine rt_e (by exact rfl) (by exact rfl) ?_)) (by repeat' (first | exact ro_nil | refine ro_p (by exact rfl) (by first | exact rfl | fail) (by first | (simp [bdL, bdL_append, AV.bd]; done) | fail) ?_)) (by exact rfl) (by (rw [hm]; exact rfl)) (by exact rfl) (by (simp [bdT, AV.bd, bdL, bdL_append]; done)) (by repeat' (first | exact True.intro | refine And.intro ?_ ?_ | (simp [bdOq, bdL, bdL_append, AV.bd]; done))) (by (rw [hm]; exact Nat.le_of_ble_eq_true rfl))⟩
      · have e6 : tx (fmR f k ++ (bl (nth f.rules k).name ++ [32, 61]) ++ altsT (nth f.rules k).alts (i + 1)) = tx (fmR f k ++ (bl (nth f.rules k).name ++ [32, 61]) ++ altsT (nth f.rules k).alts i) ++ tx (altT (nth (nth f.rules k).alts i)) := by
          rw [altsT, if_pos (by omega)]; apply ba_ext; simp [bl_app, bl, tx_data]
        refine ⟨i + 1, ⟨by omega, by omega⟩, ?_⟩
        rw [e6]
        exact ⟨[0], ToR.S rfl (by repeat' (first | exact rt_nil | refine rt_t (by exact rfl) (by exact rfl) ?_ | refine rt_e (by exact rfl) (by exact rfl) ?_)) (by repeat' (first | exact ro_nil | refine ro_p (by exact rfl) (by first | exact rfl | fail) (by first | (simp [bdL, bdL_append, AV.bd]; done) | fail) ?_)) (by exact rfl) (by (rw [hm]; exact rfl)) (by exact rfl) (by (simp [bdT, AV.bd, bdL, bdL_append]; done)) (by repeat' (first | exact True.intro | refine And.intro ?_ ?_ | (simp [bdOq, bdL, bdL_append, AV.bd]; done))) (by (rw [hm]; exact Nat.le_of_ble_eq_true rfl))⟩
    obtain rfl : i = (nth f.rules k).alts.length := by omega
    (repeat' (first | refine WP.seq ?_ | refine go_n ?_ | refine WP.exit ?_ | refine go_x ?_ | refine bl_n ?_ | refine bl_x ?_ | (refine wp_cond (by exact rfl) (fun hc => ?_) (fun hc => ?_) <;> (try simp only [decide_eq_true_eq, decide_eq_false_iff_not, Decidable.not_not, Bool.and_eq_true, Bool.or_eq_true, Bool.not_eq_true', Bool.not_eq_false', Bool.or_eq_false_iff, Bool.and_eq_false_iff, Int.not_lt, Int.not_le, reduceCtorEq, ne_eq, Bool.not_true, Bool.not_false, Bool.not_eq_true, Bool.not_eq_false] at hc) <;> (try (exfalso; omega))) | (refine WP.regionC (id := 21) ?_; (refine su (ap_move (by exact rq_p rfl rfl)) ?_); (refine su (ap_field_p (by exact rq_p rfl rfl) (by exact rfl) (by exact rfl)) ?_); (refine su (ap_load_p (by exact rq_p rfl rfl) (by exact rfl) (by exact rfl) (by exact rfl)) ?_); (refine su (ap_move (by exact rq_p rfl rfl)) ?_); (refine su (ap_idx_n (by exact rq_p rfl rfl) (by exact rq_p rfl rfl) (by omega)) ?_); (refine su (ap_field_i (by exact rq_p rfl rfl) (by exact rfl) (by exact rfl)) ?_); (refine su (ap_load_i (by exact rq_p rfl rfl) (by exact rfl)) ?_); (refine su (ap_len_m (by exact rfl) (by exact rq_p rfl rfl)) ?_); (refine su (ap_lss (by exact rq_p rfl rfl) (by exact rq_p rfl rfl)) ?_); refine asemC_end ?_) | (refine WP.regionC (id := 26) ?_; (refine su (ap_move (by exact rq_p rfl rfl)) ?_); (refine su (ap_cat (by exact rq_p rfl rfl) (by exact rq_p rfl rfl) (by (simp only [bsz, List.size_toArray, ByteArray.size_append, List.length_append, List.length_cons, List.length_nil] <;> omega))) ?_); (refine su (ap_assign (by exact rq_p rfl rfl)) ?_); refine asemC_end ?_) | (refine WP.regionC (id := 18) ?_; (refine su (ap_move (by exact rq_p rfl rfl)) ?_); (refine su (ap_add (by exact rq_p rfl rfl) (by exact rq_p rfl rfl) (by exact inr_i64_of (by omega))) ?_); (refine su (ap_assign (by exact rq_p rfl rfl)) ?_); refine asemC_end ?_)))
    have e7 : tx (fmR f (k + 1)) = tx (fmR f k ++ (bl (nth f.rules k).name ++ [32, 61]) ++ altsT (nth f.rules k).alts (nth f.rules k).alts.length) ++ ({ data := #[59, 10] } : ByteArray) := by
      rw [fmR_succ hlt2, ruT]; apply ba_ext; simp [bl_app, bl, tx_data, endT]
    refine ⟨k + 1, ⟨by omega, by omega⟩, ?_⟩
    rw [e7]
    exact ⟨[0], ToR.S rfl (by repeat' (first | exact rt_nil | refine rt_t (by exact rfl) (by exact rfl) ?_ | refine rt_e (by exact rfl) (by exact rfl) ?_)) (by repeat' (first | exact ro_nil | refine ro_p (by exact rfl) (by first | exact rfl | fail) (by first | (simp [bdL, bdL_append, AV.bd]; done) | fail) ?_)) (by exact rfl) (by (rw [hm]; exact rfl)) (by exact rfl) (by (simp [bdT, AV.bd, bdL, bdL_append]; done)) (by repeat' (first | exact True.intro | refine And.intro ?_ ?_ | (simp [bdOq, bdL, bdL_append, AV.bd]; done))) (by (rw [hm]; exact Nat.le_of_ble_eq_true rfl))⟩
  obtain rfl : k = f.rules.length := by omega
  (repeat' (first | refine WP.seq ?_ | refine go_n ?_ | refine WP.exit ?_ | refine WP.ret ?_ | refine go_x ?_ | refine bl_x ?_ | refine bo_r ?_ | (refine wp_cond (by exact rfl) (fun hc => ?_) (fun hc => ?_) <;> (try simp only [decide_eq_true_eq, decide_eq_false_iff_not, Decidable.not_not, Bool.and_eq_true, Bool.or_eq_true, Bool.not_eq_true', Bool.not_eq_false', Bool.or_eq_false_iff, Bool.and_eq_false_iff, Int.not_lt, Int.not_le, reduceCtorEq, ne_eq, Bool.not_true, Bool.not_false, Bool.not_eq_true, Bool.not_eq_false] at hc) <;> (try (exfalso; omega))) | (refine WP.regionC (id := 17) ?_; (refine su (ap_move (by exact rq_p rfl rfl)) ?_); (refine su (ap_field_p (by exact rq_p rfl rfl) (by exact rfl) (by exact rfl)) ?_); (refine su (ap_load_p (by exact rq_p rfl rfl) (by exact rfl) (by exact rfl) (by exact rfl)) ?_); (refine su (ap_len_m (by exact rfl) (by exact rq_p rfl rfl)) ?_); (refine su (ap_lss (by exact rq_p rfl rfl) (by exact rq_p rfl rfl)) ?_); refine asemC_end ?_) | (refine WP.regionC (id := 27) ?_; (refine su (ap_move (by exact rq_p rfl rfl)) ?_); (refine su (ap_assign (by exact rq_p rfl rfl)) ?_); refine asemC_end ?_) | exact ret_eq (by exact rfl) (by exact rfl) rfl))
end Go.Lg

namespace Go.Lg
mutual
def cntE : GEx → Nat
  | .mk _ _ l => 1 + cntL l
def cntL : List GEx → Nat
  | [] => 0
  | e :: l => cntE e + cntL l
end
theorem cntE_eq (e : GEx) : cntE e = 1 + cntL e.kids := by cases e; rw [cntE]; rfl
theorem gnOk_size {s : ByteArray} (h : gnOk s = true) : s.size ≤ 24 := by
  simp only [gnOk, Bool.and_eq_true, decide_eq_true_eq] at h; exact h.1.1.2
theorem tail_len {k : Int} {n : ByteArray} {m : Nat} (h : okK k n m = true) : (tailT k n).length ≤ 24 := by
  unfold tailT
  split
  · rename_i h1
    subst h1
    simp [okK] at h
    rw [bl_len]; exact gnOk_size h.1
  · split
    · simp
    · split
      · simp
      · split <;> simp
theorem encT_le (t : List UInt8) (r : Bool) : (encT t r).length ≤ t.length + 2 := by cases r <;> simp [encT]
theorem sep_le (k : Int) : (sepT k).length ≤ 3 := by unfold sepT; split; · simp
                                                     split <;> simp
theorem kids_len (k : Int) : ∀ (l : List GEx) (m : Bool), (∀ x, x ∈ l → (exT x).length + 16 ≤ 40 * cntE x) → (kidsT k m l).length ≤ 40 * cntL l
  | [], m, _ => by simp [kidsT]
  | e :: l, m, h => by
    have h1 := h e (by simp)
    have h2 := kids_len k l true fun x hx => h x (by simp [hx])
    have h3 := encT_le (exT e) (reqP k e)
    have h4 := sep_le k
    rw [kidsT, cntL, List.length_append, List.length_append]
    have h5 : (if m = true then sepT k else []).length ≤ 3 := by split; · exact h4
                                                                 · simp
    omega
theorem exT_len (e : GEx) : ∀ d : Int, okE e d = true → (exT e).length + 16 ≤ 40 * cntE e := by
  induction e using GEx.ind with
  | h e ih =>
    intro d h
    obtain ⟨h1, h2⟩ := okE_iff h
    have h3 := kids_len e.kind e.kids false fun x hx => ih x hx _ (h2 x hx)
    have h4 := tail_len h1
    rw [exT_eq, List.length_append, cntE_eq]
    omega
theorem nodesG_ge (m : Int) : ∀ (l : List GEx) (n : Int), n ≤ nodesG l m n
  | [], n => by rw [nodesG]; exact Int.le_refl _
  | e :: l, n => by
    rw [nodesG]
    split
    · have h1 := nodesG_ge m l (n + nodesR e (m - n))
      have h2 := nodesR_bd e (m - n) (by omega)
      omega
    · exact Int.le_refl _
theorem nodesG_cnt (m : Int) : ∀ (l : List GEx) (n : Int), (∀ x, x ∈ l → ∀ m' : Int, nodesR x m' ≤ m' → (cntE x : Int) ≤ nodesR x m') → nodesG l m n ≤ m → (cntL l : Int) + n ≤ nodesG l m n
  | [], n, _, _ => by rw [nodesG, cntL]; omega
  | e :: l, n, hc, h => by
    rw [nodesG] at h ⊢
    split
    · rename_i hn
      rw [if_pos hn] at h
      have h1 := nodesG_ge m l (n + nodesR e (m - n))
      have h2 := hc e (by simp) (m - n) (by omega)
      have h3 := nodesG_cnt m l (n + nodesR e (m - n)) (fun x hx => hc x (by simp [hx])) h
      rw [cntL]; omega
    · rename_i hn; rw [if_neg hn] at h; exact absurd h hn
theorem nodesR_cnt (e : GEx) : ∀ m : Int, nodesR e m ≤ m → (cntE e : Int) ≤ nodesR e m := by
  induction e using GEx.ind with
  | h e ih =>
    intro m h
    rw [nodesR_eq] at h ⊢
    have := nodesG_cnt m e.kids 1 ih h
    rw [cntE_eq]; omega
theorem altT_len {a : GAl} (h : altOk a = true) : (altT a).length ≤ 40 * (cntE a.body + 1) := by
  obtain ⟨⟨hp0, hp1⟩, hE⟩ := altOk_iff.1 h
  have h1 := exT_len _ _ hE
  have h2 := itoa_len hp0 hp1
  have h3 := encT_le (exT a.body) (decide (a.body.kind = 3))
  rw [altT, List.length_append]
  have h4 : (bodT a.body).length ≤ (exT a.body).length + 3 := by
    unfold bodT; split
    · simp; omega
    · simp
  have h5 : (prT a.price).length ≤ 28 := by
    unfold prT; split
    · simp
    · simp [wPrice]; omega
  omega
theorem szA_ge (r : GRu) (m n : Int) (k : Nat) : n ≤ szA r m n k := (szA_bd r m n k).1
theorem alts_len {r : GRu} (hr : ∀ a, a ∈ r.alts → altOk a = true) {m n : Int} : ∀ k, k ≤ r.alts.length → szA r m n k ≤ m → ((altsT r.alts k).length : Int) ≤ 50 * (szA r m n k - n)
  | 0, _, _ => by simp [altsT, szA]
  | k + 1, hk, h => by
    rw [szA] at h ⊢
    split
    · rename_i hle
      rw [if_pos hle] at h
      have h1 := alts_len hr (m := m) (n := n) k (by omega) hle
      have h2 := altT_len (hr _ (nth_mem (l := r.alts) (k := k) (by omega)))
      have h3 := nodesR_cnt (nth r.alts k).body (m - szA r m n k) (by omega)
      have h4 := nodesR_bd (nth r.alts k).body (m - szA r m n k) (by omega)
      rw [altsT, List.length_append, List.length_append]
      have h5 : (if k = 0 then ([] : List UInt8) else [32, 124]).length ≤ 2 := by split <;> simp
      omega
    · rename_i hle; rw [if_neg hle] at h; exact absurd h hle
structure FVal (f : GFi) : Prop where
  rule : ∀ r, r ∈ f.rules → gruleOk r = true
  level : ∀ l, l ∈ f.levels → glevelOk l = true
  rn : ∀ x, x ∈ rnames f f.rules.length → gnOk x = true
  rd : (rnames f f.rules.length).Nodup
  tk : ∀ x, x ∈ toks f f.levels.length → gnOk x = true
  td : (toks f f.levels.length).Nodup
  st : gnOk f.start = true
theorem FVal.of {f : GFi} (h : validF f = true) : FVal f := by
  simp only [validF, Bool.and_eq_true, List.all_eq_true, decide_eq_true_eq] at h
  have h1 := distOk_iff.1 h.1.1.2
  have h2 := distOk_iff.1 h.1.2
  refine ⟨h.1.1.1.1.2, h.1.1.1.2, h1.1, h1.2, h2.1, h2.2, ?_⟩
  have h3 := h.2
  rw [List.any_eq_true] at h3
  obtain ⟨x, hx, he⟩ := h3
  rw [decide_eq_true_eq] at he
  rw [he]; exact h1.1 x hx
theorem FVal.alt {f : GFi} (h : FVal f) : ∀ r, r ∈ f.rules → ∀ a, a ∈ r.alts → altOk a = true := by
  intro r hr a ha
  have := h.rule r hr
  simp only [gruleOk, Bool.and_eq_true, List.all_eq_true] at this
  exact this.2 a ha
theorem FVal.name {f : GFi} (h : FVal f) : ∀ r, r ∈ f.rules → r.name.size ≤ 24 := by
  intro r hr
  refine gnOk_size (h.rn _ ?_)
  rw [rnames_all]; exact List.mem_map.2 ⟨r, hr, rfl⟩
theorem FVal.tok {f : GFi} (h : FVal f) : ∀ l, l ∈ f.levels → ∀ t, t ∈ l.tokens → t.size ≤ 24 := by
  intro l hl t ht
  refine gnOk_size (h.tk _ ?_)
  simp only [toks, List.take_of_length_le (Nat.le_refl _), List.mem_flatten, List.mem_map]
  exact ⟨_, ⟨l, hl, rfl⟩, ht⟩
theorem lv_len {f : GFi} (h : FVal f) {l : GLe} (hl : l ∈ f.levels) : (lvT l).length ≤ 50 * (1 + l.tokens.length) := by
  have hne : l.tokens ≠ [] := by
    have := (glevel_iff.1 (h.level l hl)).2
    intro e; rw [e] at this; exact this rfl
  have h1 := spaced_len (l := l.tokens) (c := 24) (h.tok l hl)
  have h2 := word_size l.assoc
  rw [lvT_eq hne, List.length_append, List.length_append, bl_len]
  have h3 : endT.length = 2 := rfl
  omega
theorem levels_len {f : GFi} (h : FVal f) {m : Int} : ∀ j, j ≤ f.levels.length → szL f m j ≤ m → ((fmL f j).length : Int) ≤ 32 + 50 * szL f m j
  | 0, _, _ => by
    have := gnOk_size h.st
    have hz : (fm0 f).length = 8 + f.start.size := by simp [fm0, wStartT, endT, bl_len]; omega
    simp only [fmL, szL, List.take_zero, List.map_nil, List.flatten_nil, List.append_nil, hz]
    omega
  | j + 1, hj, hs => by
    rw [szL] at hs ⊢
    split
    · rename_i hle
      rw [if_pos hle] at hs
      have h1 := levels_len h (m := m) j (by omega) hle
      have h2 := lv_len h (nth_mem (l := f.levels) (k := j) (by omega))
      rw [fmL_succ (by omega), List.length_append]
      omega
    · rename_i hle; rw [if_neg hle] at hs; exact absurd hs hle
theorem rules_len {f : GFi} (h : FVal f) (hT : TokB f) {m : Int} (h0 : 0 ≤ m) : ∀ i, i ≤ f.rules.length → szR f m i ≤ m → ((fmR f i).length : Int) ≤ 32 + 50 * szR f m i
  | 0, _, hs => by
    rw [szR] at hs ⊢
    have := levels_len h f.levels.length (Nat.le_refl _) hs
    simpa [fmR] using this
  | i + 1, hi, hs => by
    rw [szR] at hs ⊢
    split
    · rename_i hle
      rw [if_pos hle] at hs
      have h1 := rules_len h hT h0 i (by omega) hle
      have hm := nth_mem (l := f.rules) (k := i) (by omega)
      have h2 := alts_len (r := nth f.rules i) (h.alt _ hm) (m := m) (n := szR f m i + 1) (nth f.rules i).alts.length (Nat.le_refl _) hs
      have h3 := h.name _ hm
      have hrt : (ruT (nth f.rules i)).length = (nth f.rules i).name.size + 2 + ((altsT (nth f.rules i).alts (nth f.rules i).alts.length).length + 2) := by
        simp [ruT, endT, bl_len]; omega
      rw [fmR_succ (by omega), List.length_append, hrt]
      omega
    · rename_i hle; rw [if_neg hle] at hs; exact absurd hs hle
theorem fmt_len {f : GFi} (hv : validF f = true) (hT : TokB f) (hs : sizeF f 200 ≤ 200) : (fmtF f).length ≤ 20000 := by
  have := rules_len (FVal.of hv) hT (m := 200) (by decide) f.rules.length (Nat.le_refl _) hs
  unfold sizeF at hs
  unfold fmtF
  omega
theorem prices {f : GFi} (hv : validF f = true) : ∀ r, r ∈ f.rules → ∀ a, a ∈ r.alts → 0 ≤ a.price ∧ a.price ≤ 1000 :=
  fun r hr a ha => (altOk_iff.1 ((FVal.of hv).alt r hr a ha)).1
end Go.Lg

namespace Go.Lg
open Go.Proofs
set_option linter.unusedSimpArgs false
set_option linter.unusedVariables false
attribute [local irreducible] Ap Rq asemC WP RunD Ret Gq thenA inBlockA bodyQ noGotoA RqL RqP OpP
set_option maxHeartbeats 8000000
set_option maxRecDepth 20000
theorem law_fformat (f : GFi) (hf : f.fit ∧ TokB f) : Fn Tryd.prog 5 [fileA f] (boolA true) := by
  have hs := small_fn f hf.2 200 (by decide) (by decide)
  by_cases hz : sizeF f 200 ≤ 200
  · have ht := toks_small hf.2 (by decide) hz
    have h2 := rvalid_fn f hf.1 (by omega)
    by_cases hv : validF f = true
    · have hl := fmt_len hv hf.2 hz
      have h3 := format_fn f (prices hv) (by omega)
      have h4 := rformat_fn f hv (by omega)
      refine Fn.intro (by exact rfl) (by kernel_rfl) Tryd.func5 rfl rfl Tryd.ntmps5 (by exact Nat.le_of_ble_eq_true rfl) ?_; intro Γ hm
      (repeat' (first | refine WP.seq ?_ | refine go_n ?_ | refine WP.skip ?_ | refine WP.ret ?_ | refine go_r ?_ | refine bo_r ?_ | (refine wp_cond (by exact rfl) (fun hc => ?_) (fun hc => ?_) <;> (try simp only [decide_eq_true_eq, decide_eq_false_iff_not, Decidable.not_not, Bool.and_eq_true, Bool.or_eq_true, Bool.not_eq_true', Bool.not_eq_false', Bool.or_eq_false_iff, Bool.and_eq_false_iff, Int.not_lt, Int.not_le, reduceCtorEq, ne_eq, Bool.not_true, Bool.not_false, Bool.not_eq_true, Bool.not_eq_false] at hc) <;> (try (exfalso; omega))) | (refine WP.regionC (id := 0) ?_; (refine se_box (by exact rfl) (by exact ⟨rfl, rfl⟩) ?_); (refine su (ap_assign (by exact rq_p rfl rfl)) ?_); refine asemC_end ?_) | (refine WP.regionC (id := 1) ?_; (refine su (ap_load_pw (by exact rq_p rfl rfl) (by exact rfl) (by exact rfl) (by exact rfl)) ?_); (refine sc_p rfl rfl (by first | ((repeat' first | exact SubL.nil | refine SubL.cons ?_ ?_ | exact Sub.refl); done) | fail) (by first | (simp [bdL, bdL_append, AV.bd]; done) | fail) (hs) ?_); (refine su (ap_not (by exact rq_p rfl rfl)) ?_); (refine su (ap_move (by exact rq_p rfl rfl)) ?_); (refine sg (by exact gq_vf rfl rfl) (fun he => ap_load_pw (by exact rq_p rfl rfl) (by exact rfl) (by exact rfl) (by exact rfl)) ?_); (refine sg_p (by exact gq_vf rfl rfl) (fun he => ⟨(by exact rq_p rfl rfl), (RqL.cons (by exact rq_c rfl rfl) (RqL.nil)), (by first | ((repeat' first | exact SubL.nil | refine SubL.cons ?_ ?_ | exact Sub.refl); done) | fail), (by first | (simp [bdL, bdL_append, AV.bd]; done) | fail), h2⟩) ?_); (refine sg (by exact gq_vf rfl rfl) (fun he => ap_not (by exact rq_c rfl rfl)) ?_); (refine su (ap_or (by exact rq_p rfl rfl) (by exact rq_c rfl rfl)) ?_); refine asemC_end ?_) | (refine WP.regionC (id := 2) ?_; (refine sc_p rfl rfl (by first | ((repeat' (exact SubL.nil)); done) | fail) (by first | (simp [bdL, bdL_append, AV.bd]; done) | fail) (awake16_fn) ?_); (refine su (ap_assign (by exact rq_p rfl rfl)) ?_); refine asemC_end ?_) | (refine wp_draw (id := 3) 9 mixed (by kernel_rfl) (by kernel_rfl) rfl ?_ <;> (refine rd_call rfl rfl (by first | ((repeat' (exact SubL.nil)); done) | fail) (by first | (simp [bdL, bdL_append, AV.bd]; done) | fail) (awake16_fn) ?_) <;> (refine rd_u (by exact rfl) (by exact rfl) (ap_move (by exact rq_p rfl rfl)) ?_) <;> (refine rdg_u rfl rfl (by exact rfl) (by exact rfl) (ap_load_pw (by exact rq_p rfl rfl) (by exact rfl) (by exact rfl) (by exact rfl)) ?_) <;> (refine rdg_call rfl (by exact rfl) rfl rfl (by first | ((repeat' first | exact SubL.nil | refine SubL.cons ?_ ?_ | exact Sub.refl); done) | fail) (by first | (simp [bdL, bdL_append, AV.bd]; done) | fail) (h3) ?_) <;> (refine rdg_u rfl rfl (by exact rfl) (by exact rfl) (ap_load_pw (by exact rq_p rfl rfl) (by exact rfl) (by exact rfl) (by exact rfl)) ?_) <;> (refine rdg_call rfl (by exact rfl) rfl rfl (by first | ((repeat' first | exact SubL.nil | refine SubL.cons ?_ ?_ | exact Sub.refl); done) | fail) (by first | (simp [bdL, bdL_append, AV.bd]; done) | fail) (h4) ?_) <;> (refine rdg_u rfl rfl (by exact rfl) (by exact rfl) (ap_eqs (by exact rq_p rfl rfl) (by exact rq_p rfl rfl)) ?_) <;> (refine rd_pick_t (by exact rfl) (by exact rfl) ?_) <;> (refine rd_u (by exact rfl) (by exact rfl) (ap_assign (by exact rq_p rfl rfl)) ?_) <;> (refine rd_end (by kernel_rfl) ?_)) | exact ret_eq (by exact rfl) (by exact rfl) rfl | refine ret_b (by exact rfl) ?_))
      simp
    · refine Fn.intro (by exact rfl) (by kernel_rfl) Tryd.func5 rfl rfl Tryd.ntmps5 (by exact Nat.le_of_ble_eq_true rfl) ?_; intro Γ hm
      (repeat' (first | refine WP.seq ?_ | refine go_n ?_ | refine WP.skip ?_ | refine WP.ret ?_ | refine go_r ?_ | refine bo_r ?_ | (refine wp_cond (by exact rfl) (fun hc => ?_) (fun hc => ?_) <;> (try simp only [decide_eq_true_eq, decide_eq_false_iff_not, Decidable.not_not, Bool.and_eq_true, Bool.or_eq_true, Bool.not_eq_true', Bool.not_eq_false', Bool.or_eq_false_iff, Bool.and_eq_false_iff, Int.not_lt, Int.not_le, reduceCtorEq, ne_eq, Bool.not_true, Bool.not_false, Bool.not_eq_true, Bool.not_eq_false] at hc) <;> (try (exfalso; omega))) | (refine WP.regionC (id := 0) ?_; (refine se_box (by exact rfl) (by exact ⟨rfl, rfl⟩) ?_); (refine su (ap_assign (by exact rq_p rfl rfl)) ?_); refine asemC_end ?_) | (refine WP.regionC (id := 1) ?_; (refine su (ap_load_pw (by exact rq_p rfl rfl) (by exact rfl) (by exact rfl) (by exact rfl)) ?_); (refine sc_p rfl rfl (by first | ((repeat' first | exact SubL.nil | refine SubL.cons ?_ ?_ | exact Sub.refl); done) | fail) (by first | (simp [bdL, bdL_append, AV.bd]; done) | fail) (hs) ?_); (refine su (ap_not (by exact rq_p rfl rfl)) ?_); (refine su (ap_move (by exact rq_p rfl rfl)) ?_); (refine sg (by exact gq_vf rfl rfl) (fun he => ap_load_pw (by exact rq_p rfl rfl) (by exact rfl) (by exact rfl) (by exact rfl)) ?_); (refine sg_p (by exact gq_vf rfl rfl) (fun he => ⟨(by exact rq_p rfl rfl), (RqL.cons (by exact rq_c rfl rfl) (RqL.nil)), (by first | ((repeat' first | exact SubL.nil | refine SubL.cons ?_ ?_ | exact Sub.refl); done) | fail), (by first | (simp [bdL, bdL_append, AV.bd]; done) | fail), h2⟩) ?_); (refine sg (by exact gq_vf rfl rfl) (fun he => ap_not (by exact rq_c rfl rfl)) ?_); (refine su (ap_or (by exact rq_p rfl rfl) (by exact rq_c rfl rfl)) ?_); refine asemC_end ?_) | (refine WP.regionC (id := 2) ?_; (refine sc_p rfl rfl (by first | ((repeat' (exact SubL.nil)); done) | fail) (by first | (simp [bdL, bdL_append, AV.bd]; done) | fail) (awake16_fn) ?_); (refine su (ap_assign (by exact rq_p rfl rfl)) ?_); refine asemC_end ?_) | exact ret_eq (by exact rfl) (by exact rfl) rfl))
      exact absurd hc.2 hv
  · refine Fn.intro (by exact rfl) (by kernel_rfl) Tryd.func5 rfl rfl Tryd.ntmps5 (by exact Nat.le_of_ble_eq_true rfl) ?_; intro Γ hm
    (repeat' (first | refine WP.seq ?_ | refine go_n ?_ | refine WP.ret ?_ | refine go_r ?_ | refine bo_r ?_ | (refine wp_cond (by exact rfl) (fun hc => ?_) (fun hc => ?_) <;> (try simp only [decide_eq_true_eq, decide_eq_false_iff_not, Decidable.not_not, Bool.and_eq_true, Bool.or_eq_true, Bool.not_eq_true', Bool.not_eq_false', Bool.or_eq_false_iff, Bool.and_eq_false_iff, Int.not_lt, Int.not_le, reduceCtorEq, ne_eq, Bool.not_true, Bool.not_false, Bool.not_eq_true, Bool.not_eq_false] at hc) <;> (try (exfalso; omega))) | (refine WP.regionC (id := 0) ?_; (refine se_box (by exact rfl) (by exact ⟨rfl, rfl⟩) ?_); (refine su (ap_assign (by exact rq_p rfl rfl)) ?_); refine asemC_end ?_) | (refine WP.regionC (id := 1) ?_; (refine su (ap_load_pw (by exact rq_p rfl rfl) (by exact rfl) (by exact rfl) (by exact rfl)) ?_); (refine sc_p rfl rfl (by first | ((repeat' first | exact SubL.nil | refine SubL.cons ?_ ?_ | exact Sub.refl); done) | fail) (by first | (simp [bdL, bdL_append, AV.bd]; done) | fail) (hs) ?_); (refine su (ap_not (by exact rq_p rfl rfl)) ?_); (refine su (ap_move (by exact rq_p rfl rfl)) ?_); (refine sg (by exact gq_vf rfl rfl) (fun he => ap_load_pw (by exact rq_p rfl rfl) (by exact rfl) (by exact rfl) (by exact rfl)) ?_); (refine sg_p (by exact gq_vf rfl rfl) (fun he => ⟨(by exact rq_p rfl rfl), (RqL.cons (by exact rq_c rfl rfl) (RqL.nil)), (by first | ((repeat' first | exact SubL.nil | refine SubL.cons ?_ ?_ | exact Sub.refl); done) | fail), (by first | (simp [bdL, bdL_append, AV.bd]; done) | fail), rvalid_fn f hf.1 (by simp at he; have := toks_small hf.2 (by decide) he; omega)⟩) ?_); (refine sg (by exact gq_vf rfl rfl) (fun he => ap_not (by exact rq_c rfl rfl)) ?_); (refine su (ap_or (by exact rq_p rfl rfl) (by exact rq_c rfl rfl)) ?_); refine asemC_end ?_) | (refine WP.regionC (id := 2) ?_; (refine sc_p rfl rfl (by first | ((repeat' (exact SubL.nil)); done) | fail) (by first | (simp [bdL, bdL_append, AV.bd]; done) | fail) (awake16_fn) ?_); (refine su (ap_assign (by exact rq_p rfl rfl)) ?_); refine asemC_end ?_) | exact ret_eq (by exact rfl) (by exact rfl) rfl))
end Go.Lg

namespace Go.Lg
abbrev Tx := List UInt8
def isL (c : UInt8) : Bool := letB (c.toNat : Int)
def isD (c : UInt8) : Bool := digB (c.toNat : Int)
def isW (c : UInt8) : Bool := isL c || isD c || decide (c = 95)
def isB (c : UInt8) : Bool := decide (c = 32) || decide (c = 9) || decide (c = 13) || decide (c = 10)
def tokN : Tx → Nat
  | [] => 0
  | c :: r => if isL c then 1 + (r.takeWhile isW).length else if isD c then 1 + (r.takeWhile isD).length else 1
def comN (l : Tx) : Nat := (l.takeWhile fun c => !decide (c = 10)).length
theorem comN_le (l : Tx) : comN l ≤ l.length := (List.takeWhile_sublist _).length_le
theorem tokN_pos (c : UInt8) (r : Tx) : 1 ≤ tokN (c :: r) := by
  simp only [tokN]
  split
  · omega
  · split <;> omega
theorem tokN_le (l : Tx) : tokN l ≤ l.length := by
  cases l with
  | nil => exact Nat.le_refl _
  | cons c r =>
    have h1 := (List.takeWhile_sublist isW (l := r)).length_le
    have h2 := (List.takeWhile_sublist isD (l := r)).length_le
    unfold tokN; simp only [List.length_cons]; split; · omega
    split <;> omega
def lexL (l : Tx) (at_ : Nat) : List (Nat × Tx) :=
  match l with
  | [] => []
  | c :: r =>
    if isB c then lexL r (at_ + 1)
    else if c = 35 then lexL (r.drop (comN r)) (at_ + 1 + comN r)
    else (at_, (c :: r).take (tokN (c :: r))) :: lexL ((c :: r).drop (tokN (c :: r))) (at_ + tokN (c :: r))
termination_by l.length
decreasing_by
  all_goals simp only [List.length_cons, List.length_drop]
  · omega
  · omega
  · have := tokN_pos c r; omega
def lexT (l : Tx) : List Tx := (lexL l 0).map (·.2)
theorem lexL_nil (k : Nat) : lexL [] k = [] := by rw [lexL]
theorem lexL_cons (c : UInt8) (r : Tx) (k : Nat) : lexL (c :: r) k = if isB c then lexL r (k + 1) else if c = 35 then lexL (r.drop (comN r)) (k + 1 + comN r) else (k, (c :: r).take (tokN (c :: r))) :: lexL ((c :: r).drop (tokN (c :: r))) (k + tokN (c :: r)) := by
  rw [lexL]
def kwT : List Tx := kws.map bl
def nmT (t : Tx) : Bool := (match t with | [] => false | c :: _ => isL c) && !kwT.any fun k => decide (t = k)
theorem bAt_bl (s : ByteArray) (i : Nat) : bAt s i = (((bl s).getD i 0).toNat : Int) := rfl
inductive PR (α : Type) where
  | ok (a : α) (r : List Tx)
  | err (r : List Tx)
def seqOf : List GEx → GEx
  | [x] => x
  | l => .mk 2 ⟨#[]⟩ l
def altOf : List GEx → GEx
  | [x] => x
  | l => .mk 3 ⟨#[]⟩ l
def isN : List Tx → Bool
  | [] => false
  | t :: _ => nmT t
def hd (l : List Tx) : Tx := l.headD []
def sufT : GEx → List Tx → GEx × List Tx
  | x, [] => (x, [])
  | x, t :: r => if t = [42] then sufT (.mk 5 ⟨#[]⟩ [x]) r else if t = [43] then sufT (.mk 6 ⟨#[]⟩ [x]) r else if t = [63] then sufT (.mk 4 ⟨#[]⟩ [x]) r else (x, t :: r)
theorem sufT_len : ∀ (x : GEx) (l : List Tx), (sufT x l).2.length ≤ l.length
  | x, [] => Nat.le_refl _
  | x, t :: r => by
    rw [sufT]
    split
    · have := sufT_len (.mk 5 ⟨#[]⟩ [x]) r; simp; omega
    · split
      · have := sufT_len (.mk 6 ⟨#[]⟩ [x]) r; simp; omega
      · split
        · have := sufT_len (.mk 4 ⟨#[]⟩ [x]) r; simp; omega
        · exact Nat.le_refl _
mutual
def pPrim (l : List Tx) : PR GEx :=
  match l with
  | [] => .err []
  | t :: r =>
    if nmT t then .ok (.mk 1 (tx t) []) r
    else if t = [40] then
      match pAlts r with
      | .err q => .err q
      | .ok es q => match q with
        | [] => .err []
        | t' :: q' => if t' = [41] then .ok (altOf es) q' else .err (t' :: q')
    else .err (t :: r)
termination_by (l.length, 0)
def pItems (l : List Tx) : PR (List GEx) :=
  if isN l || decide (hd l = [40]) then
    match pPrim l with
    | .err r => .err r
    | .ok x r =>
      if h : (sufT x r).2.length < l.length then
        match pItems (sufT x r).2 with
        | .err q => .err q
        | .ok xs q => .ok ((sufT x r).1 :: xs) q
      else .err l
  else .ok [] l
termination_by (l.length, 1)
def pAlts (l : List Tx) : PR (List GEx) :=
  match pItems l with
  | .err q => .err q
  | .ok xs [] => .ok [seqOf xs] []
  | .ok xs (t :: q) =>
    if t = [124] then
      if h : q.length < l.length then
        match pAlts q with
        | .err q' => .err q'
        | .ok es q' => .ok (seqOf xs :: es) q'
      else .err l
    else .ok [seqOf xs] (t :: q)
termination_by (l.length, 2)
end
def pName : List Tx → PR ByteArray
  | [] => .err []
  | t :: r => if nmT t then .ok (tx t) r else .err (t :: r)
def pTake (c : Tx) : List Tx → PR Unit
  | [] => .err []
  | t :: r => if t = c then .ok () r else .err (t :: r)
def pNames : List Tx → List ByteArray × List Tx
  | [] => ([], [])
  | t :: r => if nmT t then (tx t :: (pNames r).1, (pNames r).2) else ([], t :: r)
def assocOf (t : Tx) : Option Int := if t = bl kw1 then some 1 else if t = bl kw2 then some 2 else if t = bl kw3 then some 3 else none
def pLevels (l : List Tx) : PR (List GLe) :=
  match l with
  | [] => .ok [] []
  | t :: r =>
    match assocOf t with
    | none => .ok [] (t :: r)
    | some a => match pName r with
      | .err q => .err q
      | .ok n r1 => match pTake [59] (pNames r1).2 with
        | .err q => .err q
        | .ok _ r3 =>
          if h : r3.length < (t :: r).length then
            match pLevels r3 with
            | .err q => .err q
            | .ok ls q => .ok (⟨a, n :: (pNames r1).1⟩ :: ls) q
          else .err l
termination_by l.length
def numV (t : Tx) : Int := t.foldl (fun n c => min (10 * n + ((c.toNat : Int) - 48)) 1001) 0
def isNum : Tx → Bool
  | [] => false
  | c :: _ => isD c
def pPrice (l : List Tx) : PR Int :=
  match l with
  | [] => .ok 0 []
  | t :: r => if t = bl kw4 then (match r with
    | [] => .err []
    | t2 :: r2 => if isNum t2 then .ok (numV t2) r2 else .err (t2 :: r2)) else .ok 0 (t :: r)
def pAlt (l : List Tx) : PR GAl :=
  match pItems l with
  | .err q => .err q
  | .ok xs r => match pPrice r with
    | .err q => .err q
    | .ok p q => .ok ⟨seqOf xs, p⟩ q
def pAltsR (l : List Tx) : PR (List GAl) :=
  match pAlt l with
  | .err q => .err q
  | .ok a [] => .ok [a] []
  | .ok a (t :: q) =>
    if t = [124] then
      if h : q.length < l.length then
        match pAltsR q with
        | .err q' => .err q'
        | .ok es q' => .ok (a :: es) q'
      else .err l
    else .ok [a] (t :: q)
termination_by l.length
def pRule (l : List Tx) : PR GRu :=
  match pName l with
  | .err q => .err q
  | .ok n r => match pTake [61] r with
    | .err q => .err q
    | .ok _ r1 => match pAltsR r1 with
      | .err q => .err q
      | .ok ys r2 => match pTake [59] r2 with
        | .err q => .err q
        | .ok _ r3 => .ok ⟨n, ys⟩ r3
def pRules (l : List Tx) : PR (List GRu) :=
  match l with
  | [] => .ok [] []
  | t :: r =>
    match pRule (t :: r) with
    | .err q => .err q
    | .ok x q =>
      if h : q.length < (t :: r).length then
        match pRules q with
        | .err q' => .err q'
        | .ok xs q' => .ok (x :: xs) q'
      else .err l
termination_by l.length
def pFile (l : List Tx) : PR GFi :=
  match pTake (bl kw0) l with
  | .err q => .err q
  | .ok _ r => match pName r with
    | .err q => .err q
    | .ok s r1 => match pTake [59] r1 with
      | .err q => .err q
      | .ok _ r2 => match pLevels r2 with
        | .err q => .err q
        | .ok ls r3 => match pRules r3 with
          | .err q => .err q
          | .ok rs q => .ok ⟨s, ls, rs⟩ q
end Go.Lg

namespace Go.Lg
theorem lexL_off (l : Tx) : ∀ a b : Nat, lexL l a = (lexL l b).map (fun p => (p.1 + a - b, p.2)) ∧ ∀ p, p ∈ lexL l b → b ≤ p.1 := by
  induction hn : l.length using Nat.strongRecOn generalizing l with
  | _ n ih =>
    subst hn
    intro a b
    cases l with
    | nil => simp [lexL_nil]
    | cons c r =>
      rw [lexL_cons c r a, lexL_cons c r b]
      split
      · obtain ⟨h1, h2⟩ := ih r.length (by simp) r rfl (a + 1) (b + 1)
        refine ⟨by rw [h1]; exact List.map_congr_left fun p hp => by have := h2 p hp; simp; omega, fun p hp => by have := h2 p hp; omega⟩
      · split
        · obtain ⟨h1, h2⟩ := ih (r.drop (comN r)).length (by simp; omega) _ rfl (a + 1 + comN r) (b + 1 + comN r)
          refine ⟨by rw [h1]; exact List.map_congr_left fun p hp => by have := h2 p hp; simp; omega, fun p hp => by have := h2 p hp; omega⟩
        · have hp := tokN_pos c r
          obtain ⟨h1, h2⟩ := ih ((c :: r).drop (tokN (c :: r))).length (by rw [List.length_drop, List.length_cons]; omega) _ rfl (a + tokN (c :: r)) (b + tokN (c :: r))
          constructor
          · rw [h1, List.map_cons]
            congr 1
            · simp
            · exact List.map_congr_left fun p hp => by have := h2 p hp; simp; omega
          · intro p hp
            rcases List.mem_cons.1 hp with rfl | hp
            · exact Nat.le_refl _
            · have := h2 p hp; omega
theorem lexL_tx (l : Tx) (a : Nat) : (lexL l a).map (·.2) = lexT l := by
  rw [lexT, (lexL_off l a 0).1, List.map_map]; rfl
theorem lexT_nil : lexT [] = [] := by rw [lexT, lexL_nil]; rfl
theorem lexT_cons (c : UInt8) (r : Tx) : lexT (c :: r) = if isB c then lexT r else if c = 35 then lexT (r.drop (comN r)) else (c :: r).take (tokN (c :: r)) :: lexT ((c :: r).drop (tokN (c :: r))) := by
  rw [lexT, lexL_cons]
  split
  · rw [lexL_tx]
  · split
    · rw [lexL_tx]
    · rw [List.map_cons, lexL_tx]
def nW : Tx → Bool
  | [] => true
  | c :: _ => !isW c
theorem tw_all {p : UInt8 → Bool} {a r : Tx} (ha : a.all p = true) (hr : (match r with | [] => true | c :: _ => !p c) = true) : (a ++ r).takeWhile p = a := by
  induction a with
  | nil =>
    cases r with
    | nil => rfl
    | cons c r => simp only [Bool.not_eq_true'] at hr; simp [hr]
  | cons x a ih =>
    simp only [List.all_cons, Bool.and_eq_true] at ha
    rw [List.cons_append, List.takeWhile_cons, if_pos ha.1, ih ha.2]
theorem isD_W {c : UInt8} (h : isD c = true) : isW c = true := by simp [isW, h]
def wordOk : Tx → Bool
  | [] => false
  | c :: r => isL c && r.all isW
def numOk : Tx → Bool
  | [] => false
  | c :: r => isD c && r.all isD
theorem isL_nB {c : UInt8} (h : isL c = true) : isB c = false ∧ c ≠ 35 := by
  constructor
  · cases hb : isB c with
    | false => rfl
    | true =>
      simp only [isB, Bool.or_eq_true, decide_eq_true_eq] at hb
      rcases hb with ((rfl | rfl) | rfl) | rfl <;> exact absurd h (by decide)
  · rintro rfl; exact absurd h (by decide)
theorem isD_nB {c : UInt8} (h : isD c = true) : isB c = false ∧ c ≠ 35 ∧ isL c = false := by
  refine ⟨?_, ?_, ?_⟩
  · cases hb : isB c with
    | false => rfl
    | true =>
      simp only [isB, Bool.or_eq_true, decide_eq_true_eq] at hb
      rcases hb with ((rfl | rfl) | rfl) | rfl <;> exact absurd h (by decide)
  · rintro rfl; exact absurd h (by decide)
  · simp only [isD, digB, isL, letB, Bool.and_eq_true, decide_eq_true_eq] at h ⊢
    simp; omega
theorem lexT_word {t r : Tx} (ht : wordOk t = true) (hr : nW r = true) : lexT (t ++ r) = t :: lexT r := by
  cases t with
  | nil => cases ht
  | cons c t =>
    simp only [wordOk, Bool.and_eq_true] at ht
    obtain ⟨h1, h2⟩ := isL_nB ht.1
    have hn : tokN (c :: (t ++ r)) = t.length + 1 := by
      simp only [tokN, ht.1, if_true]
      rw [tw_all ht.2 hr]; omega
    rw [List.cons_append, lexT_cons, if_neg (by simp [h1]), if_neg h2, hn]
    simp
theorem lexT_num {t r : Tx} (ht : numOk t = true) (hr : nW r = true) : lexT (t ++ r) = t :: lexT r := by
  cases t with
  | nil => cases ht
  | cons c t =>
    simp only [numOk, Bool.and_eq_true] at ht
    obtain ⟨h1, h2, h3⟩ := isD_nB ht.1
    have hn : tokN (c :: (t ++ r)) = t.length + 1 := by
      simp only [tokN, ht.1, h3, if_true, Bool.false_eq_true, if_false]
      rw [tw_all ht.2 (by
        cases r with
        | nil => rfl
        | cons x r => simp only [nW, Bool.not_eq_true', isW, Bool.or_eq_false_iff] at hr; simp [hr.1.2])]; omega
    rw [List.cons_append, lexT_cons, if_neg (by simp [h1]), if_neg h2, hn]
    simp
theorem lexT_blank {c : UInt8} (h : isB c = true) (r : Tx) : lexT (c :: r) = lexT r := by rw [lexT_cons, if_pos h]
def isS (c : UInt8) : Bool := !(isB c) && !(isL c) && !(isD c) && !decide (c = 35)
theorem lexT_sym {c : UInt8} (h : isS c = true) (r : Tx) : lexT (c :: r) = [c] :: lexT r := by
  simp only [isS, Bool.and_eq_true, Bool.not_eq_true', decide_eq_false_iff_not] at h
  rw [lexT_cons, if_neg (by simp [h.1.1.1]), if_neg h.2]
  have : tokN (c :: r) = 1 := by simp [tokN, h.1.1.2, h.1.2]
  rw [this]; rfl
theorem nW_sym {c : UInt8} (h : isS c = true) (h2 : c ≠ 95) (r : Tx) : nW (c :: r) = true := by
  simp only [isS, Bool.and_eq_true, Bool.not_eq_true', decide_eq_false_iff_not] at h
  simp [nW, isW, h.1.1.2, h.1.2, h2]
theorem nW_blank {c : UInt8} (h : isB c = true) (r : Tx) : nW (c :: r) = true := by
  simp only [isB, Bool.or_eq_true, decide_eq_true_eq] at h
  rcases h with ((rfl | rfl) | rfl) | rfl <;> simp only [nW] <;> decide
theorem gn_word {s : ByteArray} (h : gnOk s = true) : wordOk (bl s) = true ∧ nmT (bl s) = true := by
  simp only [gnOk, Bool.and_eq_true, List.all_eq_true, List.mem_range, decide_eq_true_eq, Bool.not_eq_true'] at h
  obtain ⟨⟨⟨h1, _⟩, h2⟩, h3⟩ := h
  have hk : (kwT.any fun k => decide (bl s = k)) = false := by
    rw [kwT, List.any_map]
    rw [← h3]
    congr 1
    funext x
    simp only [Function.comp]
    rw [Bool.eq_iff_iff]
    simp only [decide_eq_true_eq]
    exact ⟨fun e => ba_ext e, fun e => by rw [e]⟩
  rw [← bl_len] at h1 h2
  have h2 : ∀ i, i < (bl s).length → ((isL ((bl s).getD i 0) || (!decide (i = 0) && (isD ((bl s).getD i 0) || decide (((bl s).getD i 0) = 95)))) = true) := by
    intro i hi
    have := h2 i hi
    simp only [gnCh, bAt_bl, Bool.or_eq_true, Bool.and_eq_true, decide_eq_true_eq] at this
    simp only [isL, isD, Bool.or_eq_true, Bool.and_eq_true, decide_eq_true_eq]
    rcases this with h | ⟨h0, h | h⟩
    · exact .inl h
    · exact .inr ⟨h0, .inl h⟩
    · exact .inr ⟨h0, .inr (UInt8.toNat_inj.1 (by have h2 : ((((bl s).getD i 0).toNat : Nat) : Int) = ((95 : UInt8).toNat : Int) := of_decide_eq_true h; omega))⟩
  obtain ⟨l, hl⟩ : ∃ l, bl s = l := ⟨_, rfl⟩
  rw [hl] at h1 h2 hk ⊢
  cases l with
  | nil => simp at h1
  | cons c r =>
    have h0 := h2 0 (by simp)
    simp only [decide_true, Bool.not_true, Bool.false_and, Bool.or_false, List.getD_cons_zero] at h0
    refine ⟨?_, by simp only [nmT, hk]; simpa using h0⟩
    simp only [wordOk, Bool.and_eq_true, List.all_eq_true]
    refine ⟨h0, fun x hx => ?_⟩
    obtain ⟨i, hi⟩ := List.getElem?_of_mem hx
    have := h2 (i + 1) (by simpa using (List.getElem?_eq_some_iff.1 hi).1)
    have hg : (c :: r).getD (i + 1) 0 = x := by simp [List.getD, hi]
    rw [hg] at this
    have hne : ¬ i + 1 = 0 := by omega
    simp only [hne, decide_false, Bool.not_false, Bool.true_and] at this
    simp only [isW, Bool.or_eq_true] at this ⊢
    rcases this with h | h | h
    · exact .inl (.inl h)
    · exact .inl (.inr h)
    · exact .inr h
theorem dec_num (u : Nat) : numOk (Lib.decDigits u) = true := by
  have key : ∀ k, k < 10 → isD (UInt8.ofNat (48 + k)) = true := by decide
  have hall : ∀ u, (Lib.decDigits u).all isD = true ∧ Lib.decDigits u ≠ [] := by
    intro u
    induction u using Nat.strongRecOn with
    | _ u ih =>
      rw [Lib.decDigits]
      split
      · rename_i h; exact ⟨by simp only [List.all_cons, List.all_nil, key u h, Bool.and_true], by simp⟩
      · rename_i h
        obtain ⟨h1, h2⟩ := ih (u / 10) (by omega)
        exact ⟨by simp only [List.all_append, h1, List.all_cons, List.all_nil, key (u % 10) (by omega), Bool.and_true], by simp⟩
  obtain ⟨h1, h2⟩ := hall u
  clear hall
  generalize Lib.decDigits u = l at *
  cases l with
  | nil => exact absurd rfl h2
  | cons c r => simpa [numOk] using h1
end Go.Lg
