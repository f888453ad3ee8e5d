/-
  Part 16 of the proof of GrammarparserWhiteSpace: the logic over the model, the functions' contracts and the plain laws.
-/
import Derived.Test.YtpemjdkcabefnaaKw15

set_option linter.unusedSimpArgs false
set_option linter.unusedVariables false
set_option linter.unusedSectionVars false

namespace Go.Lg
open Go.Proofs
set_option linter.unusedSimpArgs false
set_option linter.unusedVariables false
attribute [local irreducible] Ap Rq asemC WP RunD Ret Gq thenA inBlockA bodyQ noGotoA RqL RqP OpP
set_option maxHeartbeats 8000000
set_option maxRecDepth 20000
attribute [local simp] AV.cells altA
theorem requalE_fn (a : GEx) : ∀ b : GEx, Fn Try.prog 33 [exprA a, exprA b] (boolA (decide (a = b))) := by
  induction a using GEx.ind with
  | h a ih =>
    intro b
    have e1 : decide (a = b) = (decide (a.kind = b.kind) && decide (a.name = b.name) && decide (a.kids = b.kids)) := by
      rw [Bool.eq_iff_iff]; simp only [Bool.and_eq_true, decide_eq_true_eq]; exact gex_iff
    rw [e1, exprA, exprA, kids_exprsA, kids_exprsA]
    refine Fn.intro (by rfl) (by kernel_rfl) Try.func33 rfl rfl Try.ntmps33 (by exact Nat.le_of_ble_eq_true rfl) ?_; intro Γ hm
    refine wp_lens 0 rfl fun hl => ?_
    have hl : a.kids.length ≤ 9223372036854775807 := by have := hl; simp [AV.lens, lensL, exprsA] at this; omega
    (repeat' (first | refine WP.seq ?_ | refine WP.block ?_ | refine go_n ?_ | refine WP.skip ?_ | refine WP.ret ?_ | refine go_r ?_ | refine bo_r ?_ | (refine wp_cond (by rfl) (fun hc => ?_) (fun hc => ?_) <;> (try simp only [sB, ne_eq, reduceCtorEq] at hc) <;> (try (exfalso; omega))) | (refine WP.regionC (id := 0) ?_; (refine se_box (by rfl) (by exact ⟨rfl, rfl⟩) ?_); (refine se_box (by rfl) (by exact ⟨rfl, rfl⟩) ?_); (refine su (ap_assign (rq_p rfl rfl)) ?_); refine asemC_end ?_) | (refine WP.regionC (id := 1) ?_; (refine su (ap_field_p (rq_p rfl rfl) (by rfl) (by rfl)) ?_); (refine su (ap_load_p (rq_p rfl rfl) (by rfl) (by rfl) (by rfl)) ?_); (refine su (ap_field_p (rq_p rfl rfl) (by rfl) (by rfl)) ?_); (refine su (ap_load_p (rq_p rfl rfl) (by rfl) (by rfl) (by rfl)) ?_); (refine su (ap_neq (rq_p rfl rfl) (rq_p rfl rfl)) ?_); (refine su (ap_move (rq_p rfl rfl)) ?_); (refine sg (gq_vf rfl rfl) (fun he => ap_field_p (rq_p rfl rfl) (by rfl) (by rfl)) ?_); (refine sg (gq_vf rfl rfl) (fun he => ap_load_p (rq_c rfl rfl) (by rfl) (by rfl) (by rfl)) ?_); (refine sg (gq_vf rfl rfl) (fun he => ap_field_p (rq_p rfl rfl) (by rfl) (by rfl)) ?_); (refine sg (gq_vf rfl rfl) (fun he => ap_load_p (rq_c rfl rfl) (by rfl) (by rfl) (by rfl)) ?_); (refine sg (gq_vf rfl rfl) (fun he => ap_nes (rq_c rfl rfl) (rq_c rfl rfl)) ?_); (refine su (ap_or (rq_p rfl rfl) (rq_c rfl rfl)) ?_); (refine su (ap_move (rq_p rfl rfl)) ?_); (refine sg (gq_vf rfl rfl) (fun he => ap_field_p (rq_p rfl rfl) (by rfl) (by rfl)) ?_); (refine sg (gq_vf rfl rfl) (fun he => ap_load_p (rq_c rfl rfl) (by rfl) (by rfl) (by rfl)) ?_); (refine sg (gq_vf rfl rfl) (fun he => ap_len_m (by rfl) (rq_c rfl rfl)) ?_); (refine sg (gq_vf rfl rfl) (fun he => ap_field_p (rq_p rfl rfl) (by rfl) (by rfl)) ?_); (refine sg (gq_vf rfl rfl) (fun he => ap_load_p (rq_c rfl rfl) (by rfl) (by rfl) (by rfl)) ?_); (refine sg (gq_vf rfl rfl) (fun he => ap_len_m (by rfl) (rq_c rfl rfl)) ?_); (refine sg (gq_vf rfl rfl) (fun he => ap_neq (rq_c rfl rfl) (rq_c rfl rfl)) ?_); (refine su (ap_or (rq_p rfl rfl) (rq_c rfl rfl)) ?_); refine asemC_end ?_) | (refine WP.regionC (id := 2) ?_; (refine su (ap_assign (rq_p rfl rfl)) ?_); refine asemC_end ?_) | (refine WP.regionC (id := 3) ?_; (refine su (ap_assign (rq_p rfl rfl)) ?_); refine asemC_end ?_) | refine ret_b (by rfl) ?_))
    · rw [← e1, decide_eq_false]
      rintro rfl
      simp at hc
    have hc0 := hc
    refine wp_loop (fun (i : Nat) => i ≤ a.kids.length ∧ a.kids.take i = b.kids.take i) (fun i => a.kids.length - i)
      (fun i => (S 46 [(2, .ptr 0 3 0 0), (3, .ptr 1 3 0 0), (5, intA (i : Nat))] 2 [(0, some (.arr 3 [.agg [intA a.kind, strA a.name, exprsA a.kids]])), (1, some (.arr 3 [.agg [intA b.kind, strA b.name, exprsA b.kids]]))])) 0 ⟨[0, 1], ToR.S rfl (by repeat' (first | exact rt_nil | refine rt_t (by rfl) (by rfl) ?_ | refine rt_e (by rfl) (by rfl) ?_)) (by repeat' (first | exact ro_nil | refine ro_p (by rfl) (by first | exact rfl | fail) (by first | (simp [bdL, bdL_append, AV.bd]; done) | fail) ?_)) (by rfl) (by (rw [hm]; exact rfl)) (by rfl) (by (simp [bdT, AV.bd, bdL, bdL_append]; done)) (by repeat' (first | exact True.intro | refine And.intro ?_ ?_ | (simp [bdOq, bdL, bdL_append, AV.bd]; done))) (by (rw [hm]; exact Nat.le_of_ble_eq_true rfl))⟩ ⟨Nat.zero_le _, rfl⟩ ?_
    rintro i ⟨hi, hall⟩
    have hab : a.kids.length = b.kids.length := by omega
    by_cases hlt : i < a.kids.length
    · have hx := ih _ (nth_mem hlt) (nth b.kids i)
      (repeat' (first | refine WP.seq ?_ | refine WP.block ?_ | refine go_n ?_ | refine WP.skip ?_ | refine WP.ret ?_ | refine go_r ?_ | refine bl_n ?_ | refine bl_r ?_ | refine bo_r ?_ | (refine wp_cond (by rfl) (fun hc => ?_) (fun hc => ?_) <;> (try simp only [sB, ne_eq, reduceCtorEq] at hc) <;> (try (exfalso; omega))) | (refine WP.regionC (id := 4) ?_; (refine su (ap_move (rq_p rfl rfl)) ?_); (refine su (ap_field_p (rq_p rfl rfl) (by rfl) (by rfl)) ?_); (refine su (ap_load_p (rq_p rfl rfl) (by rfl) (by rfl) (by rfl)) ?_); (refine su (ap_len_m (by rfl) (rq_p rfl rfl)) ?_); (refine su (ap_lss (rq_p rfl rfl) (rq_p rfl rfl)) ?_); refine asemC_end ?_) | (refine wp_draw (id := 6) 12 mixed (by kernel_rfl) (by kernel_rfl) rfl ?_ <;> (refine rd_u (by rfl) (by rfl) (ap_field_p (rq_p rfl rfl) (by rfl) (by rfl)) ?_) <;> (refine rd_u (by rfl) (by rfl) (ap_load_p (rq_p rfl rfl) (by rfl) (by rfl) (by rfl)) ?_) <;> (refine rd_u (by rfl) (by rfl) (ap_move (rq_p rfl rfl)) ?_) <;> (refine rd_u (by rfl) (by rfl) (ap_idx_n (rq_p rfl rfl) (rq_p rfl rfl) (by omega)) ?_) <;> (refine rd_u (by rfl) (by rfl) (ap_load_w (rq_p rfl rfl) (by rfl)) ?_) <;> (refine rd_u (by rfl) (by rfl) (ap_field_p (rq_p rfl rfl) (by rfl) (by rfl)) ?_) <;> (refine rd_u (by rfl) (by rfl) (ap_load_p (rq_p rfl rfl) (by rfl) (by rfl) (by rfl)) ?_) <;> (refine rd_u (by rfl) (by rfl) (ap_move (rq_p rfl rfl)) ?_) <;> (refine rd_u (by rfl) (by rfl) (ap_idx_n (rq_p rfl rfl) (rq_p rfl rfl) (by omega)) ?_) <;> (refine rd_u (by rfl) (by rfl) (ap_load_w (rq_p rfl rfl) (by rfl)) ?_) <;> (refine rd_call rfl rfl (by first | ((repeat' first | exact SubL.nil | refine SubL.cons ?_ ?_ | exact Sub.refl); done) | fail) (by first | (simp [bdL, bdL_append, AV.bd]; done) | fail) (hx) ?_) <;> (refine rd_u (by rfl) (by rfl) (ap_not (rq_p rfl rfl)) ?_) <;> (refine rd_end (by kernel_rfl) ?_)) | (refine WP.regionC (id := 7) ?_; (refine su (ap_assign (rq_p rfl rfl)) ?_); refine asemC_end ?_) | (refine WP.regionC (id := 5) ?_; (refine su (ap_move (rq_p rfl rfl)) ?_); (refine su (ap_add (rq_p rfl rfl) (rq_p rfl rfl) (by exact inr_i64_of (by omega))) ?_); (refine su (ap_assign (rq_p rfl rfl)) ?_); refine asemC_end ?_) | refine ret_b (by rfl) ?_))
      · have : a.kids ≠ b.kids := by intro h; rw [h] at hc; exact hc rfl
        simp [this]
      · exact ⟨i + 1, ⟨by omega, by omega, take_eq_succ (by omega) (by omega) hall hc⟩, ⟨[0, 1], ToR.S rfl (by repeat' (first | exact rt_nil | refine rt_t (by rfl) (by rfl) ?_ | refine rt_e (by rfl) (by rfl) ?_)) (by repeat' (first | exact ro_nil | refine ro_p (by rfl) (by first | exact rfl | fail) (by first | (simp [bdL, bdL_append, AV.bd]; done) | fail) ?_)) (by rfl) (by (rw [hm]; exact rfl)) (by rfl) (by (simp [bdT, AV.bd, bdL, bdL_append]; done)) (by repeat' (first | exact True.intro | refine And.intro ?_ ?_ | (simp [bdOq, bdL, bdL_append, AV.bd]; done))) (by (rw [hm]; exact Nat.le_of_ble_eq_true rfl))⟩⟩
    (repeat' (first | refine WP.seq ?_ | refine go_n ?_ | refine WP.exit ?_ | refine WP.ret ?_ | refine go_x ?_ | refine bl_x ?_ | refine bo_r ?_ | (refine wp_cond (by rfl) (fun hc => ?_) (fun hc => ?_) <;> (try simp only [sB, ne_eq, reduceCtorEq] at hc) <;> (try (exfalso; omega))) | (refine WP.regionC (id := 4) ?_; (refine su (ap_move (rq_p rfl rfl)) ?_); (refine su (ap_field_p (rq_p rfl rfl) (by rfl) (by rfl)) ?_); (refine su (ap_load_p (rq_p rfl rfl) (by rfl) (by rfl) (by rfl)) ?_); (refine su (ap_len_m (by rfl) (rq_p rfl rfl)) ?_); (refine su (ap_lss (rq_p rfl rfl) (rq_p rfl rfl)) ?_); refine asemC_end ?_) | (refine WP.regionC (id := 8) ?_; (refine su (ap_assign (rq_p rfl rfl)) ?_); refine asemC_end ?_) | refine ret_b (by rfl) ?_))
    simp [eq_of_takes hab (by omega) hall, hc0.1.1, hc0.1.2]
theorem level_ne {a b : List GLe} {i : Nat} (h : nth a i ≠ nth b i) : a ≠ b := by rintro rfl; exact h rfl
theorem samelev_fn (a b : List GLe) : Fn Try.prog 32 [levelsA a, levelsA b] (boolA (decide (a = b))) := by
  refine Fn.intro (by rfl) (by kernel_rfl) Try.func32 rfl rfl Try.ntmps32 (by exact Nat.le_of_ble_eq_true rfl) ?_; intro Γ hm
  refine wp_lens 0 rfl fun hl => ?_
  have hl0 : a.length ≤ 9223372036854775807 := by simpa [levelsA] using hl.1
  have hll : ∀ x, x ∈ a → x.tokens.length ≤ 9223372036854775807 := by
    have := hl; simp [AV.lens, levelsA, lensL_map, levelA, lensL] at this
    exact this.2
  (repeat' (first | refine WP.seq ?_ | refine WP.block ?_ | refine go_n ?_ | refine WP.skip ?_ | refine WP.ret ?_ | refine go_r ?_ | refine bo_r ?_ | (refine wp_cond (by rfl) (fun hc => ?_) (fun hc => ?_) <;> (try simp only [sB, ne_eq, reduceCtorEq] at hc) <;> (try (exfalso; omega))) | (refine WP.regionC (id := 0) ?_; (refine su (ap_assign (rq_p rfl rfl)) ?_); refine asemC_end ?_) | (refine WP.regionC (id := 1) ?_; (refine su (ap_move (rq_p rfl rfl)) ?_); (refine su (ap_len_m (by rfl) (rq_p rfl rfl)) ?_); (refine su (ap_move (rq_p rfl rfl)) ?_); (refine su (ap_len_m (by rfl) (rq_p rfl rfl)) ?_); (refine su (ap_neq (rq_p rfl rfl) (rq_p rfl rfl)) ?_); refine asemC_end ?_) | (refine WP.regionC (id := 2) ?_; (refine su (ap_assign (rq_p rfl rfl)) ?_); refine asemC_end ?_) | (refine WP.regionC (id := 3) ?_; (refine su (ap_assign (rq_p rfl rfl)) ?_); refine asemC_end ?_) | refine ret_b (by rfl) ?_))
  · rw [decide_eq_false]
    rintro rfl
    exact hc rfl
  refine wp_loop (fun (i : Nat) => i ≤ a.length ∧ a.take i = b.take i) (fun i => a.length - i)
    (fun i => (S 71 [(0, levelsA a), (1, levelsA b), (5, intA (i : Nat))] 0 [])) 0 ⟨[], ToR.S rfl (by repeat' (first | exact rt_nil | refine rt_e (by rfl) (by rfl) ?_ | refine rt_p (by rfl) (by rfl) (by first | (simp [AV.bd, bdL, bdL_append]; done) | fail) ?_)) (by repeat' (exact ro_nil)) (by rfl) (by (rw [hm]; exact rfl)) (by rfl) (by (simp [bdT, AV.bd, bdL, bdL_append]; done)) (by repeat' (exact True.intro)) (by (rw [hm]; exact Nat.le_of_ble_eq_true rfl))⟩ ⟨Nat.zero_le _, rfl⟩ ?_
  rintro i ⟨hi, hall⟩
  have hab : a.length = b.length := by omega
  by_cases hlt : i < a.length
  · have hlb : i < b.length := by omega
    have hti := hll _ (nth_mem hlt)
    (repeat' (first | refine WP.seq ?_ | refine WP.block ?_ | refine go_n ?_ | refine WP.skip ?_ | refine WP.ret ?_ | refine go_r ?_ | refine bl_r ?_ | refine bo_r ?_ | (refine wp_cond (by rfl) (fun hc => ?_) (fun hc => ?_) <;> (try simp only [sB, ne_eq, reduceCtorEq] at hc) <;> (try (exfalso; omega))) | (refine WP.regionC (id := 4) ?_; (refine su (ap_move (rq_p rfl rfl)) ?_); (refine su (ap_move (rq_p rfl rfl)) ?_); (refine su (ap_len_m (by rfl) (rq_p rfl rfl)) ?_); (refine su (ap_lss (rq_p rfl rfl) (rq_p rfl rfl)) ?_); refine asemC_end ?_) | (refine wp_draw (id := 6) 26 mixed (by kernel_rfl) (by kernel_rfl) rfl ?_ <;> (refine rd_u (by rfl) (by rfl) (ap_move (rq_p rfl rfl)) ?_) <;> (refine rd_u (by rfl) (by rfl) (ap_move (rq_p rfl rfl)) ?_) <;> (refine rd_u (by rfl) (by rfl) (ap_idx_n (rq_p rfl rfl) (rq_p rfl rfl) (by omega)) ?_) <;> (refine rd_u (by rfl) (by rfl) (ap_field_i (rq_p rfl rfl) (by rfl) (by rfl)) ?_) <;> (refine rd_u (by rfl) (by rfl) (ap_load_i (rq_p rfl rfl) (by rfl)) ?_) <;> (refine rd_u (by rfl) (by rfl) (ap_move (rq_p rfl rfl)) ?_) <;> (refine rd_u (by rfl) (by rfl) (ap_move (rq_p rfl rfl)) ?_) <;> (refine rd_u (by rfl) (by rfl) (ap_idx_n (rq_p rfl rfl) (rq_p rfl rfl) (by omega)) ?_) <;> (refine rd_u (by rfl) (by rfl) (ap_field_i (rq_p rfl rfl) (by rfl) (by rfl)) ?_) <;> (refine rd_u (by rfl) (by rfl) (ap_load_i (rq_p rfl rfl) (by rfl)) ?_) <;> (refine rd_u (by rfl) (by rfl) (ap_neq (rq_p rfl rfl) (rq_p rfl rfl)) ?_) <;> (refine rd_u (by rfl) (by rfl) (ap_move (rq_p rfl rfl)) ?_) <;> ((refine rd_split (t := 29) (by rfl) (fun hc => ?_) (fun hc => ?_) <;> (try simp only [sB, ne_eq, reduceCtorEq] at hc) <;> (try (exfalso; omega)) <;> (first | refine rd_skip rfl rfl ?_ | refine rdg_u rfl rfl (by rfl) (by rfl) (ap_move (rq_p rfl rfl)) ?_))) <;> (first | refine rd_skip rfl rfl ?_ | refine rdg_u rfl rfl (by rfl) (by rfl) (ap_move (rq_p rfl rfl)) ?_) <;> (first | refine rd_skip rfl rfl ?_ | refine rdg_u rfl rfl (by rfl) (by rfl) (ap_idx_n (rq_p rfl rfl) (rq_p rfl rfl) (by omega)) ?_) <;> (first | refine rd_skip rfl rfl ?_ | refine rdg_u rfl rfl (by rfl) (by rfl) (ap_field_i (rq_p rfl rfl) (by rfl) (by rfl)) ?_) <;> (first | refine rd_skip rfl rfl ?_ | refine rdg_u rfl rfl (by rfl) (by rfl) (ap_load_i (rq_p rfl rfl) (by rfl)) ?_) <;> (first | refine rd_skip rfl rfl ?_ | refine rdg_u rfl rfl (by rfl) (by rfl) (ap_len_m (by rfl) (rq_p rfl rfl)) ?_) <;> (first | refine rd_skip rfl rfl ?_ | refine rdg_u rfl rfl (by rfl) (by rfl) (ap_move (rq_p rfl rfl)) ?_) <;> (first | refine rd_skip rfl rfl ?_ | refine rdg_u rfl rfl (by rfl) (by rfl) (ap_move (rq_p rfl rfl)) ?_) <;> (first | refine rd_skip rfl rfl ?_ | refine rdg_u rfl rfl (by rfl) (by rfl) (ap_idx_n (rq_p rfl rfl) (rq_p rfl rfl) (by omega)) ?_) <;> (first | refine rd_skip rfl rfl ?_ | refine rdg_u rfl rfl (by rfl) (by rfl) (ap_field_i (rq_p rfl rfl) (by rfl) (by rfl)) ?_) <;> (first | refine rd_skip rfl rfl ?_ | refine rdg_u rfl rfl (by rfl) (by rfl) (ap_load_i (rq_p rfl rfl) (by rfl)) ?_) <;> (first | refine rd_skip rfl rfl ?_ | refine rdg_u rfl rfl (by rfl) (by rfl) (ap_len_m (by rfl) (rq_p rfl rfl)) ?_) <;> (first | refine rd_skip rfl rfl ?_ | refine rdg_u rfl rfl (by rfl) (by rfl) (ap_neq (rq_p rfl rfl) (rq_p rfl rfl)) ?_) <;> (first | refine rd_pick_t (by rfl) (by rfl) ?_ | refine rd_pick_f (by rfl) (by rfl) ?_) <;> (refine rd_end (by kernel_rfl) ?_)) | (refine WP.regionC (id := 7) ?_; (refine su (ap_assign (rq_p rfl rfl)) ?_); refine asemC_end ?_) | (refine WP.regionC (id := 8) ?_; (refine su (ap_assign (rq_p rfl rfl)) ?_); refine asemC_end ?_) | refine ret_b (by rfl) ?_))
    · rename_i hA
      rw [decide_eq_false (level_ne fun h => hA (by rw [h]))]
    · rw [decide_eq_false (level_ne fun h => hc (by rw [h]))]
    rename_i hA
    have hc1 := hc
    refine wp_loop (fun (k : Nat) => k ≤ (nth a i).tokens.length ∧ (nth a i).tokens.take k = (nth b i).tokens.take k) (fun k => (nth a i).tokens.length - k)
      (fun k => (S 71 [(0, levelsA a), (1, levelsA b), (5, intA (i : Nat)), (6, intA (k : Nat))] 0 [])) 0 ⟨[], ToR.S rfl (by repeat' (first | exact rt_nil | refine rt_e (by rfl) (by rfl) ?_ | refine rt_p (by rfl) (by rfl) (by first | (simp [AV.bd, bdL, bdL_append]; done) | fail) ?_)) (by repeat' (exact ro_nil)) (by rfl) (by (rw [hm]; exact rfl)) (by rfl) (by (simp [bdT, AV.bd, bdL, bdL_append]; done)) (by repeat' (exact True.intro)) (by (rw [hm]; exact Nat.le_of_ble_eq_true rfl))⟩ ⟨Nat.zero_le _, rfl⟩ ?_
    rintro k ⟨hk, hkall⟩
    have htl : (nth a i).tokens.length = (nth b i).tokens.length := by omega
    by_cases hkl : k < (nth a i).tokens.length
    · (repeat' (first | refine WP.seq ?_ | refine WP.block ?_ | refine go_n ?_ | refine WP.skip ?_ | refine WP.ret ?_ | refine go_r ?_ | refine bl_n ?_ | refine bl_r ?_ | refine bo_r ?_ | (refine wp_cond (by rfl) (fun hc => ?_) (fun hc => ?_) <;> (try simp only [sB, ne_eq, reduceCtorEq] at hc) <;> (try (exfalso; omega))) | (refine WP.regionC (id := 9) ?_; (refine su (ap_move (rq_p rfl rfl)) ?_); (refine su (ap_move (rq_p rfl rfl)) ?_); (refine su (ap_move (rq_p rfl rfl)) ?_); (refine su (ap_idx_n (rq_p rfl rfl) (rq_p rfl rfl) (by omega)) ?_); (refine su (ap_field_i (rq_p rfl rfl) (by rfl) (by rfl)) ?_); (refine su (ap_load_i (rq_p rfl rfl) (by rfl)) ?_); (refine su (ap_len_m (by rfl) (rq_p rfl rfl)) ?_); (refine su (ap_lss (rq_p rfl rfl) (rq_p rfl rfl)) ?_); refine asemC_end ?_) | (refine wp_draw (id := 11) 17 mixed (by kernel_rfl) (by kernel_rfl) rfl ?_ <;> (refine rd_u (by rfl) (by rfl) (ap_move (rq_p rfl rfl)) ?_) <;> (refine rd_u (by rfl) (by rfl) (ap_move (rq_p rfl rfl)) ?_) <;> (refine rd_u (by rfl) (by rfl) (ap_idx_n (rq_p rfl rfl) (rq_p rfl rfl) (by omega)) ?_) <;> (refine rd_u (by rfl) (by rfl) (ap_field_i (rq_p rfl rfl) (by rfl) (by rfl)) ?_) <;> (refine rd_u (by rfl) (by rfl) (ap_load_i (rq_p rfl rfl) (by rfl)) ?_) <;> (refine rd_u (by rfl) (by rfl) (ap_move (rq_p rfl rfl)) ?_) <;> (refine rd_u (by rfl) (by rfl) (ap_idx_n (rq_p rfl rfl) (rq_p rfl rfl) (by omega)) ?_) <;> (refine rd_u (by rfl) (by rfl) (ap_load_w (rq_p rfl rfl) (by rfl)) ?_) <;> (refine rd_u (by rfl) (by rfl) (ap_move (rq_p rfl rfl)) ?_) <;> (refine rd_u (by rfl) (by rfl) (ap_move (rq_p rfl rfl)) ?_) <;> (refine rd_u (by rfl) (by rfl) (ap_idx_n (rq_p rfl rfl) (rq_p rfl rfl) (by omega)) ?_) <;> (refine rd_u (by rfl) (by rfl) (ap_field_i (rq_p rfl rfl) (by rfl) (by rfl)) ?_) <;> (refine rd_u (by rfl) (by rfl) (ap_load_i (rq_p rfl rfl) (by rfl)) ?_) <;> (refine rd_u (by rfl) (by rfl) (ap_move (rq_p rfl rfl)) ?_) <;> (refine rd_u (by rfl) (by rfl) (ap_idx_n (rq_p rfl rfl) (rq_p rfl rfl) (by omega)) ?_) <;> (refine rd_u (by rfl) (by rfl) (ap_load_w (rq_p rfl rfl) (by rfl)) ?_) <;> (refine rd_u (by rfl) (by rfl) (ap_nes (rq_p rfl rfl) (rq_p rfl rfl)) ?_) <;> (refine rd_end (by kernel_rfl) ?_)) | (refine WP.regionC (id := 12) ?_; (refine su (ap_assign (rq_p rfl rfl)) ?_); refine asemC_end ?_) | (refine WP.regionC (id := 10) ?_; (refine su (ap_move (rq_p rfl rfl)) ?_); (refine su (ap_add (rq_p rfl rfl) (rq_p rfl rfl) (by exact inr_i64_of (by omega))) ?_); (refine su (ap_assign (rq_p rfl rfl)) ?_); refine asemC_end ?_) | refine ret_b (by rfl) ?_))
      · have hne : nth a i ≠ nth b i := by
          intro h; rw [h] at hc; exact hc rfl
        rw [decide_eq_false (level_ne hne)]
      · exact ⟨k + 1, ⟨by omega, by omega, take_eq_succ (by omega) (by omega) hkall hc⟩, ⟨[], ToR.S rfl (by repeat' (first | exact rt_nil | refine rt_e (by rfl) (by rfl) ?_ | refine rt_p (by rfl) (by rfl) (by first | (simp [AV.bd, bdL, bdL_append]; done) | fail) ?_)) (by repeat' (exact ro_nil)) (by rfl) (by (rw [hm]; exact rfl)) (by rfl) (by (simp [bdT, AV.bd, bdL, bdL_append]; done)) (by repeat' (exact True.intro)) (by (rw [hm]; exact Nat.le_of_ble_eq_true rfl))⟩⟩
    (repeat' (first | refine WP.seq ?_ | refine go_n ?_ | refine WP.exit ?_ | refine go_x ?_ | refine bl_n ?_ | refine bl_x ?_ | (refine wp_cond (by rfl) (fun hc => ?_) (fun hc => ?_) <;> (try simp only [sB, ne_eq, reduceCtorEq] at hc) <;> (try (exfalso; omega))) | (refine WP.regionC (id := 9) ?_; (refine su (ap_move (rq_p rfl rfl)) ?_); (refine su (ap_move (rq_p rfl rfl)) ?_); (refine su (ap_move (rq_p rfl rfl)) ?_); (refine su (ap_idx_n (rq_p rfl rfl) (rq_p rfl rfl) (by omega)) ?_); (refine su (ap_field_i (rq_p rfl rfl) (by rfl) (by rfl)) ?_); (refine su (ap_load_i (rq_p rfl rfl) (by rfl)) ?_); (refine su (ap_len_m (by rfl) (rq_p rfl rfl)) ?_); (refine su (ap_lss (rq_p rfl rfl) (rq_p rfl rfl)) ?_); refine asemC_end ?_) | (refine WP.regionC (id := 5) ?_; (refine su (ap_move (rq_p rfl rfl)) ?_); (refine su (ap_add (rq_p rfl rfl) (rq_p rfl rfl) (by exact inr_i64_of (by omega))) ?_); (refine su (ap_assign (rq_p rfl rfl)) ?_); refine asemC_end ?_)))
    exact ⟨i + 1, ⟨by omega, by omega, take_eq_succ (by omega) (by omega) hall (gle_iff.2 ⟨hA, eq_of_takes htl (by omega) hkall⟩)⟩, ⟨[], ToR.S rfl (by repeat' (first | exact rt_nil | refine rt_e (by rfl) (by rfl) ?_ | refine rt_p (by rfl) (by rfl) (by first | (simp [AV.bd, bdL, bdL_append]; done) | fail) ?_)) (by repeat' (exact ro_nil)) (by rfl) (by (rw [hm]; exact rfl)) (by rfl) (by (simp [bdT, AV.bd, bdL, bdL_append]; done)) (by repeat' (exact True.intro)) (by (rw [hm]; exact Nat.le_of_ble_eq_true rfl))⟩⟩
  (repeat' (first | refine WP.seq ?_ | refine go_n ?_ | refine WP.exit ?_ | refine WP.ret ?_ | refine go_x ?_ | refine bl_x ?_ | refine bo_r ?_ | (refine wp_cond (by rfl) (fun hc => ?_) (fun hc => ?_) <;> (try simp only [sB, ne_eq, reduceCtorEq] at hc) <;> (try (exfalso; omega))) | (refine WP.regionC (id := 4) ?_; (refine su (ap_move (rq_p rfl rfl)) ?_); (refine su (ap_move (rq_p rfl rfl)) ?_); (refine su (ap_len_m (by rfl) (rq_p rfl rfl)) ?_); (refine su (ap_lss (rq_p rfl rfl) (rq_p rfl rfl)) ?_); refine asemC_end ?_) | (refine WP.regionC (id := 13) ?_; (refine su (ap_assign (rq_p rfl rfl)) ?_); refine asemC_end ?_) | refine ret_b (by rfl) ?_))
  simp [eq_of_takes hab (by omega) hall]
theorem requal_fn (x y : GFi) : Fn Try.prog 11 [fileA x, fileA y] (boolA (decide (x = y))) := by
  have e1 : decide (x = y) = (decide (x.start = y.start) && decide (x.levels = y.levels) && decide (x.rules = y.rules)) := by
    rw [Bool.eq_iff_iff]; simp only [Bool.and_eq_true, decide_eq_true_eq]; exact gfi_iff
  rw [e1]
  refine Fn.intro (by rfl) (by kernel_rfl) Try.func11 rfl rfl Try.ntmps11 (by exact Nat.le_of_ble_eq_true rfl) ?_; intro Γ hm
  refine wp_lens 0 rfl fun hl => ?_
  have hl0 : x.rules.length ≤ 9223372036854775807 := by have := hl; simp [AV.lens, lensL, fileA, levelsA, grulesA] at this; omega
  have hll : ∀ r, r ∈ x.rules → r.alts.length ≤ 9223372036854775807 := by
    have := hl; simp [AV.lens, lensL, fileA, levelsA, grulesA, lensL_map] at this
    intro r hr
    have := this.2.2.2 _ hr
    simp [gruleA, AV.lens, lensL, altsA] at this
    omega
  (repeat' (first | refine WP.seq ?_ | refine WP.block ?_ | refine go_n ?_ | refine WP.skip ?_ | refine WP.ret ?_ | refine go_r ?_ | refine bo_r ?_ | (refine wp_cond (by rfl) (fun hc => ?_) (fun hc => ?_) <;> (try simp only [sB, ne_eq, reduceCtorEq] at hc) <;> (try (exfalso; omega))) | (refine WP.regionC (id := 0) ?_; (refine se_box (by rfl) (by exact ⟨rfl, rfl⟩) ?_); (refine se_box (by rfl) (by exact ⟨rfl, rfl⟩) ?_); (refine su (ap_assign (rq_p rfl rfl)) ?_); refine asemC_end ?_) | (refine WP.regionC (id := 1) ?_; (refine su (ap_field_p (rq_p rfl rfl) (by rfl) (by rfl)) ?_); (refine su (ap_load_p (rq_p rfl rfl) (by rfl) (by rfl) (by rfl)) ?_); (refine su (ap_field_p (rq_p rfl rfl) (by rfl) (by rfl)) ?_); (refine su (ap_load_p (rq_p rfl rfl) (by rfl) (by rfl) (by rfl)) ?_); (refine su (ap_nes (rq_p rfl rfl) (rq_p rfl rfl)) ?_); (refine su (ap_move (rq_p rfl rfl)) ?_); (refine sg (gq_vf rfl rfl) (fun he => ap_field_p (rq_p rfl rfl) (by rfl) (by rfl)) ?_); (refine sg (gq_vf rfl rfl) (fun he => ap_load_p (rq_c rfl rfl) (by rfl) (by rfl) (by rfl)) ?_); (refine sg (gq_vf rfl rfl) (fun he => ap_field_p (rq_p rfl rfl) (by rfl) (by rfl)) ?_); (refine sg (gq_vf rfl rfl) (fun he => ap_load_p (rq_c rfl rfl) (by rfl) (by rfl) (by rfl)) ?_); (refine sg_p (gq_vf rfl rfl) (fun he => ⟨(rq_p rfl rfl), (RqL.cons (rq_c rfl rfl) (RqL.cons (rq_c rfl rfl) (RqL.nil))), (by first | ((repeat' first | exact SubL.nil | refine SubL.cons ?_ ?_ | exact Sub.refl); done) | fail), (by first | (simp [bdL, bdL_append, AV.bd]; done) | fail), samelev_fn x.levels y.levels⟩) ?_); (refine sg (gq_vf rfl rfl) (fun he => ap_not (rq_c rfl rfl)) ?_); (refine su (ap_or (rq_p rfl rfl) (rq_c rfl rfl)) ?_); (refine su (ap_move (rq_p rfl rfl)) ?_); (refine sg (gq_vf rfl rfl) (fun he => ap_field_p (rq_p rfl rfl) (by rfl) (by rfl)) ?_); (refine sg (gq_vf rfl rfl) (fun he => ap_load_p (rq_c rfl rfl) (by rfl) (by rfl) (by rfl)) ?_); (refine sg (gq_vf rfl rfl) (fun he => ap_len_m (by rfl) (rq_c rfl rfl)) ?_); (refine sg (gq_vf rfl rfl) (fun he => ap_field_p (rq_p rfl rfl) (by rfl) (by rfl)) ?_); (refine sg (gq_vf rfl rfl) (fun he => ap_load_p (rq_c rfl rfl) (by rfl) (by rfl) (by rfl)) ?_); (refine sg (gq_vf rfl rfl) (fun he => ap_len_m (by rfl) (rq_c rfl rfl)) ?_); (refine sg (gq_vf rfl rfl) (fun he => ap_neq (rq_c rfl rfl) (rq_c rfl rfl)) ?_); (refine su (ap_or (rq_p rfl rfl) (rq_c rfl rfl)) ?_); refine asemC_end ?_) | (refine WP.regionC (id := 2) ?_; (refine su (ap_assign (rq_p rfl rfl)) ?_); refine asemC_end ?_) | (refine WP.regionC (id := 3) ?_; (refine su (ap_assign (rq_p rfl rfl)) ?_); refine asemC_end ?_) | refine ret_b (by rfl) ?_))
  · rw [← e1, decide_eq_false]
    rintro rfl
    simp at hc
  have hc0 := hc
  refine wp_loop (fun (i : Nat) => i ≤ x.rules.length ∧ x.rules.take i = y.rules.take i) (fun i => x.rules.length - i)
    (fun i => (S 98 [(2, .ptr 0 3 0 0), (3, .ptr 1 3 0 0), (5, intA (i : Nat))] 2 [(0, some (.arr 3 [fileA x])), (1, some (.arr 3 [fileA y]))])) 0 ⟨[0, 1], ToR.S rfl (by repeat' (first | exact rt_nil | refine rt_t (by rfl) (by rfl) ?_ | refine rt_e (by rfl) (by rfl) ?_)) (by repeat' (first | exact ro_nil | refine ro_p (by rfl) (by first | exact rfl | fail) (by first | (simp [bdL, bdL_append, AV.bd]; done) | fail) ?_)) (by rfl) (by (rw [hm]; exact rfl)) (by rfl) (by (simp [bdT, AV.bd, bdL, bdL_append]; done)) (by repeat' (first | exact True.intro | refine And.intro ?_ ?_ | (simp [bdOq, bdL, bdL_append, AV.bd]; done))) (by (rw [hm]; exact Nat.le_of_ble_eq_true rfl))⟩ ⟨Nat.zero_le _, rfl⟩ ?_
  rintro i ⟨hi, hall⟩
  have hab : x.rules.length = y.rules.length := by omega
  by_cases hlt : i < x.rules.length
  · have hlb : i < y.rules.length := by omega
    have hti := hll _ (nth_mem hlt)
    have hno : nth x.rules i ≠ nth y.rules i → (decide (x.start = y.start) && decide (x.levels = y.levels) && decide (x.rules = y.rules)) = false := by
      intro h
      have : x.rules ≠ y.rules := by intro h2; rw [h2] at h; exact h rfl
      simp [this]
    (repeat' (first | refine WP.seq ?_ | refine WP.block ?_ | refine go_n ?_ | refine WP.skip ?_ | refine WP.ret ?_ | refine go_r ?_ | refine bl_r ?_ | refine bo_r ?_ | (refine wp_cond (by rfl) (fun hc => ?_) (fun hc => ?_) <;> (try simp only [sB, ne_eq, reduceCtorEq] at hc) <;> (try (exfalso; omega))) | (refine WP.regionC (id := 4) ?_; (refine su (ap_move (rq_p rfl rfl)) ?_); (refine su (ap_field_p (rq_p rfl rfl) (by rfl) (by rfl)) ?_); (refine su (ap_load_p (rq_p rfl rfl) (by rfl) (by rfl) (by rfl)) ?_); (refine su (ap_len_m (by rfl) (rq_p rfl rfl)) ?_); (refine su (ap_lss (rq_p rfl rfl) (rq_p rfl rfl)) ?_); refine asemC_end ?_) | (refine wp_draw (id := 6) 14 mixed (by kernel_rfl) (by kernel_rfl) rfl ?_ <;> (refine rd_u (by rfl) (by rfl) (ap_field_p (rq_p rfl rfl) (by rfl) (by rfl)) ?_) <;> (refine rd_u (by rfl) (by rfl) (ap_load_p (rq_p rfl rfl) (by rfl) (by rfl) (by rfl)) ?_) <;> (refine rd_u (by rfl) (by rfl) (ap_move (rq_p rfl rfl)) ?_) <;> (refine rd_u (by rfl) (by rfl) (ap_idx_n (rq_p rfl rfl) (rq_p rfl rfl) (by omega)) ?_) <;> (refine rd_u (by rfl) (by rfl) (ap_load_w (rq_p rfl rfl) (by rfl)) ?_) <;> (refine rd_u (by rfl) (by rfl) (ap_field_p (rq_p rfl rfl) (by rfl) (by rfl)) ?_) <;> (refine rd_u (by rfl) (by rfl) (ap_load_p (rq_p rfl rfl) (by rfl) (by rfl) (by rfl)) ?_) <;> (refine rd_u (by rfl) (by rfl) (ap_move (rq_p rfl rfl)) ?_) <;> (refine rd_u (by rfl) (by rfl) (ap_idx_n (rq_p rfl rfl) (rq_p rfl rfl) (by omega)) ?_) <;> (refine rd_u (by rfl) (by rfl) (ap_load_w (rq_p rfl rfl) (by rfl)) ?_) <;> (refine rd_alloc (by rfl) ?_) <;> (refine rd_alloc (by rfl) ?_) <;> (refine rd_store_b (by rfl) (by rfl) (by rfl) (by rfl) ?_) <;> (refine rd_store_b (by rfl) (by rfl) (by rfl) (by rfl) ?_) <;> (refine rd_end (by kernel_rfl) ?_)) | (refine WP.regionC (id := 7) ?_; (refine su (ap_field_p (rq_p rfl rfl) (by rfl) (by rfl)) ?_); (refine su (ap_load_p (rq_p rfl rfl) (by rfl) (by rfl) (by rfl)) ?_); (refine su (ap_field_p (rq_p rfl rfl) (by rfl) (by rfl)) ?_); (refine su (ap_load_p (rq_p rfl rfl) (by rfl) (by rfl) (by rfl)) ?_); (refine su (ap_nes (rq_p rfl rfl) (rq_p rfl rfl)) ?_); (refine su (ap_move (rq_p rfl rfl)) ?_); (refine sg (gq_vf rfl rfl) (fun he => ap_field_p (rq_p rfl rfl) (by rfl) (by rfl)) ?_); (refine sg (gq_vf rfl rfl) (fun he => ap_load_p (rq_c rfl rfl) (by rfl) (by rfl) (by rfl)) ?_); (refine sg (gq_vf rfl rfl) (fun he => ap_len_m (by rfl) (rq_c rfl rfl)) ?_); (refine sg (gq_vf rfl rfl) (fun he => ap_field_p (rq_p rfl rfl) (by rfl) (by rfl)) ?_); (refine sg (gq_vf rfl rfl) (fun he => ap_load_p (rq_c rfl rfl) (by rfl) (by rfl) (by rfl)) ?_); (refine sg (gq_vf rfl rfl) (fun he => ap_len_m (by rfl) (rq_c rfl rfl)) ?_); (refine sg (gq_vf rfl rfl) (fun he => ap_neq (rq_c rfl rfl) (rq_c rfl rfl)) ?_); (refine su (ap_or (rq_p rfl rfl) (rq_c rfl rfl)) ?_); refine asemC_end ?_) | (refine WP.regionC (id := 8) ?_; (refine su (ap_assign (rq_p rfl rfl)) ?_); refine asemC_end ?_) | (refine WP.regionC (id := 9) ?_; (refine su (ap_assign (rq_p rfl rfl)) ?_); refine asemC_end ?_) | refine ret_b (by rfl) ?_))
    · rw [hno fun h => by rcases hc with hc | hc <;> exact hc (by rw [h])]
    have hc1 := hc
    refine wp_loop (fun (k : Nat) => k ≤ (nth x.rules i).alts.length ∧ (nth x.rules i).alts.take k = (nth y.rules i).alts.take k) (fun k => (nth x.rules i).alts.length - k)
      (fun k => (S 98 [(2, .ptr 0 3 0 0), (3, .ptr 1 3 0 0), (5, intA (i : Nat)), (6, .ptr 2 2 0 0), (7, .ptr 3 2 0 0), (8, intA (k : Nat))] 4 [(0, some (.arr 3 [fileA x])), (1, some (.arr 3 [fileA y])), (2, some (.arr 2 [gruleA (nth x.rules i)])), (3, some (.arr 2 [gruleA (nth y.rules i)]))])) 0 ⟨[0, 1, 12, 13], ToR.S rfl (by repeat' (first | exact rt_nil | refine rt_t (by rfl) (by rfl) ?_ | refine rt_e (by rfl) (by rfl) ?_)) (by repeat' (first | exact ro_nil | refine ro_p (by rfl) (by first | exact rfl | fail) (by first | (simp [bdL, bdL_append, AV.bd]; done) | fail) ?_)) (by rfl) (by (rw [hm]; exact rfl)) (by rfl) (by (simp [bdT, AV.bd, bdL, bdL_append]; done)) (by repeat' (first | exact True.intro | refine And.intro ?_ ?_ | (simp [bdOq, bdL, bdL_append, AV.bd]; done))) (by (rw [hm]; exact Nat.le_of_ble_eq_true rfl))⟩ ⟨Nat.zero_le _, rfl⟩ ?_
    rintro k ⟨hk, hkall⟩
    have htl : (nth x.rules i).alts.length = (nth y.rules i).alts.length := by omega
    by_cases hkl : k < (nth x.rules i).alts.length
    · have hE := requalE_fn (nth (nth x.rules i).alts k).body (nth (nth y.rules i).alts k).body
      have hno2 : nth (nth x.rules i).alts k ≠ nth (nth y.rules i).alts k → (decide (x.start = y.start) && decide (x.levels = y.levels) && decide (x.rules = y.rules)) = false := fun h => hno fun h2 => h (by rw [h2])
      (repeat' (first | refine WP.seq ?_ | refine WP.block ?_ | refine go_n ?_ | refine WP.skip ?_ | refine WP.ret ?_ | refine go_r ?_ | refine bl_n ?_ | refine bl_r ?_ | refine bo_r ?_ | (refine wp_cond (by rfl) (fun hc => ?_) (fun hc => ?_) <;> (try simp only [sB, ne_eq, reduceCtorEq] at hc) <;> (try (exfalso; omega))) | (refine WP.regionC (id := 10) ?_; (refine su (ap_move (rq_p rfl rfl)) ?_); (refine su (ap_field_p (rq_p rfl rfl) (by rfl) (by rfl)) ?_); (refine su (ap_load_p (rq_p rfl rfl) (by rfl) (by rfl) (by rfl)) ?_); (refine su (ap_len_m (by rfl) (rq_p rfl rfl)) ?_); (refine su (ap_lss (rq_p rfl rfl) (rq_p rfl rfl)) ?_); refine asemC_end ?_) | (refine wp_draw (id := 12) 29 mixed (by kernel_rfl) (by kernel_rfl) rfl ?_ <;> (refine rd_u (by rfl) (by rfl) (ap_field_p (rq_p rfl rfl) (by rfl) (by rfl)) ?_) <;> (refine rd_u (by rfl) (by rfl) (ap_load_p (rq_p rfl rfl) (by rfl) (by rfl) (by rfl)) ?_) <;> (refine rd_u (by rfl) (by rfl) (ap_move (rq_p rfl rfl)) ?_) <;> (refine rd_u (by rfl) (by rfl) (ap_idx_n (rq_p rfl rfl) (rq_p rfl rfl) (by omega)) ?_) <;> (refine rd_u (by rfl) (by rfl) (ap_field_i (rq_p rfl rfl) (by rfl) (by rfl)) ?_) <;> (refine rd_u (by rfl) (by rfl) (ap_load_i (rq_p rfl rfl) (by rfl)) ?_) <;> (refine rd_u (by rfl) (by rfl) (ap_field_p (rq_p rfl rfl) (by rfl) (by rfl)) ?_) <;> (refine rd_u (by rfl) (by rfl) (ap_load_p (rq_p rfl rfl) (by rfl) (by rfl) (by rfl)) ?_) <;> (refine rd_u (by rfl) (by rfl) (ap_move (rq_p rfl rfl)) ?_) <;> (refine rd_u (by rfl) (by rfl) (ap_idx_n (rq_p rfl rfl) (rq_p rfl rfl) (by omega)) ?_) <;> (refine rd_u (by rfl) (by rfl) (ap_field_i (rq_p rfl rfl) (by rfl) (by rfl)) ?_) <;> (refine rd_u (by rfl) (by rfl) (ap_load_i (rq_p rfl rfl) (by rfl)) ?_) <;> (refine rd_u (by rfl) (by rfl) (ap_neq (rq_p rfl rfl) (rq_p rfl rfl)) ?_) <;> (refine rd_u (by rfl) (by rfl) (ap_move (rq_p rfl rfl)) ?_) <;> ((refine rd_split (t := 82) (by rfl) (fun hc => ?_) (fun hc => ?_) <;> (try simp only [sB, ne_eq, reduceCtorEq] at hc) <;> (try (exfalso; omega)) <;> (first | refine rd_skip rfl rfl ?_ | refine rdg_u rfl rfl (by rfl) (by rfl) (ap_field_p (rq_p rfl rfl) (by rfl) (by rfl)) ?_))) <;> (first | refine rd_skip rfl rfl ?_ | refine rdg_u rfl rfl (by rfl) (by rfl) (ap_load_p (rq_p rfl rfl) (by rfl) (by rfl) (by rfl)) ?_) <;> (first | refine rd_skip rfl rfl ?_ | refine rdg_u rfl rfl (by rfl) (by rfl) (ap_move (rq_p rfl rfl)) ?_) <;> (first | refine rd_skip rfl rfl ?_ | refine rdg_u rfl rfl (by rfl) (by rfl) (ap_idx_n (rq_p rfl rfl) (rq_p rfl rfl) (by omega)) ?_) <;> (first | refine rd_skip rfl rfl ?_ | refine rdg_u rfl rfl (by rfl) (by rfl) (ap_field_i (rq_p rfl rfl) (by rfl) (by rfl)) ?_) <;> (first | refine rd_skip rfl rfl ?_ | refine rdg_u rfl rfl (by rfl) (by rfl) (ap_load_i (rq_p rfl rfl) (by rfl)) ?_) <;> (first | refine rd_skip rfl rfl ?_ | refine rdg_u rfl rfl (by rfl) (by rfl) (ap_field_p (rq_p rfl rfl) (by rfl) (by rfl)) ?_) <;> (first | refine rd_skip rfl rfl ?_ | refine rdg_u rfl rfl (by rfl) (by rfl) (ap_load_p (rq_p rfl rfl) (by rfl) (by rfl) (by rfl)) ?_) <;> (first | refine rd_skip rfl rfl ?_ | refine rdg_u rfl rfl (by rfl) (by rfl) (ap_move (rq_p rfl rfl)) ?_) <;> (first | refine rd_skip rfl rfl ?_ | refine rdg_u rfl rfl (by rfl) (by rfl) (ap_idx_n (rq_p rfl rfl) (rq_p rfl rfl) (by omega)) ?_) <;> (first | refine rd_skip rfl rfl ?_ | refine rdg_u rfl rfl (by rfl) (by rfl) (ap_field_i (rq_p rfl rfl) (by rfl) (by rfl)) ?_) <;> (first | refine rd_skip rfl rfl ?_ | refine rdg_u rfl rfl (by rfl) (by rfl) (ap_load_i (rq_p rfl rfl) (by rfl)) ?_) <;> (first | refine rd_skip rfl rfl ?_ | refine rdg_call rfl (by rfl) rfl rfl (by first | ((repeat' first | exact SubL.nil | refine SubL.cons ?_ ?_ | exact Sub.refl); done) | fail) (by first | (simp [bdL, bdL_append, AV.bd]; done) | fail) (hE) ?_) <;> (first | refine rd_skip rfl rfl ?_ | refine rdg_u rfl rfl (by rfl) (by rfl) (ap_not (rq_p rfl rfl)) ?_) <;> (first | refine rd_pick_t (by rfl) (by rfl) ?_ | refine rd_pick_f (by rfl) (by rfl) ?_) <;> (refine rd_end (by kernel_rfl) ?_)) | (refine WP.regionC (id := 13) ?_; (refine su (ap_assign (rq_p rfl rfl)) ?_); refine asemC_end ?_) | (refine WP.regionC (id := 11) ?_; (refine su (ap_move (rq_p rfl rfl)) ?_); (refine su (ap_add (rq_p rfl rfl) (rq_p rfl rfl) (by exact inr_i64_of (by omega))) ?_); (refine su (ap_assign (rq_p rfl rfl)) ?_); refine asemC_end ?_) | refine ret_b (by rfl) ?_))
      · rename_i hA
        rw [hno2 fun h => hA (by rw [h])]
      · rw [hno2 fun h => hc (by rw [h])]
      · rename_i hA
        exact ⟨k + 1, ⟨by omega, by omega, take_eq_succ (by omega) (by omega) hkall (gal_iff.2 ⟨hA, hc⟩)⟩, ⟨[0, 1, 2, 3], ToR.S rfl (by repeat' (first | exact rt_nil | refine rt_t (by rfl) (by rfl) ?_ | refine rt_e (by rfl) (by rfl) ?_)) (by repeat' (first | exact ro_nil | refine ro_p (by rfl) (by first | exact rfl | fail) (by first | (simp [bdL, bdL_append, AV.bd]; done) | fail) ?_)) (by rfl) (by (rw [hm]; exact rfl)) (by rfl) (by (simp [bdT, AV.bd, bdL, bdL_append]; done)) (by repeat' (first | exact True.intro | refine And.intro ?_ ?_ | (simp [bdOq, bdL, bdL_append, AV.bd]; done))) (by (rw [hm]; exact Nat.le_of_ble_eq_true rfl))⟩⟩
    (repeat' (first | refine WP.seq ?_ | refine go_n ?_ | refine WP.exit ?_ | refine go_x ?_ | refine bl_n ?_ | refine bl_x ?_ | (refine wp_cond (by rfl) (fun hc => ?_) (fun hc => ?_) <;> (try simp only [sB, ne_eq, reduceCtorEq] at hc) <;> (try (exfalso; omega))) | (refine WP.regionC (id := 10) ?_; (refine su (ap_move (rq_p rfl rfl)) ?_); (refine su (ap_field_p (rq_p rfl rfl) (by rfl) (by rfl)) ?_); (refine su (ap_load_p (rq_p rfl rfl) (by rfl) (by rfl) (by rfl)) ?_); (refine su (ap_len_m (by rfl) (rq_p rfl rfl)) ?_); (refine su (ap_lss (rq_p rfl rfl) (rq_p rfl rfl)) ?_); refine asemC_end ?_) | (refine WP.regionC (id := 5) ?_; (refine su (ap_move (rq_p rfl rfl)) ?_); (refine su (ap_add (rq_p rfl rfl) (rq_p rfl rfl) (by exact inr_i64_of (by omega))) ?_); (refine su (ap_assign (rq_p rfl rfl)) ?_); refine asemC_end ?_)))
    exact ⟨i + 1, ⟨by omega, by omega, take_eq_succ (by omega) (by omega) hall (gru_iff.2 ⟨hc1.1, eq_of_takes htl (by omega) hkall⟩)⟩, ⟨[0, 1], ToR.S rfl (by repeat' (first | exact rt_nil | refine rt_t (by rfl) (by rfl) ?_ | refine rt_e (by rfl) (by rfl) ?_)) (by repeat' (first | exact ro_nil | refine ro_p (by rfl) (by first | exact rfl | fail) (by first | (simp [bdL, bdL_append, AV.bd]; done) | fail) ?_)) (by rfl) (by (rw [hm]; exact rfl)) (by rfl) (by (simp [bdT, AV.bd, bdL, bdL_append]; done)) (by repeat' (first | exact True.intro | refine And.intro ?_ ?_ | (simp [bdOq, bdL, bdL_append, AV.bd]; done))) (by (rw [hm]; exact Nat.le_of_ble_eq_true rfl))⟩⟩
  (repeat' (first | refine WP.seq ?_ | refine go_n ?_ | refine WP.exit ?_ | refine WP.ret ?_ | refine go_x ?_ | refine bl_x ?_ | refine bo_r ?_ | (refine wp_cond (by rfl) (fun hc => ?_) (fun hc => ?_) <;> (try simp only [sB, ne_eq, reduceCtorEq] at hc) <;> (try (exfalso; omega))) | (refine WP.regionC (id := 4) ?_; (refine su (ap_move (rq_p rfl rfl)) ?_); (refine su (ap_field_p (rq_p rfl rfl) (by rfl) (by rfl)) ?_); (refine su (ap_load_p (rq_p rfl rfl) (by rfl) (by rfl) (by rfl)) ?_); (refine su (ap_len_m (by rfl) (rq_p rfl rfl)) ?_); (refine su (ap_lss (rq_p rfl rfl) (rq_p rfl rfl)) ?_); refine asemC_end ?_) | (refine WP.regionC (id := 14) ?_; (refine su (ap_assign (rq_p rfl rfl)) ?_); refine asemC_end ?_) | refine ret_b (by rfl) ?_))
  simp [eq_of_takes hab (by omega) hall, hc0.1.1, hc0.1.2]
end Go.Lg

namespace Go.Lg
open Go.Proofs
set_option linter.unusedSimpArgs false
set_option linter.unusedVariables false
attribute [local irreducible] Ap Rq asemC WP RunD Ret Gq thenA inBlockA bodyQ noGotoA RqL RqP OpP
set_option maxHeartbeats 8000000
set_option maxRecDepth 20000
end Go.Lg

namespace Go.Lg
open Go.Proofs
set_option linter.unusedSimpArgs false
set_option linter.unusedVariables false
attribute [local irreducible] Ap Rq asemC WP RunD Ret Gq thenA inBlockA bodyQ noGotoA RqL RqP OpP
set_option maxHeartbeats 8000000
set_option maxRecDepth 20000
attribute [local simp] psA psR tx_nil
theorem posN_lt {s : ByteArray} {p : Nat × Tx} {l : List (Nat × Tx)} (h : At s (p :: l)) : (posN s (p :: l) : Int) < s.size := by
  have e1 := h.cons.1
  have e2 : 1 ≤ p.2.length := by
    cases hq : p.2 with
    | nil => exact absurd hq h.cons.2.2.2
    | cons c t => simp
  have e3 : posN s (p :: l) = p.1 := rfl
  rw [e3]; omega
theorem tokens17_fn (s : ByteArray) (hs : s.size ≤ 100000) (hB : (lexL (bl s) 0).length ≤ 100000) : Fn Try.prog 13 [strA s] (strsA ((lexT (bl s)).map tx)) := by
  have hAt : At s (lexL (bl s) 0) := ⟨hs, 0, Nat.zero_le _, by rw [List.drop_zero]⟩
  have hadv := adv17_0 s hs
  have hlt : lexT (bl s) = (lexL (bl s) 0).map (·.2) := rfl
  rw [hlt]
  generalize hL : lexL (bl s) 0 = L at *
  refine Fn.intro (by simp [AV.bd, bdL, bdL_append]) (by kernel_rfl) Try.func13 rfl rfl Try.ntmps13 (by exact Nat.le_of_ble_eq_true rfl) ?_; intro Γ hm
  (repeat' (first | refine WP.seq ?_ | refine WP.block ?_ | refine go_n ?_ | (refine WP.regionC (id := 0) ?_; (refine su (ap_assign (rq_p rfl rfl)) ?_); refine asemC_end ?_) | (refine WP.regionC (id := 1) ?_; (refine su (ap_move (rq_p rfl rfl)) ?_); (refine su (ap_build (RqP.cons (rq_p rfl rfl) (RqP.nil)) (by rfl)) ?_); (refine se_box (by rfl) (by exact ⟨rfl, rfl⟩) ?_); (refine su (ap_assign (rq_p rfl rfl)) ?_); refine asemC_end ?_) | (refine WP.regionC (id := 2) ?_; (refine su (ap_move (rq_p rfl rfl)) ?_); (refine sc_o [0] rfl rfl (hadv) (Lend.o1 (by rfl) (by rfl) (by rfl) (by rfl) (by simp [AV.bd, bdL, bdL_append]) (by simp [AV.bd, bdL, bdL_append])) ?_; simp only [updN, newO, AObj.ren, renL, AV.ren, apx, ap, if_true, if_false, Nat.reduceLT, Nat.reduceAdd, Nat.reduceSub, sO, intA, boolA, strA, psA, psR]); refine asemC_end ?_) | (refine WP.regionC (id := 3) ?_; (refine su (ap_assign (rq_p rfl rfl)) ?_); refine asemC_end ?_)))
  refine wp_nil 4 1 rfl ?_
  refine wp_loop (fun (σ : List ByteArray × List (Nat × Tx)) => σ.1.length + σ.2.length ≤ L.length ∧ σ.2 <:+ L ∧ σ.1 ++ (σ.2.map (·.2)).map tx = (L.map (·.2)).map tx) (fun σ => σ.2.length)
    (fun σ => (S 25 [(0, strA s), (3, .ptr 0 4 0 0), (4, .ref 1 1 0 σ.1.length)] 2 [(0, some (psA s σ.2 false)), (1, some (.arr 1 (σ.1.map strA)))])) ([], L) ⟨[0, 1], ToR.S rfl (by repeat' (first | exact rt_nil | refine rt_r (by rfl) (by rfl) ?_ | refine rt_t (by rfl) (by rfl) ?_ | refine rt_e (by rfl) (by rfl) ?_)) (by repeat' (first | exact ro_nil | refine ro_e (by rfl) (by rfl) ?_)) (by rfl) (by (rw [hm]; exact rfl)) (by rfl) (by (simp [bdT, AV.bd, bdL, bdL_append]; done)) (by repeat' (first | exact True.intro | exact rfl | refine And.intro ?_ ?_)) (by (rw [hm]; exact Nat.le_of_ble_eq_true rfl))⟩ ⟨by simp, List.suffix_refl _, rfl⟩ ?_
  rintro ⟨acc, l1⟩ ⟨hn1, hs1, hf1⟩
  simp only at hn1 hs1 hf1 ⊢
  have h1 := hAt.suf hs1
  cases l1 with
  | nil =>
    have hps : (posN s [] : Int) = s.size := rfl
    simp only [List.map_nil, List.append_nil] at hf1
    rw [← hf1]
    refine wp_frzm 4 hm rfl rfl rfl (fun _ => rfl) (fun _ => rfl) (by rfl) ?_
    (repeat' (first | refine WP.seq ?_ | refine go_n ?_ | refine WP.exit ?_ | refine WP.ret ?_ | refine go_x ?_ | refine bl_x ?_ | refine bo_r ?_ | (refine wp_cond (by rfl) (fun hc => ?_) (fun hc => ?_) <;> (try simp only [sB, ne_eq, reduceCtorEq] at hc) <;> (try (exfalso; omega))) | (refine WP.regionC (id := 4) ?_; (refine su (ap_move (rq_p rfl rfl)) ?_); (refine su (ap_nilc (rq_p rfl rfl)) ?_); (refine su (ap_field_p (rq_p rfl rfl) (by rfl) (by rfl)) ?_); (refine su (ap_load_p (rq_p rfl rfl) (by rfl) (by rfl) (by rfl)) ?_); (refine su (ap_move (rq_p rfl rfl)) ?_); (refine su (ap_len_str (by rfl) (rq_p rfl rfl)) ?_); (refine su (ap_lss (rq_p rfl rfl) (rq_p rfl rfl)) ?_); refine asemC_end ?_) | (refine WP.regionC (id := 7) ?_; (refine su (ap_move (rq_p rfl rfl)) ?_); (refine su (ap_assign (rq_p rfl rfl)) ?_); refine asemC_end ?_) | exact ret_eq (by rfl) (by (simp [AV.bd, bdL, bdL_append]; done)) rfl))
    all_goals done
  | cons p l2 =>
    have hps := posN_lt h1
    have hO := adv17 h1 false
    have hlen : (p :: l2).length = l2.length + 1 := rfl
    have hnext : l2.length < (p :: l2).length ∧ (acc ++ [tx p.2]).length + l2.length ≤ L.length ∧ l2 <:+ L ∧ (acc ++ [tx p.2]) ++ (l2.map (·.2)).map tx = (L.map (·.2)).map tx := by
      refine ⟨by simp, by simp only [List.length_append, List.length_cons, List.length_nil] at hn1 ⊢; omega, (List.suffix_cons _ _).trans hs1, ?_⟩
      rw [← hf1]; simp
    (repeat' (first | refine WP.seq ?_ | refine WP.block ?_ | refine go_n ?_ | refine WP.skip ?_ | refine bl_n ?_ | (refine wp_cond (by rfl) (fun hc => ?_) (fun hc => ?_) <;> (try simp only [sB, ne_eq, reduceCtorEq] at hc) <;> (try (exfalso; omega))) | (refine WP.regionC (id := 4) ?_; (refine su (ap_move (rq_p rfl rfl)) ?_); (refine su (ap_nilc (rq_p rfl rfl)) ?_); (refine su (ap_field_p (rq_p rfl rfl) (by rfl) (by rfl)) ?_); (refine su (ap_load_p (rq_p rfl rfl) (by rfl) (by rfl) (by rfl)) ?_); (refine su (ap_move (rq_p rfl rfl)) ?_); (refine su (ap_len_str (by rfl) (rq_p rfl rfl)) ?_); (refine su (ap_lss (rq_p rfl rfl) (rq_p rfl rfl)) ?_); refine asemC_end ?_) | (refine WP.regionC (id := 5) ?_; (refine su (ap_move (rq_p rfl rfl)) ?_); (refine su (ap_move (rq_p rfl rfl)) ?_); (refine sc_o [0] rfl rfl (txt17 (by assumption) _) (Lend.o1 (by rfl) (by rfl) (by rfl) (by rfl) (by simp [AV.bd, bdL, bdL_append]) (by simp [AV.bd, bdL, bdL_append])) ?_; simp only [updN, newO, AObj.ren, renL, AV.ren, apx, ap, if_true, if_false, Nat.reduceLT, Nat.reduceAdd, Nat.reduceSub, sO, intA, boolA, strA, psA, psR]); (refine se_lit (OpP.cons (by rfl) (OpP.nil)) (by rfl) (by rfl) (by rfl) (by rfl) (by rfl) (by rfl) ?_); (refine se_app1 (by rfl) (by rfl) (by rfl) (by rfl) (by rfl) (by rfl) (by rfl) (by rfl) (by omega) ?_); (refine su (ap_assign (rq_p rfl rfl)) ?_); refine asemC_end ?_) | (refine WP.regionC (id := 6) ?_; (refine su (ap_move (rq_p rfl rfl)) ?_); (refine sc_o [0] rfl rfl (hO) (Lend.o1 (by rfl) (by rfl) (by rfl) (by rfl) (by simp [AV.bd, bdL, bdL_append]) (by simp [AV.bd, bdL, bdL_append])) ?_; simp only [updN, newO, AObj.ren, renL, AV.ren, apx, ap, if_true, if_false, Nat.reduceLT, Nat.reduceAdd, Nat.reduceSub, sO, intA, boolA, strA, psA, psR]); refine asemC_end ?_)))
    exact ⟨(acc ++ [tx p.2], l2), hnext, ⟨[0, 3], ToR.S rfl (by repeat' (first | exact rt_nil | refine rt_r (by rfl) (by rfl) ?_ | refine rt_t (by rfl) (by rfl) ?_ | refine rt_e (by rfl) (by rfl) ?_)) (by repeat' (first | exact ro_nil | refine ro_e (by rfl) (by rfl) ?_ | refine ro_p (by rfl) (by first | exact rfl | fail) (by first | exact bdL_map (fun _ => by exact rfl) _ | fail) ?_)) (by rfl) (by (rw [hm]; exact rfl)) (by rfl) (by (simp [bdT, AV.bd, bdL, bdL_append]; done)) (by repeat' (first | exact True.intro | exact rfl | refine And.intro ?_ ?_ | exact bdL_map (fun _ => by exact rfl) _)) (by (rw [hm]; exact Nat.le_of_ble_eq_true rfl))⟩⟩
end Go.Lg

namespace Go.Lg
set_option linter.unusedVariables false
def PR.app {α : Type} (x : List Tx) : PR α → PR α
  | .ok a r => .ok a (r ++ x)
  | .err r => .err (r ++ x)
theorem sufT_app (y : List Tx) : ∀ (x : GEx) (l : List Tx), (sufT x l).2 ≠ [] → sufT x (l ++ y) = ((sufT x l).1, (sufT x l).2 ++ y)
  | x, [], h => by rw [sufT] at h; exact absurd rfl h
  | x, t :: r, h => by
    rw [sufT] at h
    rw [List.cons_append, sufT, sufT]
    split at h
    · rename_i e; rw [if_pos e, if_pos e]; exact sufT_app y _ r h
    · rename_i e
      rw [if_neg e, if_neg e]
      split at h
      · rename_i e2; rw [if_pos e2, if_pos e2]; exact sufT_app y _ r h
      · rename_i e2
        rw [if_neg e2, if_neg e2]
        split at h
        · rename_i e3; rw [if_pos e3, if_pos e3]; exact sufT_app y _ r h
        · rename_i e3; rw [if_neg e3, if_neg e3]; rfl
theorem ne_of_suf {a b : List Tx} (h : a <:+ b) (ha : a ≠ []) : b ≠ [] := fun e => ha (by rw [e] at h; exact List.suffix_nil.1 h)
theorem par_app (y : List Tx) (n : Nat) : ∀ l : List Tx, l.length ≤ n → ((pPrim l).rest ≠ [] → pPrim (l ++ y) = (pPrim l).app y) ∧ ((pItems l).rest ≠ [] → pItems (l ++ y) = (pItems l).app y) ∧ ((pAlts l).rest ≠ [] → pAlts (l ++ y) = (pAlts l).app y) := by
  induction n with
  | zero =>
    intro l hl
    obtain rfl : l = [] := List.eq_nil_of_length_eq_zero (by omega)
    exact ⟨fun h => absurd (List.suffix_nil.1 (pPrim_suf [])) h, fun h => absurd (List.suffix_nil.1 (pItems_suf [])) h, fun h => absurd (List.suffix_nil.1 (pAlts_suf [])) h⟩
  | succ n ih =>
    intro l hl
    have hp : (pPrim l).rest ≠ [] → pPrim (l ++ y) = (pPrim l).app y := by
      intro h
      cases l with
      | nil => exact absurd (List.suffix_nil.1 (pPrim_suf [])) h
      | cons t r =>
        rw [List.cons_append]
        by_cases hn : nmT t = true
        · rw [pPrim, if_pos hn, pPrim, if_pos hn]; rfl
        · by_cases h4 : t = [40]
          · subst h4
            rw [pPrim, if_neg hn, if_pos rfl] at h
            rw [pPrim, if_neg hn, if_pos rfl, pPrim, if_neg hn, if_pos rfl]
            have ha := (ih r (by simp at hl; omega)).2.2
            cases h1 : pAlts r with
            | err q =>
              rw [h1] at h ha
              have := ha h
              rw [this]
              rfl
            | ok es q =>
              rw [h1] at h ha
              cases q with
              | nil => exact absurd rfl h
              | cons t' q' =>
                have := ha (by simp [PR.rest])
                rw [this]
                simp only [PR.app, List.cons_append]
                split <;> rfl
          · rw [pPrim, if_neg hn, if_neg h4, pPrim, if_neg hn, if_neg h4]; rfl
    have hi : (pItems l).rest ≠ [] → pItems (l ++ y) = (pItems l).app y := by
      intro h
      cases l with
      | nil => exact absurd (List.suffix_nil.1 (pItems_suf [])) h
      | cons t r =>
        have hc : (isN ((t :: r) ++ y) || decide (hd ((t :: r) ++ y) = [40])) = (isN (t :: r) || decide (hd (t :: r) = [40])) := rfl
        rw [pItems_eq] at h
        rw [pItems_eq, hc, pItems_eq (t :: r)]
        by_cases hg : (isN (t :: r) || decide (hd (t :: r) = [40])) = true
        · rw [if_pos hg] at h ⊢
          rw [if_pos hg]
          cases h1 : pPrim (t :: r) with
          | err q =>
            rw [h1] at h
            have := hp (by rw [h1]; exact h)
            rw [this, h1]
            rfl
          | ok x0 r0 =>
            rw [h1] at h
            simp only at h
            have hlt := pPrim_lt h1
            have hsl := sufT_len x0 r0
            have hne : (sufT x0 r0).2 ≠ [] := by
              intro e
              rw [e] at h
              have : pItems [] = .ok [] [] := by rw [pItems_eq]; rfl
              rw [this] at h
              exact h rfl
            have hne0 : r0 ≠ [] := ne_of_suf (sufT_suf x0 r0) hne
            have := hp (by rw [h1]; exact hne0)
            rw [this, h1]
            simp only [PR.app]
            rw [sufT_app y x0 r0 hne]
            simp only
            have h2 := (ih (sufT x0 r0).2 (by omega)).2.1
            cases h3 : pItems (sufT x0 r0).2 with
            | err q => rw [h3] at h h2; rw [h2 h]; rfl
            | ok xs q => rw [h3] at h h2; rw [h2 h]; rfl
        · rw [if_neg hg, if_neg hg]; rfl
    refine ⟨hp, hi, fun h => ?_⟩
    rw [pAlts_eq] at h
    rw [pAlts_eq, pAlts_eq l]
    cases h1 : pItems l with
    | err q =>
      rw [h1] at h
      have := hi (by rw [h1]; exact h)
      rw [this, h1]
      rfl
    | ok xs q =>
      rw [h1] at h
      cases q with
      | nil => exact absurd rfl h
      | cons t q =>
        have := hi (by rw [h1]; simp [PR.rest])
        rw [this, h1]
        simp only [PR.app, List.cons_append]
        simp only [finA] at h ⊢
        have hle := (pItems_suf l).length_le
        rw [h1] at hle
        simp only [PR.rest, List.length_cons] at hle
        by_cases ht : t = [124]
        · rw [if_pos ht] at h ⊢
          rw [if_pos ht]
          have h2 := (ih q (by omega)).2.2
          cases h3 : pAlts q with
          | err q' => rw [h3] at h h2; rw [h2 h]; rfl
          | ok es q' => rw [h3] at h h2; rw [h2 h]; rfl
        · rw [if_neg ht, if_neg ht]; rfl
theorem pItems_app (y l : List Tx) (h : (pItems l).rest ≠ []) : pItems (l ++ y) = (pItems l).app y := (par_app y _ l (Nat.le_refl _)).2.1 h
theorem pName_app (y l : List Tx) (h : (pName l).rest ≠ []) : pName (l ++ y) = (pName l).app y := by
  cases l with
  | nil => exact absurd rfl h
  | cons t r => simp only [List.cons_append, pName]; split <;> rfl
theorem pTake_app (c : Tx) (y l : List Tx) (h : (pTake c l).rest ≠ []) : pTake c (l ++ y) = (pTake c l).app y := by
  cases l with
  | nil => exact absurd rfl h
  | cons t r => simp only [List.cons_append, pTake]; split <;> rfl
theorem pName_app' (y l : List Tx) (h : l ≠ []) : pName (l ++ y) = (pName l).app y := by
  cases l with
  | nil => exact absurd rfl h
  | cons t r => simp only [List.cons_append, pName]; split <;> rfl
theorem pTake_app' (c : Tx) (y l : List Tx) (h : l ≠ []) : pTake c (l ++ y) = (pTake c l).app y := by
  cases l with
  | nil => exact absurd rfl h
  | cons t r => simp only [List.cons_append, pTake]; split <;> rfl
theorem pPrice_app (y l : List Tx) (h : (pPrice l).rest ≠ []) : pPrice (l ++ y) = (pPrice l).app y := by
  cases l with
  | nil => exact absurd rfl h
  | cons t r =>
    simp only [List.cons_append]
    unfold pPrice at h ⊢
    simp only at h ⊢
    by_cases e : t = bl kw4
    · rw [if_pos e] at h ⊢
      rw [if_pos e]
      cases r with
      | nil => exact absurd rfl h
      | cons t2 r2 => simp only [List.cons_append]; split <;> rfl
    · rw [if_neg e, if_neg e]; rfl
theorem pAlt_app (y l : List Tx) (h : (pAlt l).rest ≠ []) : pAlt (l ++ y) = (pAlt l).app y := by
  unfold pAlt at h ⊢
  cases h1 : pItems l with
  | err q =>
    rw [h1] at h
    rw [pItems_app y l (by rw [h1]; exact h), h1]; rfl
  | ok xs r =>
    rw [h1] at h
    simp only at h
    have hs := pPrice_suf r
    have hne : r ≠ [] := by
      intro e
      rw [e] at h hs
      cases h2 : pPrice ([] : List Tx) with
      | err q => rw [h2] at h hs; exact h (List.suffix_nil.1 hs)
      | ok p q => rw [h2] at h hs; exact h (List.suffix_nil.1 hs)
    rw [pItems_app y l (by rw [h1]; exact hne), h1]
    simp only [PR.app]
    cases h2 : pPrice r with
    | err q => rw [h2] at h; rw [pPrice_app y r (by rw [h2]; exact h), h2]; rfl
    | ok p q => rw [h2] at h; rw [pPrice_app y r (by rw [h2]; exact h), h2]; rfl
theorem pAltsR_app (y : List Tx) (n : Nat) : ∀ l : List Tx, l.length ≤ n → (pAltsR l).rest ≠ [] → pAltsR (l ++ y) = (pAltsR l).app y := by
  induction n with
  | zero =>
    intro l hl h
    obtain rfl : l = [] := List.eq_nil_of_length_eq_zero (by omega)
    exact absurd (List.suffix_nil.1 (pAltsR_suf _ [] (Nat.le_refl _))) h
  | succ n ih =>
    intro l hl h
    rw [pAltsR_eq] at h
    rw [pAltsR_eq, pAltsR_eq l]
    cases h1 : pAlt l with
    | err q => rw [h1] at h; rw [pAlt_app y l (by rw [h1]; exact h), h1]; rfl
    | ok a q =>
      rw [h1] at h
      cases q with
      | nil => exact absurd rfl h
      | cons t q =>
        rw [pAlt_app y l (by rw [h1]; simp [PR.rest]), h1]
        simp only [PR.app, List.cons_append]
        simp only [finR] at h ⊢
        have hle := (pAlt_suf l).length_le
        rw [h1] at hle
        simp only [PR.rest, List.length_cons] at hle
        by_cases ht : t = [124]
        · rw [if_pos ht] at h ⊢
          rw [if_pos ht]
          have h2 := ih q (by omega)
          cases h3 : pAltsR q with
          | err q' => rw [h3] at h h2; rw [h2 h]; rfl
          | ok es q' => rw [h3] at h h2; rw [h2 h]; rfl
        · rw [if_neg ht, if_neg ht]; rfl
theorem pRule_app (y l : List Tx) (h : (match pRule l with | .ok _ _ => True | .err q => q ≠ [])) : pRule (l ++ y) = (pRule l).app y := by
  unfold pRule at h ⊢
  cases e1 : pName l with
  | err q => rw [e1] at h; rw [pName_app y l (by rw [e1]; exact h), e1]; rfl
  | ok n r0 =>
    rw [e1] at h
    have hl : l ≠ [] := fun e => by rw [e] at e1; cases e1
    rw [pName_app' y l hl, e1]
    simp only [PR.app] at h ⊢
    cases e2 : pTake [61] r0 with
    | err q => rw [e2] at h; rw [pTake_app [61] y r0 (by rw [e2]; exact h), e2]; rfl
    | ok u r1 =>
      rw [e2] at h
      have hr0 : r0 ≠ [] := fun e => by rw [e] at e2; cases e2
      rw [pTake_app' [61] y r0 hr0, e2]
      simp only [PR.app] at h ⊢
      cases e3 : pAltsR r1 with
      | err q => rw [e3] at h; rw [pAltsR_app y _ r1 (Nat.le_refl _) (by rw [e3]; exact h), e3]; rfl
      | ok ys r2 =>
        rw [e3] at h
        simp only at h
        have hr2 : r2 ≠ [] := by
          intro e
          rw [e] at h
          exact h rfl
        rw [pAltsR_app y _ r1 (Nat.le_refl _) (by rw [e3]; exact hr2), e3]
        simp only [PR.app]
        rw [pTake_app' [59] y r2 hr2]
        cases pTake [59] r2 <;> rfl
end Go.Lg

namespace Go.Lg
set_option linter.unusedVariables false
theorem tw_cut {p : UInt8 → Bool} {r : Tx} {j : Nat} (h : (r.takeWhile p).length ≤ j) : (r.take j).takeWhile p = r.takeWhile p := by
  induction r generalizing j with
  | nil => simp
  | cons c r ih =>
    cases j with
    | zero =>
      have : r.takeWhile p = r.takeWhile p := rfl
      have h0 : ((c :: r).takeWhile p) = [] := List.eq_nil_of_length_eq_zero (by omega)
      rw [h0]; rfl
    | succ j =>
      rw [List.take_succ_cons, List.takeWhile_cons, List.takeWhile_cons]
      split
      · rename_i hc
        rw [List.takeWhile_cons, if_pos hc] at h
        simp only [List.length_cons] at h
        rw [ih (by omega)]
      · rfl
end Go.Lg

namespace Go.Lg
set_option linter.unusedVariables false
def endB (b : UInt8) : Bool := !isW b && !isD b
theorem tw_end {p : UInt8 → Bool} {b : UInt8} (hb : p b = false) (r m : Tx) : (r ++ b :: m).takeWhile p = r.takeWhile p := by
  induction r with
  | nil => simp [hb]
  | cons c r ih =>
    rw [List.cons_append, List.takeWhile_cons, List.takeWhile_cons]
    split
    · rw [ih]
    · rfl
theorem tokN_end {b : UInt8} (hb : endB b = true) (c : UInt8) (r m : Tx) : tokN (c :: r ++ b :: m) = tokN (c :: r) := by
  simp only [endB, Bool.and_eq_true, Bool.not_eq_true'] at hb
  simp only [List.cons_append, tokN]
  rw [tw_end hb.1, tw_end hb.2]
def Tok (t : Tx) : Prop := ∃ c r, t = c :: r ∧ isB c = false ∧ c ≠ 35 ∧ tokN t = t.length
theorem tokN_take (c : UInt8) (r : Tx) : tokN ((c :: r).take (tokN (c :: r))) = tokN (c :: r) := by
  have h1 := tokN_pos c r
  obtain ⟨j, hj⟩ : ∃ j, tokN (c :: r) = j + 1 := ⟨tokN (c :: r) - 1, by omega⟩
  rw [hj, List.take_succ_cons, ← hj]
  simp only [tokN] at hj ⊢
  split
  · rename_i hL
    rw [if_pos hL] at hj
    rw [tw_cut (by omega)]
  · rename_i hL
    rw [if_neg hL] at hj
    split
    · rename_i hD
      rw [if_pos hD] at hj
      rw [tw_cut (by omega)]
    · rfl
theorem lexL_tok (n : Nat) : ∀ (l : Tx) (k : Nat), l.length ≤ n → ∀ p, p ∈ lexL l k → Tok p.2 := by
  induction n with
  | zero =>
    intro l k hl p hp
    obtain rfl : l = [] := List.eq_nil_of_length_eq_zero (by omega)
    rw [lexL_nil] at hp; cases hp
  | succ n ih =>
    intro l k hl p hp
    cases l with
    | nil => rw [lexL_nil] at hp; cases hp
    | cons c r =>
      simp only [List.length_cons] at hl
      rw [lexL_cons] at hp
      by_cases hB : isB c = true
      · rw [if_pos hB] at hp
        exact ih r _ (by omega) p hp
      · rw [if_neg hB] at hp
        by_cases h35 : c = 35
        · rw [if_pos h35] at hp
          exact ih _ _ (by rw [List.length_drop]; omega) p hp
        · rw [if_neg h35] at hp
          have htp := tokN_pos c r
          rcases List.mem_cons.1 hp with rfl | hp
          · have h1 := tokN_take c r
            have hle := tokN_le (c :: r)
            refine ⟨c, r.take (tokN (c :: r) - 1), ?_, by simpa using hB, h35, ?_⟩
            · obtain ⟨j, hj⟩ : ∃ j, tokN (c :: r) = j + 1 := ⟨tokN (c :: r) - 1, by omega⟩
              rw [hj, List.take_succ_cons]; rfl
            · rw [h1, List.length_take, Nat.min_eq_left hle]
          · exact ih _ _ (by rw [List.length_drop]; simp only [List.length_cons]; omega) p hp
theorem lexT_tok {l : Tx} {t : Tx} (h : t ∈ lexT l) : Tok t := by
  obtain ⟨p, hp, rfl⟩ := List.mem_map.1 h
  exact lexL_tok _ l 0 (Nat.le_refl _) p hp
theorem lexL_at (n : Nat) : ∀ (l : Tx) (k j : Nat), l.length ≤ n → (lexL l k).map (·.2) = (lexL l j).map (·.2) := by
  induction n with
  | zero =>
    intro l k j hl
    obtain rfl : l = [] := List.eq_nil_of_length_eq_zero (by omega)
    rw [lexL_nil, lexL_nil]
  | succ n ih =>
    intro l k j hl
    cases l with
    | nil => rw [lexL_nil, lexL_nil]
    | cons c r =>
      simp only [List.length_cons] at hl
      rw [lexL_cons, lexL_cons]
      have htp := tokN_pos c r
      split
      · exact ih r _ _ (by omega)
      · split
        · exact ih _ _ _ (by rw [List.length_drop]; omega)
        · simp only [List.map_cons]
          rw [ih ((c :: r).drop (tokN (c :: r))) _ (j + tokN (c :: r)) (by rw [List.length_drop]; simp only [List.length_cons]; omega)]
theorem lexT_at (l : Tx) (k : Nat) : (lexL l k).map (·.2) = lexT l := lexL_at _ l k 0 (Nat.le_refl _)
theorem lexW_nil : lexT [] = [] := by unfold lexT; rw [lexL_nil]; rfl
theorem lexW_blank {c : UInt8} (h : isB c = true) (m : Tx) : lexT (c :: m) = lexT m := by
  unfold lexT
  rw [lexL_cons, if_pos h]
  exact lexL_at _ _ _ _ (Nat.le_refl _)
theorem lexT_com {r : Tx} (h : ∀ c, c ∈ r → c ≠ 10) (m : Tx) : lexT (35 :: (r ++ 10 :: m)) = lexT m := by
  have e : comN (r ++ 10 :: m) = r.length := by
    induction r with
    | nil => simp [comN]
    | cons d r ih =>
      have hd := h d List.mem_cons_self
      have := ih fun c hc => h c (List.mem_cons_of_mem _ hc)
      unfold comN at this ⊢
      rw [List.cons_append, List.takeWhile_cons, if_pos (by simpa using hd), List.length_cons, this, List.length_cons]
  have h1 : isB 35 = false := by decide
  rw [lexT, lexL_cons, h1, e, List.drop_append_of_le_length (Nat.le_refl _), List.drop_length, List.nil_append]
  simp only [Bool.false_eq_true, if_false, if_true]
  rw [lexT_at]
  exact lexW_blank (by decide) m
theorem lexW_cons {t : Tx} (ht : Tok t) {b : UInt8} (hb : endB b = true) (m : Tx) : lexT (t ++ b :: m) = t :: lexT (b :: m) := by
  obtain ⟨c, r, rfl, hB, h35, hl⟩ := ht
  have h1 := tokN_end hb c r m
  rw [lexT, List.cons_append, lexL_cons, hB]
  rw [List.cons_append] at h1
  simp only [Bool.false_eq_true, if_false, if_neg h35, List.map_cons]
  rw [h1, hl, lexT_at, ← List.cons_append, List.take_append_of_le_length (Nat.le_refl _), List.take_length, List.drop_append_of_le_length (Nat.le_refl _), List.drop_length, List.nil_append]
def SepX (x : Tx) : Prop := (∃ b r, x = b :: r ∧ endB b = true) ∧ ∀ m, lexT (x ++ m) = lexT m
def Ends (t : Tx) (ts : List Tx) : Prop := ∀ m, lexT (t ++ m) = ts ++ lexT m
theorem SepX.ends {x : Tx} (h : SepX x) : Ends x [] := h.2
theorem Ends.step {t : Tx} {ts : List Tx} (h : Ends t ts) {k x : Tx} (hk : Tok k) (hx : SepX x) : Ends (t ++ k ++ x) (ts ++ [k]) := by
  intro m
  obtain ⟨⟨b, r, rfl, hb⟩, h2⟩ := hx
  have e := h2 m
  rw [List.cons_append] at e
  rw [List.append_assoc, List.append_assoc, h, List.cons_append, lexW_cons hk hb, e, List.append_assoc]
  rfl
theorem Ends.all {t : Tx} {ts : List Tx} (h : Ends t ts) : lexT t = ts := by
  have := h []
  rwa [List.append_nil, lexW_nil, List.append_nil] at this
theorem sep1 : SepX [32] := ⟨⟨32, [], rfl, by decide⟩, fun m => lexW_blank (by decide) m⟩
theorem sep2 : SepX [10] := ⟨⟨10, [], rfl, by decide⟩, fun m => lexW_blank (by decide) m⟩
theorem sep3 : SepX [9, 32] := ⟨⟨9, [32], rfl, by decide⟩, fun m => (lexW_blank (by decide) _).trans (lexW_blank (by decide) m)⟩
theorem sep4 : SepX [32, 35, 32, 97, 32, 99, 111, 109, 109, 101, 110, 116, 59, 32, 120, 32, 61, 10] := ⟨⟨32, _, rfl, by decide⟩, fun m => (lexW_blank (by decide) _).trans (lexT_com (r := [32, 97, 32, 99, 111, 109, 109, 101, 110, 116, 59, 32, 120, 32, 61]) (by decide) m)⟩
theorem sep5 : SepX [13, 10] := ⟨⟨13, [10], rfl, by decide⟩, fun m => (lexW_blank (by decide) _).trans (lexW_blank (by decide) m)⟩
def seps : List ByteArray := [⟨#[32]⟩, ⟨#[10]⟩, ⟨#[9, 32]⟩, ⟨#[32, 35, 32, 97, 32, 99, 111, 109, 109, 101, 110, 116, 59, 32, 120, 32, 61, 10]⟩, ⟨#[13, 10]⟩]
theorem seps_ok {x : ByteArray} (h : x ∈ seps) : SepX (bl x) ∧ x.size ≤ 18 := by
  simp only [seps, List.mem_cons, List.not_mem_nil, or_false] at h
  rcases h with rfl | rfl | rfl | rfl | rfl
  · exact ⟨sep1, by decide⟩
  · exact ⟨sep2, by decide⟩
  · exact ⟨sep3, by decide⟩
  · exact ⟨sep4, by decide⟩
  · exact ⟨sep5, by decide⟩
end Go.Lg

namespace Go.Lg
open Go.Proofs
open Go.RowKit
set_option maxRecDepth 20000
section
variable {P : Program} {n M : Nat} {l : List (Nat × AV)} {os : List (Nat × Option AObj)} {e : List Bool} {a : Operand} {ty : TypeId} {ti tj : TI}
end
end Go.Lg

namespace Go.Lg
open Go.Proofs
set_option linter.unusedSimpArgs false
set_option linter.unusedVariables false
attribute [local irreducible] Ap Rq asemC WP RunD Ret Gq thenA inBlockA bodyQ noGotoA RqL RqP OpP
set_option maxHeartbeats 8000000
set_option maxRecDepth 20000
theorem parseR_same {s t : ByteArray} (h : lexT (bl s) = lexT (bl t)) : (parseR s).1 = (parseR t).1 ∧ (parseR s).2.2 = (parseR t).2.2 := by
  unfold parseR
  rw [h]
  split
  · split <;> exact ⟨rfl, rfl⟩
  · exact ⟨rfl, rfl⟩
theorem seps_mem (i : Nat) (h : i < 5) : nth seps i ∈ seps := by
  have : i < seps.length := h
  rw [nth_eq this]; exact List.getElem_mem this
theorem law_ws (s : ByteArray) (seed : Int) (h0 : 0 ≤ seed ∧ seed ≤ 18446744073709551615) : Fn Try.prog 4 [strA s, .val (.int .u64 seed)] (boolA true) := by
  by_cases hl : (s.size : Int) > 300
  · refine Fn.intro (by rfl) (by kernel_rfl) Try.func4 rfl rfl Try.ntmps4 (by exact Nat.le_of_ble_eq_true rfl) ?_; intro Γ hm
    (repeat' (first | refine WP.seq ?_ | refine go_n ?_ | refine WP.ret ?_ | refine go_r ?_ | refine bo_r ?_ | (refine wp_cond (by rfl) (fun hc => ?_) (fun hc => ?_) <;> (try simp only [sB, ne_eq, reduceCtorEq] at hc) <;> (try (exfalso; omega))) | (refine WP.regionC (id := 0) ?_; (refine su (ap_assign (rq_p rfl rfl)) ?_); refine asemC_end ?_) | (refine WP.regionC (id := 1) ?_; (refine su (ap_move (rq_p rfl rfl)) ?_); (refine su (ap_len_str (by rfl) (rq_p rfl rfl)) ?_); (refine su (ap_gtr (rq_p rfl rfl) (rq_p rfl rfl)) ?_); refine asemC_end ?_) | (refine WP.regionC (id := 2) ?_; (refine sc_p rfl rfl (by first | ((repeat' (exact SubL.nil)); done) | fail) (by first | (simp [bdL, bdL_append, AV.bd]; done) | fail) (awake17_fn) ?_); (refine su (ap_assign (rq_p rfl rfl)) ?_); refine asemC_end ?_) | exact ret_eq (by rfl) (by rfl) rfl))
    all_goals done
  · have hlen := lexL_len _ (bl s) 0 (Nat.le_refl _)
    rw [bl_len] at hlen
    have hT := tokens17_fn s (by omega) (by omega)
    have hP := parseP_fn s (by omega)
    have hsm := lexT_sm s
    have htk : ∀ t, t ∈ lexT (bl s) → Tok t := fun t ht => lexT_tok ht
    have hn : (lexT (bl s)).length ≤ 300 := by unfold lexT; rw [List.length_map]; omega
    generalize hts : lexT (bl s) = ts at *
    have hml : (ts.map tx).length = ts.length := List.length_map _
    have hsd : ∀ i : Int, 0 ≤ shrI .u64 seed i := fun i => shrI_nn i h0.1
    refine Fn.intro (by rfl) (by kernel_rfl) Try.func4 rfl rfl Try.ntmps4 (by exact Nat.le_of_ble_eq_true rfl) ?_; intro Γ hm
    (repeat' (first | refine WP.seq ?_ | refine go_n ?_ | refine WP.skip ?_ | (refine wp_cond (by rfl) (fun hc => ?_) (fun hc => ?_) <;> (try simp only [sB, ne_eq, reduceCtorEq] at hc) <;> (try (exfalso; omega))) | (refine WP.regionC (id := 0) ?_; (refine su (ap_assign (rq_p rfl rfl)) ?_); refine asemC_end ?_) | (refine WP.regionC (id := 1) ?_; (refine su (ap_move (rq_p rfl rfl)) ?_); (refine su (ap_len_str (by rfl) (rq_p rfl rfl)) ?_); (refine su (ap_gtr (rq_p rfl rfl) (rq_p rfl rfl)) ?_); refine asemC_end ?_) | (refine WP.regionC (id := 3) ?_; (refine su (ap_move (rq_p rfl rfl)) ?_); (refine sc_p rfl rfl (by first | ((repeat' first | exact SubL.nil | refine SubL.cons ?_ ?_ | exact Sub.refl); done) | fail) (by first | (simp [bdL, bdL_append, AV.bd]; done) | fail) (hT) ?_); (refine su (ap_assign (rq_p rfl rfl)) ?_); refine asemC_end ?_) | (refine WP.regionC (id := 4) ?_; (refine se_lit (OpP.cons (by rfl) (OpP.cons (by rfl) (OpP.cons (by rfl) (OpP.cons (by rfl) (OpP.cons (by rfl) (OpP.nil)))))) (by rfl) (by rfl) (by rfl) (by rfl) (by rfl) (by rfl) ?_); (refine su (ap_assign (rq_p rfl rfl)) ?_); refine asemC_end ?_)))
    refine wp_frz (f := strA) (L := seps) 6 hm rfl rfl rfl (fun _ => rfl) (fun _ => rfl) ?_
    have hsl : seps.length = 5 := rfl
    have hx3 := Int.tmod_lt_of_pos seed (show (0 : Int) < 5 by decide)
    have hx4 := Int.tmod_nonneg 5 h0.1
    have hx0 : (seed.tmod 5).toNat < 5 := by omega
    have hx1 := seps_ok (seps_mem _ hx0)
    (repeat' (first | refine WP.seq ?_ | refine WP.block ?_ | refine go_n ?_ | (refine WP.regionC (id := 5) ?_; (refine su (ap_move (rq_p rfl rfl)) ?_); (refine su (ap_move (rq_p rfl rfl)) ?_); (refine su (ap_rem (rq_p rfl rfl) (rq_p rfl rfl) (by omega)) ?_); (refine su (ap_idx_z (rq_p rfl rfl) (rq_p rfl rfl) (by omega)) ?_); (refine su (ap_load_w (rq_p rfl rfl) (by rfl)) ?_); (refine su (ap_assign (rq_p rfl rfl)) ?_); refine asemC_end ?_) | (refine WP.regionC (id := 6) ?_; (refine su (ap_assign (rq_p rfl rfl)) ?_); refine asemC_end ?_)))
    refine wp_loop (fun (σ : ByteArray × Nat) => σ.2 ≤ ts.length ∧ σ.1.size ≤ 18 + 318 * σ.2 ∧ Ends (bl σ.1) (ts.take σ.2)) (fun σ => ts.length - σ.2)
      (fun σ => (S 72 [(0, strA s), (1, .val (.int .u64 seed)), (5, strsA (ts.map tx)), (6, .sl 1 (seps.map strA)), (7, strA σ.1), (8, intA (σ.2 : Nat))] 0 [])) (nth seps (seed.tmod 5).toNat, 0) ⟨[], ToR.S rfl (by repeat' (first | exact rt_nil | refine rt_e (by rfl) (by rfl) ?_ | refine rt_p (by rfl) (by rfl) (by first | (simp [AV.bd, bdL, bdL_append]; done) | fail) ?_)) (by repeat' (exact ro_nil)) (by rfl) (by (rw [hm]; exact rfl)) (by rfl) (by (simp [bdT, AV.bd, bdL, bdL_append]; done)) (by repeat' (exact True.intro)) (by (rw [hm]; exact Nat.le_of_ble_eq_true rfl))⟩ ⟨Nat.zero_le _, by have := hx1.2; simp only; omega, hx1.1.ends⟩ ?_
    rintro ⟨t, i⟩ ⟨hi, ht, he⟩
    simp only at hi ht he ⊢
    by_cases hlt : i < ts.length
    · have hsi := hsd ((i : Int).tmod 40)
      have hx5 := Int.tmod_lt_of_pos (shrI .u64 seed ((i : Int).tmod 40)) (show (0 : Int) < 5 by decide)
      have hx6 := Int.tmod_nonneg 5 hsi
      have hx7 := Int.tmod_nonneg (a := (i : Int)) 40 (by omega)
      have hx8 := Int.tmod_lt_of_pos (i : Int) (show (0 : Int) < 40 by decide)
      have hx2 : ((shrI .u64 seed ((i : Int).tmod 40)).tmod 5).toNat < 5 := by omega
      have hx3 := seps_ok (seps_mem _ hx2)
      have hx9 : inr .u64 ((i : Int).tmod 40) := by simp only [inr, IntKind.min, IntKind.max, IntKind.signed, IntKind.bits]; simp; omega
      have hi2 : i < (ts.map tx).length := by omega
      have ek : nth (ts.map tx) i = tx (nth ts i) := by rw [nth_eq hi2, nth_eq hlt, List.getElem_map]
      have hmem : nth ts i ∈ ts := by rw [nth_eq hlt]; exact List.getElem_mem hlt
      have hs3 : (nth (ts.map tx) i).size ≤ 300 := by rw [ek, tx_size]; have := hsm _ hmem; omega
      have hnext : ts.length - (i + 1) < ts.length - i ∧ i + 1 ≤ ts.length ∧ (t ++ nth (ts.map tx) i ++ nth seps ((shrI .u64 seed ((i : Int).tmod 40)).tmod 5).toNat).size ≤ 18 + 318 * (i + 1) ∧ Ends (bl (t ++ nth (ts.map tx) i ++ nth seps ((shrI .u64 seed ((i : Int).tmod 40)).tmod 5).toNat)) (ts.take (i + 1)) := by
        refine ⟨by omega, by omega, ?_, ?_⟩
        · rw [ByteArray.size_append, ByteArray.size_append]
          have := hx3.2
          omega
        · rw [bl_app, bl_app, ek, bl_tx]
          have h9 := he.step (htk _ hmem) hx3.1
          have e9 : ts.take (i + 1) = ts.take i ++ [nth ts i] := by rw [List.take_add_one, List.getElem?_eq_getElem hlt, nth_eq hlt]; rfl
          rw [e9]; exact h9
      (repeat' (first | refine WP.seq ?_ | refine WP.block ?_ | refine go_n ?_ | refine WP.skip ?_ | refine bl_n ?_ | (refine wp_cond (by rfl) (fun hc => ?_) (fun hc => ?_) <;> (try simp only [sB, ne_eq, reduceCtorEq] at hc) <;> (try (exfalso; omega))) | (refine WP.regionC (id := 7) ?_; (refine su (ap_move (rq_p rfl rfl)) ?_); (refine su (ap_move (rq_p rfl rfl)) ?_); (refine su (ap_len_m (by rfl) (rq_p rfl rfl)) ?_); (refine su (ap_lss (rq_p rfl rfl) (rq_p rfl rfl)) ?_); refine asemC_end ?_) | (refine wp_draw (id := 9) 17 mixed (by kernel_rfl) (by kernel_rfl) rfl ?_ <;> (refine rd_u (by rfl) (by rfl) (ap_move (rq_p rfl rfl)) ?_) <;> (refine rd_u (by rfl) (by rfl) (ap_move (rq_p rfl rfl)) ?_) <;> (refine rd_u (by rfl) (by rfl) (ap_move (rq_p rfl rfl)) ?_) <;> (refine rd_u (by rfl) (by rfl) (ap_idx_n (rq_p rfl rfl) (rq_p rfl rfl) (by omega)) ?_) <;> (refine rd_u (by rfl) (by rfl) (ap_load_w (rq_p rfl rfl) (by rfl)) ?_) <;> (refine rd_u (by rfl) (by rfl) (ap_cat (rq_p rfl rfl) (rq_p rfl rfl) (by omega)) ?_) <;> (refine rd_u (by rfl) (by rfl) (ap_move (rq_p rfl rfl)) ?_) <;> (refine rd_u (by rfl) (by rfl) (ap_move (rq_p rfl rfl)) ?_) <;> (refine rd_u (by rfl) (by rfl) (ap_move (rq_p rfl rfl)) ?_) <;> (refine rd_u (by rfl) (by rfl) (ap_rem (rq_p rfl rfl) (rq_p rfl rfl) (by omega)) ?_) <;> (refine rd_u (by rfl) (by rfl) (ap_conv (rq_p rfl rfl) (by rfl) (by kernel_rfl) (by omega)) ?_) <;> (refine rd_u (by rfl) (by rfl) (ap_shr (rq_p rfl rfl) (rq_p rfl rfl) (by omega)) ?_) <;> (refine rd_u (by rfl) (by rfl) (ap_rem (rq_p rfl rfl) (rq_p rfl rfl) (by omega)) ?_) <;> (refine rd_u (by rfl) (by rfl) (ap_idx_z (rq_p rfl rfl) (rq_p rfl rfl) (by omega)) ?_) <;> (refine rd_u (by rfl) (by rfl) (ap_load_w (rq_p rfl rfl) (by rfl)) ?_) <;> (refine rd_u (by rfl) (by rfl) (ap_cat (rq_p rfl rfl) (rq_p rfl rfl) (by (simp only [bsz, sZ] <;> omega))) ?_) <;> (refine rd_u (by rfl) (by rfl) (ap_assign (rq_p rfl rfl)) ?_) <;> (refine rd_end (by kernel_rfl) ?_)) | (refine WP.regionC (id := 8) ?_; (refine su (ap_move (rq_p rfl rfl)) ?_); (refine su (ap_add (rq_p rfl rfl) (rq_p rfl rfl) (by exact inr_i64_of (by omega))) ?_); (refine su (ap_assign (rq_p rfl rfl)) ?_); refine asemC_end ?_)))
      exact ⟨(_, i + 1), hnext, ⟨[], ToR.S rfl (by repeat' (first | exact rt_nil | refine rt_e (by rfl) (by rfl) ?_ | refine rt_p (by rfl) (by rfl) (by first | (simp [AV.bd, bdL, bdL_append]; done) | fail) ?_)) (by repeat' (exact ro_nil)) (by rfl) (by (rw [hm]; exact rfl)) (by rfl) (by (simp [bdT, AV.bd, bdL, bdL_append]; done)) (by repeat' (exact True.intro)) (by (rw [hm]; exact Nat.le_of_ble_eq_true rfl))⟩⟩
    · have hie : i = ts.length := by omega
      subst hie
      rw [List.take_length] at he
      have hT2 := he.all
      have hS : t.size ≤ 100000 := by omega
      have hP2 := parseP_fn t hS
      obtain ⟨q1, q2⟩ := parseR_same (s := s) (t := t) (by rw [hT2, hts])
      generalize parseR s = x at *
      generalize parseR t = y at *
      obtain ⟨f, a1, e1⟩ := x
      obtain ⟨g, a2, e2⟩ := y
      simp only at q1 q2
      subst q1 q2
      simp only [parseA] at hP hP2
      (repeat' (first | refine WP.seq ?_ | refine go_n ?_ | refine WP.exit ?_ | refine WP.ret ?_ | refine go_x ?_ | refine bl_x ?_ | refine bo_r ?_ | (refine wp_cond (by rfl) (fun hc => ?_) (fun hc => ?_) <;> (try simp only [sB, ne_eq, reduceCtorEq] at hc) <;> (try (exfalso; omega))) | (refine WP.regionC (id := 7) ?_; (refine su (ap_move (rq_p rfl rfl)) ?_); (refine su (ap_move (rq_p rfl rfl)) ?_); (refine su (ap_len_m (by rfl) (rq_p rfl rfl)) ?_); (refine su (ap_lss (rq_p rfl rfl) (rq_p rfl rfl)) ?_); refine asemC_end ?_) | (refine WP.regionC (id := 10) ?_; (refine su (ap_move (rq_p rfl rfl)) ?_); (refine sc_p rfl rfl (by first | ((repeat' first | exact SubL.nil | refine SubL.cons ?_ ?_ | exact Sub.refl); done) | fail) (by first | (simp [bdL, bdL_append, AV.bd]; done) | fail) (hP) ?_); (refine su (ap_move (rq_p rfl rfl)) ?_); (refine su (ap_extract (rq_p rfl rfl) (by rfl)) ?_); (refine su (ap_extract (rq_p rfl rfl) (by rfl)) ?_); (refine su (ap_extract (rq_p rfl rfl) (by rfl)) ?_); (refine se_alloc (by rfl) ?_); (refine se_store_b (by rfl) (by rfl) (by rfl) (by rfl) ?_); (refine su (ap_assign (rq_p rfl rfl)) ?_); (refine su (ap_assign (rq_p rfl rfl)) ?_); refine asemC_end ?_) | (refine WP.regionC (id := 11) ?_; (refine su (ap_move (rq_p rfl rfl)) ?_); (refine sc_p rfl rfl (by first | ((repeat' first | exact SubL.nil | refine SubL.cons ?_ ?_ | exact Sub.refl); done) | fail) (by first | (simp [bdL, bdL_append, AV.bd]; done) | fail) (hP2) ?_); (refine su (ap_move (rq_p rfl rfl)) ?_); (refine su (ap_extract (rq_p rfl rfl) (by rfl)) ?_); (refine su (ap_extract (rq_p rfl rfl) (by rfl)) ?_); (refine su (ap_extract (rq_p rfl rfl) (by rfl)) ?_); (refine se_alloc (by rfl) ?_); (refine se_store_b (by rfl) (by rfl) (by rfl) (by rfl) ?_); (refine su (ap_assign (rq_p rfl rfl)) ?_); (refine su (ap_assign (rq_p rfl rfl)) ?_); refine asemC_end ?_) | (refine WP.regionC (id := 12) ?_; (refine sc_p rfl rfl (by first | ((repeat' (exact SubL.nil)); done) | fail) (by first | (simp [bdL, bdL_append, AV.bd]; done) | fail) (awake17_fn) ?_); (refine su (ap_move (rq_p rfl rfl)) ?_); (refine sg (gq_vt rfl rfl) (fun he => ap_move (rq_p rfl rfl)) ?_); (refine sg (gq_vt rfl rfl) (fun he => ap_move (rq_p rfl rfl)) ?_); (refine sg (gq_vt rfl rfl) (fun he => ap_eql (rq_c rfl rfl) (rq_c rfl rfl)) ?_); (refine su (ap_and (rq_p rfl rfl) (rq_c rfl rfl)) ?_); (refine su (ap_move (rq_p rfl rfl)) ?_); (refine sg (gq_vt rfl rfl) (fun he => ap_load_pw (rq_p rfl rfl) (by rfl) (by rfl) (by rfl)) ?_); (refine sg (gq_vt rfl rfl) (fun he => ap_load_pw (rq_p rfl rfl) (by rfl) (by rfl) (by rfl)) ?_); (refine sg_p (gq_vt rfl rfl) (fun he => ⟨(rq_p rfl rfl), (RqL.cons (rq_c rfl rfl) (RqL.cons (rq_c rfl rfl) (RqL.nil))), (by first | ((repeat' first | exact SubL.nil | refine SubL.cons ?_ ?_ | exact Sub.refl); done) | fail), (by first | (simp [bdL, bdL_append, AV.bd]; done) | fail), requal_fn _ _⟩) ?_); (refine su (ap_and (rq_p rfl rfl) (rq_c rfl rfl)) ?_); (refine su (ap_assign (rq_p rfl rfl)) ?_); refine asemC_end ?_) | refine ret_b (by rfl) ?_))
      all_goals simp
end Go.Lg
