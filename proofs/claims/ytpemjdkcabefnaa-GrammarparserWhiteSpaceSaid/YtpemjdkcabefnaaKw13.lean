/-
  Part 13 of the proof of GrammarparserWhiteSpace: the logic over the model, the functions' contracts and the plain laws.
-/
import Derived.Test.YtpemjdkcabefnaaKw12

set_option linter.unusedSimpArgs false
set_option linter.unusedVariables false
set_option linter.unusedSectionVars false

namespace Go.Lg
open Go.Proofs
set_option linter.unusedSimpArgs false
set_option linter.unusedVariables false
attribute [local irreducible] Ap Rq asemC WP RunD Ret Gq thenA inBlockA bodyQ noGotoA RqL RqP OpP
set_option maxHeartbeats 16000000
set_option maxRecDepth 20000
def nxA (s : ByteArray) (k : Nat) : Nat := match lexL ((bl s).drop k) k with
  | [] => s.size
  | p :: _ => p.1
def nxN (s : ByteArray) (k : Nat) : Nat := match lexL ((bl s).drop k) k with
  | [] => 0
  | p :: _ => p.2.length
def nlB (c : Int) : Bool := !decide (c = 10)
theorem advance_fn (s : ByteArray) (hs : s.size ≤ 100000) (a n : Nat) (h : a + n ≤ s.size) (b : Bool) : FnO Try.prog 25 [.ptr 0 4 0 0] [psR s a n b] (.tup []) [some (psR s (nxA s (a + n)) (nxN s (a + n)) b)] := by
  generalize hA : nxA s (a + n) = A
  generalize hN : nxN s (a + n) = N
  unfold psR
  refine FnO.intro (by exact Nat.le_of_ble_eq_true rfl) (by rfl) (by kernel_rfl) Try.func25 rfl rfl Try.ntmps25 (by exact Nat.le_of_ble_eq_true rfl) ?_; intro Γ hm
  (repeat' (first | refine WP.seq ?_ | refine WP.block ?_ | refine go_n ?_ | (refine wp_draw (id := 0) 13 mixed (by kernel_rfl) (by kernel_rfl) rfl ?_ <;> (refine rd_u (by rfl) (by rfl) (ap_move (rq_p rfl rfl)) ?_) <;> (refine rd_u (by rfl) (by rfl) (ap_move (rq_p rfl rfl)) ?_) <;> (refine rd_u (by rfl) (by rfl) (ap_nilc (rq_p rfl rfl)) ?_) <;> (refine rd_u (by rfl) (by rfl) (ap_field_p (rq_p rfl rfl) (by rfl) (by rfl)) ?_) <;> (refine rd_u (by rfl) (by rfl) (ap_load_p (rq_p rfl rfl) (by rfl) (by rfl) (by rfl)) ?_) <;> (refine rd_u (by rfl) (by rfl) (ap_move (rq_p rfl rfl)) ?_) <;> (refine rd_u (by rfl) (by rfl) (ap_nilc (rq_p rfl rfl)) ?_) <;> (refine rd_u (by rfl) (by rfl) (ap_field_p (rq_p rfl rfl) (by rfl) (by rfl)) ?_) <;> (refine rd_u (by rfl) (by rfl) (ap_load_p (rq_p rfl rfl) (by rfl) (by rfl) (by rfl)) ?_) <;> (refine rd_u (by rfl) (by rfl) (ap_add (rq_p rfl rfl) (rq_p rfl rfl) (by exact inr_i64_of (by omega))) ?_) <;> (refine rd_u (by rfl) (by rfl) (ap_nilc (rq_p rfl rfl)) ?_) <;> (refine rd_u (by rfl) (by rfl) (ap_field_p (rq_p rfl rfl) (by rfl) (by rfl)) ?_) <;> (refine rd_store_b (by rfl) (by rfl) (by rfl) (by rfl) ?_) <;> (refine rd_end (by kernel_rfl) ?_))))
  refine wp_loop (fun (j : Nat) => j ≤ s.size ∧ lexL ((bl s).drop j) j = lexL ((bl s).drop (a + n)) (a + n)) (fun j => s.size - j) (fun j => (S 195 [(0, .ptr 0 4 0 0)] 1 [(0, some (psR s j n b))])) (a + n) ⟨[0], ToR.S rfl (by repeat' (first | exact rt_nil | refine rt_t (by rfl) (by rfl) ?_)) (by repeat' (first | exact ro_nil | refine ro_e (by rfl) (by rfl) ?_)) (by rfl) (by (rw [hm]; exact rfl)) (by rfl) (by (simp [bdT, AV.bd, bdL, bdL_append]; done)) (by repeat' (first | exact True.intro | exact rfl | refine And.intro ?_ ?_)) (by (rw [hm]; exact Nat.le_of_ble_eq_true rfl))⟩ ⟨h, rfl⟩ ?_
  rintro j ⟨hj, hjj⟩
  unfold psR
  by_cases hlt : j < s.size
  · obtain ⟨c, r, hd, hb, hr⟩ := bat_cons hlt
    have hB := isB_bat hb
    have h35 : (bAt s j = 35) ↔ c = 35 := by rw [hb]; exact u8eq c 35 (by decide)
    rw [hd, lexL_cons] at hjj
    cases hBc : isB c with
    | true =>
      have h35n : ¬ bAt s j = 35 := by
        intro q
        have : c = 35 := h35.1 q
        subst this
        cases hBc
      have hblk : blkB (bAt s j) = true := by unfold blkB; rw [← hB]; exact hBc
      rw [hBc] at hjj
      simp only [if_true] at hjj
      (repeat' (first | refine WP.seq ?_ | refine WP.block ?_ | refine go_n ?_ | refine WP.skip ?_ | refine WP.exit ?_ | refine go_x ?_ | refine bl_n ?_ | refine bl_x ?_ | (refine wp_cond (by rfl) (fun hc => ?_) (fun hc => ?_) <;> (try simp only [sB, ne_eq, reduceCtorEq] at hc) <;> (try (exfalso; omega))) | (refine wp_draw (id := 1) 34 mixed (by kernel_rfl) (by kernel_rfl) rfl ?_ <;> (refine rd_u (by rfl) (by rfl) (ap_move (rq_p rfl rfl)) ?_) <;> (refine rd_u (by rfl) (by rfl) (ap_nilc (rq_p rfl rfl)) ?_) <;> (refine rd_u (by rfl) (by rfl) (ap_field_p (rq_p rfl rfl) (by rfl) (by rfl)) ?_) <;> (refine rd_u (by rfl) (by rfl) (ap_load_p (rq_p rfl rfl) (by rfl) (by rfl) (by rfl)) ?_) <;> (refine rd_u (by rfl) (by rfl) (ap_move (rq_p rfl rfl)) ?_) <;> (refine rd_u (by rfl) (by rfl) (ap_nilc (rq_p rfl rfl)) ?_) <;> (refine rd_u (by rfl) (by rfl) (ap_field_p (rq_p rfl rfl) (by rfl) (by rfl)) ?_) <;> (refine rd_u (by rfl) (by rfl) (ap_load_p (rq_p rfl rfl) (by rfl) (by rfl) (by rfl)) ?_) <;> (refine rd_u (by rfl) (by rfl) (ap_len_str (by rfl) (rq_p rfl rfl)) ?_) <;> (refine rd_u (by rfl) (by rfl) (ap_lss (rq_p rfl rfl) (rq_p rfl rfl)) ?_) <;> (refine rd_u (by rfl) (by rfl) (ap_move (rq_p rfl rfl)) ?_) <;> ((refine rd_split (t := 25) (by rfl) (fun hc => ?_) (fun hc => ?_) <;> (try simp only [sB, ne_eq, reduceCtorEq] at hc) <;> (try (exfalso; omega)) <;> (refine rdg_u rfl rfl (by rfl) (by rfl) (ap_move (rq_p rfl rfl)) ?_))) <;> (refine rdg_u rfl rfl (by rfl) (by rfl) (ap_nilc (rq_p rfl rfl)) ?_) <;> (refine rdg_u rfl rfl (by rfl) (by rfl) (ap_field_p (rq_p rfl rfl) (by rfl) (by rfl)) ?_) <;> (refine rdg_u rfl rfl (by rfl) (by rfl) (ap_load_p (rq_p rfl rfl) (by rfl) (by rfl) (by rfl)) ?_) <;> (refine rdg_u rfl rfl (by rfl) (by rfl) (ap_move (rq_p rfl rfl)) ?_) <;> (refine rdg_u rfl rfl (by rfl) (by rfl) (ap_nilc (rq_p rfl rfl)) ?_) <;> (refine rdg_u rfl rfl (by rfl) (by rfl) (ap_field_p (rq_p rfl rfl) (by rfl) (by rfl)) ?_) <;> (refine rdg_u rfl rfl (by rfl) (by rfl) (ap_load_p (rq_p rfl rfl) (by rfl) (by rfl) (by rfl)) ?_) <;> (refine rdg_u rfl rfl (by rfl) (by rfl) (ap_sidx_n (rq_p rfl rfl) (rq_p rfl rfl) (by rfl) (by omega)) ?_) <;> (refine rdg_call rfl (by rfl) rfl rfl (by first | ((repeat' first | exact SubL.nil | refine SubL.cons ?_ ?_ | exact Sub.refl); done) | fail) (by first | (simp [bdL, bdL_append, AV.bd]; done) | fail) (rblank17_fn _) ?_) <;> (refine rdg_u rfl rfl (by rfl) (by rfl) (ap_move (rq_p rfl rfl)) ?_) <;> ((refine rd_split (t := 36) (by rfl) (fun hc => ?_) (fun hc => ?_) <;> (try simp only [sB, ne_eq, reduceCtorEq] at hc) <;> (try (exfalso; omega)) <;> (first | refine rd_skip rfl rfl ?_ | refine rdg_u rfl rfl (by rfl) (by rfl) (ap_move (rq_p rfl rfl)) ?_))) <;> (first | refine rd_skip rfl rfl ?_ | refine rdg_u rfl rfl (by rfl) (by rfl) (ap_nilc (rq_p rfl rfl)) ?_) <;> (first | refine rd_skip rfl rfl ?_ | refine rdg_u rfl rfl (by rfl) (by rfl) (ap_field_p (rq_p rfl rfl) (by rfl) (by rfl)) ?_) <;> (first | refine rd_skip rfl rfl ?_ | refine rdg_u rfl rfl (by rfl) (by rfl) (ap_load_p (rq_p rfl rfl) (by rfl) (by rfl) (by rfl)) ?_) <;> (first | refine rd_skip rfl rfl ?_ | refine rdg_u rfl rfl (by rfl) (by rfl) (ap_move (rq_p rfl rfl)) ?_) <;> (first | refine rd_skip rfl rfl ?_ | refine rdg_u rfl rfl (by rfl) (by rfl) (ap_nilc (rq_p rfl rfl)) ?_) <;> (first | refine rd_skip rfl rfl ?_ | refine rdg_u rfl rfl (by rfl) (by rfl) (ap_field_p (rq_p rfl rfl) (by rfl) (by rfl)) ?_) <;> (first | refine rd_skip rfl rfl ?_ | refine rdg_u rfl rfl (by rfl) (by rfl) (ap_load_p (rq_p rfl rfl) (by rfl) (by rfl) (by rfl)) ?_) <;> (first | refine rd_skip rfl rfl ?_ | refine rdg_u rfl rfl (by rfl) (by rfl) (ap_sidx_n (rq_p rfl rfl) (rq_p rfl rfl) (by rfl) (by omega)) ?_) <;> (first | refine rd_skip rfl rfl ?_ | refine rdg_u rfl rfl (by rfl) (by rfl) (ap_eql (rq_p rfl rfl) (rq_p rfl rfl)) ?_) <;> (first | refine rdg_pick_t rfl (by rfl) (by rfl) (by rfl) ?_ | refine rdg_pick_f rfl (by rfl) (by rfl) (by rfl) ?_) <;> (refine rd_pick_t (by rfl) (by rfl) ?_) <;> (refine rd_end (by kernel_rfl) ?_)) | (refine wp_draw (id := 2) 10 mixed (by kernel_rfl) (by kernel_rfl) rfl ?_ <;> (refine rd_u (by rfl) (by rfl) (ap_move (rq_p rfl rfl)) ?_) <;> (refine rd_u (by rfl) (by rfl) (ap_nilc (rq_p rfl rfl)) ?_) <;> (refine rd_u (by rfl) (by rfl) (ap_field_p (rq_p rfl rfl) (by rfl) (by rfl)) ?_) <;> (refine rd_u (by rfl) (by rfl) (ap_load_p (rq_p rfl rfl) (by rfl) (by rfl) (by rfl)) ?_) <;> (refine rd_u (by rfl) (by rfl) (ap_move (rq_p rfl rfl)) ?_) <;> (refine rd_u (by rfl) (by rfl) (ap_nilc (rq_p rfl rfl)) ?_) <;> (refine rd_u (by rfl) (by rfl) (ap_field_p (rq_p rfl rfl) (by rfl) (by rfl)) ?_) <;> (refine rd_u (by rfl) (by rfl) (ap_load_p (rq_p rfl rfl) (by rfl) (by rfl) (by rfl)) ?_) <;> (refine rd_u (by rfl) (by rfl) (ap_sidx_n (rq_p rfl rfl) (rq_p rfl rfl) (by rfl) (by omega)) ?_) <;> (refine rd_u (by rfl) (by rfl) (ap_eql (rq_p rfl rfl) (rq_p rfl rfl)) ?_) <;> (refine rd_end (by kernel_rfl) ?_)) | (refine WP.regionC (id := 5) ?_; (refine su (ap_move (rq_p rfl rfl)) ?_); (refine su (ap_nilc (rq_p rfl rfl)) ?_); (refine su (ap_field_p (rq_p rfl rfl) (by rfl) (by rfl)) ?_); (refine su (ap_load_p (rq_p rfl rfl) (by rfl) (by rfl) (by rfl)) ?_); (refine su (ap_add (rq_p rfl rfl) (rq_p rfl rfl) (by exact inr_i64_of (by omega))) ?_); (refine su (ap_nilc (rq_p rfl rfl)) ?_); (refine su (ap_field_p (rq_p rfl rfl) (by rfl) (by rfl)) ?_); (refine se_store_b (by rfl) (by rfl) (by rfl) (by rfl) ?_); refine asemC_end ?_)))
      all_goals (first | (exfalso; simp_all; done) | exact ⟨j + 1, ⟨by omega, by omega, by rw [← hjj, hr]⟩, ⟨[0], ToR.S rfl (by repeat' (first | exact rt_nil | refine rt_t (by rfl) (by rfl) ?_)) (by repeat' (first | exact ro_nil | refine ro_e (by rfl) (by rfl) ?_)) (by rfl) (by (rw [hm]; exact rfl)) (by rfl) (by (simp [bdT, AV.bd, bdL, bdL_append]; done)) (by repeat' (first | exact True.intro | exact rfl | refine And.intro ?_ ?_)) (by (rw [hm]; exact Nat.le_of_ble_eq_true rfl))⟩⟩)
    | false =>
      have hblk : blkB (bAt s j) = false := by unfold blkB; rw [← hB]; exact hBc
      rw [hBc] at hjj
      simp only [Bool.false_eq_true, if_false] at hjj
      by_cases hc35 : c = 35
      · have h35e : bAt s j = 35 := h35.2 hc35
        rw [if_pos hc35] at hjj
        have hp1 : spanN nlB s j = comN r + 1 := by
          rw [spanN_step hlt (by rw [h35e]; rfl), spanN_r hr]
          unfold comN
          congr 2
          congr 1
          funext d
          have := u8eq d 10 (by decide)
          simp only [Int.cast_ofNat_Int] at this
          simp only [nlB, this]
          rfl
        (repeat' (first | refine WP.seq ?_ | refine WP.block ?_ | refine go_n ?_ | refine WP.skip ?_ | (refine wp_cond (by rfl) (fun hc => ?_) (fun hc => ?_) <;> (try simp only [sB, ne_eq, reduceCtorEq] at hc) <;> (try (exfalso; omega))) | (refine wp_draw (id := 1) 34 mixed (by kernel_rfl) (by kernel_rfl) rfl ?_ <;> (refine rd_u (by rfl) (by rfl) (ap_move (rq_p rfl rfl)) ?_) <;> (refine rd_u (by rfl) (by rfl) (ap_nilc (rq_p rfl rfl)) ?_) <;> (refine rd_u (by rfl) (by rfl) (ap_field_p (rq_p rfl rfl) (by rfl) (by rfl)) ?_) <;> (refine rd_u (by rfl) (by rfl) (ap_load_p (rq_p rfl rfl) (by rfl) (by rfl) (by rfl)) ?_) <;> (refine rd_u (by rfl) (by rfl) (ap_move (rq_p rfl rfl)) ?_) <;> (refine rd_u (by rfl) (by rfl) (ap_nilc (rq_p rfl rfl)) ?_) <;> (refine rd_u (by rfl) (by rfl) (ap_field_p (rq_p rfl rfl) (by rfl) (by rfl)) ?_) <;> (refine rd_u (by rfl) (by rfl) (ap_load_p (rq_p rfl rfl) (by rfl) (by rfl) (by rfl)) ?_) <;> (refine rd_u (by rfl) (by rfl) (ap_len_str (by rfl) (rq_p rfl rfl)) ?_) <;> (refine rd_u (by rfl) (by rfl) (ap_lss (rq_p rfl rfl) (rq_p rfl rfl)) ?_) <;> (refine rd_u (by rfl) (by rfl) (ap_move (rq_p rfl rfl)) ?_) <;> ((refine rd_split (t := 25) (by rfl) (fun hc => ?_) (fun hc => ?_) <;> (try simp only [sB, ne_eq, reduceCtorEq] at hc) <;> (try (exfalso; omega)) <;> (refine rdg_u rfl rfl (by rfl) (by rfl) (ap_move (rq_p rfl rfl)) ?_))) <;> (refine rdg_u rfl rfl (by rfl) (by rfl) (ap_nilc (rq_p rfl rfl)) ?_) <;> (refine rdg_u rfl rfl (by rfl) (by rfl) (ap_field_p (rq_p rfl rfl) (by rfl) (by rfl)) ?_) <;> (refine rdg_u rfl rfl (by rfl) (by rfl) (ap_load_p (rq_p rfl rfl) (by rfl) (by rfl) (by rfl)) ?_) <;> (refine rdg_u rfl rfl (by rfl) (by rfl) (ap_move (rq_p rfl rfl)) ?_) <;> (refine rdg_u rfl rfl (by rfl) (by rfl) (ap_nilc (rq_p rfl rfl)) ?_) <;> (refine rdg_u rfl rfl (by rfl) (by rfl) (ap_field_p (rq_p rfl rfl) (by rfl) (by rfl)) ?_) <;> (refine rdg_u rfl rfl (by rfl) (by rfl) (ap_load_p (rq_p rfl rfl) (by rfl) (by rfl) (by rfl)) ?_) <;> (refine rdg_u rfl rfl (by rfl) (by rfl) (ap_sidx_n (rq_p rfl rfl) (rq_p rfl rfl) (by rfl) (by omega)) ?_) <;> (refine rdg_call rfl (by rfl) rfl rfl (by first | ((repeat' first | exact SubL.nil | refine SubL.cons ?_ ?_ | exact Sub.refl); done) | fail) (by first | (simp [bdL, bdL_append, AV.bd]; done) | fail) (rblank17_fn _) ?_) <;> (refine rdg_u rfl rfl (by rfl) (by rfl) (ap_move (rq_p rfl rfl)) ?_) <;> ((refine rd_split (t := 36) (by rfl) (fun hc => ?_) (fun hc => ?_) <;> (try simp only [sB, ne_eq, reduceCtorEq] at hc) <;> (try (exfalso; omega)) <;> (first | refine rd_skip rfl rfl ?_ | refine rdg_u rfl rfl (by rfl) (by rfl) (ap_move (rq_p rfl rfl)) ?_))) <;> (first | refine rd_skip rfl rfl ?_ | refine rdg_u rfl rfl (by rfl) (by rfl) (ap_nilc (rq_p rfl rfl)) ?_) <;> (first | refine rd_skip rfl rfl ?_ | refine rdg_u rfl rfl (by rfl) (by rfl) (ap_field_p (rq_p rfl rfl) (by rfl) (by rfl)) ?_) <;> (first | refine rd_skip rfl rfl ?_ | refine rdg_u rfl rfl (by rfl) (by rfl) (ap_load_p (rq_p rfl rfl) (by rfl) (by rfl) (by rfl)) ?_) <;> (first | refine rd_skip rfl rfl ?_ | refine rdg_u rfl rfl (by rfl) (by rfl) (ap_move (rq_p rfl rfl)) ?_) <;> (first | refine rd_skip rfl rfl ?_ | refine rdg_u rfl rfl (by rfl) (by rfl) (ap_nilc (rq_p rfl rfl)) ?_) <;> (first | refine rd_skip rfl rfl ?_ | refine rdg_u rfl rfl (by rfl) (by rfl) (ap_field_p (rq_p rfl rfl) (by rfl) (by rfl)) ?_) <;> (first | refine rd_skip rfl rfl ?_ | refine rdg_u rfl rfl (by rfl) (by rfl) (ap_load_p (rq_p rfl rfl) (by rfl) (by rfl) (by rfl)) ?_) <;> (first | refine rd_skip rfl rfl ?_ | refine rdg_u rfl rfl (by rfl) (by rfl) (ap_sidx_n (rq_p rfl rfl) (rq_p rfl rfl) (by rfl) (by omega)) ?_) <;> (first | refine rd_skip rfl rfl ?_ | refine rdg_u rfl rfl (by rfl) (by rfl) (ap_eql (rq_p rfl rfl) (rq_p rfl rfl)) ?_) <;> (first | refine rdg_pick_t rfl (by rfl) (by rfl) (by rfl) ?_ | refine rdg_pick_f rfl (by rfl) (by rfl) (by rfl) ?_) <;> (refine rd_pick_t (by rfl) (by rfl) ?_) <;> (refine rd_end (by kernel_rfl) ?_)) | (refine wp_draw (id := 2) 10 mixed (by kernel_rfl) (by kernel_rfl) rfl ?_ <;> (refine rd_u (by rfl) (by rfl) (ap_move (rq_p rfl rfl)) ?_) <;> (refine rd_u (by rfl) (by rfl) (ap_nilc (rq_p rfl rfl)) ?_) <;> (refine rd_u (by rfl) (by rfl) (ap_field_p (rq_p rfl rfl) (by rfl) (by rfl)) ?_) <;> (refine rd_u (by rfl) (by rfl) (ap_load_p (rq_p rfl rfl) (by rfl) (by rfl) (by rfl)) ?_) <;> (refine rd_u (by rfl) (by rfl) (ap_move (rq_p rfl rfl)) ?_) <;> (refine rd_u (by rfl) (by rfl) (ap_nilc (rq_p rfl rfl)) ?_) <;> (refine rd_u (by rfl) (by rfl) (ap_field_p (rq_p rfl rfl) (by rfl) (by rfl)) ?_) <;> (refine rd_u (by rfl) (by rfl) (ap_load_p (rq_p rfl rfl) (by rfl) (by rfl) (by rfl)) ?_) <;> (refine rd_u (by rfl) (by rfl) (ap_sidx_n (rq_p rfl rfl) (rq_p rfl rfl) (by rfl) (by omega)) ?_) <;> (refine rd_u (by rfl) (by rfl) (ap_eql (rq_p rfl rfl) (rq_p rfl rfl)) ?_) <;> (refine rd_end (by kernel_rfl) ?_))))
        all_goals (first | (exfalso; simp_all; done) | skip)
        refine wp_loop (fun (i : Nat) => j ≤ i ∧ i ≤ s.size ∧ i + spanN nlB s i = j + spanN nlB s j) (fun i => s.size - i) (fun i => (S 195 [(0, .ptr 0 4 0 0)] 1 [(0, some (psR s i n b))])) j ⟨[0], ToR.S rfl (by repeat' (first | exact rt_nil | refine rt_t (by rfl) (by rfl) ?_)) (by repeat' (first | exact ro_nil | refine ro_e (by rfl) (by rfl) ?_)) (by rfl) (by (rw [hm]; exact rfl)) (by rfl) (by (simp [bdT, AV.bd, bdL, bdL_append]; done)) (by repeat' (first | exact True.intro | exact rfl | refine And.intro ?_ ?_)) (by (rw [hm]; exact Nat.le_of_ble_eq_true rfl))⟩ ⟨Nat.le_refl _, hj, rfl⟩ ?_
        rintro i ⟨hi1, hi2, hi3⟩
        unfold psR
        by_cases hil : i < s.size
        · cases hnl : nlB (bAt s i) with
          | true =>
            have hst := spanN_step hil hnl
            have hn10 : ¬ bAt s i = 10 := by
              intro q
              rw [q] at hnl
              cases hnl
            (repeat' (first | refine WP.seq ?_ | refine WP.block ?_ | refine go_n ?_ | refine WP.skip ?_ | refine bl_n ?_ | (refine wp_cond (by rfl) (fun hc => ?_) (fun hc => ?_) <;> (try simp only [sB, ne_eq, reduceCtorEq] at hc) <;> (try (exfalso; omega))) | (refine wp_draw (id := 3) 22 mixed (by kernel_rfl) (by kernel_rfl) rfl ?_ <;> (refine rd_u (by rfl) (by rfl) (ap_move (rq_p rfl rfl)) ?_) <;> (refine rd_u (by rfl) (by rfl) (ap_nilc (rq_p rfl rfl)) ?_) <;> (refine rd_u (by rfl) (by rfl) (ap_field_p (rq_p rfl rfl) (by rfl) (by rfl)) ?_) <;> (refine rd_u (by rfl) (by rfl) (ap_load_p (rq_p rfl rfl) (by rfl) (by rfl) (by rfl)) ?_) <;> (refine rd_u (by rfl) (by rfl) (ap_move (rq_p rfl rfl)) ?_) <;> (refine rd_u (by rfl) (by rfl) (ap_nilc (rq_p rfl rfl)) ?_) <;> (refine rd_u (by rfl) (by rfl) (ap_field_p (rq_p rfl rfl) (by rfl) (by rfl)) ?_) <;> (refine rd_u (by rfl) (by rfl) (ap_load_p (rq_p rfl rfl) (by rfl) (by rfl) (by rfl)) ?_) <;> (refine rd_u (by rfl) (by rfl) (ap_len_str (by rfl) (rq_p rfl rfl)) ?_) <;> (refine rd_u (by rfl) (by rfl) (ap_lss (rq_p rfl rfl) (rq_p rfl rfl)) ?_) <;> (refine rd_u (by rfl) (by rfl) (ap_move (rq_p rfl rfl)) ?_) <;> ((refine rd_split (t := 69) (by rfl) (fun hc => ?_) (fun hc => ?_) <;> (try simp only [sB, ne_eq, reduceCtorEq] at hc) <;> (try (exfalso; omega)) <;> (refine rdg_u rfl rfl (by rfl) (by rfl) (ap_move (rq_p rfl rfl)) ?_))) <;> (refine rdg_u rfl rfl (by rfl) (by rfl) (ap_nilc (rq_p rfl rfl)) ?_) <;> (refine rdg_u rfl rfl (by rfl) (by rfl) (ap_field_p (rq_p rfl rfl) (by rfl) (by rfl)) ?_) <;> (refine rdg_u rfl rfl (by rfl) (by rfl) (ap_load_p (rq_p rfl rfl) (by rfl) (by rfl) (by rfl)) ?_) <;> (refine rdg_u rfl rfl (by rfl) (by rfl) (ap_move (rq_p rfl rfl)) ?_) <;> (refine rdg_u rfl rfl (by rfl) (by rfl) (ap_nilc (rq_p rfl rfl)) ?_) <;> (refine rdg_u rfl rfl (by rfl) (by rfl) (ap_field_p (rq_p rfl rfl) (by rfl) (by rfl)) ?_) <;> (refine rdg_u rfl rfl (by rfl) (by rfl) (ap_load_p (rq_p rfl rfl) (by rfl) (by rfl) (by rfl)) ?_) <;> (refine rdg_u rfl rfl (by rfl) (by rfl) (ap_sidx_n (rq_p rfl rfl) (rq_p rfl rfl) (by rfl) (by omega)) ?_) <;> (refine rdg_u rfl rfl (by rfl) (by rfl) (ap_neq (rq_p rfl rfl) (rq_p rfl rfl)) ?_) <;> (refine rd_pick_t (by rfl) (by rfl) ?_) <;> (refine rd_end (by kernel_rfl) ?_)) | (refine WP.regionC (id := 4) ?_; (refine su (ap_move (rq_p rfl rfl)) ?_); (refine su (ap_nilc (rq_p rfl rfl)) ?_); (refine su (ap_field_p (rq_p rfl rfl) (by rfl) (by rfl)) ?_); (refine su (ap_load_p (rq_p rfl rfl) (by rfl) (by rfl) (by rfl)) ?_); (refine su (ap_add (rq_p rfl rfl) (rq_p rfl rfl) (by exact inr_i64_of (by omega))) ?_); (refine su (ap_nilc (rq_p rfl rfl)) ?_); (refine su (ap_field_p (rq_p rfl rfl) (by rfl) (by rfl)) ?_); (refine se_store_b (by rfl) (by rfl) (by rfl) (by rfl) ?_); refine asemC_end ?_)))
            all_goals (exact ⟨i + 1, ⟨by omega, by omega, by omega, by omega⟩, ⟨[0], ToR.S rfl (by repeat' (first | exact rt_nil | refine rt_t (by rfl) (by rfl) ?_)) (by repeat' (first | exact ro_nil | refine ro_e (by rfl) (by rfl) ?_)) (by rfl) (by (rw [hm]; exact rfl)) (by rfl) (by (simp [bdT, AV.bd, bdL, bdL_append]; done)) (by repeat' (first | exact True.intro | exact rfl | refine And.intro ?_ ?_)) (by (rw [hm]; exact Nat.le_of_ble_eq_true rfl))⟩⟩)
          | false =>
            have hst := spanN_stop (p := nlB) (s := s) (k := i) fun _ => hnl
            have hn10 : bAt s i = 10 := by
              simp only [nlB, Bool.not_eq_false', decide_eq_true_eq] at hnl
              exact hnl
            have hiq : i = j + (comN r + 1) := by omega
            have hnx : lexL ((bl s).drop i) i = lexL ((bl s).drop (a + n)) (a + n) := by
              rw [hiq, drop_add hd, ← hjj, show j + (comN r + 1) = j + 1 + comN r by omega]
              rfl
            (repeat' (first | refine WP.seq ?_ | refine go_n ?_ | refine WP.exit ?_ | refine go_x ?_ | refine bl_x ?_ | (refine wp_cond (by rfl) (fun hc => ?_) (fun hc => ?_) <;> (try simp only [sB, ne_eq, reduceCtorEq] at hc) <;> (try (exfalso; omega))) | (refine wp_draw (id := 3) 22 mixed (by kernel_rfl) (by kernel_rfl) rfl ?_ <;> (refine rd_u (by rfl) (by rfl) (ap_move (rq_p rfl rfl)) ?_) <;> (refine rd_u (by rfl) (by rfl) (ap_nilc (rq_p rfl rfl)) ?_) <;> (refine rd_u (by rfl) (by rfl) (ap_field_p (rq_p rfl rfl) (by rfl) (by rfl)) ?_) <;> (refine rd_u (by rfl) (by rfl) (ap_load_p (rq_p rfl rfl) (by rfl) (by rfl) (by rfl)) ?_) <;> (refine rd_u (by rfl) (by rfl) (ap_move (rq_p rfl rfl)) ?_) <;> (refine rd_u (by rfl) (by rfl) (ap_nilc (rq_p rfl rfl)) ?_) <;> (refine rd_u (by rfl) (by rfl) (ap_field_p (rq_p rfl rfl) (by rfl) (by rfl)) ?_) <;> (refine rd_u (by rfl) (by rfl) (ap_load_p (rq_p rfl rfl) (by rfl) (by rfl) (by rfl)) ?_) <;> (refine rd_u (by rfl) (by rfl) (ap_len_str (by rfl) (rq_p rfl rfl)) ?_) <;> (refine rd_u (by rfl) (by rfl) (ap_lss (rq_p rfl rfl) (rq_p rfl rfl)) ?_) <;> (refine rd_u (by rfl) (by rfl) (ap_move (rq_p rfl rfl)) ?_) <;> ((refine rd_split (t := 69) (by rfl) (fun hc => ?_) (fun hc => ?_) <;> (try simp only [sB, ne_eq, reduceCtorEq] at hc) <;> (try (exfalso; omega)) <;> (refine rdg_u rfl rfl (by rfl) (by rfl) (ap_move (rq_p rfl rfl)) ?_))) <;> (refine rdg_u rfl rfl (by rfl) (by rfl) (ap_nilc (rq_p rfl rfl)) ?_) <;> (refine rdg_u rfl rfl (by rfl) (by rfl) (ap_field_p (rq_p rfl rfl) (by rfl) (by rfl)) ?_) <;> (refine rdg_u rfl rfl (by rfl) (by rfl) (ap_load_p (rq_p rfl rfl) (by rfl) (by rfl) (by rfl)) ?_) <;> (refine rdg_u rfl rfl (by rfl) (by rfl) (ap_move (rq_p rfl rfl)) ?_) <;> (refine rdg_u rfl rfl (by rfl) (by rfl) (ap_nilc (rq_p rfl rfl)) ?_) <;> (refine rdg_u rfl rfl (by rfl) (by rfl) (ap_field_p (rq_p rfl rfl) (by rfl) (by rfl)) ?_) <;> (refine rdg_u rfl rfl (by rfl) (by rfl) (ap_load_p (rq_p rfl rfl) (by rfl) (by rfl) (by rfl)) ?_) <;> (refine rdg_u rfl rfl (by rfl) (by rfl) (ap_sidx_n (rq_p rfl rfl) (rq_p rfl rfl) (by rfl) (by omega)) ?_) <;> (refine rdg_u rfl rfl (by rfl) (by rfl) (ap_neq (rq_p rfl rfl) (rq_p rfl rfl)) ?_) <;> (refine rd_pick_t (by rfl) (by rfl) ?_) <;> (refine rd_end (by kernel_rfl) ?_))))
            all_goals (exact ⟨i, ⟨by omega, hi2, hnx⟩, ⟨[0], ToR.S rfl (by repeat' (first | exact rt_nil | refine rt_t (by rfl) (by rfl) ?_)) (by repeat' (first | exact ro_nil | refine ro_e (by rfl) (by rfl) ?_)) (by rfl) (by (rw [hm]; exact rfl)) (by rfl) (by (simp [bdT, AV.bd, bdL, bdL_append]; done)) (by repeat' (first | exact True.intro | exact rfl | refine And.intro ?_ ?_)) (by (rw [hm]; exact Nat.le_of_ble_eq_true rfl))⟩⟩)
        · have hst := spanN_stop (p := nlB) (s := s) (k := i) fun q => absurd q hil
          have hiq : i = j + (comN r + 1) := by omega
          have hnx : lexL ((bl s).drop i) i = lexL ((bl s).drop (a + n)) (a + n) := by
            rw [hiq, drop_add hd, ← hjj, show j + (comN r + 1) = j + 1 + comN r by omega]
            rfl
          (repeat' (first | refine WP.seq ?_ | refine go_n ?_ | refine WP.exit ?_ | refine go_x ?_ | refine bl_x ?_ | (refine wp_cond (by rfl) (fun hc => ?_) (fun hc => ?_) <;> (try simp only [sB, ne_eq, reduceCtorEq] at hc) <;> (try (exfalso; omega))) | (refine wp_draw (id := 3) 22 mixed (by kernel_rfl) (by kernel_rfl) rfl ?_ <;> (refine rd_u (by rfl) (by rfl) (ap_move (rq_p rfl rfl)) ?_) <;> (refine rd_u (by rfl) (by rfl) (ap_nilc (rq_p rfl rfl)) ?_) <;> (refine rd_u (by rfl) (by rfl) (ap_field_p (rq_p rfl rfl) (by rfl) (by rfl)) ?_) <;> (refine rd_u (by rfl) (by rfl) (ap_load_p (rq_p rfl rfl) (by rfl) (by rfl) (by rfl)) ?_) <;> (refine rd_u (by rfl) (by rfl) (ap_move (rq_p rfl rfl)) ?_) <;> (refine rd_u (by rfl) (by rfl) (ap_nilc (rq_p rfl rfl)) ?_) <;> (refine rd_u (by rfl) (by rfl) (ap_field_p (rq_p rfl rfl) (by rfl) (by rfl)) ?_) <;> (refine rd_u (by rfl) (by rfl) (ap_load_p (rq_p rfl rfl) (by rfl) (by rfl) (by rfl)) ?_) <;> (refine rd_u (by rfl) (by rfl) (ap_len_str (by rfl) (rq_p rfl rfl)) ?_) <;> (refine rd_u (by rfl) (by rfl) (ap_lss (rq_p rfl rfl) (rq_p rfl rfl)) ?_) <;> (refine rd_u (by rfl) (by rfl) (ap_move (rq_p rfl rfl)) ?_) <;> ((refine rd_split (t := 69) (by rfl) (fun hc => ?_) (fun hc => ?_) <;> (try simp only [sB, ne_eq, reduceCtorEq] at hc) <;> (try (exfalso; omega)) <;> (refine rd_skip rfl rfl ?_))) <;> (refine rd_skip rfl rfl ?_) <;> (refine rd_skip rfl rfl ?_) <;> (refine rd_skip rfl rfl ?_) <;> (refine rd_skip rfl rfl ?_) <;> (refine rd_skip rfl rfl ?_) <;> (refine rd_skip rfl rfl ?_) <;> (refine rd_skip rfl rfl ?_) <;> (refine rd_skip rfl rfl ?_) <;> (refine rd_skip rfl rfl ?_) <;> (refine rd_pick_f (by rfl) (by rfl) ?_) <;> (refine rd_end (by kernel_rfl) ?_))))
          all_goals (exact ⟨i, ⟨by omega, hi2, hnx⟩, ⟨[0], ToR.S rfl (by repeat' (first | exact rt_nil | refine rt_t (by rfl) (by rfl) ?_)) (by repeat' (first | exact ro_nil | refine ro_e (by rfl) (by rfl) ?_)) (by rfl) (by (rw [hm]; exact rfl)) (by rfl) (by (simp [bdT, AV.bd, bdL, bdL_append]; done)) (by repeat' (first | exact True.intro | exact rfl | refine And.intro ?_ ?_)) (by (rw [hm]; exact Nat.le_of_ble_eq_true rfl))⟩⟩)
      · have h35n : ¬ bAt s j = 35 := fun q => hc35 (h35.1 q)
        rw [if_neg hc35] at hjj
        have htl : ((c :: r).take (tokN (c :: r))).length = tokN (c :: r) := by rw [List.length_take]; have := tokN_le (c :: r); omega
        have hAj : A = j := by rw [← hA]; unfold nxA; rw [← hjj]
        have hNj : N = tokN (c :: r) := by rw [← hN]; unfold nxN; rw [← hjj]; exact htl
        have htp := tokN_pos c r
        have hzz : ∀ z : Nat, z = j + tokN (c :: r) → ((z : Int) - (j : Int)) = ((tokN (c :: r) : Nat) : Int) := fun z hz => by omega
        have hLB : letB (bAt s j) = isL c := by rw [hb]; rfl
        have hDB : digB (bAt s j) = isD c := by rw [hb]; rfl
        (repeat' (first | refine WP.seq ?_ | refine WP.block ?_ | refine go_n ?_ | refine WP.skip ?_ | refine WP.exit ?_ | refine go_x ?_ | refine bl_x ?_ | (refine wp_cond (by rfl) (fun hc => ?_) (fun hc => ?_) <;> (try simp only [sB, ne_eq, reduceCtorEq] at hc) <;> (try (exfalso; omega))) | (refine wp_draw (id := 1) 34 mixed (by kernel_rfl) (by kernel_rfl) rfl ?_ <;> (refine rd_u (by rfl) (by rfl) (ap_move (rq_p rfl rfl)) ?_) <;> (refine rd_u (by rfl) (by rfl) (ap_nilc (rq_p rfl rfl)) ?_) <;> (refine rd_u (by rfl) (by rfl) (ap_field_p (rq_p rfl rfl) (by rfl) (by rfl)) ?_) <;> (refine rd_u (by rfl) (by rfl) (ap_load_p (rq_p rfl rfl) (by rfl) (by rfl) (by rfl)) ?_) <;> (refine rd_u (by rfl) (by rfl) (ap_move (rq_p rfl rfl)) ?_) <;> (refine rd_u (by rfl) (by rfl) (ap_nilc (rq_p rfl rfl)) ?_) <;> (refine rd_u (by rfl) (by rfl) (ap_field_p (rq_p rfl rfl) (by rfl) (by rfl)) ?_) <;> (refine rd_u (by rfl) (by rfl) (ap_load_p (rq_p rfl rfl) (by rfl) (by rfl) (by rfl)) ?_) <;> (refine rd_u (by rfl) (by rfl) (ap_len_str (by rfl) (rq_p rfl rfl)) ?_) <;> (refine rd_u (by rfl) (by rfl) (ap_lss (rq_p rfl rfl) (rq_p rfl rfl)) ?_) <;> (refine rd_u (by rfl) (by rfl) (ap_move (rq_p rfl rfl)) ?_) <;> ((refine rd_split (t := 25) (by rfl) (fun hc => ?_) (fun hc => ?_) <;> (try simp only [sB, ne_eq, reduceCtorEq] at hc) <;> (try (exfalso; omega)) <;> (refine rdg_u rfl rfl (by rfl) (by rfl) (ap_move (rq_p rfl rfl)) ?_))) <;> (refine rdg_u rfl rfl (by rfl) (by rfl) (ap_nilc (rq_p rfl rfl)) ?_) <;> (refine rdg_u rfl rfl (by rfl) (by rfl) (ap_field_p (rq_p rfl rfl) (by rfl) (by rfl)) ?_) <;> (refine rdg_u rfl rfl (by rfl) (by rfl) (ap_load_p (rq_p rfl rfl) (by rfl) (by rfl) (by rfl)) ?_) <;> (refine rdg_u rfl rfl (by rfl) (by rfl) (ap_move (rq_p rfl rfl)) ?_) <;> (refine rdg_u rfl rfl (by rfl) (by rfl) (ap_nilc (rq_p rfl rfl)) ?_) <;> (refine rdg_u rfl rfl (by rfl) (by rfl) (ap_field_p (rq_p rfl rfl) (by rfl) (by rfl)) ?_) <;> (refine rdg_u rfl rfl (by rfl) (by rfl) (ap_load_p (rq_p rfl rfl) (by rfl) (by rfl) (by rfl)) ?_) <;> (refine rdg_u rfl rfl (by rfl) (by rfl) (ap_sidx_n (rq_p rfl rfl) (rq_p rfl rfl) (by rfl) (by omega)) ?_) <;> (refine rdg_call rfl (by rfl) rfl rfl (by first | ((repeat' first | exact SubL.nil | refine SubL.cons ?_ ?_ | exact Sub.refl); done) | fail) (by first | (simp [bdL, bdL_append, AV.bd]; done) | fail) (rblank17_fn _) ?_) <;> (refine rdg_u rfl rfl (by rfl) (by rfl) (ap_move (rq_p rfl rfl)) ?_) <;> ((refine rd_split (t := 36) (by rfl) (fun hc => ?_) (fun hc => ?_) <;> (try simp only [sB, ne_eq, reduceCtorEq] at hc) <;> (try (exfalso; omega)) <;> (first | refine rd_skip rfl rfl ?_ | refine rdg_u rfl rfl (by rfl) (by rfl) (ap_move (rq_p rfl rfl)) ?_))) <;> (first | refine rd_skip rfl rfl ?_ | refine rdg_u rfl rfl (by rfl) (by rfl) (ap_nilc (rq_p rfl rfl)) ?_) <;> (first | refine rd_skip rfl rfl ?_ | refine rdg_u rfl rfl (by rfl) (by rfl) (ap_field_p (rq_p rfl rfl) (by rfl) (by rfl)) ?_) <;> (first | refine rd_skip rfl rfl ?_ | refine rdg_u rfl rfl (by rfl) (by rfl) (ap_load_p (rq_p rfl rfl) (by rfl) (by rfl) (by rfl)) ?_) <;> (first | refine rd_skip rfl rfl ?_ | refine rdg_u rfl rfl (by rfl) (by rfl) (ap_move (rq_p rfl rfl)) ?_) <;> (first | refine rd_skip rfl rfl ?_ | refine rdg_u rfl rfl (by rfl) (by rfl) (ap_nilc (rq_p rfl rfl)) ?_) <;> (first | refine rd_skip rfl rfl ?_ | refine rdg_u rfl rfl (by rfl) (by rfl) (ap_field_p (rq_p rfl rfl) (by rfl) (by rfl)) ?_) <;> (first | refine rd_skip rfl rfl ?_ | refine rdg_u rfl rfl (by rfl) (by rfl) (ap_load_p (rq_p rfl rfl) (by rfl) (by rfl) (by rfl)) ?_) <;> (first | refine rd_skip rfl rfl ?_ | refine rdg_u rfl rfl (by rfl) (by rfl) (ap_sidx_n (rq_p rfl rfl) (rq_p rfl rfl) (by rfl) (by omega)) ?_) <;> (first | refine rd_skip rfl rfl ?_ | refine rdg_u rfl rfl (by rfl) (by rfl) (ap_eql (rq_p rfl rfl) (rq_p rfl rfl)) ?_) <;> (first | refine rdg_pick_t rfl (by rfl) (by rfl) (by rfl) ?_ | refine rdg_pick_f rfl (by rfl) (by rfl) (by rfl) ?_) <;> (refine rd_pick_t (by rfl) (by rfl) ?_) <;> (refine rd_end (by kernel_rfl) ?_)) | (refine WP.regionC (id := 6) ?_; (refine su (ap_move (rq_p rfl rfl)) ?_); (refine su (ap_nilc (rq_p rfl rfl)) ?_); (refine su (ap_field_p (rq_p rfl rfl) (by rfl) (by rfl)) ?_); (refine su (ap_load_p (rq_p rfl rfl) (by rfl) (by rfl) (by rfl)) ?_); (refine su (ap_assign (rq_p rfl rfl)) ?_); refine asemC_end ?_) | (refine WP.regionC (id := 7) ?_; (refine su (ap_move (rq_p rfl rfl)) ?_); (refine su (ap_move (rq_p rfl rfl)) ?_); (refine su (ap_nilc (rq_p rfl rfl)) ?_); (refine su (ap_field_p (rq_p rfl rfl) (by rfl) (by rfl)) ?_); (refine su (ap_load_p (rq_p rfl rfl) (by rfl) (by rfl) (by rfl)) ?_); (refine su (ap_len_str (by rfl) (rq_p rfl rfl)) ?_); (refine su (ap_lss (rq_p rfl rfl) (rq_p rfl rfl)) ?_); refine asemC_end ?_) | (refine WP.regionC (id := 8) ?_; (refine su (ap_move (rq_p rfl rfl)) ?_); (refine su (ap_add (rq_p rfl rfl) (rq_p rfl rfl) (by exact inr_i64_of (by omega))) ?_); (refine su (ap_assign (rq_p rfl rfl)) ?_); refine asemC_end ?_)))
        all_goals (first | (exfalso; simp_all; done) | skip)
        cases hLc : isL c with
        | true =>
          rw [hLc] at hLB
          have hsp : spanN wB s j = tokN (c :: r) := by
            rw [spanN_step hlt (by unfold wB; rw [hLB]; rfl), spanN_r hr]
            simp only [tokN, hLc, if_true]
            rw [Nat.add_comm]
            congr 3
            funext d
            have := u8eq d 95 (by decide)
            simp only [Int.cast_ofNat_Int] at this
            simp only [wB, this, isW]
            rfl
          have hs1 := spanN_step (p := wB) hlt (by unfold wB; rw [hLB]; rfl)
          have hle := spanN_le wB s j hj
          have hnD : digB (bAt s j) = false := by
            cases hq : digB (bAt s j) with
            | false => rfl
            | true =>
              simp only [letB, digB, Bool.or_eq_true, Bool.and_eq_true, decide_eq_true_eq] at hLB hq
              omega
          refine wp_loop (fun (e : Nat) => j + 1 ≤ e ∧ e ≤ s.size ∧ e + spanN wB s e = j + spanN wB s j) (fun e => s.size - e) (fun e => (S 195 [(0, .ptr 0 4 0 0), (2, intA (e : Nat))] 1 [(0, some (psR s j n b))])) (j + 1) ⟨[0], ToR.S rfl (by repeat' (first | exact rt_nil | refine rt_t (by rfl) (by rfl) ?_ | refine rt_e (by rfl) (by rfl) ?_)) (by repeat' (first | exact ro_nil | refine ro_e (by rfl) (by rfl) ?_)) (by rfl) (by (rw [hm]; exact rfl)) (by rfl) (by (simp [bdT, AV.bd, bdL, bdL_append]; done)) (by repeat' (first | exact True.intro | exact rfl | refine And.intro ?_ ?_)) (by (rw [hm]; exact Nat.le_of_ble_eq_true rfl))⟩ ⟨Nat.le_refl _, by omega, by omega⟩ ?_
          rintro e ⟨he1, he2, he3⟩
          unfold psR
          by_cases hel : e < s.size
          · cases hwe : wB (bAt s e) with
            | true =>
              have hst := spanN_step hel hwe
              have hnext : s.size - (e + 1) < s.size - e ∧ j + 1 ≤ e + 1 ∧ e + 1 ≤ s.size ∧ e + 1 + spanN wB s (e + 1) = j + spanN wB s j := ⟨by omega, by omega, by omega, by omega⟩
              (repeat' (first | refine WP.seq ?_ | refine WP.block ?_ | refine go_n ?_ | refine WP.skip ?_ | refine WP.exit ?_ | refine go_x ?_ | refine bl_n ?_ | refine bl_x ?_ | (refine wp_cond (by rfl) (fun hc => ?_) (fun hc => ?_) <;> (try simp only [sB, ne_eq, reduceCtorEq] at hc) <;> (try (exfalso; omega))) | (refine wp_draw (id := 9) 46 mixed (by kernel_rfl) (by kernel_rfl) rfl ?_ <;> (refine rd_u (by rfl) (by rfl) (ap_move (rq_p rfl rfl)) ?_) <;> (refine rd_u (by rfl) (by rfl) (ap_nilc (rq_p rfl rfl)) ?_) <;> (refine rd_u (by rfl) (by rfl) (ap_field_p (rq_p rfl rfl) (by rfl) (by rfl)) ?_) <;> (refine rd_u (by rfl) (by rfl) (ap_load_p (rq_p rfl rfl) (by rfl) (by rfl) (by rfl)) ?_) <;> (refine rd_u (by rfl) (by rfl) (ap_move (rq_p rfl rfl)) ?_) <;> (refine rd_u (by rfl) (by rfl) (ap_nilc (rq_p rfl rfl)) ?_) <;> (refine rd_u (by rfl) (by rfl) (ap_field_p (rq_p rfl rfl) (by rfl) (by rfl)) ?_) <;> (refine rd_u (by rfl) (by rfl) (ap_load_p (rq_p rfl rfl) (by rfl) (by rfl) (by rfl)) ?_) <;> (refine rd_u (by rfl) (by rfl) (ap_sidx_n (rq_p rfl rfl) (rq_p rfl rfl) (by rfl) (by omega)) ?_) <;> (refine rd_call rfl rfl (by first | ((repeat' first | exact SubL.nil | refine SubL.cons ?_ ?_ | exact Sub.refl); done) | fail) (by first | (simp [bdL, bdL_append, AV.bd]; done) | fail) (rletter17_fn _) ?_) <;> (refine rd_u (by rfl) (by rfl) (ap_move (rq_p rfl rfl)) ?_) <;> ((refine rd_split (t := 118) (by rfl) (fun hc => ?_) (fun hc => ?_) <;> (try simp only [sB, ne_eq, reduceCtorEq] at hc) <;> (try (exfalso; omega)) <;> (first | refine rd_skip rfl rfl ?_ | refine rdg_u rfl rfl (by rfl) (by rfl) (ap_move (rq_p rfl rfl)) ?_))) <;> (first | refine rd_skip rfl rfl ?_ | refine rdg_u rfl rfl (by rfl) (by rfl) (ap_move (rq_p rfl rfl)) ?_) <;> (first | refine rd_skip rfl rfl ?_ | refine rdg_u rfl rfl (by rfl) (by rfl) (ap_nilc (rq_p rfl rfl)) ?_) <;> (first | refine rd_skip rfl rfl ?_ | refine rdg_u rfl rfl (by rfl) (by rfl) (ap_field_p (rq_p rfl rfl) (by rfl) (by rfl)) ?_) <;> (first | refine rd_skip rfl rfl ?_ | refine rdg_u rfl rfl (by rfl) (by rfl) (ap_load_p (rq_p rfl rfl) (by rfl) (by rfl) (by rfl)) ?_) <;> (first | refine rd_skip rfl rfl ?_ | refine rdg_u rfl rfl (by rfl) (by rfl) (ap_len_str (by rfl) (rq_p rfl rfl)) ?_) <;> (first | refine rd_skip rfl rfl ?_ | refine rdg_u rfl rfl (by rfl) (by rfl) (ap_lss (rq_p rfl rfl) (rq_p rfl rfl)) ?_) <;> (first | refine rd_pick_t (by rfl) (by rfl) ?_ | refine rd_pick_f (by rfl) (by rfl) ?_) <;> (refine rd_u (by rfl) (by rfl) (ap_move (rq_p rfl rfl)) ?_) <;> (first | refine rd_skip rfl rfl ?_ | (refine rd_split (t := 127) (by rfl) (fun hc => ?_) (fun hc => ?_) <;> (try simp only [sB, ne_eq, reduceCtorEq] at hc) <;> (try (exfalso; omega)) <;> (refine rdg_u rfl rfl (by rfl) (by rfl) (ap_move (rq_p rfl rfl)) ?_))) <;> (first | refine rd_skip rfl rfl ?_ | refine rdg_u rfl rfl (by rfl) (by rfl) (ap_nilc (rq_p rfl rfl)) ?_) <;> (first | refine rd_skip rfl rfl ?_ | refine rdg_u rfl rfl (by rfl) (by rfl) (ap_field_p (rq_p rfl rfl) (by rfl) (by rfl)) ?_) <;> (first | refine rd_skip rfl rfl ?_ | refine rdg_u rfl rfl (by rfl) (by rfl) (ap_load_p (rq_p rfl rfl) (by rfl) (by rfl) (by rfl)) ?_) <;> (first | refine rd_skip rfl rfl ?_ | refine rdg_u rfl rfl (by rfl) (by rfl) (ap_move (rq_p rfl rfl)) ?_) <;> (first | refine rd_skip rfl rfl ?_ | refine rdg_u rfl rfl (by rfl) (by rfl) (ap_sidx_n (rq_p rfl rfl) (rq_p rfl rfl) (by rfl) (by omega)) ?_) <;> (first | refine rd_skip rfl rfl ?_ | refine rdg_call rfl (by rfl) rfl rfl (by first | ((repeat' first | exact SubL.nil | refine SubL.cons ?_ ?_ | exact Sub.refl); done) | fail) (by first | (simp [bdL, bdL_append, AV.bd]; done) | fail) (rletter17_fn _) ?_) <;> (first | refine rd_skip rfl rfl ?_ | refine rdg_u rfl rfl (by rfl) (by rfl) (ap_move (rq_p rfl rfl)) ?_) <;> (first | refine rd_skip2 rfl rfl ?_ | (refine rd_split (t := 135) (by rfl) (fun hc => ?_) (fun hc => ?_) <;> (try simp only [sB, ne_eq, reduceCtorEq] at hc) <;> (try (exfalso; omega)) <;> (first | refine rd_skip rfl rfl ?_ | refine rdg_u rfl rfl (by rfl) (by rfl) (ap_move (rq_p rfl rfl)) ?_))) <;> (first | refine rd_skip rfl rfl ?_ | refine rd_skip2 rfl rfl ?_ | refine rdg_u rfl rfl (by rfl) (by rfl) (ap_nilc (rq_p rfl rfl)) ?_) <;> (first | refine rd_skip rfl rfl ?_ | refine rd_skip2 rfl rfl ?_ | refine rdg_u rfl rfl (by rfl) (by rfl) (ap_field_p (rq_p rfl rfl) (by rfl) (by rfl)) ?_) <;> (first | refine rd_skip rfl rfl ?_ | refine rd_skip2 rfl rfl ?_ | refine rdg_u rfl rfl (by rfl) (by rfl) (ap_load_p (rq_p rfl rfl) (by rfl) (by rfl) (by rfl)) ?_) <;> (first | refine rd_skip rfl rfl ?_ | refine rd_skip2 rfl rfl ?_ | refine rdg_u rfl rfl (by rfl) (by rfl) (ap_move (rq_p rfl rfl)) ?_) <;> (first | refine rd_skip rfl rfl ?_ | refine rd_skip2 rfl rfl ?_ | refine rdg_u rfl rfl (by rfl) (by rfl) (ap_sidx_n (rq_p rfl rfl) (rq_p rfl rfl) (by rfl) (by omega)) ?_) <;> (first | refine rd_skip rfl rfl ?_ | refine rd_skip2 rfl rfl ?_ | refine rdg_call rfl (by rfl) rfl rfl (by first | ((repeat' first | exact SubL.nil | refine SubL.cons ?_ ?_ | exact Sub.refl); done) | fail) (by first | (simp [bdL, bdL_append, AV.bd]; done) | fail) (rdigit17_fn _) ?_) <;> (first | refine rd_skip rfl rfl ?_ | refine rdg_pick_t rfl (by rfl) (by rfl) (by rfl) ?_ | refine rdg_pick_f rfl (by rfl) (by rfl) (by rfl) ?_) <;> (first | refine rd_skip rfl rfl ?_ | refine rdg_u rfl rfl (by rfl) (by rfl) (ap_move (rq_p rfl rfl)) ?_) <;> (first | refine rd_skip rfl rfl ?_ | refine rd_skip2 rfl rfl ?_ | (refine rd_split (t := 144) (by rfl) (fun hc => ?_) (fun hc => ?_) <;> (try simp only [sB, ne_eq, reduceCtorEq] at hc) <;> (try (exfalso; omega)) <;> (first | refine rd_skip rfl rfl ?_ | refine rdg_u rfl rfl (by rfl) (by rfl) (ap_move (rq_p rfl rfl)) ?_))) <;> (first | refine rd_skip rfl rfl ?_ | refine rd_skip2 rfl rfl ?_ | refine rdg_u rfl rfl (by rfl) (by rfl) (ap_nilc (rq_p rfl rfl)) ?_) <;> (first | refine rd_skip rfl rfl ?_ | refine rd_skip2 rfl rfl ?_ | refine rdg_u rfl rfl (by rfl) (by rfl) (ap_field_p (rq_p rfl rfl) (by rfl) (by rfl)) ?_) <;> (first | refine rd_skip rfl rfl ?_ | refine rd_skip2 rfl rfl ?_ | refine rdg_u rfl rfl (by rfl) (by rfl) (ap_load_p (rq_p rfl rfl) (by rfl) (by rfl) (by rfl)) ?_) <;> (first | refine rd_skip rfl rfl ?_ | refine rd_skip2 rfl rfl ?_ | refine rdg_u rfl rfl (by rfl) (by rfl) (ap_move (rq_p rfl rfl)) ?_) <;> (first | refine rd_skip rfl rfl ?_ | refine rd_skip2 rfl rfl ?_ | refine rdg_u rfl rfl (by rfl) (by rfl) (ap_sidx_n (rq_p rfl rfl) (rq_p rfl rfl) (by rfl) (by omega)) ?_) <;> (first | refine rd_skip rfl rfl ?_ | refine rd_skip2 rfl rfl ?_ | refine rdg_u rfl rfl (by rfl) (by rfl) (ap_eql (rq_p rfl rfl) (rq_p rfl rfl)) ?_) <;> (first | refine rd_skip rfl rfl ?_ | refine rdg_pick_t rfl (by rfl) (by rfl) (by rfl) ?_ | refine rdg_pick_f rfl (by rfl) (by rfl) (by rfl) ?_) <;> (first | refine rd_pick_t (by rfl) (by rfl) ?_ | refine rd_pick_f (by rfl) (by rfl) ?_) <;> (refine rd_end (by kernel_rfl) ?_)) | (refine WP.regionC (id := 10) ?_; (refine su (ap_move (rq_p rfl rfl)) ?_); (refine su (ap_add (rq_p rfl rfl) (rq_p rfl rfl) (by exact inr_i64_of (by omega))) ?_); (refine su (ap_assign (rq_p rfl rfl)) ?_); refine asemC_end ?_)))
              all_goals (first | exact ⟨e + 1, hnext, ⟨[0], ToR.S rfl (by repeat' (first | exact rt_nil | refine rt_t (by rfl) (by rfl) ?_ | refine rt_e (by rfl) (by rfl) ?_)) (by repeat' (first | exact ro_nil | refine ro_e (by rfl) (by rfl) ?_)) (by rfl) (by (rw [hm]; exact rfl)) (by rfl) (by (simp [bdT, AV.bd, bdL, bdL_append]; done)) (by repeat' (first | exact True.intro | exact rfl | refine And.intro ?_ ?_)) (by (rw [hm]; exact Nat.le_of_ble_eq_true rfl))⟩⟩ | (exfalso; simp_all [wB]; done))
            | false =>
              have hst := spanN_stop (p := wB) (s := s) (k := e) fun _ => hwe
              have heq : e = j + tokN (c :: r) := by omega
              (repeat' (first | refine WP.seq ?_ | refine WP.block ?_ | refine go_n ?_ | refine WP.skip ?_ | refine WP.exit ?_ | refine go_x ?_ | refine bl_x ?_ | (refine wp_cond (by rfl) (fun hc => ?_) (fun hc => ?_) <;> (try simp only [sB, ne_eq, reduceCtorEq] at hc) <;> (try (exfalso; omega))) | (refine wp_draw (id := 9) 46 mixed (by kernel_rfl) (by kernel_rfl) rfl ?_ <;> (refine rd_u (by rfl) (by rfl) (ap_move (rq_p rfl rfl)) ?_) <;> (refine rd_u (by rfl) (by rfl) (ap_nilc (rq_p rfl rfl)) ?_) <;> (refine rd_u (by rfl) (by rfl) (ap_field_p (rq_p rfl rfl) (by rfl) (by rfl)) ?_) <;> (refine rd_u (by rfl) (by rfl) (ap_load_p (rq_p rfl rfl) (by rfl) (by rfl) (by rfl)) ?_) <;> (refine rd_u (by rfl) (by rfl) (ap_move (rq_p rfl rfl)) ?_) <;> (refine rd_u (by rfl) (by rfl) (ap_nilc (rq_p rfl rfl)) ?_) <;> (refine rd_u (by rfl) (by rfl) (ap_field_p (rq_p rfl rfl) (by rfl) (by rfl)) ?_) <;> (refine rd_u (by rfl) (by rfl) (ap_load_p (rq_p rfl rfl) (by rfl) (by rfl) (by rfl)) ?_) <;> (refine rd_u (by rfl) (by rfl) (ap_sidx_n (rq_p rfl rfl) (rq_p rfl rfl) (by rfl) (by omega)) ?_) <;> (refine rd_call rfl rfl (by first | ((repeat' first | exact SubL.nil | refine SubL.cons ?_ ?_ | exact Sub.refl); done) | fail) (by first | (simp [bdL, bdL_append, AV.bd]; done) | fail) (rletter17_fn _) ?_) <;> (refine rd_u (by rfl) (by rfl) (ap_move (rq_p rfl rfl)) ?_) <;> ((refine rd_split (t := 118) (by rfl) (fun hc => ?_) (fun hc => ?_) <;> (try simp only [sB, ne_eq, reduceCtorEq] at hc) <;> (try (exfalso; omega)) <;> (first | refine rd_skip rfl rfl ?_ | refine rdg_u rfl rfl (by rfl) (by rfl) (ap_move (rq_p rfl rfl)) ?_))) <;> (first | refine rd_skip rfl rfl ?_ | refine rdg_u rfl rfl (by rfl) (by rfl) (ap_move (rq_p rfl rfl)) ?_) <;> (first | refine rd_skip rfl rfl ?_ | refine rdg_u rfl rfl (by rfl) (by rfl) (ap_nilc (rq_p rfl rfl)) ?_) <;> (first | refine rd_skip rfl rfl ?_ | refine rdg_u rfl rfl (by rfl) (by rfl) (ap_field_p (rq_p rfl rfl) (by rfl) (by rfl)) ?_) <;> (first | refine rd_skip rfl rfl ?_ | refine rdg_u rfl rfl (by rfl) (by rfl) (ap_load_p (rq_p rfl rfl) (by rfl) (by rfl) (by rfl)) ?_) <;> (first | refine rd_skip rfl rfl ?_ | refine rdg_u rfl rfl (by rfl) (by rfl) (ap_len_str (by rfl) (rq_p rfl rfl)) ?_) <;> (first | refine rd_skip rfl rfl ?_ | refine rdg_u rfl rfl (by rfl) (by rfl) (ap_lss (rq_p rfl rfl) (rq_p rfl rfl)) ?_) <;> (first | refine rd_pick_t (by rfl) (by rfl) ?_ | refine rd_pick_f (by rfl) (by rfl) ?_) <;> (refine rd_u (by rfl) (by rfl) (ap_move (rq_p rfl rfl)) ?_) <;> (first | refine rd_skip rfl rfl ?_ | (refine rd_split (t := 127) (by rfl) (fun hc => ?_) (fun hc => ?_) <;> (try simp only [sB, ne_eq, reduceCtorEq] at hc) <;> (try (exfalso; omega)) <;> (refine rdg_u rfl rfl (by rfl) (by rfl) (ap_move (rq_p rfl rfl)) ?_))) <;> (first | refine rd_skip rfl rfl ?_ | refine rdg_u rfl rfl (by rfl) (by rfl) (ap_nilc (rq_p rfl rfl)) ?_) <;> (first | refine rd_skip rfl rfl ?_ | refine rdg_u rfl rfl (by rfl) (by rfl) (ap_field_p (rq_p rfl rfl) (by rfl) (by rfl)) ?_) <;> (first | refine rd_skip rfl rfl ?_ | refine rdg_u rfl rfl (by rfl) (by rfl) (ap_load_p (rq_p rfl rfl) (by rfl) (by rfl) (by rfl)) ?_) <;> (first | refine rd_skip rfl rfl ?_ | refine rdg_u rfl rfl (by rfl) (by rfl) (ap_move (rq_p rfl rfl)) ?_) <;> (first | refine rd_skip rfl rfl ?_ | refine rdg_u rfl rfl (by rfl) (by rfl) (ap_sidx_n (rq_p rfl rfl) (rq_p rfl rfl) (by rfl) (by omega)) ?_) <;> (first | refine rd_skip rfl rfl ?_ | refine rdg_call rfl (by rfl) rfl rfl (by first | ((repeat' first | exact SubL.nil | refine SubL.cons ?_ ?_ | exact Sub.refl); done) | fail) (by first | (simp [bdL, bdL_append, AV.bd]; done) | fail) (rletter17_fn _) ?_) <;> (first | refine rd_skip rfl rfl ?_ | refine rdg_u rfl rfl (by rfl) (by rfl) (ap_move (rq_p rfl rfl)) ?_) <;> (first | refine rd_skip2 rfl rfl ?_ | (refine rd_split (t := 135) (by rfl) (fun hc => ?_) (fun hc => ?_) <;> (try simp only [sB, ne_eq, reduceCtorEq] at hc) <;> (try (exfalso; omega)) <;> (first | refine rd_skip rfl rfl ?_ | refine rdg_u rfl rfl (by rfl) (by rfl) (ap_move (rq_p rfl rfl)) ?_))) <;> (first | refine rd_skip rfl rfl ?_ | refine rd_skip2 rfl rfl ?_ | refine rdg_u rfl rfl (by rfl) (by rfl) (ap_nilc (rq_p rfl rfl)) ?_) <;> (first | refine rd_skip rfl rfl ?_ | refine rd_skip2 rfl rfl ?_ | refine rdg_u rfl rfl (by rfl) (by rfl) (ap_field_p (rq_p rfl rfl) (by rfl) (by rfl)) ?_) <;> (first | refine rd_skip rfl rfl ?_ | refine rd_skip2 rfl rfl ?_ | refine rdg_u rfl rfl (by rfl) (by rfl) (ap_load_p (rq_p rfl rfl) (by rfl) (by rfl) (by rfl)) ?_) <;> (first | refine rd_skip rfl rfl ?_ | refine rd_skip2 rfl rfl ?_ | refine rdg_u rfl rfl (by rfl) (by rfl) (ap_move (rq_p rfl rfl)) ?_) <;> (first | refine rd_skip rfl rfl ?_ | refine rd_skip2 rfl rfl ?_ | refine rdg_u rfl rfl (by rfl) (by rfl) (ap_sidx_n (rq_p rfl rfl) (rq_p rfl rfl) (by rfl) (by omega)) ?_) <;> (first | refine rd_skip rfl rfl ?_ | refine rd_skip2 rfl rfl ?_ | refine rdg_call rfl (by rfl) rfl rfl (by first | ((repeat' first | exact SubL.nil | refine SubL.cons ?_ ?_ | exact Sub.refl); done) | fail) (by first | (simp [bdL, bdL_append, AV.bd]; done) | fail) (rdigit17_fn _) ?_) <;> (first | refine rd_skip rfl rfl ?_ | refine rdg_pick_t rfl (by rfl) (by rfl) (by rfl) ?_ | refine rdg_pick_f rfl (by rfl) (by rfl) (by rfl) ?_) <;> (first | refine rd_skip rfl rfl ?_ | refine rdg_u rfl rfl (by rfl) (by rfl) (ap_move (rq_p rfl rfl)) ?_) <;> (first | refine rd_skip rfl rfl ?_ | refine rd_skip2 rfl rfl ?_ | (refine rd_split (t := 144) (by rfl) (fun hc => ?_) (fun hc => ?_) <;> (try simp only [sB, ne_eq, reduceCtorEq] at hc) <;> (try (exfalso; omega)) <;> (first | refine rd_skip rfl rfl ?_ | refine rdg_u rfl rfl (by rfl) (by rfl) (ap_move (rq_p rfl rfl)) ?_))) <;> (first | refine rd_skip rfl rfl ?_ | refine rd_skip2 rfl rfl ?_ | refine rdg_u rfl rfl (by rfl) (by rfl) (ap_nilc (rq_p rfl rfl)) ?_) <;> (first | refine rd_skip rfl rfl ?_ | refine rd_skip2 rfl rfl ?_ | refine rdg_u rfl rfl (by rfl) (by rfl) (ap_field_p (rq_p rfl rfl) (by rfl) (by rfl)) ?_) <;> (first | refine rd_skip rfl rfl ?_ | refine rd_skip2 rfl rfl ?_ | refine rdg_u rfl rfl (by rfl) (by rfl) (ap_load_p (rq_p rfl rfl) (by rfl) (by rfl) (by rfl)) ?_) <;> (first | refine rd_skip rfl rfl ?_ | refine rd_skip2 rfl rfl ?_ | refine rdg_u rfl rfl (by rfl) (by rfl) (ap_move (rq_p rfl rfl)) ?_) <;> (first | refine rd_skip rfl rfl ?_ | refine rd_skip2 rfl rfl ?_ | refine rdg_u rfl rfl (by rfl) (by rfl) (ap_sidx_n (rq_p rfl rfl) (rq_p rfl rfl) (by rfl) (by omega)) ?_) <;> (first | refine rd_skip rfl rfl ?_ | refine rd_skip2 rfl rfl ?_ | refine rdg_u rfl rfl (by rfl) (by rfl) (ap_eql (rq_p rfl rfl) (rq_p rfl rfl)) ?_) <;> (first | refine rd_skip rfl rfl ?_ | refine rdg_pick_t rfl (by rfl) (by rfl) (by rfl) ?_ | refine rdg_pick_f rfl (by rfl) (by rfl) (by rfl) ?_) <;> (first | refine rd_pick_t (by rfl) (by rfl) ?_ | refine rd_pick_f (by rfl) (by rfl) ?_) <;> (refine rd_end (by kernel_rfl) ?_))))
              all_goals (first | (exfalso; simp_all [wB]; done) | skip)
              refine wp_loop (fun (e' : Nat) => e' = e) (fun _ => 0) (fun e' => (S 195 [(0, .ptr 0 4 0 0), (2, intA (e' : Nat))] 1 [(0, some (psR s j n b))])) e ⟨[0], ToR.S rfl (by repeat' (first | exact rt_nil | refine rt_t (by rfl) (by rfl) ?_ | refine rt_e (by rfl) (by rfl) ?_)) (by repeat' (first | exact ro_nil | refine ro_e (by rfl) (by rfl) ?_)) (by rfl) (by (rw [hm]; exact rfl)) (by rfl) (by (simp [bdT, AV.bd, bdL, bdL_append]; done)) (by repeat' (first | exact True.intro | exact rfl | refine And.intro ?_ ?_)) (by (rw [hm]; exact Nat.le_of_ble_eq_true rfl))⟩ rfl ?_
              rintro e' rfl
              unfold psR
              (repeat' (first | refine WP.seq ?_ | refine WP.block ?_ | refine go_n ?_ | refine WP.skip ?_ | refine WP.exit ?_ | refine go_x ?_ | refine bl_x ?_ | refine bo_n ?_ | (refine wp_cond (by rfl) (fun hc => ?_) (fun hc => ?_) <;> (try simp only [sB, ne_eq, reduceCtorEq] at hc) <;> (try (exfalso; omega))) | (refine wp_draw (id := 11) 28 mixed (by kernel_rfl) (by kernel_rfl) rfl ?_ <;> (refine rd_u (by rfl) (by rfl) (ap_move (rq_p rfl rfl)) ?_) <;> (refine rd_u (by rfl) (by rfl) (ap_nilc (rq_p rfl rfl)) ?_) <;> (refine rd_u (by rfl) (by rfl) (ap_field_p (rq_p rfl rfl) (by rfl) (by rfl)) ?_) <;> (refine rd_u (by rfl) (by rfl) (ap_load_p (rq_p rfl rfl) (by rfl) (by rfl) (by rfl)) ?_) <;> (refine rd_u (by rfl) (by rfl) (ap_move (rq_p rfl rfl)) ?_) <;> (refine rd_u (by rfl) (by rfl) (ap_nilc (rq_p rfl rfl)) ?_) <;> (refine rd_u (by rfl) (by rfl) (ap_field_p (rq_p rfl rfl) (by rfl) (by rfl)) ?_) <;> (refine rd_u (by rfl) (by rfl) (ap_load_p (rq_p rfl rfl) (by rfl) (by rfl) (by rfl)) ?_) <;> (refine rd_u (by rfl) (by rfl) (ap_sidx_n (rq_p rfl rfl) (rq_p rfl rfl) (by rfl) (by omega)) ?_) <;> (refine rd_call rfl rfl (by first | ((repeat' first | exact SubL.nil | refine SubL.cons ?_ ?_ | exact Sub.refl); done) | fail) (by first | (simp [bdL, bdL_append, AV.bd]; done) | fail) (rdigit17_fn _) ?_) <;> (refine rd_u (by rfl) (by rfl) (ap_move (rq_p rfl rfl)) ?_) <;> ((refine rd_split (t := 166) (by rfl) (fun hc => ?_) (fun hc => ?_) <;> (try simp only [sB, ne_eq, reduceCtorEq] at hc) <;> (try (exfalso; omega)) <;> (first | refine rd_skip rfl rfl ?_ | refine rdg_u rfl rfl (by rfl) (by rfl) (ap_move (rq_p rfl rfl)) ?_))) <;> (first | refine rd_skip rfl rfl ?_ | refine rdg_u rfl rfl (by rfl) (by rfl) (ap_move (rq_p rfl rfl)) ?_) <;> (first | refine rd_skip rfl rfl ?_ | refine rdg_u rfl rfl (by rfl) (by rfl) (ap_nilc (rq_p rfl rfl)) ?_) <;> (first | refine rd_skip rfl rfl ?_ | refine rdg_u rfl rfl (by rfl) (by rfl) (ap_field_p (rq_p rfl rfl) (by rfl) (by rfl)) ?_) <;> (first | refine rd_skip rfl rfl ?_ | refine rdg_u rfl rfl (by rfl) (by rfl) (ap_load_p (rq_p rfl rfl) (by rfl) (by rfl) (by rfl)) ?_) <;> (first | refine rd_skip rfl rfl ?_ | refine rdg_u rfl rfl (by rfl) (by rfl) (ap_len_str (by rfl) (rq_p rfl rfl)) ?_) <;> (first | refine rd_skip rfl rfl ?_ | refine rdg_u rfl rfl (by rfl) (by rfl) (ap_lss (rq_p rfl rfl) (rq_p rfl rfl)) ?_) <;> (first | refine rd_pick_t (by rfl) (by rfl) ?_ | refine rd_pick_f (by rfl) (by rfl) ?_) <;> (refine rd_u (by rfl) (by rfl) (ap_move (rq_p rfl rfl)) ?_) <;> (first | refine rd_skip rfl rfl ?_ | (refine rd_split (t := 175) (by rfl) (fun hc => ?_) (fun hc => ?_) <;> (try simp only [sB, ne_eq, reduceCtorEq] at hc) <;> (try (exfalso; omega)) <;> (refine rdg_u rfl rfl (by rfl) (by rfl) (ap_move (rq_p rfl rfl)) ?_))) <;> (first | refine rd_skip rfl rfl ?_ | refine rdg_u rfl rfl (by rfl) (by rfl) (ap_nilc (rq_p rfl rfl)) ?_) <;> (first | refine rd_skip rfl rfl ?_ | refine rdg_u rfl rfl (by rfl) (by rfl) (ap_field_p (rq_p rfl rfl) (by rfl) (by rfl)) ?_) <;> (first | refine rd_skip rfl rfl ?_ | refine rdg_u rfl rfl (by rfl) (by rfl) (ap_load_p (rq_p rfl rfl) (by rfl) (by rfl) (by rfl)) ?_) <;> (first | refine rd_skip rfl rfl ?_ | refine rdg_u rfl rfl (by rfl) (by rfl) (ap_move (rq_p rfl rfl)) ?_) <;> (first | refine rd_skip rfl rfl ?_ | refine rdg_u rfl rfl (by rfl) (by rfl) (ap_sidx_n (rq_p rfl rfl) (rq_p rfl rfl) (by rfl) (by omega)) ?_) <;> (first | refine rd_skip rfl rfl ?_ | refine rdg_call rfl (by rfl) rfl rfl (by first | ((repeat' first | exact SubL.nil | refine SubL.cons ?_ ?_ | exact Sub.refl); done) | fail) (by first | (simp [bdL, bdL_append, AV.bd]; done) | fail) (rdigit17_fn _) ?_) <;> (first | refine rd_pick_t (by rfl) (by rfl) ?_ | refine rd_pick_f (by rfl) (by rfl) ?_) <;> (refine rd_end (by kernel_rfl) ?_)) | (refine WP.regionC (id := 13) ?_; (refine su (ap_move (rq_p rfl rfl)) ?_); (refine su (ap_move (rq_p rfl rfl)) ?_); (refine su (ap_move (rq_p rfl rfl)) ?_); (refine su (ap_nilc (rq_p rfl rfl)) ?_); (refine su (ap_field_p (rq_p rfl rfl) (by rfl) (by rfl)) ?_); (refine su (ap_load_p (rq_p rfl rfl) (by rfl) (by rfl) (by rfl)) ?_); (refine su (ap_sub (rq_p rfl rfl) (rq_p rfl rfl) (by exact inr_i64_of (by omega))) ?_); (refine su (ap_nilc (rq_p rfl rfl)) ?_); (refine su (ap_field_p (rq_p rfl rfl) (by rfl) (by rfl)) ?_); (refine se_store_b (by rfl) (by rfl) (by rfl) (by rfl) ?_); refine asemC_end ?_)))
              all_goals (first | (exfalso; simp_all; done) | skip)
              rw [hzz _ heq, hAj, hNj]
              refine retO_L (x := .tup []) (k := 1) (os1 := [(0, some (psR s j (tokN (c :: r)) b))]) .nil (by rfl) ⟨[0], ToR.S rfl (by repeat' (first | exact rt_nil | refine rt_e (by rfl) (by rfl) ?_)) (by repeat' (first | exact ro_nil | refine ro_e (by rfl) (by rfl) ?_)) (by rfl) (by rfl) (by rfl) (by (simp [bdT, AV.bd, bdL, bdL_append]; done)) (by repeat' (first | exact True.intro | exact rfl | refine And.intro ?_ ?_)) (by exact Nat.le_of_ble_eq_true rfl)⟩ (by rfl)
          · have hst := spanN_stop (p := wB) (s := s) (k := e) fun q => absurd q hel
            have heq : e = j + tokN (c :: r) := by omega
            (repeat' (first | refine WP.seq ?_ | refine WP.block ?_ | refine go_n ?_ | refine WP.exit ?_ | refine go_x ?_ | refine bl_x ?_ | (refine wp_cond (by rfl) (fun hc => ?_) (fun hc => ?_) <;> (try simp only [sB, ne_eq, reduceCtorEq] at hc) <;> (try (exfalso; omega))) | (refine wp_draw (id := 9) 46 mixed (by kernel_rfl) (by kernel_rfl) rfl ?_ <;> (refine rd_u (by rfl) (by rfl) (ap_move (rq_p rfl rfl)) ?_) <;> (refine rd_u (by rfl) (by rfl) (ap_nilc (rq_p rfl rfl)) ?_) <;> (refine rd_u (by rfl) (by rfl) (ap_field_p (rq_p rfl rfl) (by rfl) (by rfl)) ?_) <;> (refine rd_u (by rfl) (by rfl) (ap_load_p (rq_p rfl rfl) (by rfl) (by rfl) (by rfl)) ?_) <;> (refine rd_u (by rfl) (by rfl) (ap_move (rq_p rfl rfl)) ?_) <;> (refine rd_u (by rfl) (by rfl) (ap_nilc (rq_p rfl rfl)) ?_) <;> (refine rd_u (by rfl) (by rfl) (ap_field_p (rq_p rfl rfl) (by rfl) (by rfl)) ?_) <;> (refine rd_u (by rfl) (by rfl) (ap_load_p (rq_p rfl rfl) (by rfl) (by rfl) (by rfl)) ?_) <;> (refine rd_u (by rfl) (by rfl) (ap_sidx_n (rq_p rfl rfl) (rq_p rfl rfl) (by rfl) (by omega)) ?_) <;> (refine rd_call rfl rfl (by first | ((repeat' first | exact SubL.nil | refine SubL.cons ?_ ?_ | exact Sub.refl); done) | fail) (by first | (simp [bdL, bdL_append, AV.bd]; done) | fail) (rletter17_fn _) ?_) <;> (refine rd_u (by rfl) (by rfl) (ap_move (rq_p rfl rfl)) ?_) <;> ((refine rd_split (t := 118) (by rfl) (fun hc => ?_) (fun hc => ?_) <;> (try simp only [sB, ne_eq, reduceCtorEq] at hc) <;> (try (exfalso; omega)) <;> (first | refine rd_skip rfl rfl ?_ | refine rdg_u rfl rfl (by rfl) (by rfl) (ap_move (rq_p rfl rfl)) ?_))) <;> (first | refine rd_skip rfl rfl ?_ | refine rdg_u rfl rfl (by rfl) (by rfl) (ap_move (rq_p rfl rfl)) ?_) <;> (first | refine rd_skip rfl rfl ?_ | refine rdg_u rfl rfl (by rfl) (by rfl) (ap_nilc (rq_p rfl rfl)) ?_) <;> (first | refine rd_skip rfl rfl ?_ | refine rdg_u rfl rfl (by rfl) (by rfl) (ap_field_p (rq_p rfl rfl) (by rfl) (by rfl)) ?_) <;> (first | refine rd_skip rfl rfl ?_ | refine rdg_u rfl rfl (by rfl) (by rfl) (ap_load_p (rq_p rfl rfl) (by rfl) (by rfl) (by rfl)) ?_) <;> (first | refine rd_skip rfl rfl ?_ | refine rdg_u rfl rfl (by rfl) (by rfl) (ap_len_str (by rfl) (rq_p rfl rfl)) ?_) <;> (first | refine rd_skip rfl rfl ?_ | refine rdg_u rfl rfl (by rfl) (by rfl) (ap_lss (rq_p rfl rfl) (rq_p rfl rfl)) ?_) <;> (first | refine rd_pick_t (by rfl) (by rfl) ?_ | refine rd_pick_f (by rfl) (by rfl) ?_) <;> (refine rd_u (by rfl) (by rfl) (ap_move (rq_p rfl rfl)) ?_) <;> (first | refine rd_skip rfl rfl ?_ | (refine rd_split (t := 127) (by rfl) (fun hc => ?_) (fun hc => ?_) <;> (try simp only [sB, ne_eq, reduceCtorEq] at hc) <;> (try (exfalso; omega)) <;> (refine rd_skip rfl rfl ?_))) <;> (refine rd_skip rfl rfl ?_) <;> (refine rd_skip rfl rfl ?_) <;> (refine rd_skip rfl rfl ?_) <;> (refine rd_skip rfl rfl ?_) <;> (refine rd_skip rfl rfl ?_) <;> (refine rd_skip rfl rfl ?_) <;> (refine rd_skip rfl rfl ?_) <;> (refine rd_skip2 rfl rfl ?_) <;> (refine rd_skip2 rfl rfl ?_) <;> (refine rd_skip2 rfl rfl ?_) <;> (refine rd_skip2 rfl rfl ?_) <;> (refine rd_skip2 rfl rfl ?_) <;> (refine rd_skip2 rfl rfl ?_) <;> (refine rd_skip2 rfl rfl ?_) <;> (refine rd_skip rfl rfl ?_) <;> (refine rd_skip rfl rfl ?_) <;> (refine rd_skip2 rfl rfl ?_) <;> (refine rd_skip2 rfl rfl ?_) <;> (refine rd_skip2 rfl rfl ?_) <;> (refine rd_skip2 rfl rfl ?_) <;> (refine rd_skip2 rfl rfl ?_) <;> (refine rd_skip2 rfl rfl ?_) <;> (refine rd_skip2 rfl rfl ?_) <;> (refine rd_skip rfl rfl ?_) <;> (refine rd_pick_f (by rfl) (by rfl) ?_) <;> (refine rd_end (by kernel_rfl) ?_))))
            all_goals (first | (exfalso; simp_all [wB]; done) | skip)
            refine wp_loop (fun (e' : Nat) => e' = e) (fun _ => 0) (fun e' => (S 195 [(0, .ptr 0 4 0 0), (2, intA (e' : Nat))] 1 [(0, some (psR s j n b))])) e ⟨[0], ToR.S rfl (by repeat' (first | exact rt_nil | refine rt_t (by rfl) (by rfl) ?_ | refine rt_e (by rfl) (by rfl) ?_)) (by repeat' (first | exact ro_nil | refine ro_e (by rfl) (by rfl) ?_)) (by rfl) (by (rw [hm]; exact rfl)) (by rfl) (by (simp [bdT, AV.bd, bdL, bdL_append]; done)) (by repeat' (first | exact True.intro | exact rfl | refine And.intro ?_ ?_)) (by (rw [hm]; exact Nat.le_of_ble_eq_true rfl))⟩ rfl ?_
            rintro e' rfl
            unfold psR
            (repeat' (first | refine WP.seq ?_ | refine go_n ?_ | refine WP.exit ?_ | refine go_x ?_ | refine bl_x ?_ | refine bo_n ?_ | (refine wp_cond (by rfl) (fun hc => ?_) (fun hc => ?_) <;> (try simp only [sB, ne_eq, reduceCtorEq] at hc) <;> (try (exfalso; omega))) | (refine wp_draw (id := 11) 28 mixed (by kernel_rfl) (by kernel_rfl) rfl ?_ <;> (refine rd_u (by rfl) (by rfl) (ap_move (rq_p rfl rfl)) ?_) <;> (refine rd_u (by rfl) (by rfl) (ap_nilc (rq_p rfl rfl)) ?_) <;> (refine rd_u (by rfl) (by rfl) (ap_field_p (rq_p rfl rfl) (by rfl) (by rfl)) ?_) <;> (refine rd_u (by rfl) (by rfl) (ap_load_p (rq_p rfl rfl) (by rfl) (by rfl) (by rfl)) ?_) <;> (refine rd_u (by rfl) (by rfl) (ap_move (rq_p rfl rfl)) ?_) <;> (refine rd_u (by rfl) (by rfl) (ap_nilc (rq_p rfl rfl)) ?_) <;> (refine rd_u (by rfl) (by rfl) (ap_field_p (rq_p rfl rfl) (by rfl) (by rfl)) ?_) <;> (refine rd_u (by rfl) (by rfl) (ap_load_p (rq_p rfl rfl) (by rfl) (by rfl) (by rfl)) ?_) <;> (refine rd_u (by rfl) (by rfl) (ap_sidx_n (rq_p rfl rfl) (rq_p rfl rfl) (by rfl) (by omega)) ?_) <;> (refine rd_call rfl rfl (by first | ((repeat' first | exact SubL.nil | refine SubL.cons ?_ ?_ | exact Sub.refl); done) | fail) (by first | (simp [bdL, bdL_append, AV.bd]; done) | fail) (rdigit17_fn _) ?_) <;> (refine rd_u (by rfl) (by rfl) (ap_move (rq_p rfl rfl)) ?_) <;> ((refine rd_split (t := 166) (by rfl) (fun hc => ?_) (fun hc => ?_) <;> (try simp only [sB, ne_eq, reduceCtorEq] at hc) <;> (try (exfalso; omega)) <;> (first | refine rd_skip rfl rfl ?_ | refine rdg_u rfl rfl (by rfl) (by rfl) (ap_move (rq_p rfl rfl)) ?_))) <;> (first | refine rd_skip rfl rfl ?_ | refine rdg_u rfl rfl (by rfl) (by rfl) (ap_move (rq_p rfl rfl)) ?_) <;> (first | refine rd_skip rfl rfl ?_ | refine rdg_u rfl rfl (by rfl) (by rfl) (ap_nilc (rq_p rfl rfl)) ?_) <;> (first | refine rd_skip rfl rfl ?_ | refine rdg_u rfl rfl (by rfl) (by rfl) (ap_field_p (rq_p rfl rfl) (by rfl) (by rfl)) ?_) <;> (first | refine rd_skip rfl rfl ?_ | refine rdg_u rfl rfl (by rfl) (by rfl) (ap_load_p (rq_p rfl rfl) (by rfl) (by rfl) (by rfl)) ?_) <;> (first | refine rd_skip rfl rfl ?_ | refine rdg_u rfl rfl (by rfl) (by rfl) (ap_len_str (by rfl) (rq_p rfl rfl)) ?_) <;> (first | refine rd_skip rfl rfl ?_ | refine rdg_u rfl rfl (by rfl) (by rfl) (ap_lss (rq_p rfl rfl) (rq_p rfl rfl)) ?_) <;> (first | refine rd_pick_t (by rfl) (by rfl) ?_ | refine rd_pick_f (by rfl) (by rfl) ?_) <;> (refine rd_u (by rfl) (by rfl) (ap_move (rq_p rfl rfl)) ?_) <;> (first | refine rd_skip rfl rfl ?_ | (refine rd_split (t := 175) (by rfl) (fun hc => ?_) (fun hc => ?_) <;> (try simp only [sB, ne_eq, reduceCtorEq] at hc) <;> (try (exfalso; omega)) <;> (refine rd_skip rfl rfl ?_))) <;> (refine rd_skip rfl rfl ?_) <;> (refine rd_skip rfl rfl ?_) <;> (refine rd_skip rfl rfl ?_) <;> (refine rd_skip rfl rfl ?_) <;> (refine rd_skip rfl rfl ?_) <;> (refine rd_skip rfl rfl ?_) <;> (refine rd_pick_f (by rfl) (by rfl) ?_) <;> (refine rd_end (by kernel_rfl) ?_)) | (refine WP.regionC (id := 13) ?_; (refine su (ap_move (rq_p rfl rfl)) ?_); (refine su (ap_move (rq_p rfl rfl)) ?_); (refine su (ap_move (rq_p rfl rfl)) ?_); (refine su (ap_nilc (rq_p rfl rfl)) ?_); (refine su (ap_field_p (rq_p rfl rfl) (by rfl) (by rfl)) ?_); (refine su (ap_load_p (rq_p rfl rfl) (by rfl) (by rfl) (by rfl)) ?_); (refine su (ap_sub (rq_p rfl rfl) (rq_p rfl rfl) (by exact inr_i64_of (by omega))) ?_); (refine su (ap_nilc (rq_p rfl rfl)) ?_); (refine su (ap_field_p (rq_p rfl rfl) (by rfl) (by rfl)) ?_); (refine se_store_b (by rfl) (by rfl) (by rfl) (by rfl) ?_); refine asemC_end ?_)))
            all_goals (first | (exfalso; simp_all; done) | skip)
            rw [hzz _ heq, hAj, hNj]
            refine retO_L (x := .tup []) (k := 1) (os1 := [(0, some (psR s j (tokN (c :: r)) b))]) .nil (by rfl) ⟨[0], ToR.S rfl (by repeat' (first | exact rt_nil | refine rt_e (by rfl) (by rfl) ?_)) (by repeat' (first | exact ro_nil | refine ro_e (by rfl) (by rfl) ?_)) (by rfl) (by rfl) (by rfl) (by (simp [bdT, AV.bd, bdL, bdL_append]; done)) (by repeat' (first | exact True.intro | exact rfl | refine And.intro ?_ ?_)) (by exact Nat.le_of_ble_eq_true rfl)⟩ (by rfl)
        | false =>
          rw [hLc] at hLB
          refine wp_loop (fun (e : Nat) => e = j + 1) (fun _ => 0) (fun e => (S 195 [(0, .ptr 0 4 0 0), (2, intA (e : Nat))] 1 [(0, some (psR s j n b))])) (j + 1) ⟨[0], ToR.S rfl (by repeat' (first | exact rt_nil | refine rt_t (by rfl) (by rfl) ?_ | refine rt_e (by rfl) (by rfl) ?_)) (by repeat' (first | exact ro_nil | refine ro_e (by rfl) (by rfl) ?_)) (by rfl) (by (rw [hm]; exact rfl)) (by rfl) (by (simp [bdT, AV.bd, bdL, bdL_append]; done)) (by repeat' (first | exact True.intro | exact rfl | refine And.intro ?_ ?_)) (by (rw [hm]; exact Nat.le_of_ble_eq_true rfl))⟩ rfl ?_
          rintro e rfl
          unfold psR
          (repeat' (first | refine WP.seq ?_ | refine WP.block ?_ | refine go_n ?_ | refine WP.skip ?_ | refine WP.exit ?_ | refine go_x ?_ | refine bl_x ?_ | (refine wp_cond (by rfl) (fun hc => ?_) (fun hc => ?_) <;> (try simp only [sB, ne_eq, reduceCtorEq] at hc) <;> (try (exfalso; omega))) | (refine wp_draw (id := 9) 46 mixed (by kernel_rfl) (by kernel_rfl) rfl ?_ <;> (refine rd_u (by rfl) (by rfl) (ap_move (rq_p rfl rfl)) ?_) <;> (refine rd_u (by rfl) (by rfl) (ap_nilc (rq_p rfl rfl)) ?_) <;> (refine rd_u (by rfl) (by rfl) (ap_field_p (rq_p rfl rfl) (by rfl) (by rfl)) ?_) <;> (refine rd_u (by rfl) (by rfl) (ap_load_p (rq_p rfl rfl) (by rfl) (by rfl) (by rfl)) ?_) <;> (refine rd_u (by rfl) (by rfl) (ap_move (rq_p rfl rfl)) ?_) <;> (refine rd_u (by rfl) (by rfl) (ap_nilc (rq_p rfl rfl)) ?_) <;> (refine rd_u (by rfl) (by rfl) (ap_field_p (rq_p rfl rfl) (by rfl) (by rfl)) ?_) <;> (refine rd_u (by rfl) (by rfl) (ap_load_p (rq_p rfl rfl) (by rfl) (by rfl) (by rfl)) ?_) <;> (refine rd_u (by rfl) (by rfl) (ap_sidx_n (rq_p rfl rfl) (rq_p rfl rfl) (by rfl) (by omega)) ?_) <;> (refine rd_call rfl rfl (by first | ((repeat' first | exact SubL.nil | refine SubL.cons ?_ ?_ | exact Sub.refl); done) | fail) (by first | (simp [bdL, bdL_append, AV.bd]; done) | fail) (rletter17_fn _) ?_) <;> (refine rd_u (by rfl) (by rfl) (ap_move (rq_p rfl rfl)) ?_) <;> ((refine rd_split (t := 118) (by rfl) (fun hc => ?_) (fun hc => ?_) <;> (try simp only [sB, ne_eq, reduceCtorEq] at hc) <;> (try (exfalso; omega)) <;> (first | refine rd_skip rfl rfl ?_ | refine rdg_u rfl rfl (by rfl) (by rfl) (ap_move (rq_p rfl rfl)) ?_))) <;> (first | refine rd_skip rfl rfl ?_ | refine rdg_u rfl rfl (by rfl) (by rfl) (ap_move (rq_p rfl rfl)) ?_) <;> (first | refine rd_skip rfl rfl ?_ | refine rdg_u rfl rfl (by rfl) (by rfl) (ap_nilc (rq_p rfl rfl)) ?_) <;> (first | refine rd_skip rfl rfl ?_ | refine rdg_u rfl rfl (by rfl) (by rfl) (ap_field_p (rq_p rfl rfl) (by rfl) (by rfl)) ?_) <;> (first | refine rd_skip rfl rfl ?_ | refine rdg_u rfl rfl (by rfl) (by rfl) (ap_load_p (rq_p rfl rfl) (by rfl) (by rfl) (by rfl)) ?_) <;> (first | refine rd_skip rfl rfl ?_ | refine rdg_u rfl rfl (by rfl) (by rfl) (ap_len_str (by rfl) (rq_p rfl rfl)) ?_) <;> (first | refine rd_skip rfl rfl ?_ | refine rdg_u rfl rfl (by rfl) (by rfl) (ap_lss (rq_p rfl rfl) (rq_p rfl rfl)) ?_) <;> (first | refine rd_pick_t (by rfl) (by rfl) ?_ | refine rd_pick_f (by rfl) (by rfl) ?_) <;> (refine rd_u (by rfl) (by rfl) (ap_move (rq_p rfl rfl)) ?_) <;> (first | refine rd_skip rfl rfl ?_ | (refine rd_split (t := 127) (by rfl) (fun hc => ?_) (fun hc => ?_) <;> (try simp only [sB, ne_eq, reduceCtorEq] at hc) <;> (try (exfalso; omega)) <;> (first | refine rd_skip rfl rfl ?_ | refine rdg_u rfl rfl (by rfl) (by rfl) (ap_move (rq_p rfl rfl)) ?_))) <;> (first | refine rd_skip rfl rfl ?_ | refine rdg_u rfl rfl (by rfl) (by rfl) (ap_nilc (rq_p rfl rfl)) ?_) <;> (first | refine rd_skip rfl rfl ?_ | refine rdg_u rfl rfl (by rfl) (by rfl) (ap_field_p (rq_p rfl rfl) (by rfl) (by rfl)) ?_) <;> (first | refine rd_skip rfl rfl ?_ | refine rdg_u rfl rfl (by rfl) (by rfl) (ap_load_p (rq_p rfl rfl) (by rfl) (by rfl) (by rfl)) ?_) <;> (first | refine rd_skip rfl rfl ?_ | refine rdg_u rfl rfl (by rfl) (by rfl) (ap_move (rq_p rfl rfl)) ?_) <;> (first | refine rd_skip rfl rfl ?_ | refine rdg_u rfl rfl (by rfl) (by rfl) (ap_sidx_n (rq_p rfl rfl) (rq_p rfl rfl) (by rfl) (by omega)) ?_) <;> (first | refine rd_skip rfl rfl ?_ | refine rdg_call rfl (by rfl) rfl rfl (by first | ((repeat' first | exact SubL.nil | refine SubL.cons ?_ ?_ | exact Sub.refl); done) | fail) (by first | (simp [bdL, bdL_append, AV.bd]; done) | fail) (rletter17_fn _) ?_) <;> (first | refine rd_skip rfl rfl ?_ | refine rdg_u rfl rfl (by rfl) (by rfl) (ap_move (rq_p rfl rfl)) ?_) <;> (first | refine rd_skip2 rfl rfl ?_ | (refine rd_split (t := 135) (by rfl) (fun hc => ?_) (fun hc => ?_) <;> (try simp only [sB, ne_eq, reduceCtorEq] at hc) <;> (try (exfalso; omega)) <;> (first | refine rd_skip rfl rfl ?_ | refine rdg_u rfl rfl (by rfl) (by rfl) (ap_move (rq_p rfl rfl)) ?_))) <;> (first | refine rd_skip rfl rfl ?_ | refine rd_skip2 rfl rfl ?_ | refine rdg_u rfl rfl (by rfl) (by rfl) (ap_nilc (rq_p rfl rfl)) ?_) <;> (first | refine rd_skip rfl rfl ?_ | refine rd_skip2 rfl rfl ?_ | refine rdg_u rfl rfl (by rfl) (by rfl) (ap_field_p (rq_p rfl rfl) (by rfl) (by rfl)) ?_) <;> (first | refine rd_skip rfl rfl ?_ | refine rd_skip2 rfl rfl ?_ | refine rdg_u rfl rfl (by rfl) (by rfl) (ap_load_p (rq_p rfl rfl) (by rfl) (by rfl) (by rfl)) ?_) <;> (first | refine rd_skip rfl rfl ?_ | refine rd_skip2 rfl rfl ?_ | refine rdg_u rfl rfl (by rfl) (by rfl) (ap_move (rq_p rfl rfl)) ?_) <;> (first | refine rd_skip rfl rfl ?_ | refine rd_skip2 rfl rfl ?_ | refine rdg_u rfl rfl (by rfl) (by rfl) (ap_sidx_n (rq_p rfl rfl) (rq_p rfl rfl) (by rfl) (by omega)) ?_) <;> (first | refine rd_skip rfl rfl ?_ | refine rd_skip2 rfl rfl ?_ | refine rdg_call rfl (by rfl) rfl rfl (by first | ((repeat' first | exact SubL.nil | refine SubL.cons ?_ ?_ | exact Sub.refl); done) | fail) (by first | (simp [bdL, bdL_append, AV.bd]; done) | fail) (rdigit17_fn _) ?_) <;> (first | refine rd_skip rfl rfl ?_ | refine rdg_pick_t rfl (by rfl) (by rfl) (by rfl) ?_ | refine rdg_pick_f rfl (by rfl) (by rfl) (by rfl) ?_) <;> (first | refine rd_skip rfl rfl ?_ | refine rdg_u rfl rfl (by rfl) (by rfl) (ap_move (rq_p rfl rfl)) ?_) <;> (first | refine rd_skip rfl rfl ?_ | refine rd_skip2 rfl rfl ?_ | (refine rd_split (t := 144) (by rfl) (fun hc => ?_) (fun hc => ?_) <;> (try simp only [sB, ne_eq, reduceCtorEq] at hc) <;> (try (exfalso; omega)) <;> (first | refine rd_skip rfl rfl ?_ | refine rdg_u rfl rfl (by rfl) (by rfl) (ap_move (rq_p rfl rfl)) ?_))) <;> (first | refine rd_skip rfl rfl ?_ | refine rd_skip2 rfl rfl ?_ | refine rdg_u rfl rfl (by rfl) (by rfl) (ap_nilc (rq_p rfl rfl)) ?_) <;> (first | refine rd_skip rfl rfl ?_ | refine rd_skip2 rfl rfl ?_ | refine rdg_u rfl rfl (by rfl) (by rfl) (ap_field_p (rq_p rfl rfl) (by rfl) (by rfl)) ?_) <;> (first | refine rd_skip rfl rfl ?_ | refine rd_skip2 rfl rfl ?_ | refine rdg_u rfl rfl (by rfl) (by rfl) (ap_load_p (rq_p rfl rfl) (by rfl) (by rfl) (by rfl)) ?_) <;> (first | refine rd_skip rfl rfl ?_ | refine rd_skip2 rfl rfl ?_ | refine rdg_u rfl rfl (by rfl) (by rfl) (ap_move (rq_p rfl rfl)) ?_) <;> (first | refine rd_skip rfl rfl ?_ | refine rd_skip2 rfl rfl ?_ | refine rdg_u rfl rfl (by rfl) (by rfl) (ap_sidx_n (rq_p rfl rfl) (rq_p rfl rfl) (by rfl) (by omega)) ?_) <;> (first | refine rd_skip rfl rfl ?_ | refine rd_skip2 rfl rfl ?_ | refine rdg_u rfl rfl (by rfl) (by rfl) (ap_eql (rq_p rfl rfl) (rq_p rfl rfl)) ?_) <;> (first | refine rd_skip rfl rfl ?_ | refine rdg_pick_t rfl (by rfl) (by rfl) (by rfl) ?_ | refine rdg_pick_f rfl (by rfl) (by rfl) (by rfl) ?_) <;> (first | refine rd_pick_t (by rfl) (by rfl) ?_ | refine rd_pick_f (by rfl) (by rfl) ?_) <;> (refine rd_end (by kernel_rfl) ?_))))
          all_goals (first | (exfalso; simp_all; done) | skip)
          cases hDc : isD c with
          | true =>
            rw [hDc] at hDB
            have hsp : spanN digB s j = tokN (c :: r) := by
              rw [spanN_step hlt hDB, spanN_r hr]
              simp only [tokN, hLc, hDc, Bool.false_eq_true, if_false, if_true]
              rw [Nat.add_comm]
              rfl
            have hs1 := spanN_step (p := digB) hlt hDB
            have hle := spanN_le digB s j hj
            refine wp_loop (fun (e : Nat) => j + 1 ≤ e ∧ e ≤ s.size ∧ e + spanN digB s e = j + spanN digB s j) (fun e => s.size - e) (fun e => (S 195 [(0, .ptr 0 4 0 0), (2, intA (e : Nat))] 1 [(0, some (psR s j n b))])) (j + 1) ⟨[0], ToR.S rfl (by repeat' (first | exact rt_nil | refine rt_t (by rfl) (by rfl) ?_ | refine rt_e (by rfl) (by rfl) ?_)) (by repeat' (first | exact ro_nil | refine ro_e (by rfl) (by rfl) ?_)) (by rfl) (by (rw [hm]; exact rfl)) (by rfl) (by (simp [bdT, AV.bd, bdL, bdL_append]; done)) (by repeat' (first | exact True.intro | exact rfl | refine And.intro ?_ ?_)) (by (rw [hm]; exact Nat.le_of_ble_eq_true rfl))⟩ ⟨Nat.le_refl _, by omega, by omega⟩ ?_
            rintro e ⟨he1, he2, he3⟩
            unfold psR
            by_cases hel : e < s.size
            · cases hwe : digB (bAt s e) with
              | true =>
                have hst := spanN_step hel hwe
                have hnext : s.size - (e + 1) < s.size - e ∧ j + 1 ≤ e + 1 ∧ e + 1 ≤ s.size ∧ e + 1 + spanN digB s (e + 1) = j + spanN digB s j := ⟨by omega, by omega, by omega, by omega⟩
                (repeat' (first | refine WP.seq ?_ | refine WP.block ?_ | refine go_n ?_ | refine WP.skip ?_ | refine WP.exit ?_ | refine go_x ?_ | refine bl_n ?_ | refine bl_x ?_ | (refine wp_cond (by rfl) (fun hc => ?_) (fun hc => ?_) <;> (try simp only [sB, ne_eq, reduceCtorEq] at hc) <;> (try (exfalso; omega))) | (refine wp_draw (id := 11) 28 mixed (by kernel_rfl) (by kernel_rfl) rfl ?_ <;> (refine rd_u (by rfl) (by rfl) (ap_move (rq_p rfl rfl)) ?_) <;> (refine rd_u (by rfl) (by rfl) (ap_nilc (rq_p rfl rfl)) ?_) <;> (refine rd_u (by rfl) (by rfl) (ap_field_p (rq_p rfl rfl) (by rfl) (by rfl)) ?_) <;> (refine rd_u (by rfl) (by rfl) (ap_load_p (rq_p rfl rfl) (by rfl) (by rfl) (by rfl)) ?_) <;> (refine rd_u (by rfl) (by rfl) (ap_move (rq_p rfl rfl)) ?_) <;> (refine rd_u (by rfl) (by rfl) (ap_nilc (rq_p rfl rfl)) ?_) <;> (refine rd_u (by rfl) (by rfl) (ap_field_p (rq_p rfl rfl) (by rfl) (by rfl)) ?_) <;> (refine rd_u (by rfl) (by rfl) (ap_load_p (rq_p rfl rfl) (by rfl) (by rfl) (by rfl)) ?_) <;> (refine rd_u (by rfl) (by rfl) (ap_sidx_n (rq_p rfl rfl) (rq_p rfl rfl) (by rfl) (by omega)) ?_) <;> (refine rd_call rfl rfl (by first | ((repeat' first | exact SubL.nil | refine SubL.cons ?_ ?_ | exact Sub.refl); done) | fail) (by first | (simp [bdL, bdL_append, AV.bd]; done) | fail) (rdigit17_fn _) ?_) <;> (refine rd_u (by rfl) (by rfl) (ap_move (rq_p rfl rfl)) ?_) <;> ((refine rd_split (t := 166) (by rfl) (fun hc => ?_) (fun hc => ?_) <;> (try simp only [sB, ne_eq, reduceCtorEq] at hc) <;> (try (exfalso; omega)) <;> (first | refine rd_skip rfl rfl ?_ | refine rdg_u rfl rfl (by rfl) (by rfl) (ap_move (rq_p rfl rfl)) ?_))) <;> (first | refine rd_skip rfl rfl ?_ | refine rdg_u rfl rfl (by rfl) (by rfl) (ap_move (rq_p rfl rfl)) ?_) <;> (first | refine rd_skip rfl rfl ?_ | refine rdg_u rfl rfl (by rfl) (by rfl) (ap_nilc (rq_p rfl rfl)) ?_) <;> (first | refine rd_skip rfl rfl ?_ | refine rdg_u rfl rfl (by rfl) (by rfl) (ap_field_p (rq_p rfl rfl) (by rfl) (by rfl)) ?_) <;> (first | refine rd_skip rfl rfl ?_ | refine rdg_u rfl rfl (by rfl) (by rfl) (ap_load_p (rq_p rfl rfl) (by rfl) (by rfl) (by rfl)) ?_) <;> (first | refine rd_skip rfl rfl ?_ | refine rdg_u rfl rfl (by rfl) (by rfl) (ap_len_str (by rfl) (rq_p rfl rfl)) ?_) <;> (first | refine rd_skip rfl rfl ?_ | refine rdg_u rfl rfl (by rfl) (by rfl) (ap_lss (rq_p rfl rfl) (rq_p rfl rfl)) ?_) <;> (first | refine rd_pick_t (by rfl) (by rfl) ?_ | refine rd_pick_f (by rfl) (by rfl) ?_) <;> (refine rd_u (by rfl) (by rfl) (ap_move (rq_p rfl rfl)) ?_) <;> (first | refine rd_skip rfl rfl ?_ | (refine rd_split (t := 175) (by rfl) (fun hc => ?_) (fun hc => ?_) <;> (try simp only [sB, ne_eq, reduceCtorEq] at hc) <;> (try (exfalso; omega)) <;> (refine rdg_u rfl rfl (by rfl) (by rfl) (ap_move (rq_p rfl rfl)) ?_))) <;> (first | refine rd_skip rfl rfl ?_ | refine rdg_u rfl rfl (by rfl) (by rfl) (ap_nilc (rq_p rfl rfl)) ?_) <;> (first | refine rd_skip rfl rfl ?_ | refine rdg_u rfl rfl (by rfl) (by rfl) (ap_field_p (rq_p rfl rfl) (by rfl) (by rfl)) ?_) <;> (first | refine rd_skip rfl rfl ?_ | refine rdg_u rfl rfl (by rfl) (by rfl) (ap_load_p (rq_p rfl rfl) (by rfl) (by rfl) (by rfl)) ?_) <;> (first | refine rd_skip rfl rfl ?_ | refine rdg_u rfl rfl (by rfl) (by rfl) (ap_move (rq_p rfl rfl)) ?_) <;> (first | refine rd_skip rfl rfl ?_ | refine rdg_u rfl rfl (by rfl) (by rfl) (ap_sidx_n (rq_p rfl rfl) (rq_p rfl rfl) (by rfl) (by omega)) ?_) <;> (first | refine rd_skip rfl rfl ?_ | refine rdg_call rfl (by rfl) rfl rfl (by first | ((repeat' first | exact SubL.nil | refine SubL.cons ?_ ?_ | exact Sub.refl); done) | fail) (by first | (simp [bdL, bdL_append, AV.bd]; done) | fail) (rdigit17_fn _) ?_) <;> (first | refine rd_pick_t (by rfl) (by rfl) ?_ | refine rd_pick_f (by rfl) (by rfl) ?_) <;> (refine rd_end (by kernel_rfl) ?_)) | (refine WP.regionC (id := 12) ?_; (refine su (ap_move (rq_p rfl rfl)) ?_); (refine su (ap_add (rq_p rfl rfl) (rq_p rfl rfl) (by exact inr_i64_of (by omega))) ?_); (refine su (ap_assign (rq_p rfl rfl)) ?_); refine asemC_end ?_)))
                all_goals (first | exact ⟨e + 1, hnext, ⟨[0], ToR.S rfl (by repeat' (first | exact rt_nil | refine rt_t (by rfl) (by rfl) ?_ | refine rt_e (by rfl) (by rfl) ?_)) (by repeat' (first | exact ro_nil | refine ro_e (by rfl) (by rfl) ?_)) (by rfl) (by (rw [hm]; exact rfl)) (by rfl) (by (simp [bdT, AV.bd, bdL, bdL_append]; done)) (by repeat' (first | exact True.intro | exact rfl | refine And.intro ?_ ?_)) (by (rw [hm]; exact Nat.le_of_ble_eq_true rfl))⟩⟩ | (exfalso; simp_all [wB]; done))
              | false =>
                have hst := spanN_stop (p := digB) (s := s) (k := e) fun _ => hwe
                have heq : e = j + tokN (c :: r) := by omega
                (repeat' (first | refine WP.seq ?_ | refine WP.block ?_ | refine go_n ?_ | refine WP.skip ?_ | refine WP.exit ?_ | refine go_x ?_ | refine bl_x ?_ | refine bo_n ?_ | (refine wp_cond (by rfl) (fun hc => ?_) (fun hc => ?_) <;> (try simp only [sB, ne_eq, reduceCtorEq] at hc) <;> (try (exfalso; omega))) | (refine wp_draw (id := 11) 28 mixed (by kernel_rfl) (by kernel_rfl) rfl ?_ <;> (refine rd_u (by rfl) (by rfl) (ap_move (rq_p rfl rfl)) ?_) <;> (refine rd_u (by rfl) (by rfl) (ap_nilc (rq_p rfl rfl)) ?_) <;> (refine rd_u (by rfl) (by rfl) (ap_field_p (rq_p rfl rfl) (by rfl) (by rfl)) ?_) <;> (refine rd_u (by rfl) (by rfl) (ap_load_p (rq_p rfl rfl) (by rfl) (by rfl) (by rfl)) ?_) <;> (refine rd_u (by rfl) (by rfl) (ap_move (rq_p rfl rfl)) ?_) <;> (refine rd_u (by rfl) (by rfl) (ap_nilc (rq_p rfl rfl)) ?_) <;> (refine rd_u (by rfl) (by rfl) (ap_field_p (rq_p rfl rfl) (by rfl) (by rfl)) ?_) <;> (refine rd_u (by rfl) (by rfl) (ap_load_p (rq_p rfl rfl) (by rfl) (by rfl) (by rfl)) ?_) <;> (refine rd_u (by rfl) (by rfl) (ap_sidx_n (rq_p rfl rfl) (rq_p rfl rfl) (by rfl) (by omega)) ?_) <;> (refine rd_call rfl rfl (by first | ((repeat' first | exact SubL.nil | refine SubL.cons ?_ ?_ | exact Sub.refl); done) | fail) (by first | (simp [bdL, bdL_append, AV.bd]; done) | fail) (rdigit17_fn _) ?_) <;> (refine rd_u (by rfl) (by rfl) (ap_move (rq_p rfl rfl)) ?_) <;> ((refine rd_split (t := 166) (by rfl) (fun hc => ?_) (fun hc => ?_) <;> (try simp only [sB, ne_eq, reduceCtorEq] at hc) <;> (try (exfalso; omega)) <;> (first | refine rd_skip rfl rfl ?_ | refine rdg_u rfl rfl (by rfl) (by rfl) (ap_move (rq_p rfl rfl)) ?_))) <;> (first | refine rd_skip rfl rfl ?_ | refine rdg_u rfl rfl (by rfl) (by rfl) (ap_move (rq_p rfl rfl)) ?_) <;> (first | refine rd_skip rfl rfl ?_ | refine rdg_u rfl rfl (by rfl) (by rfl) (ap_nilc (rq_p rfl rfl)) ?_) <;> (first | refine rd_skip rfl rfl ?_ | refine rdg_u rfl rfl (by rfl) (by rfl) (ap_field_p (rq_p rfl rfl) (by rfl) (by rfl)) ?_) <;> (first | refine rd_skip rfl rfl ?_ | refine rdg_u rfl rfl (by rfl) (by rfl) (ap_load_p (rq_p rfl rfl) (by rfl) (by rfl) (by rfl)) ?_) <;> (first | refine rd_skip rfl rfl ?_ | refine rdg_u rfl rfl (by rfl) (by rfl) (ap_len_str (by rfl) (rq_p rfl rfl)) ?_) <;> (first | refine rd_skip rfl rfl ?_ | refine rdg_u rfl rfl (by rfl) (by rfl) (ap_lss (rq_p rfl rfl) (rq_p rfl rfl)) ?_) <;> (first | refine rd_pick_t (by rfl) (by rfl) ?_ | refine rd_pick_f (by rfl) (by rfl) ?_) <;> (refine rd_u (by rfl) (by rfl) (ap_move (rq_p rfl rfl)) ?_) <;> (first | refine rd_skip rfl rfl ?_ | (refine rd_split (t := 175) (by rfl) (fun hc => ?_) (fun hc => ?_) <;> (try simp only [sB, ne_eq, reduceCtorEq] at hc) <;> (try (exfalso; omega)) <;> (refine rdg_u rfl rfl (by rfl) (by rfl) (ap_move (rq_p rfl rfl)) ?_))) <;> (first | refine rd_skip rfl rfl ?_ | refine rdg_u rfl rfl (by rfl) (by rfl) (ap_nilc (rq_p rfl rfl)) ?_) <;> (first | refine rd_skip rfl rfl ?_ | refine rdg_u rfl rfl (by rfl) (by rfl) (ap_field_p (rq_p rfl rfl) (by rfl) (by rfl)) ?_) <;> (first | refine rd_skip rfl rfl ?_ | refine rdg_u rfl rfl (by rfl) (by rfl) (ap_load_p (rq_p rfl rfl) (by rfl) (by rfl) (by rfl)) ?_) <;> (first | refine rd_skip rfl rfl ?_ | refine rdg_u rfl rfl (by rfl) (by rfl) (ap_move (rq_p rfl rfl)) ?_) <;> (first | refine rd_skip rfl rfl ?_ | refine rdg_u rfl rfl (by rfl) (by rfl) (ap_sidx_n (rq_p rfl rfl) (rq_p rfl rfl) (by rfl) (by omega)) ?_) <;> (first | refine rd_skip rfl rfl ?_ | refine rdg_call rfl (by rfl) rfl rfl (by first | ((repeat' first | exact SubL.nil | refine SubL.cons ?_ ?_ | exact Sub.refl); done) | fail) (by first | (simp [bdL, bdL_append, AV.bd]; done) | fail) (rdigit17_fn _) ?_) <;> (first | refine rd_pick_t (by rfl) (by rfl) ?_ | refine rd_pick_f (by rfl) (by rfl) ?_) <;> (refine rd_end (by kernel_rfl) ?_)) | (refine WP.regionC (id := 13) ?_; (refine su (ap_move (rq_p rfl rfl)) ?_); (refine su (ap_move (rq_p rfl rfl)) ?_); (refine su (ap_move (rq_p rfl rfl)) ?_); (refine su (ap_nilc (rq_p rfl rfl)) ?_); (refine su (ap_field_p (rq_p rfl rfl) (by rfl) (by rfl)) ?_); (refine su (ap_load_p (rq_p rfl rfl) (by rfl) (by rfl) (by rfl)) ?_); (refine su (ap_sub (rq_p rfl rfl) (rq_p rfl rfl) (by exact inr_i64_of (by omega))) ?_); (refine su (ap_nilc (rq_p rfl rfl)) ?_); (refine su (ap_field_p (rq_p rfl rfl) (by rfl) (by rfl)) ?_); (refine se_store_b (by rfl) (by rfl) (by rfl) (by rfl) ?_); refine asemC_end ?_)))
                all_goals (first | (exfalso; simp_all [wB]; done) | skip)
                rw [hzz _ heq, hAj, hNj]
                refine retO_L (x := .tup []) (k := 1) (os1 := [(0, some (psR s j (tokN (c :: r)) b))]) .nil (by rfl) ⟨[0], ToR.S rfl (by repeat' (first | exact rt_nil | refine rt_e (by rfl) (by rfl) ?_)) (by repeat' (first | exact ro_nil | refine ro_e (by rfl) (by rfl) ?_)) (by rfl) (by rfl) (by rfl) (by (simp [bdT, AV.bd, bdL, bdL_append]; done)) (by repeat' (first | exact True.intro | exact rfl | refine And.intro ?_ ?_)) (by exact Nat.le_of_ble_eq_true rfl)⟩ (by rfl)
            · have hst := spanN_stop (p := digB) (s := s) (k := e) fun q => absurd q hel
              have heq : e = j + tokN (c :: r) := by omega
              (repeat' (first | refine WP.seq ?_ | refine go_n ?_ | refine WP.exit ?_ | refine go_x ?_ | refine bl_x ?_ | refine bo_n ?_ | (refine wp_cond (by rfl) (fun hc => ?_) (fun hc => ?_) <;> (try simp only [sB, ne_eq, reduceCtorEq] at hc) <;> (try (exfalso; omega))) | (refine wp_draw (id := 11) 28 mixed (by kernel_rfl) (by kernel_rfl) rfl ?_ <;> (refine rd_u (by rfl) (by rfl) (ap_move (rq_p rfl rfl)) ?_) <;> (refine rd_u (by rfl) (by rfl) (ap_nilc (rq_p rfl rfl)) ?_) <;> (refine rd_u (by rfl) (by rfl) (ap_field_p (rq_p rfl rfl) (by rfl) (by rfl)) ?_) <;> (refine rd_u (by rfl) (by rfl) (ap_load_p (rq_p rfl rfl) (by rfl) (by rfl) (by rfl)) ?_) <;> (refine rd_u (by rfl) (by rfl) (ap_move (rq_p rfl rfl)) ?_) <;> (refine rd_u (by rfl) (by rfl) (ap_nilc (rq_p rfl rfl)) ?_) <;> (refine rd_u (by rfl) (by rfl) (ap_field_p (rq_p rfl rfl) (by rfl) (by rfl)) ?_) <;> (refine rd_u (by rfl) (by rfl) (ap_load_p (rq_p rfl rfl) (by rfl) (by rfl) (by rfl)) ?_) <;> (refine rd_u (by rfl) (by rfl) (ap_sidx_n (rq_p rfl rfl) (rq_p rfl rfl) (by rfl) (by omega)) ?_) <;> (refine rd_call rfl rfl (by first | ((repeat' first | exact SubL.nil | refine SubL.cons ?_ ?_ | exact Sub.refl); done) | fail) (by first | (simp [bdL, bdL_append, AV.bd]; done) | fail) (rdigit17_fn _) ?_) <;> (refine rd_u (by rfl) (by rfl) (ap_move (rq_p rfl rfl)) ?_) <;> ((refine rd_split (t := 166) (by rfl) (fun hc => ?_) (fun hc => ?_) <;> (try simp only [sB, ne_eq, reduceCtorEq] at hc) <;> (try (exfalso; omega)) <;> (first | refine rd_skip rfl rfl ?_ | refine rdg_u rfl rfl (by rfl) (by rfl) (ap_move (rq_p rfl rfl)) ?_))) <;> (first | refine rd_skip rfl rfl ?_ | refine rdg_u rfl rfl (by rfl) (by rfl) (ap_move (rq_p rfl rfl)) ?_) <;> (first | refine rd_skip rfl rfl ?_ | refine rdg_u rfl rfl (by rfl) (by rfl) (ap_nilc (rq_p rfl rfl)) ?_) <;> (first | refine rd_skip rfl rfl ?_ | refine rdg_u rfl rfl (by rfl) (by rfl) (ap_field_p (rq_p rfl rfl) (by rfl) (by rfl)) ?_) <;> (first | refine rd_skip rfl rfl ?_ | refine rdg_u rfl rfl (by rfl) (by rfl) (ap_load_p (rq_p rfl rfl) (by rfl) (by rfl) (by rfl)) ?_) <;> (first | refine rd_skip rfl rfl ?_ | refine rdg_u rfl rfl (by rfl) (by rfl) (ap_len_str (by rfl) (rq_p rfl rfl)) ?_) <;> (first | refine rd_skip rfl rfl ?_ | refine rdg_u rfl rfl (by rfl) (by rfl) (ap_lss (rq_p rfl rfl) (rq_p rfl rfl)) ?_) <;> (first | refine rd_pick_t (by rfl) (by rfl) ?_ | refine rd_pick_f (by rfl) (by rfl) ?_) <;> (refine rd_u (by rfl) (by rfl) (ap_move (rq_p rfl rfl)) ?_) <;> (first | refine rd_skip rfl rfl ?_ | (refine rd_split (t := 175) (by rfl) (fun hc => ?_) (fun hc => ?_) <;> (try simp only [sB, ne_eq, reduceCtorEq] at hc) <;> (try (exfalso; omega)) <;> (refine rd_skip rfl rfl ?_))) <;> (refine rd_skip rfl rfl ?_) <;> (refine rd_skip rfl rfl ?_) <;> (refine rd_skip rfl rfl ?_) <;> (refine rd_skip rfl rfl ?_) <;> (refine rd_skip rfl rfl ?_) <;> (refine rd_skip rfl rfl ?_) <;> (refine rd_pick_f (by rfl) (by rfl) ?_) <;> (refine rd_end (by kernel_rfl) ?_)) | (refine WP.regionC (id := 13) ?_; (refine su (ap_move (rq_p rfl rfl)) ?_); (refine su (ap_move (rq_p rfl rfl)) ?_); (refine su (ap_move (rq_p rfl rfl)) ?_); (refine su (ap_nilc (rq_p rfl rfl)) ?_); (refine su (ap_field_p (rq_p rfl rfl) (by rfl) (by rfl)) ?_); (refine su (ap_load_p (rq_p rfl rfl) (by rfl) (by rfl) (by rfl)) ?_); (refine su (ap_sub (rq_p rfl rfl) (rq_p rfl rfl) (by exact inr_i64_of (by omega))) ?_); (refine su (ap_nilc (rq_p rfl rfl)) ?_); (refine su (ap_field_p (rq_p rfl rfl) (by rfl) (by rfl)) ?_); (refine se_store_b (by rfl) (by rfl) (by rfl) (by rfl) ?_); refine asemC_end ?_)))
              all_goals (first | (exfalso; simp_all [wB]; done) | skip)
              rw [hzz _ heq, hAj, hNj]
              refine retO_L (x := .tup []) (k := 1) (os1 := [(0, some (psR s j (tokN (c :: r)) b))]) .nil (by rfl) ⟨[0], ToR.S rfl (by repeat' (first | exact rt_nil | refine rt_e (by rfl) (by rfl) ?_)) (by repeat' (first | exact ro_nil | refine ro_e (by rfl) (by rfl) ?_)) (by rfl) (by rfl) (by rfl) (by (simp [bdT, AV.bd, bdL, bdL_append]; done)) (by repeat' (first | exact True.intro | exact rfl | refine And.intro ?_ ?_)) (by exact Nat.le_of_ble_eq_true rfl)⟩ (by rfl)
          | false =>
            rw [hDc] at hDB
            have hsp : tokN (c :: r) = 1 := by simp only [tokN, hLc, hDc, Bool.false_eq_true, if_false]
            obtain ⟨e, he⟩ : ∃ e, e = j + 1 := ⟨_, rfl⟩
            have heq : e = j + tokN (c :: r) := by omega
            rw [← he]
            refine wp_loop (fun (e' : Nat) => e' = e) (fun _ => 0) (fun e' => (S 195 [(0, .ptr 0 4 0 0), (2, intA (e' : Nat))] 1 [(0, some (psR s j n b))])) e ⟨[0], ToR.S rfl (by repeat' (first | exact rt_nil | refine rt_t (by rfl) (by rfl) ?_ | refine rt_e (by rfl) (by rfl) ?_)) (by repeat' (first | exact ro_nil | refine ro_e (by rfl) (by rfl) ?_)) (by rfl) (by (rw [hm]; exact rfl)) (by rfl) (by (simp [bdT, AV.bd, bdL, bdL_append]; done)) (by repeat' (first | exact True.intro | exact rfl | refine And.intro ?_ ?_)) (by (rw [hm]; exact Nat.le_of_ble_eq_true rfl))⟩ rfl ?_
            rintro e' rfl
            unfold psR
            (repeat' (first | refine WP.seq ?_ | refine WP.block ?_ | refine go_n ?_ | refine WP.skip ?_ | refine WP.exit ?_ | refine go_x ?_ | refine bl_x ?_ | refine bo_n ?_ | (refine wp_cond (by rfl) (fun hc => ?_) (fun hc => ?_) <;> (try simp only [sB, ne_eq, reduceCtorEq] at hc) <;> (try (exfalso; omega))) | (refine wp_draw (id := 11) 28 mixed (by kernel_rfl) (by kernel_rfl) rfl ?_ <;> (refine rd_u (by rfl) (by rfl) (ap_move (rq_p rfl rfl)) ?_) <;> (refine rd_u (by rfl) (by rfl) (ap_nilc (rq_p rfl rfl)) ?_) <;> (refine rd_u (by rfl) (by rfl) (ap_field_p (rq_p rfl rfl) (by rfl) (by rfl)) ?_) <;> (refine rd_u (by rfl) (by rfl) (ap_load_p (rq_p rfl rfl) (by rfl) (by rfl) (by rfl)) ?_) <;> (refine rd_u (by rfl) (by rfl) (ap_move (rq_p rfl rfl)) ?_) <;> (refine rd_u (by rfl) (by rfl) (ap_nilc (rq_p rfl rfl)) ?_) <;> (refine rd_u (by rfl) (by rfl) (ap_field_p (rq_p rfl rfl) (by rfl) (by rfl)) ?_) <;> (refine rd_u (by rfl) (by rfl) (ap_load_p (rq_p rfl rfl) (by rfl) (by rfl) (by rfl)) ?_) <;> (refine rd_u (by rfl) (by rfl) (ap_sidx_n (rq_p rfl rfl) (rq_p rfl rfl) (by rfl) (by omega)) ?_) <;> (refine rd_call rfl rfl (by first | ((repeat' first | exact SubL.nil | refine SubL.cons ?_ ?_ | exact Sub.refl); done) | fail) (by first | (simp [bdL, bdL_append, AV.bd]; done) | fail) (rdigit17_fn _) ?_) <;> (refine rd_u (by rfl) (by rfl) (ap_move (rq_p rfl rfl)) ?_) <;> ((refine rd_split (t := 166) (by rfl) (fun hc => ?_) (fun hc => ?_) <;> (try simp only [sB, ne_eq, reduceCtorEq] at hc) <;> (try (exfalso; omega)) <;> (first | refine rd_skip rfl rfl ?_ | refine rdg_u rfl rfl (by rfl) (by rfl) (ap_move (rq_p rfl rfl)) ?_))) <;> (first | refine rd_skip rfl rfl ?_ | refine rdg_u rfl rfl (by rfl) (by rfl) (ap_move (rq_p rfl rfl)) ?_) <;> (first | refine rd_skip rfl rfl ?_ | refine rdg_u rfl rfl (by rfl) (by rfl) (ap_nilc (rq_p rfl rfl)) ?_) <;> (first | refine rd_skip rfl rfl ?_ | refine rdg_u rfl rfl (by rfl) (by rfl) (ap_field_p (rq_p rfl rfl) (by rfl) (by rfl)) ?_) <;> (first | refine rd_skip rfl rfl ?_ | refine rdg_u rfl rfl (by rfl) (by rfl) (ap_load_p (rq_p rfl rfl) (by rfl) (by rfl) (by rfl)) ?_) <;> (first | refine rd_skip rfl rfl ?_ | refine rdg_u rfl rfl (by rfl) (by rfl) (ap_len_str (by rfl) (rq_p rfl rfl)) ?_) <;> (first | refine rd_skip rfl rfl ?_ | refine rdg_u rfl rfl (by rfl) (by rfl) (ap_lss (rq_p rfl rfl) (rq_p rfl rfl)) ?_) <;> (first | refine rd_pick_t (by rfl) (by rfl) ?_ | refine rd_pick_f (by rfl) (by rfl) ?_) <;> (refine rd_u (by rfl) (by rfl) (ap_move (rq_p rfl rfl)) ?_) <;> (first | refine rd_skip rfl rfl ?_ | (refine rd_split (t := 175) (by rfl) (fun hc => ?_) (fun hc => ?_) <;> (try simp only [sB, ne_eq, reduceCtorEq] at hc) <;> (try (exfalso; omega)) <;> (first | refine rd_skip rfl rfl ?_ | refine rdg_u rfl rfl (by rfl) (by rfl) (ap_move (rq_p rfl rfl)) ?_))) <;> (first | refine rd_skip rfl rfl ?_ | refine rdg_u rfl rfl (by rfl) (by rfl) (ap_nilc (rq_p rfl rfl)) ?_) <;> (first | refine rd_skip rfl rfl ?_ | refine rdg_u rfl rfl (by rfl) (by rfl) (ap_field_p (rq_p rfl rfl) (by rfl) (by rfl)) ?_) <;> (first | refine rd_skip rfl rfl ?_ | refine rdg_u rfl rfl (by rfl) (by rfl) (ap_load_p (rq_p rfl rfl) (by rfl) (by rfl) (by rfl)) ?_) <;> (first | refine rd_skip rfl rfl ?_ | refine rdg_u rfl rfl (by rfl) (by rfl) (ap_move (rq_p rfl rfl)) ?_) <;> (first | refine rd_skip rfl rfl ?_ | refine rdg_u rfl rfl (by rfl) (by rfl) (ap_sidx_n (rq_p rfl rfl) (rq_p rfl rfl) (by rfl) (by omega)) ?_) <;> (first | refine rd_skip rfl rfl ?_ | refine rdg_call rfl (by rfl) rfl rfl (by first | ((repeat' first | exact SubL.nil | refine SubL.cons ?_ ?_ | exact Sub.refl); done) | fail) (by first | (simp [bdL, bdL_append, AV.bd]; done) | fail) (rdigit17_fn _) ?_) <;> (first | refine rd_pick_t (by rfl) (by rfl) ?_ | refine rd_pick_f (by rfl) (by rfl) ?_) <;> (refine rd_end (by kernel_rfl) ?_)) | (refine WP.regionC (id := 13) ?_; (refine su (ap_move (rq_p rfl rfl)) ?_); (refine su (ap_move (rq_p rfl rfl)) ?_); (refine su (ap_move (rq_p rfl rfl)) ?_); (refine su (ap_nilc (rq_p rfl rfl)) ?_); (refine su (ap_field_p (rq_p rfl rfl) (by rfl) (by rfl)) ?_); (refine su (ap_load_p (rq_p rfl rfl) (by rfl) (by rfl) (by rfl)) ?_); (refine su (ap_sub (rq_p rfl rfl) (rq_p rfl rfl) (by exact inr_i64_of (by omega))) ?_); (refine su (ap_nilc (rq_p rfl rfl)) ?_); (refine su (ap_field_p (rq_p rfl rfl) (by rfl) (by rfl)) ?_); (refine se_store_b (by rfl) (by rfl) (by rfl) (by rfl) ?_); refine asemC_end ?_)))
            all_goals (first | (exfalso; simp_all; done) | skip)
            rw [hzz _ heq, hAj, hNj]
            refine retO_L (x := .tup []) (k := 1) (os1 := [(0, some (psR s j (tokN (c :: r)) b))]) .nil (by rfl) ⟨[0], ToR.S rfl (by repeat' (first | exact rt_nil | refine rt_e (by rfl) (by rfl) ?_)) (by repeat' (first | exact ro_nil | refine ro_e (by rfl) (by rfl) ?_)) (by rfl) (by rfl) (by rfl) (by (simp [bdT, AV.bd, bdL, bdL_append]; done)) (by repeat' (first | exact True.intro | exact rfl | refine And.intro ?_ ?_)) (by exact Nat.le_of_ble_eq_true rfl)⟩ (by rfl)
  · have hnil : (bl s).drop j = [] := List.drop_eq_nil_of_le (by rw [bl_len]; omega)
    rw [hnil, lexL_nil] at hjj
    have hAj : A = j := by rw [← hA]; unfold nxA; rw [← hjj]; simp only; omega
    have hNj : N = 0 := by rw [← hN]; unfold nxN; rw [← hjj]
    have hzz : ((j : Int) - (j : Int)) = ((0 : Nat) : Int) := by omega
    (repeat' (first | refine WP.seq ?_ | refine go_n ?_ | refine WP.skip ?_ | refine WP.exit ?_ | refine go_x ?_ | refine bl_x ?_ | refine bo_n ?_ | (refine wp_cond (by rfl) (fun hc => ?_) (fun hc => ?_) <;> (try simp only [sB, ne_eq, reduceCtorEq] at hc) <;> (try (exfalso; omega))) | (refine wp_draw (id := 1) 34 mixed (by kernel_rfl) (by kernel_rfl) rfl ?_ <;> (refine rd_u (by rfl) (by rfl) (ap_move (rq_p rfl rfl)) ?_) <;> (refine rd_u (by rfl) (by rfl) (ap_nilc (rq_p rfl rfl)) ?_) <;> (refine rd_u (by rfl) (by rfl) (ap_field_p (rq_p rfl rfl) (by rfl) (by rfl)) ?_) <;> (refine rd_u (by rfl) (by rfl) (ap_load_p (rq_p rfl rfl) (by rfl) (by rfl) (by rfl)) ?_) <;> (refine rd_u (by rfl) (by rfl) (ap_move (rq_p rfl rfl)) ?_) <;> (refine rd_u (by rfl) (by rfl) (ap_nilc (rq_p rfl rfl)) ?_) <;> (refine rd_u (by rfl) (by rfl) (ap_field_p (rq_p rfl rfl) (by rfl) (by rfl)) ?_) <;> (refine rd_u (by rfl) (by rfl) (ap_load_p (rq_p rfl rfl) (by rfl) (by rfl) (by rfl)) ?_) <;> (refine rd_u (by rfl) (by rfl) (ap_len_str (by rfl) (rq_p rfl rfl)) ?_) <;> (refine rd_u (by rfl) (by rfl) (ap_lss (rq_p rfl rfl) (rq_p rfl rfl)) ?_) <;> (refine rd_u (by rfl) (by rfl) (ap_move (rq_p rfl rfl)) ?_) <;> ((refine rd_split (t := 25) (by rfl) (fun hc => ?_) (fun hc => ?_) <;> (try simp only [sB, ne_eq, reduceCtorEq] at hc) <;> (try (exfalso; omega)) <;> (refine rd_skip rfl rfl ?_))) <;> (refine rd_skip rfl rfl ?_) <;> (refine rd_skip rfl rfl ?_) <;> (refine rd_skip rfl rfl ?_) <;> (refine rd_skip rfl rfl ?_) <;> (refine rd_skip rfl rfl ?_) <;> (refine rd_skip rfl rfl ?_) <;> (refine rd_skip rfl rfl ?_) <;> (refine rd_skip rfl rfl ?_) <;> (refine rd_skip rfl rfl ?_) <;> (refine rd_skip rfl rfl ?_) <;> (refine rd_skip2 rfl rfl ?_) <;> (refine rd_skip2 rfl rfl ?_) <;> (refine rd_skip2 rfl rfl ?_) <;> (refine rd_skip2 rfl rfl ?_) <;> (refine rd_skip2 rfl rfl ?_) <;> (refine rd_skip2 rfl rfl ?_) <;> (refine rd_skip2 rfl rfl ?_) <;> (refine rd_skip2 rfl rfl ?_) <;> (refine rd_skip2 rfl rfl ?_) <;> (refine rd_skip2 rfl rfl ?_) <;> (refine rd_skip rfl rfl ?_) <;> (refine rd_pick_f (by rfl) (by rfl) ?_) <;> (refine rd_end (by kernel_rfl) ?_)) | (refine WP.regionC (id := 6) ?_; (refine su (ap_move (rq_p rfl rfl)) ?_); (refine su (ap_nilc (rq_p rfl rfl)) ?_); (refine su (ap_field_p (rq_p rfl rfl) (by rfl) (by rfl)) ?_); (refine su (ap_load_p (rq_p rfl rfl) (by rfl) (by rfl) (by rfl)) ?_); (refine su (ap_assign (rq_p rfl rfl)) ?_); refine asemC_end ?_) | (refine WP.regionC (id := 7) ?_; (refine su (ap_move (rq_p rfl rfl)) ?_); (refine su (ap_move (rq_p rfl rfl)) ?_); (refine su (ap_nilc (rq_p rfl rfl)) ?_); (refine su (ap_field_p (rq_p rfl rfl) (by rfl) (by rfl)) ?_); (refine su (ap_load_p (rq_p rfl rfl) (by rfl) (by rfl) (by rfl)) ?_); (refine su (ap_len_str (by rfl) (rq_p rfl rfl)) ?_); (refine su (ap_lss (rq_p rfl rfl) (rq_p rfl rfl)) ?_); refine asemC_end ?_) | (refine WP.regionC (id := 13) ?_; (refine su (ap_move (rq_p rfl rfl)) ?_); (refine su (ap_move (rq_p rfl rfl)) ?_); (refine su (ap_move (rq_p rfl rfl)) ?_); (refine su (ap_nilc (rq_p rfl rfl)) ?_); (refine su (ap_field_p (rq_p rfl rfl) (by rfl) (by rfl)) ?_); (refine su (ap_load_p (rq_p rfl rfl) (by rfl) (by rfl) (by rfl)) ?_); (refine su (ap_sub (rq_p rfl rfl) (rq_p rfl rfl) (by exact inr_i64_of (by omega))) ?_); (refine su (ap_nilc (rq_p rfl rfl)) ?_); (refine su (ap_field_p (rq_p rfl rfl) (by rfl) (by rfl)) ?_); (refine se_store_b (by rfl) (by rfl) (by rfl) (by rfl) ?_); refine asemC_end ?_)))
    all_goals (skip)
    rw [hzz, hAj, hNj]
    refine retO_L (x := .tup []) (k := 1) (os1 := [(0, some (psR s j 0 b))]) .nil (by rfl) ⟨[0], ToR.S rfl (by repeat' (first | exact rt_nil | refine rt_e (by rfl) (by rfl) ?_)) (by repeat' (first | exact ro_nil | refine ro_e (by rfl) (by rfl) ?_)) (by rfl) (by rfl) (by rfl) (by (simp [bdT, AV.bd, bdL, bdL_append]; done)) (by repeat' (first | exact True.intro | exact rfl | refine And.intro ?_ ?_)) (by exact Nat.le_of_ble_eq_true rfl)⟩ (by rfl)
end Go.Lg

namespace Go.Lg
open Go.Proofs
set_option linter.unusedSimpArgs false
set_option linter.unusedVariables false
attribute [local irreducible] Ap Rq asemC WP RunD Ret Gq thenA inBlockA bodyQ noGotoA RqL RqP OpP
set_option maxHeartbeats 4000000
attribute [local simp] rdA pkA tokA toks_bd
def cut (l : List (Nat × Tx)) (r : List Tx) : List (Nat × Tx) := l.drop (l.length - r.length)
def pout {α : Type} (l : List (Nat × Tx)) (e : Int) (f : α → AV) : PR α → Res
  | .ok x r => .ok (f x) [some (rdA (cut l r) e)]
  | .err r => .die (synV (pos (cut l r) e))
theorem cut_self (l : List (Nat × Tx)) : cut l (l.map (·.2)) = l := by simp [cut]
theorem cut_tail (p : Nat × Tx) (l : List (Nat × Tx)) : cut (p :: l) (l.map (·.2)) = l := by simp [cut]
theorem pout_fine {α : Type} (l : List (Nat × Tx)) (e : Int) (f : α → AV) (hf : ∀ x, (f x).bd 1 = true) (p : PR α) : (pout l e f p).fine 1 := by
  cases p with
  | ok x r => exact ⟨Nat.le_refl _, hf x⟩
  | err r => trivial
def kwB (s : ByteArray) : Bool := kws.any fun k => decide (s = k)
theorem reserved_fn (s : ByteArray) : Fn Try.prog 56 [strA s] (boolA (kwB s)) := by
  refine Fn.intro (by rfl) (by kernel_rfl) Try.func56 rfl rfl Try.ntmps56 (by exact Nat.le_of_ble_eq_true rfl) ?_; intro Γ hm
  (repeat' (first | refine WP.seq ?_ | refine WP.block ?_ | refine go_n ?_ | refine WP.skip ?_ | refine WP.ret ?_ | refine go_r ?_ | refine bl_n ?_ | refine bl_r ?_ | refine bo_r ?_ | (refine wp_cond (by rfl) (fun hc => ?_) (fun hc => ?_) <;> (try simp only [sB, ne_eq, reduceCtorEq] at hc) <;> (try (exfalso; omega))) | (refine WP.regionC (id := 0) ?_; (refine su (ap_assign (rq_p rfl rfl)) ?_); refine asemC_end ?_) | (refine WP.regionC (id := 1) ?_; (refine su (ap_move (rq_p rfl rfl)) ?_); refine asemC_end ?_) | (refine WP.regionC (id := 2) ?_; (refine su (ap_eqs (rq_p rfl rfl) (rq_p rfl rfl)) ?_); (refine su (ap_assign (rq_p rfl rfl)) ?_); refine asemC_end ?_) | (refine WP.regionC (id := 3) ?_; (refine su (ap_eqs (rq_p rfl rfl) (rq_p rfl rfl)) ?_); (refine su (ap_assign (rq_p rfl rfl)) ?_); refine asemC_end ?_) | (refine WP.regionC (id := 4) ?_; (refine su (ap_eqs (rq_p rfl rfl) (rq_p rfl rfl)) ?_); (refine su (ap_assign (rq_p rfl rfl)) ?_); refine asemC_end ?_) | (refine WP.regionC (id := 5) ?_; (refine su (ap_eqs (rq_p rfl rfl) (rq_p rfl rfl)) ?_); (refine su (ap_assign (rq_p rfl rfl)) ?_); refine asemC_end ?_) | (refine WP.regionC (id := 6) ?_; (refine su (ap_eqs (rq_p rfl rfl) (rq_p rfl rfl)) ?_); (refine su (ap_assign (rq_p rfl rfl)) ?_); refine asemC_end ?_) | (refine WP.regionC (id := 7) ?_; (refine su (ap_assign (rq_p rfl rfl)) ?_); refine asemC_end ?_) | (refine WP.regionC (id := 8) ?_; (refine su (ap_assign (rq_p rfl rfl)) ?_); refine asemC_end ?_) | refine ret_b (by rfl) ?_))
  all_goals simp_all [kwB, kws, kw0, kw1, kw2, kw3, kw4]
theorem expect_fn (s : ByteArray) (hs : bl s ≠ []) (l : List (Nat × Tx)) (e : Int) :
    FnP Try.prog 20 [.ptr 0 2 0 0, strA s] [rdA l e] (pout l e (fun _ => .tup []) (pTake (bl s) (l.map (·.2)))) := by
  by_cases h : hdT l = bl s
  · obtain ⟨p, l', rfl⟩ : ∃ p l', l = p :: l' := by
      cases l with
      | nil => exact absurd h.symm hs
      | cons p l' => exact ⟨_, _, rfl⟩
    have hr : pout (p :: l') e (fun _ : Unit => .tup []) (pTake (bl s) ((p :: l').map (·.2))) = .ok (.tup []) [some (rdA l' e)] := by
      have h' : p.2 = bl s := h
      simp [pTake, pout, h', cut_tail]
    rw [hr]
    have ht : tx (hdT (p :: l')) = s := by rw [h, tx_bl]
    have hn := next_fn p l' e
    generalize hL : p :: l' = L at *
    clear hr
    unfold rdA
    refine FnP.intro ?_ (by kernel_rfl) Try.func20 rfl rfl Try.ntmps20 (by exact Nat.le_of_ble_eq_true rfl) ?_; rotate_left; intro Γ hm
    · (repeat' (first | refine WP.seq ?_ | refine go_n ?_ | refine WP.skip ?_ | (refine wp_cond (by rfl) (fun hc => ?_) (fun hc => ?_) <;> (try simp only [sB, ne_eq, reduceCtorEq] at hc) <;> (try (exfalso; omega))) | (refine WP.regionC (id := 0) ?_; (refine su (ap_move (rq_p rfl rfl)) ?_); (refine sc_o [0] rfl rfl (peek_fn _ _) (Lend.o1 (by rfl) (by rfl) (by (exact (renL_pure (by simp [AV.bd, bdL, bdL_append])).symm)) (by rfl) (by simp [AV.bd, bdL, bdL_append]) (by simp [AV.bd, bdL, bdL_append])) ?_; simp only [updN, newO, AObj.ren, renL, AV.ren, apx, ap, if_true, if_false, Nat.reduceLT, Nat.reduceAdd, Nat.reduceSub, sO, intA, boolA, strA, ren_pkA, rdA, ren_toks]); (refine su (ap_fieldv (rq_p rfl rfl) (by rfl)) ?_); (refine su (ap_move (rq_p rfl rfl)) ?_); (refine su (ap_nes (rq_p rfl rfl) (rq_p rfl rfl)) ?_); refine asemC_end ?_) | (refine WP.regionC (id := 2) ?_; (refine su (ap_move (rq_p rfl rfl)) ?_); (refine sc_o [0] rfl rfl (hn) (Lend.o1 (by rfl) (by rfl) (by (exact (renL_pure (by simp [AV.bd, bdL, bdL_append])).symm)) (by rfl) (by simp [AV.bd, bdL, bdL_append]) (by simp [AV.bd, bdL, bdL_append])) ?_; simp only [updN, newO, AObj.ren, renL, AV.ren, apx, ap, if_true, if_false, Nat.reduceLT, Nat.reduceAdd, Nat.reduceSub, sO, intA, boolA, strA, rdA, ren_toks]); refine asemC_end ?_)))
      · exact absurd ht hc
      · refine bp_n rfl ?_
        refine retO_L (x := .tup []) (k := 1) (os1 := [(0, some (rdA l' e))]) .nil (by rfl) ⟨[0], ToR.S rfl (by repeat' (first | exact rt_nil | refine rt_e (by rfl) (by rfl) ?_)) (by repeat' (first | exact ro_nil | refine ro_p (by rfl) (by first | exact rfl | fail) (by first | (simp [bdL, bdL_append, AV.bd]; done) | fail) ?_)) (by rfl) (by rfl) (by rfl) (by (simp [bdT, AV.bd, bdL, bdL_append]; done)) (by repeat' (first | exact True.intro | refine And.intro ?_ ?_ | (simp [bdOq, bdL, bdL_append, AV.bd]; done))) (by exact Nat.le_of_ble_eq_true rfl)⟩ (by rfl)
    · exact ⟨Nat.le_refl _, rfl⟩
  · have hr : pout l e (fun _ : Unit => .tup []) (pTake (bl s) (l.map (·.2))) = .die (synV (pos l e)) := by
      cases l with
      | nil => rfl
      | cons p l' =>
        have h' : ¬ p.2 = bl s := h
        simp [pTake, pout, h', cut, pos]
    have ht : ¬ tx (hdT l) = s := fun q => h (by rw [← q]; rfl)
    rw [hr]
    unfold rdA
    refine FnP.intro ?_ (by kernel_rfl) Try.func20 rfl rfl Try.ntmps20 (by exact Nat.le_of_ble_eq_true rfl) ?_; rotate_left; intro Γ hm
    · (repeat' (first | refine WP.seq ?_ | refine go_n ?_ | refine WP.skip ?_ | refine go_p ?_ | (refine wp_cond (by rfl) (fun hc => ?_) (fun hc => ?_) <;> (try simp only [sB, ne_eq, reduceCtorEq] at hc) <;> (try (exfalso; omega))) | (refine WP.regionC (id := 0) ?_; (refine su (ap_move (rq_p rfl rfl)) ?_); (refine sc_o [0] rfl rfl (peek_fn _ _) (Lend.o1 (by rfl) (by rfl) (by (exact (renL_pure (by simp [AV.bd, bdL, bdL_append])).symm)) (by rfl) (by simp [AV.bd, bdL, bdL_append]) (by simp [AV.bd, bdL, bdL_append])) ?_; simp only [updN, newO, AObj.ren, renL, AV.ren, apx, ap, if_true, if_false, Nat.reduceLT, Nat.reduceAdd, Nat.reduceSub, sO, intA, boolA, strA, ren_pkA, rdA, ren_toks]); (refine su (ap_fieldv (rq_p rfl rfl) (by rfl)) ?_); (refine su (ap_move (rq_p rfl rfl)) ?_); (refine su (ap_nes (rq_p rfl rfl) (rq_p rfl rfl)) ?_); refine asemC_end ?_) | (refine wpl_region (id := 1) ?_; (refine wpl_step rfl ?_; (refine su (ap_move (rq_p rfl rfl)) ?_); refine asemC_end ?_; ((refine wpl_x [0] rfl rfl (fail_fn l e) (Lend.S (by first | ((repeat' first | exact RenL.nil | refine RenL.cons (by rfl) ?_); done) | fail) (by first | ((repeat' first | exact LendO.nil | refine LendO.arr (by rfl) (by (exact (renL_pure (by simp [AV.bd, bdL, bdL_append])).symm)) ?_); done) | fail) (by decide) (by rfl) (by simp [AV.bd, bdL, bdL_append]) (by repeat' (first | exact True.intro | refine And.intro ?_ ?_ | simp [AV.bd, bdL, bdL_append]))) ?_))))))
      · exact bp_p rfl
      · exact absurd hc ht
    · trivial
theorem kwB_tx (t : Tx) : kwB (tx t) = kwT.any fun k => decide (t = k) := by
  unfold kwB kwT
  rw [List.any_map]
  congr 1
  funext k
  simp only [Function.comp]
  have : (tx t = k) ↔ (t = bl k) := ⟨fun h => by rw [← h]; rfl, fun h => by rw [h, tx_bl]⟩
  simp only [this]
theorem nm_hd (l : List (Nat × Tx)) : (tkW (hdT l) && !(kwB (tx (hdT l)))) = isN (l.map (·.2)) := by
  cases l with
  | nil => rfl
  | cons p l =>
    rw [kwB_tx]
    show _ = nmT p.2
    unfold nmT tkW
    have : hdT (p :: l) = p.2 := rfl
    rw [this]
    all_goals (cases p.2 <;> rfl)
theorem isname_fn (l : List (Nat × Tx)) (e : Int) : FnO Try.prog 69 [.ptr 0 2 0 0] [rdA l e] (boolA (isN (l.map (·.2)))) [some (rdA l e)] := by
  have h := nm_hd l
  unfold rdA
  refine FnO.intro (by exact Nat.le_of_ble_eq_true rfl) (by rfl) (by kernel_rfl) Try.func69 rfl rfl Try.ntmps69 (by exact Nat.le_of_ble_eq_true rfl) ?_; intro Γ hm
  (repeat' (first | refine WP.seq ?_ | refine go_n ?_ | refine WP.ret ?_ | refine bo_r ?_ | (refine WP.regionC (id := 0) ?_; (refine su (ap_assign (rq_p rfl rfl)) ?_); refine asemC_end ?_) | (refine WP.regionC (id := 1) ?_; (refine su (ap_move (rq_p rfl rfl)) ?_); (refine sc_o [0] rfl rfl (peek_fn _ _) (Lend.o1 (by rfl) (by rfl) (by (exact (renL_pure (by simp [AV.bd, bdL, bdL_append])).symm)) (by rfl) (by simp [AV.bd, bdL, bdL_append]) (by simp [AV.bd, bdL, bdL_append])) ?_; simp only [updN, newO, AObj.ren, renL, AV.ren, apx, ap, if_true, if_false, Nat.reduceLT, Nat.reduceAdd, Nat.reduceSub, sO, intA, boolA, strA, ren_pkA, rdA, ren_toks]); (refine se_alloc (by rfl) ?_); (refine se_store_b (by rfl) (by rfl) (by rfl) (by rfl) ?_); refine asemC_end ?_) | (refine WP.regionC (id := 2) ?_; (refine su (ap_field_p (rq_p rfl rfl) (by rfl) (by rfl)) ?_); (refine su (ap_load_p (rq_p rfl rfl) (by rfl) (by rfl) (by rfl)) ?_); (refine su (ap_move (rq_p rfl rfl)) ?_); (refine sg (gq_vt rfl rfl) (fun he => ap_field_p (rq_p rfl rfl) (by rfl) (by rfl)) ?_); (refine sg (gq_vt rfl rfl) (fun he => ap_load_p (rq_c rfl rfl) (by rfl) (by rfl) (by rfl)) ?_); (refine sg_p (gq_vt rfl rfl) (fun he => ⟨(rq_p rfl rfl), (RqL.cons (rq_c rfl rfl) (RqL.nil)), (by first | ((repeat' first | exact SubL.nil | refine SubL.cons ?_ ?_ | exact Sub.refl); done) | fail), (by first | (simp [bdL, bdL_append, AV.bd]; done) | fail), reserved_fn _⟩) ?_); (refine sg (gq_vt rfl rfl) (fun he => ap_not (rq_c rfl rfl)) ?_); (refine su (ap_and (rq_p rfl rfl) (rq_c rfl rfl)) ?_); (refine su (ap_assign (rq_p rfl rfl)) ?_); refine asemC_end ?_)))
  rw [← h]
  refine retO_L (x := boolA (tkW (hdT l) && !(kwB (tx (hdT l))))) (k := 1) (os1 := [(0, some (rdA l e))]) (.tmp (by rfl) .nil) (by rfl) ⟨[0], ToR.S rfl (by repeat' (first | exact rt_nil | refine rt_e (by rfl) (by rfl) ?_)) (by repeat' (first | exact ro_nil | refine ro_p (by rfl) (by first | exact rfl | fail) (by first | (simp [bdL, bdL_append, AV.bd]; done) | fail) ?_)) (by rfl) (by rfl) (by rfl) (by (simp [bdT, AV.bd, bdL, bdL_append]; done)) (by repeat' (first | exact True.intro | refine And.intro ?_ ?_ | (simp [bdOq, bdL, bdL_append, AV.bd]; done))) (by exact Nat.le_of_ble_eq_true rfl)⟩ (by rfl)
theorem gpname_fn (l : List (Nat × Tx)) (e : Int) : FnP Try.prog 21 [.ptr 0 2 0 0] [rdA l e] (pout l e strA (pName (l.map (·.2)))) := by
  have h := nm_hd l
  cases hb : isN (l.map (·.2)) with
  | true =>
    obtain ⟨p, l', rfl⟩ : ∃ p l', l = p :: l' := by
      cases l with
      | nil => cases hb
      | cons p l' => exact ⟨_, _, rfl⟩
    have hr : pout (p :: l') e strA (pName ((p :: l').map (·.2))) = .ok (strA (tx p.2)) [some (rdA l' e)] := by
      have h' : nmT p.2 = true := hb
      simp [pName, pout, h', cut_tail]
    rw [hr]
    have hn := next_fn p l' e
    generalize hL : p :: l' = L at *
    clear hr
    rw [hb] at h
    unfold rdA
    refine FnP.intro ?_ (by kernel_rfl) Try.func21 rfl rfl Try.ntmps21 (by exact Nat.le_of_ble_eq_true rfl) ?_; rotate_left; intro Γ hm
    · (repeat' (first | refine WP.seq ?_ | refine go_n ?_ | refine WP.skip ?_ | refine WP.ret ?_ | (refine wp_cond (by rfl) (fun hc => ?_) (fun hc => ?_) <;> (try simp only [sB, ne_eq, reduceCtorEq] at hc) <;> (try (exfalso; omega))) | (refine WP.regionC (id := 0) ?_; (refine su (ap_assign (rq_p rfl rfl)) ?_); refine asemC_end ?_) | (refine WP.regionC (id := 1) ?_; (refine su (ap_move (rq_p rfl rfl)) ?_); (refine sc_o [0] rfl rfl (peek_fn _ _) (Lend.o1 (by rfl) (by rfl) (by (exact (renL_pure (by simp [AV.bd, bdL, bdL_append])).symm)) (by rfl) (by simp [AV.bd, bdL, bdL_append]) (by simp [AV.bd, bdL, bdL_append])) ?_; simp only [updN, newO, AObj.ren, renL, AV.ren, apx, ap, if_true, if_false, Nat.reduceLT, Nat.reduceAdd, Nat.reduceSub, sO, intA, boolA, strA, ren_pkA, rdA, ren_toks]); (refine se_alloc (by rfl) ?_); (refine se_store_b (by rfl) (by rfl) (by rfl) (by rfl) ?_); refine asemC_end ?_) | (refine WP.regionC (id := 2) ?_; (refine su (ap_field_p (rq_p rfl rfl) (by rfl) (by rfl)) ?_); (refine su (ap_load_p (rq_p rfl rfl) (by rfl) (by rfl) (by rfl)) ?_); (refine su (ap_not (rq_p rfl rfl)) ?_); (refine su (ap_move (rq_p rfl rfl)) ?_); (refine sg (gq_vf rfl rfl) (fun he => ap_field_p (rq_p rfl rfl) (by rfl) (by rfl)) ?_); (refine sg (gq_vf rfl rfl) (fun he => ap_load_p (rq_c rfl rfl) (by rfl) (by rfl) (by rfl)) ?_); (refine sg_p (gq_vf rfl rfl) (fun he => ⟨(rq_p rfl rfl), (RqL.cons (rq_c rfl rfl) (RqL.nil)), (by first | ((repeat' first | exact SubL.nil | refine SubL.cons ?_ ?_ | exact Sub.refl); done) | fail), (by first | (simp [bdL, bdL_append, AV.bd]; done) | fail), reserved_fn _⟩) ?_); (refine su (ap_or (rq_p rfl rfl) (rq_c rfl rfl)) ?_); refine asemC_end ?_) | (refine WP.regionC (id := 4) ?_; (refine su (ap_move (rq_p rfl rfl)) ?_); (refine sc_o [0] rfl rfl (hn) (Lend.o1 (by rfl) (by rfl) (by (exact (renL_pure (by simp [AV.bd, bdL, bdL_append])).symm)) (by rfl) (by simp [AV.bd, bdL, bdL_append]) (by simp [AV.bd, bdL, bdL_append])) ?_; simp only [updN, newO, AObj.ren, renL, AV.ren, apx, ap, if_true, if_false, Nat.reduceLT, Nat.reduceAdd, Nat.reduceSub, sO, intA, boolA, strA, rdA, ren_toks]); (refine su (ap_fieldv (rq_p rfl rfl) (by rfl)) ?_); (refine su (ap_assign (rq_p rfl rfl)) ?_); refine asemC_end ?_)))
      · exfalso; rcases hc with hc | hc <;> simp [hc] at h
      · refine bp_r rfl ?_
        refine retO_L (x := strA (tx p.2)) (k := 1) (os1 := [(0, some (rdA l' e))]) (.tmp (by rfl) .nil) (by rfl) ⟨[0], ToR.S rfl (by repeat' (first | exact rt_nil | refine rt_e (by rfl) (by rfl) ?_)) (by repeat' (first | exact ro_nil | refine ro_p (by rfl) (by first | exact rfl | fail) (by first | (simp [bdL, bdL_append, AV.bd]; done) | fail) ?_)) (by rfl) (by rfl) (by rfl) (by (simp [bdT, AV.bd, bdL, bdL_append]; done)) (by repeat' (first | exact True.intro | refine And.intro ?_ ?_ | (simp [bdOq, bdL, bdL_append, AV.bd]; done))) (by exact Nat.le_of_ble_eq_true rfl)⟩ (by rfl)
    · exact ⟨Nat.le_refl _, rfl⟩
  | false =>
    have hr : pout l e strA (pName (l.map (·.2))) = .die (synV (pos l e)) := by
      cases l with
      | nil => rfl
      | cons p l' =>
        have h' : nmT p.2 = false := hb
        simp [pName, pout, h', cut, pos]
    rw [hr]
    rw [hb] at h
    unfold rdA
    refine FnP.intro ?_ (by kernel_rfl) Try.func21 rfl rfl Try.ntmps21 (by exact Nat.le_of_ble_eq_true rfl) ?_; rotate_left; intro Γ hm
    · (repeat' (first | refine WP.seq ?_ | refine go_n ?_ | refine WP.skip ?_ | refine go_p ?_ | (refine wp_cond (by rfl) (fun hc => ?_) (fun hc => ?_) <;> (try simp only [sB, ne_eq, reduceCtorEq] at hc) <;> (try (exfalso; omega))) | (refine WP.regionC (id := 0) ?_; (refine su (ap_assign (rq_p rfl rfl)) ?_); refine asemC_end ?_) | (refine WP.regionC (id := 1) ?_; (refine su (ap_move (rq_p rfl rfl)) ?_); (refine sc_o [0] rfl rfl (peek_fn _ _) (Lend.o1 (by rfl) (by rfl) (by (exact (renL_pure (by simp [AV.bd, bdL, bdL_append])).symm)) (by rfl) (by simp [AV.bd, bdL, bdL_append]) (by simp [AV.bd, bdL, bdL_append])) ?_; simp only [updN, newO, AObj.ren, renL, AV.ren, apx, ap, if_true, if_false, Nat.reduceLT, Nat.reduceAdd, Nat.reduceSub, sO, intA, boolA, strA, ren_pkA, rdA, ren_toks]); (refine se_alloc (by rfl) ?_); (refine se_store_b (by rfl) (by rfl) (by rfl) (by rfl) ?_); refine asemC_end ?_) | (refine WP.regionC (id := 2) ?_; (refine su (ap_field_p (rq_p rfl rfl) (by rfl) (by rfl)) ?_); (refine su (ap_load_p (rq_p rfl rfl) (by rfl) (by rfl) (by rfl)) ?_); (refine su (ap_not (rq_p rfl rfl)) ?_); (refine su (ap_move (rq_p rfl rfl)) ?_); (refine sg (gq_vf rfl rfl) (fun he => ap_field_p (rq_p rfl rfl) (by rfl) (by rfl)) ?_); (refine sg (gq_vf rfl rfl) (fun he => ap_load_p (rq_c rfl rfl) (by rfl) (by rfl) (by rfl)) ?_); (refine sg_p (gq_vf rfl rfl) (fun he => ⟨(rq_p rfl rfl), (RqL.cons (rq_c rfl rfl) (RqL.nil)), (by first | ((repeat' first | exact SubL.nil | refine SubL.cons ?_ ?_ | exact Sub.refl); done) | fail), (by first | (simp [bdL, bdL_append, AV.bd]; done) | fail), reserved_fn _⟩) ?_); (refine su (ap_or (rq_p rfl rfl) (rq_c rfl rfl)) ?_); refine asemC_end ?_) | (refine wpl_region (id := 3) ?_; (refine wpl_step rfl ?_; (refine su (ap_move (rq_p rfl rfl)) ?_); refine asemC_end ?_; ((refine wpl_x [0] rfl rfl (fail_fn l e) (Lend.S (by first | ((repeat' first | exact RenL.nil | refine RenL.cons (by rfl) ?_); done) | fail) (by first | ((repeat' first | exact LendO.nil | refine LendO.arr (by rfl) (by (exact (renL_pure (by simp [AV.bd, bdL, bdL_append])).symm)) ?_); done) | fail) (by decide) (by rfl) (by simp [AV.bd, bdL, bdL_append]) (by repeat' (first | exact True.intro | refine And.intro ?_ ?_ | simp [AV.bd, bdL, bdL_append]))) ?_))))))
      · exact bp_p rfl
      · exfalso; simp [hc.1, hc.2] at h
    · trivial
end Go.Lg

namespace Go.Lg
set_option linter.unusedVariables false
def PR.rest {α : Type} : PR α → List Tx
  | .ok _ r => r
  | .err r => r
theorem suf_tail {t : Tx} {r l : List Tx} (h : r <:+ l) : r <:+ t :: l := h.trans (List.suffix_cons t l)
theorem sufT_suf : ∀ (x : GEx) (l : List Tx), (sufT x l).2 <:+ l
  | x, [] => by rw [sufT]; exact List.suffix_refl _
  | x, t :: r => by
    rw [sufT]
    split
    · exact suf_tail (sufT_suf _ r)
    · split
      · exact suf_tail (sufT_suf _ r)
      · split
        · exact suf_tail (sufT_suf _ r)
        · exact List.suffix_refl _
theorem par_suf (n : Nat) : ∀ l : List Tx, l.length ≤ n → (pPrim l).rest <:+ l ∧ (pItems l).rest <:+ l ∧ (pAlts l).rest <:+ l ∧ (∀ x r, pPrim l = .ok x r → r.length < l.length) := by
  induction n with
  | zero =>
    intro l hl
    obtain rfl : l = [] := List.eq_nil_of_length_eq_zero (by omega)
    have h1 : pPrim [] = .err [] := by rw [pPrim]
    have h2 : pItems [] = .ok [] [] := by rw [pItems]; rfl
    have h3 : pAlts [] = .ok [seqOf []] [] := by rw [pAlts, h2]
    rw [h1, h2, h3]
    exact ⟨List.suffix_refl _, List.suffix_refl _, List.suffix_refl _, fun x r h => by cases h⟩
  | succ n ih =>
    intro l hl
    have hp : (pPrim l).rest <:+ l ∧ (∀ x r, pPrim l = .ok x r → r.length < l.length) := by
      cases l with
      | nil => rw [pPrim]; exact ⟨List.suffix_refl _, fun x r h => by cases h⟩
      | cons t r =>
        obtain ⟨_, _, h3, _⟩ := ih r (by simp at hl; omega)
        rw [pPrim]
        split
        · exact ⟨suf_tail (List.suffix_refl _), fun x q h => by injection h with h1 h2; subst h2; simp⟩
        · split
          · split
            · rename_i q hq; rw [hq] at h3; exact ⟨suf_tail h3, fun x q h => by cases h⟩
            · rename_i es q hq
              rw [hq] at h3
              split
              · exact ⟨List.nil_suffix, fun x q h => by cases h⟩
              · rename_i t' q'
                have hl2 := h3.length_le
                simp [PR.rest] at hl2
                split
                · exact ⟨suf_tail ((List.suffix_cons _ _).trans h3), fun x q h => by injection h with h1 h2; subst h2; simp; omega⟩
                · exact ⟨suf_tail h3, fun x q h => by cases h⟩
          · exact ⟨List.suffix_refl _, fun x q h => by cases h⟩
    have hi : (pItems l).rest <:+ l := by
      rw [pItems]
      split
      · split
        · rename_i r hr; have := hp.1; rw [hr] at this; exact this
        · rename_i x r hr
          have h1 := hp.1; rw [hr] at h1
          have h2 := sufT_suf x r
          split
          · rename_i hlt
            obtain ⟨_, h3, _⟩ := ih (sufT x r).2 (by omega)
            split
            · rename_i q hq; rw [hq] at h3; exact (h3.trans h2).trans h1
            · rename_i xs q hq; rw [hq] at h3; exact (h3.trans h2).trans h1
          · exact List.suffix_refl _
      · exact List.suffix_refl _
    refine ⟨hp.1, hi, ?_, hp.2⟩
    rw [pAlts]
    split
    · rename_i q hq; rw [hq] at hi; exact hi
    · exact List.nil_suffix
    · rename_i xs t q hq
      rw [hq] at hi
      split
      · split
        · rename_i hlt
          obtain ⟨_, _, h3, _⟩ := ih q (by omega)
          split
          · rename_i q' hq'; rw [hq'] at h3; exact (h3.trans (List.suffix_cons _ _)).trans hi
          · rename_i es q' hq'; rw [hq'] at h3; exact (h3.trans (List.suffix_cons _ _)).trans hi
        · exact List.suffix_refl _
      · exact hi
theorem pPrim_suf (l : List Tx) : (pPrim l).rest <:+ l := (par_suf _ l (Nat.le_refl _)).1
theorem pItems_suf (l : List Tx) : (pItems l).rest <:+ l := (par_suf _ l (Nat.le_refl _)).2.1
theorem pAlts_suf (l : List Tx) : (pAlts l).rest <:+ l := (par_suf _ l (Nat.le_refl _)).2.2.1
theorem pPrim_lt {l : List Tx} {x : GEx} {r : List Tx} (h : pPrim l = .ok x r) : r.length < l.length := (par_suf _ l (Nat.le_refl _)).2.2.2 x r h
theorem pItems_eq (l : List Tx) : pItems l = if isN l || decide (hd l = [40]) then (match pPrim l with
    | .err r => .err r
    | .ok x r => match pItems (sufT x r).2 with
      | .err q => .err q
      | .ok xs q => .ok ((sufT x r).1 :: xs) q) else .ok [] l := by
  conv => lhs; rw [pItems]
  split
  · cases h : pPrim l with
    | err r => rfl
    | ok x r =>
      have h1 := pPrim_lt h
      have h2 := sufT_len x r
      simp only
      rw [dif_pos (by omega)]
      rfl
  · rfl
def finA (acc : List GEx) (r : List Tx) : PR (List GEx) := match r with
  | [] => .ok acc []
  | t :: q => if t = [124] then (match pAlts q with
    | .err q' => .err q'
    | .ok es q' => .ok (acc ++ es) q') else .ok acc (t :: q)
theorem pAlts_eq (l : List Tx) : pAlts l = match pItems l with
    | .err q => .err q
    | .ok xs q => finA [seqOf xs] q := by
  conv => lhs; rw [pAlts]
  cases h : pItems l with
  | err q => rfl
  | ok xs q =>
    cases q with
    | nil => rfl
    | cons t q =>
      have h1 := (pItems_suf l).length_le
      rw [h] at h1
      simp [PR.rest] at h1
      simp only [finA]
      split
      · rw [dif_pos (by omega)]; rfl
      · rfl
theorem finA_bar (acc : List GEx) (q : List Tx) : finA acc ([124] :: q) = match pItems q with
    | .err q' => .err q'
    | .ok xs q' => finA (acc ++ [seqOf xs]) q' := by
  simp only [finA, if_true]
  rw [pAlts_eq]
  cases h : pItems q with
  | err q' => rfl
  | ok xs q' =>
    cases q' with
    | nil => rfl
    | cons t r =>
      simp only [finA]
      by_cases ht : t = [124]
      · simp only [if_pos ht]
        cases h2 : pAlts r with
        | err q2 => rfl
        | ok es q2 => simp
      · simp only [if_neg ht]
def pItem (l : List Tx) : PR GEx := match pPrim l with
  | .err r => .err r
  | .ok x r => .ok (sufT x r).1 (sufT x r).2
def pSeq (l : List Tx) : PR GEx := match pItems l with
  | .err q => .err q
  | .ok xs q => .ok (seqOf xs) q
theorem pItem_suf (l : List Tx) : (pItem l).rest <:+ l := by
  have := pPrim_suf l
  unfold pItem
  cases h : pPrim l with
  | err r => rw [h] at this; exact this
  | ok x r => rw [h] at this; exact (sufT_suf x r).trans this
def finI (acc : List GEx) (l : List Tx) : PR (List GEx) := match pItems l with
  | .err q => .err q
  | .ok xs q => .ok (acc ++ xs) q
theorem finI_stop {acc : List GEx} {l : List Tx} (h : (isN l || decide (hd l = [40])) = false) : finI acc l = .ok acc l := by
  unfold finI
  rw [pItems_eq, h]
  simp
theorem finI_step {acc : List GEx} {l : List Tx} (h : (isN l || decide (hd l = [40])) = true) : finI acc l = match pItem l with
    | .err q => .err q
    | .ok x r => finI (acc ++ [x]) r := by
  conv => lhs; unfold finI
  rw [pItems_eq, h]
  unfold pItem
  cases h1 : pPrim l with
  | err q => rfl
  | ok x r =>
    simp only [if_true, finI]
    cases h2 : pItems (sufT x r).2 with
    | err q => rfl
    | ok xs q => simp
theorem finI_nil (l : List Tx) : finI [] l = pItems l := by
  unfold finI; cases pItems l <;> rfl
end Go.Lg

namespace Go.Lg
set_option linter.unusedVariables false
theorem pName_suf (l : List Tx) : (pName l).rest <:+ l := by
  cases l with
  | nil => exact List.suffix_refl _
  | cons t r =>
    simp only [pName]
    split
    · exact List.suffix_cons _ _
    · exact List.suffix_refl _
theorem pName_lt {l : List Tx} {s : ByteArray} {r : List Tx} (h : pName l = .ok s r) : r.length < l.length := by
  cases l with
  | nil => cases h
  | cons t q =>
    simp only [pName] at h
    split at h
    · injection h with h1 h2; subst h2; simp
    · cases h
theorem pTake_suf (c : Tx) (l : List Tx) : (pTake c l).rest <:+ l := by
  cases l with
  | nil => exact List.suffix_refl _
  | cons t r =>
    simp only [pTake]
    split
    · exact List.suffix_cons _ _
    · exact List.suffix_refl _
theorem pTake_lt {c : Tx} {l : List Tx} {r : List Tx} (h : pTake c l = .ok () r) : r.length < l.length := by
  cases l with
  | nil => cases h
  | cons t q =>
    simp only [pTake] at h
    split at h
    · injection h with h1 h2; subst h2; simp
    · cases h
theorem pNames_suf : ∀ l : List Tx, (pNames l).2 <:+ l
  | [] => List.suffix_refl _
  | t :: r => by
    rw [pNames]
    split
    · exact suf_tail (pNames_suf r)
    · exact List.suffix_refl _
theorem pPrice_suf (l : List Tx) : (pPrice l).rest <:+ l := by
  unfold pPrice
  split
  · exact List.suffix_refl _
  · rename_i t r
    split
    · split
      · exact List.nil_suffix
      · split
        · exact suf_tail (List.suffix_cons _ _)
        · exact List.suffix_cons _ _
    · exact List.suffix_refl _
theorem pAlt_suf (l : List Tx) : (pAlt l).rest <:+ l := by
  have h1 := pItems_suf l
  unfold pAlt
  cases h : pItems l with
  | err q => rw [h] at h1; exact h1
  | ok xs r =>
    rw [h] at h1
    have h2 := pPrice_suf r
    simp only
    cases h3 : pPrice r with
    | err q => rw [h3] at h2; exact h2.trans h1
    | ok p q => rw [h3] at h2; exact h2.trans h1
def pLevel (a : Int) (l : List Tx) : PR GLe := match pName l with
  | .err q => .err q
  | .ok n r => match pTake [59] (pNames r).2 with
    | .err q => .err q
    | .ok _ q => .ok ⟨a, n :: (pNames r).1⟩ q
theorem pLevel_suf (a : Int) (l : List Tx) : (pLevel a l).rest <:+ l := by
  have h1 := pName_suf l
  unfold pLevel
  cases h : pName l with
  | err q => rw [h] at h1; exact h1
  | ok n r =>
    rw [h] at h1
    have h2 := pTake_suf [59] (pNames r).2
    simp only
    cases h3 : pTake [59] (pNames r).2 with
    | err q => rw [h3] at h2; exact (h2.trans (pNames_suf r)).trans h1
    | ok p q => rw [h3] at h2; exact (h2.trans (pNames_suf r)).trans h1
def finL (acc : List GLe) (l : List Tx) : PR (List GLe) := match pLevels l with
  | .err q => .err q
  | .ok ls q => .ok (acc ++ ls) q
theorem pLevels_nil : pLevels [] = .ok [] [] := by rw [pLevels]
theorem pLevels_cons (t : Tx) (r : List Tx) : pLevels (t :: r) = match assocOf t with
    | none => .ok [] (t :: r)
    | some a => match pLevel a r with
      | .err q => .err q
      | .ok x q => match pLevels q with
        | .err q => .err q
        | .ok ls q => .ok (x :: ls) q := by
  conv => lhs; rw [pLevels]
  cases assocOf t with
  | none => rfl
  | some a =>
    unfold pLevel
    cases h : pName r with
    | err q => rfl
    | ok n r1 =>
      simp only
      have h0 := pName_lt h
      have h1 := (pNames_suf r1).length_le
      cases h2 : pTake [59] (pNames r1).2 with
      | err q => rfl
      | ok u q =>
        have h3 := pTake_lt h2
        simp only
        rw [dif_pos (by simp only [List.length_cons]; omega)]
        rfl
def asT (l : List Tx) : Option Int := match l with
  | [] => none
  | t :: _ => assocOf t
theorem finL_stop {acc : List GLe} {l : List Tx} (h : asT l = none) : finL acc l = .ok acc l := by
  cases l with
  | nil => simp [finL, pLevels_nil]
  | cons t r =>
    have h' : assocOf t = none := h
    simp [finL, pLevels_cons, h']
theorem finL_step {acc : List GLe} {t : Tx} {r : List Tx} {a : Int} (h : assocOf t = some a) : finL acc (t :: r) = match pLevel a r with
    | .err q => .err q
    | .ok x q => finL (acc ++ [x]) q := by
  simp only [finL, pLevels_cons, h]
  cases pLevel a r with
  | err q => rfl
  | ok x q =>
    simp only [finL]
    cases pLevels q with
    | err q => rfl
    | ok ls q => simp
theorem finL_nil (l : List Tx) : finL [] l = pLevels l := by unfold finL; cases pLevels l <;> rfl
def finR (acc : List GAl) (r : List Tx) : PR (List GAl) := match r with
  | [] => .ok acc []
  | t :: q => if t = [124] then (match pAltsR q with
    | .err q' => .err q'
    | .ok es q' => .ok (acc ++ es) q') else .ok acc (t :: q)
theorem pAltsR_eq (l : List Tx) : pAltsR l = match pAlt l with
    | .err q => .err q
    | .ok a q => finR [a] q := by
  conv => lhs; rw [pAltsR]
  cases h : pAlt l with
  | err q => rfl
  | ok xs q =>
    cases q with
    | nil => rfl
    | cons t q =>
      have h1 := (pAlt_suf l).length_le
      rw [h] at h1
      simp [PR.rest] at h1
      simp only [finR]
      split
      · rw [dif_pos (by omega)]; rfl
      · rfl
theorem finR_bar (acc : List GAl) (q : List Tx) : finR acc ([124] :: q) = match pAlt q with
    | .err q' => .err q'
    | .ok a q' => finR (acc ++ [a]) q' := by
  simp only [finR, if_true]
  rw [pAltsR_eq]
  cases h : pAlt q with
  | err q' => rfl
  | ok xs q' =>
    cases q' with
    | nil => rfl
    | cons t r =>
      simp only [finR]
      by_cases ht : t = [124]
      · simp only [if_pos ht]
        cases h2 : pAltsR r with
        | err q2 => rfl
        | ok es q2 => simp
      · simp only [if_neg ht]
theorem finR_stop {acc : List GAl} {l : List Tx} (h : hd l ≠ [124]) : finR acc l = .ok acc l := by
  cases l with
  | nil => rfl
  | cons t r => have h' : ¬ t = [124] := h; simp only [finR, if_neg h']
theorem pAltsR_suf (n : Nat) : ∀ l : List Tx, l.length ≤ n → (pAltsR l).rest <:+ l := by
  induction n with
  | zero =>
    intro l hl
    obtain rfl : l = [] := List.eq_nil_of_length_eq_zero (by omega)
    rw [pAltsR_eq]
    have h1 := pAlt_suf []
    cases h : pAlt [] with
    | err q => rw [h] at h1; exact h1
    | ok a q =>
      rw [h] at h1
      obtain rfl : q = [] := List.suffix_nil.1 h1
      exact List.suffix_refl _
  | succ n ih =>
    intro l hl
    rw [pAltsR_eq]
    have h1 := pAlt_suf l
    cases h : pAlt l with
    | err q => rw [h] at h1; exact h1
    | ok a q =>
      rw [h] at h1
      cases q with
      | nil => exact List.nil_suffix
      | cons t q =>
        have h2 := h1.length_le
        simp only [PR.rest, List.length_cons] at h2
        simp only [finR]
        split
        · have h3 := ih q (by omega)
          cases h4 : pAltsR q with
          | err q' => rw [h4] at h3; exact (suf_tail h3).trans h1
          | ok es q' => rw [h4] at h3; exact (suf_tail h3).trans h1
        · exact h1
theorem pRule_suf (l : List Tx) : (pRule l).rest <:+ l := by
  unfold pRule
  have h1 := pName_suf l
  cases e1 : pName l with
  | err q => rw [e1] at h1; exact h1
  | ok n r =>
    rw [e1] at h1
    have h2 := pTake_suf [61] r
    simp only
    cases e2 : pTake [61] r with
    | err q => rw [e2] at h2; exact h2.trans h1
    | ok u r1 =>
      rw [e2] at h2
      have h3 := pAltsR_suf _ r1 (Nat.le_refl _)
      simp only
      cases e3 : pAltsR r1 with
      | err q => rw [e3] at h3; exact (h3.trans h2).trans h1
      | ok ys r2 =>
        rw [e3] at h3
        have h4 := pTake_suf [59] r2
        simp only
        cases e4 : pTake [59] r2 with
        | err q => rw [e4] at h4; exact ((h4.trans h3).trans h2).trans h1
        | ok u r3 => rw [e4] at h4; exact ((h4.trans h3).trans h2).trans h1
theorem pRule_lt {l : List Tx} {x : GRu} {r : List Tx} (h : pRule l = .ok x r) : r.length < l.length := by
  unfold pRule at h
  cases e1 : pName l with
  | err q => rw [e1] at h; cases h
  | ok n r0 =>
    have h1 := pName_lt e1
    rw [e1] at h
    simp only at h
    cases e2 : pTake [61] r0 with
    | err q => rw [e2] at h; cases h
    | ok u r1 =>
      have h2 := pTake_lt e2
      rw [e2] at h
      have h3 := (pAltsR_suf _ r1 (Nat.le_refl _)).length_le
      simp only at h
      cases e3 : pAltsR r1 with
      | err q => rw [e3] at h; cases h
      | ok ys r2 =>
        rw [e3] at h h3
        simp only [PR.rest] at h h3
        cases e4 : pTake [59] r2 with
        | err q => rw [e4] at h; cases h
        | ok u r3 =>
          rw [e4] at h
          have h4 := pTake_lt e4
          injection h with h5 h6
          subst h6
          omega
def finU (acc : List GRu) (l : List Tx) : PR (List GRu) := match pRules l with
  | .err q => .err q
  | .ok xs q => .ok (acc ++ xs) q
theorem finU_nil (l : List Tx) : finU [] l = pRules l := by unfold finU; cases pRules l <;> rfl
theorem finU_stop (acc : List GRu) : finU acc [] = .ok acc [] := by
  have : pRules [] = .ok [] [] := by rw [pRules]
  simp [finU, this]
theorem finU_step (acc : List GRu) (t : Tx) (r : List Tx) : finU acc (t :: r) = match pRule (t :: r) with
    | .err q => .err q
    | .ok x q => finU (acc ++ [x]) q := by
  have h0 : pRules (t :: r) = match pRule (t :: r) with
      | .err q => .err q
      | .ok x q => match pRules q with
        | .err q' => .err q'
        | .ok xs q' => .ok (x :: xs) q' := by
    conv => lhs; rw [pRules]
    cases h : pRule (t :: r) with
    | err q => rfl
    | ok x q =>
      have := pRule_lt h
      simp only
      rw [dif_pos this]
      rfl
  unfold finU
  rw [h0]
  cases h : pRule (t :: r) with
  | err q => rfl
  | ok x q =>
    simp only
    cases pRules q with
    | err q' => rfl
    | ok xs q' => simp
theorem pLevels_suf (n : Nat) : ∀ l : List Tx, l.length ≤ n → (pLevels l).rest <:+ l := by
  induction n with
  | zero =>
    intro l hl
    obtain rfl : l = [] := List.eq_nil_of_length_eq_zero (by omega)
    rw [pLevels_nil]; exact List.suffix_refl _
  | succ n ih =>
    intro l hl
    cases l with
    | nil => rw [pLevels_nil]; exact List.suffix_refl _
    | cons t r =>
      rw [pLevels_cons]
      cases assocOf t with
      | none => exact List.suffix_refl _
      | some a =>
        have h1 := pLevel_suf a r
        simp only
        cases h : pLevel a r with
        | err q => rw [h] at h1; exact suf_tail h1
        | ok x q =>
          rw [h] at h1
          simp only [PR.rest] at h1
          have hle := h1.length_le
          have h2 := ih q (by simp at hl; omega)
          simp only
          cases h3 : pLevels q with
          | err q' => rw [h3] at h2; exact suf_tail (h2.trans h1)
          | ok ls q' => rw [h3] at h2; exact suf_tail (h2.trans h1)
end Go.Lg

namespace Go.Lg
open Go.Proofs
set_option linter.unusedSimpArgs false
set_option linter.unusedVariables false
attribute [local irreducible] Ap Rq asemC WP RunD Ret Gq thenA inBlockA bodyQ noGotoA RqL RqP OpP
set_option maxHeartbeats 4000000
set_option maxRecDepth 20000
attribute [local simp] rdA pkA tokA toks_bd
theorem cut_map {l : List (Nat × Tx)} {r : List Tx} (h : r <:+ l.map (·.2)) : (cut l r).map (·.2) = r := by
  obtain ⟨t, ht⟩ := h
  unfold cut
  rw [List.map_drop, ← ht]
  have : l.length = t.length + r.length := by rw [← List.length_append, ht, List.length_map]
  rw [show l.length - r.length = t.length by omega]
  simp
theorem cut_suf (l : List (Nat × Tx)) (r : List Tx) : cut l r <:+ l := List.drop_suffix _ _
theorem cut_of {l l' : List (Nat × Tx)} (h : l' <:+ l) : cut l (l'.map (·.2)) = l' := by
  obtain ⟨t, rfl⟩ := h
  simp [cut]
theorem cut_cut {l l' : List (Nat × Tx)} {r : List Tx} (h : l' <:+ l) (hr : r <:+ l'.map (·.2)) : cut l' r = cut l r := by
  have h1 := cut_map hr
  have h2 := cut_of ((cut_suf l' r).trans h)
  rw [h1] at h2
  exact h2.symm
theorem ren_exprA (π : Nat → Nat) (x : GEx) : AV.ren π (exprA x) = exprA x := ren_pure (bd_exprA 0 x)
theorem pItem_lt {l : List Tx} {x : GEx} {r : List Tx} (h : pItem l = .ok x r) : r.length < l.length := by
  unfold pItem at h
  cases h1 : pPrim l with
  | err q => rw [h1] at h; cases h
  | ok y q =>
    rw [h1] at h
    have := pPrim_lt h1
    have := sufT_len y q
    injection h with h2 h3
    subst h3
    omega
theorem hd40 (l : List (Nat × Tx)) : decide (tx (hdT l) = (⟨#[40]⟩ : ByteArray)) = decide (hd (l.map (·.2)) = [40]) := by
  have : (tx (hdT l) = (⟨#[40]⟩ : ByteArray)) ↔ (hd (l.map (·.2)) = [40]) := ⟨fun h => tx_inj (h.trans rfl), fun h => by unfold hdT; rw [h]; rfl⟩
  simp only [this]
theorem exprA_mk (k : Int) (n : ByteArray) (l : List GEx) : exprA (.mk k n l) = .agg [intA k, strA n, .sl 3 (l.map exprA)] := by
  unfold exprA
  rw [kidsL_map]
  rfl
theorem gpseq_of (l : List (Nat × Tx)) (e : Int) (hB : l.length ≤ 1000000) (hi : ∀ l', l' <:+ l → FnP Try.prog 79 [.ptr 0 2 0 0] [rdA l' e] (pout l' e exprA (pItem (l'.map (·.2))))) :
    FnP Try.prog 70 [.ptr 0 2 0 0] [rdA l e] (pout l e exprA (pSeq (l.map (·.2)))) := by
  refine FnP.intro ?_ (by kernel_rfl) Try.func70 rfl rfl Try.ntmps70 (by exact Nat.le_of_ble_eq_true rfl) ?_; rotate_left; intro Γ hm
  · (repeat' (first | refine WP.seq ?_ | refine WP.block ?_ | refine go_n ?_ | (refine WP.regionC (id := 0) ?_; (refine se_alloc (by rfl) ?_); refine asemC_end ?_) | (refine WP.regionC (id := 1) ?_; (refine su (ap_assign (rq_p rfl rfl)) ?_); refine asemC_end ?_)))
    refine wp_nil 3 3 rfl ?_
    refine wp_loop (fun (σ : List GEx × List (Nat × Tx)) => σ.2 <:+ l ∧ σ.1.length + σ.2.length ≤ l.length ∧ finI σ.1 (σ.2.map (·.2)) = pItems (l.map (·.2))) (fun σ => σ.2.length)
      (fun σ => (S 25 [(0, .ptr 0 2 0 0), (2, .ptr 1 3 0 0), (3, .ref 2 3 0 σ.1.length)] 3 [(0, some (rdA σ.2 e)), (1, some (.arr 3 [.agg [intA 0, strA ⟨#[]⟩, .val (.slice none 0 0)]])), (2, some (.arr 3 (σ.1.map exprA)))])) ([], l) ⟨[0, 1, 2], ToR.S rfl (by repeat' (first | exact rt_nil | refine rt_r (by rfl) (by rfl) ?_ | refine rt_t (by rfl) (by rfl) ?_)) (by repeat' (first | exact ro_nil | refine ro_e (by rfl) (by rfl) ?_ | refine ro_p (by rfl) (by first | exact rfl | fail) (by first | (simp [bdL, bdL_append, AV.bd]; done) | fail) ?_)) (by rfl) (by (rw [hm]; exact rfl)) (by rfl) (by (simp [bdT, AV.bd, bdL, bdL_append]; done)) (by repeat' (first | exact True.intro | exact rfl | refine And.intro ?_ ?_ | (simp [bdOq, bdL, bdL_append, AV.bd]; done))) (by (rw [hm]; exact Nat.le_of_ble_eq_true rfl))⟩ ⟨List.suffix_refl _, by simp, finI_nil _⟩ ?_
    rintro ⟨acc, l1⟩ ⟨hs1, hn1, hf1⟩
    simp only at hs1 hf1 hn1 ⊢
    have hi1 := hi l1 hs1
    cases hgo : (isN (l1.map (·.2)) || decide (hd (l1.map (·.2)) = [40])) with
    | false =>
      have hst : pSeq (l.map (·.2)) = .ok (seqOf acc) (l1.map (·.2)) := by
        have := finI_stop (acc := acc) hgo
        rw [hf1] at this
        simp [pSeq, this]
      have hout : pout l e exprA (pSeq (l.map (·.2))) = .ok (exprA (seqOf acc)) [some (rdA l1 e)] := by rw [hst]; simp only [pout, cut_of hs1]
      rw [← hd40, Bool.or_eq_false_iff] at hgo
      (repeat' (first | refine WP.seq ?_ | refine WP.block ?_ | refine go_n ?_ | refine WP.skip ?_ | refine WP.exit ?_ | refine go_x ?_ | refine bl_x ?_ | (refine wp_cond (by rfl) (fun hc => ?_) (fun hc => ?_) <;> (try simp only [sB, ne_eq, reduceCtorEq] at hc) <;> (try (exfalso; omega))) | (refine WP.regionC (id := 2) ?_ <;> (refine su (ap_move (rq_p rfl rfl)) ?_) <;> (refine sc_o [0] rfl rfl (isname_fn _ _) (Lend.o1 (by rfl) (by rfl) (by (exact (renL_pure (by simp [AV.bd, bdL, bdL_append])).symm)) (by rfl) (by simp [AV.bd, bdL, bdL_append]) (by simp [AV.bd, bdL, bdL_append])) ?_; simp only [updN, newO, AObj.ren, renL, AV.ren, apx, ap, if_true, if_false, Nat.reduceLT, Nat.reduceAdd, Nat.reduceSub, sO, intA, boolA, strA, ren_pkA, rdA, ren_toks]) <;> (refine su (ap_move (rq_p rfl rfl)) ?_) <;> (first | (refine as_split (t := 6) (by rfl) (fun hc => ?_) (fun hc => ?_) <;> (try simp only [sB, ne_eq, reduceCtorEq] at hc) <;> (try (exfalso; omega)) <;> (first | refine sgt_u rfl (by rfl) (by rfl) (by rfl) rfl (ap_move (rq_p rfl rfl)) ?_ | refine sg (x := .val (.bool true)) (gq_vf rfl rfl) (fun he => absurd he (by first | decide | fail)) ?_ | fail)) | fail) <;> (first | refine sgt_o [0] rfl (by rfl) (by rfl) rfl rfl (peek_fn _ _) (Lend.S (by first | ((repeat' first | exact RenL.nil | refine RenL.cons (by rfl) ?_); done) | fail) (by first | ((repeat' first | exact LendO.nil | refine LendO.arr (by rfl) (by (exact (renL_pure (by simp [AV.bd, bdL, bdL_append])).symm)) ?_); done) | fail) (by decide) (by rfl) (by simp [AV.bd, bdL, bdL_append]) (by repeat' (first | exact True.intro | refine And.intro ?_ ?_ | simp [AV.bd, bdL, bdL_append]))) ?_; simp only [updN, newO, AObj.ren, renL, AV.ren, apx, ap, if_true, if_false, Nat.reduceLT, Nat.reduceAdd, Nat.reduceSub, sO, intA, boolA, strA, ren_pkA, rdA, ren_toks] | refine sg (x := .val (.bool true)) (gq_vf rfl rfl) (fun he => absurd he (by first | decide | fail)) ?_ | fail) <;> (first | refine sgt_u rfl (by rfl) (by rfl) (by rfl) rfl (ap_fieldv (rq_p rfl rfl) (by rfl)) ?_ | refine sg (x := .val (.bool true)) (gq_vf rfl rfl) (fun he => absurd he (by first | decide | fail)) ?_ | fail) <;> (first | refine sgt_u rfl (by rfl) (by rfl) (by rfl) rfl (ap_eqs (rq_p rfl rfl) (rq_p rfl rfl)) ?_ | refine sg (x := .val (.bool true)) (gq_vf rfl rfl) (fun he => absurd he (by first | decide | fail)) ?_ | fail) <;> (refine su (ap_or (rq_p rfl rfl) (by first | exact rq_p rfl rfl | exact rq_c rfl rfl)) ?_) <;> refine asemC_end ?_)))
      all_goals (first | (exfalso; simp_all; done) | skip)
      · rw [hout]
        refine wp_frzm 3 hm rfl rfl rfl (bd_exprA 0) (fun _ => rfl) (by rfl) ?_
        cases acc with
        | nil =>
          (repeat' (first | refine WP.seq ?_ | refine go_n ?_ | refine WP.skip ?_ | refine WP.ret ?_ | (refine wp_cond (by rfl) (fun hc => ?_) (fun hc => ?_) <;> (try simp only [sB, ne_eq, reduceCtorEq] at hc) <;> (try (exfalso; omega))) | (refine WP.regionC (id := 4) ?_; (refine su (ap_move (rq_p rfl rfl)) ?_); (refine su (ap_len_m (by rfl) (rq_p rfl rfl)) ?_); (refine su (ap_eql (rq_p rfl rfl) (rq_p rfl rfl)) ?_); refine asemC_end ?_) | (refine WP.regionC (id := 6) ?_; (refine su (ap_move (rq_p rfl rfl)) ?_); (refine su (ap_build (RqP.cons (rq_p rfl rfl) (RqP.cons (rq_p rfl rfl) (RqP.nil))) (by rfl)) ?_); (refine se_store_b (by rfl) (by rfl) (by rfl) (by rfl) ?_); refine asemC_end ?_)))
          · exfalso; simp at hc
          · refine bp_r rfl ?_
            refine retO_L (x := exprA (seqOf [])) (k := 1) (os1 := [(0, some (rdA l1 e))]) (.cellT (by rfl) (by rfl) (by rfl) (by rfl) .nil) (by rfl) ⟨[0], ToR.S rfl (by repeat' (first | exact rt_nil | refine rt_e (by rfl) (by rfl) ?_)) (by repeat' (first | exact ro_nil | refine ro_p (by rfl) (by first | exact rfl | fail) (by first | (simp [bdL, bdL_append, AV.bd]; done) | fail) ?_)) (by rfl) (by rfl) (by rfl) (by (simp [bdT, AV.bd, bdL, bdL_append]; done)) (by repeat' (first | exact True.intro | refine And.intro ?_ ?_ | (simp [bdOq, bdL, bdL_append, AV.bd]; done))) (by exact Nat.le_of_ble_eq_true rfl)⟩ (by rfl)
        | cons y acc' =>
          cases acc' with
          | nil =>
            (repeat' (first | refine WP.seq ?_ | refine go_n ?_ | refine WP.skip ?_ | refine WP.ret ?_ | refine go_r ?_ | (refine wp_cond (by rfl) (fun hc => ?_) (fun hc => ?_) <;> (try simp only [sB, ne_eq, reduceCtorEq] at hc) <;> (try (exfalso; omega))) | (refine WP.regionC (id := 4) ?_; (refine su (ap_move (rq_p rfl rfl)) ?_); (refine su (ap_len_m (by rfl) (rq_p rfl rfl)) ?_); (refine su (ap_eql (rq_p rfl rfl) (rq_p rfl rfl)) ?_); refine asemC_end ?_) | (refine WP.regionC (id := 5) ?_; (refine su (ap_move (rq_p rfl rfl)) ?_); (refine su (ap_idx_n (rq_p rfl rfl) (rq_p rfl rfl) (by (simp only [sL] <;> omega))) ?_); (refine su (ap_load_w (rq_p rfl rfl) (by rfl)) ?_); (refine se_store_b (by rfl) (by rfl) (by rfl) (by rfl) ?_); refine asemC_end ?_)))
            · refine bp_r rfl ?_
              refine retO_L (x := exprA (seqOf [y])) (k := 1) (os1 := [(0, some (rdA l1 e))]) (.cellT (by rfl) (by rfl) (by rfl) (by rfl) .nil) (by rfl) ⟨[0], ToR.S rfl (by repeat' (first | exact rt_nil | refine rt_p (by rfl) (by rfl) (by first | (simp [AV.bd, bdL, bdL_append]; done) | fail) ?_)) (by repeat' (first | exact ro_nil | refine ro_p (by rfl) (by first | exact rfl | fail) (by first | (simp [bdL, bdL_append, AV.bd]; done) | fail) ?_)) (by rfl) (by rfl) (by rfl) (by (simp [bdT, AV.bd, bdL, bdL_append]; done)) (by repeat' (first | exact True.intro | refine And.intro ?_ ?_ | (simp [bdOq, bdL, bdL_append, AV.bd]; done))) (by exact Nat.le_of_ble_eq_true rfl)⟩ (by rfl)
            · exfalso; simp at hc
          | cons y' acc2 =>
            (repeat' (first | refine WP.seq ?_ | refine go_n ?_ | refine WP.skip ?_ | refine WP.ret ?_ | (refine wp_cond (by rfl) (fun hc => ?_) (fun hc => ?_) <;> (try simp only [sB, ne_eq, reduceCtorEq] at hc) <;> (try (exfalso; omega))) | (refine WP.regionC (id := 4) ?_; (refine su (ap_move (rq_p rfl rfl)) ?_); (refine su (ap_len_m (by rfl) (rq_p rfl rfl)) ?_); (refine su (ap_eql (rq_p rfl rfl) (rq_p rfl rfl)) ?_); refine asemC_end ?_) | (refine WP.regionC (id := 6) ?_; (refine su (ap_move (rq_p rfl rfl)) ?_); (refine su (ap_build (RqP.cons (rq_p rfl rfl) (RqP.cons (rq_p rfl rfl) (RqP.nil))) (by rfl)) ?_); (refine se_store_b (by rfl) (by rfl) (by rfl) (by rfl) ?_); refine asemC_end ?_)))
            · exfalso; simp at hc; omega
            · refine bp_r rfl ?_
              have he : exprA (seqOf (y :: y' :: acc2)) = .agg [intA 2, strA ⟨#[]⟩, .sl 3 ((y :: y' :: acc2).map exprA)] := exprA_mk _ _ _
              rw [he]
              refine retO_L (x := .agg [intA 2, strA ⟨#[]⟩, .sl 3 ((y :: y' :: acc2).map exprA)]) (k := 1) (os1 := [(0, some (rdA l1 e))]) (.cellT (by rfl) (by rfl) (by rfl) (by rfl) .nil) (by rfl) ⟨[0], ToR.S rfl (by repeat' (first | exact rt_nil | refine rt_p (by rfl) (by rfl) (by first | (simp [AV.bd, bdL, bdL_append]; done) | fail) ?_)) (by repeat' (first | exact ro_nil | refine ro_p (by rfl) (by first | exact rfl | fail) (by first | (simp [bdL, bdL_append, AV.bd]; done) | fail) ?_)) (by rfl) (by rfl) (by rfl) (by (simp [bdT, AV.bd, bdL, bdL_append]; done)) (by repeat' (first | exact True.intro | refine And.intro ?_ ?_ | (simp [bdOq, bdL, bdL_append, AV.bd]; done))) (by exact Nat.le_of_ble_eq_true rfl)⟩ (by rfl)
    | true =>
      have hi1 := hi l1 hs1
      have go : finI acc (l1.map (·.2)) = match pItem (l1.map (·.2)) with | .err q => .err q | .ok x r => finI (acc ++ [x]) r := finI_step hgo
      rw [← hd40] at hgo
      cases hp : pItem (l1.map (·.2)) with
      | ok x r =>
        have hO : FnO Try.prog 79 [.ptr 0 2 0 0] [rdA l1 e] (exprA x) [some (rdA (cut l1 r) e)] := hi1.oks (by rw [hp]; rfl)
        have hr : r <:+ l1.map (·.2) := by have := pItem_suf (l1.map (·.2)); rw [hp] at this; exact this
        have hlt := pItem_lt hp
        rw [List.length_map] at hlt
        have hcl : (cut l1 r).length = r.length := by have := congrArg List.length (cut_map hr); rwa [List.length_map] at this
        have hnext : (cut l1 r).length < l1.length ∧ cut l1 r <:+ l ∧ (acc ++ [x]).length + (cut l1 r).length ≤ l.length ∧ finI (acc ++ [x]) ((cut l1 r).map (·.2)) = pItems (l.map (·.2)) := by
          refine ⟨by omega, (cut_suf _ _).trans hs1, by simp; omega, ?_⟩
          rw [cut_map hr, ← hf1, go, hp]
        (repeat' (first | refine WP.seq ?_ | refine WP.block ?_ | refine go_n ?_ | refine WP.skip ?_ | refine WP.exit ?_ | refine go_x ?_ | refine bl_n ?_ | refine bl_x ?_ | (refine wp_cond (by rfl) (fun hc => ?_) (fun hc => ?_) <;> (try simp only [sB, ne_eq, reduceCtorEq] at hc) <;> (try (exfalso; omega))) | (refine WP.regionC (id := 2) ?_ <;> (refine su (ap_move (rq_p rfl rfl)) ?_) <;> (refine sc_o [0] rfl rfl (isname_fn _ _) (Lend.o1 (by rfl) (by rfl) (by (exact (renL_pure (by simp [AV.bd, bdL, bdL_append])).symm)) (by rfl) (by simp [AV.bd, bdL, bdL_append]) (by simp [AV.bd, bdL, bdL_append])) ?_; simp only [updN, newO, AObj.ren, renL, AV.ren, apx, ap, if_true, if_false, Nat.reduceLT, Nat.reduceAdd, Nat.reduceSub, sO, intA, boolA, strA, ren_pkA, rdA, ren_toks]) <;> (refine su (ap_move (rq_p rfl rfl)) ?_) <;> (first | (refine as_split (t := 6) (by rfl) (fun hc => ?_) (fun hc => ?_) <;> (try simp only [sB, ne_eq, reduceCtorEq] at hc) <;> (try (exfalso; omega)) <;> (first | refine sgt_u rfl (by rfl) (by rfl) (by rfl) rfl (ap_move (rq_p rfl rfl)) ?_ | refine sg (x := .val (.bool true)) (gq_vf rfl rfl) (fun he => absurd he (by first | decide | fail)) ?_ | fail)) | fail) <;> (first | refine sgt_o [0] rfl (by rfl) (by rfl) rfl rfl (peek_fn _ _) (Lend.S (by first | ((repeat' first | exact RenL.nil | refine RenL.cons (by rfl) ?_); done) | fail) (by first | ((repeat' first | exact LendO.nil | refine LendO.arr (by rfl) (by (exact (renL_pure (by simp [AV.bd, bdL, bdL_append])).symm)) ?_); done) | fail) (by decide) (by rfl) (by simp [AV.bd, bdL, bdL_append]) (by repeat' (first | exact True.intro | refine And.intro ?_ ?_ | simp [AV.bd, bdL, bdL_append]))) ?_; simp only [updN, newO, AObj.ren, renL, AV.ren, apx, ap, if_true, if_false, Nat.reduceLT, Nat.reduceAdd, Nat.reduceSub, sO, intA, boolA, strA, ren_pkA, rdA, ren_toks] | refine sg (x := .val (.bool true)) (gq_vf rfl rfl) (fun he => absurd he (by first | decide | fail)) ?_ | fail) <;> (first | refine sgt_u rfl (by rfl) (by rfl) (by rfl) rfl (ap_fieldv (rq_p rfl rfl) (by rfl)) ?_ | refine sg (x := .val (.bool true)) (gq_vf rfl rfl) (fun he => absurd he (by first | decide | fail)) ?_ | fail) <;> (first | refine sgt_u rfl (by rfl) (by rfl) (by rfl) rfl (ap_eqs (rq_p rfl rfl) (rq_p rfl rfl)) ?_ | refine sg (x := .val (.bool true)) (gq_vf rfl rfl) (fun he => absurd he (by first | decide | fail)) ?_ | fail) <;> (refine su (ap_or (rq_p rfl rfl) (by first | exact rq_p rfl rfl | exact rq_c rfl rfl)) ?_) <;> refine asemC_end ?_) | (refine WP.regionC (id := 3) ?_; (refine su (ap_move (rq_p rfl rfl)) ?_); (refine su (ap_move (rq_p rfl rfl)) ?_); (refine sc_o [0] rfl rfl (hO) (Lend.o1 (by rfl) (by rfl) (by (exact (renL_pure (by simp [AV.bd, bdL, bdL_append])).symm)) (by rfl) (by simp [AV.bd, bdL, bdL_append]) (by simp [AV.bd, bdL, bdL_append])) ?_; simp only [updN, newO, AObj.ren, renL, AV.ren, apx, ap, if_true, if_false, Nat.reduceLT, Nat.reduceAdd, Nat.reduceSub, sO, intA, boolA, strA, rdA, ren_toks, ren_exprA]); (refine se_lit (OpP.cons (by rfl) (OpP.nil)) (by rfl) (by rfl) (by rfl) (by rfl) (by rfl) (by rfl) ?_); (refine se_app1 (by rfl) (by rfl) (by rfl) (by rfl) (by rfl) (by rfl) (by rfl) (by rfl) (by omega) ?_); (refine su (ap_assign (rq_p rfl rfl)) ?_); refine asemC_end ?_)))
        all_goals (first | exact ⟨(acc ++ [x], cut l1 r), hnext, ⟨[0, 1, 4], ToR.S rfl (by repeat' (first | exact rt_nil | refine rt_r (by rfl) (by rfl) ?_ | refine rt_t (by rfl) (by rfl) ?_)) (by repeat' (first | exact ro_nil | refine ro_e (by rfl) (by rfl) ?_ | refine ro_p (by rfl) (by first | exact rfl | fail) (by first | exact bdL_map (fun _ => by simp [AV.bd, bdL, bdL_append]) _ | (simp [bdL, bdL_append, AV.bd]; done) | fail) ?_)) (by rfl) (by (rw [hm]; exact rfl)) (by rfl) (by (simp [bdT, AV.bd, bdL, bdL_append]; done)) (by repeat' (first | exact True.intro | exact rfl | refine And.intro ?_ ?_ | exact bdL_map (fun _ => by simp [AV.bd, bdL, bdL_append]) _ | (simp [bdOq, bdL, bdL_append, AV.bd]; done))) (by (rw [hm]; exact Nat.le_of_ble_eq_true rfl))⟩⟩ | (exfalso; simp_all; done))
      | err q =>
        have hX : FnX Try.prog 79 [.ptr 0 2 0 0] [rdA l1 e] (synV (pos (cut l1 q) e)) := hi1.dies (by rw [hp]; rfl)
        have hr : q <:+ l1.map (·.2) := by have := pItem_suf (l1.map (·.2)); rw [hp] at this; exact this
        have hout : pout l e exprA (pSeq (l.map (·.2))) = .die (synV (pos (cut l1 q) e)) := by
          rw [hp, hf1] at go
          simp only [pSeq, go, pout, cut_cut hs1 hr]
        (repeat' (first | refine WP.seq ?_ | refine WP.block ?_ | refine go_n ?_ | refine WP.skip ?_ | refine WP.exit ?_ | refine go_x ?_ | refine bl_x ?_ | refine go_p ?_ | refine bl_p ?_ | (refine wp_cond (by rfl) (fun hc => ?_) (fun hc => ?_) <;> (try simp only [sB, ne_eq, reduceCtorEq] at hc) <;> (try (exfalso; omega))) | (refine WP.regionC (id := 2) ?_ <;> (refine su (ap_move (rq_p rfl rfl)) ?_) <;> (refine sc_o [0] rfl rfl (isname_fn _ _) (Lend.o1 (by rfl) (by rfl) (by (exact (renL_pure (by simp [AV.bd, bdL, bdL_append])).symm)) (by rfl) (by simp [AV.bd, bdL, bdL_append]) (by simp [AV.bd, bdL, bdL_append])) ?_; simp only [updN, newO, AObj.ren, renL, AV.ren, apx, ap, if_true, if_false, Nat.reduceLT, Nat.reduceAdd, Nat.reduceSub, sO, intA, boolA, strA, ren_pkA, rdA, ren_toks]) <;> (refine su (ap_move (rq_p rfl rfl)) ?_) <;> (first | (refine as_split (t := 6) (by rfl) (fun hc => ?_) (fun hc => ?_) <;> (try simp only [sB, ne_eq, reduceCtorEq] at hc) <;> (try (exfalso; omega)) <;> (first | refine sgt_u rfl (by rfl) (by rfl) (by rfl) rfl (ap_move (rq_p rfl rfl)) ?_ | refine sg (x := .val (.bool true)) (gq_vf rfl rfl) (fun he => absurd he (by first | decide | fail)) ?_ | fail)) | fail) <;> (first | refine sgt_o [0] rfl (by rfl) (by rfl) rfl rfl (peek_fn _ _) (Lend.S (by first | ((repeat' first | exact RenL.nil | refine RenL.cons (by rfl) ?_); done) | fail) (by first | ((repeat' first | exact LendO.nil | refine LendO.arr (by rfl) (by (exact (renL_pure (by simp [AV.bd, bdL, bdL_append])).symm)) ?_); done) | fail) (by decide) (by rfl) (by simp [AV.bd, bdL, bdL_append]) (by repeat' (first | exact True.intro | refine And.intro ?_ ?_ | simp [AV.bd, bdL, bdL_append]))) ?_; simp only [updN, newO, AObj.ren, renL, AV.ren, apx, ap, if_true, if_false, Nat.reduceLT, Nat.reduceAdd, Nat.reduceSub, sO, intA, boolA, strA, ren_pkA, rdA, ren_toks] | refine sg (x := .val (.bool true)) (gq_vf rfl rfl) (fun he => absurd he (by first | decide | fail)) ?_ | fail) <;> (first | refine sgt_u rfl (by rfl) (by rfl) (by rfl) rfl (ap_fieldv (rq_p rfl rfl) (by rfl)) ?_ | refine sg (x := .val (.bool true)) (gq_vf rfl rfl) (fun he => absurd he (by first | decide | fail)) ?_ | fail) <;> (first | refine sgt_u rfl (by rfl) (by rfl) (by rfl) rfl (ap_eqs (rq_p rfl rfl) (rq_p rfl rfl)) ?_ | refine sg (x := .val (.bool true)) (gq_vf rfl rfl) (fun he => absurd he (by first | decide | fail)) ?_ | fail) <;> (refine su (ap_or (rq_p rfl rfl) (by first | exact rq_p rfl rfl | exact rq_c rfl rfl)) ?_) <;> refine asemC_end ?_) | (refine wpl_region (id := 3) ?_; (refine wpl_step rfl ?_; (refine su (ap_move (rq_p rfl rfl)) ?_); refine asemC_end ?_; (refine wpl_step rfl ?_; (refine su (ap_move (rq_p rfl rfl)) ?_); refine asemC_end ?_; ((refine wpl_x [0] rfl rfl (hX) (Lend.S (by first | ((repeat' first | exact RenL.nil | refine RenL.cons (by rfl) ?_); done) | fail) (by first | ((repeat' first | exact LendO.nil | refine LendO.arr (by rfl) (by (exact (renL_pure (by simp [AV.bd, bdL, bdL_append])).symm)) ?_); done) | fail) (by decide) (by rfl) (by simp [AV.bd, bdL, bdL_append]) (by repeat' (first | exact True.intro | refine And.intro ?_ ?_ | simp [AV.bd, bdL, bdL_append]))) ?_)))))))
        all_goals (first | exact bp_p hout | (exfalso; simp_all; done))
  · exact pout_fine l e exprA (fun x => bd_exprA 1 x) _
end Go.Lg

namespace Go.Lg
open Go.Proofs
set_option linter.unusedSimpArgs false
set_option linter.unusedVariables false
attribute [local irreducible] Ap Rq asemC WP RunD Ret Gq thenA inBlockA bodyQ noGotoA RqL RqP OpP
set_option maxHeartbeats 4000000
set_option maxRecDepth 20000
attribute [local simp] rdA pkA tokA toks_bd AV.cells
theorem gpitem_of (l : List (Nat × Tx)) (e : Int) (hp : FnP Try.prog 85 [.ptr 0 2 0 0] [rdA l e] (pout l e exprA (pPrim (l.map (·.2))))) :
    FnP Try.prog 79 [.ptr 0 2 0 0] [rdA l e] (pout l e exprA (pItem (l.map (·.2)))) := by
  cases hq : pPrim (l.map (·.2)) with
  | err q =>
    have hX : FnX Try.prog 85 [.ptr 0 2 0 0] [rdA l e] (synV (pos (cut l q) e)) := hp.dies (by rw [hq]; rfl)
    have hout : pout l e exprA (pItem (l.map (·.2))) = .die (synV (pos (cut l q) e)) := by simp only [pItem, hq, pout]
    rw [hout]
    unfold rdA
    refine FnP.intro ?_ (by kernel_rfl) Try.func79 rfl rfl Try.ntmps79 (by exact Nat.le_of_ble_eq_true rfl) ?_; rotate_left; intro Γ hm
    · (repeat' (first | refine WP.seq ?_ | refine go_n ?_ | refine go_p ?_ | (refine WP.regionC (id := 0) ?_; (refine se_alloc (by rfl) ?_); refine asemC_end ?_) | (refine wpl_region (id := 1) ?_; (refine wpl_step rfl ?_; (refine su (ap_move (rq_p rfl rfl)) ?_); refine asemC_end ?_; ((refine wpl_x [0] rfl rfl (hX) (Lend.S (by first | ((repeat' first | exact RenL.nil | refine RenL.cons (by rfl) ?_); done) | fail) (by first | ((repeat' first | exact LendO.nil | refine LendO.arr (by rfl) (by (exact (renL_pure (by simp [AV.bd, bdL, bdL_append])).symm)) ?_); done) | fail) (by decide) (by rfl) (by simp [AV.bd, bdL, bdL_append]) (by repeat' (first | exact True.intro | refine And.intro ?_ ?_ | simp [AV.bd, bdL, bdL_append]))) ?_))))))
      exact bp_p rfl
    · trivial
  | ok x0 r0 =>
    have hO : FnO Try.prog 85 [.ptr 0 2 0 0] [rdA l e] (exprA x0) [some (rdA (cut l r0) e)] := hp.oks (by rw [hq]; rfl)
    have hr : r0 <:+ l.map (·.2) := by have := pPrim_suf (l.map (·.2)); rw [hq] at this; exact this
    have hout : pout l e exprA (pItem (l.map (·.2))) = .ok (exprA (sufT x0 r0).1) [some (rdA (cut l (sufT x0 r0).2) e)] := by simp only [pItem, hq, pout]
    rw [hout]
    refine FnP.intro ?_ (by kernel_rfl) Try.func79 rfl rfl Try.ntmps79 (by exact Nat.le_of_ble_eq_true rfl) ?_; rotate_left; intro Γ hm
    · (repeat' (first | refine WP.seq ?_ | refine WP.block ?_ | refine go_n ?_ | (refine WP.regionC (id := 0) ?_; (refine se_alloc (by rfl) ?_); refine asemC_end ?_) | (refine WP.regionC (id := 1) ?_; (refine su (ap_move (rq_p rfl rfl)) ?_); (refine sc_o [0] rfl rfl (hO) (Lend.o1 (by rfl) (by rfl) (by (exact (renL_pure (by simp [AV.bd, bdL, bdL_append])).symm)) (by rfl) (by simp [AV.bd, bdL, bdL_append]) (by simp [AV.bd, bdL, bdL_append])) ?_; simp only [updN, newO, AObj.ren, renL, AV.ren, apx, ap, if_true, if_false, Nat.reduceLT, Nat.reduceAdd, Nat.reduceSub, sO, intA, boolA, strA, rdA, ren_toks, ren_exprA]); (refine se_alloc (by rfl) ?_); (refine se_store_b (by rfl) (by rfl) (by rfl) (by rfl) ?_); refine asemC_end ?_)))
      refine wp_loop (fun (σ : GEx × List (Nat × Tx)) => σ.2 <:+ l ∧ sufT σ.1 (σ.2.map (·.2)) = sufT x0 r0) (fun σ => σ.2.length)
        (fun σ => (S 23 [(0, .ptr 0 2 0 0), (2, .ptr 1 3 0 0), (3, .ptr 2 3 0 0)] 3 [(0, some (rdA σ.2 e)), (1, some (.arr 3 [.agg [intA 0, strA ⟨#[]⟩, .val (.slice none 0 0)]])), (2, some (.arr 3 [exprA σ.1]))])) (x0, cut l r0) ⟨[0, 1, 2], ToR.S rfl (by repeat' (first | exact rt_nil | refine rt_t (by rfl) (by rfl) ?_)) (by repeat' (first | exact ro_nil | refine ro_e (by rfl) (by rfl) ?_ | refine ro_p (by rfl) (by first | exact rfl | fail) (by first | (simp [bdL, bdL_append, AV.bd]; done) | fail) ?_)) (by rfl) (by (rw [hm]; exact rfl)) (by rfl) (by (simp [bdT, AV.bd, bdL, bdL_append]; done)) (by repeat' (first | exact True.intro | exact rfl | refine And.intro ?_ ?_ | (simp [bdOq, bdL, bdL_append, AV.bd]; done))) (by (rw [hm]; exact Nat.le_of_ble_eq_true rfl))⟩ ⟨cut_suf _ _, by rw [cut_map hr]⟩ ?_
      rintro ⟨x, l1⟩ ⟨hs1, hf1⟩
      simp only at hs1 hf1 ⊢
      have go : ∀ (p : Nat × Tx) (l2 : List (Nat × Tx)) (k : Int), l1 = p :: l2 → sufT x (p.2 :: l2.map (·.2)) = sufT (.mk k ⟨#[]⟩ [x]) (l2.map (·.2)) → l2.length < l1.length ∧ l2 <:+ l ∧ sufT (.mk k ⟨#[]⟩ [x]) (l2.map (·.2)) = sufT x0 r0 := by
        rintro p l2 k rfl h
        refine ⟨by simp, (List.suffix_cons p l2).trans hs1, ?_⟩
        rw [← h, ← hf1]; rfl
      have hex : ∀ k : Int, AV.agg [intA k, strA ⟨#[]⟩, .sl 3 [exprA x]] = exprA (.mk k ⟨#[]⟩ [x]) := fun k => (exprA_mk k ⟨#[]⟩ [x]).symm
      by_cases h1 : hdT l1 = [42] ∨ hdT l1 = [43] ∨ hdT l1 = [63]
      · obtain ⟨p, l2, hl1⟩ : ∃ p l2, l1 = p :: l2 := by
          cases l1 with
          | nil => simp [hdT, hd] at h1
          | cons p l2 => exact ⟨_, _, rfl⟩
        have hn : FnO Try.prog 55 [.ptr 0 2 0 0] [rdA l1 e] (tokA p) [some (rdA l2 e)] := by rw [hl1]; exact next_fn p l2 e
        have hpt : hdT l1 = p.2 := by rw [hl1]; rfl
        rw [hpt] at h1
        (repeat' (first | refine WP.seq ?_ | refine WP.block ?_ | refine go_n ?_ | refine bl_n ?_ | (refine wp_cond (by rfl) (fun hc => ?_) (fun hc => ?_) <;> (try simp only [sB, ne_eq, reduceCtorEq] at hc) <;> (try (exfalso; omega))) | (refine WP.regionC (id := 2) ?_; (refine su (ap_assign (rq_p rfl rfl)) ?_); refine asemC_end ?_) | (refine WP.regionC (id := 3) ?_; (refine su (ap_move (rq_p rfl rfl)) ?_); (refine sc_o [0] rfl rfl (peek_fn _ _) (Lend.o1 (by rfl) (by rfl) (by (exact (renL_pure (by simp [AV.bd, bdL, bdL_append])).symm)) (by rfl) (by simp [AV.bd, bdL, bdL_append]) (by simp [AV.bd, bdL, bdL_append])) ?_; simp only [updN, newO, AObj.ren, renL, AV.ren, apx, ap, if_true, if_false, Nat.reduceLT, Nat.reduceAdd, Nat.reduceSub, sO, intA, boolA, strA, ren_pkA, rdA, ren_toks]); (refine su (ap_fieldv (rq_p rfl rfl) (by rfl)) ?_); refine asemC_end ?_) | (refine WP.regionC (id := 5) ?_; (refine su (ap_eqs (rq_p rfl rfl) (rq_p rfl rfl)) ?_); (refine su (ap_assign (rq_p rfl rfl)) ?_); refine asemC_end ?_) | (refine WP.regionC (id := 6) ?_; (refine su (ap_assign (rq_p rfl rfl)) ?_); refine asemC_end ?_) | (refine WP.regionC (id := 7) ?_; (refine su (ap_eqs (rq_p rfl rfl) (rq_p rfl rfl)) ?_); (refine su (ap_assign (rq_p rfl rfl)) ?_); refine asemC_end ?_) | (refine WP.regionC (id := 8) ?_; (refine su (ap_assign (rq_p rfl rfl)) ?_); refine asemC_end ?_) | (refine WP.regionC (id := 9) ?_; (refine su (ap_eqs (rq_p rfl rfl) (rq_p rfl rfl)) ?_); (refine su (ap_assign (rq_p rfl rfl)) ?_); refine asemC_end ?_) | (refine WP.regionC (id := 10) ?_; (refine su (ap_assign (rq_p rfl rfl)) ?_); refine asemC_end ?_) | (refine WP.regionC (id := 11) ?_; (refine su (ap_move (rq_p rfl rfl)) ?_); (refine sc_o [0] rfl rfl (hn) (Lend.o1 (by rfl) (by rfl) (by (exact (renL_pure (by simp [AV.bd, bdL, bdL_append])).symm)) (by rfl) (by simp [AV.bd, bdL, bdL_append]) (by simp [AV.bd, bdL, bdL_append])) ?_; simp only [updN, newO, AObj.ren, renL, AV.ren, apx, ap, if_true, if_false, Nat.reduceLT, Nat.reduceAdd, Nat.reduceSub, sO, intA, boolA, strA, rdA, ren_toks]); refine asemC_end ?_) | (refine wpl_region (id := 12) ?_; (refine wpl_step rfl ?_); (refine su (ap_move (rq_p rfl rfl)) ?_); (refine asemC_end ?_); (refine wpl_step rfl ?_); (refine su (ap_load_pw (rq_p rfl rfl) (by rfl) (by rfl) (by rfl)) ?_); (refine asemC_end ?_); (refine wpl_step rfl ?_); (refine se_lit (OpP.cons (by rfl) (OpP.nil)) (by rfl) (by rfl) (by rfl) (by rfl) (by rfl) (by rfl) ?_); (refine asemC_end ?_); (refine wpl_frzm 21 hm (by rfl) (by rfl) (by first | exact rfl | fail) (by first | (simp [AV.bd, bdL, bdL_append]; done) | fail) (by rfl) (by rfl) ?_); (refine wpl_step rfl ?_); (refine su (ap_build (RqP.cons (rq_p rfl rfl) (RqP.cons (rq_p rfl rfl) (RqP.nil))) (by rfl)) ?_); (refine asemC_end ?_); (refine wpl_step rfl ?_); (refine se_store_b (by rfl) (by rfl) (by rfl) (by rfl) ?_); (refine asemC_end ?_); (refine wpl_end ?_))))
        · have h2 : p.2 = [42] := by rw [← hpt]; exact tx_inj (hc.trans rfl)
          refine ⟨(.mk 5 ⟨#[]⟩ [x], l2), go p l2 5 hl1 (by rw [sufT, h2]; rfl), ?_⟩
          simp only
          rw [exprA_mk]
          exact ⟨[0, 1, 2], ToR.S rfl (by repeat' (first | exact rt_nil | refine rt_t (by rfl) (by rfl) ?_)) (by repeat' (first | exact ro_nil | refine ro_e (by rfl) (by rfl) ?_ | refine ro_p (by rfl) (by first | exact rfl | fail) (by first | (simp [bdL, bdL_append, AV.bd]; done) | fail) ?_)) (by rfl) (by (rw [hm]; exact rfl)) (by rfl) (by (simp [bdT, AV.bd, bdL, bdL_append]; done)) (by repeat' (first | exact True.intro | exact rfl | refine And.intro ?_ ?_ | (simp [bdOq, bdL, bdL_append, AV.bd]; done))) (by (rw [hm]; exact Nat.le_of_ble_eq_true rfl))⟩
        · have h2 : p.2 = [43] := by rw [← hpt]; exact tx_inj (hc.trans rfl)
          refine ⟨(.mk 6 ⟨#[]⟩ [x], l2), go p l2 6 hl1 (by rw [sufT, h2]; rfl), ?_⟩
          simp only
          rw [exprA_mk]
          exact ⟨[0, 1, 2], ToR.S rfl (by repeat' (first | exact rt_nil | refine rt_t (by rfl) (by rfl) ?_)) (by repeat' (first | exact ro_nil | refine ro_e (by rfl) (by rfl) ?_ | refine ro_p (by rfl) (by first | exact rfl | fail) (by first | (simp [bdL, bdL_append, AV.bd]; done) | fail) ?_)) (by rfl) (by (rw [hm]; exact rfl)) (by rfl) (by (simp [bdT, AV.bd, bdL, bdL_append]; done)) (by repeat' (first | exact True.intro | exact rfl | refine And.intro ?_ ?_ | (simp [bdOq, bdL, bdL_append, AV.bd]; done))) (by (rw [hm]; exact Nat.le_of_ble_eq_true rfl))⟩
        · have h2 : p.2 = [63] := by rw [← hpt]; exact tx_inj (hc.trans rfl)
          refine ⟨(.mk 4 ⟨#[]⟩ [x], l2), go p l2 4 hl1 (by rw [sufT, h2]; rfl), ?_⟩
          simp only
          rw [exprA_mk]
          exact ⟨[0, 1, 2], ToR.S rfl (by repeat' (first | exact rt_nil | refine rt_t (by rfl) (by rfl) ?_)) (by repeat' (first | exact ro_nil | refine ro_e (by rfl) (by rfl) ?_ | refine ro_p (by rfl) (by first | exact rfl | fail) (by first | (simp [bdL, bdL_append, AV.bd]; done) | fail) ?_)) (by rfl) (by (rw [hm]; exact rfl)) (by rfl) (by (simp [bdT, AV.bd, bdL, bdL_append]; done)) (by repeat' (first | exact True.intro | exact rfl | refine And.intro ?_ ?_ | (simp [bdOq, bdL, bdL_append, AV.bd]; done))) (by (rw [hm]; exact Nat.le_of_ble_eq_true rfl))⟩
        · exfalso
          have e : ∀ c : UInt8, ¬ tx (hdT l1) = (⟨#[c]⟩ : ByteArray) → p.2 ≠ [c] := fun c h h2 => h (by rw [hpt, h2]; rfl)
          rcases h1 with h1 | h1 | h1
          · exact e 42 (by assumption) h1
          · exact e 43 (by assumption) h1
          · exact e 63 (by assumption) h1
      · have hst : sufT x (l1.map (·.2)) = (x, l1.map (·.2)) := by
          cases l1 with
          | nil => rfl
          | cons p l2 =>
            have h2 : ¬ (p.2 = [42] ∨ p.2 = [43] ∨ p.2 = [63]) := h1
            simp only [not_or] at h2
            rw [List.map_cons, sufT, if_neg h2.1, if_neg h2.2.1, if_neg h2.2.2]
        rw [hst] at hf1
        rw [← hf1]
        simp only [cut_of hs1]
        simp only [not_or] at h1
        (repeat' (first | refine WP.seq ?_ | refine WP.block ?_ | refine go_n ?_ | refine WP.ret ?_ | refine go_r ?_ | refine bl_n ?_ | refine bl_r ?_ | (refine wp_cond (by rfl) (fun hc => ?_) (fun hc => ?_) <;> (try simp only [sB, ne_eq, reduceCtorEq] at hc) <;> (try (exfalso; omega))) | (refine WP.regionC (id := 2) ?_; (refine su (ap_assign (rq_p rfl rfl)) ?_); refine asemC_end ?_) | (refine WP.regionC (id := 3) ?_; (refine su (ap_move (rq_p rfl rfl)) ?_); (refine sc_o [0] rfl rfl (peek_fn _ _) (Lend.o1 (by rfl) (by rfl) (by (exact (renL_pure (by simp [AV.bd, bdL, bdL_append])).symm)) (by rfl) (by simp [AV.bd, bdL, bdL_append]) (by simp [AV.bd, bdL, bdL_append])) ?_; simp only [updN, newO, AObj.ren, renL, AV.ren, apx, ap, if_true, if_false, Nat.reduceLT, Nat.reduceAdd, Nat.reduceSub, sO, intA, boolA, strA, ren_pkA, rdA, ren_toks]); (refine su (ap_fieldv (rq_p rfl rfl) (by rfl)) ?_); refine asemC_end ?_) | (refine WP.regionC (id := 5) ?_; (refine su (ap_eqs (rq_p rfl rfl) (rq_p rfl rfl)) ?_); (refine su (ap_assign (rq_p rfl rfl)) ?_); refine asemC_end ?_) | (refine WP.regionC (id := 6) ?_; (refine su (ap_assign (rq_p rfl rfl)) ?_); refine asemC_end ?_) | (refine WP.regionC (id := 7) ?_; (refine su (ap_eqs (rq_p rfl rfl) (rq_p rfl rfl)) ?_); (refine su (ap_assign (rq_p rfl rfl)) ?_); refine asemC_end ?_) | (refine WP.regionC (id := 8) ?_; (refine su (ap_assign (rq_p rfl rfl)) ?_); refine asemC_end ?_) | (refine WP.regionC (id := 9) ?_; (refine su (ap_eqs (rq_p rfl rfl) (rq_p rfl rfl)) ?_); (refine su (ap_assign (rq_p rfl rfl)) ?_); refine asemC_end ?_) | (refine WP.regionC (id := 10) ?_; (refine su (ap_assign (rq_p rfl rfl)) ?_); refine asemC_end ?_) | (refine WP.regionC (id := 4) ?_; (refine su (ap_load_pw (rq_p rfl rfl) (by rfl) (by rfl) (by rfl)) ?_); (refine se_store_b (by rfl) (by rfl) (by rfl) (by rfl) ?_); refine asemC_end ?_)))
        · exact absurd (tx_inj (hc.trans rfl)) h1.1
        · exact absurd (tx_inj (hc.trans rfl)) h1.2.1
        · exact absurd (tx_inj (hc.trans rfl)) h1.2.2
        · refine bp_r rfl ?_
          refine retO_L (x := exprA x) (k := 1) (os1 := [(0, some (rdA l1 e))]) (.cellT (by rfl) (by rfl) (by rfl) (by rfl) .nil) (by rfl) ⟨[0], ToR.S rfl (by repeat' (first | exact rt_nil | refine rt_p (by rfl) (by rfl) (by first | (simp [AV.bd, bdL, bdL_append]; done) | fail) ?_)) (by repeat' (first | exact ro_nil | refine ro_p (by rfl) (by first | exact rfl | fail) (by first | (simp [bdL, bdL_append, AV.bd]; done) | fail) ?_)) (by rfl) (by rfl) (by rfl) (by (simp [bdT, AV.bd, bdL, bdL_append]; done)) (by repeat' (first | exact True.intro | refine And.intro ?_ ?_ | (simp [bdOq, bdL, bdL_append, AV.bd]; done))) (by exact Nat.le_of_ble_eq_true rfl)⟩ (by rfl)
    · exact ⟨Nat.le_refl _, bd_exprA 1 _⟩
end Go.Lg

namespace Go.Lg
open Go.Proofs
set_option linter.unusedSimpArgs false
set_option linter.unusedVariables false
attribute [local irreducible] Ap Rq asemC WP RunD Ret Gq thenA inBlockA bodyQ noGotoA RqL RqP OpP
set_option maxHeartbeats 4000000
set_option maxRecDepth 20000
attribute [local simp] rdA pkA tokA toks_bd
theorem finA_stop {acc : List GEx} {l : List Tx} (h : hd l ≠ [124]) : finA acc l = .ok acc l := by
  cases l with
  | nil => rfl
  | cons t r => have h' : ¬ t = [124] := h; simp only [finA, if_neg h']
theorem pPrim_name {l : List Tx} (t : Tx) (r : List Tx) (hl : l = t :: r) (h : nmT t = true) : pPrim l = .ok (.mk 1 (tx t) []) r := by rw [hl, pPrim, if_pos h]
theorem pPrim_bad {l : List Tx} (h : isN l = false) (h2 : hd l ≠ [40]) : pPrim l = .err l := by
  cases l with
  | nil => rw [pPrim]
  | cons t r =>
    have h3 : nmT t = false := h
    have h4 : ¬ t = [40] := h2
    rw [pPrim, h3]
    simp [h4]
theorem pPrim_par (r : List Tx) : pPrim ([40] :: r) = match pAlts r with
    | .err q => .err q
    | .ok es q => match pTake [41] q with
      | .err q => .err q
      | .ok _ q' => .ok (altOf es) q' := by
  have nm : nmT [40] = false := by decide
  rw [pPrim, nm]
  simp only [Bool.false_eq_true, if_false, if_true]
  cases pAlts r with
  | err q => rfl
  | ok es q =>
    cases q with
    | nil => rfl
    | cons t q => simp only [pTake]; split <;> rfl
theorem hdT_cons {l : List (Nat × Tx)} {c : Tx} (hc : c ≠ []) (h : hdT l = c) : ∃ p l2, l = p :: l2 ∧ p.2 = c := by
  cases l with
  | nil => exact absurd h.symm hc
  | cons p l2 => exact ⟨p, l2, rfl, h⟩
theorem expect_ok (c : Tx) (hc : c ≠ []) (p : Nat × Tx) (l : List (Nat × Tx)) (e : Int) (h : p.2 = c) : FnO Try.prog 20 [.ptr 0 2 0 0, strA (tx c)] [rdA (p :: l) e] (.tup []) [some (rdA l e)] :=
  (expect_fn (tx c) hc (p :: l) e).oks (by
    have : pTake (bl (tx c)) ((p :: l).map (·.2)) = .ok () (l.map (·.2)) := by have h' : p.2 = bl (tx c) := h; simp only [List.map_cons, pTake, if_pos h']
    rw [this]; simp only [pout, cut_tail])
theorem pTake_bad {c : Tx} {l : List Tx} (hc : c ≠ []) (h : hd l ≠ c) : pTake c l = .err l := by
  cases l with
  | nil => rfl
  | cons t r => have h' : ¬ t = c := h; simp only [pTake, if_neg h']
theorem expect_x (c : Tx) (hc : c ≠ []) (l : List (Nat × Tx)) (e : Int) (h : hdT l ≠ c) : FnX Try.prog 20 [.ptr 0 2 0 0, strA (tx c)] [rdA l e] (synV (pos l e)) :=
  (expect_fn (tx c) hc l e).dies (by
    have : pTake (bl (tx c)) (l.map (·.2)) = .err (l.map (·.2)) := pTake_bad hc h
    rw [this]; simp only [pout, cut_self])
theorem gpprim_of (l : List (Nat × Tx)) (e : Int) (hB : l.length ≤ 1000000) (hs : ∀ l', l' <:+ l → l'.length < l.length → FnP Try.prog 70 [.ptr 0 2 0 0] [rdA l' e] (pout l' e exprA (pSeq (l'.map (·.2))))) :
    FnP Try.prog 85 [.ptr 0 2 0 0] [rdA l e] (pout l e exprA (pPrim (l.map (·.2)))) := by
  cases hn : isN (l.map (·.2)) with
  | true =>
    obtain ⟨p, l2, hl⟩ : ∃ p l2, l = p :: l2 := by
      cases l with
      | nil => cases hn
      | cons p l2 => exact ⟨_, _, rfl⟩
    have hnm : nmT p.2 = true := by rw [hl] at hn; exact hn
    have hO : FnO Try.prog 21 [.ptr 0 2 0 0] [rdA l e] (strA (tx p.2)) [some (rdA l2 e)] := (gpname_fn l e).oks (by rw [hl]; simp only [List.map_cons, pName, hnm, if_true, pout, cut_tail])
    have hout : pout l e exprA (pPrim (l.map (·.2))) = .ok (exprA (.mk 1 (tx p.2) [])) [some (rdA l2 e)] := by
      rw [pPrim_name p.2 (l2.map (·.2)) (by rw [hl]; rfl) hnm]
      simp only [pout, hl, cut_tail]
    rw [hout]
    refine FnP.intro ?_ (by kernel_rfl) Try.func85 rfl rfl Try.ntmps85 (by exact Nat.le_of_ble_eq_true rfl) ?_; rotate_left; intro Γ hm
    · (repeat' (first | refine WP.seq ?_ | refine go_n ?_ | refine WP.skip ?_ | (refine wp_cond (by rfl) (fun hc => ?_) (fun hc => ?_) <;> (try simp only [sB, ne_eq, reduceCtorEq] at hc) <;> (try (exfalso; omega))) | (refine WP.regionC (id := 0) ?_; (refine se_alloc (by rfl) ?_); refine asemC_end ?_) | (refine WP.regionC (id := 1) ?_; (refine su (ap_move (rq_p rfl rfl)) ?_); (refine sc_o [0] rfl rfl (isname_fn _ _) (Lend.o1 (by rfl) (by rfl) (by (exact (renL_pure (by simp [AV.bd, bdL, bdL_append])).symm)) (by rfl) (by simp [AV.bd, bdL, bdL_append]) (by simp [AV.bd, bdL, bdL_append])) ?_; simp only [updN, newO, AObj.ren, renL, AV.ren, apx, ap, if_true, if_false, Nat.reduceLT, Nat.reduceAdd, Nat.reduceSub, sO, intA, boolA, strA, ren_pkA, rdA, ren_toks]); refine asemC_end ?_) | (refine WP.regionC (id := 2) ?_; (refine su (ap_move (rq_p rfl rfl)) ?_); (refine sc_o [0] rfl rfl (hO) (Lend.o1 (by rfl) (by rfl) (by (exact (renL_pure (by simp [AV.bd, bdL, bdL_append])).symm)) (by rfl) (by simp [AV.bd, bdL, bdL_append]) (by simp [AV.bd, bdL, bdL_append])) ?_; simp only [updN, newO, AObj.ren, renL, AV.ren, apx, ap, if_true, if_false, Nat.reduceLT, Nat.reduceAdd, Nat.reduceSub, sO, intA, boolA, strA, rdA, ren_toks]); (refine su (ap_build (RqP.cons (rq_p rfl rfl) (RqP.cons (rq_p rfl rfl) (RqP.nil))) (by rfl)) ?_); (refine se_store_b (by rfl) (by rfl) (by rfl) (by rfl) ?_); refine asemC_end ?_)))
      · refine wp_nilo 1 2 3 rfl rfl ?_
        refine wp_frzom (L := ([] : List GEx)) (f := exprA) 1 2 hm rfl rfl rfl rfl rfl (bd_exprA 0) (fun _ => rfl) (by rfl) ?_
        refine WP.ret ?_
        refine go_r ?_
        refine bp_r rfl ?_
        refine retO_L (x := exprA (.mk 1 (tx p.2) [])) (k := 1) (os1 := [(0, some (rdA l2 e))]) (.cellT (by rfl) (by rfl) (by rfl) (by rfl) .nil) (by rfl) ⟨[0], ToR.S rfl (by repeat' (first | exact rt_nil | refine rt_e (by rfl) (by rfl) ?_)) (by repeat' (first | exact ro_nil | refine ro_p (by rfl) (by first | exact rfl | fail) (by first | (simp [bdL, bdL_append, AV.bd]; done) | fail) ?_)) (by rfl) (by rfl) (by rfl) (by (simp [bdT, AV.bd, bdL, bdL_append]; done)) (by repeat' (first | exact True.intro | refine And.intro ?_ ?_ | (simp [bdOq, bdL, bdL_append, AV.bd]; done))) (by exact Nat.le_of_ble_eq_true rfl)⟩ (by rfl)
      · exfalso; simp_all
    · exact ⟨Nat.le_refl _, bd_exprA 1 _⟩
  | false =>
    by_cases h40 : hdT l = [40]
    · obtain ⟨p, l2, hl, hp⟩ := hdT_cons (by simp) h40
      have hE : FnO Try.prog 20 [.ptr 0 2 0 0, strA (tx [40])] [rdA l e] (.tup []) [some (rdA l2 e)] := by rw [hl]; exact expect_ok [40] (by simp) p l2 e hp
      have hlt : l2.length < l.length := by rw [hl]; simp
      have hs2 : l2 <:+ l := by rw [hl]; exact List.suffix_cons _ _
      have hpp : pPrim (l.map (·.2)) = match pAlts (l2.map (·.2)) with
          | .err q => .err q
          | .ok es q => match pTake [41] q with
            | .err q => .err q
            | .ok _ q' => .ok (altOf es) q' := by rw [hl, List.map_cons, hp]; exact pPrim_par _
      have hsq := hs l2 hs2 hlt
      cases hq : pItems (l2.map (·.2)) with
      | err q =>
        have hqs : q <:+ l2.map (·.2) := by have := pItems_suf (l2.map (·.2)); rw [hq] at this; exact this
        have hX : FnX Try.prog 70 [.ptr 0 2 0 0] [rdA l2 e] (synV (pos (cut l2 q) e)) := hsq.dies (by simp only [pSeq, hq, pout])
        have hout : pout l e exprA (pPrim (l.map (·.2))) = .die (synV (pos (cut l2 q) e)) := by
          rw [hpp, pAlts_eq, hq]; simp only [pout, cut_cut hs2 hqs]
        rw [hout]
        refine FnP.intro ?_ (by kernel_rfl) Try.func85 rfl rfl Try.ntmps85 (by exact Nat.le_of_ble_eq_true rfl) ?_; rotate_left; intro Γ hm
        · (repeat' (first | refine WP.seq ?_ | refine go_n ?_ | refine WP.skip ?_ | refine go_p ?_ | (refine wp_cond (by rfl) (fun hc => ?_) (fun hc => ?_) <;> (try simp only [sB, ne_eq, reduceCtorEq] at hc) <;> (try (exfalso; omega))) | (refine WP.regionC (id := 0) ?_; (refine se_alloc (by rfl) ?_); refine asemC_end ?_) | (refine WP.regionC (id := 1) ?_; (refine su (ap_move (rq_p rfl rfl)) ?_); (refine sc_o [0] rfl rfl (isname_fn _ _) (Lend.o1 (by rfl) (by rfl) (by (exact (renL_pure (by simp [AV.bd, bdL, bdL_append])).symm)) (by rfl) (by simp [AV.bd, bdL, bdL_append]) (by simp [AV.bd, bdL, bdL_append])) ?_; simp only [updN, newO, AObj.ren, renL, AV.ren, apx, ap, if_true, if_false, Nat.reduceLT, Nat.reduceAdd, Nat.reduceSub, sO, intA, boolA, strA, ren_pkA, rdA, ren_toks]); refine asemC_end ?_) | (refine wpl_region (id := 3) ?_; (refine wpl_step rfl ?_; (refine su (ap_move (rq_p rfl rfl)) ?_); refine asemC_end ?_; ((refine wpl_step rfl ?_; (refine sc_o [0] rfl rfl (hE) (Lend.o1 (by rfl) (by rfl) (by (exact (renL_pure (by simp [AV.bd, bdL, bdL_append])).symm)) (by rfl) (by simp [AV.bd, bdL, bdL_append]) (by simp [AV.bd, bdL, bdL_append])) ?_; simp only [updN, newO, AObj.ren, renL, AV.ren, apx, ap, if_true, if_false, Nat.reduceLT, Nat.reduceAdd, Nat.reduceSub, sO, intA, boolA, strA, rdA, ren_toks]); refine asemC_end ?_; (refine wpl_end ?_))))) | (refine wpl_region (id := 4) ?_; (refine wpl_step rfl ?_; (refine su (ap_move (rq_p rfl rfl)) ?_); refine asemC_end ?_; ((refine wpl_x [0] rfl rfl (hX) (Lend.S (by first | ((repeat' first | exact RenL.nil | refine RenL.cons (by rfl) ?_); done) | fail) (by first | ((repeat' first | exact LendO.nil | refine LendO.arr (by rfl) (by (exact (renL_pure (by simp [AV.bd, bdL, bdL_append])).symm)) ?_); done) | fail) (by decide) (by rfl) (by simp [AV.bd, bdL, bdL_append]) (by repeat' (first | exact True.intro | refine And.intro ?_ ?_ | simp [AV.bd, bdL, bdL_append]))) ?_))))))
          · exfalso; simp_all
          · exact bp_p rfl
        · trivial
      | ok xs0 r0 =>
        have hqs : r0 <:+ l2.map (·.2) := by have := pItems_suf (l2.map (·.2)); rw [hq] at this; exact this
        have hO : FnO Try.prog 70 [.ptr 0 2 0 0] [rdA l2 e] (exprA (seqOf xs0)) [some (rdA (cut l2 r0) e)] := hsq.oks (by simp only [pSeq, hq, pout])
        have hfin : finA [seqOf xs0] r0 = pAlts (l2.map (·.2)) := by rw [pAlts_eq, hq]
        have hcl : (cut l2 r0).length ≤ l2.length := (cut_suf l2 r0).length_le
        refine FnP.intro ?_ (by kernel_rfl) Try.func85 rfl rfl Try.ntmps85 (by exact Nat.le_of_ble_eq_true rfl) ?_; rotate_left; intro Γ hm
        · (repeat' (first | refine WP.seq ?_ | refine WP.block ?_ | refine go_n ?_ | refine WP.skip ?_ | (refine wp_cond (by rfl) (fun hc => ?_) (fun hc => ?_) <;> (try simp only [sB, ne_eq, reduceCtorEq] at hc) <;> (try (exfalso; omega))) | (refine WP.regionC (id := 0) ?_; (refine se_alloc (by rfl) ?_); refine asemC_end ?_) | (refine WP.regionC (id := 1) ?_; (refine su (ap_move (rq_p rfl rfl)) ?_); (refine sc_o [0] rfl rfl (isname_fn _ _) (Lend.o1 (by rfl) (by rfl) (by (exact (renL_pure (by simp [AV.bd, bdL, bdL_append])).symm)) (by rfl) (by simp [AV.bd, bdL, bdL_append]) (by simp [AV.bd, bdL, bdL_append])) ?_; simp only [updN, newO, AObj.ren, renL, AV.ren, apx, ap, if_true, if_false, Nat.reduceLT, Nat.reduceAdd, Nat.reduceSub, sO, intA, boolA, strA, ren_pkA, rdA, ren_toks]); refine asemC_end ?_) | (refine WP.regionC (id := 3) ?_; (refine su (ap_move (rq_p rfl rfl)) ?_); (refine sc_o [0] rfl rfl (hE) (Lend.o1 (by rfl) (by rfl) (by (exact (renL_pure (by simp [AV.bd, bdL, bdL_append])).symm)) (by rfl) (by simp [AV.bd, bdL, bdL_append]) (by simp [AV.bd, bdL, bdL_append])) ?_; simp only [updN, newO, AObj.ren, renL, AV.ren, apx, ap, if_true, if_false, Nat.reduceLT, Nat.reduceAdd, Nat.reduceSub, sO, intA, boolA, strA, rdA, ren_toks]); refine asemC_end ?_) | (refine WP.regionC (id := 4) ?_; (refine su (ap_move (rq_p rfl rfl)) ?_); (refine sc_o [0] rfl rfl (hO) (Lend.o1 (by rfl) (by rfl) (by (exact (renL_pure (by simp [AV.bd, bdL, bdL_append])).symm)) (by rfl) (by simp [AV.bd, bdL, bdL_append]) (by simp [AV.bd, bdL, bdL_append])) ?_; simp only [updN, newO, AObj.ren, renL, AV.ren, apx, ap, if_true, if_false, Nat.reduceLT, Nat.reduceAdd, Nat.reduceSub, sO, intA, boolA, strA, rdA, ren_toks, ren_exprA]); (refine se_lit (OpP.cons (by rfl) (OpP.nil)) (by rfl) (by rfl) (by rfl) (by rfl) (by rfl) (by rfl) ?_); (refine su (ap_assign (rq_p rfl rfl)) ?_); refine asemC_end ?_)))
          · exfalso; simp_all
          refine wp_loop (fun (σ : List GEx × List (Nat × Tx)) => σ.2 <:+ l2 ∧ σ.1 ≠ [] ∧ σ.1.length + σ.2.length ≤ l.length ∧ finA σ.1 (σ.2.map (·.2)) = pAlts (l2.map (·.2))) (fun σ => σ.2.length)
            (fun σ => (S 35 [(0, .ptr 0 2 0 0), (2, .ptr 1 3 0 0), (3, .ref 2 3 0 σ.1.length)] 3 [(0, some (rdA σ.2 e)), (1, some (.arr 3 [.agg [intA 0, strA ⟨#[]⟩, .val (.slice none 0 0)]])), (2, some (.arr 3 (σ.1.map exprA)))])) ([seqOf xs0], cut l2 r0) ⟨[0, 1, 2], ToR.S rfl (by repeat' (first | exact rt_nil | refine rt_r (by rfl) (by rfl) ?_ | refine rt_t (by rfl) (by rfl) ?_)) (by repeat' (first | exact ro_nil | refine ro_e (by rfl) (by rfl) ?_ | refine ro_p (by rfl) (by first | exact rfl | fail) (by first | exact bdL_map (fun _ => by simp [AV.bd, bdL, bdL_append]) _ | (simp [bdL, bdL_append, AV.bd]; done) | fail) ?_)) (by rfl) (by (rw [hm]; exact rfl)) (by rfl) (by (simp [bdT, AV.bd, bdL, bdL_append]; done)) (by repeat' (first | exact True.intro | exact rfl | refine And.intro ?_ ?_ | exact bdL_map (fun _ => by simp [AV.bd, bdL, bdL_append]) _ | (simp [bdOq, bdL, bdL_append, AV.bd]; done))) (by (rw [hm]; exact Nat.le_of_ble_eq_true rfl))⟩ ⟨cut_suf _ _, by simp, by simp only [List.length_cons, List.length_nil]; omega, by rw [cut_map hqs]; exact hfin⟩ ?_
          rintro ⟨acc, l3⟩ ⟨hs3, hne, hn3, hf3⟩
          simp only at hs3 hne hn3 hf3 ⊢
          by_cases hbar : hdT l3 = [124]
          · obtain ⟨p3, l4, hl3, hp3⟩ := hdT_cons (by simp) hbar
            have hN : FnO Try.prog 55 [.ptr 0 2 0 0] [rdA l3 e] (tokA p3) [some (rdA l4 e)] := by rw [hl3]; exact next_fn p3 l4 e
            have hbb : finA acc (l3.map (·.2)) = match pItems (l4.map (·.2)) with
                | .err q' => .err q'
                | .ok xs q' => finA (acc ++ [seqOf xs]) q' := by rw [hl3, List.map_cons, hp3]; exact finA_bar _ _
            have hs4 : l4 <:+ l2 := by rw [hl3] at hs3; exact (List.suffix_cons _ _).trans hs3
            have hlen4 : l4.length < l3.length := by rw [hl3]; simp
            have hle4 := hs4.length_le
            have hsq4 := hs l4 (hs4.trans hs2) (by omega)
            cases hq4 : pItems (l4.map (·.2)) with
            | err q =>
              have hq4s : q <:+ l4.map (·.2) := by have := pItems_suf (l4.map (·.2)); rw [hq4] at this; exact this
              have hX : FnX Try.prog 70 [.ptr 0 2 0 0] [rdA l4 e] (synV (pos (cut l4 q) e)) := hsq4.dies (by simp only [pSeq, hq4, pout])
              have hout : pout l e exprA (pPrim (l.map (·.2))) = .die (synV (pos (cut l4 q) e)) := by
                rw [hpp, ← hf3, hbb, hq4]; simp only [pout, cut_cut (hs4.trans hs2) hq4s]
              rw [hout]
              (repeat' (first | refine WP.seq ?_ | refine WP.block ?_ | refine go_n ?_ | refine WP.skip ?_ | refine WP.exit ?_ | refine go_x ?_ | refine bl_x ?_ | refine go_p ?_ | refine bl_p ?_ | (refine wp_cond (by rfl) (fun hc => ?_) (fun hc => ?_) <;> (try simp only [sB, ne_eq, reduceCtorEq] at hc) <;> (try (exfalso; omega))) | (refine WP.regionC (id := 5) ?_; (refine su (ap_move (rq_p rfl rfl)) ?_); (refine sc_o [0] rfl rfl (peek_fn _ _) (Lend.o1 (by rfl) (by rfl) (by (exact (renL_pure (by simp [AV.bd, bdL, bdL_append])).symm)) (by rfl) (by simp [AV.bd, bdL, bdL_append]) (by simp [AV.bd, bdL, bdL_append])) ?_; simp only [updN, newO, AObj.ren, renL, AV.ren, apx, ap, if_true, if_false, Nat.reduceLT, Nat.reduceAdd, Nat.reduceSub, sO, intA, boolA, strA, ren_pkA, rdA, ren_toks]); (refine su (ap_fieldv (rq_p rfl rfl) (by rfl)) ?_); (refine su (ap_eqs (rq_p rfl rfl) (rq_p rfl rfl)) ?_); refine asemC_end ?_) | (refine wpl_region (id := 6) ?_; (refine wpl_step rfl ?_; (refine su (ap_move (rq_p rfl rfl)) ?_); refine asemC_end ?_; ((refine wpl_step rfl ?_; (refine sc_o [0] rfl rfl (hN) (Lend.o1 (by rfl) (by rfl) (by (exact (renL_pure (by simp [AV.bd, bdL, bdL_append])).symm)) (by rfl) (by simp [AV.bd, bdL, bdL_append]) (by simp [AV.bd, bdL, bdL_append])) ?_; simp only [updN, newO, AObj.ren, renL, AV.ren, apx, ap, if_true, if_false, Nat.reduceLT, Nat.reduceAdd, Nat.reduceSub, sO, intA, boolA, strA, rdA, ren_toks]); refine asemC_end ?_; (refine wpl_end ?_))))) | (refine wpl_region (id := 7) ?_; (refine wpl_step rfl ?_; (refine su (ap_move (rq_p rfl rfl)) ?_); refine asemC_end ?_; (refine wpl_step rfl ?_; (refine su (ap_move (rq_p rfl rfl)) ?_); refine asemC_end ?_; ((refine wpl_x [0] rfl rfl (hX) (Lend.S (by first | ((repeat' first | exact RenL.nil | refine RenL.cons (by rfl) ?_); done) | fail) (by first | ((repeat' first | exact LendO.nil | refine LendO.arr (by rfl) (by (exact (renL_pure (by simp [AV.bd, bdL, bdL_append])).symm)) ?_); done) | fail) (by decide) (by rfl) (by simp [AV.bd, bdL, bdL_append]) (by repeat' (first | exact True.intro | refine And.intro ?_ ?_ | simp [AV.bd, bdL, bdL_append]))) ?_)))))))
              · exact bp_p rfl
              · exact absurd (by rw [hbar]; rfl) hc
            | ok xs r =>
              have hq4s : r <:+ l4.map (·.2) := by have := pItems_suf (l4.map (·.2)); rw [hq4] at this; exact this
              have hO4 : FnO Try.prog 70 [.ptr 0 2 0 0] [rdA l4 e] (exprA (seqOf xs)) [some (rdA (cut l4 r) e)] := hsq4.oks (by simp only [pSeq, hq4, pout])
              have hcl4 := (cut_suf l4 r).length_le
              have hnext : (cut l4 r).length < l3.length ∧ cut l4 r <:+ l2 ∧ acc ++ [seqOf xs] ≠ [] ∧ (acc ++ [seqOf xs]).length + (cut l4 r).length ≤ l.length ∧ finA (acc ++ [seqOf xs]) ((cut l4 r).map (·.2)) = pAlts (l2.map (·.2)) := by
                refine ⟨by omega, (cut_suf _ _).trans hs4, by simp, by simp only [List.length_append, List.length_cons, List.length_nil]; omega, ?_⟩
                rw [cut_map hq4s, ← hf3, hbb, hq4]
              (repeat' (first | refine WP.seq ?_ | refine WP.block ?_ | refine go_n ?_ | refine WP.skip ?_ | refine WP.exit ?_ | refine go_x ?_ | refine bl_n ?_ | refine bl_x ?_ | (refine wp_cond (by rfl) (fun hc => ?_) (fun hc => ?_) <;> (try simp only [sB, ne_eq, reduceCtorEq] at hc) <;> (try (exfalso; omega))) | (refine WP.regionC (id := 5) ?_; (refine su (ap_move (rq_p rfl rfl)) ?_); (refine sc_o [0] rfl rfl (peek_fn _ _) (Lend.o1 (by rfl) (by rfl) (by (exact (renL_pure (by simp [AV.bd, bdL, bdL_append])).symm)) (by rfl) (by simp [AV.bd, bdL, bdL_append]) (by simp [AV.bd, bdL, bdL_append])) ?_; simp only [updN, newO, AObj.ren, renL, AV.ren, apx, ap, if_true, if_false, Nat.reduceLT, Nat.reduceAdd, Nat.reduceSub, sO, intA, boolA, strA, ren_pkA, rdA, ren_toks]); (refine su (ap_fieldv (rq_p rfl rfl) (by rfl)) ?_); (refine su (ap_eqs (rq_p rfl rfl) (rq_p rfl rfl)) ?_); refine asemC_end ?_) | (refine WP.regionC (id := 6) ?_; (refine su (ap_move (rq_p rfl rfl)) ?_); (refine sc_o [0] rfl rfl (hN) (Lend.o1 (by rfl) (by rfl) (by (exact (renL_pure (by simp [AV.bd, bdL, bdL_append])).symm)) (by rfl) (by simp [AV.bd, bdL, bdL_append]) (by simp [AV.bd, bdL, bdL_append])) ?_; simp only [updN, newO, AObj.ren, renL, AV.ren, apx, ap, if_true, if_false, Nat.reduceLT, Nat.reduceAdd, Nat.reduceSub, sO, intA, boolA, strA, rdA, ren_toks]); refine asemC_end ?_) | (refine WP.regionC (id := 7) ?_; (refine su (ap_move (rq_p rfl rfl)) ?_); (refine su (ap_move (rq_p rfl rfl)) ?_); (refine sc_o [0] rfl rfl (hO4) (Lend.o1 (by rfl) (by rfl) (by (exact (renL_pure (by simp [AV.bd, bdL, bdL_append])).symm)) (by rfl) (by simp [AV.bd, bdL, bdL_append]) (by simp [AV.bd, bdL, bdL_append])) ?_; simp only [updN, newO, AObj.ren, renL, AV.ren, apx, ap, if_true, if_false, Nat.reduceLT, Nat.reduceAdd, Nat.reduceSub, sO, intA, boolA, strA, rdA, ren_toks, ren_exprA]); (refine se_lit (OpP.cons (by rfl) (OpP.nil)) (by rfl) (by rfl) (by rfl) (by rfl) (by rfl) (by rfl) ?_); (refine se_app1 (by rfl) (by rfl) (by rfl) (by rfl) (by rfl) (by rfl) (by rfl) (by rfl) (by omega) ?_); (refine su (ap_assign (rq_p rfl rfl)) ?_); refine asemC_end ?_)))
              · exact ⟨(acc ++ [seqOf xs], cut l4 r), hnext, ⟨[0, 1, 4], ToR.S rfl (by repeat' (first | exact rt_nil | refine rt_r (by rfl) (by rfl) ?_ | refine rt_t (by rfl) (by rfl) ?_)) (by repeat' (first | exact ro_nil | refine ro_e (by rfl) (by rfl) ?_ | refine ro_p (by rfl) (by first | exact rfl | fail) (by first | exact bdL_map (fun _ => by simp [AV.bd, bdL, bdL_append]) _ | (simp [bdL, bdL_append, AV.bd]; done) | fail) ?_)) (by rfl) (by (rw [hm]; exact rfl)) (by rfl) (by (simp [bdT, AV.bd, bdL, bdL_append]; done)) (by repeat' (first | exact True.intro | exact rfl | refine And.intro ?_ ?_ | exact bdL_map (fun _ => by simp [AV.bd, bdL, bdL_append]) _ | (simp [bdOq, bdL, bdL_append, AV.bd]; done))) (by (rw [hm]; exact Nat.le_of_ble_eq_true rfl))⟩⟩
              · exact absurd (by rw [hbar]; rfl) hc
          · have hfe : pAlts (l2.map (·.2)) = .ok acc (l3.map (·.2)) := by rw [← hf3]; exact finA_stop hbar
            rw [hpp, hfe]
            simp only
            by_cases h41 : hdT l3 = [41]
            · obtain ⟨p3, l4, hl3, hp3⟩ := hdT_cons (by simp) h41
              have hE2 : FnO Try.prog 20 [.ptr 0 2 0 0, strA (tx [41])] [rdA l3 e] (.tup []) [some (rdA l4 e)] := by rw [hl3]; exact expect_ok [41] (by simp) p3 l4 e hp3
              have hpt : pTake [41] (l3.map (·.2)) = .ok () (l4.map (·.2)) := by rw [hl3, List.map_cons, pTake, if_pos hp3]
              rw [hpt]
              have hout : pout l e exprA (.ok (altOf acc) (l4.map (·.2))) = .ok (exprA (altOf acc)) [some (rdA l4 e)] := by
                have : l4 <:+ l := (by rw [hl3] at hs3; exact ((List.suffix_cons _ _).trans hs3).trans hs2)
                simp only [pout, cut_of this]
              simp only
              rw [hout]
              (repeat' (first | refine WP.seq ?_ | refine WP.block ?_ | refine go_n ?_ | refine WP.skip ?_ | refine WP.exit ?_ | refine go_x ?_ | refine bl_x ?_ | (refine wp_cond (by rfl) (fun hc => ?_) (fun hc => ?_) <;> (try simp only [sB, ne_eq, reduceCtorEq] at hc) <;> (try (exfalso; omega))) | (refine WP.regionC (id := 5) ?_; (refine su (ap_move (rq_p rfl rfl)) ?_); (refine sc_o [0] rfl rfl (peek_fn _ _) (Lend.o1 (by rfl) (by rfl) (by (exact (renL_pure (by simp [AV.bd, bdL, bdL_append])).symm)) (by rfl) (by simp [AV.bd, bdL, bdL_append]) (by simp [AV.bd, bdL, bdL_append])) ?_; simp only [updN, newO, AObj.ren, renL, AV.ren, apx, ap, if_true, if_false, Nat.reduceLT, Nat.reduceAdd, Nat.reduceSub, sO, intA, boolA, strA, ren_pkA, rdA, ren_toks]); (refine su (ap_fieldv (rq_p rfl rfl) (by rfl)) ?_); (refine su (ap_eqs (rq_p rfl rfl) (rq_p rfl rfl)) ?_); refine asemC_end ?_) | (refine WP.regionC (id := 8) ?_; (refine su (ap_move (rq_p rfl rfl)) ?_); (refine sc_o [0] rfl rfl (hE2) (Lend.o1 (by rfl) (by rfl) (by (exact (renL_pure (by simp [AV.bd, bdL, bdL_append])).symm)) (by rfl) (by simp [AV.bd, bdL, bdL_append]) (by simp [AV.bd, bdL, bdL_append])) ?_; simp only [updN, newO, AObj.ren, renL, AV.ren, apx, ap, if_true, if_false, Nat.reduceLT, Nat.reduceAdd, Nat.reduceSub, sO, intA, boolA, strA, rdA, ren_toks]); refine asemC_end ?_)))
              · exact absurd (tx_inj (hc.trans rfl)) hbar
              · refine wp_frzm 3 hm rfl rfl rfl (bd_exprA 0) (fun _ => rfl) (by rfl) ?_
                cases acc with
                | nil => exact absurd rfl hne
                | cons y acc' =>
                  cases acc' with
                  | nil =>
                    (repeat' (first | refine WP.seq ?_ | refine go_n ?_ | refine WP.skip ?_ | refine WP.ret ?_ | refine go_r ?_ | (refine wp_cond (by rfl) (fun hc => ?_) (fun hc => ?_) <;> (try simp only [sB, ne_eq, reduceCtorEq] at hc) <;> (try (exfalso; omega))) | (refine WP.regionC (id := 9) ?_; (refine su (ap_move (rq_p rfl rfl)) ?_); (refine su (ap_len_m (by rfl) (rq_p rfl rfl)) ?_); (refine su (ap_eql (rq_p rfl rfl) (rq_p rfl rfl)) ?_); refine asemC_end ?_) | (refine WP.regionC (id := 10) ?_; (refine su (ap_move (rq_p rfl rfl)) ?_); (refine su (ap_idx_n (rq_p rfl rfl) (rq_p rfl rfl) (by (simp only [sL] <;> omega))) ?_); (refine su (ap_load_w (rq_p rfl rfl) (by rfl)) ?_); (refine se_store_b (by rfl) (by rfl) (by rfl) (by rfl) ?_); refine asemC_end ?_)))
                    · refine bp_r rfl ?_
                      refine retO_L (x := exprA (altOf [y])) (k := 1) (os1 := [(0, some (rdA l4 e))]) (.cellT (by rfl) (by rfl) (by rfl) (by rfl) .nil) (by rfl) ⟨[0], ToR.S rfl (by repeat' (first | exact rt_nil | refine rt_p (by rfl) (by rfl) (by first | (simp [AV.bd, bdL, bdL_append]; done) | fail) ?_)) (by repeat' (first | exact ro_nil | refine ro_p (by rfl) (by first | exact rfl | fail) (by first | (simp [bdL, bdL_append, AV.bd]; done) | fail) ?_)) (by rfl) (by rfl) (by rfl) (by (simp [bdT, AV.bd, bdL, bdL_append]; done)) (by repeat' (first | exact True.intro | refine And.intro ?_ ?_ | (simp [bdOq, bdL, bdL_append, AV.bd]; done))) (by exact Nat.le_of_ble_eq_true rfl)⟩ (by rfl)
                    · exfalso; simp at hc
                  | cons y' acc2 =>
                    (repeat' (first | refine WP.seq ?_ | refine go_n ?_ | refine WP.skip ?_ | refine WP.ret ?_ | (refine wp_cond (by rfl) (fun hc => ?_) (fun hc => ?_) <;> (try simp only [sB, ne_eq, reduceCtorEq] at hc) <;> (try (exfalso; omega))) | (refine WP.regionC (id := 9) ?_; (refine su (ap_move (rq_p rfl rfl)) ?_); (refine su (ap_len_m (by rfl) (rq_p rfl rfl)) ?_); (refine su (ap_eql (rq_p rfl rfl) (rq_p rfl rfl)) ?_); refine asemC_end ?_) | (refine WP.regionC (id := 11) ?_; (refine su (ap_move (rq_p rfl rfl)) ?_); (refine su (ap_build (RqP.cons (rq_p rfl rfl) (RqP.cons (rq_p rfl rfl) (RqP.nil))) (by rfl)) ?_); (refine se_store_b (by rfl) (by rfl) (by rfl) (by rfl) ?_); refine asemC_end ?_)))
                    · exfalso; simp at hc; omega
                    · refine bp_r rfl ?_
                      have he : exprA (altOf (y :: y' :: acc2)) = .agg [intA 3, strA ⟨#[]⟩, .sl 3 ((y :: y' :: acc2).map exprA)] := exprA_mk _ _ _
                      rw [he]
                      refine retO_L (x := .agg [intA 3, strA ⟨#[]⟩, .sl 3 ((y :: y' :: acc2).map exprA)]) (k := 1) (os1 := [(0, some (rdA l4 e))]) (.cellT (by rfl) (by rfl) (by rfl) (by rfl) .nil) (by rfl) ⟨[0], ToR.S rfl (by repeat' (first | exact rt_nil | refine rt_p (by rfl) (by rfl) (by first | (simp [AV.bd, bdL, bdL_append]; done) | fail) ?_)) (by repeat' (first | exact ro_nil | refine ro_p (by rfl) (by first | exact rfl | fail) (by first | (simp [bdL, bdL_append, AV.bd]; done) | fail) ?_)) (by rfl) (by rfl) (by rfl) (by (simp [bdT, AV.bd, bdL, bdL_append]; done)) (by repeat' (first | exact True.intro | refine And.intro ?_ ?_ | (simp [bdOq, bdL, bdL_append, AV.bd]; done))) (by exact Nat.le_of_ble_eq_true rfl)⟩ (by rfl)
            · have hX2 := expect_x [41] (by simp) l3 e h41
              rw [pTake_bad (by simp) h41]
              have hout : pout l e exprA (.err (l3.map (·.2))) = .die (synV (pos l3 e)) := by simp only [pout, cut_of (hs3.trans hs2)]
              simp only
              rw [hout]
              (repeat' (first | refine WP.seq ?_ | refine WP.block ?_ | refine go_n ?_ | refine WP.skip ?_ | refine WP.exit ?_ | refine go_x ?_ | refine bl_x ?_ | refine go_p ?_ | (refine wp_cond (by rfl) (fun hc => ?_) (fun hc => ?_) <;> (try simp only [sB, ne_eq, reduceCtorEq] at hc) <;> (try (exfalso; omega))) | (refine WP.regionC (id := 5) ?_; (refine su (ap_move (rq_p rfl rfl)) ?_); (refine sc_o [0] rfl rfl (peek_fn _ _) (Lend.o1 (by rfl) (by rfl) (by (exact (renL_pure (by simp [AV.bd, bdL, bdL_append])).symm)) (by rfl) (by simp [AV.bd, bdL, bdL_append]) (by simp [AV.bd, bdL, bdL_append])) ?_; simp only [updN, newO, AObj.ren, renL, AV.ren, apx, ap, if_true, if_false, Nat.reduceLT, Nat.reduceAdd, Nat.reduceSub, sO, intA, boolA, strA, ren_pkA, rdA, ren_toks]); (refine su (ap_fieldv (rq_p rfl rfl) (by rfl)) ?_); (refine su (ap_eqs (rq_p rfl rfl) (rq_p rfl rfl)) ?_); refine asemC_end ?_) | (refine wpl_region (id := 8) ?_; (refine wpl_step rfl ?_; (refine su (ap_move (rq_p rfl rfl)) ?_); refine asemC_end ?_; ((refine wpl_x [0] rfl rfl (hX2) (Lend.S (by first | ((repeat' first | exact RenL.nil | refine RenL.cons (by rfl) ?_); done) | fail) (by first | ((repeat' first | exact LendO.nil | refine LendO.arr (by rfl) (by (exact (renL_pure (by simp [AV.bd, bdL, bdL_append])).symm)) ?_); done) | fail) (by decide) (by rfl) (by simp [AV.bd, bdL, bdL_append]) (by repeat' (first | exact True.intro | refine And.intro ?_ ?_ | simp [AV.bd, bdL, bdL_append]))) ?_))))))
              · exact absurd (tx_inj (hc.trans rfl)) hbar
              · exact bp_p rfl
        · exact pout_fine l e exprA (fun x => bd_exprA 1 x) _
    · have hX := expect_x [40] (by simp) l e h40
      have hout : pout l e exprA (pPrim (l.map (·.2))) = .die (synV (pos l e)) := by
        rw [pPrim_bad hn h40]
        simp only [pout, cut_self]
      rw [hout]
      refine FnP.intro ?_ (by kernel_rfl) Try.func85 rfl rfl Try.ntmps85 (by exact Nat.le_of_ble_eq_true rfl) ?_; rotate_left; intro Γ hm
      · (repeat' (first | refine WP.seq ?_ | refine go_n ?_ | refine WP.skip ?_ | refine go_p ?_ | (refine wp_cond (by rfl) (fun hc => ?_) (fun hc => ?_) <;> (try simp only [sB, ne_eq, reduceCtorEq] at hc) <;> (try (exfalso; omega))) | (refine WP.regionC (id := 0) ?_; (refine se_alloc (by rfl) ?_); refine asemC_end ?_) | (refine WP.regionC (id := 1) ?_; (refine su (ap_move (rq_p rfl rfl)) ?_); (refine sc_o [0] rfl rfl (isname_fn _ _) (Lend.o1 (by rfl) (by rfl) (by (exact (renL_pure (by simp [AV.bd, bdL, bdL_append])).symm)) (by rfl) (by simp [AV.bd, bdL, bdL_append]) (by simp [AV.bd, bdL, bdL_append])) ?_; simp only [updN, newO, AObj.ren, renL, AV.ren, apx, ap, if_true, if_false, Nat.reduceLT, Nat.reduceAdd, Nat.reduceSub, sO, intA, boolA, strA, ren_pkA, rdA, ren_toks]); refine asemC_end ?_) | (refine wpl_region (id := 3) ?_; (refine wpl_step rfl ?_; (refine su (ap_move (rq_p rfl rfl)) ?_); refine asemC_end ?_; ((refine wpl_x [0] rfl rfl (hX) (Lend.S (by first | ((repeat' first | exact RenL.nil | refine RenL.cons (by rfl) ?_); done) | fail) (by first | ((repeat' first | exact LendO.nil | refine LendO.arr (by rfl) (by (exact (renL_pure (by simp [AV.bd, bdL, bdL_append])).symm)) ?_); done) | fail) (by decide) (by rfl) (by simp [AV.bd, bdL, bdL_append]) (by repeat' (first | exact True.intro | refine And.intro ?_ ?_ | simp [AV.bd, bdL, bdL_append]))) ?_))))))
        · exfalso; simp_all
        · exact bp_p rfl
      · trivial
theorem gp_exprs (n : Nat) : ∀ (l : List (Nat × Tx)) (e : Int), l.length ≤ n → l.length ≤ 1000000 → FnP Try.prog 70 [.ptr 0 2 0 0] [rdA l e] (pout l e exprA (pSeq (l.map (·.2)))) := by
  induction n with
  | zero =>
    intro l e hl hB
    refine gpseq_of l e hB fun l1 h1 => gpitem_of l1 e (gpprim_of l1 e (by have := h1.length_le; omega) fun l2 h2 h3 => ?_)
    have := h1.length_le; omega
  | succ n ih =>
    intro l e hl hB
    refine gpseq_of l e hB fun l1 h1 => gpitem_of l1 e (gpprim_of l1 e (by have := h1.length_le; omega) fun l2 h2 h3 => ih l2 e ?_ ?_)
    · have := h1.length_le; omega
    · have := h1.length_le; omega
theorem gpseq_fn (l : List (Nat × Tx)) (e : Int) (hB : l.length ≤ 1000000) : FnP Try.prog 70 [.ptr 0 2 0 0] [rdA l e] (pout l e exprA (pSeq (l.map (·.2)))) := gp_exprs _ l e (Nat.le_refl _) hB
end Go.Lg

namespace Go.Lg
open Go.Proofs
set_option linter.unusedSimpArgs false
set_option linter.unusedVariables false
attribute [local irreducible] Ap Rq asemC WP RunD Ret Gq thenA inBlockA bodyQ noGotoA RqL RqP OpP
set_option maxHeartbeats 4000000
set_option maxRecDepth 20000
attribute [local simp] rdA pkA tokA toks_bd
def NumW (l : List (Nat × Tx)) : Prop := ∀ p, p ∈ l → isNum p.2 = true → 0 ≤ numV p.2
theorem NumW.suf {l l' : List (Nat × Tx)} (h : NumW l) (hs : l' <:+ l) : NumW l' := fun p hp => h p (hs.subset hp)
theorem tx_eq {t : Tx} {k : ByteArray} (h : tx t = k) : t = bl k := by rw [← h]; rfl
theorem gpalt_fn (l : List (Nat × Tx)) (e : Int) (hB : l.length ≤ 1000000) (hW : NumW l) : FnP Try.prog 58 [.ptr 0 2 0 0] [rdA l e] (pout l e altA (pAlt (l.map (·.2)))) := by
  have hsq := gpseq_fn l e hB
  cases hq : pItems (l.map (·.2)) with
  | err q =>
    have hX : FnX Try.prog 70 [.ptr 0 2 0 0] [rdA l e] (synV (pos (cut l q) e)) := hsq.dies (by simp only [pSeq, hq, pout])
    have hout : pout l e altA (pAlt (l.map (·.2))) = .die (synV (pos (cut l q) e)) := by simp only [pAlt, hq, pout]
    rw [hout]
    refine FnP.intro ?_ (by kernel_rfl) Try.func58 rfl rfl Try.ntmps58 (by exact Nat.le_of_ble_eq_true rfl) ?_; rotate_left; intro Γ hm
    · (repeat' (first | refine WP.seq ?_ | refine go_n ?_ | refine go_p ?_ | (refine WP.regionC (id := 0) ?_; (refine se_alloc (by rfl) ?_); refine asemC_end ?_) | (refine wpl_region (id := 1) ?_; (refine wpl_step rfl ?_; (refine su (ap_move (rq_p rfl rfl)) ?_); refine asemC_end ?_; ((refine wpl_x [0] rfl rfl (hX) (Lend.S (by first | ((repeat' first | exact RenL.nil | refine RenL.cons (by rfl) ?_); done) | fail) (by first | ((repeat' first | exact LendO.nil | refine LendO.arr (by rfl) (by (exact (renL_pure (by simp [AV.bd, bdL, bdL_append])).symm)) ?_); done) | fail) (by decide) (by rfl) (by simp [AV.bd, bdL, bdL_append]) (by repeat' (first | exact True.intro | refine And.intro ?_ ?_ | simp [AV.bd, bdL, bdL_append]))) ?_))))))
      exact bp_p rfl
    · trivial
  | ok xs r =>
    have hr : r <:+ l.map (·.2) := by have := pItems_suf (l.map (·.2)); rw [hq] at this; exact this
    have hO : FnO Try.prog 70 [.ptr 0 2 0 0] [rdA l e] (exprA (seqOf xs)) [some (rdA (cut l r) e)] := hsq.oks (by simp only [pSeq, hq, pout])
    have hs1 := cut_suf l r
    have hm1 := cut_map hr
    generalize hl1 : cut l r = l1 at *
    have hpa : pAlt (l.map (·.2)) = match pPrice (l1.map (·.2)) with
        | .err q => .err q
        | .ok p q => .ok ⟨seqOf xs, p⟩ q := by rw [hm1]; simp only [pAlt, hq] <;> cases pPrice r <;> rfl
    by_cases hpr : hdT l1 = bl kw4
    · obtain ⟨p, l2, hl2, hp2⟩ := hdT_cons (by decide) hpr
      have hN : FnO Try.prog 55 [.ptr 0 2 0 0] [rdA l1 e] (tokA p) [some (rdA l2 e)] := by rw [hl2]; exact next_fn p l2 e
      have hs2 : l2 <:+ l := by rw [hl2] at hs1; exact (List.suffix_cons _ _).trans hs1
      have htx : tx (hdT l1) = kw4 := by rw [hpr, tx_bl]
      cases hnm : isNum (hdT l2) with
      | false =>
        have hpp : pPrice (l1.map (·.2)) = .err (l2.map (·.2)) := by
          rw [hl2, List.map_cons]
          cases l2 with
          | nil => simp only [pPrice, hp2, if_true, List.map_nil]
          | cons p2 l3 =>
            have : isNum p2.2 = false := hnm
            simp only [pPrice, hp2, if_true, List.map_cons, this, Bool.false_eq_true, if_false]
        have htk : tkNum (hdT l2) = -1 := by simp only [tkNum, hnm, Bool.false_eq_true, if_false]
        have hout : pout l e altA (pAlt (l.map (·.2))) = .die (synV (pos l2 e)) := by rw [hpa, hpp]; simp only [pout, cut_of hs2]
        rw [hout]
        refine FnP.intro ?_ (by kernel_rfl) Try.func58 rfl rfl Try.ntmps58 (by exact Nat.le_of_ble_eq_true rfl) ?_; rotate_left; intro Γ hm
        · (repeat' (first | refine WP.seq ?_ | refine go_n ?_ | refine WP.skip ?_ | refine go_p ?_ | (refine wp_cond (by rfl) (fun hc => ?_) (fun hc => ?_) <;> (try simp only [sB, ne_eq, reduceCtorEq] at hc) <;> (try (exfalso; omega))) | (refine WP.regionC (id := 0) ?_; (refine se_alloc (by rfl) ?_); refine asemC_end ?_) | (refine wpl_region (id := 1) ?_; (refine wpl_step rfl ?_; (refine su (ap_move (rq_p rfl rfl)) ?_); refine asemC_end ?_; ((refine wpl_step rfl ?_; (refine sc_o [0] rfl rfl (hO) (Lend.o1 (by rfl) (by rfl) (by (exact (renL_pure (by simp [AV.bd, bdL, bdL_append])).symm)) (by rfl) (by simp [AV.bd, bdL, bdL_append]) (by simp [AV.bd, bdL, bdL_append])) ?_; simp only [updN, newO, AObj.ren, renL, AV.ren, apx, ap, if_true, if_false, Nat.reduceLT, Nat.reduceAdd, Nat.reduceSub, sO, intA, boolA, strA, rdA, ren_toks, ren_exprA]); refine asemC_end ?_; (refine wpl_step rfl ?_; (refine su (ap_build (RqP.cons (rq_p rfl rfl) (RqP.nil)) (by rfl)) ?_); refine asemC_end ?_; (refine wpl_step rfl ?_; (refine se_alloc (by rfl) ?_); refine asemC_end ?_; (refine wpl_step rfl ?_; (refine se_store_b (by rfl) (by rfl) (by rfl) (by rfl) ?_); refine asemC_end ?_; (refine wpl_end ?_)))))))) | (refine WP.regionC (id := 2) ?_; (refine su (ap_move (rq_p rfl rfl)) ?_); (refine sc_o [0] rfl rfl (peek_fn _ _) (Lend.o1 (by rfl) (by rfl) (by (exact (renL_pure (by simp [AV.bd, bdL, bdL_append])).symm)) (by rfl) (by simp [AV.bd, bdL, bdL_append]) (by simp [AV.bd, bdL, bdL_append])) ?_; simp only [updN, newO, AObj.ren, renL, AV.ren, apx, ap, if_true, if_false, Nat.reduceLT, Nat.reduceAdd, Nat.reduceSub, sO, intA, boolA, strA, ren_pkA, rdA, ren_toks]); (refine su (ap_fieldv (rq_p rfl rfl) (by rfl)) ?_); (refine su (ap_eqs (rq_p rfl rfl) (rq_p rfl rfl)) ?_); refine asemC_end ?_) | (refine wpl_region (id := 3) ?_; (refine wpl_step rfl ?_; (refine su (ap_move (rq_p rfl rfl)) ?_); refine asemC_end ?_; ((refine wpl_step rfl ?_; (refine sc_o [0] rfl rfl (hN) (Lend.o1 (by rfl) (by rfl) (by (exact (renL_pure (by simp [AV.bd, bdL, bdL_append])).symm)) (by rfl) (by simp [AV.bd, bdL, bdL_append]) (by simp [AV.bd, bdL, bdL_append])) ?_; simp only [updN, newO, AObj.ren, renL, AV.ren, apx, ap, if_true, if_false, Nat.reduceLT, Nat.reduceAdd, Nat.reduceSub, sO, intA, boolA, strA, rdA, ren_toks]); refine asemC_end ?_; (refine wpl_end ?_))))) | (refine WP.regionC (id := 4) ?_; (refine su (ap_move (rq_p rfl rfl)) ?_); (refine sc_o [0] rfl rfl (peek_fn _ _) (Lend.o1 (by rfl) (by rfl) (by (exact (renL_pure (by simp [AV.bd, bdL, bdL_append])).symm)) (by rfl) (by simp [AV.bd, bdL, bdL_append]) (by simp [AV.bd, bdL, bdL_append])) ?_; simp only [updN, newO, AObj.ren, renL, AV.ren, apx, ap, if_true, if_false, Nat.reduceLT, Nat.reduceAdd, Nat.reduceSub, sO, intA, boolA, strA, ren_pkA, rdA, ren_toks]); (refine su (ap_fieldv (rq_p rfl rfl) (by rfl)) ?_); (refine su (ap_lss (rq_p rfl rfl) (rq_p rfl rfl)) ?_); refine asemC_end ?_) | (refine wpl_region (id := 5) ?_; (refine wpl_step rfl ?_; (refine su (ap_move (rq_p rfl rfl)) ?_); refine asemC_end ?_; ((refine wpl_x [0] rfl rfl (fail_fn l2 e) (Lend.S (by first | ((repeat' first | exact RenL.nil | refine RenL.cons (by rfl) ?_); done) | fail) (by first | ((repeat' first | exact LendO.nil | refine LendO.arr (by rfl) (by (exact (renL_pure (by simp [AV.bd, bdL, bdL_append])).symm)) ?_); done) | fail) (by decide) (by rfl) (by simp [AV.bd, bdL, bdL_append]) (by repeat' (first | exact True.intro | refine And.intro ?_ ?_ | simp [AV.bd, bdL, bdL_append]))) ?_))))))
          · exact bp_p rfl
          · exact absurd htx hc
        · trivial
      | true =>
        obtain ⟨p2, l3, hl3⟩ : ∃ p2 l3, l2 = p2 :: l3 := by
          cases l2 with
          | nil => cases hnm
          | cons p2 l3 => exact ⟨_, _, rfl⟩
        have hn2 : isNum p2.2 = true := by rw [hl3] at hnm; exact hnm
        have hN2 : FnO Try.prog 55 [.ptr 0 2 0 0] [rdA l2 e] (tokA p2) [some (rdA l3 e)] := by rw [hl3]; exact next_fn p2 l3 e
        have hpp : pPrice (l1.map (·.2)) = .ok (numV p2.2) (l3.map (·.2)) := by
          rw [hl2, hl3]
          simp only [pPrice, hp2, if_true, List.map_cons, hn2]
        have h0 : 0 ≤ numV p2.2 := hW p2 (hs2.subset (by rw [hl3]; simp)) hn2
        have htk : tkNum (hdT l2) = numV p2.2 := by rw [hl3]; show tkNum p2.2 = _; simp only [tkNum, hn2, if_true]
        have htk2 : tkNum p2.2 = numV p2.2 := by simp only [tkNum, hn2, if_true]
        have hs3 : l3 <:+ l := by rw [hl3] at hs2; exact (List.suffix_cons _ _).trans hs2
        have hout : pout l e altA (pAlt (l.map (·.2))) = .ok (altA ⟨seqOf xs, tkNum p2.2⟩) [some (rdA l3 e)] := by rw [hpa, hpp, htk2]; simp only [pout, cut_of hs3]
        rw [hout]
        refine FnP.intro ?_ (by kernel_rfl) Try.func58 rfl rfl Try.ntmps58 (by exact Nat.le_of_ble_eq_true rfl) ?_; rotate_left; intro Γ hm
        · (repeat' (first | refine WP.seq ?_ | refine go_n ?_ | refine WP.skip ?_ | refine WP.ret ?_ | (refine wp_cond (by rfl) (fun hc => ?_) (fun hc => ?_) <;> (try simp only [sB, ne_eq, reduceCtorEq] at hc) <;> (try (exfalso; omega))) | (refine WP.regionC (id := 0) ?_; (refine se_alloc (by rfl) ?_); refine asemC_end ?_) | (refine WP.regionC (id := 1) ?_; (refine su (ap_move (rq_p rfl rfl)) ?_); (refine sc_o [0] rfl rfl (hO) (Lend.o1 (by rfl) (by rfl) (by (exact (renL_pure (by simp [AV.bd, bdL, bdL_append])).symm)) (by rfl) (by simp [AV.bd, bdL, bdL_append]) (by simp [AV.bd, bdL, bdL_append])) ?_; simp only [updN, newO, AObj.ren, renL, AV.ren, apx, ap, if_true, if_false, Nat.reduceLT, Nat.reduceAdd, Nat.reduceSub, sO, intA, boolA, strA, rdA, ren_toks, ren_exprA]); (refine su (ap_build (RqP.cons (rq_p rfl rfl) (RqP.nil)) (by rfl)) ?_); (refine se_alloc (by rfl) ?_); (refine se_store_b (by rfl) (by rfl) (by rfl) (by rfl) ?_); refine asemC_end ?_) | (refine WP.regionC (id := 2) ?_; (refine su (ap_move (rq_p rfl rfl)) ?_); (refine sc_o [0] rfl rfl (peek_fn _ _) (Lend.o1 (by rfl) (by rfl) (by (exact (renL_pure (by simp [AV.bd, bdL, bdL_append])).symm)) (by rfl) (by simp [AV.bd, bdL, bdL_append]) (by simp [AV.bd, bdL, bdL_append])) ?_; simp only [updN, newO, AObj.ren, renL, AV.ren, apx, ap, if_true, if_false, Nat.reduceLT, Nat.reduceAdd, Nat.reduceSub, sO, intA, boolA, strA, ren_pkA, rdA, ren_toks]); (refine su (ap_fieldv (rq_p rfl rfl) (by rfl)) ?_); (refine su (ap_eqs (rq_p rfl rfl) (rq_p rfl rfl)) ?_); refine asemC_end ?_) | (refine WP.regionC (id := 3) ?_; (refine su (ap_move (rq_p rfl rfl)) ?_); (refine sc_o [0] rfl rfl (hN) (Lend.o1 (by rfl) (by rfl) (by (exact (renL_pure (by simp [AV.bd, bdL, bdL_append])).symm)) (by rfl) (by simp [AV.bd, bdL, bdL_append]) (by simp [AV.bd, bdL, bdL_append])) ?_; simp only [updN, newO, AObj.ren, renL, AV.ren, apx, ap, if_true, if_false, Nat.reduceLT, Nat.reduceAdd, Nat.reduceSub, sO, intA, boolA, strA, rdA, ren_toks]); refine asemC_end ?_) | (refine WP.regionC (id := 4) ?_; (refine su (ap_move (rq_p rfl rfl)) ?_); (refine sc_o [0] rfl rfl (peek_fn _ _) (Lend.o1 (by rfl) (by rfl) (by (exact (renL_pure (by simp [AV.bd, bdL, bdL_append])).symm)) (by rfl) (by simp [AV.bd, bdL, bdL_append]) (by simp [AV.bd, bdL, bdL_append])) ?_; simp only [updN, newO, AObj.ren, renL, AV.ren, apx, ap, if_true, if_false, Nat.reduceLT, Nat.reduceAdd, Nat.reduceSub, sO, intA, boolA, strA, ren_pkA, rdA, ren_toks]); (refine su (ap_fieldv (rq_p rfl rfl) (by rfl)) ?_); (refine su (ap_lss (rq_p rfl rfl) (rq_p rfl rfl)) ?_); refine asemC_end ?_) | (refine WP.regionC (id := 6) ?_; (refine su (ap_move (rq_p rfl rfl)) ?_); (refine sc_o [0] rfl rfl (hN2) (Lend.o1 (by rfl) (by rfl) (by (exact (renL_pure (by simp [AV.bd, bdL, bdL_append])).symm)) (by rfl) (by simp [AV.bd, bdL, bdL_append]) (by simp [AV.bd, bdL, bdL_append])) ?_; simp only [updN, newO, AObj.ren, renL, AV.ren, apx, ap, if_true, if_false, Nat.reduceLT, Nat.reduceAdd, Nat.reduceSub, sO, intA, boolA, strA, rdA, ren_toks]); (refine su (ap_fieldv (rq_p rfl rfl) (by rfl)) ?_); (refine su (ap_field_p (rq_p rfl rfl) (by rfl) (by rfl)) ?_); (refine se_store_b (by rfl) (by rfl) (by rfl) (by rfl) ?_); refine asemC_end ?_) | (refine WP.regionC (id := 7) ?_; (refine su (ap_load_pw (rq_p rfl rfl) (by rfl) (by rfl) (by rfl)) ?_); (refine se_store_b (by rfl) (by rfl) (by rfl) (by rfl) ?_); refine asemC_end ?_)))
          · refine bp_r rfl ?_
            refine retO_L (x := altA ⟨seqOf xs, tkNum p2.2⟩) (k := 1) (os1 := [(0, some (rdA l3 e))]) (.cellT (by rfl) (by rfl) (by rfl) (by rfl) .nil) (by rfl) ⟨[0], ToR.S rfl (by repeat' (first | exact rt_nil | refine rt_p (by rfl) (by rfl) (by first | (simp [AV.bd, bdL, bdL_append]; done) | fail) ?_)) (by repeat' (first | exact ro_nil | refine ro_p (by rfl) (by first | exact rfl | fail) (by first | (simp [bdL, bdL_append, AV.bd]; done) | fail) ?_)) (by rfl) (by rfl) (by rfl) (by (simp [bdT, AV.bd, bdL, bdL_append]; done)) (by repeat' (first | exact True.intro | refine And.intro ?_ ?_ | (simp [bdOq, bdL, bdL_append, AV.bd]; done))) (by exact Nat.le_of_ble_eq_true rfl)⟩ (by rfl)
          · exact absurd htx hc
        · exact ⟨Nat.le_refl _, bd_altA 1 _⟩
    · have hpp : pPrice (l1.map (·.2)) = .ok 0 (l1.map (·.2)) := by
        cases l1 with
        | nil => rfl
        | cons p l2 => have h' : ¬ p.2 = bl kw4 := hpr; simp only [pPrice, List.map_cons, if_neg h']
      have hout : pout l e altA (pAlt (l.map (·.2))) = .ok (altA ⟨seqOf xs, 0⟩) [some (rdA l1 e)] := by rw [hpa, hpp]; simp only [pout, cut_of hs1]
      rw [hout]
      refine FnP.intro ?_ (by kernel_rfl) Try.func58 rfl rfl Try.ntmps58 (by exact Nat.le_of_ble_eq_true rfl) ?_; rotate_left; intro Γ hm
      · (repeat' (first | refine WP.seq ?_ | refine go_n ?_ | refine WP.skip ?_ | refine WP.ret ?_ | (refine wp_cond (by rfl) (fun hc => ?_) (fun hc => ?_) <;> (try simp only [sB, ne_eq, reduceCtorEq] at hc) <;> (try (exfalso; omega))) | (refine WP.regionC (id := 0) ?_; (refine se_alloc (by rfl) ?_); refine asemC_end ?_) | (refine WP.regionC (id := 1) ?_; (refine su (ap_move (rq_p rfl rfl)) ?_); (refine sc_o [0] rfl rfl (hO) (Lend.o1 (by rfl) (by rfl) (by (exact (renL_pure (by simp [AV.bd, bdL, bdL_append])).symm)) (by rfl) (by simp [AV.bd, bdL, bdL_append]) (by simp [AV.bd, bdL, bdL_append])) ?_; simp only [updN, newO, AObj.ren, renL, AV.ren, apx, ap, if_true, if_false, Nat.reduceLT, Nat.reduceAdd, Nat.reduceSub, sO, intA, boolA, strA, rdA, ren_toks, ren_exprA]); (refine su (ap_build (RqP.cons (rq_p rfl rfl) (RqP.nil)) (by rfl)) ?_); (refine se_alloc (by rfl) ?_); (refine se_store_b (by rfl) (by rfl) (by rfl) (by rfl) ?_); refine asemC_end ?_) | (refine WP.regionC (id := 2) ?_; (refine su (ap_move (rq_p rfl rfl)) ?_); (refine sc_o [0] rfl rfl (peek_fn _ _) (Lend.o1 (by rfl) (by rfl) (by (exact (renL_pure (by simp [AV.bd, bdL, bdL_append])).symm)) (by rfl) (by simp [AV.bd, bdL, bdL_append]) (by simp [AV.bd, bdL, bdL_append])) ?_; simp only [updN, newO, AObj.ren, renL, AV.ren, apx, ap, if_true, if_false, Nat.reduceLT, Nat.reduceAdd, Nat.reduceSub, sO, intA, boolA, strA, ren_pkA, rdA, ren_toks]); (refine su (ap_fieldv (rq_p rfl rfl) (by rfl)) ?_); (refine su (ap_eqs (rq_p rfl rfl) (rq_p rfl rfl)) ?_); refine asemC_end ?_) | (refine WP.regionC (id := 7) ?_; (refine su (ap_load_pw (rq_p rfl rfl) (by rfl) (by rfl) (by rfl)) ?_); (refine se_store_b (by rfl) (by rfl) (by rfl) (by rfl) ?_); refine asemC_end ?_)))
        · exact absurd (tx_eq hc) hpr
        · refine bp_r rfl ?_
          refine retO_L (x := altA ⟨seqOf xs, 0⟩) (k := 1) (os1 := [(0, some (rdA l1 e))]) (.cellT (by rfl) (by rfl) (by rfl) (by rfl) .nil) (by rfl) ⟨[0], ToR.S rfl (by repeat' (first | exact rt_nil | refine rt_p (by rfl) (by rfl) (by first | (simp [AV.bd, bdL, bdL_append]; done) | fail) ?_)) (by repeat' (first | exact ro_nil | refine ro_p (by rfl) (by first | exact rfl | fail) (by first | (simp [bdL, bdL_append, AV.bd]; done) | fail) ?_)) (by rfl) (by rfl) (by rfl) (by (simp [bdT, AV.bd, bdL, bdL_append]; done)) (by repeat' (first | exact True.intro | refine And.intro ?_ ?_ | (simp [bdOq, bdL, bdL_append, AV.bd]; done))) (by exact Nat.le_of_ble_eq_true rfl)⟩ (by rfl)
      · exact ⟨Nat.le_refl _, bd_altA 1 _⟩
end Go.Lg

namespace Go.Lg
open Go.Proofs
set_option linter.unusedSimpArgs false
set_option linter.unusedVariables false
attribute [local irreducible] Ap Rq asemC WP RunD Ret Gq thenA inBlockA bodyQ noGotoA RqL RqP OpP
set_option maxHeartbeats 8000000
set_option maxRecDepth 20000
structure At (s : ByteArray) (l : List (Nat × Tx)) : Prop where
  sz : s.size ≤ 100000
  at_ : ∃ k, k ≤ s.size ∧ l = lexL ((bl s).drop k) k
theorem lexL_cons_at (s : ByteArray) (n : Nat) : ∀ k, k ≤ s.size → s.size - k ≤ n → ∀ p l, lexL ((bl s).drop k) k = p :: l → p.1 + p.2.length ≤ s.size ∧ s.extract p.1 (p.1 + p.2.length) = tx p.2 ∧ l = lexL ((bl s).drop (p.1 + p.2.length)) (p.1 + p.2.length) ∧ p.2 ≠ [] ∧ k ≤ p.1 := by
  induction n with
  | zero =>
    intro k hk hn p l h
    rw [List.drop_eq_nil_of_le (by rw [bl_len]; omega), lexL_nil] at h
    cases h
  | succ n ih =>
    intro k hk hn p l h
    by_cases hlt : k < s.size
    · obtain ⟨c, r, hd, hb, hr⟩ := bat_cons hlt
      rw [hd, lexL_cons] at h
      split at h
      · rw [hr] at h
        have := ih (k + 1) (by omega) (by omega) p l h
        exact ⟨this.1, this.2.1, this.2.2.1, this.2.2.2.1, by omega⟩
      · split at h
        · have hdr : r.drop (comN r) = (bl s).drop (k + 1 + comN r) := by rw [hr, List.drop_drop]
          have hcl := comN_le r
          have hrl : r.length = s.size - (k + 1) := by rw [hr, List.length_drop, bl_len]
          rw [hdr] at h
          have := ih (k + 1 + comN r) (by omega) (by omega) p l h
          exact ⟨this.1, this.2.1, this.2.2.1, this.2.2.2.1, by omega⟩
        · injection h with h1 h2
          subst h1 h2
          have htl : ((c :: r).take (tokN (c :: r))).length = tokN (c :: r) := by rw [List.length_take]; have := tokN_le (c :: r); omega
          have hle := tokN_le (c :: r)
          have hcl : (c :: r).length = s.size - k := by rw [← hd, List.length_drop, bl_len]
          have htp := tokN_pos c r
          refine ⟨by simp only; omega, ?_, ?_, ?_, Nat.le_refl _⟩
          · simp only
            rw [extract_tx, hd, htl, show k + tokN (c :: r) - k = tokN (c :: r) by omega]
          · simp only
            rw [htl, drop_add hd]
          · intro e
            have := congrArg List.length e
            simp only at this
            rw [htl] at this
            simp at this
            omega
    · rw [List.drop_eq_nil_of_le (by rw [bl_len]; omega), lexL_nil] at h
      cases h
theorem At.cons {s : ByteArray} {p : Nat × Tx} {l : List (Nat × Tx)} (h : At s (p :: l)) : p.1 + p.2.length ≤ s.size ∧ s.extract p.1 (p.1 + p.2.length) = tx p.2 ∧ l = lexL ((bl s).drop (p.1 + p.2.length)) (p.1 + p.2.length) ∧ p.2 ≠ [] := by
  obtain ⟨_, k, hk, he⟩ := h
  have := lexL_cons_at s _ k hk (Nat.le_refl _) p l he.symm
  exact ⟨this.1, this.2.1, this.2.2.1, this.2.2.2.1⟩
theorem At.tail {s : ByteArray} {p : Nat × Tx} {l : List (Nat × Tx)} (h : At s (p :: l)) : At s l := ⟨h.sz, _, h.cons.1, h.cons.2.2.1⟩
theorem At.suf {s : ByteArray} : ∀ {l l' : List (Nat × Tx)}, At s l → l' <:+ l → At s l'
  | [], l', h, hs => by rw [List.suffix_nil.1 hs]; exact h
  | p :: l, l', h, hs => by
    rcases List.suffix_cons_iff.1 hs with rfl | hs
    · exact h
    · exact At.suf h.tail hs
def posN (s : ByteArray) (l : List (Nat × Tx)) : Nat := match l with
  | [] => s.size
  | p :: _ => p.1
def psA (s : ByteArray) (l : List (Nat × Tx)) (b : Bool) : AObj := psR s (posN s l) ((hdT l).length) b
theorem At.text {s : ByteArray} {l : List (Nat × Tx)} (h : At s l) : posN s l + (hdT l).length ≤ s.size ∧ s.extract (posN s l) (posN s l + (hdT l).length) = tx (hdT l) := by
  cases l with
  | nil =>
    refine ⟨Nat.le_refl _, ?_⟩
    rw [extract_tx]
    simp [posN, hdT, hd]
  | cons p l => exact ⟨h.cons.1, h.cons.2.1⟩
theorem txt17 {s : ByteArray} {l : List (Nat × Tx)} (h : At s l) (b : Bool) : FnO Try.prog 34 [.ptr 0 4 0 0] [psA s l b] (strA (tx (hdT l))) [some (psA s l b)] := by
  rw [← h.text.2]
  exact text17_fn s h.sz _ _ h.text.1 b
theorem adv17 {s : ByteArray} {p : Nat × Tx} {l : List (Nat × Tx)} (h : At s (p :: l)) (b : Bool) : FnO Try.prog 25 [.ptr 0 4 0 0] [psA s (p :: l) b] (.tup []) [some (psA s l b)] := by
  have h1 := advance_fn s h.sz p.1 p.2.length h.cons.1 b
  have e1 : nxA s (p.1 + p.2.length) = posN s l := by unfold nxA; rw [← h.cons.2.2.1]; cases l <;> rfl
  have e2 : nxN s (p.1 + p.2.length) = (hdT l).length := by unfold nxN; rw [← h.cons.2.2.1]; cases l <;> rfl
  rw [e1, e2] at h1
  exact h1
theorem is17_fn {s : ByteArray} {l : List (Nat × Tx)} (h : At s l) (t : ByteArray) (b : Bool) : FnO Try.prog 28 [.ptr 0 4 0 0, strA t] [psA s l b] (boolA (!b && decide (tx (hdT l) = t))) [some (psA s l b)] := by
  unfold psA psR
  refine FnO.intro (by exact Nat.le_of_ble_eq_true rfl) (by rfl) (by kernel_rfl) Try.func28 rfl rfl Try.ntmps28 (by exact Nat.le_of_ble_eq_true rfl) ?_; intro Γ hm
  cases b with
  | true =>
    (repeat' (first | refine WP.seq ?_ | refine go_n ?_ | refine WP.ret ?_ | refine bo_r ?_ | (refine WP.regionC (id := 0) ?_; (refine su (ap_assign (rq_p rfl rfl)) ?_); refine asemC_end ?_) | (refine WP.regionC (id := 1) ?_ <;> (refine su (ap_move (rq_p rfl rfl)) ?_) <;> (refine su (ap_nilc (rq_p rfl rfl)) ?_) <;> (refine su (ap_field_p (rq_p rfl rfl) (by rfl) (by rfl)) ?_) <;> (refine su (ap_load_p (rq_p rfl rfl) (by rfl) (by rfl) (by rfl)) ?_) <;> (refine su (ap_not (rq_p rfl rfl)) ?_) <;> (refine su (ap_move (rq_p rfl rfl)) ?_) <;> (first | refine sg (x := .val (.bool true)) (gq_vt rfl rfl) (fun he => absurd he (by first | decide | fail)) ?_ | fail) <;> (first | refine sg (x := .val (.bool true)) (gq_vt rfl rfl) (fun he => absurd he (by first | decide | fail)) ?_ | fail) <;> (first | refine sg (x := .val (.bool true)) (gq_vt rfl rfl) (fun he => absurd he (by first | decide | fail)) ?_ | fail) <;> (first | refine sg (x := .val (.bool true)) (gq_vt rfl rfl) (fun he => absurd he (by first | decide | fail)) ?_ | fail) <;> (refine su (ap_and (rq_p rfl rfl) (rq_c rfl rfl)) ?_) <;> (refine su (ap_assign (rq_p rfl rfl)) ?_) <;> refine asemC_end ?_)))
    refine retO_L (x := boolA (!true && decide (tx (hdT l) = t))) (k := 1) (os1 := [(0, some (psR s (posN s l) ((hdT l).length) true))]) (.tmp (by rfl) .nil) (by rfl) ⟨[0], ToR.S rfl (by repeat' (first | exact rt_nil | refine rt_e (by rfl) (by rfl) ?_)) (by repeat' (first | exact ro_nil | refine ro_e (by rfl) (by rfl) ?_)) (by rfl) (by rfl) (by rfl) (by (simp [bdT, AV.bd, bdL, bdL_append]; done)) (by repeat' (first | exact True.intro | exact rfl | refine And.intro ?_ ?_)) (by exact Nat.le_of_ble_eq_true rfl)⟩ (by rfl)
  | false =>
    (repeat' (first | refine WP.seq ?_ | refine go_n ?_ | refine WP.ret ?_ | refine bo_r ?_ | (refine WP.regionC (id := 0) ?_; (refine su (ap_assign (rq_p rfl rfl)) ?_); refine asemC_end ?_) | (refine WP.regionC (id := 1) ?_ <;> (refine su (ap_move (rq_p rfl rfl)) ?_) <;> (refine su (ap_nilc (rq_p rfl rfl)) ?_) <;> (refine su (ap_field_p (rq_p rfl rfl) (by rfl) (by rfl)) ?_) <;> (refine su (ap_load_p (rq_p rfl rfl) (by rfl) (by rfl) (by rfl)) ?_) <;> (refine su (ap_not (rq_p rfl rfl)) ?_) <;> (refine su (ap_move (rq_p rfl rfl)) ?_) <;> (first | refine sgt_u rfl (by rfl) (by rfl) (by rfl) rfl (ap_move (rq_p rfl rfl)) ?_ | fail) <;> (first | refine sgt_o [0] rfl (by rfl) (by rfl) rfl rfl (txt17 (by assumption) _) (Lend.S (by first | ((repeat' first | exact RenL.nil | refine RenL.cons (by rfl) ?_); done) | fail) (by first | ((repeat' first | exact LendO.nil | refine LendO.arr (by rfl) (by rfl) ?_); done) | fail) (by decide) (by rfl) (by simp [AV.bd, bdL, bdL_append]) (by repeat' (first | exact True.intro | refine And.intro ?_ ?_ | simp [AV.bd, bdL, bdL_append]))) ?_; simp only [updN, newO, AObj.ren, renL, AV.ren, apx, ap, if_true, if_false, Nat.reduceLT, Nat.reduceAdd, Nat.reduceSub, sO, intA, boolA, strA, psA, psR] | fail) <;> (first | refine sgt_u rfl (by rfl) (by rfl) (by rfl) rfl (ap_move (rq_p rfl rfl)) ?_ | fail) <;> (first | refine sgt_u rfl (by rfl) (by rfl) (by rfl) rfl (ap_eqs (rq_p rfl rfl) (rq_p rfl rfl)) ?_ | fail) <;> (refine su (ap_and (rq_p rfl rfl) (rq_p rfl rfl)) ?_) <;> (refine su (ap_assign (rq_p rfl rfl)) ?_) <;> refine asemC_end ?_)))
    refine retO_L (x := boolA (!false && decide (tx (hdT l) = t))) (k := 1) (os1 := [(0, some (psR s (posN s l) ((hdT l).length) false))]) (.tmp (by rfl) .nil) (by rfl) ⟨[0], ToR.S rfl (by repeat' (first | exact rt_nil | refine rt_e (by rfl) (by rfl) ?_)) (by repeat' (first | exact ro_nil | refine ro_e (by rfl) (by rfl) ?_)) (by rfl) (by rfl) (by rfl) (by (simp [bdT, AV.bd, bdL, bdL_append]; done)) (by repeat' (first | exact True.intro | exact rfl | refine And.intro ?_ ?_)) (by exact Nat.le_of_ble_eq_true rfl)⟩ (by rfl)
theorem tx_nil : tx [] = (⟨#[]⟩ : ByteArray) := rfl
attribute [local simp] tx_nil
theorem nm17 (b : Bool) (l : List (Nat × Tx)) : (!b && !decide (tx (hdT l) = (⟨#[]⟩ : ByteArray)) && letB (bAt (tx (hdT l)) 0) && !decide (tx (hdT l) = (⟨#[115, 116, 97, 114, 116]⟩ : ByteArray)) && !decide (tx (hdT l) = (⟨#[108, 101, 102, 116]⟩ : ByteArray)) && !decide (tx (hdT l) = (⟨#[114, 105, 103, 104, 116]⟩ : ByteArray)) && !decide (tx (hdT l) = (⟨#[110, 111, 110, 101]⟩ : ByteArray)) && !decide (tx (hdT l) = (⟨#[112, 114, 105, 99, 101]⟩ : ByteArray))) = (!b && isN (l.map (·.2))) := by
  rw [← nm_hd]
  have h1 : tkW (hdT l) = (!decide (tx (hdT l) = (⟨#[]⟩ : ByteArray)) && letB (bAt (tx (hdT l)) 0)) := by
    cases hq : hdT l with
    | nil => rfl
    | cons c t =>
      have : ¬ tx (c :: t) = (⟨#[]⟩ : ByteArray) := fun e => by have := tx_inj (e.trans (tx_nil.symm)); cases this
      simp only [this, decide_false, Bool.not_false, Bool.true_and]
      rfl
  rw [h1]
  simp only [kwB, kws, kw0, kw1, kw2, kw3, kw4, List.any_cons, List.any_nil, Bool.or_false, Bool.not_or, Bool.and_assoc]
theorem isname17_fn {s : ByteArray} {l : List (Nat × Tx)} (h : At s l) (b : Bool) : FnO Try.prog 30 [.ptr 0 4 0 0] [psA s l b] (boolA (!b && isN (l.map (·.2)))) [some (psA s l b)] := by
  unfold psA psR
  cases hq : hdT l with
  | nil =>
    rw [← hq]
    refine FnO.intro (by exact Nat.le_of_ble_eq_true rfl) (by rfl) (by kernel_rfl) Try.func30 rfl rfl Try.ntmps30 (by exact Nat.le_of_ble_eq_true rfl) ?_; intro Γ hm
    (repeat' (first | refine WP.seq ?_ | refine go_n ?_ | refine WP.ret ?_ | refine bo_r ?_ | (refine WP.regionC (id := 0) ?_; (refine su (ap_assign (rq_p rfl rfl)) ?_); refine asemC_end ?_) | (refine WP.regionC (id := 1) ?_; (refine su (ap_move (rq_p rfl rfl)) ?_); (refine sc_o [0] rfl rfl (txt17 (by assumption) _) (Lend.o1 (by rfl) (by rfl) (by rfl) (by rfl) (by simp [AV.bd, bdL, bdL_append]) (by simp [AV.bd, bdL, bdL_append])) ?_; simp only [updN, newO, AObj.ren, renL, AV.ren, apx, ap, if_true, if_false, Nat.reduceLT, Nat.reduceAdd, Nat.reduceSub, sO, intA, boolA, strA, psA, psR]); (refine su (ap_assign (rq_p rfl rfl)) ?_); refine asemC_end ?_) | (refine WP.regionC (id := 2) ?_; (refine su (ap_move (rq_p rfl rfl)) ?_); (refine su (ap_nilc (rq_p rfl rfl)) ?_); (refine su (ap_field_p (rq_p rfl rfl) (by rfl) (by rfl)) ?_); (refine su (ap_load_p (rq_p rfl rfl) (by rfl) (by rfl) (by rfl)) ?_); (refine su (ap_not (rq_p rfl rfl)) ?_); (refine su (ap_move (rq_p rfl rfl)) ?_); (refine sg (gq_vt rfl rfl) (fun he => ap_move (rq_p rfl rfl)) ?_); (refine sg (gq_vt rfl rfl) (fun he => ap_nes (rq_c rfl rfl) (rq_p rfl rfl)) ?_); (refine su (ap_and (rq_p rfl rfl) (rq_c rfl rfl)) ?_); (refine su (ap_move (rq_p rfl rfl)) ?_); (refine sg (gq_vt rfl rfl) (fun he => ap_move (rq_p rfl rfl)) ?_); (refine sg (gq_vt rfl rfl) (fun he => ap_sidx_n (rq_c rfl rfl) (rq_p rfl rfl) (by rfl) (by (try simp only [sH, id, sB, ne_eq, reduceCtorEq] at he); (exfalso; simp [*] at he; done))) ?_); (refine sg_p (gq_vt rfl rfl) (fun he => ⟨(rq_p rfl rfl), (RqL.cons (rq_c rfl rfl) (RqL.nil)), (by first | ((repeat' first | exact SubL.nil | refine SubL.cons ?_ ?_ | exact Sub.refl); done) | fail), (by first | (simp [bdL, bdL_append, AV.bd]; done) | fail), rletter17_fn _⟩) ?_); (refine su (ap_and (rq_p rfl rfl) (rq_c rfl rfl)) ?_); (refine su (ap_move (rq_p rfl rfl)) ?_); (refine sg (gq_vt rfl rfl) (fun he => ap_move (rq_p rfl rfl)) ?_); (refine sg (gq_vt rfl rfl) (fun he => ap_nes (rq_c rfl rfl) (rq_p rfl rfl)) ?_); (refine su (ap_and (rq_p rfl rfl) (rq_c rfl rfl)) ?_); (refine su (ap_move (rq_p rfl rfl)) ?_); (refine sg (gq_vt rfl rfl) (fun he => ap_move (rq_p rfl rfl)) ?_); (refine sg (gq_vt rfl rfl) (fun he => ap_nes (rq_c rfl rfl) (rq_p rfl rfl)) ?_); (refine su (ap_and (rq_p rfl rfl) (rq_c rfl rfl)) ?_); (refine su (ap_move (rq_p rfl rfl)) ?_); (refine sg (gq_vt rfl rfl) (fun he => ap_move (rq_p rfl rfl)) ?_); (refine sg (gq_vt rfl rfl) (fun he => ap_nes (rq_c rfl rfl) (rq_p rfl rfl)) ?_); (refine su (ap_and (rq_p rfl rfl) (rq_c rfl rfl)) ?_); (refine su (ap_move (rq_p rfl rfl)) ?_); (refine sg (gq_vt rfl rfl) (fun he => ap_move (rq_p rfl rfl)) ?_); (refine sg (gq_vt rfl rfl) (fun he => ap_nes (rq_c rfl rfl) (rq_p rfl rfl)) ?_); (refine su (ap_and (rq_p rfl rfl) (rq_c rfl rfl)) ?_); (refine su (ap_move (rq_p rfl rfl)) ?_); (refine sg (gq_vt rfl rfl) (fun he => ap_move (rq_p rfl rfl)) ?_); (refine sg (gq_vt rfl rfl) (fun he => ap_nes (rq_c rfl rfl) (rq_p rfl rfl)) ?_); (refine su (ap_and (rq_p rfl rfl) (rq_c rfl rfl)) ?_); (refine su (ap_assign (rq_p rfl rfl)) ?_); refine asemC_end ?_)))
    rw [nm17]
    refine retO_L (x := boolA (!b && isN (l.map (·.2)))) (k := 1) (os1 := [(0, some (psR s (posN s l) ((hdT l).length) b))]) (.tmp (by rfl) .nil) (by rfl) ⟨[0], ToR.S rfl (by repeat' (first | exact rt_nil | refine rt_e (by rfl) (by rfl) ?_)) (by repeat' (first | exact ro_nil | refine ro_e (by rfl) (by rfl) ?_)) (by rfl) (by rfl) (by rfl) (by (simp [bdT, AV.bd, bdL, bdL_append]; done)) (by repeat' (first | exact True.intro | exact rfl | refine And.intro ?_ ?_)) (by exact Nat.le_of_ble_eq_true rfl)⟩ (by rfl)
  | cons c t =>
    have hsz : (tx (hdT l)).size = t.length + 1 := by rw [hq]; rfl
    rw [← hq]
    refine FnO.intro (by exact Nat.le_of_ble_eq_true rfl) (by rfl) (by kernel_rfl) Try.func30 rfl rfl Try.ntmps30 (by exact Nat.le_of_ble_eq_true rfl) ?_; intro Γ hm
    (repeat' (first | refine WP.seq ?_ | refine go_n ?_ | refine WP.ret ?_ | refine bo_r ?_ | (refine WP.regionC (id := 0) ?_; (refine su (ap_assign (rq_p rfl rfl)) ?_); refine asemC_end ?_) | (refine WP.regionC (id := 1) ?_; (refine su (ap_move (rq_p rfl rfl)) ?_); (refine sc_o [0] rfl rfl (txt17 (by assumption) _) (Lend.o1 (by rfl) (by rfl) (by rfl) (by rfl) (by simp [AV.bd, bdL, bdL_append]) (by simp [AV.bd, bdL, bdL_append])) ?_; simp only [updN, newO, AObj.ren, renL, AV.ren, apx, ap, if_true, if_false, Nat.reduceLT, Nat.reduceAdd, Nat.reduceSub, sO, intA, boolA, strA, psA, psR]); (refine su (ap_assign (rq_p rfl rfl)) ?_); refine asemC_end ?_) | (refine WP.regionC (id := 2) ?_; (refine su (ap_move (rq_p rfl rfl)) ?_); (refine su (ap_nilc (rq_p rfl rfl)) ?_); (refine su (ap_field_p (rq_p rfl rfl) (by rfl) (by rfl)) ?_); (refine su (ap_load_p (rq_p rfl rfl) (by rfl) (by rfl) (by rfl)) ?_); (refine su (ap_not (rq_p rfl rfl)) ?_); (refine su (ap_move (rq_p rfl rfl)) ?_); (refine sg (gq_vt rfl rfl) (fun he => ap_move (rq_p rfl rfl)) ?_); (refine sg (gq_vt rfl rfl) (fun he => ap_nes (rq_c rfl rfl) (rq_p rfl rfl)) ?_); (refine su (ap_and (rq_p rfl rfl) (rq_c rfl rfl)) ?_); (refine su (ap_move (rq_p rfl rfl)) ?_); (refine sg (gq_vt rfl rfl) (fun he => ap_move (rq_p rfl rfl)) ?_); (refine sg (gq_vt rfl rfl) (fun he => ap_sidx_n (rq_c rfl rfl) (rq_p rfl rfl) (by rfl) (by (try simp only [sH, id, sB, ne_eq, reduceCtorEq] at he); (simp only [sL] <;> omega))) ?_); (refine sg_p (gq_vt rfl rfl) (fun he => ⟨(rq_p rfl rfl), (RqL.cons (rq_c rfl rfl) (RqL.nil)), (by first | ((repeat' first | exact SubL.nil | refine SubL.cons ?_ ?_ | exact Sub.refl); done) | fail), (by first | (simp [bdL, bdL_append, AV.bd]; done) | fail), rletter17_fn _⟩) ?_); (refine su (ap_and (rq_p rfl rfl) (rq_c rfl rfl)) ?_); (refine su (ap_move (rq_p rfl rfl)) ?_); (refine sg (gq_vt rfl rfl) (fun he => ap_move (rq_p rfl rfl)) ?_); (refine sg (gq_vt rfl rfl) (fun he => ap_nes (rq_c rfl rfl) (rq_p rfl rfl)) ?_); (refine su (ap_and (rq_p rfl rfl) (rq_c rfl rfl)) ?_); (refine su (ap_move (rq_p rfl rfl)) ?_); (refine sg (gq_vt rfl rfl) (fun he => ap_move (rq_p rfl rfl)) ?_); (refine sg (gq_vt rfl rfl) (fun he => ap_nes (rq_c rfl rfl) (rq_p rfl rfl)) ?_); (refine su (ap_and (rq_p rfl rfl) (rq_c rfl rfl)) ?_); (refine su (ap_move (rq_p rfl rfl)) ?_); (refine sg (gq_vt rfl rfl) (fun he => ap_move (rq_p rfl rfl)) ?_); (refine sg (gq_vt rfl rfl) (fun he => ap_nes (rq_c rfl rfl) (rq_p rfl rfl)) ?_); (refine su (ap_and (rq_p rfl rfl) (rq_c rfl rfl)) ?_); (refine su (ap_move (rq_p rfl rfl)) ?_); (refine sg (gq_vt rfl rfl) (fun he => ap_move (rq_p rfl rfl)) ?_); (refine sg (gq_vt rfl rfl) (fun he => ap_nes (rq_c rfl rfl) (rq_p rfl rfl)) ?_); (refine su (ap_and (rq_p rfl rfl) (rq_c rfl rfl)) ?_); (refine su (ap_move (rq_p rfl rfl)) ?_); (refine sg (gq_vt rfl rfl) (fun he => ap_move (rq_p rfl rfl)) ?_); (refine sg (gq_vt rfl rfl) (fun he => ap_nes (rq_c rfl rfl) (rq_p rfl rfl)) ?_); (refine su (ap_and (rq_p rfl rfl) (rq_c rfl rfl)) ?_); (refine su (ap_assign (rq_p rfl rfl)) ?_); refine asemC_end ?_)))
    rw [nm17]
    refine retO_L (x := boolA (!b && isN (l.map (·.2)))) (k := 1) (os1 := [(0, some (psR s (posN s l) ((hdT l).length) b))]) (.tmp (by rfl) .nil) (by rfl) ⟨[0], ToR.S rfl (by repeat' (first | exact rt_nil | refine rt_e (by rfl) (by rfl) ?_)) (by repeat' (first | exact ro_nil | refine ro_e (by rfl) (by rfl) ?_)) (by rfl) (by rfl) (by rfl) (by (simp [bdT, AV.bd, bdL, bdL_append]; done)) (by repeat' (first | exact True.intro | exact rfl | refine And.intro ?_ ?_)) (by exact Nat.le_of_ble_eq_true rfl)⟩ (by rfl)
def Out17 {α : Type} (b : Bool) (p : PR α) (l l2 : List (Nat × Tx)) (y : α) (b2 : Bool) : Prop := l2 <:+ l ∧ (b = true → b2 = true ∧ l2 = l) ∧ (b = false → b2 = false → p = .ok y (l2.map (·.2))) ∧ (b = false → b2 = true → p = .err (l2.map (·.2)))
def post17 {α : Type} (F : α → AV) (s : ByteArray) (b : Bool) (p : PR α) (l : List (Nat × Tx)) : AV → List AObj → Prop := fun r os => ∃ y l2 b2, r = F y ∧ os = [psA s l2 b2] ∧ Out17 b p l l2 y b2
theorem take17_fn {s : ByteArray} {l : List (Nat × Tx)} (h : At s l) (t : ByteArray) (ht : bl t ≠ []) (b : Bool) : FnM Try.prog 26 [.ptr 0 4 0 0, strA t] [psA s l b] (post17 (fun _ => .tup []) s b (pTake (bl t) (l.map (·.2))) l) := by
  cases hb : (!b && decide (tx (hdT l) = t)) with
  | false =>
    unfold psA psR
    refine FnM.intro (by kernel_rfl) Try.func26 rfl rfl Try.ntmps26 (by exact Nat.le_of_ble_eq_true rfl) ?_; intro Γ hm
    (repeat' (first | refine WP.seq ?_ | refine go_n ?_ | refine WP.skip ?_ | refine WP.ret ?_ | refine go_r ?_ | refine bo_r ?_ | (refine wp_cond (by rfl) (fun hc => ?_) (fun hc => ?_) <;> (try simp only [sB, ne_eq, reduceCtorEq] at hc) <;> (try (exfalso; omega))) | (refine WP.regionC (id := 0) ?_; (refine su (ap_move (rq_p rfl rfl)) ?_); (refine su (ap_move (rq_p rfl rfl)) ?_); (refine sc_o [0] rfl rfl (is17_fn (by assumption) _ _) (Lend.o1 (by rfl) (by rfl) (by rfl) (by rfl) (by simp [AV.bd, bdL, bdL_append]) (by simp [AV.bd, bdL, bdL_append])) ?_; simp only [updN, newO, AObj.ren, renL, AV.ren, apx, ap, if_true, if_false, Nat.reduceLT, Nat.reduceAdd, Nat.reduceSub, sO, intA, boolA, strA, psA, psR]); (refine su (ap_not (rq_p rfl rfl)) ?_); refine asemC_end ?_) | (refine WP.regionC (id := 1) ?_; (refine su (ap_move (rq_p rfl rfl)) ?_); (refine su (ap_nilc (rq_p rfl rfl)) ?_); (refine su (ap_field_p (rq_p rfl rfl) (by rfl) (by rfl)) ?_); (refine se_store_b (by rfl) (by rfl) (by rfl) (by rfl) ?_); refine asemC_end ?_)))
    · refine retM_L (x := .tup []) (os1 := [(0, some (psA s l true))]) [psA s l true] .nil (by rfl) (by rfl) ⟨[0], ToR.S rfl (by repeat' (exact rt_nil)) (by repeat' (first | exact ro_nil | refine ro_e (by rfl) (by rfl) ?_)) (by rfl) (by rfl) (by rfl) (by (simp [bdT, AV.bd, bdL, bdL_append]; done)) (by repeat' (first | exact True.intro | exact rfl | refine And.intro ?_ ?_)) (by exact Nat.le_of_ble_eq_true rfl)⟩ (by rfl) ?_
      refine ⟨(), l, true, rfl, rfl, List.suffix_refl _, fun _ => ⟨rfl, rfl⟩, fun _ q => (by cases q), fun hb0 _ => pTake_bad ht ?_⟩
      intro q
      have : tx (hdT l) = t := by unfold hdT; rw [q, tx_bl]
      simp [hb0, this] at hb
    · exfalso; simp [hc.1, hc.2] at hb
  | true =>
    simp only [Bool.and_eq_true, Bool.not_eq_true', decide_eq_true_eq] at hb
    obtain ⟨p, l2, hl, hp⟩ := hdT_cons ht (tx_eq hb.2)
    have hO : FnO Try.prog 25 [.ptr 0 4 0 0] [psA s l b] (.tup []) [some (psA s l2 b)] := by rw [hl]; exact adv17 (hl ▸ h) b
    unfold psA psR
    refine FnM.intro (by kernel_rfl) Try.func26 rfl rfl Try.ntmps26 (by exact Nat.le_of_ble_eq_true rfl) ?_; intro Γ hm
    (repeat' (first | refine WP.seq ?_ | refine go_n ?_ | refine WP.skip ?_ | refine bo_n ?_ | (refine wp_cond (by rfl) (fun hc => ?_) (fun hc => ?_) <;> (try simp only [sB, ne_eq, reduceCtorEq] at hc) <;> (try (exfalso; omega))) | (refine WP.regionC (id := 0) ?_; (refine su (ap_move (rq_p rfl rfl)) ?_); (refine su (ap_move (rq_p rfl rfl)) ?_); (refine sc_o [0] rfl rfl (is17_fn (by assumption) _ _) (Lend.o1 (by rfl) (by rfl) (by rfl) (by rfl) (by simp [AV.bd, bdL, bdL_append]) (by simp [AV.bd, bdL, bdL_append])) ?_; simp only [updN, newO, AObj.ren, renL, AV.ren, apx, ap, if_true, if_false, Nat.reduceLT, Nat.reduceAdd, Nat.reduceSub, sO, intA, boolA, strA, psA, psR]); (refine su (ap_not (rq_p rfl rfl)) ?_); refine asemC_end ?_) | (refine WP.regionC (id := 2) ?_; (refine su (ap_move (rq_p rfl rfl)) ?_); (refine sc_o [0] rfl rfl (hO) (Lend.o1 (by rfl) (by rfl) (by rfl) (by rfl) (by simp [AV.bd, bdL, bdL_append]) (by simp [AV.bd, bdL, bdL_append])) ?_; simp only [updN, newO, AObj.ren, renL, AV.ren, apx, ap, if_true, if_false, Nat.reduceLT, Nat.reduceAdd, Nat.reduceSub, sO, intA, boolA, strA, psA, psR]); refine asemC_end ?_)))
    · exfalso; rcases hc with hc | hc
      · rw [hb.1] at hc; cases hc
      · exact hc hb.2
    · refine retM_L (x := .tup []) (os1 := [(0, some (psA s l2 b))]) [psA s l2 b] .nil (by rfl) (by rfl) ⟨[0], ToR.S rfl (by repeat' (exact rt_nil)) (by repeat' (first | exact ro_nil | refine ro_e (by rfl) (by rfl) ?_)) (by rfl) (by rfl) (by rfl) (by (simp [bdT, AV.bd, bdL, bdL_append]; done)) (by repeat' (first | exact True.intro | exact rfl | refine And.intro ?_ ?_)) (by exact Nat.le_of_ble_eq_true rfl)⟩ (by rfl) ?_
      refine ⟨(), l2, b, rfl, rfl, by rw [hl]; exact List.suffix_cons _ _, fun q => (by rw [hb.1] at q; cases q), fun _ _ => ?_, fun _ q => (by rw [hb.1] at q; cases q)⟩
      rw [hl, List.map_cons, pTake, if_pos hp]
theorem name17_fn {s : ByteArray} {l : List (Nat × Tx)} (h : At s l) (b : Bool) : FnM Try.prog 27 [.ptr 0 4 0 0] [psA s l b] (post17 strA s b (pName (l.map (·.2))) l) := by
  cases hb : (!b && isN (l.map (·.2))) with
  | false =>
    unfold psA psR
    refine FnM.intro (by kernel_rfl) Try.func27 rfl rfl Try.ntmps27 (by exact Nat.le_of_ble_eq_true rfl) ?_; intro Γ hm
    (repeat' (first | refine WP.seq ?_ | refine go_n ?_ | refine WP.skip ?_ | refine WP.ret ?_ | refine go_r ?_ | refine bo_r ?_ | (refine wp_cond (by rfl) (fun hc => ?_) (fun hc => ?_) <;> (try simp only [sB, ne_eq, reduceCtorEq] at hc) <;> (try (exfalso; omega))) | (refine WP.regionC (id := 0) ?_; (refine su (ap_assign (rq_p rfl rfl)) ?_); refine asemC_end ?_) | (refine WP.regionC (id := 1) ?_; (refine su (ap_move (rq_p rfl rfl)) ?_); (refine sc_o [0] rfl rfl (isname17_fn (by assumption) _) (Lend.o1 (by rfl) (by rfl) (by rfl) (by rfl) (by simp [AV.bd, bdL, bdL_append]) (by simp [AV.bd, bdL, bdL_append])) ?_; simp only [updN, newO, AObj.ren, renL, AV.ren, apx, ap, if_true, if_false, Nat.reduceLT, Nat.reduceAdd, Nat.reduceSub, sO, intA, boolA, strA, psA, psR]); (refine su (ap_not (rq_p rfl rfl)) ?_); refine asemC_end ?_) | (refine WP.regionC (id := 2) ?_; (refine su (ap_move (rq_p rfl rfl)) ?_); (refine su (ap_nilc (rq_p rfl rfl)) ?_); (refine su (ap_field_p (rq_p rfl rfl) (by rfl) (by rfl)) ?_); (refine se_store_b (by rfl) (by rfl) (by rfl) (by rfl) ?_); refine asemC_end ?_) | (refine WP.regionC (id := 3) ?_; (refine su (ap_assign (rq_p rfl rfl)) ?_); refine asemC_end ?_)))
    · refine retM_L (x := strA ⟨#[]⟩) (os1 := [(0, some (psA s l true))]) [psA s l true] (.tmp (by rfl) .nil) (by rfl) (by rfl) ⟨[0], ToR.S rfl (by repeat' (exact rt_nil)) (by repeat' (first | exact ro_nil | refine ro_e (by rfl) (by rfl) ?_)) (by rfl) (by rfl) (by rfl) (by (simp [bdT, AV.bd, bdL, bdL_append]; done)) (by repeat' (first | exact True.intro | exact rfl | refine And.intro ?_ ?_)) (by exact Nat.le_of_ble_eq_true rfl)⟩ (by rfl) ?_
      refine ⟨⟨#[]⟩, l, true, rfl, rfl, List.suffix_refl _, fun _ => ⟨rfl, rfl⟩, fun _ q => (by cases q), fun hb0 _ => ?_⟩
      rw [hb0] at hb
      cases l with
      | nil => rfl
      | cons p l2 => have h3 : nmT p.2 = false := hb; simp only [List.map_cons, pName, h3, Bool.false_eq_true, if_false]
    · exfalso; simp [hc.1, hc.2] at hb
  | true =>
    simp only [Bool.and_eq_true, Bool.not_eq_true'] at hb
    obtain ⟨p, l2, hl⟩ : ∃ p l2, l = p :: l2 := by
      cases l with
      | nil => exact absurd hb.2 (by decide)
      | cons p l2 => exact ⟨_, _, rfl⟩
    have hO : FnO Try.prog 25 [.ptr 0 4 0 0] [psA s l b] (.tup []) [some (psA s l2 b)] := by rw [hl]; exact adv17 (hl ▸ h) b
    have hnm : nmT p.2 = true := by have := hb.2; rw [hl] at this; exact this
    unfold psA psR
    refine FnM.intro (by kernel_rfl) Try.func27 rfl rfl Try.ntmps27 (by exact Nat.le_of_ble_eq_true rfl) ?_; intro Γ hm
    (repeat' (first | refine WP.seq ?_ | refine go_n ?_ | refine WP.skip ?_ | refine WP.ret ?_ | refine bo_r ?_ | (refine wp_cond (by rfl) (fun hc => ?_) (fun hc => ?_) <;> (try simp only [sB, ne_eq, reduceCtorEq] at hc) <;> (try (exfalso; omega))) | (refine WP.regionC (id := 0) ?_; (refine su (ap_assign (rq_p rfl rfl)) ?_); refine asemC_end ?_) | (refine WP.regionC (id := 1) ?_; (refine su (ap_move (rq_p rfl rfl)) ?_); (refine sc_o [0] rfl rfl (isname17_fn (by assumption) _) (Lend.o1 (by rfl) (by rfl) (by rfl) (by rfl) (by simp [AV.bd, bdL, bdL_append]) (by simp [AV.bd, bdL, bdL_append])) ?_; simp only [updN, newO, AObj.ren, renL, AV.ren, apx, ap, if_true, if_false, Nat.reduceLT, Nat.reduceAdd, Nat.reduceSub, sO, intA, boolA, strA, psA, psR]); (refine su (ap_not (rq_p rfl rfl)) ?_); refine asemC_end ?_) | (refine WP.regionC (id := 4) ?_; (refine su (ap_move (rq_p rfl rfl)) ?_); (refine sc_o [0] rfl rfl (txt17 (by assumption) _) (Lend.o1 (by rfl) (by rfl) (by rfl) (by rfl) (by simp [AV.bd, bdL, bdL_append]) (by simp [AV.bd, bdL, bdL_append])) ?_; simp only [updN, newO, AObj.ren, renL, AV.ren, apx, ap, if_true, if_false, Nat.reduceLT, Nat.reduceAdd, Nat.reduceSub, sO, intA, boolA, strA, psA, psR]); (refine su (ap_assign (rq_p rfl rfl)) ?_); refine asemC_end ?_) | (refine WP.regionC (id := 5) ?_; (refine su (ap_move (rq_p rfl rfl)) ?_); (refine sc_o [0] rfl rfl (hO) (Lend.o1 (by rfl) (by rfl) (by rfl) (by rfl) (by simp [AV.bd, bdL, bdL_append]) (by simp [AV.bd, bdL, bdL_append])) ?_; simp only [updN, newO, AObj.ren, renL, AV.ren, apx, ap, if_true, if_false, Nat.reduceLT, Nat.reduceAdd, Nat.reduceSub, sO, intA, boolA, strA, psA, psR]); refine asemC_end ?_) | (refine WP.regionC (id := 6) ?_; (refine su (ap_move (rq_p rfl rfl)) ?_); (refine su (ap_assign (rq_p rfl rfl)) ?_); refine asemC_end ?_)))
    · exfalso; rcases hc with hc | hc
      · rw [hb.1] at hc; cases hc
      · rw [hb.2] at hc; cases hc
    · refine retM_L (x := strA (tx (hdT l))) (os1 := [(0, some (psA s l2 b))]) [psA s l2 b] (.tmp (by rfl) .nil) (by rfl) (by rfl) ⟨[0], ToR.S rfl (by repeat' (exact rt_nil)) (by repeat' (first | exact ro_nil | refine ro_e (by rfl) (by rfl) ?_)) (by rfl) (by rfl) (by rfl) (by (simp [bdT, AV.bd, bdL, bdL_append]; done)) (by repeat' (first | exact True.intro | exact rfl | refine And.intro ?_ ?_)) (by exact Nat.le_of_ble_eq_true rfl)⟩ (by rfl) ?_
      refine ⟨tx p.2, l2, b, by rw [hl]; rfl, rfl, by rw [hl]; exact List.suffix_cons _ _, fun q => (by rw [hb.1] at q; cases q), fun _ _ => ?_, fun _ q => (by rw [hb.1] at q; cases q)⟩
      rw [hl, List.map_cons, pName, if_pos hnm]
end Go.Lg
