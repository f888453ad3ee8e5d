/-
  Part 17 of the proof of BinarizeValidParseMatchesReferenceUpto: the logic over the model, the functions' contracts and the plain laws.
-/
import Derived.Test.YtdgibngbooghfaaNp16

set_option linter.unusedSimpArgs false
set_option linter.unusedVariables false
set_option linter.unusedSectionVars false
set_option linter.defProp false

namespace Go.Lg
open Go.Proofs
set_option linter.unusedSimpArgs false
set_option linter.unusedVariables false
attribute [local irreducible] Ap Rq asemC WP RunD Ret Gq thenA inBlockA bodyQ noGotoA RqL RqP OpP
set_option maxHeartbeats 8000000
set_option maxRecDepth 20000
attribute [local simp] AV.cells
def matG (g : Gram) (n : Nrm) : Bool := decide ((binG g).2 = 0) && decide ((binG g).1 = n)
theorem matG_of {g : Gram} {n : Nrm} (h : matG g n = true) : GVal g ∧ n = nrmOf g := by
  simp only [matG, Bool.and_eq_true, decide_eq_true_eq] at h
  obtain ⟨h1, h2⟩ := h
  unfold binG at h1 h2
  split at h1
  · rename_i hv
    rw [if_pos hv] at h2
    split at h1
    · simp at h1
    · rename_i h6
      rw [if_neg h6] at h2
      exact ⟨validG_iff.1 hv, h2.symm⟩
  · simp at h1
theorem matches_fn (g : Gram) (n : Nrm) : Fn Try.prog 49 [gramA g, nrmA n] (boolA (matG g n)) := by
  refine Fn.intro rfl (by kernel_rfl) Try.func49 rfl rfl Try.ntmps49 (by exact Nat.le_of_ble_eq_true rfl) ?_; intro Γ hm
  (repeat' (first | apply jA | apply jH | apply jK | apply jS | (refine WP.regionC (id := 0) ?_; (refine se_box rfl (by exact ⟨rfl, rfl⟩) ?_); (refine se_box rfl (by exact ⟨rfl, rfl⟩) ?_); (refine sassign rfl ?_); apply jW) | (refine WP.regionC (id := 1) ?_; (refine sloadpw rfl rfl rfl rfl ?_); (refine sc_p rfl rfl (by first | ((repeat' first | exact SubL.nil | refine SubL.cons ?_ ?_ | exact Sub.refl); done) | fail) (by first | (simp [bdL, bdL_append, AV.bd]; done) | fail) (binarize_fn g) ?_); (refine smove rfl ?_); (refine su (aextract rfl rfl) ?_); (refine su (aextract rfl rfl) ?_); (refine se_alloc rfl ?_); (refine se_store_b rfl rfl rfl rfl ?_); (refine sassign rfl ?_); apply jW) | (refine WP.regionC (id := 2) ?_; (refine smove rfl ?_); (refine seql rfl rfl ?_); (refine smove rfl ?_); (refine sg (gq_vt rfl rfl) (fun he => ap_load_pw (rq_p rfl rfl) rfl rfl rfl) ?_); (refine sg (gq_vt rfl rfl) (fun he => ap_load_pw (rq_p rfl rfl) rfl rfl rfl) ?_); (refine sg_p (gq_vt rfl rfl) (fun he => ⟨(rq_p rfl rfl), (RqL.cons (rq_c rfl rfl) (RqL.cons (rq_c rfl rfl) (RqL.nil))), (by first | ((repeat' first | exact SubL.nil | refine SubL.cons ?_ ?_ | exact Sub.refl); done) | fail), (by first | (simp [bdL, bdL_append, AV.bd]; done) | fail), bequal_fn (binG g).1 n⟩) ?_); (refine su (ap_and (rq_p rfl rfl) (rq_c rfl rfl)) ?_); (refine sassign rfl ?_); apply jW) | exact ret_eq rfl rfl rfl))
def toOk (g : Gram) (n : Nrm) (p : Prs) : Prop := matG g n = true ∧ 0 ≤ p.rule ∧ p.rule < n.rules.length ∧ (nth n.rules p.rule.toNat).head < g.nonterms.length ∧ okP n (nth n.rules p.rule.toNat).head p = true
open Classical in
noncomputable def toTreeG (g : Gram) (n : Nrm) (p : Prs) : Tre × Int := if toOk g n p then (toTF g (szP p) p, 0) else (.mk 0 0 [], 13)
def fromOk (g : Gram) (n : Nrm) (t : Tre) : Prop := matG g n = true ∧ 0 ≤ t.rule ∧ t.rule < g.rules.length ∧ okT g (-1 - (nth g.rules t.rule.toNat).head) t = true
open Classical in
noncomputable def fromTreeG (g : Gram) (n : Nrm) (t : Tre) : Prs × Int := if fromOk g n t then (fromTF g (szT t) t, 0) else (.mk 0 [], 13)
theorem tre0 : treA (.mk 0 0 []) = .agg [intA 0, intA 0, tresA []] := treA_kids _
theorem prs0 : prsA (.mk 0 []) = .agg [intA 0, prssA []] := prsA_kids _
theorem toTreeP_fn (g : Gram) (n : Nrm) (p : Prs) : Fn Try.prog 26 [gramA g, nrmA n, prsA p] (.tup [treA (toTreeG g n p).1, intA (toTreeG g n p).2]) := by
  by_cases hok : toOk g n p
  · have he : toTreeG g n p = (toTF g (szP p) p, 0) := if_pos hok
    rw [he]
    obtain ⟨h1, h2, h3, h4, h5⟩ := hok
    obtain ⟨hv, hn⟩ := matG_of h1
    have hm1 := matches_fn g n
    rw [h1] at hm1
    have hv1 := validParse_fn n p (nth n.rules p.rule.toNat).head
    rw [h5] at hv1
    have hto := toTree_fn hv (szP p) p (nth n.rules p.rule.toNat).head (Nat.le_refl _) h4 (by rw [← hn]; exact h5)
    rw [← hn] at hto
    rw [prsA_kids] at hv1 hto ⊢
    simp only
    refine Fn.intro (by simp [AV.bd, bdL, bdL_append]) (by kernel_rfl) Try.func26 rfl rfl Try.ntmps26 (by exact Nat.le_of_ble_eq_true rfl) ?_; intro Γ hm
    refine wp_lens 1 rfl fun hl0 => ?_
    have hl0 := lens_nrm hl0
    (repeat' (first | apply jA | apply jH | apply jI | apply jK | apply jS | (refine wp_cond rfl (fun hc => ?_) (fun hc => ?_) <;> (try simp only [sB, ne_eq, reduceCtorEq] at hc) <;> (try (exfalso; omega))) | (refine WP.regionC (id := 0) ?_; (refine se_box rfl (by exact ⟨rfl, rfl⟩) ?_); (refine se_box rfl (by exact ⟨rfl, rfl⟩) ?_); (refine se_box rfl (by exact ⟨rfl, rfl⟩) ?_); (refine se_alloc rfl ?_); (refine sassign rfl ?_); apply jW) | (refine wp_draw (id := 1) 43 mixed (by kernel_rfl) (by kernel_rfl) rfl ?_ <;> (refine rd_u rfl rfl (aloadpw rfl rfl rfl rfl) ?_) <;> (refine rd_u rfl rfl (aloadpw rfl rfl rfl rfl) ?_) <;> (refine rd_call rfl rfl (by first | ((repeat' first | exact SubL.nil | refine SubL.cons ?_ ?_ | exact Sub.refl); done) | fail) (by first | (simp [bdL, bdL_append, AV.bd]; done) | fail) (hm1) ?_) <;> (refine rd_u rfl rfl (anot rfl) ?_) <;> (refine rmove rfl ?_) <;> (refine gfieldp rfl rfl rfl rfl rfl ?_) <;> (refine gloadp rfl rfl rfl rfl rfl rfl ?_) <;> (refine rdg_u rfl rfl rfl rfl (alss rfl rfl) ?_) <;> (refine rd_pick_f rfl rfl ?_) <;> (refine rmove rfl ?_) <;> ((refine rd_split (t := 17) rfl (fun hc => ?_) (fun hc => ?_) <;> (try simp only [sB, ne_eq, reduceCtorEq] at hc) <;> (try (exfalso; omega)) <;> (refine gfieldp rfl rfl rfl rfl rfl ?_))) <;> (refine gloadp rfl rfl rfl rfl rfl rfl ?_) <;> (refine gfieldp rfl rfl rfl rfl rfl ?_) <;> (refine gloadp rfl rfl rfl rfl rfl rfl ?_) <;> (refine rdg_u rfl rfl rfl rfl (alenm rfl rfl) ?_) <;> (refine rdg_u rfl rfl rfl rfl (ageq rfl rfl) ?_) <;> (refine rd_pick_f rfl rfl ?_) <;> (refine rmove rfl ?_) <;> ((refine rd_split (t := 25) rfl (fun hc => ?_) (fun hc => ?_) <;> (try simp only [sB, ne_eq, reduceCtorEq] at hc) <;> (try (exfalso; omega)) <;> (refine gfieldp rfl rfl rfl rfl rfl ?_))) <;> (refine gloadp rfl rfl rfl rfl rfl rfl ?_) <;> (refine gfieldp rfl rfl rfl rfl rfl ?_) <;> (refine gloadp rfl rfl rfl rfl rfl rfl ?_) <;> (refine rdg_u rfl rfl rfl rfl (aidxz rfl rfl (by omega)) ?_) <;> (refine rdg_u rfl rfl rfl rfl (afieldi rfl rfl rfl) ?_) <;> (refine rdg_u rfl rfl rfl rfl (aloadi rfl rfl) ?_) <;> (refine gfieldp rfl rfl rfl rfl rfl ?_) <;> (refine gloadp rfl rfl rfl rfl rfl rfl ?_) <;> (refine rdg_u rfl rfl rfl rfl (alenm rfl rfl) ?_) <;> (refine rdg_u rfl rfl rfl rfl (ageq rfl rfl) ?_) <;> (refine rd_pick_f rfl rfl ?_) <;> (refine rmove rfl ?_) <;> ((refine rd_split (t := 38) rfl (fun hc => ?_) (fun hc => ?_) <;> (try simp only [sB, ne_eq, reduceCtorEq] at hc) <;> (try (exfalso; omega)) <;> (refine rdg_u rfl rfl rfl rfl (aloadpw rfl rfl rfl rfl) ?_))) <;> (refine gfieldp rfl rfl rfl rfl rfl ?_) <;> (refine gloadp rfl rfl rfl rfl rfl rfl ?_) <;> (refine gfieldp rfl rfl rfl rfl rfl ?_) <;> (refine gloadp rfl rfl rfl rfl rfl rfl ?_) <;> (refine rdg_u rfl rfl rfl rfl (aidxz rfl rfl (by omega)) ?_) <;> (refine rdg_u rfl rfl rfl rfl (afieldi rfl rfl rfl) ?_) <;> (refine rdg_u rfl rfl rfl rfl (aloadi rfl rfl) ?_) <;> (refine rdg_u rfl rfl rfl rfl (aloadpw rfl rfl rfl rfl) ?_) <;> (refine rdg_call rfl rfl rfl rfl (by first | ((repeat' first | exact SubL.nil | refine SubL.cons ?_ ?_ | exact Sub.refl); done) | fail) (by first | (simp [bdL, bdL_append, AV.bd]; done) | fail) (hv1) ?_) <;> (refine rdg_u rfl rfl rfl rfl (anot rfl) ?_) <;> (refine rd_pick_f rfl rfl ?_) <;> (refine rd_end (by kernel_rfl) ?_)) | (refine WP.regionC (id := 3) ?_; (refine sloadpw rfl rfl rfl rfl ?_); (refine sloadpw rfl rfl rfl rfl ?_); (refine sloadpw rfl rfl rfl rfl ?_); (refine sc_p rfl rfl (by first | ((repeat' first | exact SubL.nil | refine SubL.cons ?_ ?_ | exact Sub.refl); done) | fail) (by first | (simp [bdL, bdL_append, AV.bd]; done) | fail) (hto) ?_); (refine se_store_b rfl rfl rfl rfl ?_); (refine sassign rfl ?_); apply jW)))
    exact ret_many (.cellT (x := treA (toTF g (szP p) p)) rfl rfl rfl rfl (.tmp rfl .nil)) (Nat.le_of_ble_eq_true rfl) (by first | ((repeat' first | exact FzL.nil | refine FzL.cons ?_ ?_ | (exact Fz.reflp (by simp [AV.bd, bdL, bdL_append]))); done) | fail)
  · have he : toTreeG g n p = (.mk 0 0 [], 13) := if_neg hok
    rw [he]
    simp only
    rw [tre0]
    have hv1 := validParse_fn n p (nth n.rules p.rule.toNat).head
    unfold toOk at hok
    rw [prsA_kids] at hv1 ⊢
    refine Fn.intro rfl (by kernel_rfl) Try.func26 rfl rfl Try.ntmps26 (by exact Nat.le_of_ble_eq_true rfl) ?_; intro Γ hm
    refine wp_lens 1 rfl fun hl0 => ?_
    have hl0 := lens_nrm hl0
    (repeat' (first | apply jA | apply jH | apply jI | apply jK | apply jM | apply jS | (refine wp_cond rfl (fun hc => ?_) (fun hc => ?_) <;> (try simp only [sB, ne_eq, reduceCtorEq] at hc) <;> (try (exfalso; omega))) | (refine WP.regionC (id := 0) ?_; (refine se_box rfl (by exact ⟨rfl, rfl⟩) ?_); (refine se_box rfl (by exact ⟨rfl, rfl⟩) ?_); (refine se_box rfl (by exact ⟨rfl, rfl⟩) ?_); (refine se_alloc rfl ?_); (refine sassign rfl ?_); apply jW) | (refine wp_draw (id := 1) 43 mixed (by kernel_rfl) (by kernel_rfl) rfl ?_ <;> (refine rd_u rfl rfl (aloadpw rfl rfl rfl rfl) ?_) <;> (refine rd_u rfl rfl (aloadpw rfl rfl rfl rfl) ?_) <;> (refine rd_call rfl rfl (by first | ((repeat' first | exact SubL.nil | refine SubL.cons ?_ ?_ | exact Sub.refl); done) | fail) (by first | (simp [bdL, bdL_append, AV.bd]; done) | fail) (matches_fn g n) ?_) <;> (refine rd_u rfl rfl (anot rfl) ?_) <;> (refine rmove rfl ?_) <;> ((refine rd_split (t := 12) rfl (fun hc => ?_) (fun hc => ?_) <;> (try simp only [sB, ne_eq, reduceCtorEq] at hc) <;> (try (exfalso; omega)) <;> (first | refine rd_skip rfl rfl ?_ | refine gfieldp rfl rfl rfl rfl rfl ?_))) <;> (first | refine rd_skip rfl rfl ?_ | refine gloadp rfl rfl rfl rfl rfl rfl ?_) <;> (first | refine rd_skip rfl rfl ?_ | refine rdg_u rfl rfl rfl rfl (alss rfl rfl) ?_) <;> (first | refine rd_pick_t rfl rfl ?_ | refine rd_pick_f rfl rfl ?_) <;> (refine rmove rfl ?_) <;> (first | refine rd_skip rfl rfl ?_ | (refine rd_split (t := 17) rfl (fun hc => ?_) (fun hc => ?_) <;> (try simp only [sB, ne_eq, reduceCtorEq] at hc) <;> (try (exfalso; omega)) <;> (first | refine rd_skip rfl rfl ?_ | refine gfieldp rfl rfl rfl rfl rfl ?_))) <;> (first | refine rd_skip rfl rfl ?_ | refine gloadp rfl rfl rfl rfl rfl rfl ?_) <;> (first | refine rd_skip rfl rfl ?_ | refine gfieldp rfl rfl rfl rfl rfl ?_) <;> (first | refine rd_skip rfl rfl ?_ | refine gloadp rfl rfl rfl rfl rfl rfl ?_) <;> (first | refine rd_skip rfl rfl ?_ | refine rdg_u rfl rfl rfl rfl (alenm rfl rfl) ?_) <;> (first | refine rd_skip rfl rfl ?_ | refine rdg_u rfl rfl rfl rfl (ageq rfl rfl) ?_) <;> (first | refine rd_pick_t rfl rfl ?_ | refine rd_pick_f rfl rfl ?_) <;> (refine rmove rfl ?_) <;> (first | refine rd_skip rfl rfl ?_ | (refine rd_split (t := 25) rfl (fun hc => ?_) (fun hc => ?_) <;> (try simp only [sB, ne_eq, reduceCtorEq] at hc) <;> (try (exfalso; omega)) <;> (first | refine rd_skip rfl rfl ?_ | refine gfieldp rfl rfl rfl rfl rfl ?_))) <;> (first | refine rd_skip rfl rfl ?_ | refine gloadp rfl rfl rfl rfl rfl rfl ?_) <;> (first | refine rd_skip rfl rfl ?_ | refine gfieldp rfl rfl rfl rfl rfl ?_) <;> (first | refine rd_skip rfl rfl ?_ | refine gloadp rfl rfl rfl rfl rfl rfl ?_) <;> (first | refine rd_skip rfl rfl ?_ | refine rdg_u rfl rfl rfl rfl (aidxz rfl rfl (by omega)) ?_) <;> (first | refine rd_skip rfl rfl ?_ | refine rdg_u rfl rfl rfl rfl (afieldi rfl rfl rfl) ?_) <;> (first | refine rd_skip rfl rfl ?_ | refine rdg_u rfl rfl rfl rfl (aloadi rfl rfl) ?_) <;> (first | refine rd_skip rfl rfl ?_ | refine gfieldp rfl rfl rfl rfl rfl ?_) <;> (first | refine rd_skip rfl rfl ?_ | refine gloadp rfl rfl rfl rfl rfl rfl ?_) <;> (first | refine rd_skip rfl rfl ?_ | refine rdg_u rfl rfl rfl rfl (alenm rfl rfl) ?_) <;> (first | refine rd_skip rfl rfl ?_ | refine rdg_u rfl rfl rfl rfl (ageq rfl rfl) ?_) <;> (first | refine rd_pick_t rfl rfl ?_ | refine rd_pick_f rfl rfl ?_) <;> (refine rmove rfl ?_) <;> (first | refine rd_skip rfl rfl ?_ | (refine rd_split (t := 38) rfl (fun hc => ?_) (fun hc => ?_) <;> (try simp only [sB, ne_eq, reduceCtorEq] at hc) <;> (try (exfalso; omega)) <;> (first | refine rd_skip rfl rfl ?_ | refine rdg_u rfl rfl rfl rfl (aloadpw rfl rfl rfl rfl) ?_))) <;> (first | refine rd_skip rfl rfl ?_ | refine gfieldp rfl rfl rfl rfl rfl ?_) <;> (first | refine rd_skip rfl rfl ?_ | refine gloadp rfl rfl rfl rfl rfl rfl ?_) <;> (first | refine rd_skip rfl rfl ?_ | refine gfieldp rfl rfl rfl rfl rfl ?_) <;> (first | refine rd_skip rfl rfl ?_ | refine gloadp rfl rfl rfl rfl rfl rfl ?_) <;> (first | refine rd_skip rfl rfl ?_ | refine rdg_u rfl rfl rfl rfl (aidxz rfl rfl (by omega)) ?_) <;> (first | refine rd_skip rfl rfl ?_ | refine rdg_u rfl rfl rfl rfl (afieldi rfl rfl rfl) ?_) <;> (first | refine rd_skip rfl rfl ?_ | refine rdg_u rfl rfl rfl rfl (aloadi rfl rfl) ?_) <;> (first | refine rd_skip rfl rfl ?_ | refine rdg_u rfl rfl rfl rfl (aloadpw rfl rfl rfl rfl) ?_) <;> (first | refine rd_skip rfl rfl ?_ | refine rdg_call rfl rfl rfl rfl (by first | ((repeat' first | exact SubL.nil | refine SubL.cons ?_ ?_ | exact Sub.refl); done) | fail) (by first | (simp [bdL, bdL_append, AV.bd]; done) | fail) (hv1) ?_) <;> (first | refine rd_skip rfl rfl ?_ | refine rdg_u rfl rfl rfl rfl (anot rfl) ?_) <;> (first | refine rd_pick_t rfl rfl ?_ | refine rd_pick_f rfl rfl ?_) <;> (refine rd_end (by kernel_rfl) ?_)) | (refine WP.regionC (id := 2) ?_; (refine su (ap_build (RqP.nil) rfl) ?_); (refine se_store_b rfl rfl rfl rfl ?_); (refine sassign rfl ?_); apply jW)))
    all_goals (first | exact ret_many (.cellT rfl rfl rfl rfl (.tmp rfl .nil)) (Nat.le_of_ble_eq_true rfl) (by first | ((repeat' first | exact FzL.nil | refine FzL.cons ?_ ?_ | exact Fz.nil | (exact Fz.reflp (by simp [AV.bd, bdL, bdL_append])) | refine Fz.aggL ?_); done) | fail) | (exfalso; grind))
theorem fromTreeP_fn (g : Gram) (n : Nrm) (t : Tre) : Fn Try.prog 28 [gramA g, nrmA n, treA t] (.tup [prsA (fromTreeG g n t).1, intA (fromTreeG g n t).2]) := by
  by_cases hmg : matG g n = true
  · obtain ⟨hv, hn⟩ := matG_of hmg
    have hr2 := hv.r2
    have hm1 := matches_fn g n
    rw [hmg] at hm1
    have hhd : ∀ i, i < g.rules.length → 0 ≤ (nth g.rules i).head ∧ (nth g.rules i).head ≤ 120 := fun i hi => by
      have := hv.rule _ (nth_mem hi); have h1 := this.h0; have h2 := this.hn; have h3 := hv.n2; omega
    by_cases hok : fromOk g n t
    · have he : fromTreeG g n t = (fromTF g (szT t) t, 0) := if_pos hok
      rw [he]
      obtain ⟨h1, h2, h3, h4⟩ := hok
      have hh := hhd t.rule.toNat (by omega)
      have hv1 := whole_fn hv t (-1 - (nth g.rules t.rule.toNat).head) (by omega)
      rw [h4] at hv1
      have hto := fromTree_fn hv (szT t) t (-1 - (nth g.rules t.rule.toNat).head) (Nat.le_refl _) (by omega) h4
      rw [← hn] at hto
      rw [treA_kids] at hv1 hto ⊢
      simp only
      refine Fn.intro (by simp [AV.bd, bdL, bdL_append]) (by kernel_rfl) Try.func28 rfl rfl Try.ntmps28 (by exact Nat.le_of_ble_eq_true rfl) ?_; intro Γ hm
      (repeat' (first | apply jA | apply jH | apply jI | apply jK | apply jS | (refine wp_cond rfl (fun hc => ?_) (fun hc => ?_) <;> (try simp only [sB, ne_eq, reduceCtorEq] at hc) <;> (try (exfalso; omega))) | (refine WP.regionC (id := 0) ?_; (refine se_box rfl (by exact ⟨rfl, rfl⟩) ?_); (refine se_box rfl (by exact ⟨rfl, rfl⟩) ?_); (refine se_box rfl (by exact ⟨rfl, rfl⟩) ?_); (refine se_alloc rfl ?_); (refine sassign rfl ?_); apply jW) | (refine wp_draw (id := 1) 31 mixed (by kernel_rfl) (by kernel_rfl) rfl ?_ <;> (refine rd_u rfl rfl (aloadpw rfl rfl rfl rfl) ?_) <;> (refine rd_u rfl rfl (aloadpw rfl rfl rfl rfl) ?_) <;> (refine rd_call rfl rfl (by first | ((repeat' first | exact SubL.nil | refine SubL.cons ?_ ?_ | exact Sub.refl); done) | fail) (by first | (simp [bdL, bdL_append, AV.bd]; done) | fail) (hm1) ?_) <;> (refine rd_u rfl rfl (anot rfl) ?_) <;> (refine rmove rfl ?_) <;> (refine gfieldp rfl rfl rfl rfl rfl ?_) <;> (refine gloadp rfl rfl rfl rfl rfl rfl ?_) <;> (refine rdg_u rfl rfl rfl rfl (alss rfl rfl) ?_) <;> (refine rd_pick_f rfl rfl ?_) <;> (refine rmove rfl ?_) <;> ((refine rd_split (t := 17) rfl (fun hc => ?_) (fun hc => ?_) <;> (try simp only [sB, ne_eq, reduceCtorEq] at hc) <;> (try (exfalso; omega)) <;> (refine gfieldp rfl rfl rfl rfl rfl ?_))) <;> (refine gloadp rfl rfl rfl rfl rfl rfl ?_) <;> (refine gfieldp rfl rfl rfl rfl rfl ?_) <;> (refine gloadp rfl rfl rfl rfl rfl rfl ?_) <;> (refine rdg_u rfl rfl rfl rfl (alenm rfl rfl) ?_) <;> (refine rdg_u rfl rfl rfl rfl (ageq rfl rfl) ?_) <;> (refine rd_pick_f rfl rfl ?_) <;> (refine rmove rfl ?_) <;> ((refine rd_split (t := 25) rfl (fun hc => ?_) (fun hc => ?_) <;> (try simp only [sB, ne_eq, reduceCtorEq] at hc) <;> (try (exfalso; omega)) <;> (refine rdg_u rfl rfl rfl rfl (aloadpw rfl rfl rfl rfl) ?_))) <;> (refine gfieldp rfl rfl rfl rfl rfl ?_) <;> (refine gloadp rfl rfl rfl rfl rfl rfl ?_) <;> (refine gfieldp rfl rfl rfl rfl rfl ?_) <;> (refine gloadp rfl rfl rfl rfl rfl rfl ?_) <;> (refine rdg_u rfl rfl rfl rfl (aidxz rfl rfl (by omega)) ?_) <;> (refine rdg_u rfl rfl rfl rfl (afieldi rfl rfl rfl) ?_) <;> (refine rdg_u rfl rfl rfl rfl (aloadi rfl rfl) ?_) <;> (refine rdg_u rfl rfl rfl rfl (asub rfl rfl (by exact inr_i64_of (by omega))) ?_) <;> (refine rdg_u rfl rfl rfl rfl (aloadpw rfl rfl rfl rfl) ?_) <;> (refine rdg_call rfl rfl rfl rfl (by first | ((repeat' first | exact SubL.nil | refine SubL.cons ?_ ?_ | exact Sub.refl); done) | fail) (by first | (simp [bdL, bdL_append, AV.bd]; done) | fail) (hv1) ?_) <;> (refine rdg_u rfl rfl rfl rfl (anot rfl) ?_) <;> (refine rd_pick_f rfl rfl ?_) <;> (refine rd_end (by kernel_rfl) ?_)) | (refine WP.regionC (id := 3) ?_; (refine sloadpw rfl rfl rfl rfl ?_); (refine sloadpw rfl rfl rfl rfl ?_); (refine sloadpw rfl rfl rfl rfl ?_); (refine sc_p rfl rfl (by first | ((repeat' first | exact SubL.nil | refine SubL.cons ?_ ?_ | exact Sub.refl); done) | fail) (by first | (simp [bdL, bdL_append, AV.bd]; done) | fail) (hto) ?_); (refine se_store_b rfl rfl rfl rfl ?_); (refine sassign rfl ?_); apply jW)))
      exact ret_many (.cellT (x := prsA (fromTF g (szT t) t)) rfl rfl rfl rfl (.tmp rfl .nil)) (Nat.le_of_ble_eq_true rfl) (by first | ((repeat' first | exact FzL.nil | refine FzL.cons ?_ ?_ | (exact Fz.reflp (by simp [AV.bd, bdL, bdL_append]))); done) | fail)
    · have he : fromTreeG g n t = (.mk 0 [], 13) := if_neg hok
      rw [he]
      simp only
      rw [prs0]
      unfold fromOk at hok
      by_cases hr : 0 ≤ t.rule ∧ t.rule < g.rules.length
      · obtain ⟨h2, h3⟩ := hr
        have hh := hhd t.rule.toNat (by omega)
        have hv1 := whole_fn hv t (-1 - (nth g.rules t.rule.toNat).head) (by omega)
        have h4 : okT g (-1 - (nth g.rules t.rule.toNat).head) t = false := by grind
        rw [h4] at hv1
        rw [treA_kids] at hv1 ⊢
        refine Fn.intro rfl (by kernel_rfl) Try.func28 rfl rfl Try.ntmps28 (by exact Nat.le_of_ble_eq_true rfl) ?_; intro Γ hm
        (repeat' (first | apply jA | apply jH | apply jK | apply jM | apply jS | (refine wp_cond rfl (fun hc => ?_) (fun hc => ?_) <;> (try simp only [sB, ne_eq, reduceCtorEq] at hc) <;> (try (exfalso; omega))) | (refine WP.regionC (id := 0) ?_; (refine se_box rfl (by exact ⟨rfl, rfl⟩) ?_); (refine se_box rfl (by exact ⟨rfl, rfl⟩) ?_); (refine se_box rfl (by exact ⟨rfl, rfl⟩) ?_); (refine se_alloc rfl ?_); (refine sassign rfl ?_); apply jW) | (refine wp_draw (id := 1) 31 mixed (by kernel_rfl) (by kernel_rfl) rfl ?_ <;> (refine rd_u rfl rfl (aloadpw rfl rfl rfl rfl) ?_) <;> (refine rd_u rfl rfl (aloadpw rfl rfl rfl rfl) ?_) <;> (refine rd_call rfl rfl (by first | ((repeat' first | exact SubL.nil | refine SubL.cons ?_ ?_ | exact Sub.refl); done) | fail) (by first | (simp [bdL, bdL_append, AV.bd]; done) | fail) (hm1) ?_) <;> (refine rd_u rfl rfl (anot rfl) ?_) <;> (refine rmove rfl ?_) <;> (refine gfieldp rfl rfl rfl rfl rfl ?_) <;> (refine gloadp rfl rfl rfl rfl rfl rfl ?_) <;> (refine rdg_u rfl rfl rfl rfl (alss rfl rfl) ?_) <;> (refine rd_pick_f rfl rfl ?_) <;> (refine rmove rfl ?_) <;> ((refine rd_split (t := 17) rfl (fun hc => ?_) (fun hc => ?_) <;> (try simp only [sB, ne_eq, reduceCtorEq] at hc) <;> (try (exfalso; omega)) <;> (refine gfieldp rfl rfl rfl rfl rfl ?_))) <;> (refine gloadp rfl rfl rfl rfl rfl rfl ?_) <;> (refine gfieldp rfl rfl rfl rfl rfl ?_) <;> (refine gloadp rfl rfl rfl rfl rfl rfl ?_) <;> (refine rdg_u rfl rfl rfl rfl (alenm rfl rfl) ?_) <;> (refine rdg_u rfl rfl rfl rfl (ageq rfl rfl) ?_) <;> (refine rd_pick_f rfl rfl ?_) <;> (refine rmove rfl ?_) <;> ((refine rd_split (t := 25) rfl (fun hc => ?_) (fun hc => ?_) <;> (try simp only [sB, ne_eq, reduceCtorEq] at hc) <;> (try (exfalso; omega)) <;> (refine rdg_u rfl rfl rfl rfl (aloadpw rfl rfl rfl rfl) ?_))) <;> (refine gfieldp rfl rfl rfl rfl rfl ?_) <;> (refine gloadp rfl rfl rfl rfl rfl rfl ?_) <;> (refine gfieldp rfl rfl rfl rfl rfl ?_) <;> (refine gloadp rfl rfl rfl rfl rfl rfl ?_) <;> (refine rdg_u rfl rfl rfl rfl (aidxz rfl rfl (by omega)) ?_) <;> (refine rdg_u rfl rfl rfl rfl (afieldi rfl rfl rfl) ?_) <;> (refine rdg_u rfl rfl rfl rfl (aloadi rfl rfl) ?_) <;> (refine rdg_u rfl rfl rfl rfl (asub rfl rfl (by exact inr_i64_of (by omega))) ?_) <;> (refine rdg_u rfl rfl rfl rfl (aloadpw rfl rfl rfl rfl) ?_) <;> (refine rdg_call rfl rfl rfl rfl (by first | ((repeat' first | exact SubL.nil | refine SubL.cons ?_ ?_ | exact Sub.refl); done) | fail) (by first | (simp [bdL, bdL_append, AV.bd]; done) | fail) (hv1) ?_) <;> (refine rdg_u rfl rfl rfl rfl (anot rfl) ?_) <;> (refine rd_pick_f rfl rfl ?_) <;> (refine rd_end (by kernel_rfl) ?_)) | (refine WP.regionC (id := 2) ?_; (refine su (ap_build (RqP.nil) rfl) ?_); (refine se_store_b rfl rfl rfl rfl ?_); (refine sassign rfl ?_); apply jW)))
        exact ret_many (.cellT rfl rfl rfl rfl (.tmp rfl .nil)) (Nat.le_of_ble_eq_true rfl) (by first | ((repeat' first | exact FzL.nil | refine FzL.cons ?_ ?_ | exact Fz.nil | (exact Fz.reflp (by simp [AV.bd, bdL, bdL_append])) | refine Fz.aggL ?_); done) | fail)
      · have hr : t.rule < 0 ∨ g.rules.length ≤ t.rule := by omega
        rw [treA_kids]
        refine Fn.intro rfl (by kernel_rfl) Try.func28 rfl rfl Try.ntmps28 (by exact Nat.le_of_ble_eq_true rfl) ?_; intro Γ hm
        (repeat' (first | apply jA | apply jH | apply jK | apply jM | apply jS | (refine wp_cond rfl (fun hc => ?_) (fun hc => ?_) <;> (try simp only [sB, ne_eq, reduceCtorEq] at hc) <;> (try (exfalso; omega))) | (refine WP.regionC (id := 0) ?_; (refine se_box rfl (by exact ⟨rfl, rfl⟩) ?_); (refine se_box rfl (by exact ⟨rfl, rfl⟩) ?_); (refine se_box rfl (by exact ⟨rfl, rfl⟩) ?_); (refine se_alloc rfl ?_); (refine sassign rfl ?_); apply jW) | (refine wp_draw (id := 1) 31 mixed (by kernel_rfl) (by kernel_rfl) rfl ?_ <;> (refine rd_u rfl rfl (aloadpw rfl rfl rfl rfl) ?_) <;> (refine rd_u rfl rfl (aloadpw rfl rfl rfl rfl) ?_) <;> (refine rd_call rfl rfl (by first | ((repeat' first | exact SubL.nil | refine SubL.cons ?_ ?_ | exact Sub.refl); done) | fail) (by first | (simp [bdL, bdL_append, AV.bd]; done) | fail) (hm1) ?_) <;> (refine rd_u rfl rfl (anot rfl) ?_) <;> (refine rmove rfl ?_) <;> (refine gfieldp rfl rfl rfl rfl rfl ?_) <;> (refine gloadp rfl rfl rfl rfl rfl rfl ?_) <;> (refine rdg_u rfl rfl rfl rfl (alss rfl rfl) ?_) <;> (refine rd_pick_f rfl rfl ?_) <;> (refine rmove rfl ?_) <;> ((refine rd_split (t := 17) rfl (fun hc => ?_) (fun hc => ?_) <;> (try simp only [sB, ne_eq, reduceCtorEq] at hc) <;> (try (exfalso; omega)) <;> (first | refine rd_skip rfl rfl ?_ | refine gfieldp rfl rfl rfl rfl rfl ?_))) <;> (first | refine rd_skip rfl rfl ?_ | refine gloadp rfl rfl rfl rfl rfl rfl ?_) <;> (first | refine rd_skip rfl rfl ?_ | refine gfieldp rfl rfl rfl rfl rfl ?_) <;> (first | refine rd_skip rfl rfl ?_ | refine gloadp rfl rfl rfl rfl rfl rfl ?_) <;> (first | refine rd_skip rfl rfl ?_ | refine rdg_u rfl rfl rfl rfl (alenm rfl rfl) ?_) <;> (first | refine rd_skip rfl rfl ?_ | refine rdg_u rfl rfl rfl rfl (ageq rfl rfl) ?_) <;> (first | refine rd_pick_t rfl rfl ?_ | refine rd_pick_f rfl rfl ?_) <;> (refine rmove rfl ?_) <;> (first | refine rd_skip rfl rfl ?_ | (refine rd_split (t := 25) rfl (fun hc => ?_) (fun hc => ?_) <;> (try simp only [sB, ne_eq, reduceCtorEq] at hc) <;> (try (exfalso; omega)) <;> (refine rd_skip rfl rfl ?_))) <;> (refine rd_skip rfl rfl ?_) <;> (refine rd_skip rfl rfl ?_) <;> (refine rd_skip rfl rfl ?_) <;> (refine rd_skip rfl rfl ?_) <;> (refine rd_skip rfl rfl ?_) <;> (refine rd_skip rfl rfl ?_) <;> (refine rd_skip rfl rfl ?_) <;> (refine rd_skip rfl rfl ?_) <;> (refine rd_skip rfl rfl ?_) <;> (refine rd_skip rfl rfl ?_) <;> (refine rd_skip rfl rfl ?_) <;> (refine rd_pick_t rfl rfl ?_) <;> (refine rd_end (by kernel_rfl) ?_)) | (refine WP.regionC (id := 2) ?_; (refine su (ap_build (RqP.nil) rfl) ?_); (refine se_store_b rfl rfl rfl rfl ?_); (refine sassign rfl ?_); apply jW)))
        all_goals exact ret_many (.cellT rfl rfl rfl rfl (.tmp rfl .nil)) (Nat.le_of_ble_eq_true rfl) (by first | ((repeat' first | exact FzL.nil | refine FzL.cons ?_ ?_ | exact Fz.nil | (exact Fz.reflp (by simp [AV.bd, bdL, bdL_append])) | refine Fz.aggL ?_); done) | fail)
  · have hmf : matG g n = false := by simpa using hmg
    have hm1 := matches_fn g n
    rw [hmf] at hm1
    have he : fromTreeG g n t = (.mk 0 [], 13) := if_neg fun h => hmg h.1
    rw [he]
    simp only
    rw [prs0, treA_kids]
    refine Fn.intro rfl (by kernel_rfl) Try.func28 rfl rfl Try.ntmps28 (by exact Nat.le_of_ble_eq_true rfl) ?_; intro Γ hm
    (repeat' (first | apply jA | apply jH | apply jK | apply jM | apply jS | (refine wp_cond rfl (fun hc => ?_) (fun hc => ?_) <;> (try simp only [sB, ne_eq, reduceCtorEq] at hc) <;> (try (exfalso; omega))) | (refine WP.regionC (id := 0) ?_; (refine se_box rfl (by exact ⟨rfl, rfl⟩) ?_); (refine se_box rfl (by exact ⟨rfl, rfl⟩) ?_); (refine se_box rfl (by exact ⟨rfl, rfl⟩) ?_); (refine se_alloc rfl ?_); (refine sassign rfl ?_); apply jW) | (refine wp_draw (id := 1) 31 mixed (by kernel_rfl) (by kernel_rfl) rfl ?_ <;> (refine rd_u rfl rfl (aloadpw rfl rfl rfl rfl) ?_) <;> (refine rd_u rfl rfl (aloadpw rfl rfl rfl rfl) ?_) <;> (refine rd_call rfl rfl (by first | ((repeat' first | exact SubL.nil | refine SubL.cons ?_ ?_ | exact Sub.refl); done) | fail) (by first | (simp [bdL, bdL_append, AV.bd]; done) | fail) (hm1) ?_) <;> (refine rd_u rfl rfl (anot rfl) ?_) <;> (refine rmove rfl ?_) <;> (refine rd_skip rfl rfl ?_) <;> (refine rd_skip rfl rfl ?_) <;> (refine rd_skip rfl rfl ?_) <;> (refine rd_pick_t rfl rfl ?_) <;> (refine rmove rfl ?_) <;> (refine rd_skip rfl rfl ?_) <;> (refine rd_skip rfl rfl ?_) <;> (refine rd_skip rfl rfl ?_) <;> (refine rd_skip rfl rfl ?_) <;> (refine rd_skip rfl rfl ?_) <;> (refine rd_skip rfl rfl ?_) <;> (refine rd_pick_t rfl rfl ?_) <;> (refine rmove rfl ?_) <;> (refine rd_skip rfl rfl ?_) <;> (refine rd_skip rfl rfl ?_) <;> (refine rd_skip rfl rfl ?_) <;> (refine rd_skip rfl rfl ?_) <;> (refine rd_skip rfl rfl ?_) <;> (refine rd_skip rfl rfl ?_) <;> (refine rd_skip rfl rfl ?_) <;> (refine rd_skip rfl rfl ?_) <;> (refine rd_skip rfl rfl ?_) <;> (refine rd_skip rfl rfl ?_) <;> (refine rd_skip rfl rfl ?_) <;> (refine rd_skip rfl rfl ?_) <;> (refine rd_pick_t rfl rfl ?_) <;> (refine rd_end (by kernel_rfl) ?_)) | (refine WP.regionC (id := 2) ?_; (refine su (ap_build (RqP.nil) rfl) ?_); (refine se_store_b rfl rfl rfl rfl ?_); (refine sassign rfl ?_); apply jW)))
    exact ret_many (.cellT rfl rfl rfl rfl (.tmp rfl .nil)) (Nat.le_of_ble_eq_true rfl) (by first | ((repeat' first | exact FzL.nil | refine FzL.cons ?_ ?_ | exact Fz.nil | (exact Fz.reflp (by simp [AV.bd, bdL, bdL_append])) | refine Fz.aggL ?_); done) | fail)
end Go.Lg

namespace Go.Lg
open Go.RowKit
section
variable {P : Program} {Γ : Cx} {A : Nat → Prop} {ρ : Nat → Option Nat} {s : St} {a : Act} {w : World}
theorem fz_gen (h : SRa Γ A ρ s a w) {I : Nat → Prop} (hI : ∀ b, Im Γ ρ s w b → I b) {look : Nat → Option AObj} (hlk : ∀ id o, look id = some o → s.look id = some o ∧ ∀ b, ρ id = some b → I b) {x y : AV} (hz : Fz look x y) : ∀ {v : Value}, RV A ρ I w x v → RV A ρ I w y v := by
  have hRd : ∀ b, Im Γ ρ s w b → I b ∧ w.heap[b]? = w.heap[b]? := fun b hb => ⟨hI b hb, rfl⟩
  induction hz with
  | pure hb => exact fun hx => hx
  | nil => intro v hx; rw [hx.val_eq]; exact .nils
  | @agg cs cs' hl _ ih =>
    intro v hx
    cases hx with
    | agg hlv ha hr =>
      refine .agg (by omega) ha fun i y u hy hu => ?_
      have hi : i < cs.length := by rw [← hl]; exact (List.getElem?_eq_some_iff.1 hy).1
      exact ih i _ y (List.getElem?_eq_getElem hi) hy (hr i _ u (List.getElem?_eq_getElem hi) hu)
  | @tup cs cs' hl _ ih =>
    intro v hx
    cases hx with
    | tup hlv hr =>
      refine .tup (by omega) fun i y u hy hu => ?_
      have hi : i < cs.length := by rw [← hl]; exact (List.getElem?_eq_some_iff.1 hy).1
      exact ih i _ y (List.getElem?_eq_getElem hi) hy (hr i _ u (List.getElem?_eq_getElem hi) hu)
  | @ref id k off len es ys hlook hle hl hkys hfl _ ih =>
    intro v hx
    cases hx with
    | @ref _ _ _ _ cap b hA hb hlc hcs hm =>
      obtain ⟨cs, t, hblk, hrow⟩ := h.row (hlk _ _ hlook).1 hb
      have hlen : ((es.drop off).take len).length = len := by simp; omega
      have hk' : ∀ e, e ∈ (es.drop off).take len → e.cells.length = k := fun e he => hrow.wide e (List.mem_of_mem_drop (List.mem_of_mem_take he))
      have hbd : off * k + (flat ((es.drop off).take len)).length ≤ cs.size := by
        have h1 := flat_length hrow.wide
        have h2 := flat_length hk'
        have h3 := hrow.len
        rw [h2, hlen, ← Nat.add_mul]
        have := Nat.mul_le_mul_right k hle
        omega
      have hget : ∀ j, j < (flat ys).length → cs[off * k + j]? = some (cs.getD (off * k + j) undef) := fun j hj => by
        have : off * k + j < cs.size := by omega
        simp [Array.getD, this]
      have key : ∀ j, j < (flat ys).length → ∃ u, (flat es)[off * k + j]? = some u ∧ ((flat ((es.drop off).take len))[j]? = some u) := fun j hj => by
        have hj' : j < (flat ((es.drop off).take len)).length := by omega
        refine ⟨(flat ((es.drop off).take len))[j], ?_, List.getElem?_eq_getElem hj'⟩
        rw [← sub_flat hrow.wide hle j hj']; exact List.getElem?_eq_getElem hj'
      rw [← hl]
      refine .sl (fun j => cs.getD (off * k + j) undef) ⟨by omega, hm⟩ ((hlk _ _ hlook).2 _ hb) hkys (fun j hj => by rw [cell_of_block hblk]; exact hget j hj) (fun j hj => ?_) (fun j y hy => ?_)
      · obtain ⟨u, hu, _⟩ := key j hj
        exact hrow.atoms _ _ (List.getElem?_eq_some_iff.1 hu).1 (hget j hj)
      · have hj : j < (flat ys).length := (List.getElem?_eq_some_iff.1 hy).1
        obtain ⟨u, hu, hu'⟩ := key j hj
        exact ih j u y hu' hy ((hrow.vals _ u _ hu (hget j hj)).mono (fun _ hA => ⟨hA, rfl⟩) hRd (fun _ _ hn => hn))
    | refn hA hb =>
      have : ys = [] := List.eq_nil_of_length_eq_zero hl
      subst this
      exact .nils
  | @ptr id k i j es e ys hlook he hl _ ih =>
    intro v hx
    cases hx with
    | @ptr _ _ _ _ b hA hb =>
      obtain ⟨cs, t, hblk, hrow⟩ := h.row (hlk _ _ hlook).1 hb
      have hek := hrow.wide e (List.mem_of_getElem? he)
      have hget : ∀ m, m < ys.length → (flat es)[i * k + m]? = some (e.cells[m]?.getD .any) ∧ e.cells[m]? = some (e.cells[m]?.getD .any) := fun m hm => by
        have h1 := flat_get hrow.wide i m e he (by omega)
        have h2 : e.cells[m]? = some (e.cells[m]'(by omega)) := List.getElem?_eq_getElem (by omega)
        rw [h1, h2]; exact ⟨rfl, rfl⟩
      have hlt : ∀ m, m < ys.length → i * k + m < cs.size := fun m hm => Nat.lt_of_lt_of_le (List.getElem?_eq_some_iff.1 (hget m hm).1).1 hrow.len
      refine .iptr (o := i * k) (fun m => cs.getD (i * k + m) undef) ((hlk _ _ hlook).2 _ hb) (fun m hm => ?_) (fun m hm => ?_) (fun m y hy => ?_)
      · rw [cell_of_block hblk]; simp [Array.getD, hlt m hm]
      · exact hrow.atoms _ _ (List.getElem?_eq_some_iff.1 (hget m hm).1).1 (by simp [Array.getD, hlt m hm])
      · have hm : m < ys.length := (List.getElem?_eq_some_iff.1 hy).1
        exact ih m _ y (hget m hm).2 hy ((hrow.vals _ _ _ (hget m hm).1 (by simp [Array.getD, hlt m hm])).mono (fun _ hA => ⟨hA, rfl⟩) hRd (fun _ _ hn => hn))
  | @clo fn xs ys xs' ys' h1 h2 _ _ ih3 ih4 =>
    intro v hx
    cases hx with
    | clo g1 g2 g3 g4 =>
      refine .clo (by omega) (by omega) (fun i y u hy hu => ?_) (fun i y u hy hu => ?_)
      · have hi : i < xs.length := by rw [← h1]; exact (List.getElem?_eq_some_iff.1 hy).1
        exact ih3 i _ y (List.getElem?_eq_getElem hi) hy (g3 i _ u (List.getElem?_eq_getElem hi) hu)
      · have hi : i < ys.length := by rw [← h2]; exact (List.getElem?_eq_some_iff.1 hy).1
        exact ih4 i _ y (List.getElem?_eq_getElem hi) hy (g4 i _ u (List.getElem?_eq_getElem hi) hu)
end
def St.kills (s : St) : List Nat → St
  | [] => s
  | i :: is => St.kills (s.set i none) is
theorem kills_live {is : List Nat} : ∀ {s : St} {id : Nat} {o : AObj}, (s.kills is).live id o → s.live id o ∧ id ∉ is := by
  induction is with
  | nil => exact fun h => ⟨h, by simp⟩
  | cons i is ih =>
    intro s id o h
    obtain ⟨h1, h2⟩ := ih h
    obtain ⟨h3, h4⟩ := St.live_kill h1
    exact ⟨h4, by simp [h3, h2]⟩
section
variable {P : Program} {Γ : Cx} {A : Nat → Prop} {ρ : Nat → Option Nat} {s : St} {a : Act} {w : World}
theorem SRa.kills (h : SRa Γ A ρ s a w) : ∀ is : List Nat, SRa Γ A ρ (s.kills is) a w := by
  intro is
  induction is generalizing s with
  | nil => exact h
  | cons i is ih => exact ih (h.kill i)
theorem fz_kills (h : SRa Γ A ρ s a w) (hm : Γ.m = 0) (ks : List Nat) {x y : AV} (hz : Fz (fun id => cond (ks.contains id) (s.look id) none) x y) {v : Value} (hv : RV A ρ (Im Γ ρ (s.kills ks) w) w x v) : RV A ρ (Im Γ ρ (s.kills ks) w) w y v := by
  refine fz_gen h (fun b hb => ⟨hb.1, hb.2.1, fun i o hl => hb.2.2 i o (kills_live hl).1⟩) (fun id o hl => ?_) hz hv
  cases hc : ks.contains id with
  | false => rw [hc] at hl; cases hl
  | true =>
    rw [hc] at hl
    have hl : s.look id = some o := hl
    refine ⟨hl, fun b hb => ?_⟩
    have hlive := St.look_some.1 hl
    refine ⟨.inr ?_, ?_, fun i o' hl' hr => ?_⟩
    · rcases h.own id _ b hlive hb with h1 | ⟨i, hi, _⟩
      · exact h1
      · rw [hm] at hi; exact absurd hi (Nat.not_lt_zero i)
    · have ho := h.obj id o hlive
      rw [hb] at ho
      cases o with
      | arr k es => obtain ⟨cs, t, h1, _⟩ := ho; exact World.lt_of_block h1
      | map m => obtain ⟨cs, t, h1, _⟩ := ho; exact World.lt_of_block h1
      | bytes l => obtain ⟨cs, h1, _⟩ := ho; exact World.lt_of_block h1
      | bld T x => obtain ⟨p, v, h1, _⟩ := ho; exact World.lt_of_block h1
      | lop c ts => obtain ⟨tm, df, h1, _⟩ := ho; exact World.lt_of_block h1
    · obtain ⟨q1, q2⟩ := kills_live hl'
      have := h.inj i id o' _ b q1 hlive hr hb
      subst this
      exact q2 (by simpa using hc)
end
section
variable {P : Program} {Γ : Cx} {n M : Nat} {l : List (Nat × AV)} {os : List (Nat × Option AObj)} {Q : Exit → St → Prop}
theorem S_kills : ∀ (ks : List Nat) (os : List (Nat × Option AObj)), (S n l M os).kills ks = S n l M ((ks.reverse.map fun i => (i, none)) ++ os)
  | [], os => rfl
  | i :: ks, os => by
    have e : (S n l M os).set i none = S n l M ((i, none) :: os) := by simp [S, St.set, ol_set]
    rw [St.kills, e, S_kills ks]
    simp
theorem wp_fzO {c : Code} (ks : List Nat) (ido : Nat) {k : Nat} {x : AV} (y : AV) (hm : Γ.m = 0) (hid : ks.contains ido = false) (hob : lookq M os ido = some (.arr k [x])) (hz : Fz (fun id => cond (ks.contains id) (lookq M os id) none) x y)
    (hw : WP P Γ c Q (S n l M ((ido, some (.arr k [y])) :: (ks.reverse.map fun i => (i, none)) ++ os))) : WP P Γ c Q (S n l M os) := fun a w hs => by
  refine hw a w ?_
  obtain ⟨ρ, hs⟩ := hs
  have h1 := hs.kills ks
  have hlook := St.look_some.1 (by rw [S_look]; exact hob : (S n l M os).look ido = some (.arr k [x]))
  have hwide : x.cells.length = k := by
    have := hs.obj ido _ hlook
    cases hr : ρ ido with
    | none => rw [hr] at this; obtain ⟨_, h2⟩ := this.resolve_left (by simp); cases h2
    | some b => rw [hr] at this; obtain ⟨_, _, _, _, h3, _⟩ := this; exact h3 x (by simp)
  have hz' : Fz (fun id => cond (ks.contains id) ((S n l M os).look id) none) x y := by simpa only [S_look] using hz
  obtain ⟨c1, c2⟩ := hz'.cells
  have hlt : ido < M := by
    simp only [lookq] at hob
    cases hb : Nat.blt ido M with
    | false => rw [hb] at hob; simp at hob
    | true => exact blt_of hb
  have hni : ido ∉ ks := by simpa using hid
  have hob' : ((S n l M os).kills ks).live ido (.arr k [x]) := by
    have gen : ∀ (ks : List Nat) (s : St), ido ∉ ks → s.live ido (.arr k [x]) → (s.kills ks).live ido (.arr k [x]) := by
      intro ks
      induction ks with
      | nil => exact fun s _ h => h
      | cons i ks ih =>
        intro s hn h
        simp only [List.mem_cons, not_or] at hn
        refine ih _ hn.2 ?_
        simp only [St.live, St.set_objs] at h ⊢
        rw [List.getElem?_set_ne (fun e => hn.1 e.symm)]; exact h
    exact gen ks _ hni hlook
  have h2 := h1.recell hob' (es' := [y]) (by simp [flat, c1]) (by simp [c1, hwide]) (by simp) (fun j u v hu hv v' hrv => by
    simp only [flat, List.flatMap_cons, List.flatMap_nil, List.append_nil] at hu hv
    exact fz_kills hs hm ks (c2 j u v hu hv) hrv)
  have e : (((S n l M os).kills ks).set ido (some (.arr k [y]))) = S n l M ((ido, some (.arr k [y])) :: (ks.reverse.map fun i => (i, none)) ++ os) := by
    rw [S_kills]; simp [S, St.set, ol_set]
  rw [e] at h2
  refine ⟨ρ, ?_⟩
  have eM : (S n l M os).objs.length = (S n l M ((ido, some (AObj.arr k [y])) :: (ks.reverse.map fun i => (i, none)) ++ os)).objs.length := by simp [S, ol_length]
  rw [eM] at h2
  exact h2
end
end Go.Lg

namespace Go.Lg
open Go.Proofs
set_option linter.unusedSimpArgs false
set_option linter.unusedVariables false
attribute [local irreducible] Ap Rq asemC WP RunD Ret Gq thenA inBlockA bodyQ noGotoA RqL RqP OpP
set_option maxHeartbeats 8000000
set_option maxRecDepth 20000
attribute [local simp] AV.cells casA
theorem same24_fn (a b : List Int) : Fn Try.prog 20 [intsA a, intsA b] (boolA (decide (a = b))) := by
  have h := same21_fn [a] [b]
  rw [show decide ([a] = [b]) = decide (a = b) by simp] at h
  refine Fn.intro rfl (by kernel_rfl) Try.func20 rfl rfl Try.ntmps20 (by exact Nat.le_of_ble_eq_true rfl) ?_; intro Γ hm
  (repeat' (first | apply jA | apply jH | apply jK | apply jS | (refine WP.regionC (id := 0) ?_; (refine sassign rfl ?_); apply jW) | (refine WP.regionC (id := 1) ?_; (refine smove rfl ?_); (refine se_lit (OpP.cons rfl (OpP.nil)) rfl rfl rfl rfl rfl rfl ?_); (refine smove rfl ?_); (refine se_lit (OpP.cons rfl (OpP.nil)) rfl rfl rfl rfl rfl rfl ?_); (refine sc_b rfl rfl (by first | ((repeat' first | exact FzL.nil | refine FzL.cons ?_ ?_ | (exact Fz.list rfl rfl (fun _ => by simp [AV.bd, bdL, bdL_append]) (fun _ => rfl))); done) | fail) (h) rfl ?_); (refine sassign rfl ?_); apply jW) | exact ret_eq rfl rfl rfl))
noncomputable def fairG (x : Cas) : Nrm × Bool := if (decide (x.g.terms.length ≤ 6) && decide (x.g.nonterms.length ≤ 8) && decide (x.g.rules.length ≤ 16) && validG x.g) = true ∧ nodesW x.t ≤ 200 ∧ sizeW x.p ≤ 300 then ((binG x.g).1, decide ((binG x.g).2 = 0)) else (⟨0, 0, 0, []⟩, false)
def bb (n : UInt8) : ByteArray := ⟨#[n]⟩
def exG : Gram := ⟨[bb 97, bb 98], [bb 83], 0, [⟨0, [0, -1, 1], 2⟩, ⟨0, [], 0⟩]⟩
def exN : Nrm := ⟨2, 4, 0, [⟨4, 0, 1, 3, 2, 0⟩, ⟨4, 3, 0, 2, 0, -1⟩, ⟨1, 0, 0, 0, 0, 1⟩, ⟨2, 1, 0, 0, 0, -1⟩, ⟨2, 2, 1, 0, 0, -1⟩]⟩
def exP : Prs := .mk 0 [.mk 3 [], .mk 1 [.mk 2 [], .mk 4 []]]
def exT : Tre := .mk 0 0 [.mk (-1) 0 [], .mk 1 0 [], .mk (-1) 1 []]
theorem ex_bin : binG exG = (exN, 0) := by decide +kernel
theorem ex_mat : matG exG exN = true := by unfold matG; rw [ex_bin]; decide +kernel
theorem ex_ok : okP exN 0 exP = true := by decide +kernel
theorem ex_no : okP exN 1 exP = false := by decide +kernel
theorem ex_okT : okT exG (-1) exT = true := by decide +kernel
theorem ex_val : validN exN = true := by decide +kernel
theorem ex_to : toTF exG (szP exP) exP = exT := by kernel_rfl
theorem ex_from : fromTF exG (szT exT) exT = exP := by kernel_rfl
theorem ex_yield : yieldP exN exP = [0, 1] := by decide +kernel
theorem ex_price : priceP exN exP = 2 := by decide +kernel
theorem ex_toG : toTreeG exG exN exP = (exT, 0) := by
  unfold toTreeG
  rw [if_pos ⟨ex_mat, by decide, by decide, by decide, ex_ok⟩, ex_to]
theorem ex_fromG : fromTreeG exG exN exT = (exP, 0) := by
  unfold fromTreeG
  rw [if_pos ⟨ex_mat, by decide, by decide, ex_okT⟩, ex_from]
theorem example24_fn : Fn Try.prog 35 [] (.tup [gramA exG, nrmA exN]) := by
  refine Fn.intro rfl (by kernel_rfl) Try.func35 rfl rfl Try.ntmps35 (by exact Nat.le_of_ble_eq_true rfl) ?_; intro Γ hm
  (repeat' (first | apply jA | apply jH | apply jK | apply jS | (refine WP.regionC (id := 0) ?_; (refine se_alloc rfl ?_); (refine se_alloc rfl ?_); apply jW) | (refine WP.regionC (id := 1) ?_; (refine se_lit (OpP.cons rfl (OpP.cons rfl (OpP.nil))) rfl rfl rfl rfl rfl rfl ?_); (refine se_lit (OpP.cons rfl (OpP.nil)) rfl rfl rfl rfl rfl rfl ?_); (refine se_lit (OpP.cons rfl (OpP.cons rfl (OpP.cons rfl (OpP.nil)))) rfl rfl rfl rfl rfl rfl ?_); (refine su (ap_build (RqP.cons (rq_p rfl rfl) (RqP.cons (rq_p rfl rfl) (RqP.nil))) rfl) ?_); (refine su (ap_build (RqP.nil) rfl) ?_); (refine se_lit (OpP.cons rfl (OpP.cons rfl (OpP.nil))) rfl rfl rfl rfl rfl rfl ?_); (refine su (ap_build (RqP.cons (rq_p rfl rfl) (RqP.cons (rq_p rfl rfl) (RqP.cons (rq_p rfl rfl) (RqP.nil)))) rfl) ?_); (refine se_alloc rfl ?_); (refine se_store_b rfl rfl rfl rfl ?_); apply jW) | (refine WP.regionC (id := 2) ?_; (refine su (ap_build (RqP.cons (rq_p rfl rfl) (RqP.cons (rq_p rfl rfl) (RqP.cons (rq_p rfl rfl) (RqP.cons (rq_p rfl rfl) (RqP.nil))))) rfl) ?_); (refine su (ap_build (RqP.cons (rq_p rfl rfl) (RqP.cons (rq_p rfl rfl) (RqP.cons (rq_p rfl rfl) (RqP.cons (rq_p rfl rfl) (RqP.cons (rq_p rfl rfl) (RqP.nil)))))) rfl) ?_); (refine su (ap_build (RqP.cons (rq_p rfl rfl) (RqP.cons (rq_p rfl rfl) (RqP.nil))) rfl) ?_); (refine su (ap_build (RqP.cons (rq_p rfl rfl) (RqP.cons (rq_p rfl rfl) (RqP.cons (rq_p rfl rfl) (RqP.nil)))) rfl) ?_); (refine su (ap_build (RqP.cons (rq_p rfl rfl) (RqP.cons (rq_p rfl rfl) (RqP.cons (rq_p rfl rfl) (RqP.cons (rq_p rfl rfl) (RqP.nil))))) rfl) ?_); (refine se_lit (OpP.cons rfl (OpP.cons rfl (OpP.cons rfl (OpP.cons rfl (OpP.cons rfl (OpP.nil)))))) rfl rfl rfl rfl rfl rfl ?_); (refine su (ap_build (RqP.cons (rq_p rfl rfl) (RqP.cons (rq_p rfl rfl) (RqP.cons (rq_p rfl rfl) (RqP.nil)))) rfl) ?_); (refine se_alloc rfl ?_); (refine se_store_b rfl rfl rfl rfl ?_); apply jW) | (refine wp_draw (id := 3) 4 mixed (by kernel_rfl) (by kernel_rfl) rfl ?_ <;> (refine rd_u rfl rfl (aloadpw rfl rfl rfl rfl) ?_) <;> (refine rd_u rfl rfl (aloadpw rfl rfl rfl rfl) ?_) <;> (refine rd_store_b rfl rfl rfl rfl ?_) <;> (refine rd_store_b rfl rfl rfl rfl ?_) <;> (refine rd_end (by kernel_rfl) ?_))))
  exact ret_many (.cellT rfl rfl rfl rfl (.cellT rfl rfl rfl rfl .nil)) (Nat.le_of_ble_eq_true rfl) (by first | ((repeat' first | exact FzL.nil | refine FzL.cons ?_ ?_ | exact Fz.nil | (exact Fz.list rfl rfl (fun _ => by simp [AV.bd, bdL, bdL_append]) (fun _ => rfl)) | (exact Fz.reflp (by simp [AV.bd, bdL, bdL_append])) | refine Fz.rowL rfl rfl rfl ?_ | refine Fz.aggL ?_); done) | fail)
theorem awake24_fn : Fn Try.prog 9 [] (boolA true) := by
  have hb := binarize_fn exG
  rw [ex_bin] at hb
  have ht := toTreeP_fn exG exN exP
  rw [ex_toG] at ht
  have hf := fromTreeP_fn exG exN exT
  rw [ex_fromG] at hf
  have hqe := requal24_fn exN exN
  rw [decide_eq_true rfl] at hqe
  have hv := bvalid_fn exN
  rw [ex_val] at hv
  have hz := bvalid_fn ⟨0, 0, 0, []⟩
  rw [show validN ⟨0, 0, 0, []⟩ = false from rfl] at hz
  have hp0 := validParse_fn exN exP 0
  rw [ex_ok] at hp0
  have hp1 := validParse_fn exN exP 1
  rw [ex_no] at hp1
  have hy := yield24_fn exN exP 0 ex_ok (by decide)
  rw [ex_yield] at hy
  have hpr := price24_fn ex_val exP 0 ex_ok (by decide)
  rw [ex_price] at hpr
  have het := equalTree_fn exT exT
  rw [decide_eq_true rfl] at het
  have hep := equalParse_fn exP exP
  rw [decide_eq_true rfl] at hep
  refine Fn.intro rfl (by kernel_rfl) Try.func9 rfl rfl Try.ntmps9 (by exact Nat.le_of_ble_eq_true rfl) ?_; intro Γ hm
  (repeat' (first | apply jA | apply jH | (refine WP.regionC (id := 0) ?_; (refine sassign rfl ?_); apply jW) | (refine WP.regionC (id := 1) ?_; (refine sc_p rfl rfl (by first | ((repeat' (exact SubL.nil)); done) | fail) (by first | (simp [bdL, bdL_append, AV.bd]; done) | fail) (example24_fn) ?_); (refine smove rfl ?_); (refine su (aextract rfl rfl) ?_); (refine su (aextract rfl rfl) ?_); (refine se_alloc rfl ?_); (refine se_alloc rfl ?_); (refine se_store_b rfl rfl rfl rfl ?_); (refine se_store_b rfl rfl rfl rfl ?_); apply jW) | (refine WP.regionC (id := 2) ?_; (refine sloadpw rfl rfl rfl rfl ?_); (refine sc_p rfl rfl (by first | ((repeat' first | exact SubL.nil | refine SubL.cons ?_ ?_ | exact Sub.refl); done) | fail) (by first | (simp [bdL, bdL_append, AV.bd]; done) | fail) (hb) ?_); (refine smove rfl ?_); (refine su (aextract rfl rfl) ?_); (refine su (aextract rfl rfl) ?_); (refine se_alloc rfl ?_); (refine se_store_b rfl rfl rfl rfl ?_); (refine sassign rfl ?_); apply jW) | (refine WP.regionC (id := 3) ?_; (refine su (ap_build (RqP.cons (rq_p rfl rfl) (RqP.nil)) rfl) ?_); (refine su (ap_build (RqP.cons (rq_p rfl rfl) (RqP.nil)) rfl) ?_); (refine su (ap_build (RqP.cons (rq_p rfl rfl) (RqP.nil)) rfl) ?_); (refine se_lit (OpP.cons rfl (OpP.cons rfl (OpP.nil))) rfl rfl rfl rfl rfl rfl ?_); (refine su (ap_build (RqP.cons (rq_p rfl rfl) (RqP.cons (rq_p rfl rfl) (RqP.nil))) rfl) ?_); (refine se_lit (OpP.cons rfl (OpP.cons rfl (OpP.nil))) rfl rfl rfl rfl rfl rfl ?_); (refine su (ap_build (RqP.cons (rq_p rfl rfl) (RqP.cons (rq_p rfl rfl) (RqP.nil))) rfl) ?_); (refine se_alloc rfl ?_); (refine se_store_b rfl rfl rfl rfl ?_); apply jW) | (refine WP.regionC (id := 4) ?_; (refine su (ap_build (RqP.cons (rq_p rfl rfl) (RqP.nil)) rfl) ?_); (refine su (ap_build (RqP.cons (rq_p rfl rfl) (RqP.nil)) rfl) ?_); (refine su (ap_build (RqP.cons (rq_p rfl rfl) (RqP.cons (rq_p rfl rfl) (RqP.nil))) rfl) ?_); (refine se_lit (OpP.cons rfl (OpP.cons rfl (OpP.cons rfl (OpP.nil)))) rfl rfl rfl rfl rfl rfl ?_); (refine su (ap_build (RqP.cons (rq_p rfl rfl) (RqP.cons (rq_p rfl rfl) (RqP.nil))) rfl) ?_); (refine se_alloc rfl ?_); (refine se_store_b rfl rfl rfl rfl ?_); apply jW)))
  refine wp_fzO [4, 3] 5 (.agg [intA 0, .sl 2 [.agg [intA 3, .sl 2 []], .agg [intA 1, .sl 2 [.agg [intA 2, .sl 2 []], .agg [intA 4, .sl 2 []]]]]]) hm rfl rfl (by first | ((repeat' first | exact FzL.nil | refine FzL.cons ?_ ?_ | exact Fz.nil | (exact Fz.reflp (by simp [AV.bd, bdL, bdL_append])) | refine Fz.rowL rfl rfl rfl ?_ | refine Fz.aggL ?_); done) | fail) ?_
  refine wp_fzO [6] 7 (.agg [intA 0, intA 0, .sl 3 [.agg [intA (-1), intA 0, .sl 3 []], .agg [intA 1, intA 0, .sl 3 []], .agg [intA (-1), intA 1, .sl 3 []]]]) hm rfl rfl (by first | ((repeat' first | exact FzL.nil | refine FzL.cons ?_ ?_ | exact Fz.nil | (exact Fz.reflp (by simp [AV.bd, bdL, bdL_append])) | refine Fz.rowL rfl rfl rfl ?_ | refine Fz.aggL ?_); done) | fail) ?_
  refine wp_st (S 117 [(1, .ptr 0 4 0 0), (2, .ptr 1 4 0 0), (3, .ptr 2 4 0 0), (4, intA 0), (5, .ptr 3 2 0 0), (6, .ptr 4 3 0 0)] 5 [(0, some (.arr 4 [gramA exG])), (1, some (.arr 4 [nrmA exN])), (2, some (.arr 4 [nrmA exN])), (3, some (.arr 2 [prsA exP])), (4, some (.arr 3 [treA exT]))]) ⟨[0, 1, 2, 5, 7], ToR.S rfl (by repeat' (first | exact rt_nil | refine rt_t rfl rfl ?_ | refine rt_e rfl rfl ?_)) (by repeat' (first | exact ro_nil | refine ro_e rfl rfl ?_)) rfl (by (rw [hm]; exact rfl)) rfl (by (simp [bdT, AV.bd, bdL, bdL_append]; done)) (by repeat' (first | exact True.intro | exact rfl | refine And.intro ?_ ?_)) (by (rw [hm]; exact Nat.le_of_ble_eq_true rfl))⟩ ?_
  (repeat' (first | apply jA | apply jH | apply jI | apply jK | apply jM | apply jS | (refine wp_cond rfl (fun hc => ?_) (fun hc => ?_) <;> (try simp only [sB, ne_eq, reduceCtorEq] at hc) <;> (try (exfalso; omega))) | (refine WP.regionC (id := 5) ?_; (refine sloadpw rfl rfl rfl rfl ?_); (refine sloadpw rfl rfl rfl rfl ?_); (refine sloadpw rfl rfl rfl rfl ?_); (refine sc_p rfl rfl (by first | ((repeat' first | exact SubL.nil | refine SubL.cons ?_ ?_ | exact Sub.refl); done) | fail) (by first | (simp [bdL, bdL_append, AV.bd]; done) | fail) (ht) ?_); (refine smove rfl ?_); (refine su (aextract rfl rfl) ?_); (refine su (aextract rfl rfl) ?_); (refine se_alloc rfl ?_); (refine se_store_b rfl rfl rfl rfl ?_); (refine sassign rfl ?_); apply jW) | (refine WP.regionC (id := 6) ?_; (refine sloadpw rfl rfl rfl rfl ?_); (refine sloadpw rfl rfl rfl rfl ?_); (refine sloadpw rfl rfl rfl rfl ?_); (refine sc_p rfl rfl (by first | ((repeat' first | exact SubL.nil | refine SubL.cons ?_ ?_ | exact Sub.refl); done) | fail) (by first | (simp [bdL, bdL_append, AV.bd]; done) | fail) (hf) ?_); (refine smove rfl ?_); (refine su (aextract rfl rfl) ?_); (refine su (aextract rfl rfl) ?_); (refine se_alloc rfl ?_); (refine se_store_b rfl rfl rfl rfl ?_); (refine sassign rfl ?_); apply jW) | (refine WP.regionC (id := 7) ?_; (refine smove rfl ?_); (refine su (aneq rfl rfl) ?_); (refine smove rfl ?_); (refine sg (gq_vf rfl rfl) (fun he => ap_move (rq_p rfl rfl)) ?_); (refine sg (gq_vf rfl rfl) (fun he => ap_neq (rq_c rfl rfl) (rq_p rfl rfl)) ?_); (refine su (ap_or (rq_p rfl rfl) (rq_c rfl rfl)) ?_); (refine smove rfl ?_); (refine sg (gq_vf rfl rfl) (fun he => ap_move (rq_p rfl rfl)) ?_); (refine sg (gq_vf rfl rfl) (fun he => ap_neq (rq_c rfl rfl) (rq_p rfl rfl)) ?_); (refine su (ap_or (rq_p rfl rfl) (rq_c rfl rfl)) ?_); (refine smove rfl ?_); (refine sg (gq_vf rfl rfl) (fun he => ap_load_pw (rq_p rfl rfl) rfl rfl rfl) ?_); (refine sg (gq_vf rfl rfl) (fun he => ap_load_pw (rq_p rfl rfl) rfl rfl rfl) ?_); (refine sg_p (gq_vf rfl rfl) (fun he => ⟨(rq_p rfl rfl), (RqL.cons (rq_c rfl rfl) (RqL.cons (rq_c rfl rfl) (RqL.nil))), (by first | ((repeat' first | exact SubL.nil | refine SubL.cons ?_ ?_ | exact Sub.refl); done) | fail), (by first | (simp [bdL, bdL_append, AV.bd]; done) | fail), hqe⟩) ?_); (refine sg (gq_vf rfl rfl) (fun he => ap_not (rq_c rfl rfl)) ?_); (refine su (ap_or (rq_p rfl rfl) (rq_c rfl rfl)) ?_); (refine smove rfl ?_); (refine sg (gq_vf rfl rfl) (fun he => ap_load_pw (rq_p rfl rfl) rfl rfl rfl) ?_); (refine sg_p (gq_vf rfl rfl) (fun he => ⟨(rq_p rfl rfl), (RqL.cons (rq_c rfl rfl) (RqL.nil)), (by first | ((repeat' first | exact SubL.nil | refine SubL.cons ?_ ?_ | exact Sub.refl); done) | fail), (by first | (simp [bdL, bdL_append, AV.bd]; done) | fail), hv⟩) ?_); (refine sg (gq_vf rfl rfl) (fun he => ap_not (rq_c rfl rfl)) ?_); (refine su (ap_or (rq_p rfl rfl) (rq_c rfl rfl)) ?_); (refine smove rfl ?_); (refine sg (gq_vf rfl rfl) (fun he => ap_build (RqP.nil) rfl) ?_); (refine sg_p (gq_vf rfl rfl) (fun he => ⟨(rq_p rfl rfl), (RqL.cons (rq_c rfl rfl) (RqL.nil)), (by first | ((repeat' first | exact SubL.nil | refine SubL.cons ?_ ?_ | exact Sub.refl | exact Sub.nil | refine Sub.aggL ?_); done) | fail), (by first | (simp [bdL, bdL_append, AV.bd]; done) | fail), hz⟩) ?_); (refine su (ap_or (rq_p rfl rfl) (rq_c rfl rfl)) ?_); (refine smove rfl ?_); (refine sg (gq_vf rfl rfl) (fun he => ap_load_pw (rq_p rfl rfl) rfl rfl rfl) ?_); (refine sg (gq_vf rfl rfl) (fun he => ap_load_pw (rq_p rfl rfl) rfl rfl rfl) ?_); (refine sg_p (gq_vf rfl rfl) (fun he => ⟨(rq_p rfl rfl), (RqL.cons (rq_c rfl rfl) (RqL.cons (rq_p rfl rfl) (RqL.cons (rq_c rfl rfl) (RqL.nil)))), (by first | ((repeat' first | exact SubL.nil | refine SubL.cons ?_ ?_ | exact Sub.refl); done) | fail), (by first | (simp [bdL, bdL_append, AV.bd]; done) | fail), hp0⟩) ?_); (refine sg (gq_vf rfl rfl) (fun he => ap_not (rq_c rfl rfl)) ?_); (refine su (ap_or (rq_p rfl rfl) (rq_c rfl rfl)) ?_); (refine smove rfl ?_); (refine sg (gq_vf rfl rfl) (fun he => ap_load_pw (rq_p rfl rfl) rfl rfl rfl) ?_); (refine sg (gq_vf rfl rfl) (fun he => ap_load_pw (rq_p rfl rfl) rfl rfl rfl) ?_); (refine sg_p (gq_vf rfl rfl) (fun he => ⟨(rq_p rfl rfl), (RqL.cons (rq_c rfl rfl) (RqL.cons (rq_p rfl rfl) (RqL.cons (rq_c rfl rfl) (RqL.nil)))), (by first | ((repeat' first | exact SubL.nil | refine SubL.cons ?_ ?_ | exact Sub.refl); done) | fail), (by first | (simp [bdL, bdL_append, AV.bd]; done) | fail), hp1⟩) ?_); (refine su (ap_or (rq_p rfl rfl) (rq_c rfl rfl)) ?_); apply jW) | (refine WP.regionC (id := 8) ?_; (refine sassign rfl ?_); apply jW) | refine ret_b rfl ?_))
  · exfalso; simp at hc
  refine wp_st (S 117 [(2, .ptr 1 4 0 0), (5, .ptr 3 2 0 0), (6, .ptr 4 3 0 0), (7, .ptr 5 3 0 0), (9, .ptr 6 2 0 0)] 7 [(0, some (.arr 4 [gramA exG])), (1, some (.arr 4 [nrmA exN])), (2, some (.arr 4 [nrmA exN])), (3, some (.arr 2 [prsA exP])), (4, some (.arr 3 [treA exT])), (5, some (.arr 3 [treA exT])), (6, some (.arr 2 [prsA exP]))]) ⟨[0, 1, 2, 3, 4, 5, 6], ToR.S rfl (by repeat' (first | exact rt_nil | refine rt_t rfl rfl ?_)) (by repeat' (first | exact ro_nil | refine ro_e rfl rfl ?_)) rfl (by (rw [hm]; exact rfl)) rfl (by (simp [bdT, AV.bd, bdL, bdL_append]; done)) (by repeat' (first | exact True.intro | exact rfl | refine And.intro ?_ ?_)) (by (rw [hm]; exact Nat.le_of_ble_eq_true rfl))⟩ ?_
  (repeat' (first | apply jA | apply jH | apply jK | apply jS | (refine WP.regionC (id := 9) ?_; (refine sloadpw rfl rfl rfl rfl ?_); (refine sloadpw rfl rfl rfl rfl ?_); (refine sc_p rfl rfl (by first | ((repeat' first | exact SubL.nil | refine SubL.cons ?_ ?_ | exact Sub.refl); done) | fail) (by first | (simp [bdL, bdL_append, AV.bd]; done) | fail) (hy) ?_); (refine sassign rfl ?_); apply jW) | (refine WP.regionC (id := 10) ?_; (refine sloadpw rfl rfl rfl rfl ?_); (refine sloadpw rfl rfl rfl rfl ?_); (refine sc_p rfl rfl (by first | ((repeat' first | exact SubL.nil | refine SubL.cons ?_ ?_ | exact Sub.refl); done) | fail) (by first | (simp [bdL, bdL_append, AV.bd]; done) | fail) (het) ?_); (refine smove rfl ?_); (refine sg (gq_vt rfl rfl) (fun he => ap_load_pw (rq_p rfl rfl) rfl rfl rfl) ?_); (refine sg (gq_vt rfl rfl) (fun he => ap_load_pw (rq_p rfl rfl) rfl rfl rfl) ?_); (refine sg_p (gq_vt rfl rfl) (fun he => ⟨(rq_p rfl rfl), (RqL.cons (rq_c rfl rfl) (RqL.cons (rq_c rfl rfl) (RqL.nil))), (by first | ((repeat' first | exact SubL.nil | refine SubL.cons ?_ ?_ | exact Sub.refl); done) | fail), (by first | (simp [bdL, bdL_append, AV.bd]; done) | fail), hep⟩) ?_); (refine su (ap_and (rq_p rfl rfl) (rq_c rfl rfl)) ?_); (refine smove rfl ?_); (refine sg (gq_vt rfl rfl) (fun he => ap_move (rq_p rfl rfl)) ?_); (refine sg (gq_vt rfl rfl) (fun he => ap_len_m rfl (rq_c rfl rfl)) ?_); (refine sg (gq_vt rfl rfl) (fun he => ap_eql (rq_c rfl rfl) (rq_p rfl rfl)) ?_); (refine su (ap_and (rq_p rfl rfl) (rq_c rfl rfl)) ?_); (refine smove rfl ?_); (refine sg (gq_vt rfl rfl) (fun he => ap_move (rq_p rfl rfl)) ?_); (refine sg (gq_vt rfl rfl) (fun he => ap_idx_n (rq_c rfl rfl) (rq_p rfl rfl) (by (try simp only [sH, id, sB, ne_eq, reduceCtorEq] at he); (simp only [sL] <;> omega))) ?_); (refine sg (gq_vt rfl rfl) (fun he => ap_load_w (rq_c rfl rfl) rfl) ?_); (refine sg (gq_vt rfl rfl) (fun he => ap_eql (rq_c rfl rfl) (rq_p rfl rfl)) ?_); (refine su (ap_and (rq_p rfl rfl) (rq_c rfl rfl)) ?_); (refine smove rfl ?_); (refine sg (gq_vt rfl rfl) (fun he => ap_move (rq_p rfl rfl)) ?_); (refine sg (gq_vt rfl rfl) (fun he => ap_idx_n (rq_c rfl rfl) (rq_p rfl rfl) (by (try simp only [sH, id, sB, ne_eq, reduceCtorEq] at he); (simp only [sL] <;> omega))) ?_); (refine sg (gq_vt rfl rfl) (fun he => ap_load_w (rq_c rfl rfl) rfl) ?_); (refine sg (gq_vt rfl rfl) (fun he => ap_eql (rq_c rfl rfl) (rq_p rfl rfl)) ?_); (refine su (ap_and (rq_p rfl rfl) (rq_c rfl rfl)) ?_); (refine smove rfl ?_); (refine sg (gq_vt rfl rfl) (fun he => ap_load_pw (rq_p rfl rfl) rfl rfl rfl) ?_); (refine sg (gq_vt rfl rfl) (fun he => ap_load_pw (rq_p rfl rfl) rfl rfl rfl) ?_); (refine sg_p (gq_vt rfl rfl) (fun he => ⟨(rq_p rfl rfl), (RqL.cons (rq_c rfl rfl) (RqL.cons (rq_c rfl rfl) (RqL.nil))), (by first | ((repeat' first | exact SubL.nil | refine SubL.cons ?_ ?_ | exact Sub.refl); done) | fail), (by first | (simp [bdL, bdL_append, AV.bd]; done) | fail), hpr⟩) ?_); (refine sg (gq_vt rfl rfl) (fun he => ap_eql (rq_c rfl rfl) (rq_p rfl rfl)) ?_); (refine su (ap_and (rq_p rfl rfl) (rq_c rfl rfl)) ?_); (refine sassign rfl ?_); apply jW) | exact ret_eq rfl rfl rfl))
end Go.Lg

namespace Go.Lg
open Go.Proofs
set_option linter.unusedSimpArgs false
set_option linter.unusedVariables false
attribute [local irreducible] Ap Rq asemC WP RunD Ret Gq thenA inBlockA bodyQ noGotoA RqL RqP OpP
set_option maxHeartbeats 8000000
set_option maxRecDepth 20000
attribute [local simp] AV.cells casA
end Go.Lg

namespace Go.Lg
mutual
theorem sizeP_sz : ∀ p : Prs, sizeP p = szP p
  | .mk _ l => by rw [sizeP, szP, sizePL_sz l]; omega
theorem sizePL_sz : ∀ l : List Prs, sizePL l = szPL l
  | [] => by rw [sizePL, szPL]; rfl
  | p :: l => by rw [sizePL, szPL, sizeP_sz p, sizePL_sz l]; omega
end
theorem wrap_lo {x : Int} (h0 : 0 ≤ x) (h1 : x ≤ 1048577) : IntKind.wrap .i64 x = x := by
  simp only [IntKind.wrap, IntKind.signed, IntKind.bits]
  simp
  omega
mutual
theorem sizeW_small : ∀ p : Prs, szP p ≤ 1048576 → sizeW p = szP p
  | .mk _ l, h => by
    rw [szP] at h
    rw [sizeW, szP]
    have := sizeWL_small l 1 (by omega) (by omega)
    omega
theorem sizeWL_small : ∀ (l : List Prs) (n : Nat), 1 ≤ n → n + szPL l ≤ 1048577 → sizeWL l n = (n + szPL l : Nat)
  | [], n, _, _ => by rw [sizeWL, szPL, Nat.add_zero]
  | p :: l, n, h0, h => by
    rw [szPL] at h ⊢
    have h1 := sizeW_small p (by omega)
    have h2 := sizeWL_small l (n + szP p) (by omega) (by omega)
    rw [sizeWL, h1, wrap_lo (by omega) (by omega), show ((n : Int) + (szP p : Nat)) = ((n + szP p : Nat) : Int) by omega, h2, Nat.add_assoc]
end
section
variable {g : Gram}
structure FromW (g : Gram) (x : Int) (t : Tre) (p : Prs) : Prop where
  ok : okP (nrmOf g) (-1 - x) p = true
  yl : yieldP (nrmOf g) p = leavesT t
  pr : priceP (nrmOf g) p = priceT g t
  back : toTF g (szP p) p = t
  sz : szP p ≤ 2 * szT t
structure ToW (g : Gram) (h : Int) (p : Prs) (t : Tre) : Prop where
  ok : okT g (-1 - h) t = true
  yl : leavesT t = yieldP (nrmOf g) p
  pr : priceT g t = priceP (nrmOf g) p
  back : fromTF g (szT t) t = p
  sz : szT t ≤ 2 * szP p
  r0 : 0 ≤ t.rule
  rn : t.rule < g.rules.length
  hd : (nth g.rules t.rule.toNat).head = h
  h0 : 0 ≤ h
end
end Go.Lg

namespace Go.Lg
open Go.Proofs
set_option linter.unusedSimpArgs false
set_option linter.unusedVariables false
attribute [local irreducible] Ap Rq asemC WP RunD Ret Gq thenA inBlockA bodyQ noGotoA RqL RqP OpP
set_option maxHeartbeats 8000000
set_option maxRecDepth 20000
attribute [local simp] AV.cells casA
theorem law_vparse (n : Nrm) (h : Int) (p : Prs) (hsz : szP p ≤ 1048576) : Fn Try.prog 5 [nrmA n, intA h, prsA p] (boolA true) := by
  have h1 := small24_fn n
  have h2 := size24_fn p
  have h3 := rvalidParse_fn n p h
  have h4 := validParse_fn n p h
  have hw := sizeW_small p hsz
  have hp := sizeP_sz p
  by_cases hok : okP n h p = true ∧ szP p ≤ 300 ∧ validN n = true
  · obtain ⟨hok, hle, hv⟩ := hok
    have h5 := yield24_fn n p h hok (by omega)
    have h6 := ryield24_fn n p h hok (by omega)
    have h7 := price24_fn hv p h hok (by omega)
    have h8 := rprice24_fn hv p h hok (by omega)
    have h9 := same24_fn (yieldP n p) (yieldP n p)
    rw [decide_eq_true rfl] at h9
    rw [hok] at h3 h4
    rw [prsA_kids] at h2 h3 h4 h5 h6 h7 h8 ⊢
    refine Fn.intro rfl (by kernel_rfl) Try.func5 rfl rfl Try.ntmps5 (by exact Nat.le_of_ble_eq_true rfl) ?_; intro Γ hm
    (repeat' (first | apply jA | apply jH | apply jI | apply jK | apply jM | apply jS | (refine wp_cond rfl (fun hc => ?_) (fun hc => ?_) <;> (try simp only [sB, ne_eq, reduceCtorEq] at hc) <;> (try (exfalso; omega))) | (refine WP.regionC (id := 0) ?_; (refine se_box rfl (by exact ⟨rfl, rfl⟩) ?_); (refine se_box rfl (by exact ⟨rfl, rfl⟩) ?_); (refine sassign rfl ?_); apply jW) | (refine WP.regionC (id := 1) ?_; (refine sc_p rfl rfl (by first | ((repeat' (exact SubL.nil)); done) | fail) (by first | (simp [bdL, bdL_append, AV.bd]; done) | fail) (awake24_fn) ?_); (refine su (anot rfl) ?_); apply jW) | (refine WP.regionC (id := 3) ?_; (refine sloadpw rfl rfl rfl rfl ?_); (refine sc_p rfl rfl (by first | ((repeat' first | exact SubL.nil | refine SubL.cons ?_ ?_ | exact Sub.refl); done) | fail) (by first | (simp [bdL, bdL_append, AV.bd]; done) | fail) (h1) ?_); (refine su (anot rfl) ?_); (refine smove rfl ?_); (refine sg (gq_vf rfl rfl) (fun he => ap_load_pw (rq_p rfl rfl) rfl rfl rfl) ?_); (refine sg_p (gq_vf rfl rfl) (fun he => ⟨(rq_p rfl rfl), (RqL.cons (rq_c rfl rfl) (RqL.nil)), (by first | ((repeat' first | exact SubL.nil | refine SubL.cons ?_ ?_ | exact Sub.refl); done) | fail), (by first | (simp [bdL, bdL_append, AV.bd]; done) | fail), h2⟩) ?_); (refine sg (gq_vf rfl rfl) (fun he => ap_gtr (rq_c rfl rfl) (rq_p rfl rfl)) ?_); (refine su (ap_or (rq_p rfl rfl) (rq_c rfl rfl)) ?_); apply jW) | (refine WP.regionC ?_; (refine sassign rfl ?_); apply jW) | (refine WP.regionC (id := 5) ?_; (refine sloadpw rfl rfl rfl rfl ?_); (refine smove rfl ?_); (refine sloadpw rfl rfl rfl rfl ?_); (refine sc_p rfl rfl (by first | ((repeat' first | exact SubL.nil | refine SubL.cons ?_ ?_ | exact Sub.refl); done) | fail) (by first | (simp [bdL, bdL_append, AV.bd]; done) | fail) (h3) ?_); (refine sassign rfl ?_); apply jW) | (refine WP.regionC (id := 6) ?_; (refine sloadpw rfl rfl rfl rfl ?_); (refine smove rfl ?_); (refine sloadpw rfl rfl rfl rfl ?_); (refine sc_p rfl rfl (by first | ((repeat' first | exact SubL.nil | refine SubL.cons ?_ ?_ | exact Sub.refl); done) | fail) (by first | (simp [bdL, bdL_append, AV.bd]; done) | fail) (h4) ?_); (refine smove rfl ?_); (refine su (aneb (by kernel_rfl) rfl rfl) ?_); apply jW) | (refine wp_draw (id := 8) 21 mixed (by kernel_rfl) (by kernel_rfl) rfl ?_ <;> (refine rmove rfl ?_) <;> (refine rd_u rfl rfl (anot rfl) ?_) <;> (refine rmove rfl ?_) <;> (refine rdg_u rfl rfl rfl rfl (aloadpw rfl rfl rfl rfl) ?_) <;> (refine rdg_u rfl rfl rfl rfl (aloadpw rfl rfl rfl rfl) ?_) <;> (refine rdg_call rfl rfl rfl rfl (by first | ((repeat' first | exact SubL.nil | refine SubL.cons ?_ ?_ | exact Sub.refl); done) | fail) (by first | (simp [bdL, bdL_append, AV.bd]; done) | fail) (h5) ?_) <;> (refine rdg_u rfl rfl rfl rfl (aloadpw rfl rfl rfl rfl) ?_) <;> (refine rdg_u rfl rfl rfl rfl (aloadpw rfl rfl rfl rfl) ?_) <;> (refine rdg_call rfl rfl rfl rfl (by first | ((repeat' first | exact SubL.nil | refine SubL.cons ?_ ?_ | exact Sub.refl); done) | fail) (by first | (simp [bdL, bdL_append, AV.bd]; done) | fail) (h6) ?_) <;> (refine rdg_call rfl rfl rfl rfl (by first | ((repeat' first | exact SubL.nil | refine SubL.cons ?_ ?_ | exact Sub.refl); done) | fail) (by first | (simp [bdL, bdL_append, AV.bd]; done) | fail) (h9) ?_) <;> (refine gmove rfl rfl rfl ?_) <;> (refine rdg_u rfl rfl rfl rfl (aloadpw rfl rfl rfl rfl) ?_) <;> (refine rdg_u rfl rfl rfl rfl (aloadpw rfl rfl rfl rfl) ?_) <;> (refine rdg_call rfl rfl rfl rfl (by first | ((repeat' first | exact SubL.nil | refine SubL.cons ?_ ?_ | exact Sub.refl); done) | fail) (by first | (simp [bdL, bdL_append, AV.bd]; done) | fail) (h7) ?_) <;> (refine rdg_u rfl rfl rfl rfl (aloadpw rfl rfl rfl rfl) ?_) <;> (refine rdg_u rfl rfl rfl rfl (aloadpw rfl rfl rfl rfl) ?_) <;> (refine rdg_call rfl rfl rfl rfl (by first | ((repeat' first | exact SubL.nil | refine SubL.cons ?_ ?_ | exact Sub.refl); done) | fail) (by first | (simp [bdL, bdL_append, AV.bd]; done) | fail) (h8) ?_) <;> (refine rdg_u rfl rfl rfl rfl (aeql rfl rfl) ?_) <;> (refine rdg_pick_t rfl rfl rfl rfl ?_) <;> (refine rd_pick_f rfl rfl ?_) <;> (refine rd_u rfl rfl (aassign rfl) ?_) <;> (refine rd_end (by kernel_rfl) ?_)) | exact ret_eq rfl rfl rfl | refine ret_b rfl ?_))
    all_goals (first | (exfalso; simp at hc; done) | simp)
  · cases ho : okP n h p with
    | false =>
      rw [ho] at h3 h4
      rw [prsA_kids] at h2 h3 h4 ⊢
      refine Fn.intro rfl (by kernel_rfl) Try.func5 rfl rfl Try.ntmps5 (by exact Nat.le_of_ble_eq_true rfl) ?_; intro Γ hm
      (repeat' (first | apply jA | apply jH | apply jI | apply jK | apply jM | apply jS | (refine wp_cond rfl (fun hc => ?_) (fun hc => ?_) <;> (try simp only [sB, ne_eq, reduceCtorEq] at hc) <;> (try (exfalso; omega))) | (refine WP.regionC (id := 0) ?_; (refine se_box rfl (by exact ⟨rfl, rfl⟩) ?_); (refine se_box rfl (by exact ⟨rfl, rfl⟩) ?_); (refine sassign rfl ?_); apply jW) | (refine WP.regionC (id := 1) ?_; (refine sc_p rfl rfl (by first | ((repeat' (exact SubL.nil)); done) | fail) (by first | (simp [bdL, bdL_append, AV.bd]; done) | fail) (awake24_fn) ?_); (refine su (anot rfl) ?_); apply jW) | (refine WP.regionC (id := 3) ?_; (refine sloadpw rfl rfl rfl rfl ?_); (refine sc_p rfl rfl (by first | ((repeat' first | exact SubL.nil | refine SubL.cons ?_ ?_ | exact Sub.refl); done) | fail) (by first | (simp [bdL, bdL_append, AV.bd]; done) | fail) (h1) ?_); (refine su (anot rfl) ?_); (refine smove rfl ?_); (refine sg (gq_vf rfl rfl) (fun he => ap_load_pw (rq_p rfl rfl) rfl rfl rfl) ?_); (refine sg_p (gq_vf rfl rfl) (fun he => ⟨(rq_p rfl rfl), (RqL.cons (rq_c rfl rfl) (RqL.nil)), (by first | ((repeat' first | exact SubL.nil | refine SubL.cons ?_ ?_ | exact Sub.refl); done) | fail), (by first | (simp [bdL, bdL_append, AV.bd]; done) | fail), h2⟩) ?_); (refine sg (gq_vf rfl rfl) (fun he => ap_gtr (rq_c rfl rfl) (rq_p rfl rfl)) ?_); (refine su (ap_or (rq_p rfl rfl) (rq_c rfl rfl)) ?_); apply jW) | (refine WP.regionC ?_; (refine sassign rfl ?_); apply jW) | (refine WP.regionC (id := 5) ?_; (refine sloadpw rfl rfl rfl rfl ?_); (refine smove rfl ?_); (refine sloadpw rfl rfl rfl rfl ?_); (refine sc_p rfl rfl (by first | ((repeat' first | exact SubL.nil | refine SubL.cons ?_ ?_ | exact Sub.refl); done) | fail) (by first | (simp [bdL, bdL_append, AV.bd]; done) | fail) (h3) ?_); (refine sassign rfl ?_); apply jW) | (refine WP.regionC (id := 6) ?_; (refine sloadpw rfl rfl rfl rfl ?_); (refine smove rfl ?_); (refine sloadpw rfl rfl rfl rfl ?_); (refine sc_p rfl rfl (by first | ((repeat' first | exact SubL.nil | refine SubL.cons ?_ ?_ | exact Sub.refl); done) | fail) (by first | (simp [bdL, bdL_append, AV.bd]; done) | fail) (h4) ?_); (refine smove rfl ?_); (refine su (aneb (by kernel_rfl) rfl rfl) ?_); apply jW) | (refine wp_draw (id := 8) 21 mixed (by kernel_rfl) (by kernel_rfl) rfl ?_ <;> (refine rmove rfl ?_) <;> (refine rd_u rfl rfl (anot rfl) ?_) <;> (refine rmove rfl ?_) <;> (refine rd_skip rfl rfl ?_) <;> (refine rd_skip rfl rfl ?_) <;> (refine rd_skip rfl rfl ?_) <;> (refine rd_skip rfl rfl ?_) <;> (refine rd_skip rfl rfl ?_) <;> (refine rd_skip rfl rfl ?_) <;> (refine rd_skip rfl rfl ?_) <;> (refine rd_skip rfl rfl ?_) <;> (refine rd_skip2 rfl rfl ?_) <;> (refine rd_skip2 rfl rfl ?_) <;> (refine rd_skip2 rfl rfl ?_) <;> (refine rd_skip2 rfl rfl ?_) <;> (refine rd_skip2 rfl rfl ?_) <;> (refine rd_skip2 rfl rfl ?_) <;> (refine rd_skip2 rfl rfl ?_) <;> (refine rd_skip rfl rfl ?_) <;> (refine rd_pick_t rfl rfl ?_) <;> (refine rd_u rfl rfl (aassign rfl) ?_) <;> (refine rd_end (by kernel_rfl) ?_)) | exact ret_eq rfl rfl rfl | refine ret_b rfl ?_))
      all_goals ((exfalso; simp at hc; done))
    | true =>
      rw [ho] at h3 h4
      rw [prsA_kids] at h2 h3 h4 ⊢
      refine Fn.intro rfl (by kernel_rfl) Try.func5 rfl rfl Try.ntmps5 (by exact Nat.le_of_ble_eq_true rfl) ?_; intro Γ hm
      (repeat' (first | apply jA | apply jH | apply jI | apply jK | apply jM | apply jS | (refine wp_cond rfl (fun hc => ?_) (fun hc => ?_) <;> (try simp only [sB, ne_eq, reduceCtorEq] at hc) <;> (try (exfalso; omega))) | (refine WP.regionC (id := 0) ?_; (refine se_box rfl (by exact ⟨rfl, rfl⟩) ?_); (refine se_box rfl (by exact ⟨rfl, rfl⟩) ?_); (refine sassign rfl ?_); apply jW) | (refine WP.regionC (id := 1) ?_; (refine sc_p rfl rfl (by first | ((repeat' (exact SubL.nil)); done) | fail) (by first | (simp [bdL, bdL_append, AV.bd]; done) | fail) (awake24_fn) ?_); (refine su (anot rfl) ?_); apply jW) | (refine WP.regionC (id := 3) ?_; (refine sloadpw rfl rfl rfl rfl ?_); (refine sc_p rfl rfl (by first | ((repeat' first | exact SubL.nil | refine SubL.cons ?_ ?_ | exact Sub.refl); done) | fail) (by first | (simp [bdL, bdL_append, AV.bd]; done) | fail) (h1) ?_); (refine su (anot rfl) ?_); (refine smove rfl ?_); (refine sg (gq_vf rfl rfl) (fun he => ap_load_pw (rq_p rfl rfl) rfl rfl rfl) ?_); (refine sg_p (gq_vf rfl rfl) (fun he => ⟨(rq_p rfl rfl), (RqL.cons (rq_c rfl rfl) (RqL.nil)), (by first | ((repeat' first | exact SubL.nil | refine SubL.cons ?_ ?_ | exact Sub.refl); done) | fail), (by first | (simp [bdL, bdL_append, AV.bd]; done) | fail), h2⟩) ?_); (refine sg (gq_vf rfl rfl) (fun he => ap_gtr (rq_c rfl rfl) (rq_p rfl rfl)) ?_); (refine su (ap_or (rq_p rfl rfl) (rq_c rfl rfl)) ?_); apply jW) | (refine WP.regionC (id := 4) ?_; (refine sassign rfl ?_); apply jW) | exact ret_eq rfl rfl rfl))
      all_goals ((exfalso; grind))
structure FairT (x : Cas) : Prop where
  val : GVal x.g
  n : (fairG x).1 = nrmOf x.g
  mat : matG x.g (nrmOf x.g) = true
  tm : x.g.terms.length ≤ 6
  nt : x.g.nonterms.length ≤ 8
  rl : x.g.rules.length ≤ 16
  t : szT x.t ≤ 200
  p : szP x.p ≤ 300
end Go.Lg
