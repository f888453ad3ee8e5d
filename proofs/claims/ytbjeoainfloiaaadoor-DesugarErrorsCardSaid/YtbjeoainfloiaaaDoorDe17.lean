/-
  Part 17 of the proof of DesugarErrorsCard: the logic over the model, the functions' contracts and the plain laws.
-/
import Derived.Test.YtbjeoainfloiaaaDoorDe16

set_option linter.unusedSimpArgs false
set_option linter.unusedVariables false
set_option linter.unusedSectionVars false
set_option linter.defProp false

namespace Go.Lg
open Go.Proofs
set_option linter.unusedSimpArgs false
set_option linter.unusedVariables false
attribute [local irreducible] Ap Rq asemC WP RunD Ret Gq thenA inBlockA bodyQ noGotoA RqL RqP OpP
set_option maxHeartbeats 1000000
theorem ints_fn (a b : List Int) : Fn Tryd.prog 14 [intsA a, intsA b] (boolA (decide (a = b))) := by
  refine Fn.intro rfl (by kernel_rfl) Tryd.func14 rfl rfl Tryd.ntmps14 (by exact Nat.le_of_ble_eq_true rfl) ?_; intro Γ hm
  refine wp_lens 0 rfl fun h0 => wp_lens 1 rfl fun h1 => ?_
  rw [lens_intsA] at h0 h1
  (repeat' (first | apply jA | apply jF | apply jH | apply jI | apply jK | apply jM | apply jS | (refine wp_cond rfl (fun hc => ?_) (fun hc => ?_) <;> (try simp only [sB, ne_eq, reduceCtorEq] at hc) <;> (try (exfalso; omega))) | (refine WP.regionC ?_; (refine sassign rfl ?_); apply jW) | (refine WP.regionC (id := 1) ?_; (refine smove rfl ?_); (refine slenm rfl rfl ?_); (refine smove rfl ?_); (refine slenm rfl rfl ?_); (refine su (aneq rfl rfl) ?_); apply jW) | refine ret_b rfl ?_))
  · have : a ≠ b := by rintro rfl; exact hc rfl
    simp [this]
  refine wp_loop (fun k => k ≤ a.length ∧ a.take k = b.take k) (fun k => a.length - k) (fun k => (S 26 [(0, intsA a), (1, intsA b), (5, intA (k : Nat))] 0 [])) 0 ⟨[], ToR.S rfl (by repeat' (first | exact rt_nil | refine rt_e rfl rfl ?_ | refine rt_p rfl rfl (by first | (simp [AV.bd, bdL, bdL_append]; done) | fail) ?_)) (by repeat' (exact ro_nil)) rfl (by (rw [hm]; exact rfl)) rfl (by (simp [bdT, AV.bd, bdL, bdL_append]; done)) (by repeat' (exact True.intro)) (by (rw [hm]; exact Nat.le_of_ble_eq_true rfl))⟩ ⟨Nat.zero_le _, rfl⟩ ?_
  rintro k ⟨hk, hall⟩
  have hab : a.length = b.length := by omega
  (repeat' (first | apply jA | apply jF | apply jH | apply jI | apply jJ | apply jK | apply jL | apply jM | apply jN | apply jO | apply jP | apply jS | (refine wp_cond rfl (fun hc => ?_) (fun hc => ?_) <;> (try simp only [sB, ne_eq, reduceCtorEq] at hc) <;> (try (exfalso; omega))) | (refine WP.regionC (id := 4) ?_; (refine smove rfl ?_); (refine smove rfl ?_); (refine slenm rfl rfl ?_); (refine slss rfl rfl ?_); apply jW) | (refine wp_draw (id := 6) 9 mixed (by kernel_rfl) (by kernel_rfl) rfl ?_ <;> (refine rmove rfl ?_) <;> (refine rmove rfl ?_) <;> (refine rd_u rfl rfl (aidxn rfl rfl (by omega)) ?_) <;> (refine rd_u rfl rfl (aloadw rfl rfl) ?_) <;> (refine rmove rfl ?_) <;> (refine rmove rfl ?_) <;> (refine rd_u rfl rfl (aidxn rfl rfl (by omega)) ?_) <;> (refine rd_u rfl rfl (aloadw rfl rfl) ?_) <;> (refine rd_u rfl rfl (aneq rfl rfl) ?_) <;> (refine rd_end (by kernel_rfl) ?_)) | (refine WP.regionC ?_; (refine sassign rfl ?_); apply jW) | (refine WP.regionC (id := 5) ?_; (refine smove rfl ?_); (refine sadd rfl rfl (by exact inr_i64_of (by omega)) ?_); (refine sassign rfl ?_); apply jW) | refine ret_b rfl ?_))
  · have : a ≠ b := by rintro rfl; exact hc rfl
    simp [this]
  · exact ⟨k + 1, ⟨by omega, by omega, take_eq_succ (by omega) (by omega) hall hc⟩, ⟨[], ToR.S rfl (by repeat' (first | exact rt_nil | refine rt_e rfl rfl ?_ | refine rt_p rfl rfl (by first | (simp [AV.bd, bdL, bdL_append]; done) | fail) ?_)) (by repeat' (exact ro_nil)) rfl (by (rw [hm]; exact rfl)) rfl (by (simp [bdT, AV.bd, bdL, bdL_append]; done)) (by repeat' (exact True.intro)) (by (rw [hm]; exact Nat.le_of_ble_eq_true rfl))⟩⟩
  simp [eq_of_takes hab (by omega) hall]
end Go.Lg

namespace Go.Lg
def jX := @wpl_end
end Go.Lg

namespace Go.Lg
open Go.Proofs
set_option linter.unusedSimpArgs false
set_option linter.unusedVariables false
attribute [local irreducible] Ap Rq asemC WP RunD Ret Gq thenA inBlockA bodyQ noGotoA RqL RqP OpP
set_option maxHeartbeats 8000000
set_option maxRecDepth 20000
attribute [local simp] AV.cells
theorem lname19_fn (s : ByteArray) : Fn Tryd.prog 19 [strA s] (exprA (.mk 1 s [])) := by
  refine Fn.intro rfl (by kernel_rfl) Tryd.func19 rfl rfl Tryd.ntmps19 (by exact Nat.le_of_ble_eq_true rfl) ?_; intro Γ hm
  (repeat' (first | apply jA | apply jH | apply jK | apply jS | (refine WP.regionC (id := 0) ?_; (refine se_alloc rfl ?_); apply jW) | (refine WP.regionC (id := 1) ?_; (refine smove rfl ?_); (refine su (ap_build (RqP.cons (rq_p rfl rfl) (RqP.cons (rq_p rfl rfl) (RqP.nil))) rfl) ?_); (refine se_store_b rfl rfl rfl rfl ?_); apply jW)))
  exact ret_c (x := .agg [intA 1, strA s, .val (.slice none 0 0)]) rfl rfl rfl rfl (by first | ((repeat' first | exact FzL.nil | refine FzL.cons ?_ ?_ | exact Fz.nil | (exact Fz.reflp (by simp [AV.bd, bdL, bdL_append])) | refine Fz.aggL ?_); done) | fail)
theorem exH_fit (terms : List ByteArray) (h : terms.length ≤ 100) : DFit exH terms := ⟨by decide +kernel, by decide +kernel, by omega, by decide +kernel⟩
theorem exH_a : Fn Tryd.prog 11 [fileA exH, strsA [exA, exB, exC]] (desugarA (exW, [0, -1, -1, -1, -1], 0)) := dexA ▸ desugar_fn exH _ (exH_fit _ (by decide))
theorem exH_b : Fn Tryd.prog 11 [fileA exH, strsA [exA, exB]] (desugarA (failG, [], 4)) := dexB ▸ desugar_fn exH _ (exH_fit _ (by decide))
theorem exH_c : Fn Tryd.prog 11 [fileA exH, strsA [exA, exB, exC, exN0]] (desugarA (failG, [], 14)) := dexC ▸ desugar_fn exH _ (exH_fit _ (by decide))
theorem awake19_fn : Fn Tryd.prog 10 [] (boolA true) := by
  refine Fn.intro rfl (by kernel_rfl) Tryd.func10 rfl rfl Tryd.ntmps10 (by exact Nat.le_of_ble_eq_true rfl) ?_; intro Γ hm
  (repeat' (first | apply jA | apply jH | (refine WP.regionC (id := 0) ?_; (refine sassign rfl ?_); apply jW) | (refine WP.regionC (id := 1) ?_; (refine sc_p rfl rfl (by first | ((repeat' first | exact SubL.nil | refine SubL.cons ?_ ?_ | exact Sub.refl); done) | fail) (by first | (simp [bdL, bdL_append, AV.bd]; done) | fail) (lname19_fn _) ?_); (refine sc_p rfl rfl (by first | ((repeat' first | exact SubL.nil | refine SubL.cons ?_ ?_ | exact Sub.refl); done) | fail) (by first | (simp [bdL, bdL_append, AV.bd]; done) | fail) (lname19_fn _) ?_); (refine se_lit (OpP.cons rfl (OpP.cons rfl (OpP.nil))) rfl rfl rfl rfl rfl rfl ?_); (refine su (ap_build (RqP.cons (rq_p rfl rfl) (RqP.cons (rq_p rfl rfl) (RqP.nil))) rfl) ?_); (refine se_alloc rfl ?_); (refine se_store_b rfl rfl rfl rfl ?_); apply jW) | (refine wp_draw (id := 2) 13 mixed (by kernel_rfl) (by kernel_rfl) rfl ?_ <;> (refine rd_call rfl rfl (by first | ((repeat' first | exact SubL.nil | refine SubL.cons ?_ ?_ | exact Sub.refl); done) | fail) (by first | (simp [bdL, bdL_append, AV.bd]; done) | fail) (lname19_fn _) ?_) <;> (refine rd_u rfl rfl (aloadpw rfl rfl rfl rfl) ?_) <;> (refine rd_lit (OpP.cons rfl (OpP.nil)) rfl rfl rfl rfl rfl rfl ?_) <;> (refine rd_u rfl rfl (ap_build (RqP.cons (rq_p rfl rfl) (RqP.cons (rq_p rfl rfl) (RqP.nil))) rfl) ?_) <;> (refine rd_lit (OpP.cons rfl (OpP.cons rfl (OpP.nil))) rfl rfl rfl rfl rfl rfl ?_) <;> (refine rd_u rfl rfl (ap_build (RqP.cons (rq_p rfl rfl) (RqP.cons (rq_p rfl rfl) (RqP.nil))) rfl) ?_) <;> (refine rd_u rfl rfl (ap_build (RqP.cons (rq_p rfl rfl) (RqP.cons (rq_p rfl rfl) (RqP.nil))) rfl) ?_) <;> (refine rd_lit (OpP.cons rfl (OpP.nil)) rfl rfl rfl rfl rfl rfl ?_) <;> (refine rd_u rfl rfl (ap_build (RqP.cons (rq_p rfl rfl) (RqP.cons (rq_p rfl rfl) (RqP.nil))) rfl) ?_) <;> (refine rd_lit (OpP.cons rfl (OpP.nil)) rfl rfl rfl rfl rfl rfl ?_) <;> (refine rd_u rfl rfl (ap_build (RqP.cons (rq_p rfl rfl) (RqP.cons (rq_p rfl rfl) (RqP.nil))) rfl) ?_) <;> (refine rd_alloc rfl ?_) <;> (refine rd_store_b rfl rfl rfl rfl ?_) <;> (refine rd_end (by kernel_rfl) ?_))))
  refine wp_st (S 82 [(2, .ptr 5 3 0 0)] 6 [(0, some (.arr 3 [exprA (nmE exB), exprA (nmE exC)])), (1, some (.arr 3 [.agg [intA 3, strA ⟨#[]⟩, .ref 0 3 0 2]])), (2, some (.arr 3 [exprA (nmE exA), .agg [intA 5, strA ⟨#[]⟩, .ref 1 3 0 1]])), (3, some (.arr 4 [.agg [intA 2, strA ⟨#[]⟩, .ref 2 3 0 2, intA 4]])), (4, some (.arr 2 [.agg [strA exN0, .ref 3 4 0 1]])), (5, some (.arr 3 [.agg [strA exN0, .val (.slice none 0 0), .ref 4 2 0 1]]))]) ⟨[0, 4, 6, 9, 11, 13], ToR.S rfl (by repeat' (first | exact rt_nil | refine rt_t rfl rfl ?_)) (by repeat' (first | exact ro_nil | refine ro_e rfl rfl ?_)) rfl (by (rw [hm]; exact rfl)) rfl (by (simp [bdT, AV.bd, bdL, bdL_append]; done)) (by repeat' (first | exact True.intro | exact rfl | refine And.intro ?_ ?_)) (by (rw [hm]; exact Nat.le_of_ble_eq_true rfl))⟩ ?_
  refine wp_frzxm (id := 0) (k := 3) (f := exprA) (L := [nmE exB, nmE exC]) 1 2 [] _ hm rfl rfl rfl rfl rfl (fun _ => by simp) (fun _ => by cases ‹GEx›; rfl) rfl ?_
  refine wp_frzxm (id := 1) (k := 3) (f := exprA) (L := [exCh]) 2 2 [exprA (nmE exA)] _ hm rfl rfl rfl rfl rfl (fun _ => by simp) (fun _ => by cases ‹GEx›; rfl) rfl ?_
  refine wp_frzxm (id := 2) (k := 3) (f := exprA) (L := [nmE exA, exSt]) 3 2 [] _ hm rfl rfl rfl rfl rfl (fun _ => by simp) (fun _ => by cases ‹GEx›; rfl) rfl ?_
  refine wp_frzxm (id := 3) (k := 4) (f := altA) (L := [⟨exBo, 4⟩]) 4 1 [] _ hm rfl rfl rfl rfl rfl (fun _ => by simp) (fun a => by obtain ⟨e, p⟩ := a; cases e; rfl) rfl ?_
  refine wp_frzxm (id := 4) (k := 2) (f := gruleA) (L := exH.rules) 5 2 [] _ hm rfl rfl rfl rfl rfl (fun _ => by simp) (fun _ => rfl) rfl ?_
  (repeat' (first | apply jA | apply jH | (refine wpl_region (id := 3) ?_; (refine wpl_step rfl ?_); (refine sloadpw rfl rfl rfl rfl ?_); (apply jW); (refine wpl_step rfl ?_); (refine se_lit (OpP.cons rfl (OpP.cons rfl (OpP.cons rfl (OpP.nil)))) rfl rfl rfl rfl rfl rfl ?_); (apply jW); (refine wpl_frz 30 hm rfl rfl (by first | exact rfl | fail) (by first | exact rfl | fail) rfl ?_); (refine wpl_step rfl ?_); (refine sc_p rfl rfl (by first | ((repeat' first | exact SubL.nil | refine SubL.cons ?_ ?_ | exact Sub.refl | exact Sub.nil | refine Sub.aggL ?_); done) | fail) (by first | (simp [bdL, bdL_append, AV.bd]; done) | fail) (exH_a) ?_); (apply jW); (refine wpl_step rfl ?_); (refine smove rfl ?_); (apply jW); (refine wpl_step rfl ?_); (refine su (aextract rfl rfl) ?_); (apply jW); (refine wpl_step rfl ?_); (refine su (aextract rfl rfl) ?_); (apply jW); (refine wpl_step rfl ?_); (refine su (aextract rfl rfl) ?_); (apply jW); (refine wpl_step rfl ?_); (refine se_alloc rfl ?_); (apply jW); (refine wpl_step rfl ?_); (refine se_store_b rfl rfl rfl rfl ?_); (apply jW); (refine wpl_step rfl ?_); (refine sassign rfl ?_); (apply jW); (refine wpl_step rfl ?_); (refine sassign rfl ?_); (apply jW); (apply jX)) | (refine wpl_region (id := 4) ?_; (refine wpl_step rfl ?_); (refine se_lit (OpP.cons rfl (OpP.cons rfl (OpP.cons rfl (OpP.nil)))) rfl rfl rfl rfl rfl rfl ?_); (apply jW); (refine wpl_frz 35 hm rfl rfl (by first | exact rfl | fail) (by first | exact rfl | fail) rfl ?_); (refine wpl_step rfl ?_); (refine se_lit (OpP.cons rfl (OpP.cons rfl (OpP.cons rfl (OpP.nil)))) rfl rfl rfl rfl rfl rfl ?_); (apply jW); (refine wpl_frz 36 hm rfl rfl (by first | exact rfl | fail) (by first | exact rfl | fail) rfl ?_); (refine wpl_step rfl ?_); (refine se_lit (OpP.cons rfl (OpP.cons rfl (OpP.nil))) rfl rfl rfl rfl rfl rfl ?_); (apply jW); (refine wpl_frz 37 hm rfl rfl (by first | exact rfl | fail) (by first | exact rfl | fail) rfl ?_); (refine wpl_step rfl ?_); (refine su (ap_build (RqP.cons (rq_p rfl rfl) (RqP.cons (rq_p rfl rfl) (RqP.cons (rq_p rfl rfl) (RqP.nil)))) rfl) ?_); (apply jW); (refine wpl_step rfl ?_); (refine su (ap_build (RqP.cons (rq_p rfl rfl) (RqP.nil)) rfl) ?_); (apply jW); (refine wpl_step rfl ?_); (refine se_lit (OpP.cons rfl (OpP.cons rfl (OpP.nil))) rfl rfl rfl rfl rfl rfl ?_); (apply jW); (refine wpl_frz 40 hm rfl rfl (by first | exact rfl | fail) (by first | exact rfl | fail) rfl ?_); (refine wpl_step rfl ?_); (refine su (ap_build (RqP.cons (rq_p rfl rfl) (RqP.cons (rq_p rfl rfl) (RqP.nil))) rfl) ?_); (apply jW); (refine wpl_step rfl ?_); (refine se_lit (OpP.cons rfl (OpP.nil)) rfl rfl rfl rfl rfl rfl ?_); (apply jW); (refine wpl_frz 42 hm rfl rfl (by first | exact rfl | fail) (by first | exact rfl | fail) rfl ?_); (refine wpl_step rfl ?_); (refine su (ap_build (RqP.cons (rq_p rfl rfl) (RqP.cons (rq_p rfl rfl) (RqP.nil))) rfl) ?_); (apply jW); (refine wpl_step rfl ?_); (refine se_lit (OpP.cons rfl (OpP.nil)) rfl rfl rfl rfl rfl rfl ?_); (apply jW); (refine wpl_frz 44 hm rfl rfl (by first | exact rfl | fail) (by first | exact rfl | fail) rfl ?_); (refine wpl_step rfl ?_); (refine su (ap_build (RqP.cons (rq_p rfl rfl) (RqP.cons (rq_p rfl rfl) (RqP.nil))) rfl) ?_); (apply jW); (refine wpl_step rfl ?_); (refine se_lit (OpP.cons rfl (OpP.cons rfl (OpP.cons rfl (OpP.cons rfl (OpP.cons rfl (OpP.nil)))))) rfl rfl rfl rfl rfl rfl ?_); (apply jW); (refine wpl_step rfl ?_); (refine su (ap_build (RqP.cons (rq_p rfl rfl) (RqP.cons (rq_p rfl rfl) (RqP.cons (rq_p rfl rfl) (RqP.nil)))) rfl) ?_); (apply jW); (refine wpl_step rfl ?_); (refine se_alloc rfl ?_); (apply jW); (refine wpl_step rfl ?_); (refine se_store_b rfl rfl rfl rfl ?_); (apply jW); (apply jX)) | (refine wpl_region (id := 5) ?_; (refine wpl_step rfl ?_); (refine sloadpw rfl rfl rfl rfl ?_); (apply jW); (refine wpl_step rfl ?_); (refine se_lit (OpP.cons rfl (OpP.cons rfl (OpP.nil))) rfl rfl rfl rfl rfl rfl ?_); (apply jW); (refine wpl_frz 50 hm rfl rfl (by first | exact rfl | fail) (by first | exact rfl | fail) rfl ?_); (refine wpl_step rfl ?_); (refine sc_p rfl rfl (by first | ((repeat' first | exact SubL.nil | refine SubL.cons ?_ ?_ | exact Sub.refl | exact Sub.nil | refine Sub.aggL ?_); done) | fail) (by first | (simp [bdL, bdL_append, AV.bd]; done) | fail) (exH_b) ?_); (apply jW); (refine wpl_step rfl ?_); (refine smove rfl ?_); (apply jW); (refine wpl_step rfl ?_); (refine su (aextract rfl rfl) ?_); (apply jW); (refine wpl_step rfl ?_); (refine su (aextract rfl rfl) ?_); (apply jW); (refine wpl_step rfl ?_); (refine su (aextract rfl rfl) ?_); (apply jW); (refine wpl_step rfl ?_); (refine se_alloc rfl ?_); (apply jW); (refine wpl_step rfl ?_); (refine se_store_b rfl rfl rfl rfl ?_); (apply jW); (refine wpl_step rfl ?_); (refine sassign rfl ?_); (apply jW); (refine wpl_step rfl ?_); (refine sassign rfl ?_); (apply jW); (apply jX)) | (refine wpl_region (id := 6) ?_; (refine wpl_step rfl ?_); (refine sloadpw rfl rfl rfl rfl ?_); (apply jW); (refine wpl_step rfl ?_); (refine se_lit (OpP.cons rfl (OpP.cons rfl (OpP.cons rfl (OpP.cons rfl (OpP.nil))))) rfl rfl rfl rfl rfl rfl ?_); (apply jW); (refine wpl_frz 57 hm rfl rfl (by first | exact rfl | fail) (by first | exact rfl | fail) rfl ?_); (refine wpl_step rfl ?_); (refine sc_p rfl rfl (by first | ((repeat' first | exact SubL.nil | refine SubL.cons ?_ ?_ | exact Sub.refl | exact Sub.nil | refine Sub.aggL ?_); done) | fail) (by first | (simp [bdL, bdL_append, AV.bd]; done) | fail) (exH_c) ?_); (apply jW); (refine wpl_step rfl ?_); (refine smove rfl ?_); (apply jW); (refine wpl_step rfl ?_); (refine su (aextract rfl rfl) ?_); (apply jW); (refine wpl_step rfl ?_); (refine su (aextract rfl rfl) ?_); (apply jW); (refine wpl_step rfl ?_); (refine su (aextract rfl rfl) ?_); (apply jW); (refine wpl_step rfl ?_); (refine se_alloc rfl ?_); (apply jW); (refine wpl_step rfl ?_); (refine se_store_b rfl rfl rfl rfl ?_); (apply jW); (refine wpl_step rfl ?_); (refine sassign rfl ?_); (apply jW); (refine wpl_step rfl ?_); (refine sassign rfl ?_); (apply jW); (apply jX))))
  have hI := ints_fn [0, -1, -1, -1, -1] [0, -1, -1, -1, -1]
  have hE := requal18_fn exW exW
  (repeat' (first | apply jH | apply jK | apply jS | (refine WP.regionC (id := 7) ?_ <;> (refine smove rfl ?_) <;> (refine seql rfl rfl ?_) <;> (refine smove rfl ?_) <;> (refine sg (gq_vt rfl rfl) (fun he => ap_load_pw (rq_p rfl rfl) rfl rfl rfl) ?_) <;> (refine sg (gq_vt rfl rfl) (fun he => ap_load_pw (rq_p rfl rfl) rfl rfl rfl) ?_) <;> (refine sg_b (gq_vt rfl rfl) (fun he => ⟨(rq_p rfl rfl), (RqL.cons (rq_c rfl rfl) (RqL.cons (rq_c rfl rfl) (RqL.nil))), (by first | ((repeat' first | exact FzL.nil | refine FzL.cons ?_ ?_ | exact Fz.nil | (exact Fz.reflp (by simp [AV.bd, bdL, bdL_append])) | refine Fz.rowL rfl rfl rfl ?_ | refine Fz.aggL ?_); done) | fail), hE, rfl⟩) ?_) <;> (refine su (ap_and (rq_p rfl rfl) (rq_c rfl rfl)) ?_) <;> (refine smove rfl ?_) <;> (refine sg (gq_vt rfl rfl) (fun he => ap_move (rq_p rfl rfl)) ?_) <;> (refine sgt_lit rfl rfl rfl (OpP.cons rfl (OpP.cons rfl (OpP.cons rfl (OpP.cons rfl (OpP.cons rfl (OpP.nil)))))) rfl rfl rfl rfl rfl rfl ?_) <;> (refine sg_b (gq_vt rfl rfl) (fun he => ⟨(rq_p rfl rfl), (RqL.cons (rq_c rfl rfl) (RqL.cons (rq_p rfl rfl) (RqL.nil))), (by first | ((repeat' first | exact FzL.nil | refine FzL.cons ?_ ?_ | (exact Fz.list rfl rfl (fun _ => by simp [AV.bd, bdL, bdL_append]) (fun _ => rfl)) | (exact Fz.reflp (by simp [AV.bd, bdL, bdL_append]))); done) | fail), hI, rfl⟩) ?_) <;> (refine su (ap_and (rq_p rfl rfl) (rq_c rfl rfl)) ?_) <;> (refine smove rfl ?_) <;> (refine sg (gq_vt rfl rfl) (fun he => ap_move (rq_p rfl rfl)) ?_) <;> (refine sg (gq_vt rfl rfl) (fun he => ap_eql (rq_c rfl rfl) (rq_p rfl rfl)) ?_) <;> (refine su (ap_and (rq_p rfl rfl) (rq_c rfl rfl)) ?_) <;> (refine smove rfl ?_) <;> (refine sg (gq_vt rfl rfl) (fun he => ap_move (rq_p rfl rfl)) ?_) <;> (refine sg (gq_vt rfl rfl) (fun he => ap_eql (rq_c rfl rfl) (rq_p rfl rfl)) ?_) <;> (refine su (ap_and (rq_p rfl rfl) (rq_c rfl rfl)) ?_) <;> (refine sassign rfl ?_) <;> apply jW) | exact ret_eq rfl rfl rfl))
end Go.Lg

namespace Go.Lg
open Go.Proofs
set_option linter.unusedSimpArgs false
set_option linter.unusedVariables false
attribute [local irreducible] Ap Rq asemC WP RunD Ret Gq thenA inBlockA bodyQ noGotoA RqL RqP OpP
set_option maxHeartbeats 8000000
set_option maxRecDepth 20000
attribute [local simp] AV.cells
theorem fit_small {f : GFi} (hT : TokB f) {m : Int} (h0 : 0 ≤ m) (h1 : m ≤ 1000) (h : sizeF f m ≤ m) {terms : List ByteArray} (ht : terms.length ≤ 1048576) : DFit f terms := by
  have h2 := cnt_small hT h0 h
  have h3 := toks_small hT h0 h
  exact ⟨by omega, by omega, ht, by omega⟩
def abcd : List ByteArray := [exA, exB, exC, exD]
def exprB (e : GEx) : AV := .agg [intA e.kind, strA e.name, exprsA e.kids]
theorem exprB_eq (e : GEx) : exprA e = exprB e := by cases e; rw [exprA_mkJ]; rfl
@[simp] theorem bd_exprB (n : Nat) (e : GEx) : (exprB e).bd n = true := by rw [← exprB_eq]; simp
@[simp] theorem bd_exprsB (n : Nat) (l : List GEx) : bdL n (l.map exprB) = true := bdL_map (bd_exprB n) l
end Go.Lg

namespace Go.Lg
open Go.Proofs
set_option linter.unusedSimpArgs false
set_option linter.unusedVariables false
attribute [local irreducible] Ap Rq asemC WP RunD Ret Gq thenA inBlockA bodyQ noGotoA RqL RqP OpP
set_option maxHeartbeats 8000000
set_option maxRecDepth 20000
attribute [local simp] AV.cells
end Go.Lg

namespace Go.Lg
def unk : ByteArray := tx [117, 110, 107, 110, 111, 119, 110]
def unkR (f : GFi) : GRu := ⟨(nth f.rules 0).name, [⟨.mk 1 unk [], 0⟩]⟩
def chgR (f : GFi) : GFi := { f with rules := f.rules.set 0 (unkR f) }
theorem chg_len (f : GFi) : (chgR f).rules.length = f.rules.length := by simp [chgR]
theorem map_set_self {α β : Type} [Inhabited α] {g : α → β} {l : List α} {i : Nat} {x : α} (hi : i < l.length) (h : g x = g (nth l i)) : (l.set i x).map g = l.map g := by
  apply List.ext_getElem?
  intro j
  rw [List.getElem?_map, List.getElem?_map, List.getElem?_set]
  split
  · rename_i hij
    subst hij
    rw [get_nth hi, Option.map_some, Option.map_some, h]
  · rfl
theorem chg_names {f : GFi} (h : 0 < f.rules.length) : (chgR f).rules.map GRu.name = f.rules.map GRu.name := map_set_self (g := GRu.name) h rfl
theorem unk_ok : gruleOk ⟨⟨#[]⟩, [⟨.mk 1 unk [], 0⟩]⟩ = true := by decide +kernel
theorem chg_valid {f : GFi} (hv : validF f = true) : validF (chgR f) = true := by
  have h0 : 0 < f.rules.length := by
    unfold validF at hv
    simp only [Bool.and_eq_true, decide_eq_true_eq] at hv
    omega
  have hn := chg_names h0
  have hl := chg_len f
  unfold validF at hv ⊢
  simp only [Bool.and_eq_true, decide_eq_true_eq] at hv ⊢
  obtain ⟨⟨⟨⟨⟨⟨h1, h2⟩, h3⟩, h4⟩, h5⟩, h6⟩, h7⟩ := hv
  have er : rnames (chgR f) (chgR f).rules.length = rnames f f.rules.length := by
    unfold rnames
    rw [List.take_length, List.take_length]
    exact hn
  rw [er, hl]
  refine ⟨⟨⟨⟨⟨⟨h1, h2⟩, ?_⟩, h4⟩, h5⟩, h6⟩, h7⟩
  rw [List.all_eq_true] at h3 ⊢
  intro r hr
  rcases List.mem_or_eq_of_mem_set hr with hr | rfl
  · exact h3 r hr
  · exact unk_ok
theorem chg_unknown {f : GFi} {terms : List ByteArray} (hv : validF f = true) (ht : termsOk terms = true) (hn : ∀ r, r ∈ f.rules → r.name ≠ unk) (hu : unk ∉ terms) : desugarP (chgR f) terms = (failG, [], 4) := by
  have h0 : 0 < f.rules.length := by
    unfold validF at hv
    simp only [Bool.and_eq_true, decide_eq_true_eq] at hv
    omega
  have hv2 := chg_valid hv
  have e0 : nth (chgR f).rules 0 = unkR f := by
    rw [nth_eq (by rw [chg_len]; exact h0)]
    simp [chgR]
  refine desugarP_unknown (i := 0) (k := 0) (by rw [hv2, ht]; rfl) (by rw [chg_len]; exact h0) (by rw [e0]; exact Nat.zero_lt_one) ?_
  rw [e0]
  show knownE _ (GEx.mk 1 unk []) = false
  rw [knownE_mk]
  have h1 : ((ruleNames (chgR f) ++ terms).any fun x => decide (unk = x)) = false := by
    rw [List.any_eq_false]
    intro x hx
    rw [decide_eq_true_eq]
    rintro rfl
    rcases List.mem_append.1 hx with hx | hx
    · rw [show ruleNames (chgR f) = f.rules.map GRu.name from chg_names h0] at hx
      obtain ⟨r, hr, e⟩ := List.mem_map.1 hx
      exact hn r hr e
    · exact hu hx
  rw [idx_any] at h1
  simp at h1 ⊢
  exact h1
theorem termsOk_snoc (l : List ByteArray) (x : ByteArray) : termsOk (l ++ [x]) = (termsOk l && (gnOk x && decide (idx l x < 0))) := by
  unfold termsOk
  rw [List.length_append, List.length_cons, List.length_nil, List.range_succ, List.all_append]
  congr 1
  · rw [Bool.eq_iff_iff, List.all_eq_true, List.all_eq_true]
    refine forall_congr' fun i => ?_
    refine imp_congr_right fun hi => ?_
    rw [List.mem_range] at hi
    have h1 : nth (l ++ [x]) i = nth l i := by rw [nth_eq (by simp; omega), nth_eq hi, List.getElem_append_left hi]
    have h2 : (l ++ [x]).take i = l.take i := by rw [List.take_append_of_le_length (by omega)]
    unfold termAt
    rw [h1, h2]
  · have h1 : nth (l ++ [x]) l.length = x := by rw [nth_eq (by simp)]; simp
    have h2 : (l ++ [x]).take l.length = l := by simp
    simp only [List.all_cons, List.all_nil, Bool.and_true]
    unfold termAt
    rw [h1, h2]
theorem idx_sub {a b : List ByteArray} (h : ∀ x, x ∈ a → x ∈ b) {n : ByteArray} (hb : idx b n < 0) : idx a n < 0 := by
  have h1 := idx_any a n
  have h2 := idx_any b n
  rw [decide_eq_true hb, Bool.not_true] at h2
  have h3 : (a.any fun x => decide (n = x)) = false := by
    rw [List.any_eq_false] at h2 ⊢
    intro x hx
    exact h2 x (h x hx)
  rw [h3] at h1
  simp at h1
  omega
theorem known_sub {a b : List ByteArray} (h : ∀ x, x ∈ a → x ∈ b) (e : GEx) : knownE a e = true → knownE b e = true := by
  induction e using GEx.ind with
  | h e ih =>
    intro hk
    rw [knownE_eq, Bool.and_eq_true, List.all_eq_true] at hk ⊢
    refine ⟨?_, fun x hx => ih x hx (hk.2 x hx)⟩
    have h1 := hk.1
    by_cases h2 : e.kind = 1
    · simp only [h2, decide_true, Bool.true_and, Bool.not_eq_true'] at h1 ⊢
      rw [decide_eq_false_iff_not] at h1 ⊢
      intro hlt
      exact h1 (idx_sub h hlt)
    · simp [h2]
theorem ok_known {f : GFi} {terms : List ByteArray} (h : (desugarP f terms).2.2 = 0) : validF f = true ∧ termsOk terms = true ∧ (∀ i, i < f.rules.length → ∀ k, k < (nth f.rules i).alts.length → knownE (ruleNames f ++ terms) (nth (nth f.rules i).alts k).body = true) ∧ (ruleNames f).any (fun s => terms.any fun x => decide (s = x)) = false := by
  obtain ⟨h1, h2, _, _⟩ := desugarP_ok h
  have h3 := drulTo_ok f terms (valid_ok h1) f.rules.length (Nat.le_refl _)
  rw [h2, List.take_length] at h3
  have h4 := List.all_eq_true.1 h3.symm
  by_cases ht : termsOk terms = true
  · refine ⟨h1, ht, fun i hi k hk => ?_, ?_⟩
    · have := h4 _ (nth_mem hi)
      unfold kRule at this
      exact List.all_eq_true.1 this _ (nth_mem hk)
    · by_cases hc : (ruleNames f).any (fun s => terms.any fun x => decide (s = x)) = true
      · exfalso
        unfold desugarP at h
        rw [if_neg (by rw [h1, ht]; decide), if_neg (by rw [h2]; decide), if_pos hc] at h
        cases h
      · simpa using hc
  · exfalso
    unfold desugarP at h
    rw [if_pos (by simp [ht])] at h
    cases h
theorem add_conflict {f : GFi} {terms : List ByteArray} (h : (desugarP f terms).2.2 = 0) (h0 : 0 < f.rules.length) : desugarP f (terms ++ [(nth f.rules 0).name]) = (failG, [], 14) := by
  obtain ⟨h1, h2, h3, h4⟩ := ok_known h
  have hm : (nth f.rules 0).name ∈ ruleNames f := List.mem_map.2 ⟨_, nth_mem h0, rfl⟩
  have hg : gnOk (nth f.rules 0).name = true := by
    cases hg : gnOk (nth f.rules 0).name with
    | true => rfl
    | false => rw [rules_no1 h0 hg] at h1; cases h1
  have hi : idx terms (nth f.rules 0).name < 0 := by
    have h5 := idx_any terms (nth f.rules 0).name
    rw [List.any_eq_false] at h4
    have h6 := h4 _ hm
    rw [Bool.not_eq_true] at h6
    rw [h6] at h5
    simp at h5
    omega
  have ht : termsOk (terms ++ [(nth f.rules 0).name]) = true := by rw [termsOk_snoc, h2, hg, decide_eq_true hi]; rfl
  rw [desugarP_known (by rw [h1, ht]; rfl) (fun i hi k hk => known_sub (fun x hx => by
    rcases List.mem_append.1 hx with hx | hx
    · exact List.mem_append_left _ hx
    · exact List.mem_append_right _ (List.mem_append_left _ hx)) _ (h3 i hi k hk))]
  rw [if_pos]
  exact List.any_eq_true.2 ⟨_, hm, List.any_eq_true.2 ⟨_, List.mem_append_right _ (List.mem_singleton_self _), by simp⟩⟩
theorem bad_terms {f : GFi} {terms : List ByteArray} (h : termsOk terms = false) : desugarP f terms = (failG, [], 1) := by
  unfold desugarP
  rw [if_pos (by rw [h]; simp)]
end Go.Lg

namespace Go.Lg
open Go.RowKit
def Lss (r X : AV) : Prop := ∀ (A A' : Nat → Prop) (ρ ρ' : Nat → Option Nat) (I I' : Nat → Prop) (w w' : World) (v : Value), RV A ρ I w r v → RV A' ρ' I' w' X v
theorem Lss.any {r : AV} : Lss r .any := fun _ _ _ _ _ _ _ _ _ _ => .any
theorem Lss.scal {r : AV} (h : r.scal = true) : Lss r r := fun _ _ _ _ _ _ _ _ _ hr => hr.scal h
inductive LssL : List AV → List AV → Prop
  | nil : LssL [] []
  | cons {x y : AV} {xs ys : List AV} (h : Lss x y) (t : LssL xs ys) : LssL (x :: xs) (y :: ys)
theorem LssL.len {xs ys : List AV} (h : LssL xs ys) : ys.length = xs.length := by
  induction h with
  | nil => rfl
  | cons _ _ ih => simp [ih]
theorem LssL.get {xs ys : List AV} (h : LssL xs ys) : ∀ (i : Nat) x y, xs[i]? = some x → ys[i]? = some y → Lss x y := by
  induction h with
  | nil => intro i x y hx; simp at hx
  | cons h _ ih =>
    intro i x y hx hy
    cases i with
    | zero => simp at hx hy; subst hx hy; exact h
    | succ i => exact ih i x y (by simpa using hx) (by simpa using hy)
theorem Lss.agg {xs ys : List AV} (h : LssL xs ys) : Lss (.agg xs) (.agg ys) := by
  intro A A' ρ ρ' I I' w w' v hv
  cases hv with
  | agg hl ha hr =>
    have := h.len
    refine .agg (by omega) ha fun i y u hy hu => ?_
    have hi : i < xs.length := by rw [← this]; exact (List.getElem?_eq_some_iff.1 hy).1
    exact h.get i _ y (List.getElem?_eq_getElem hi) hy _ _ _ _ _ _ _ _ u (hr i _ u (List.getElem?_eq_getElem hi) hu)
theorem Lss.tup {xs ys : List AV} (h : LssL xs ys) : Lss (.tup xs) (.tup ys) := by
  intro A A' ρ ρ' I I' w w' v hv
  cases hv with
  | tup hl hr =>
    have := h.len
    refine .tup (by omega) fun i y u hy hu => ?_
    have hi : i < xs.length := by rw [← this]; exact (List.getElem?_eq_some_iff.1 hy).1
    exact h.get i _ y (List.getElem?_eq_getElem hi) hy _ _ _ _ _ _ _ _ u (hr i _ u (List.getElem?_eq_getElem hi) hu)
structure FnW (P : Program) (f : FuncId) (args : List AV) (X : AV) : Prop where
  spec : Spec P f args [] fun r _ => Lss r X
theorem Fn.w {P : Program} {f : FuncId} {args : List AV} {X Y : AV} (h : Fn P f args X) (hw : Lss X Y) : FnW P f args Y := ⟨h.spec.mono fun r _ ⟨e, _⟩ => by rw [e]; exact hw⟩
section
variable {P : Program} {s : St}
theorem Call.weak {g : FuncId} {first cap args ys : List AV} {K : AV → St → Prop} {X : AV} (hspec : FnW P g ys X) (hz : Fzs s.look (first ++ args ++ cap) ys) (hK : K X s) :
    Call P (.clo (.func g) first cap) args s K := by
  intro Γ a w f vs hs hfv
  obtain ⟨ρ, h⟩ := hs
  obtain ⟨hf, hl, hv⟩ := hfv ρ h
  obtain ⟨us, hrun, hsz, hrv⟩ := call_args hspec.spec.1 hf hl hv
  refine ⟨g, us, hrun, ?_⟩
  have hlen := Fzs_len hz
  have h0 : SR ⟨w, Rd Γ ρ s w, 0, fun _ => none, h.fr.next.1, h.fr.next.2, fun i hi => absurd hi (Nat.not_lt_zero i), [], fun i hi => absurd hi (Nat.not_lt_zero i)⟩ ⟨ys, []⟩ ⟨us, []⟩ w := by
    refine ⟨fun _ => none, fun i hi => absurd hi (Nat.not_lt_zero i), by simp; omega, ?_, fun id o hl => by simp [St.live] at hl, fun id o hl => by simp [St.live] at hl, fun id hid => hid, fun id o b hl => by simp [St.live] at hl, fun i j o o' b hl => by simp [St.live] at hl, rfl, ⟨Nat.le_refl _, rfl, rfl, rfl, fun _ _ _ => rfl, fun _ _ hn => hn⟩⟩
    intro i y v hy hu
    simp only at hy hu
    have hi : i < (first ++ args ++ cap).length := by rw [← hlen]; exact (List.getElem?_eq_some_iff.1 hy).1
    have hx := List.getElem?_eq_getElem hi
    refine (fz_sound h (Fzs_get hz i _ y hx hy) (hrv i _ v hx hu)).mono (fun _ hA => hA.elim) (fun b hb => ⟨⟨.inl hb, hb.1, fun id o hl => by simp [St.live] at hl⟩, rfl⟩) (fun _ _ hn => hn)
  refine (hspec.spec.2 ⟨w, Rd Γ ρ s w, 0, fun _ => none, h.fr.next.1, h.fr.next.2, fun i hi => absurd hi (Nat.not_lt_zero i), [], fun i hi => absurd hi (Nat.not_lt_zero i)⟩ us rfl h0).mono ?_
  rintro e w' ⟨r, objs', v, rfl, hwk, ρ', hs'⟩
  have hfr := hs'.fr
  have hw' := h.same hfr.size hfr.os hfr.tape hfr.output fun b hb => hfr.block b hb (fun i hi => absurd hi (Nat.not_lt_zero i))
  have hr : RV (fun id => id < s.objs.length) ρ (Im Γ ρ s w') w' X v := hwk _ _ _ _ _ _ _ _ v (hs'.tmp 0 r v rfl rfl)
  exact ⟨X, s, v, rfl, hK, ⟨ρ, hw'⟩, fun dst => ⟨ρ, by simpa using hw'.put dst hr⟩⟩
end
section
variable {P : Program} {n M : Nat} {l : List (Nat × AV)} {os : List (Nat × Option AObj)} {X : AV} {d : Tmp} {ty : TypeId} {pos : String} {af : Array Edge} {ops : Array Oper} {rest : List Oper} {K : St → Prop} {g : FuncId} {first cap xa ya : List AV} {f : Operand} {args : Array Operand} {tys : Array TypeId}
theorem sc_bw (hf : opq n l f = some (.clo (.func g) first cap)) (has : opqL n l args.toList = some xa) (hz : FzL (lookq M os) (first ++ xa ++ cap) ya) (hspec : FnW P g ya X) (hk : asemC P ops rest (S n ((d, X) :: l) M os) K) :
    asemC P ops (⟨some d, .call ⟨.value f, args, tys⟩, ty, pos, af, none⟩ :: rest) (S n l M os) K := by
  simp only [asemC]
  refine .inl ?_
  simp only [execA, opq_op hf, opqL_op has]
  refine Call.weak hspec (by rw [S_look']; exact hz.fzs) ?_
  rw [S_put]; exact hk
end
end Go.Lg

namespace Go.Lg
open Go.Proofs
set_option linter.unusedSimpArgs false
set_option linter.unusedVariables false
attribute [local irreducible] Ap Rq asemC WP RunD Ret Gq thenA inBlockA bodyQ noGotoA RqL RqP OpP
set_option maxHeartbeats 8000000
set_option maxRecDepth 20000
attribute [local simp] AV.cells
theorem cntF_chg {f : GFi} (h : 0 < f.rules.length) : ∀ k, cntF (chgR f) k ≤ cntF f k + 1
  | 0 => Nat.zero_le _
  | 1 => by
    have e0 : nth (chgR f).rules 0 = unkR f := by
      rw [nth_eq (by rw [chg_len]; exact h)]
      simp [chgR]
    have : cntF (chgR f) 1 = 0 + cntA (unkR f).alts (unkR f).alts.length := by rw [cntF, e0]; rfl
    have e1 : cntA (unkR f).alts (unkR f).alts.length = 1 := rfl
    omega
  | k + 2 => by
    have := cntF_chg h (k + 1)
    have e : nth (chgR f).rules (k + 1) = nth f.rules (k + 1) := by
      unfold chgR nth
      simp [List.getD]
    rw [cntF, cntF.eq_2 f (k + 1), e]
    omega
theorem dfit_chg {f : GFi} {terms : List ByteArray} (hf : DFit f terms) (h : 0 < f.rules.length) (hc : cntF f f.rules.length ≤ 1000) : DFit (chgR f) terms :=
  ⟨hf.toks, by rw [chg_len]; exact hf.rules, hf.terms, by have := cntF_chg h f.rules.length; rw [chg_len]; omega⟩
theorem map_cons1 {α β : Type} [Inhabited α] (g : α → β) {l : List α} (h : 0 < l.length) : l.map g = g (nth l 0) :: (l.drop 1).map g := by
  cases l with
  | nil => cases h
  | cons x l => rfl
def chgC (f : GFi) (rs : List GRu) : GFi := { f with rules := unkR f :: rs }
theorem chg_cons {f : GFi} (h : 0 < f.rules.length) : chgR f = chgC f (f.rules.drop 1) := by
  unfold chgR chgC
  congr 1
  cases f with
  | mk a b l => cases l with
    | nil => cases h
    | cons x l => rfl
theorem renL_grus (π : Nat → Nat) (l : List GRu) : renL π (l.map gruleA) = l.map gruleA := renL_map (bd_gruleA 0) l
theorem unk_abcd : unk ∉ abcd := fun h => by
  have : abcd.all (fun x => decide (x ≠ unk)) = true := by decide +kernel
  exact of_decide_eq_true (List.all_eq_true.1 this _ h) rfl
theorem law_errors (f : GFi) (hf : f.fit ∧ TokB f) (w : Int) (hw : 0 ≤ w ∧ w ≤ 255) : Fn Tryd.prog 7 [fileA f, .val (.int .u8 w)] (boolA true) := by
  have hs := size_fn f hf.2 100 (by decide) (by decide)
  by_cases hz : sizeF f 100 ≤ 100
  · have hfit := fit_small hf.2 (by decide) (by decide) hz (show abcd.length ≤ 1048576 by decide)
    have hc0 := cnt_small hf.2 (by decide) hz
    have hr := (rdesugar_fn f abcd hf.1 hfit (by omega) (by omega) (by decide)).w (Y := .tup [.agg [.any, .any, .any, .any], .any, intA (desugarP f abcd).2.2]) (.tup (.cons (.agg (.cons .any (.cons .any (.cons .any (.cons .any .nil))))) (.cons .any (.cons (.scal rfl) .nil))))
    have hlw := lname19_fn unk
    refine Fn.intro (by rfl) (by kernel_rfl) Tryd.func7 rfl rfl Tryd.ntmps7 (by exact Nat.le_of_ble_eq_true rfl) ?_; intro Γ hm
    (repeat' (first | apply jA | apply jF | apply jH | apply jI | apply jK | apply jM | apply jS | (refine wp_cond (by rfl) (fun hc => ?_) (fun hc => ?_) <;> (try simp only [sB, ne_eq, reduceCtorEq] at hc) <;> (try (exfalso; omega))) | (refine WP.regionC (id := 0) ?_; (refine se_box (by rfl) (by exact ⟨rfl, rfl⟩) ?_); (refine sassign rfl ?_); apply jW) | (refine WP.regionC (id := 1) ?_; (refine se_lit (OpP.cons (by rfl) (OpP.cons (by rfl) (OpP.cons (by rfl) (OpP.cons (by rfl) (OpP.nil))))) (by rfl) (by rfl) (by rfl) (by rfl) (by rfl) (by rfl) ?_); (refine sassign rfl ?_); apply jW) | (refine WP.regionC (id := 2) ?_; (refine sloadpw rfl rfl rfl rfl ?_); (refine sc_p rfl rfl (by first | ((repeat' first | exact SubL.nil | refine SubL.cons ?_ ?_ | exact Sub.refl); done) | fail) (by first | (simp [bdL, bdL_append, AV.bd]; done) | fail) (hs) ?_); (refine su (agtr rfl rfl) ?_); (refine smove rfl ?_); (refine sg (gq_vf rfl rfl) (fun he => ap_field_p (rq_p rfl rfl) (by rfl) (by rfl)) ?_); (refine sg (gq_vf rfl rfl) (fun he => ap_load_p (rq_c rfl rfl) (by rfl) (by rfl) (by rfl)) ?_); (refine sg (gq_vf rfl rfl) (fun he => ap_len_m (by rfl) (rq_c rfl rfl)) ?_); (refine sg (gq_vf rfl rfl) (fun he => ap_eql (rq_c rfl rfl) (rq_p rfl rfl)) ?_); (refine su (ap_or (rq_p rfl rfl) (rq_c rfl rfl)) ?_); apply jW) | (refine WP.regionC (id := 3) ?_; (refine sc_p rfl rfl (by first | ((repeat' (exact SubL.nil)); done) | fail) (by first | (simp [bdL, bdL_append, AV.bd]; done) | fail) (awake19_fn) ?_); (refine sassign rfl ?_); apply jW) | (refine WP.regionC (id := 4) ?_; (refine sloadpw rfl rfl rfl rfl ?_); (refine smove rfl ?_); (refine sc_bw rfl rfl (by first | ((repeat' first | exact FzL.nil | refine FzL.cons ?_ ?_ | (exact Fz.list (by rfl) (by rfl) (fun _ => by simp [AV.bd, bdL, bdL_append]) (fun _ => rfl)) | (exact Fz.reflp (by simp [AV.bd, bdL, bdL_append]))); done) | fail) (hr) ?_); (refine smove rfl ?_); (refine su (aextract rfl rfl) ?_); (refine su (aextract rfl rfl) ?_); (refine su (aextract rfl rfl) ?_); (refine se_alloc (by rfl) ?_); (refine se_store_b (by rfl) (by rfl) (by rfl) (by rfl) ?_); (refine sassign rfl ?_); (refine sassign rfl ?_); apply jW) | (refine WP.regionC (id := 5) ?_; (refine smove rfl ?_); (refine su (aneq rfl rfl) ?_); apply jW) | (refine WP.regionC (id := 6) ?_; (refine sc_p rfl rfl (by first | ((repeat' (exact SubL.nil)); done) | fail) (by first | (simp [bdL, bdL_append, AV.bd]; done) | fail) (awake19_fn) ?_); (refine sassign rfl ?_); apply jW) | (refine WP.regionC (id := 7) ?_; (refine sassign rfl ?_); apply jW) | exact ret_eq (by rfl) (by rfl) rfl))
    have hok : (desugarP f abcd).2.2 = 0 := by assumption
    refine wp_loop (fun (i : Nat) => i ≤ f.rules.length ∧ ∀ i', i' < i → (nth f.rules i').name ≠ unk) (fun i => f.rules.length - i)
      (fun i => (S 108 [(1, .val (.int .u8 w)), (2, .ptr 0 3 0 0), (5, .ref 1 1 0 4), (9, intA (i : Nat))] 2 [(0, some (.arr 3 [fileA f])), (1, some (.arr 1 (abcd.map strA)))])) 0 ⟨[0, 1], ToR.S rfl (by repeat' (first | exact rt_nil | refine rt_r (by rfl) (by rfl) ?_ | refine rt_t (by rfl) (by rfl) ?_ | refine rt_e (by rfl) (by rfl) ?_)) (by repeat' (first | exact ro_nil | refine ro_e (by rfl) (by rfl) ?_ | refine ro_p (by rfl) (by first | exact rfl | fail) (by first | (simp [bdL, bdL_append, AV.bd]; done) | fail) ?_)) (by rfl) (by (rw [hm]; exact rfl)) (by rfl) (by (simp [bdT, AV.bd, bdL, bdL_append]; done)) (by repeat' (first | exact True.intro | exact rfl | refine And.intro ?_ ?_ | (simp [bdOq, bdL, bdL_append, AV.bd]; done))) (by (rw [hm]; exact Nat.le_of_ble_eq_true rfl))⟩ ⟨Nat.zero_le _, fun i' h => absurd h (Nat.not_lt_zero _)⟩ ?_
    rintro i ⟨hi, hin⟩
    by_cases hil : i < f.rules.length
    · (repeat' (first | apply jA | apply jF | apply jH | apply jI | apply jK | apply jM | apply jN | apply jO | apply jS | (refine wp_cond (by rfl) (fun hc => ?_) (fun hc => ?_) <;> (try simp only [sB, ne_eq, reduceCtorEq] at hc) <;> (try (exfalso; omega))) | (refine WP.regionC (id := 8) ?_; (refine smove rfl ?_); (refine sfieldp rfl rfl rfl ?_); (refine sloadp rfl rfl rfl rfl ?_); (refine slenm rfl rfl ?_); (refine slss rfl rfl ?_); apply jW) | (refine WP.regionC (id := 10) ?_; (refine sfieldp rfl rfl rfl ?_); (refine sloadp rfl rfl rfl rfl ?_); (refine smove rfl ?_); (refine sidxn rfl rfl (by omega) ?_); (refine su (afieldi rfl rfl rfl) ?_); (refine su (aloadi rfl rfl) ?_); (refine seqs rfl rfl ?_); apply jW) | (refine WP.regionC (id := 11) ?_; (refine sc_p rfl rfl (by first | ((repeat' (exact SubL.nil)); done) | fail) (by first | (simp [bdL, bdL_append, AV.bd]; done) | fail) (awake19_fn) ?_); (refine sassign rfl ?_); apply jW) | (refine WP.regionC (id := 9) ?_; (refine smove rfl ?_); (refine sadd rfl rfl (by exact inr_i64_of (by omega)) ?_); (refine sassign rfl ?_); apply jW) | exact ret_eq (by rfl) (by rfl) rfl))
      refine ⟨i + 1, ⟨by omega, by omega, fun i' h => ?_⟩, ?_⟩
      · by_cases e : i' < i
        · exact hin i' e
        · obtain rfl : i' = i := by omega
          assumption
      · exact ⟨[0, 1], ToR.S rfl (by repeat' (first | exact rt_nil | refine rt_r (by rfl) (by rfl) ?_ | refine rt_t (by rfl) (by rfl) ?_ | refine rt_e (by rfl) (by rfl) ?_)) (by repeat' (first | exact ro_nil | refine ro_e (by rfl) (by rfl) ?_ | refine ro_p (by rfl) (by first | exact rfl | fail) (by first | (simp [bdL, bdL_append, AV.bd]; done) | fail) ?_)) (by rfl) (by (rw [hm]; exact rfl)) (by rfl) (by (simp [bdT, AV.bd, bdL, bdL_append]; done)) (by repeat' (first | exact True.intro | exact rfl | refine And.intro ?_ ?_ | (simp [bdOq, bdL, bdL_append, AV.bd]; done))) (by (rw [hm]; exact Nat.le_of_ble_eq_true rfl))⟩
    · have : i = f.rules.length := by omega
      subst this
      have h0 : 0 < f.rules.length := by omega
      have hal : abcd.length = 4 := rfl
      (repeat' (first | apply jA | apply jF | apply jH | apply jJ | apply jL | apply jN | apply jP | (refine wp_cond (by rfl) (fun hc => ?_) (fun hc => ?_) <;> (try simp only [sB, ne_eq, reduceCtorEq] at hc) <;> (try (exfalso; omega))) | (refine WP.regionC (id := 8) ?_; (refine smove rfl ?_); (refine sfieldp rfl rfl rfl ?_); (refine sloadp rfl rfl rfl rfl ?_); (refine slenm rfl rfl ?_); (refine slss rfl rfl ?_); apply jW) | (refine WP.regionC (id := 12) ?_; (refine sassign rfl ?_); apply jW) | (refine WP.regionC (id := 13) ?_; (refine smove rfl ?_); (refine su (arem rfl rfl (by omega)) ?_); apply jW) | (refine WP.regionC (id := 17) ?_; (refine seql rfl rfl ?_); (refine sassign rfl ?_); apply jW) | (refine WP.regionC (id := 18) ?_; (refine smove rfl ?_); (refine sfieldp rfl rfl rfl ?_); (refine sloadp rfl rfl rfl rfl ?_); (refine sidxn rfl rfl (by omega) ?_); (refine su (afieldi rfl rfl rfl) ?_); (refine su (aloadi rfl rfl) ?_); (refine se_lit (OpP.cons (by rfl) (OpP.nil)) (by rfl) (by rfl) (by rfl) (by rfl) (by rfl) (by rfl) ?_); (refine se_app1 (by rfl) (by rfl) (by rfl) (by rfl) (by rfl) (by rfl) (by rfl) (by rfl) (by omega) ?_); (refine sassign rfl ?_); apply jW) | (refine WP.regionC (id := 19) ?_; (refine sassign rfl ?_); apply jW) | (refine WP.regionC (id := 20) ?_; (refine seql rfl rfl ?_); (refine sassign rfl ?_); apply jW) | (refine WP.regionC (id := 21) ?_; (refine smove rfl ?_); (refine se_lit (OpP.cons (by rfl) (OpP.nil)) (by rfl) (by rfl) (by rfl) (by rfl) (by rfl) (by rfl) ?_); (refine se_app1 (by rfl) (by rfl) (by rfl) (by rfl) (by rfl) (by rfl) (by rfl) (by rfl) (by omega) ?_); (refine sassign rfl ?_); apply jW) | (refine WP.regionC (id := 22) ?_; (refine seql rfl rfl ?_); (refine sassign rfl ?_); apply jW) | (refine WP.regionC (id := 23) ?_; (refine smove rfl ?_); (refine se_lit (OpP.cons (by rfl) (OpP.nil)) (by rfl) (by rfl) (by rfl) (by rfl) (by rfl) (by rfl) ?_); (refine se_app1 (by rfl) (by rfl) (by rfl) (by rfl) (by rfl) (by rfl) (by rfl) (by rfl) (by omega) ?_); (refine sassign rfl ?_); apply jW) | (refine WP.regionC (id := 14) ?_; (refine se_lit0 ?_); (refine sfieldp rfl rfl rfl ?_); (refine sloadp rfl rfl rfl rfl ?_); (refine se_appE (by rfl) (by rfl) (by rfl) (by rfl) (by rfl) (by rfl) (by (simp only [sL] <;> omega)) ?_); (refine sfieldp rfl rfl rfl ?_); (refine se_store_b (by rfl) (by rfl) (by rfl) (by rfl) ?_); apply jW)))
      · have hd := desugar_fn f (abcd ++ [(nth f.rules 0).name]) (fit_small hf.2 (by decide) (by decide) hz (by simp [hal]))
        rw [add_conflict hok h0] at hd
        refine wp_frzm (L := abcd ++ [(nth f.rules 0).name]) (f := strA) 5 hm (by rfl) (by rfl) (by rfl) (fun _ => rfl) (fun _ => rfl) (by rfl) ?_
        (repeat' (first | apply jA | apply jH | apply jK | apply jS | (refine WP.regionC (id := 24) ?_; (refine sloadpw rfl rfl rfl rfl ?_); (refine smove rfl ?_); (refine sc_p rfl rfl (by first | ((repeat' first | exact SubL.nil | refine SubL.cons ?_ ?_ | exact Sub.refl); done) | fail) (by first | (simp [bdL, bdL_append, AV.bd]; done) | fail) (hd) ?_); (refine smove rfl ?_); (refine su (aextract rfl rfl) ?_); (refine su (aextract rfl rfl) ?_); (refine su (aextract rfl rfl) ?_); (refine se_alloc (by rfl) ?_); (refine se_store_b (by rfl) (by rfl) (by rfl) (by rfl) ?_); (refine sassign rfl ?_); (refine sassign rfl ?_); apply jW) | (refine WP.regionC (id := 25) ?_; (refine sc_p rfl rfl (by first | ((repeat' (exact SubL.nil)); done) | fail) (by first | (simp [bdL, bdL_append, AV.bd]; done) | fail) (awake19_fn) ?_); (refine smove rfl ?_); (refine sg (gq_vt rfl rfl) (fun he => ap_move (rq_p rfl rfl)) ?_); (refine sg (gq_vt rfl rfl) (fun he => ap_move (rq_p rfl rfl)) ?_); (refine sg (gq_vt rfl rfl) (fun he => ap_eql (rq_c rfl rfl) (rq_c rfl rfl)) ?_); (refine su (ap_and (rq_p rfl rfl) (rq_c rfl rfl)) ?_); (refine smove rfl ?_); (refine sg (gq_vt rfl rfl) (fun he => ap_field_p (rq_p rfl rfl) (by rfl) (by rfl)) ?_); (refine sg (gq_vt rfl rfl) (fun he => ap_load_p (rq_c rfl rfl) (by rfl) (by rfl) (by rfl)) ?_); (refine sg (gq_vt rfl rfl) (fun he => ap_len_m (by rfl) (rq_c rfl rfl)) ?_); (refine sg (gq_vt rfl rfl) (fun he => ap_eql (rq_c rfl rfl) (rq_p rfl rfl)) ?_); (refine su (ap_and (rq_p rfl rfl) (rq_c rfl rfl)) ?_); (refine smove rfl ?_); (refine sg (gq_vt rfl rfl) (fun he => ap_move (rq_p rfl rfl)) ?_); (refine sg (gq_vt rfl rfl) (fun he => ap_len_m (by rfl) (rq_c rfl rfl)) ?_); (refine sg (gq_vt rfl rfl) (fun he => ap_eql (rq_c rfl rfl) (rq_p rfl rfl)) ?_); (refine su (ap_and (rq_p rfl rfl) (rq_c rfl rfl)) ?_); (refine sassign rfl ?_); apply jW) | exact ret_eq (by rfl) (by rfl) rfl))
      · have hd := desugar_fn f (abcd ++ [⟨#[97]⟩]) (fit_small hf.2 (by decide) (by decide) hz (by simp [hal]))
        have hb : desugarP f (abcd ++ [(⟨#[97]⟩ : ByteArray)]) = (failG, [], 1) := bad_terms (by decide +kernel)
        rw [hb] at hd
        refine wp_frzm (L := abcd ++ [⟨#[97]⟩]) (f := strA) 5 hm (by rfl) (by rfl) (by rfl) (fun _ => rfl) (fun _ => rfl) (by rfl) ?_
        (repeat' (first | apply jA | apply jH | apply jK | apply jS | (refine WP.regionC (id := 24) ?_; (refine sloadpw rfl rfl rfl rfl ?_); (refine smove rfl ?_); (refine sc_p rfl rfl (by first | ((repeat' first | exact SubL.nil | refine SubL.cons ?_ ?_ | exact Sub.refl); done) | fail) (by first | (simp [bdL, bdL_append, AV.bd]; done) | fail) (hd) ?_); (refine smove rfl ?_); (refine su (aextract rfl rfl) ?_); (refine su (aextract rfl rfl) ?_); (refine su (aextract rfl rfl) ?_); (refine se_alloc (by rfl) ?_); (refine se_store_b (by rfl) (by rfl) (by rfl) (by rfl) ?_); (refine sassign rfl ?_); (refine sassign rfl ?_); apply jW) | (refine WP.regionC (id := 25) ?_; (refine sc_p rfl rfl (by first | ((repeat' (exact SubL.nil)); done) | fail) (by first | (simp [bdL, bdL_append, AV.bd]; done) | fail) (awake19_fn) ?_); (refine smove rfl ?_); (refine sg (gq_vt rfl rfl) (fun he => ap_move (rq_p rfl rfl)) ?_); (refine sg (gq_vt rfl rfl) (fun he => ap_move (rq_p rfl rfl)) ?_); (refine sg (gq_vt rfl rfl) (fun he => ap_eql (rq_c rfl rfl) (rq_c rfl rfl)) ?_); (refine su (ap_and (rq_p rfl rfl) (rq_c rfl rfl)) ?_); (refine smove rfl ?_); (refine sg (gq_vt rfl rfl) (fun he => ap_field_p (rq_p rfl rfl) (by rfl) (by rfl)) ?_); (refine sg (gq_vt rfl rfl) (fun he => ap_load_p (rq_c rfl rfl) (by rfl) (by rfl) (by rfl)) ?_); (refine sg (gq_vt rfl rfl) (fun he => ap_len_m (by rfl) (rq_c rfl rfl)) ?_); (refine sg (gq_vt rfl rfl) (fun he => ap_eql (rq_c rfl rfl) (rq_p rfl rfl)) ?_); (refine su (ap_and (rq_p rfl rfl) (rq_c rfl rfl)) ?_); (refine smove rfl ?_); (refine sg (gq_vt rfl rfl) (fun he => ap_move (rq_p rfl rfl)) ?_); (refine sg (gq_vt rfl rfl) (fun he => ap_len_m (by rfl) (rq_c rfl rfl)) ?_); (refine sg (gq_vt rfl rfl) (fun he => ap_eql (rq_c rfl rfl) (rq_p rfl rfl)) ?_); (refine su (ap_and (rq_p rfl rfl) (rq_c rfl rfl)) ?_); (refine sassign rfl ?_); apply jW) | exact ret_eq (by rfl) (by rfl) rfl))
      · have hd := desugar_fn f (abcd ++ [⟨#[112, 114, 105, 99, 101]⟩]) (fit_small hf.2 (by decide) (by decide) hz (by simp [hal]))
        have hb : desugarP f (abcd ++ [(⟨#[112, 114, 105, 99, 101]⟩ : ByteArray)]) = (failG, [], 1) := bad_terms (by decide +kernel)
        rw [hb] at hd
        refine wp_frzm (L := abcd ++ [⟨#[112, 114, 105, 99, 101]⟩]) (f := strA) 5 hm (by rfl) (by rfl) (by rfl) (fun _ => rfl) (fun _ => rfl) (by rfl) ?_
        (repeat' (first | apply jA | apply jH | apply jK | apply jS | (refine WP.regionC (id := 24) ?_; (refine sloadpw rfl rfl rfl rfl ?_); (refine smove rfl ?_); (refine sc_p rfl rfl (by first | ((repeat' first | exact SubL.nil | refine SubL.cons ?_ ?_ | exact Sub.refl); done) | fail) (by first | (simp [bdL, bdL_append, AV.bd]; done) | fail) (hd) ?_); (refine smove rfl ?_); (refine su (aextract rfl rfl) ?_); (refine su (aextract rfl rfl) ?_); (refine su (aextract rfl rfl) ?_); (refine se_alloc (by rfl) ?_); (refine se_store_b (by rfl) (by rfl) (by rfl) (by rfl) ?_); (refine sassign rfl ?_); (refine sassign rfl ?_); apply jW) | (refine WP.regionC (id := 25) ?_; (refine sc_p rfl rfl (by first | ((repeat' (exact SubL.nil)); done) | fail) (by first | (simp [bdL, bdL_append, AV.bd]; done) | fail) (awake19_fn) ?_); (refine smove rfl ?_); (refine sg (gq_vt rfl rfl) (fun he => ap_move (rq_p rfl rfl)) ?_); (refine sg (gq_vt rfl rfl) (fun he => ap_move (rq_p rfl rfl)) ?_); (refine sg (gq_vt rfl rfl) (fun he => ap_eql (rq_c rfl rfl) (rq_c rfl rfl)) ?_); (refine su (ap_and (rq_p rfl rfl) (rq_c rfl rfl)) ?_); (refine smove rfl ?_); (refine sg (gq_vt rfl rfl) (fun he => ap_field_p (rq_p rfl rfl) (by rfl) (by rfl)) ?_); (refine sg (gq_vt rfl rfl) (fun he => ap_load_p (rq_c rfl rfl) (by rfl) (by rfl) (by rfl)) ?_); (refine sg (gq_vt rfl rfl) (fun he => ap_len_m (by rfl) (rq_c rfl rfl)) ?_); (refine sg (gq_vt rfl rfl) (fun he => ap_eql (rq_c rfl rfl) (rq_p rfl rfl)) ?_); (refine su (ap_and (rq_p rfl rfl) (rq_c rfl rfl)) ?_); (refine smove rfl ?_); (refine sg (gq_vt rfl rfl) (fun he => ap_move (rq_p rfl rfl)) ?_); (refine sg (gq_vt rfl rfl) (fun he => ap_len_m (by rfl) (rq_c rfl rfl)) ?_); (refine sg (gq_vt rfl rfl) (fun he => ap_eql (rq_c rfl rfl) (rq_p rfl rfl)) ?_); (refine su (ap_and (rq_p rfl rfl) (rq_c rfl rfl)) ?_); (refine sassign rfl ?_); apply jW) | exact ret_eq (by rfl) (by rfl) rfl))
      · have hd := desugar_fn (chgR f) abcd (dfit_chg hfit h0 (by omega))
        obtain ⟨hvf, htk, _, _⟩ := ok_known hok
        have hne : ∀ r, r ∈ f.rules → r.name ≠ unk := fun r hr => by
          obtain ⟨i, hi, rfl⟩ := List.mem_iff_getElem.1 hr
          have := hin i hi
          rwa [nth_eq hi] at this
        rw [chg_unknown hvf htk hne unk_abcd, chg_cons h0] at hd
        rw [map_cons1 gruleA h0]
        generalize f.rules.drop 1 = rs at hd ⊢
        refine wp_st (S 108 [(1, .val (.int .u8 w)), (2, .ptr 0 3 0 0), (5, .ref 1 1 0 4)] 3 [(0, some (.arr 3 [.agg [strA f.start, levelsA f.levels, .ref 2 2 0 (rs.map gruleA).length.succ]])), (1, some (.arr 1 (abcd.map strA))), (2, some (.arr 2 (gruleA (nth f.rules 0) :: rs.map gruleA)))]) ⟨[0, 1, 3], ToR.S rfl (by repeat' (first | exact rt_nil | refine rt_r (by rfl) (by rfl) ?_ | refine rt_t (by rfl) (by rfl) ?_ | refine rt_e (by rfl) (by rfl) ?_)) (by repeat' (first | exact ro_nil | refine ro_e (by rfl) (by rfl) ?_ | refine ro_p (by rfl) (by first | exact rfl | fail) (by first | (simp [bdL, bdL_append, AV.bd]; done) | fail) ?_ | refine ro_e (by rfl) (by simp only [renL, AV.ren, ren_strsA, ren_intsA, ren_levelsA, renL_grus]; exact rfl) ?_)) (by rfl) (by (rw [hm]; exact rfl)) (by rfl) (by (simp [bdT, AV.bd, bdL, bdL_append]; done)) (by repeat' (first | exact True.intro | exact rfl | refine And.intro ?_ ?_ | (simp [bdOq, bdL, bdL_append, AV.bd]; done))) (by (rw [hm]; exact Nat.le_of_ble_eq_true rfl))⟩ ?_
        (repeat' (first | apply jA | apply jH | apply jN | (refine wp_draw (id := 15) 8 mixed (by kernel_rfl) (by kernel_rfl) rfl ?_ <;> (refine rfieldp rfl rfl rfl ?_) <;> (refine rloadp rfl rfl rfl rfl ?_) <;> (refine rd_call rfl rfl (by first | ((repeat' first | exact SubL.nil | refine SubL.cons ?_ ?_ | exact Sub.refl); done) | fail) (by first | (simp [bdL, bdL_append, AV.bd]; done) | fail) (hlw) ?_) <;> (refine rd_u (by rfl) (by rfl) (ap_build (RqP.cons (rq_p rfl rfl) (RqP.nil)) (by rfl)) ?_) <;> (refine rd_lit (OpP.cons (by rfl) (OpP.nil)) (by rfl) (by rfl) (by rfl) (by rfl) (by rfl) (by rfl) ?_) <;> (refine rd_u (by rfl) (by rfl) (aidxrn rfl rfl (by (simp only [sL] <;> omega))) ?_) <;> (refine rfieldp rfl rfl rfl ?_) <;> (refine rd_store (by rfl) (by rfl) (by rfl) (by rfl) (by rfl) ?_) <;> (refine rd_end (by kernel_rfl) ?_)) | (refine WP.regionC (id := 16) ?_; (refine sassign rfl ?_); apply jW)))
        refine wp_st (S 108 [(2, .ptr 0 3 0 0), (5, .ref 1 1 0 4), (10, intA 4)] 4 [(0, some (.arr 3 [.agg [strA f.start, levelsA f.levels, .ref 2 2 0 (rs.map gruleA).length.succ]])), (1, some (.arr 1 (abcd.map strA))), (2, some (.arr 2 (.agg [strA (nth f.rules 0).name, .ref 3 4 0 1] :: rs.map gruleA))), (3, some (.arr 4 [altA ⟨.mk 1 unk [], 0⟩]))]) ⟨[0, 1, 2, 7], ToR.S rfl (by repeat' (first | exact rt_nil | refine rt_r (by rfl) (by rfl) ?_ | refine rt_t (by rfl) (by rfl) ?_ | refine rt_e (by rfl) (by rfl) ?_)) (by repeat' (first | exact ro_nil | refine ro_e (by rfl) (by rfl) ?_ | refine ro_e (by rfl) (by simp only [renL, AV.ren, ren_strsA, ren_intsA, ren_levelsA, renL_grus]; exact rfl) ?_)) (by rfl) (by (rw [hm]; exact rfl)) (by rfl) (by (simp [bdT, AV.bd, bdL, bdL_append]; done)) (by repeat' (first | exact True.intro | exact rfl | refine And.intro ?_ ?_ | exact bdL_map (fun _ => by simp [AV.bd, bdL, bdL_append]) _ | (simp [bdOq, bdL, bdL_append, AV.bd]; done))) (by (rw [hm]; exact Nat.le_of_ble_eq_true rfl))⟩ ?_
        refine wp_frzm (id := 1) (k := 1) (L := abcd) (f := strA) 5 hm (by rfl) (by rfl) (by rfl) (fun _ => rfl) (fun _ => rfl) (by rfl) ?_
        refine wp_frzxm (id := 3) (k := 4) (f := altA) (L := [⟨.mk 1 unk [], 0⟩]) 2 1 [] _ hm (by rfl) (by rfl) (by rfl) (by rfl) (by rfl) (fun _ => by simp) (fun a => by obtain ⟨e, p⟩ := a; cases e; rfl) (by rfl) ?_
        refine wp_frzom (id := 2) (k := 2) (f := gruleA) (L := unkR f :: rs) 0 2 hm (by rfl) (by rfl) (by rfl) (by rfl) (by simp) (fun _ => by simp) (fun _ => rfl) (by rfl) ?_
        (repeat' (first | apply jA | apply jH | apply jK | apply jS | (refine WP.regionC (id := 24) ?_; (refine sloadpw rfl rfl rfl rfl ?_); (refine smove rfl ?_); (refine sc_p rfl rfl (by first | ((repeat' first | exact SubL.nil | refine SubL.cons ?_ ?_ | exact Sub.refl); done) | fail) (by first | (simp [bdL, bdL_append, AV.bd]; done) | fail) (hd) ?_); (refine smove rfl ?_); (refine su (aextract rfl rfl) ?_); (refine su (aextract rfl rfl) ?_); (refine su (aextract rfl rfl) ?_); (refine se_alloc (by rfl) ?_); (refine se_store_b (by rfl) (by rfl) (by rfl) (by rfl) ?_); (refine sassign rfl ?_); (refine sassign rfl ?_); apply jW) | (refine WP.regionC (id := 25) ?_; (refine sc_p rfl rfl (by first | ((repeat' (exact SubL.nil)); done) | fail) (by first | (simp [bdL, bdL_append, AV.bd]; done) | fail) (awake19_fn) ?_); (refine smove rfl ?_); (refine sg (gq_vt rfl rfl) (fun he => ap_move (rq_p rfl rfl)) ?_); (refine sg (gq_vt rfl rfl) (fun he => ap_move (rq_p rfl rfl)) ?_); (refine sg (gq_vt rfl rfl) (fun he => ap_eql (rq_c rfl rfl) (rq_c rfl rfl)) ?_); (refine su (ap_and (rq_p rfl rfl) (rq_c rfl rfl)) ?_); (refine smove rfl ?_); (refine sg (gq_vt rfl rfl) (fun he => ap_field_p (rq_p rfl rfl) (by rfl) (by rfl)) ?_); (refine sg (gq_vt rfl rfl) (fun he => ap_load_p (rq_c rfl rfl) (by rfl) (by rfl) (by rfl)) ?_); (refine sg (gq_vt rfl rfl) (fun he => ap_len_m (by rfl) (rq_c rfl rfl)) ?_); (refine sg (gq_vt rfl rfl) (fun he => ap_eql (rq_c rfl rfl) (rq_p rfl rfl)) ?_); (refine su (ap_and (rq_p rfl rfl) (rq_c rfl rfl)) ?_); (refine smove rfl ?_); (refine sg (gq_vt rfl rfl) (fun he => ap_move (rq_p rfl rfl)) ?_); (refine sg (gq_vt rfl rfl) (fun he => ap_len_m (by rfl) (rq_c rfl rfl)) ?_); (refine sg (gq_vt rfl rfl) (fun he => ap_eql (rq_c rfl rfl) (rq_p rfl rfl)) ?_); (refine su (ap_and (rq_p rfl rfl) (rq_c rfl rfl)) ?_); (refine sassign rfl ?_); apply jW) | exact ret_eq (by rfl) (by rfl) rfl))
  · refine Fn.intro (by rfl) (by kernel_rfl) Tryd.func7 rfl rfl Tryd.ntmps7 (by exact Nat.le_of_ble_eq_true rfl) ?_; intro Γ hm
    (repeat' (first | apply jA | apply jH | apply jK | apply jM | apply jS | (refine wp_cond (by rfl) (fun hc => ?_) (fun hc => ?_) <;> (try simp only [sB, ne_eq, reduceCtorEq] at hc) <;> (try (exfalso; omega))) | (refine WP.regionC (id := 0) ?_; (refine se_box (by rfl) (by exact ⟨rfl, rfl⟩) ?_); (refine sassign rfl ?_); apply jW) | (refine WP.regionC (id := 1) ?_; (refine se_lit (OpP.cons (by rfl) (OpP.cons (by rfl) (OpP.cons (by rfl) (OpP.cons (by rfl) (OpP.nil))))) (by rfl) (by rfl) (by rfl) (by rfl) (by rfl) (by rfl) ?_); (refine sassign rfl ?_); apply jW) | (refine WP.regionC (id := 2) ?_; (refine sloadpw rfl rfl rfl rfl ?_); (refine sc_p rfl rfl (by first | ((repeat' first | exact SubL.nil | refine SubL.cons ?_ ?_ | exact Sub.refl); done) | fail) (by first | (simp [bdL, bdL_append, AV.bd]; done) | fail) (hs) ?_); (refine su (agtr rfl rfl) ?_); (refine smove rfl ?_); (refine sg (gq_vf rfl rfl) (fun he => ap_field_p (rq_p rfl rfl) (by rfl) (by rfl)) ?_); (refine sg (gq_vf rfl rfl) (fun he => ap_load_p (rq_c rfl rfl) (by rfl) (by rfl) (by rfl)) ?_); (refine sg (gq_vf rfl rfl) (fun he => ap_len_m (by rfl) (rq_c rfl rfl)) ?_); (refine sg (gq_vf rfl rfl) (fun he => ap_eql (rq_c rfl rfl) (rq_p rfl rfl)) ?_); (refine su (ap_or (rq_p rfl rfl) (rq_c rfl rfl)) ?_); apply jW) | (refine WP.regionC (id := 3) ?_; (refine sc_p rfl rfl (by first | ((repeat' (exact SubL.nil)); done) | fail) (by first | (simp [bdL, bdL_append, AV.bd]; done) | fail) (awake19_fn) ?_); (refine sassign rfl ?_); apply jW) | exact ret_eq (by rfl) (by rfl) rfl))
end Go.Lg
