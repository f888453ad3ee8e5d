/-
  Part 17 of the proof of DesugarGrammarCard: the logic over the model, the functions' contracts and the plain laws.
-/
import Derived.Test.YtbjeoainfloiaaaDoorDg16

set_option linter.unusedSimpArgs false
set_option linter.unusedVariables false
set_option linter.unusedSectionVars false
set_option linter.defProp false

namespace Go.Lg
open Go.Proofs
set_option linter.unusedSimpArgs false
set_option linter.unusedVariables false
attribute [local irreducible] Ap Rq asemC WP RunD Ret Gq thenA inBlockA bodyQ noGotoA RqL RqP OpP
set_option maxHeartbeats 1000000
theorem ints_fn (a b : List Int) : Fn Tryd.prog 14 [intsA a, intsA b] (boolA (decide (a = b))) := by
  refine Fn.intro rfl (by kernel_rfl) Tryd.func14 rfl rfl Tryd.ntmps14 (by exact Nat.le_of_ble_eq_true rfl) ?_; intro Γ hm
  refine wp_lens 0 rfl fun h0 => wp_lens 1 rfl fun h1 => ?_
  rw [lens_intsA] at h0 h1
  (repeat' (first | apply jA | apply jF | apply jH | apply jI | apply jK | apply jM | apply jS | (refine wp_cond rfl (fun hc => ?_) (fun hc => ?_) <;> (try simp only [sB, ne_eq, reduceCtorEq] at hc) <;> (try (exfalso; omega))) | (refine WP.regionC ?_; (refine sassign rfl ?_); apply jW) | (refine WP.regionC (id := 1) ?_; (refine smove rfl ?_); (refine slenm rfl rfl ?_); (refine smove rfl ?_); (refine slenm rfl rfl ?_); (refine su (aneq rfl rfl) ?_); apply jW) | refine ret_b rfl ?_))
  · have : a ≠ b := by rintro rfl; exact hc rfl
    simp [this]
  refine wp_loop (fun k => k ≤ a.length ∧ a.take k = b.take k) (fun k => a.length - k) (fun k => (S 26 [(0, intsA a), (1, intsA b), (5, intA (k : Nat))] 0 [])) 0 ⟨[], ToR.S rfl (by repeat' (first | exact rt_nil | refine rt_e rfl rfl ?_ | refine rt_p rfl rfl (by first | (simp [AV.bd, bdL, bdL_append]; done) | fail) ?_)) (by repeat' (exact ro_nil)) rfl (by (rw [hm]; exact rfl)) rfl (by (simp [bdT, AV.bd, bdL, bdL_append]; done)) (by repeat' (exact True.intro)) (by (rw [hm]; exact Nat.le_of_ble_eq_true rfl))⟩ ⟨Nat.zero_le _, rfl⟩ ?_
  rintro k ⟨hk, hall⟩
  have hab : a.length = b.length := by omega
  (repeat' (first | apply jA | apply jF | apply jH | apply jI | apply jJ | apply jK | apply jL | apply jM | apply jN | apply jO | apply jP | apply jS | (refine wp_cond rfl (fun hc => ?_) (fun hc => ?_) <;> (try simp only [sB, ne_eq, reduceCtorEq] at hc) <;> (try (exfalso; omega))) | (refine WP.regionC (id := 4) ?_; (refine smove rfl ?_); (refine smove rfl ?_); (refine slenm rfl rfl ?_); (refine slss rfl rfl ?_); apply jW) | (refine wp_draw (id := 6) 9 mixed (by kernel_rfl) (by kernel_rfl) rfl ?_ <;> (refine rmove rfl ?_) <;> (refine rmove rfl ?_) <;> (refine rd_u rfl rfl (aidxn rfl rfl (by omega)) ?_) <;> (refine rd_u rfl rfl (aloadw rfl rfl) ?_) <;> (refine rmove rfl ?_) <;> (refine rmove rfl ?_) <;> (refine rd_u rfl rfl (aidxn rfl rfl (by omega)) ?_) <;> (refine rd_u rfl rfl (aloadw rfl rfl) ?_) <;> (refine rd_u rfl rfl (aneq rfl rfl) ?_) <;> (refine rd_end (by kernel_rfl) ?_)) | (refine WP.regionC ?_; (refine sassign rfl ?_); apply jW) | (refine WP.regionC (id := 5) ?_; (refine smove rfl ?_); (refine sadd rfl rfl (by exact inr_i64_of (by omega)) ?_); (refine sassign rfl ?_); apply jW) | refine ret_b rfl ?_))
  · have : a ≠ b := by rintro rfl; exact hc rfl
    simp [this]
  · exact ⟨k + 1, ⟨by omega, by omega, take_eq_succ (by omega) (by omega) hall hc⟩, ⟨[], ToR.S rfl (by repeat' (first | exact rt_nil | refine rt_e rfl rfl ?_ | refine rt_p rfl rfl (by first | (simp [AV.bd, bdL, bdL_append]; done) | fail) ?_)) (by repeat' (exact ro_nil)) rfl (by (rw [hm]; exact rfl)) rfl (by (simp [bdT, AV.bd, bdL, bdL_append]; done)) (by repeat' (exact True.intro)) (by (rw [hm]; exact Nat.le_of_ble_eq_true rfl))⟩⟩
  simp [eq_of_takes hab (by omega) hall]
end Go.Lg

namespace Go.Lg
def jX := @wpl_end
end Go.Lg

namespace Go.Lg
open Go.Proofs
set_option linter.unusedSimpArgs false
set_option linter.unusedVariables false
attribute [local irreducible] Ap Rq asemC WP RunD Ret Gq thenA inBlockA bodyQ noGotoA RqL RqP OpP
set_option maxHeartbeats 8000000
set_option maxRecDepth 20000
attribute [local simp] AV.cells
theorem lname19_fn (s : ByteArray) : Fn Tryd.prog 19 [strA s] (exprA (.mk 1 s [])) := by
  refine Fn.intro rfl (by kernel_rfl) Tryd.func19 rfl rfl Tryd.ntmps19 (by exact Nat.le_of_ble_eq_true rfl) ?_; intro Γ hm
  (repeat' (first | apply jA | apply jH | apply jK | apply jS | (refine WP.regionC (id := 0) ?_; (refine se_alloc rfl ?_); apply jW) | (refine WP.regionC (id := 1) ?_; (refine smove rfl ?_); (refine su (ap_build (RqP.cons (rq_p rfl rfl) (RqP.cons (rq_p rfl rfl) (RqP.nil))) rfl) ?_); (refine se_store_b rfl rfl rfl rfl ?_); apply jW)))
  exact ret_c (x := .agg [intA 1, strA s, .val (.slice none 0 0)]) rfl rfl rfl rfl (by first | ((repeat' first | exact FzL.nil | refine FzL.cons ?_ ?_ | exact Fz.nil | (exact Fz.reflp (by simp [AV.bd, bdL, bdL_append])) | refine Fz.aggL ?_); done) | fail)
theorem exH_fit (terms : List ByteArray) (h : terms.length ≤ 100) : DFit exH terms := ⟨by decide +kernel, by decide +kernel, by omega, by decide +kernel⟩
theorem exH_a : Fn Tryd.prog 11 [fileA exH, strsA [exA, exB, exC]] (desugarA (exW, [0, -1, -1, -1, -1], 0)) := dexA ▸ desugar_fn exH _ (exH_fit _ (by decide))
theorem exH_b : Fn Tryd.prog 11 [fileA exH, strsA [exA, exB]] (desugarA (failG, [], 4)) := dexB ▸ desugar_fn exH _ (exH_fit _ (by decide))
theorem exH_c : Fn Tryd.prog 11 [fileA exH, strsA [exA, exB, exC, exN0]] (desugarA (failG, [], 14)) := dexC ▸ desugar_fn exH _ (exH_fit _ (by decide))
theorem awake19_fn : Fn Tryd.prog 10 [] (boolA true) := by
  refine Fn.intro rfl (by kernel_rfl) Tryd.func10 rfl rfl Tryd.ntmps10 (by exact Nat.le_of_ble_eq_true rfl) ?_; intro Γ hm
  (repeat' (first | apply jA | apply jH | (refine WP.regionC (id := 0) ?_; (refine sassign rfl ?_); apply jW) | (refine WP.regionC (id := 1) ?_; (refine sc_p rfl rfl (by first | ((repeat' first | exact SubL.nil | refine SubL.cons ?_ ?_ | exact Sub.refl); done) | fail) (by first | (simp [bdL, bdL_append, AV.bd]; done) | fail) (lname19_fn _) ?_); (refine sc_p rfl rfl (by first | ((repeat' first | exact SubL.nil | refine SubL.cons ?_ ?_ | exact Sub.refl); done) | fail) (by first | (simp [bdL, bdL_append, AV.bd]; done) | fail) (lname19_fn _) ?_); (refine se_lit (OpP.cons rfl (OpP.cons rfl (OpP.nil))) rfl rfl rfl rfl rfl rfl ?_); (refine su (ap_build (RqP.cons (rq_p rfl rfl) (RqP.cons (rq_p rfl rfl) (RqP.nil))) rfl) ?_); (refine se_alloc rfl ?_); (refine se_store_b rfl rfl rfl rfl ?_); apply jW) | (refine wp_draw (id := 2) 13 mixed (by kernel_rfl) (by kernel_rfl) rfl ?_ <;> (refine rd_call rfl rfl (by first | ((repeat' first | exact SubL.nil | refine SubL.cons ?_ ?_ | exact Sub.refl); done) | fail) (by first | (simp [bdL, bdL_append, AV.bd]; done) | fail) (lname19_fn _) ?_) <;> (refine rd_u rfl rfl (aloadpw rfl rfl rfl rfl) ?_) <;> (refine rd_lit (OpP.cons rfl (OpP.nil)) rfl rfl rfl rfl rfl rfl ?_) <;> (refine rd_u rfl rfl (ap_build (RqP.cons (rq_p rfl rfl) (RqP.cons (rq_p rfl rfl) (RqP.nil))) rfl) ?_) <;> (refine rd_lit (OpP.cons rfl (OpP.cons rfl (OpP.nil))) rfl rfl rfl rfl rfl rfl ?_) <;> (refine rd_u rfl rfl (ap_build (RqP.cons (rq_p rfl rfl) (RqP.cons (rq_p rfl rfl) (RqP.nil))) rfl) ?_) <;> (refine rd_u rfl rfl (ap_build (RqP.cons (rq_p rfl rfl) (RqP.cons (rq_p rfl rfl) (RqP.nil))) rfl) ?_) <;> (refine rd_lit (OpP.cons rfl (OpP.nil)) rfl rfl rfl rfl rfl rfl ?_) <;> (refine rd_u rfl rfl (ap_build (RqP.cons (rq_p rfl rfl) (RqP.cons (rq_p rfl rfl) (RqP.nil))) rfl) ?_) <;> (refine rd_lit (OpP.cons rfl (OpP.nil)) rfl rfl rfl rfl rfl rfl ?_) <;> (refine rd_u rfl rfl (ap_build (RqP.cons (rq_p rfl rfl) (RqP.cons (rq_p rfl rfl) (RqP.nil))) rfl) ?_) <;> (refine rd_alloc rfl ?_) <;> (refine rd_store_b rfl rfl rfl rfl ?_) <;> (refine rd_end (by kernel_rfl) ?_))))
  refine wp_st (S 82 [(2, .ptr 5 3 0 0)] 6 [(0, some (.arr 3 [exprA (nmE exB), exprA (nmE exC)])), (1, some (.arr 3 [.agg [intA 3, strA ⟨#[]⟩, .ref 0 3 0 2]])), (2, some (.arr 3 [exprA (nmE exA), .agg [intA 5, strA ⟨#[]⟩, .ref 1 3 0 1]])), (3, some (.arr 4 [.agg [intA 2, strA ⟨#[]⟩, .ref 2 3 0 2, intA 4]])), (4, some (.arr 2 [.agg [strA exN0, .ref 3 4 0 1]])), (5, some (.arr 3 [.agg [strA exN0, .val (.slice none 0 0), .ref 4 2 0 1]]))]) ⟨[0, 4, 6, 9, 11, 13], ToR.S rfl (by repeat' (first | exact rt_nil | refine rt_t rfl rfl ?_)) (by repeat' (first | exact ro_nil | refine ro_e rfl rfl ?_)) rfl (by (rw [hm]; exact rfl)) rfl (by (simp [bdT, AV.bd, bdL, bdL_append]; done)) (by repeat' (first | exact True.intro | exact rfl | refine And.intro ?_ ?_)) (by (rw [hm]; exact Nat.le_of_ble_eq_true rfl))⟩ ?_
  refine wp_frzxm (id := 0) (k := 3) (f := exprA) (L := [nmE exB, nmE exC]) 1 2 [] _ hm rfl rfl rfl rfl rfl (fun _ => by simp) (fun _ => by cases ‹GEx›; rfl) rfl ?_
  refine wp_frzxm (id := 1) (k := 3) (f := exprA) (L := [exCh]) 2 2 [exprA (nmE exA)] _ hm rfl rfl rfl rfl rfl (fun _ => by simp) (fun _ => by cases ‹GEx›; rfl) rfl ?_
  refine wp_frzxm (id := 2) (k := 3) (f := exprA) (L := [nmE exA, exSt]) 3 2 [] _ hm rfl rfl rfl rfl rfl (fun _ => by simp) (fun _ => by cases ‹GEx›; rfl) rfl ?_
  refine wp_frzxm (id := 3) (k := 4) (f := altA) (L := [⟨exBo, 4⟩]) 4 1 [] _ hm rfl rfl rfl rfl rfl (fun _ => by simp) (fun a => by obtain ⟨e, p⟩ := a; cases e; rfl) rfl ?_
  refine wp_frzxm (id := 4) (k := 2) (f := gruleA) (L := exH.rules) 5 2 [] _ hm rfl rfl rfl rfl rfl (fun _ => by simp) (fun _ => rfl) rfl ?_
  (repeat' (first | apply jA | apply jH | (refine wpl_region (id := 3) ?_; (refine wpl_step rfl ?_); (refine sloadpw rfl rfl rfl rfl ?_); (apply jW); (refine wpl_step rfl ?_); (refine se_lit (OpP.cons rfl (OpP.cons rfl (OpP.cons rfl (OpP.nil)))) rfl rfl rfl rfl rfl rfl ?_); (apply jW); (refine wpl_frz 30 hm rfl rfl (by first | exact rfl | fail) (by first | exact rfl | fail) rfl ?_); (refine wpl_step rfl ?_); (refine sc_p rfl rfl (by first | ((repeat' first | exact SubL.nil | refine SubL.cons ?_ ?_ | exact Sub.refl | exact Sub.nil | refine Sub.aggL ?_); done) | fail) (by first | (simp [bdL, bdL_append, AV.bd]; done) | fail) (exH_a) ?_); (apply jW); (refine wpl_step rfl ?_); (refine smove rfl ?_); (apply jW); (refine wpl_step rfl ?_); (refine su (aextract rfl rfl) ?_); (apply jW); (refine wpl_step rfl ?_); (refine su (aextract rfl rfl) ?_); (apply jW); (refine wpl_step rfl ?_); (refine su (aextract rfl rfl) ?_); (apply jW); (refine wpl_step rfl ?_); (refine se_alloc rfl ?_); (apply jW); (refine wpl_step rfl ?_); (refine se_store_b rfl rfl rfl rfl ?_); (apply jW); (refine wpl_step rfl ?_); (refine sassign rfl ?_); (apply jW); (refine wpl_step rfl ?_); (refine sassign rfl ?_); (apply jW); (apply jX)) | (refine wpl_region (id := 4) ?_; (refine wpl_step rfl ?_); (refine se_lit (OpP.cons rfl (OpP.cons rfl (OpP.cons rfl (OpP.nil)))) rfl rfl rfl rfl rfl rfl ?_); (apply jW); (refine wpl_frz 35 hm rfl rfl (by first | exact rfl | fail) (by first | exact rfl | fail) rfl ?_); (refine wpl_step rfl ?_); (refine se_lit (OpP.cons rfl (OpP.cons rfl (OpP.cons rfl (OpP.nil)))) rfl rfl rfl rfl rfl rfl ?_); (apply jW); (refine wpl_frz 36 hm rfl rfl (by first | exact rfl | fail) (by first | exact rfl | fail) rfl ?_); (refine wpl_step rfl ?_); (refine se_lit (OpP.cons rfl (OpP.cons rfl (OpP.nil))) rfl rfl rfl rfl rfl rfl ?_); (apply jW); (refine wpl_frz 37 hm rfl rfl (by first | exact rfl | fail) (by first | exact rfl | fail) rfl ?_); (refine wpl_step rfl ?_); (refine su (ap_build (RqP.cons (rq_p rfl rfl) (RqP.cons (rq_p rfl rfl) (RqP.cons (rq_p rfl rfl) (RqP.nil)))) rfl) ?_); (apply jW); (refine wpl_step rfl ?_); (refine su (ap_build (RqP.cons (rq_p rfl rfl) (RqP.nil)) rfl) ?_); (apply jW); (refine wpl_step rfl ?_); (refine se_lit (OpP.cons rfl (OpP.cons rfl (OpP.nil))) rfl rfl rfl rfl rfl rfl ?_); (apply jW); (refine wpl_frz 40 hm rfl rfl (by first | exact rfl | fail) (by first | exact rfl | fail) rfl ?_); (refine wpl_step rfl ?_); (refine su (ap_build (RqP.cons (rq_p rfl rfl) (RqP.cons (rq_p rfl rfl) (RqP.nil))) rfl) ?_); (apply jW); (refine wpl_step rfl ?_); (refine se_lit (OpP.cons rfl (OpP.nil)) rfl rfl rfl rfl rfl rfl ?_); (apply jW); (refine wpl_frz 42 hm rfl rfl (by first | exact rfl | fail) (by first | exact rfl | fail) rfl ?_); (refine wpl_step rfl ?_); (refine su (ap_build (RqP.cons (rq_p rfl rfl) (RqP.cons (rq_p rfl rfl) (RqP.nil))) rfl) ?_); (apply jW); (refine wpl_step rfl ?_); (refine se_lit (OpP.cons rfl (OpP.nil)) rfl rfl rfl rfl rfl rfl ?_); (apply jW); (refine wpl_frz 44 hm rfl rfl (by first | exact rfl | fail) (by first | exact rfl | fail) rfl ?_); (refine wpl_step rfl ?_); (refine su (ap_build (RqP.cons (rq_p rfl rfl) (RqP.cons (rq_p rfl rfl) (RqP.nil))) rfl) ?_); (apply jW); (refine wpl_step rfl ?_); (refine se_lit (OpP.cons rfl (OpP.cons rfl (OpP.cons rfl (OpP.cons rfl (OpP.cons rfl (OpP.nil)))))) rfl rfl rfl rfl rfl rfl ?_); (apply jW); (refine wpl_step rfl ?_); (refine su (ap_build (RqP.cons (rq_p rfl rfl) (RqP.cons (rq_p rfl rfl) (RqP.cons (rq_p rfl rfl) (RqP.nil)))) rfl) ?_); (apply jW); (refine wpl_step rfl ?_); (refine se_alloc rfl ?_); (apply jW); (refine wpl_step rfl ?_); (refine se_store_b rfl rfl rfl rfl ?_); (apply jW); (apply jX)) | (refine wpl_region (id := 5) ?_; (refine wpl_step rfl ?_); (refine sloadpw rfl rfl rfl rfl ?_); (apply jW); (refine wpl_step rfl ?_); (refine se_lit (OpP.cons rfl (OpP.cons rfl (OpP.nil))) rfl rfl rfl rfl rfl rfl ?_); (apply jW); (refine wpl_frz 50 hm rfl rfl (by first | exact rfl | fail) (by first | exact rfl | fail) rfl ?_); (refine wpl_step rfl ?_); (refine sc_p rfl rfl (by first | ((repeat' first | exact SubL.nil | refine SubL.cons ?_ ?_ | exact Sub.refl | exact Sub.nil | refine Sub.aggL ?_); done) | fail) (by first | (simp [bdL, bdL_append, AV.bd]; done) | fail) (exH_b) ?_); (apply jW); (refine wpl_step rfl ?_); (refine smove rfl ?_); (apply jW); (refine wpl_step rfl ?_); (refine su (aextract rfl rfl) ?_); (apply jW); (refine wpl_step rfl ?_); (refine su (aextract rfl rfl) ?_); (apply jW); (refine wpl_step rfl ?_); (refine su (aextract rfl rfl) ?_); (apply jW); (refine wpl_step rfl ?_); (refine se_alloc rfl ?_); (apply jW); (refine wpl_step rfl ?_); (refine se_store_b rfl rfl rfl rfl ?_); (apply jW); (refine wpl_step rfl ?_); (refine sassign rfl ?_); (apply jW); (refine wpl_step rfl ?_); (refine sassign rfl ?_); (apply jW); (apply jX)) | (refine wpl_region (id := 6) ?_; (refine wpl_step rfl ?_); (refine sloadpw rfl rfl rfl rfl ?_); (apply jW); (refine wpl_step rfl ?_); (refine se_lit (OpP.cons rfl (OpP.cons rfl (OpP.cons rfl (OpP.cons rfl (OpP.nil))))) rfl rfl rfl rfl rfl rfl ?_); (apply jW); (refine wpl_frz 57 hm rfl rfl (by first | exact rfl | fail) (by first | exact rfl | fail) rfl ?_); (refine wpl_step rfl ?_); (refine sc_p rfl rfl (by first | ((repeat' first | exact SubL.nil | refine SubL.cons ?_ ?_ | exact Sub.refl | exact Sub.nil | refine Sub.aggL ?_); done) | fail) (by first | (simp [bdL, bdL_append, AV.bd]; done) | fail) (exH_c) ?_); (apply jW); (refine wpl_step rfl ?_); (refine smove rfl ?_); (apply jW); (refine wpl_step rfl ?_); (refine su (aextract rfl rfl) ?_); (apply jW); (refine wpl_step rfl ?_); (refine su (aextract rfl rfl) ?_); (apply jW); (refine wpl_step rfl ?_); (refine su (aextract rfl rfl) ?_); (apply jW); (refine wpl_step rfl ?_); (refine se_alloc rfl ?_); (apply jW); (refine wpl_step rfl ?_); (refine se_store_b rfl rfl rfl rfl ?_); (apply jW); (refine wpl_step rfl ?_); (refine sassign rfl ?_); (apply jW); (refine wpl_step rfl ?_); (refine sassign rfl ?_); (apply jW); (apply jX))))
  have hI := ints_fn [0, -1, -1, -1, -1] [0, -1, -1, -1, -1]
  have hE := requal18_fn exW exW
  (repeat' (first | apply jH | apply jK | apply jS | (refine WP.regionC (id := 7) ?_ <;> (refine smove rfl ?_) <;> (refine seql rfl rfl ?_) <;> (refine smove rfl ?_) <;> (refine sg (gq_vt rfl rfl) (fun he => ap_load_pw (rq_p rfl rfl) rfl rfl rfl) ?_) <;> (refine sg (gq_vt rfl rfl) (fun he => ap_load_pw (rq_p rfl rfl) rfl rfl rfl) ?_) <;> (refine sg_b (gq_vt rfl rfl) (fun he => ⟨(rq_p rfl rfl), (RqL.cons (rq_c rfl rfl) (RqL.cons (rq_c rfl rfl) (RqL.nil))), (by first | ((repeat' first | exact FzL.nil | refine FzL.cons ?_ ?_ | exact Fz.nil | (exact Fz.reflp (by simp [AV.bd, bdL, bdL_append])) | refine Fz.rowL rfl rfl rfl ?_ | refine Fz.aggL ?_); done) | fail), hE, rfl⟩) ?_) <;> (refine su (ap_and (rq_p rfl rfl) (rq_c rfl rfl)) ?_) <;> (refine smove rfl ?_) <;> (refine sg (gq_vt rfl rfl) (fun he => ap_move (rq_p rfl rfl)) ?_) <;> (refine sgt_lit rfl rfl rfl (OpP.cons rfl (OpP.cons rfl (OpP.cons rfl (OpP.cons rfl (OpP.cons rfl (OpP.nil)))))) rfl rfl rfl rfl rfl rfl ?_) <;> (refine sg_b (gq_vt rfl rfl) (fun he => ⟨(rq_p rfl rfl), (RqL.cons (rq_c rfl rfl) (RqL.cons (rq_p rfl rfl) (RqL.nil))), (by first | ((repeat' first | exact FzL.nil | refine FzL.cons ?_ ?_ | (exact Fz.list rfl rfl (fun _ => by simp [AV.bd, bdL, bdL_append]) (fun _ => rfl)) | (exact Fz.reflp (by simp [AV.bd, bdL, bdL_append]))); done) | fail), hI, rfl⟩) ?_) <;> (refine su (ap_and (rq_p rfl rfl) (rq_c rfl rfl)) ?_) <;> (refine smove rfl ?_) <;> (refine sg (gq_vt rfl rfl) (fun he => ap_move (rq_p rfl rfl)) ?_) <;> (refine sg (gq_vt rfl rfl) (fun he => ap_eql (rq_c rfl rfl) (rq_p rfl rfl)) ?_) <;> (refine su (ap_and (rq_p rfl rfl) (rq_c rfl rfl)) ?_) <;> (refine smove rfl ?_) <;> (refine sg (gq_vt rfl rfl) (fun he => ap_move (rq_p rfl rfl)) ?_) <;> (refine sg (gq_vt rfl rfl) (fun he => ap_eql (rq_c rfl rfl) (rq_p rfl rfl)) ?_) <;> (refine su (ap_and (rq_p rfl rfl) (rq_c rfl rfl)) ?_) <;> (refine sassign rfl ?_) <;> apply jW) | exact ret_eq rfl rfl rfl))
end Go.Lg

namespace Go.Lg
open Go.Proofs
set_option linter.unusedSimpArgs false
set_option linter.unusedVariables false
attribute [local irreducible] Ap Rq asemC WP RunD Ret Gq thenA inBlockA bodyQ noGotoA RqL RqP OpP
set_option maxHeartbeats 8000000
set_option maxRecDepth 20000
attribute [local simp] AV.cells
theorem fit_small {f : GFi} (hT : TokB f) {m : Int} (h0 : 0 ≤ m) (h1 : m ≤ 1000) (h : sizeF f m ≤ m) {terms : List ByteArray} (ht : terms.length ≤ 1048576) : DFit f terms := by
  have h2 := cnt_small hT h0 h
  have h3 := toks_small hT h0 h
  exact ⟨by omega, by omega, ht, by omega⟩
def exprB (e : GEx) : AV := .agg [intA e.kind, strA e.name, exprsA e.kids]
theorem exprB_eq (e : GEx) : exprA e = exprB e := by cases e; rw [exprA_mkJ]; rfl
@[simp] theorem bd_exprB (n : Nat) (e : GEx) : (exprB e).bd n = true := by rw [← exprB_eq]; simp
@[simp] theorem bd_exprsB (n : Nat) (l : List GEx) : bdL n (l.map exprB) = true := bdL_map (bd_exprB n) l
end Go.Lg

namespace Go.Lg
open Go.Proofs
set_option linter.unusedSimpArgs false
set_option linter.unusedVariables false
attribute [local irreducible] Ap Rq asemC WP RunD Ret Gq thenA inBlockA bodyQ noGotoA RqL RqP OpP
set_option maxHeartbeats 8000000
set_option maxRecDepth 20000
attribute [local simp] AV.cells
def fewT (l : List ByteArray) : Bool := (l.take 10).all (fun x => decide (x.size ≤ 30)) && decide (l.length ≤ 10)
theorem few19_fn (l : List ByteArray) : Fn Tryd.prog 9 [strsA l] (boolA (fewT l)) := by
  refine Fn.intro rfl (by kernel_rfl) Tryd.func9 rfl rfl Tryd.ntmps9 (by exact Nat.le_of_ble_eq_true rfl) ?_; intro Γ hm
  refine wp_lens 0 rfl fun h0 => ?_
  rw [lens_strsA] at h0
  (repeat' (first | apply jA | apply jF | apply jH | (refine WP.regionC ?_; (refine sassign rfl ?_); apply jW)))
  refine wp_loop (fun i => i ≤ l.length ∧ i ≤ 10 ∧ (l.take i).all (fun x => decide (x.size ≤ 30)) = true) (fun i => l.length - i) (fun i => (S 23 [(0, strsA l), (3, intA (i : Nat))] 0 [])) 0 ⟨[], ToR.S rfl (by repeat' (first | exact rt_nil | refine rt_e rfl rfl ?_ | refine rt_p rfl rfl (by first | (simp [AV.bd, bdL, bdL_append]; done) | fail) ?_)) (by repeat' (exact ro_nil)) rfl (by (rw [hm]; exact rfl)) rfl (by (simp [bdT, AV.bd, bdL, bdL_append]; done)) (by repeat' (exact True.intro)) (by (rw [hm]; exact Nat.le_of_ble_eq_true rfl))⟩ ⟨Nat.zero_le _, Nat.zero_le _, rfl⟩ ?_
  rintro i ⟨hi, hi2, hall⟩
  by_cases hil : i < l.length ∧ i < 10
  · (repeat' (first | apply jA | apply jF | apply jH | apply jI | apply jK | apply jM | apply jN | apply jO | apply jS | (refine wp_cond rfl (fun hc => ?_) (fun hc => ?_) <;> (try simp only [sB, ne_eq, reduceCtorEq] at hc) <;> (try (exfalso; omega))) | (refine WP.regionC (id := 2) ?_; (refine smove rfl ?_); (refine smove rfl ?_); (refine slenm rfl rfl ?_); (refine slss rfl rfl ?_); (refine smove rfl ?_); (refine sg (gq_vt rfl rfl) (fun he => ap_move (rq_p rfl rfl)) ?_); (refine sg (gq_vt rfl rfl) (fun he => ap_lss (rq_c rfl rfl) (rq_p rfl rfl)) ?_); (refine su (ap_and (rq_p rfl rfl) (rq_c rfl rfl)) ?_); apply jW) | (refine WP.regionC (id := 4) ?_; (refine smove rfl ?_); (refine smove rfl ?_); (refine sidxn rfl rfl (by omega) ?_); (refine sloadw rfl rfl ?_); (refine su (alenstr rfl rfl) ?_); (refine su (agtr rfl rfl) ?_); apply jW) | (refine WP.regionC (id := 5) ?_; (refine sassign rfl ?_); apply jW) | (refine WP.regionC (id := 3) ?_; (refine smove rfl ?_); (refine sadd rfl rfl (by exact inr_i64_of (by omega)) ?_); (refine sassign rfl ?_); apply jW) | refine ret_b rfl ?_))
    · symm
      unfold fewT
      rw [Bool.and_eq_false_iff]
      refine .inl (List.all_eq_false.2 ⟨nth l i, ?_, by simp; omega⟩)
      rw [List.mem_take_iff_getElem]
      exact ⟨i, by omega, by rw [nth_eq hil.1]⟩
    · refine ⟨i + 1, ⟨by omega, by omega, by omega, ?_⟩, ⟨[], ToR.S rfl (by repeat' (first | exact rt_nil | refine rt_e rfl rfl ?_ | refine rt_p rfl rfl (by first | (simp [AV.bd, bdL, bdL_append]; done) | fail) ?_)) (by repeat' (exact ro_nil)) rfl (by (rw [hm]; exact rfl)) rfl (by (simp [bdT, AV.bd, bdL, bdL_append]; done)) (by repeat' (exact True.intro)) (by (rw [hm]; exact Nat.le_of_ble_eq_true rfl))⟩⟩
      rw [take_succ_nth hil.1, List.all_append, hall]
      simp
      omega
  · (repeat' (first | apply jA | apply jH | apply jJ | apply jK | apply jL | apply jP | apply jS | (refine wp_cond rfl (fun hc => ?_) (fun hc => ?_) <;> (try simp only [sB, ne_eq, reduceCtorEq] at hc) <;> (try (exfalso; omega))) | (refine WP.regionC (id := 2) ?_; (refine smove rfl ?_); (refine smove rfl ?_); (refine slenm rfl rfl ?_); (refine slss rfl rfl ?_); (refine smove rfl ?_); (refine sg (gq_vt rfl rfl) (fun he => ap_move (rq_p rfl rfl)) ?_); (refine sg (gq_vt rfl rfl) (fun he => ap_lss (rq_c rfl rfl) (rq_p rfl rfl)) ?_); (refine su (ap_and (rq_p rfl rfl) (rq_c rfl rfl)) ?_); apply jW) | (refine WP.regionC (id := 6) ?_; (refine smove rfl ?_); (refine slenm rfl rfl ?_); (refine su (aleq rfl rfl) ?_); (refine sassign rfl ?_); apply jW) | refine ret_b rfl ?_))
    unfold fewT
    by_cases h10 : l.length ≤ 10
    · have : i = l.length := by omega
      subst this
      rw [List.take_of_length_le (Nat.le_refl _)] at hall
      rw [List.take_of_length_le h10, hall]
      simp [h10]
      omega
    · simp [h10]
      omega
theorem law_grammar (f : GFi) (hf : f.fit ∧ TokB f) (terms : List ByteArray) : Fn Tryd.prog 3 [fileA f, strsA terms] (boolA true) := by
  have hs := size_fn f hf.2 100 (by decide) (by decide)
  have hw := few19_fn terms
  by_cases hz : sizeF f 100 ≤ 100
  · by_cases hfw : fewT terms = true
    · have hfw' := hfw
      unfold fewT at hfw'
      rw [Bool.and_eq_true, List.all_eq_true, decide_eq_true_eq] at hfw'
      have hts : ∀ x, x ∈ terms → x.size ≤ 30 := fun x hx => by
        have := hfw'.1 x (by rw [List.take_of_length_le hfw'.2]; exact hx)
        simpa using this
      have hfit := fit_small hf.2 (by decide) (by decide) hz (show terms.length ≤ 1048576 by omega)
      have hc0 := cnt_small hf.2 (by decide) hz
      have h1 := desugar_fn f terms hfit
      have h2 := rdesugar_fn f terms hf.1 hfit (by omega) (by omega) (fun x hx => by have := hts x hx; omega)
      generalize desugarP f terms = p at *
      have h3 := requal18_fn p.1 p.1
      have h4 := ints_fn p.2.1 p.2.1
      refine Fn.intro rfl (by kernel_rfl) Tryd.func3 rfl rfl Tryd.ntmps3 (by exact Nat.le_of_ble_eq_true rfl) ?_; intro Γ hm
      (repeat' (first | apply jA | apply jH | apply jI | apply jK | apply jM | apply jS | (refine wp_cond rfl (fun hc => ?_) (fun hc => ?_) <;> (try simp only [sB, ne_eq, reduceCtorEq] at hc) <;> (try (exfalso; omega))) | (refine WP.regionC (id := 0) ?_; (refine se_box rfl (by exact ⟨rfl, rfl⟩) ?_); (refine sassign rfl ?_); apply jW) | (refine WP.regionC (id := 1) ?_; (refine sloadpw rfl rfl rfl rfl ?_); (refine sc_p rfl rfl (by first | ((repeat' first | exact SubL.nil | refine SubL.cons ?_ ?_ | exact Sub.refl); done) | fail) (by first | (simp [bdL, bdL_append, AV.bd]; done) | fail) (hs) ?_); (refine su (agtr rfl rfl) ?_); (refine smove rfl ?_); (refine sg (gq_vf rfl rfl) (fun he => ap_move (rq_p rfl rfl)) ?_); (refine sg_p (gq_vf rfl rfl) (fun he => ⟨(rq_p rfl rfl), (RqL.cons (rq_c rfl rfl) (RqL.nil)), (by first | ((repeat' first | exact SubL.nil | refine SubL.cons ?_ ?_ | exact Sub.refl); done) | fail), (by first | (simp [bdL, bdL_append, AV.bd]; done) | fail), hw⟩) ?_); (refine sg (gq_vf rfl rfl) (fun he => ap_not (rq_c rfl rfl)) ?_); (refine su (ap_or (rq_p rfl rfl) (rq_c rfl rfl)) ?_); apply jW) | (refine WP.regionC (id := 2) ?_; (refine sc_p rfl rfl (by first | ((repeat' (exact SubL.nil)); done) | fail) (by first | (simp [bdL, bdL_append, AV.bd]; done) | fail) (awake19_fn) ?_); (refine sassign rfl ?_); apply jW) | (refine WP.regionC (id := 3) ?_; (refine sloadpw rfl rfl rfl rfl ?_); (refine smove rfl ?_); (refine sc_p rfl rfl (by first | ((repeat' first | exact SubL.nil | refine SubL.cons ?_ ?_ | exact Sub.refl); done) | fail) (by first | (simp [bdL, bdL_append, AV.bd]; done) | fail) (h1) ?_); (refine smove rfl ?_); (refine su (aextract rfl rfl) ?_); (refine su (aextract rfl rfl) ?_); (refine su (aextract rfl rfl) ?_); (refine se_alloc rfl ?_); (refine se_store_b rfl rfl rfl rfl ?_); (refine sassign rfl ?_); (refine sassign rfl ?_); apply jW) | (refine WP.regionC (id := 4) ?_; (refine sloadpw rfl rfl rfl rfl ?_); (refine smove rfl ?_); (refine sc_p rfl rfl (by first | ((repeat' first | exact SubL.nil | refine SubL.cons ?_ ?_ | exact Sub.refl); done) | fail) (by first | (simp [bdL, bdL_append, AV.bd]; done) | fail) (h2) ?_); (refine smove rfl ?_); (refine su (aextract rfl rfl) ?_); (refine su (aextract rfl rfl) ?_); (refine su (aextract rfl rfl) ?_); (refine se_alloc rfl ?_); (refine se_store_b rfl rfl rfl rfl ?_); (refine sassign rfl ?_); (refine sassign rfl ?_); apply jW) | (refine WP.regionC (id := 5) ?_; (refine sc_p rfl rfl (by first | ((repeat' (exact SubL.nil)); done) | fail) (by first | (simp [bdL, bdL_append, AV.bd]; done) | fail) (awake19_fn) ?_); (refine smove rfl ?_); (refine sg (gq_vt rfl rfl) (fun he => ap_move (rq_p rfl rfl)) ?_); (refine sg (gq_vt rfl rfl) (fun he => ap_move (rq_p rfl rfl)) ?_); (refine sg (gq_vt rfl rfl) (fun he => ap_eql (rq_c rfl rfl) (rq_c rfl rfl)) ?_); (refine su (ap_and (rq_p rfl rfl) (rq_c rfl rfl)) ?_); (refine smove rfl ?_); (refine sg (gq_vt rfl rfl) (fun he => ap_load_pw (rq_p rfl rfl) rfl rfl rfl) ?_); (refine sg (gq_vt rfl rfl) (fun he => ap_load_pw (rq_p rfl rfl) rfl rfl rfl) ?_); (refine sg_p (gq_vt rfl rfl) (fun he => ⟨(rq_p rfl rfl), (RqL.cons (rq_c rfl rfl) (RqL.cons (rq_c rfl rfl) (RqL.nil))), (by first | ((repeat' first | exact SubL.nil | refine SubL.cons ?_ ?_ | exact Sub.refl); done) | fail), (by first | (simp [bdL, bdL_append, AV.bd]; done) | fail), requal18_fn _ _⟩) ?_); (refine su (ap_and (rq_p rfl rfl) (rq_c rfl rfl)) ?_); (refine smove rfl ?_); (refine sg (gq_vt rfl rfl) (fun he => ap_move (rq_p rfl rfl)) ?_); (refine sg (gq_vt rfl rfl) (fun he => ap_move (rq_p rfl rfl)) ?_); (refine sg_b (gq_vt rfl rfl) (fun he => ⟨(rq_p rfl rfl), (RqL.cons (rq_c rfl rfl) (RqL.cons (rq_c rfl rfl) (RqL.nil))), (by first | ((repeat' first | exact FzL.nil | refine FzL.cons ?_ ?_ | (exact Fz.reflp (by simp [AV.bd, bdL, bdL_append]))); done) | fail), ints_fn _ _, rfl⟩) ?_); (refine su (ap_and (rq_p rfl rfl) (rq_c rfl rfl)) ?_); (refine sassign rfl ?_); apply jW) | exact ret_eq rfl rfl rfl | refine ret_b rfl ?_))
      simp
    · refine Fn.intro rfl (by kernel_rfl) Tryd.func3 rfl rfl Tryd.ntmps3 (by exact Nat.le_of_ble_eq_true rfl) ?_; intro Γ hm
      (repeat' (first | apply jA | apply jH | apply jI | apply jK | apply jM | apply jS | (refine wp_cond rfl (fun hc => ?_) (fun hc => ?_) <;> (try simp only [sB, ne_eq, reduceCtorEq] at hc) <;> (try (exfalso; omega))) | (refine WP.regionC (id := 0) ?_; (refine se_box rfl (by exact ⟨rfl, rfl⟩) ?_); (refine sassign rfl ?_); apply jW) | (refine WP.regionC (id := 1) ?_; (refine sloadpw rfl rfl rfl rfl ?_); (refine sc_p rfl rfl (by first | ((repeat' first | exact SubL.nil | refine SubL.cons ?_ ?_ | exact Sub.refl); done) | fail) (by first | (simp [bdL, bdL_append, AV.bd]; done) | fail) (hs) ?_); (refine su (agtr rfl rfl) ?_); (refine smove rfl ?_); (refine sg (gq_vf rfl rfl) (fun he => ap_move (rq_p rfl rfl)) ?_); (refine sg_p (gq_vf rfl rfl) (fun he => ⟨(rq_p rfl rfl), (RqL.cons (rq_c rfl rfl) (RqL.nil)), (by first | ((repeat' first | exact SubL.nil | refine SubL.cons ?_ ?_ | exact Sub.refl); done) | fail), (by first | (simp [bdL, bdL_append, AV.bd]; done) | fail), hw⟩) ?_); (refine sg (gq_vf rfl rfl) (fun he => ap_not (rq_c rfl rfl)) ?_); (refine su (ap_or (rq_p rfl rfl) (rq_c rfl rfl)) ?_); apply jW) | (refine WP.regionC (id := 2) ?_; (refine sc_p rfl rfl (by first | ((repeat' (exact SubL.nil)); done) | fail) (by first | (simp [bdL, bdL_append, AV.bd]; done) | fail) (awake19_fn) ?_); (refine sassign rfl ?_); apply jW) | exact ret_eq rfl rfl rfl))
      exact absurd hc.2 hfw
  · refine Fn.intro rfl (by kernel_rfl) Tryd.func3 rfl rfl Tryd.ntmps3 (by exact Nat.le_of_ble_eq_true rfl) ?_; intro Γ hm
    (repeat' (first | apply jA | apply jH | apply jK | apply jM | apply jS | (refine wp_cond rfl (fun hc => ?_) (fun hc => ?_) <;> (try simp only [sB, ne_eq, reduceCtorEq] at hc) <;> (try (exfalso; omega))) | (refine WP.regionC (id := 0) ?_; (refine se_box rfl (by exact ⟨rfl, rfl⟩) ?_); (refine sassign rfl ?_); apply jW) | (refine WP.regionC (id := 1) ?_; (refine sloadpw rfl rfl rfl rfl ?_); (refine sc_p rfl rfl (by first | ((repeat' first | exact SubL.nil | refine SubL.cons ?_ ?_ | exact Sub.refl); done) | fail) (by first | (simp [bdL, bdL_append, AV.bd]; done) | fail) (hs) ?_); (refine su (agtr rfl rfl) ?_); (refine smove rfl ?_); (refine sg (gq_vf rfl rfl) (fun he => ap_move (rq_p rfl rfl)) ?_); (refine sg_p (gq_vf rfl rfl) (fun he => ⟨(rq_p rfl rfl), (RqL.cons (rq_c rfl rfl) (RqL.nil)), (by first | ((repeat' first | exact SubL.nil | refine SubL.cons ?_ ?_ | exact Sub.refl); done) | fail), (by first | (simp [bdL, bdL_append, AV.bd]; done) | fail), hw⟩) ?_); (refine sg (gq_vf rfl rfl) (fun he => ap_not (rq_c rfl rfl)) ?_); (refine su (ap_or (rq_p rfl rfl) (rq_c rfl rfl)) ?_); apply jW) | (refine WP.regionC (id := 2) ?_; (refine sc_p rfl rfl (by first | ((repeat' (exact SubL.nil)); done) | fail) (by first | (simp [bdL, bdL_append, AV.bd]; done) | fail) (awake19_fn) ?_); (refine sassign rfl ?_); apply jW) | exact ret_eq rfl rfl rfl))
end Go.Lg

namespace Go.Lg
open Go.RowKit Go.Proofs
set_option maxRecDepth 20000
instance dat_strK_i : Dat Tryd.prog 9 strA := dat_string (by kernel_rfl)
instance dat_strsK_i : Dat Tryd.prog 26 strsA := dat_slice (e := 9) (k := 1) (f := strA) (by kernel_rfl) (by kernel_rfl) (by decide) (fun _ => rfl)
theorem arg_strs {H : Type} {enc : TypeId × Value → H} {w : World} {v : Value} {d : DataW H} {ps : List MemPlace} (h : DataW.Trod enc Tryd.prog w 0 (fun _ => true) true 26 v d ps) {r : Reach} {b0 : Nat} (hval : Value.okWide Tryd.prog w r b0 26 v) : ∃ l : List ByteArray, RW0 w (strsA l) v := by
  have hu : Tryd.prog.underlying 26 = some (.slice 9) := by kernel_rfl
  exact arg_dat (f := strsA) h hval fun _ => .inl ⟨rfl, by rw [hu]; trivial⟩
end Go.Lg
