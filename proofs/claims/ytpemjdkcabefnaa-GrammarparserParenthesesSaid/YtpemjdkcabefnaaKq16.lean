/-
  Part 16 of the proof of GrammarparserParentheses: the logic over the model, the functions' contracts and the plain laws.
-/
import Derived.Test.YtpemjdkcabefnaaKq15

set_option linter.unusedSimpArgs false
set_option linter.unusedVariables false
set_option linter.unusedSectionVars false
set_option linter.defProp false

namespace Go.Lg
open Go.Proofs
set_option linter.unusedSimpArgs false
set_option linter.unusedVariables false
attribute [local irreducible] Ap Rq asemC WP RunD Ret Gq thenA inBlockA bodyQ noGotoA RqL RqP OpP
set_option maxHeartbeats 8000000
set_option maxRecDepth 20000
def lsum (l : List Tx) : Nat := (l.map List.length).sum
theorem lexL_sum (n : Nat) : ∀ (l : Tx) (k : Nat), l.length ≤ n → lsum ((lexL l k).map (·.2)) ≤ l.length := by
  induction n with
  | zero =>
    intro l k hl
    obtain rfl : l = [] := List.eq_nil_of_length_eq_zero (by omega)
    rw [lexL_nil]; exact Nat.le_refl _
  | succ n ih =>
    intro l k hl
    cases l with
    | nil => rw [lexL_nil]; exact Nat.le_refl _
    | cons c r =>
      simp only [List.length_cons] at hl
      rw [lexL_cons]
      split
      · have := ih r (k + 1) (by omega); simp only [List.length_cons]; omega
      · split
        · have := ih (r.drop (comN r)) (k + 1 + comN r) (by rw [List.length_drop]; omega)
          rw [List.length_drop] at this; simp only [List.length_cons]; omega
        · have htp := tokN_pos c r
          have htl := tokN_le (c :: r)
          have := ih ((c :: r).drop (tokN (c :: r))) (k + tokN (c :: r)) (by rw [List.length_drop]; simp only [List.length_cons]; omega)
          rw [List.length_drop] at this
          simp only [List.map_cons, lsum, List.sum_cons, List.length_take] at this ⊢
          omega
theorem lexT_sum (l : Tx) : lsum (lexT l) ≤ l.length := lexL_sum _ l 0 (Nat.le_refl _)
theorem lsum_drop {ts : List Tx} {i : Nat} (h : i < ts.length) : lsum (ts.drop i) = (nth ts i).length + lsum (ts.drop (i + 1)) := by
  rw [List.drop_eq_getElem_cons h, nth_eq h, lsum, List.map_cons, List.sum_cons]; rfl
theorem isPN_eq (inR : Bool) (x last : Tx) (ts : List Tx) (i : Nat) (hx : x ≠ []) :
    (inR && decide (65 ≤ bAt (tx x) 0) && !decide (tx x = (⟨#[112, 114, 105, 99, 101]⟩ : ByteArray)) && !decide (tx x = (⟨#[124]⟩ : ByteArray)) &&
      !(decide (((i : Int) + 1) < ((ts.map tx).length : Int)) && decide (nth (ts.map tx) (i + 1) = (⟨#[61]⟩ : ByteArray))) && !decide (tx last = (⟨#[112, 114, 105, 99, 101]⟩ : ByteArray)))
      = isPN inR x (ts.drop (i + 1)) last := by
  have e1 : ∀ (t : Tx) (b : ByteArray), decide (tx t = b) = decide (t = bl b) := fun t b => by
    refine decide_eq_decide.2 ⟨fun h => by rw [← h]; rfl, fun h => by rw [h]; rfl⟩
  have e2 : decide (65 ≤ bAt (tx x) 0) = decide (65 ≤ (x.headD 0).toNat) := by
    refine decide_eq_decide.2 ?_
    cases x with
    | nil => exact absurd rfl hx
    | cons c r =>
      show (65 : Int) ≤ ((((bl (tx (c :: r))).getD 0 0).toNat : Nat) : Int) ↔ _
      rw [bl_tx]
      simp only [List.getD_cons_zero, List.headD_cons]
      omega
  have e3 : (decide (((i : Int) + 1) < ((ts.map tx).length : Int)) && decide (nth (ts.map tx) (i + 1) = (⟨#[61]⟩ : ByteArray))) = decide (hd (ts.drop (i + 1)) = [61]) := by
    by_cases h : i + 1 < ts.length
    · have h' : i + 1 < (ts.map tx).length := by rw [List.length_map]; exact h
      rw [List.drop_eq_getElem_cons h, nth_eq h', List.getElem_map, e1]
      have : ((i : Int) + 1) < ((ts.map tx).length : Int) := by omega
      simp only [this, decide_true, Bool.true_and, hd, List.headD_cons]
      rfl
    · have : ¬ ((i : Int) + 1) < ((ts.map tx).length : Int) := by rw [List.length_map]; omega
      rw [List.drop_eq_nil_of_le (by omega)]
      simp only [this, decide_false, Bool.false_and, hd, List.headD_nil]; decide
  rw [e1, e1, e1, e2, e3]
  rfl
theorem tmod3 (n : Int) (h : 0 ≤ n) : 0 ≤ n.tmod 3 ∧ n.tmod 3 < 3 := ⟨Int.tmod_nonneg 3 h, Int.tmod_lt_of_pos n (by decide)⟩
theorem law_par (f : GFi) (hf : f.fit ∧ TokB f) (n : Int) (h0 : 0 ≤ n ∧ n ≤ 255) : Fn Try.prog 7 [fileA f, .val (.int .u8 n)] (boolA true) := by
  have hs := size_fn f hf.2 60 (by decide) (by decide)
  by_cases hz : sizeF f 60 ≤ 60
  · have ht := toks_small hf.2 (by decide) hz
    have h2 := rvalid_fn f hf.1 (by omega)
    by_cases hv : validF f = true
    · have hl : (fmtF f).length ≤ 10000 := by
        have := rules_len (FVal.of hv) hf.2 (m := 60) (by decide) f.rules.length (Nat.le_refl _) hz
        unfold sizeF at hz
        unfold fmtF
        omega
      have h3 := rformat_fn f hv (by omega)
      have hlx := lexL_len _ (bl (tx (fmtF f))) 0 (Nat.le_refl _)
      have h4 := tokens17_fn (tx (fmtF f)) (by rw [tx_size]; omega) (by rw [bl_tx] at hlx; rw [bl_tx]; omega)
      have hsum := lexT_sum (fmtF f)
      have hlen : (tkF f).length ≤ 10000 := by
        rw [← lexT_file (FVal.of hv)]; unfold lexT; rw [List.length_map]; rw [bl_tx] at hlx; omega
      have htok : ∀ x, x ∈ tkF f → Tok x := fun x hx => lexT_tok (l := fmtF f) (by rw [lexT_file (FVal.of hv)]; exact hx)
      rw [lexT_file (FVal.of hv)] at hsum
      rw [bl_tx, lexT_file (FVal.of hv)] at h4
      have hpf := par_file (FVal.of hv) (n.tmod 3)
      generalize hts : tkF f = ts at *
      have hml : (ts.map tx).length = ts.length := List.length_map _
      have h5 := gequal_fn f f
      have hm3 := tmod3 n h0.1
      refine Fn.intro rfl (by kernel_rfl) Try.func7 rfl rfl Try.ntmps7 (by exact Nat.le_of_ble_eq_true rfl) ?_; intro Γ hm
      (repeat' (first | apply jA | apply jF | apply jH | apply jI | (refine wp_cond rfl (fun hc => ?_) (fun hc => ?_) <;> (try simp only [sB, ne_eq, reduceCtorEq] at hc) <;> (try (exfalso; omega))) | (refine WP.regionC (id := 0) ?_; (refine se_box rfl (by exact ⟨rfl, rfl⟩) ?_); (refine sassign rfl ?_); apply jW) | (refine WP.regionC (id := 1) ?_; (refine sloadpw rfl rfl rfl rfl ?_); (refine sc_p rfl rfl (by first | ((repeat' first | exact SubL.nil | refine SubL.cons ?_ ?_ | exact Sub.refl); done) | fail) (by first | (simp [bdL, bdL_append, AV.bd]; done) | fail) (hs) ?_); (refine su (agtr rfl rfl) ?_); (refine smove rfl ?_); (refine sg (gq_vf rfl rfl) (fun he => ap_load_pw (rq_p rfl rfl) rfl rfl rfl) ?_); (refine sg_p (gq_vf rfl rfl) (fun he => ⟨(rq_p rfl rfl), (RqL.cons (rq_c rfl rfl) (RqL.nil)), (by first | ((repeat' first | exact SubL.nil | refine SubL.cons ?_ ?_ | exact Sub.refl); done) | fail), (by first | (simp [bdL, bdL_append, AV.bd]; done) | fail), h2⟩) ?_); (refine sg (gq_vf rfl rfl) (fun he => ap_not (rq_c rfl rfl)) ?_); (refine su (ap_or (rq_p rfl rfl) (rq_c rfl rfl)) ?_); apply jW) | (refine WP.regionC (id := 3) ?_; (refine sloadpw rfl rfl rfl rfl ?_); (refine sc_p rfl rfl (by first | ((repeat' first | exact SubL.nil | refine SubL.cons ?_ ?_ | exact Sub.refl); done) | fail) (by first | (simp [bdL, bdL_append, AV.bd]; done) | fail) (h3) ?_); (refine sc_p rfl rfl (by first | ((repeat' first | exact SubL.nil | refine SubL.cons ?_ ?_ | exact Sub.refl); done) | fail) (by first | (simp [bdL, bdL_append, AV.bd]; done) | fail) (h4) ?_); (refine sassign rfl ?_); apply jW) | (refine WP.regionC (id := 4) ?_; (refine sassign rfl ?_); (refine sassign rfl ?_); (refine sassign rfl ?_); apply jW) | (refine WP.regionC ?_; (refine sassign rfl ?_); apply jW)))
      all_goals (first | (exfalso; rcases hc with hc | hc <;> first | omega | (rw [hv] at hc; cases hc)) | skip)
      refine wp_loop (fun (σ : ByteArray × Int × Tx × Bool × Nat × List Tx) => σ.2.2.2.2.1 ≤ ts.length ∧ (0 ≤ σ.2.1 ∧ σ.2.1 ≤ σ.2.2.2.2.1) ∧ σ.1.size + lsum (ts.drop σ.2.2.2.2.1) ≤ 10000 + 5 * σ.2.2.2.2.1 ∧ Ends (bl σ.1) σ.2.2.2.2.2 ∧
          σ.2.2.2.2.2 ++ pgo (n.tmod 3) σ.2.2.2.1 σ.2.2.1 σ.2.1 (ts.drop σ.2.2.2.2.1) = pgo (n.tmod 3) false [] 0 ts) (fun σ => ts.length - σ.2.2.2.2.1)
        (fun σ => (S 114 [(1, .val (.int .u8 n)), (2, .ptr 0 3 0 0), (5, strsA (ts.map tx)), (6, strA σ.1), (7, intA σ.2.1), (8, strA (tx σ.2.2.1)), (9, boolA σ.2.2.2.1), (10, intA (σ.2.2.2.2.1 : Nat))] 1 [(0, some (.arr 3 [fileA f]))])) (⟨#[]⟩, 0, [], false, 0, []) ⟨[0], ToR.S rfl (by repeat' (first | exact rt_nil | refine rt_t rfl rfl ?_ | refine rt_e rfl rfl ?_ | refine rt_p rfl rfl (by first | (simp [AV.bd, bdL, bdL_append]; done) | fail) ?_)) (by repeat' (first | exact ro_nil | refine ro_p rfl (by first | exact rfl | fail) (by first | (simp [bdL, bdL_append, AV.bd]; done) | fail) ?_)) rfl (by (rw [hm]; exact rfl)) rfl (by (simp [bdT, AV.bd, bdL, bdL_append]; done)) (by repeat' (first | exact True.intro | refine And.intro ?_ ?_ | (simp [bdOq, bdL, bdL_append, AV.bd]; done))) (by (rw [hm]; exact Nat.le_of_ble_eq_true rfl))⟩
        ⟨Nat.zero_le _, ⟨Int.le_refl _, Int.le_refl _⟩, by simp only [List.drop_zero]; show 0 + _ ≤ _; omega, fun m => rfl, rfl⟩ ?_
      rintro ⟨t, k, last, inR, i, D⟩ ⟨hi, hk, hsz, he, hD⟩
      simp only at hi hk hsz he hD ⊢
      by_cases hlt : i < ts.length
      · have hi2 : i < (ts.map tx).length := by omega
        have hmem : nth ts i ∈ ts := by rw [nth_eq hlt]; exact List.getElem_mem hlt
        have hT := htok _ hmem
        have ek : nth (ts.map tx) i = tx (nth ts i) := by rw [nth_eq hi2, nth_eq hlt, List.getElem_map]
        have hdr := lsum_drop hlt
        have hcons : ts.drop i = nth ts i :: ts.drop (i + 1) := by rw [nth_eq hlt]; exact List.drop_eq_getElem_cons hlt
        rw [hcons] at hD
        rw [pgo_step] at hD
        generalize hx : nth ts i = x at *
        have hxne : x ≠ [] := by obtain ⟨c, r, rfl, _⟩ := hT; simp
        have hxs : (nth (ts.map tx) i).size = x.length := by rw [ek, tx_size]
        have hxp : 0 < x.length := List.length_pos_iff.2 hxne
        have hPN := isPN_eq (inR || decide (x = [61])) x last ts i hxne
        have hin : (inR || decide (nth (ts.map tx) i = (⟨#[61]⟩ : ByteArray))) = (inR || decide (x = [61])) := by
          rw [ek]
          congr 1
          refine decide_eq_decide.2 ⟨fun h => by have := congrArg bl h; rwa [bl_tx] at this, fun h => by rw [h]; rfl⟩
        have hk3 := tmod3 (k + 1) (by omega)
        have hin3 : inr .i64 (n.tmod 3) := inr_i64_of (by omega)
        (repeat' (first | apply jA | apply jF | apply jH | apply jI | (refine wp_cond rfl (fun hc => ?_) (fun hc => ?_) <;> (try simp only [sB, ne_eq, reduceCtorEq] at hc) <;> (try (exfalso; omega))) | (refine WP.regionC (id := 7) ?_; (refine smove rfl ?_); (refine smove rfl ?_); (refine slenm rfl rfl ?_); (refine slss rfl rfl ?_); apply jW) | (refine WP.regionC (id := 9) ?_; (refine smove rfl ?_); (refine smove rfl ?_); (refine sg (gq_vf rfl rfl) (fun he => ap_move (rq_p rfl rfl)) ?_); (refine sg (gq_vf rfl rfl) (fun he => ap_move (rq_p rfl rfl)) ?_); (refine sg (gq_vf rfl rfl) (fun he => ap_idx_n (rq_c rfl rfl) (rq_c rfl rfl) (by (try simp only [sH, id, sB, ne_eq, reduceCtorEq] at he); omega)) ?_); (refine sg (gq_vf rfl rfl) (fun he => ap_load_w (rq_c rfl rfl) rfl) ?_); (refine sg (gq_vf rfl rfl) (fun he => ap_eqs (rq_c rfl rfl) (rq_p rfl rfl)) ?_); (refine su (ap_or (rq_p rfl rfl) (rq_c rfl rfl)) ?_); (refine sassign rfl ?_); apply jW)))
        rw [hin]
        rw [← ek] at hPN
        have hB1 : bl (t ++ nth (ts.map tx) i ++ (⟨#[32]⟩ : ByteArray)) = bl t ++ chunk false x := by rw [bl_app, bl_app, ek, bl_tx, List.append_assoc]; rfl
        have hB2 : bl (t ++ ((⟨#[40, 40]⟩ : ByteArray) ++ nth (ts.map tx) i ++ (⟨#[41, 41]⟩ : ByteArray)) ++ (⟨#[32]⟩ : ByteArray)) = bl t ++ chunk true x := by rw [bl_app, bl_app, bl_app, bl_app, ek, bl_tx, List.append_assoc]; rfl
        have hE1 := he.chunk false hT
        have hE2 := he.chunk true hT
        rw [← hB1] at hE1
        rw [← hB2] at hE2
        have hS1 : (t ++ nth (ts.map tx) i ++ (⟨#[32]⟩ : ByteArray)).size = t.size + x.length + 1 := by rw [ByteArray.size_append, ByteArray.size_append, hxs]; rfl
        have hS2 : (t ++ ((⟨#[40, 40]⟩ : ByteArray) ++ nth (ts.map tx) i ++ (⟨#[41, 41]⟩ : ByteArray)) ++ (⟨#[32]⟩ : ByteArray)).size = t.size + (x.length + 4) + 1 := by
          rw [ByteArray.size_append, ByteArray.size_append, ByteArray.size_append, ByteArray.size_append, hxs]
          have e1 : (⟨#[40, 40]⟩ : ByteArray).size = 2 := rfl
          have e2 : (⟨#[41, 41]⟩ : ByteArray).size = 2 := rfl
          have e3 : (⟨#[32]⟩ : ByteArray).size = 1 := rfl
          omega
        (repeat' (first | apply jA | apply jH | apply jI | (refine wp_cond rfl (fun hc => ?_) (fun hc => ?_) <;> (try simp only [sB, ne_eq, reduceCtorEq] at hc) <;> (try (exfalso; omega))) | (refine WP.regionC (id := 10) ?_; (refine smove rfl ?_); (refine smove rfl ?_); (refine sidxn rfl rfl (by omega) ?_); (refine sloadw rfl rfl ?_); (refine sassign rfl ?_); apply jW) | (refine WP.regionC (id := 11) ?_; (refine smove rfl ?_); (refine smove rfl ?_); (refine sg (gq_vt rfl rfl) (fun he => ap_move (rq_p rfl rfl)) ?_); (refine sg (gq_vt rfl rfl) (fun he => ap_sidx_n (rq_c rfl rfl) (rq_p rfl rfl) rfl (by (try simp only [sH, id, sB, ne_eq, reduceCtorEq] at he); (simp only [sL] <;> omega))) ?_); (refine sg (gq_vt rfl rfl) (fun he => ap_geq (rq_c rfl rfl) (rq_p rfl rfl)) ?_); (refine su (ap_and (rq_p rfl rfl) (rq_c rfl rfl)) ?_); (refine smove rfl ?_); (refine sg (gq_vt rfl rfl) (fun he => ap_move (rq_p rfl rfl)) ?_); (refine sg (gq_vt rfl rfl) (fun he => ap_nes (rq_c rfl rfl) (rq_p rfl rfl)) ?_); (refine su (ap_and (rq_p rfl rfl) (rq_c rfl rfl)) ?_); (refine smove rfl ?_); (refine sg (gq_vt rfl rfl) (fun he => ap_move (rq_p rfl rfl)) ?_); (refine sg (gq_vt rfl rfl) (fun he => ap_nes (rq_c rfl rfl) (rq_p rfl rfl)) ?_); (refine su (ap_and (rq_p rfl rfl) (rq_c rfl rfl)) ?_); (refine smove rfl ?_); (refine sg (gq_vt rfl rfl) (fun he => ap_move (rq_p rfl rfl)) ?_); (refine sg (gq_vt rfl rfl) (fun he => ap_add (rq_c rfl rfl) (rq_p rfl rfl) (by (try simp only [sH, id, sB, ne_eq, reduceCtorEq] at he); exact inr_i64_of (by omega))) ?_); (refine sg (gq_vt rfl rfl) (fun he => ap_move (rq_p rfl rfl)) ?_); (refine sg (gq_vt rfl rfl) (fun he => ap_len_m rfl (rq_c rfl rfl)) ?_); (refine sg (gq_vt rfl rfl) (fun he => ap_lss (rq_c rfl rfl) (rq_c rfl rfl)) ?_); (refine sg (gq_vt rfl rfl) (fun he => ap_move (rq_c rfl rfl)) ?_); (refine sg (gq_ct rfl rfl) (fun he => ap_move (rq_p rfl rfl)) ?_); (refine sg (gq_ct rfl rfl) (fun he => ap_move (rq_p rfl rfl)) ?_); (refine sg (gq_ct rfl rfl) (fun he => ap_add (rq_c rfl rfl) (rq_p rfl rfl) (by (try simp only [sH, id, sB, ne_eq, reduceCtorEq] at he); exact inr_i64_of (by omega))) ?_); (refine sg (gq_ct rfl rfl) (fun he => ap_idx_n (rq_c rfl rfl) (rq_c rfl rfl) (by (try simp only [sH, id, sB, ne_eq, reduceCtorEq] at he); (simp only [sL] <;> omega))) ?_); (refine sg (gq_ct rfl rfl) (fun he => ap_load_w (rq_c rfl rfl) rfl) ?_); (refine sg (gq_ct rfl rfl) (fun he => ap_eqs (rq_c rfl rfl) (rq_p rfl rfl)) ?_); (refine sg (gq_vt rfl rfl) (fun he => ap_and (rq_c rfl rfl) (rq_c rfl rfl)) ?_); (refine sg (gq_vt rfl rfl) (fun he => ap_not (rq_c rfl rfl)) ?_); (refine su (ap_and (rq_p rfl rfl) (rq_c rfl rfl)) ?_); (refine smove rfl ?_); (refine sg (gq_vt rfl rfl) (fun he => ap_move (rq_p rfl rfl)) ?_); (refine sg (gq_vt rfl rfl) (fun he => ap_nes (rq_c rfl rfl) (rq_p rfl rfl)) ?_); (refine su (ap_and (rq_p rfl rfl) (rq_c rfl rfl)) ?_); apply jW) | (refine WP.regionC (id := 12) ?_; (refine smove rfl ?_); (refine sadd rfl rfl (by exact inr_i64_of (by omega)) ?_); (refine sassign rfl ?_); apply jW) | (refine WP.regionC (id := 13) ?_; (refine smove rfl ?_); (refine su (arem rfl rfl (by omega)) ?_); (refine smove rfl ?_); (refine su (arem rfl rfl (by omega)) ?_); (refine su (aconv rfl rfl (by kernel_rfl) (by omega)) ?_); (refine seql rfl rfl ?_); apply jW) | (refine WP.regionC (id := 14) ?_; (refine smove rfl ?_); (refine su (acat rfl rfl (by (simp only [bsz, sZ] <;> omega))) ?_); (refine su (acat rfl rfl (by (simp only [bsz, sZ] <;> omega))) ?_); (refine sassign rfl ?_); apply jW)))
        · have hq : isPN (inR || decide (x = [61])) x (ts.drop (i + 1)) last = true := by
            rw [← hPN]; simp only [sB, ne_eq, reduceCtorEq]; assumption
          rw [hq, hc] at hD
          simp only [decide_true, Bool.and_self, if_true] at hD
          (repeat' (first | apply jH | apply jN | (refine WP.regionC (id := 15) ?_; (refine smove rfl ?_); (refine smove rfl ?_); (refine sidxn rfl rfl (by omega) ?_); (refine sloadw rfl rfl ?_); (refine sassign rfl ?_); apply jW) | (refine WP.regionC (id := 16) ?_; (refine smove rfl ?_); (refine smove rfl ?_); (refine su (acat rfl rfl (by (simp only [bsz, sZ] <;> omega))) ?_); (refine su (acat rfl rfl (by (simp only [bsz, sZ] <;> omega))) ?_); (refine sassign rfl ?_); apply jW) | (refine WP.regionC (id := 8) ?_; (refine smove rfl ?_); (refine sadd rfl rfl (by exact inr_i64_of (by omega)) ?_); (refine sassign rfl ?_); apply jW)))
          rw [ek]
          rw [ek] at hE2 hS2
          exact ⟨(_, k + 1, x, inR || decide (x = [61]), i + 1, _), ⟨by simp only; omega, by simp only; omega, by simp only; omega, by simp only; rw [hS2]; omega, hE2, by simpa using hD⟩, ⟨[0], ToR.S rfl (by repeat' (first | exact rt_nil | refine rt_t rfl rfl ?_ | refine rt_e rfl rfl ?_ | refine rt_p rfl rfl (by first | (simp [AV.bd, bdL, bdL_append]; done) | fail) ?_)) (by repeat' (first | exact ro_nil | refine ro_p rfl (by first | exact rfl | fail) (by first | (simp [bdL, bdL_append, AV.bd]; done) | fail) ?_)) rfl (by (rw [hm]; exact rfl)) rfl (by (simp [bdT, AV.bd, bdL, bdL_append]; done)) (by repeat' (first | exact True.intro | refine And.intro ?_ ?_ | (simp [bdOq, bdL, bdL_append, AV.bd]; done))) (by (rw [hm]; exact Nat.le_of_ble_eq_true rfl))⟩⟩
        · have hq : isPN (inR || decide (x = [61])) x (ts.drop (i + 1)) last = true := by
            rw [← hPN]; simp only [sB, ne_eq, reduceCtorEq]; assumption
          rw [hq] at hD
          simp only [hc, decide_false, Bool.and_false, if_true, Bool.false_eq_true, if_false] at hD
          (repeat' (first | apply jH | apply jN | (refine WP.regionC (id := 15) ?_; (refine smove rfl ?_); (refine smove rfl ?_); (refine sidxn rfl rfl (by omega) ?_); (refine sloadw rfl rfl ?_); (refine sassign rfl ?_); apply jW) | (refine WP.regionC (id := 16) ?_; (refine smove rfl ?_); (refine smove rfl ?_); (refine su (acat rfl rfl (by omega)) ?_); (refine su (acat rfl rfl (by (simp only [bsz, sZ] <;> omega))) ?_); (refine sassign rfl ?_); apply jW) | (refine WP.regionC (id := 8) ?_; (refine smove rfl ?_); (refine sadd rfl rfl (by exact inr_i64_of (by omega)) ?_); (refine sassign rfl ?_); apply jW)))
          rw [ek]
          rw [ek] at hE1 hS1
          exact ⟨(_, k + 1, x, inR || decide (x = [61]), i + 1, _), ⟨by simp only; omega, by simp only; omega, by simp only; omega, by simp only; rw [hS1]; omega, hE1, by simpa using hD⟩, ⟨[0], ToR.S rfl (by repeat' (first | exact rt_nil | refine rt_t rfl rfl ?_ | refine rt_e rfl rfl ?_ | refine rt_p rfl rfl (by first | (simp [AV.bd, bdL, bdL_append]; done) | fail) ?_)) (by repeat' (first | exact ro_nil | refine ro_p rfl (by first | exact rfl | fail) (by first | (simp [bdL, bdL_append, AV.bd]; done) | fail) ?_)) rfl (by (rw [hm]; exact rfl)) rfl (by (simp [bdT, AV.bd, bdL, bdL_append]; done)) (by repeat' (first | exact True.intro | refine And.intro ?_ ?_ | (simp [bdOq, bdL, bdL_append, AV.bd]; done))) (by (rw [hm]; exact Nat.le_of_ble_eq_true rfl))⟩⟩
        · have hq : isPN (inR || decide (x = [61])) x (ts.drop (i + 1)) last = false := by
            rw [← hPN]; simp only [sB, ne_eq, reduceCtorEq]; exact hc
          rw [hq] at hD
          simp only [Bool.false_and, Bool.false_eq_true, if_false] at hD
          (repeat' (first | apply jH | apply jN | (refine WP.regionC (id := 15) ?_; (refine smove rfl ?_); (refine smove rfl ?_); (refine sidxn rfl rfl (by omega) ?_); (refine sloadw rfl rfl ?_); (refine sassign rfl ?_); apply jW) | (refine WP.regionC (id := 16) ?_; (refine smove rfl ?_); (refine smove rfl ?_); (refine su (acat rfl rfl (by omega)) ?_); (refine su (acat rfl rfl (by (simp only [bsz, sZ] <;> omega))) ?_); (refine sassign rfl ?_); apply jW) | (refine WP.regionC (id := 8) ?_; (refine smove rfl ?_); (refine sadd rfl rfl (by exact inr_i64_of (by omega)) ?_); (refine sassign rfl ?_); apply jW)))
          rw [ek]
          rw [ek] at hE1 hS1
          exact ⟨(_, k, x, inR || decide (x = [61]), i + 1, _), ⟨by simp only; omega, by simp only; omega, by simp only; omega, by simp only; rw [hS1]; omega, hE1, by simpa using hD⟩, ⟨[0], ToR.S rfl (by repeat' (first | exact rt_nil | refine rt_t rfl rfl ?_ | refine rt_e rfl rfl ?_ | refine rt_p rfl rfl (by first | (simp [AV.bd, bdL, bdL_append]; done) | fail) ?_)) (by repeat' (first | exact ro_nil | refine ro_p rfl (by first | exact rfl | fail) (by first | (simp [bdL, bdL_append, AV.bd]; done) | fail) ?_)) rfl (by (rw [hm]; exact rfl)) rfl (by (simp [bdT, AV.bd, bdL, bdL_append]; done)) (by repeat' (first | exact True.intro | refine And.intro ?_ ?_ | (simp [bdOq, bdL, bdL_append, AV.bd]; done))) (by (rw [hm]; exact Nat.le_of_ble_eq_true rfl))⟩⟩
      · have hie : i = ts.length := by omega
        subst hie
        rw [List.drop_length, pgo, List.append_nil] at hD
        rw [List.drop_length] at hsz
        have hS : t.size ≤ 100000 := by omega
        have hP2 := parseP_fn t hS
        have hR : parseR t = (f, 0, 0) := by
          unfold parseR
          rw [he.all, hD, hpf]
          simp only [hv, if_true]
        rw [hR] at hP2
        simp only [parseA] at hP2
        (repeat' (first | apply jA | apply jH | apply jJ | apply jK | apply jL | apply jP | apply jS | (refine wp_cond rfl (fun hc => ?_) (fun hc => ?_) <;> (try simp only [sB, ne_eq, reduceCtorEq] at hc) <;> (try (exfalso; omega))) | (refine WP.regionC (id := 7) ?_; (refine smove rfl ?_); (refine smove rfl ?_); (refine slenm rfl rfl ?_); (refine slss rfl rfl ?_); apply jW) | (refine WP.regionC (id := 17) ?_; (refine smove rfl ?_); (refine sc_p rfl rfl (by first | ((repeat' first | exact SubL.nil | refine SubL.cons ?_ ?_ | exact Sub.refl); done) | fail) (by first | (simp [bdL, bdL_append, AV.bd]; done) | fail) (hP2) ?_); (refine smove rfl ?_); (refine su (aextract rfl rfl) ?_); (refine su (aextract rfl rfl) ?_); (refine su (aextract rfl rfl) ?_); (refine se_alloc rfl ?_); (refine se_store_b rfl rfl rfl rfl ?_); (refine sassign rfl ?_); (refine sassign rfl ?_); apply jW) | (refine WP.regionC (id := 18) ?_; (refine sc_p rfl rfl (by first | ((repeat' (exact SubL.nil)); done) | fail) (by first | (simp [bdL, bdL_append, AV.bd]; done) | fail) (awake17_fn) ?_); (refine smove rfl ?_); (refine sg (gq_vt rfl rfl) (fun he => ap_move (rq_p rfl rfl)) ?_); (refine sg (gq_vt rfl rfl) (fun he => ap_eql (rq_c rfl rfl) (rq_p rfl rfl)) ?_); (refine su (ap_and (rq_p rfl rfl) (rq_c rfl rfl)) ?_); (refine smove rfl ?_); (refine sg (gq_vt rfl rfl) (fun he => ap_load_pw (rq_p rfl rfl) rfl rfl rfl) ?_); (refine sg (gq_vt rfl rfl) (fun he => ap_load_pw (rq_p rfl rfl) rfl rfl rfl) ?_); (refine sg_p (gq_vt rfl rfl) (fun he => ⟨(rq_p rfl rfl), (RqL.cons (rq_c rfl rfl) (RqL.cons (rq_c rfl rfl) (RqL.nil))), (by first | ((repeat' first | exact SubL.nil | refine SubL.cons ?_ ?_ | exact Sub.refl); done) | fail), (by first | (simp [bdL, bdL_append, AV.bd]; done) | fail), h5⟩) ?_); (refine su (ap_and (rq_p rfl rfl) (rq_c rfl rfl)) ?_); (refine sassign rfl ?_); apply jW) | refine ret_b rfl ?_))
        all_goals simp
    · refine Fn.intro rfl (by kernel_rfl) Try.func7 rfl rfl Try.ntmps7 (by exact Nat.le_of_ble_eq_true rfl) ?_; intro Γ hm
      (repeat' (first | apply jA | apply jH | apply jI | apply jK | apply jM | apply jS | (refine wp_cond rfl (fun hc => ?_) (fun hc => ?_) <;> (try simp only [sB, ne_eq, reduceCtorEq] at hc) <;> (try (exfalso; omega))) | (refine WP.regionC (id := 0) ?_; (refine se_box rfl (by exact ⟨rfl, rfl⟩) ?_); (refine sassign rfl ?_); apply jW) | (refine WP.regionC (id := 1) ?_; (refine sloadpw rfl rfl rfl rfl ?_); (refine sc_p rfl rfl (by first | ((repeat' first | exact SubL.nil | refine SubL.cons ?_ ?_ | exact Sub.refl); done) | fail) (by first | (simp [bdL, bdL_append, AV.bd]; done) | fail) (hs) ?_); (refine su (agtr rfl rfl) ?_); (refine smove rfl ?_); (refine sg (gq_vf rfl rfl) (fun he => ap_load_pw (rq_p rfl rfl) rfl rfl rfl) ?_); (refine sg_p (gq_vf rfl rfl) (fun he => ⟨(rq_p rfl rfl), (RqL.cons (rq_c rfl rfl) (RqL.nil)), (by first | ((repeat' first | exact SubL.nil | refine SubL.cons ?_ ?_ | exact Sub.refl); done) | fail), (by first | (simp [bdL, bdL_append, AV.bd]; done) | fail), h2⟩) ?_); (refine sg (gq_vf rfl rfl) (fun he => ap_not (rq_c rfl rfl)) ?_); (refine su (ap_or (rq_p rfl rfl) (rq_c rfl rfl)) ?_); apply jW) | (refine WP.regionC (id := 2) ?_; (refine sc_p rfl rfl (by first | ((repeat' (exact SubL.nil)); done) | fail) (by first | (simp [bdL, bdL_append, AV.bd]; done) | fail) (awake17_fn) ?_); (refine sassign rfl ?_); apply jW) | exact ret_eq rfl rfl rfl))
      all_goals exact absurd hc.2 hv
  · refine Fn.intro rfl (by kernel_rfl) Try.func7 rfl rfl Try.ntmps7 (by exact Nat.le_of_ble_eq_true rfl) ?_; intro Γ hm
    (repeat' (first | apply jA | apply jH | apply jK | apply jM | apply jS | (refine wp_cond rfl (fun hc => ?_) (fun hc => ?_) <;> (try simp only [sB, ne_eq, reduceCtorEq] at hc) <;> (try (exfalso; omega))) | (refine WP.regionC (id := 0) ?_; (refine se_box rfl (by exact ⟨rfl, rfl⟩) ?_); (refine sassign rfl ?_); apply jW) | (refine WP.regionC (id := 1) ?_; (refine sloadpw rfl rfl rfl rfl ?_); (refine sc_p rfl rfl (by first | ((repeat' first | exact SubL.nil | refine SubL.cons ?_ ?_ | exact Sub.refl); done) | fail) (by first | (simp [bdL, bdL_append, AV.bd]; done) | fail) (hs) ?_); (refine su (agtr rfl rfl) ?_); (refine smove rfl ?_); (refine sg (gq_vf rfl rfl) (fun he => ap_load_pw (rq_p rfl rfl) rfl rfl rfl) ?_); (refine sg_p (gq_vf rfl rfl) (fun he => ⟨(rq_p rfl rfl), (RqL.cons (rq_c rfl rfl) (RqL.nil)), (by first | ((repeat' first | exact SubL.nil | refine SubL.cons ?_ ?_ | exact Sub.refl); done) | fail), (by first | (simp [bdL, bdL_append, AV.bd]; done) | fail), rvalid_fn f hf.1 (by simp at he; have := toks_small hf.2 (by decide) he; omega)⟩) ?_); (refine sg (gq_vf rfl rfl) (fun he => ap_not (rq_c rfl rfl)) ?_); (refine su (ap_or (rq_p rfl rfl) (rq_c rfl rfl)) ?_); apply jW) | (refine WP.regionC (id := 2) ?_; (refine sc_p rfl rfl (by first | ((repeat' (exact SubL.nil)); done) | fail) (by first | (simp [bdL, bdL_append, AV.bd]; done) | fail) (awake17_fn) ?_); (refine sassign rfl ?_); apply jW) | exact ret_eq rfl rfl rfl))
    all_goals done
end Go.Lg
