/-
  Part 15 of the proof of GrammarparserParentheses: the logic over the model, the functions' contracts and the plain laws.
-/
import Derived.Test.YtpemjdkcabefnaaKq14

set_option linter.unusedSimpArgs false
set_option linter.unusedVariables false
set_option linter.unusedSectionVars false
set_option linter.defProp false

namespace Go.Lg
open Go.Proofs
set_option linter.unusedSimpArgs false
set_option linter.unusedVariables false
attribute [local irreducible] Ap Rq asemC WP RunD Ret Gq thenA inBlockA bodyQ noGotoA RqL RqP OpP
set_option maxHeartbeats 8000000
def rulesTo (f : GFi) (k : Nat) : Prop := ∀ j, j < k → (gnOk (nth f.rules j).name = true ∧ gruleOk (nth f.rules j) = true) ∧ ∀ i, i < j → (nth f.rules i).name ≠ (nth f.rules j).name
def startTo (f : GFi) (k : Nat) : Bool := (f.rules.take k).any fun r => decide (r.name = f.start)
theorem startTo_succ {f : GFi} {k : Nat} (hk : k < f.rules.length) : startTo f (k + 1) = (startTo f k || decide ((nth f.rules k).name = f.start)) := by
  simp [startTo, take_succ_nth hk]
theorem altOk_iff {a : GAl} : altOk a = true ↔ (0 ≤ a.price ∧ a.price ≤ 1000) ∧ okE a.body 30 = true := by
  simp only [altOk, Bool.and_eq_true, decide_eq_true_eq]
theorem altOk_no {a : GAl} (h : (a.price < 0 ∨ 1000 < a.price) ∨ okE a.body 30 = false) : altOk a = false := by
  cases hg : altOk a with
  | false => rfl
  | true =>
    have := altOk_iff.1 hg
    rcases h with h | h
    · omega
    · rw [h] at this; exact absurd this.2 (by decide)
theorem nth_map {α β : Type} [Inhabited α] [Inhabited β] (g : α → β) {l : List α} {k : Nat} (hk : k < l.length) : nth (l.map g) k = g (nth l k) := by
  rw [nth_eq (by simpa using hk), nth_eq hk, List.getElem_map]
theorem rnames_all (f : GFi) : rnames f f.rules.length = f.rules.map (·.name) := by simp [rnames]
theorem rules_no1 {f : GFi} {k : Nat} (hk : k < f.rules.length) (h : gnOk (nth f.rules k).name = false) : validF f = false := by
  have : distOk (rnames f f.rules.length) = false := by
    rw [rnames_all]
    simp only [distOk, all_nth_no (l := f.rules.map (·.name)) (f := gnOk) (k := k) (by simpa using hk) (by rw [nth_map _ hk]; exact h), Bool.false_and]
  simp only [validF, this, Bool.and_false, Bool.false_and]
theorem rules_no2 {f : GFi} {i k : Nat} (hk : k < f.rules.length) (hi : i < k) (h : (nth f.rules i).name = (nth f.rules k).name) : validF f = false := by
  have : distOk (rnames f f.rules.length) = false := by
    rw [rnames_all]
    simp only [distOk, decide_eq_false (not_nodup (l := f.rules.map (·.name)) (j := k) (k := i) (by simpa using hk) hi (by rw [nth_map _ (by omega), nth_map _ hk]; exact h)), Bool.and_false]
  simp only [validF, this, Bool.and_false, Bool.false_and]
theorem rules_no3 {f : GFi} {k : Nat} (hk : k < f.rules.length) (h : gruleOk (nth f.rules k) = false) : validF f = false := by
  simp only [validF, all_nth_no (l := f.rules) (f := gruleOk) (k := k) hk h, Bool.and_false, Bool.false_and]
theorem rules_yes {f : GFi} (h : rulesTo f f.rules.length) : f.rules.all gruleOk = true ∧ distOk (rnames f f.rules.length) = true := by
  refine ⟨all_of_nth fun j hj => (h j hj).1.2, ?_⟩
  rw [rnames_all]
  simp only [distOk, Bool.and_eq_true, decide_eq_true_eq]
  refine ⟨all_of_nth fun j hj => ?_, nodup_nth fun j hj i hi => ?_⟩
  · have hj' : j < f.rules.length := by simpa using hj
    rw [nth_map _ hj']; exact (h j hj').1.1
  · have hj' : j < f.rules.length := by simpa using hj
    rw [nth_map _ hj', nth_map _ (by omega)]; exact (h j hj').2 i hi
theorem start_any (f : GFi) : (rnames f f.rules.length).any (fun x => decide (f.start = x)) = startTo f f.rules.length := by
  rw [rnames_all, startTo, List.take_of_length_le (Nat.le_refl _), List.any_map]
  congr 1
  funext r
  simp only [Function.comp]
  rw [Bool.eq_iff_iff]; simp [eq_comm]
theorem distOk_iff {l : List ByteArray} : distOk l = true ↔ (∀ x, x ∈ l → gnOk x = true) ∧ l.Nodup := by
  simp only [distOk, Bool.and_eq_true, decide_eq_true_eq, List.all_eq_true]
theorem distOk_add {l : List ByteArray} {x : ByteArray} (h : distOk l = true) (h1 : gnOk x = true) (h2 : x ∉ l) : distOk (l ++ [x]) = true := by
  rw [distOk_iff] at h ⊢
  refine ⟨fun y hy => ?_, ?_⟩
  · rcases List.mem_append.1 hy with hy | hy
    · exact h.1 y hy
    · rw [List.mem_singleton.1 hy]; exact h1
  · rw [List.nodup_append]; exact ⟨h.2, by simp, fun a ha b hb => by rw [List.mem_singleton.1 hb]; rintro rfl; exact h2 ha⟩
theorem distOk_no {l r : List ByteArray} {x : ByteArray} (h : gnOk x = false ∨ x ∈ l) : distOk (l ++ x :: r) = false := by
  cases hg : distOk (l ++ x :: r) with
  | false => rfl
  | true =>
    rw [distOk_iff] at hg
    rcases h with h | h
    · have := hg.1 x (by simp); rw [h] at this; cases this
    · exact absurd rfl ((List.nodup_append.1 hg.2).2.2 x h x (by simp))
def toks2 (f : GFi) (j k : Nat) : List ByteArray := toks f j ++ (nth f.levels j).tokens.take k
theorem toks2_no {f : GFi} {j k : Nat} (hj : j < f.levels.length) (hk : k < (nth f.levels j).tokens.length) (h : gnOk (nth (nth f.levels j).tokens k) = false ∨ nth (nth f.levels j).tokens k ∈ toks2 f j k) : validF f = false := by
  have key : ∃ r, toks f f.levels.length = toks2 f j k ++ nth (nth f.levels j).tokens k :: r := by
    refine ⟨(nth f.levels j).tokens.drop (k + 1) ++ ((f.levels.drop (j + 1)).map (·.tokens)).flatten, ?_⟩
    have e1 : toks f f.levels.length = toks f (j + 1) ++ ((f.levels.drop (j + 1)).map (·.tokens)).flatten := by
      simp only [toks, List.take_of_length_le (Nat.le_refl f.levels.length)]
      rw [← List.flatten_append, ← List.map_append, List.take_append_drop]
    rw [e1, toks_succ hj, toks2]
    have e2 : (nth f.levels j).tokens = (nth f.levels j).tokens.take k ++ nth (nth f.levels j).tokens k :: (nth f.levels j).tokens.drop (k + 1) := by
      rw [nth_eq hk, ← List.drop_eq_getElem_cons hk, List.take_append_drop]
    conv => lhs; rw [e2]
    simp only [List.append_assoc, List.cons_append]
  obtain ⟨r, hr⟩ := key
  have : distOk (toks f f.levels.length) = false := by rw [hr]; exact distOk_no h
  simp only [validF, this, Bool.and_false, Bool.false_and]
theorem rvalid_fn (f : GFi) (hf : f.fit) (hT : (toks f f.levels.length).length ≤ 1000000) : Fn Try.prog 15 [fileA f] (boolA (validF f)) := by
  obtain ⟨hf1, hf2, hf3⟩ := hf
  refine Fn.intro rfl (by kernel_rfl) Try.func15 rfl rfl Try.ntmps15 (by exact Nat.le_of_ble_eq_true rfl) ?_; intro Γ hm
  refine wp_lens 0 rfl fun hl => ?_
  have hl2 : f.rules.length ≤ 9223372036854775807 ∧ f.levels.length ≤ 9223372036854775807 := by have := hl; simp [AV.lens, lensL, fileA, levelsA, grulesA] at this; omega
  (repeat' (first | apply jA | apply jF | apply jH | apply jI | apply jK | apply jM | apply jS | (refine wp_cond rfl (fun hc => ?_) (fun hc => ?_) <;> (try simp only [sB, ne_eq, reduceCtorEq] at hc) <;> (try (exfalso; omega))) | (refine WP.regionC (id := 0) ?_; (refine se_box rfl (by exact ⟨rfl, rfl⟩) ?_); (refine sassign rfl ?_); apply jW) | (refine WP.regionC (id := 1) ?_; (refine sfieldp rfl rfl rfl ?_); (refine sloadp rfl rfl rfl rfl ?_); (refine slenm rfl rfl ?_); (refine slss rfl rfl ?_); (refine smove rfl ?_); (refine sg (gq_vf rfl rfl) (fun he => ap_field_p (rq_p rfl rfl) rfl rfl) ?_); (refine sg (gq_vf rfl rfl) (fun he => ap_load_p (rq_c rfl rfl) rfl rfl rfl) ?_); (refine sg (gq_vf rfl rfl) (fun he => ap_len_m rfl (rq_c rfl rfl)) ?_); (refine sg (gq_vf rfl rfl) (fun he => ap_gtr (rq_c rfl rfl) (rq_p rfl rfl)) ?_); (refine su (ap_or (rq_p rfl rfl) (rq_c rfl rfl)) ?_); apply jW) | (refine WP.regionC ?_; (refine sassign rfl ?_); apply jW) | refine ret_b rfl ?_))
  · simp [validF]; omega
  refine wp_loop (fun (i : Nat) => i ≤ f.rules.length ∧ rulesTo f i) (fun i => f.rules.length - i)
    (fun i => (S 159 [(1, .ptr 0 3 0 0), (3, boolA (startTo f i)), (4, intA (i : Nat))] 1 [(0, some (.arr 3 [fileA f]))])) 0 ⟨[0], ToR.S rfl (by repeat' (first | exact rt_nil | refine rt_t rfl rfl ?_ | refine rt_e rfl rfl ?_)) (by repeat' (first | exact ro_nil | refine ro_p rfl (by first | exact rfl | fail) (by first | (simp [bdL, bdL_append, AV.bd]; done) | fail) ?_)) rfl (by (rw [hm]; exact rfl)) rfl (by (simp [bdT, AV.bd, bdL, bdL_append]; done)) (by repeat' (first | exact True.intro | refine And.intro ?_ ?_ | (simp [bdOq, bdL, bdL_append, AV.bd]; done))) (by (rw [hm]; exact Nat.le_of_ble_eq_true rfl))⟩ ⟨Nat.zero_le _, fun j hj => absurd hj (Nat.not_lt_zero _)⟩ ?_
  rintro i ⟨hi, hall⟩
  by_cases hlt : i < f.rules.length
  · have hrf := hf3 _ (nth_mem hlt)
    have hns : (nth f.rules i).name.size ≤ 9223372036854775807 := hrf.1
    have hal : (nth f.rules i).alts.length ≤ 9223372036854775807 := by
      have := hl; simp [AV.lens, lensL, fileA, levelsA, grulesA, lensL_map] at this
      have := this.2.2.2 _ (nth_mem hlt)
      simp [gruleA, AV.lens, lensL, altsA] at this
      omega
    (repeat' (first | apply jA | apply jF | apply jH | apply jI | apply jK | apply jM | apply jO | apply jS | (refine wp_cond rfl (fun hc => ?_) (fun hc => ?_) <;> (try simp only [sB, ne_eq, reduceCtorEq] at hc) <;> (try (exfalso; omega))) | (refine WP.regionC (id := 5) ?_; (refine smove rfl ?_); (refine sfieldp rfl rfl rfl ?_); (refine sloadp rfl rfl rfl rfl ?_); (refine slenm rfl rfl ?_); (refine slss rfl rfl ?_); apply jW) | (refine WP.regionC (id := 7) ?_; (refine sfieldp rfl rfl rfl ?_); (refine sloadp rfl rfl rfl rfl ?_); (refine smove rfl ?_); (refine sidxn rfl rfl (by omega) ?_); (refine sloadw rfl rfl ?_); (refine se_alloc rfl ?_); (refine se_store_b rfl rfl rfl rfl ?_); apply jW) | (refine WP.regionC (id := 8) ?_; (refine smove rfl ?_); (refine smove rfl ?_); (refine sg (gq_vf rfl rfl) (fun he => ap_field_p (rq_p rfl rfl) rfl rfl) ?_); (refine sg (gq_vf rfl rfl) (fun he => ap_load_p (rq_c rfl rfl) rfl rfl rfl) ?_); (refine sg (gq_vf rfl rfl) (fun he => ap_field_p (rq_p rfl rfl) rfl rfl) ?_); (refine sg (gq_vf rfl rfl) (fun he => ap_load_p (rq_c rfl rfl) rfl rfl rfl) ?_); (refine sg (gq_vf rfl rfl) (fun he => ap_eqs (rq_c rfl rfl) (rq_c rfl rfl)) ?_); (refine su (ap_or (rq_p rfl rfl) (rq_c rfl rfl)) ?_); (refine sassign rfl ?_); apply jW) | (refine WP.regionC (id := 9) ?_; (refine sfieldp rfl rfl rfl ?_); (refine sloadp rfl rfl rfl rfl ?_); (refine sc_p rfl rfl (by first | ((repeat' first | exact SubL.nil | refine SubL.cons ?_ ?_ | exact Sub.refl); done) | fail) (by first | (simp [bdL, bdL_append, AV.bd]; done) | fail) (rname_fn _ (by assumption)) ?_); (refine su (anot rfl) ?_); (refine smove rfl ?_); (refine sg (gq_vf rfl rfl) (fun he => ap_field_p (rq_p rfl rfl) rfl rfl) ?_); (refine sg (gq_vf rfl rfl) (fun he => ap_load_p (rq_c rfl rfl) rfl rfl rfl) ?_); (refine sg (gq_vf rfl rfl) (fun he => ap_len_m rfl (rq_c rfl rfl)) ?_); (refine sg (gq_vf rfl rfl) (fun he => ap_eql (rq_c rfl rfl) (rq_p rfl rfl)) ?_); (refine su (ap_or (rq_p rfl rfl) (rq_c rfl rfl)) ?_); apply jW) | (refine WP.regionC ?_; (refine sassign rfl ?_); apply jW) | refine ret_b rfl ?_))
    · rcases hc with hc | hc
      · rw [rules_no1 hlt hc]
      · rw [rules_no3 hlt (by unfold gruleOk; rw [show (nth f.rules i).alts = [] from List.eq_nil_of_length_eq_zero (by omega)]; rfl)]
    have hnm : gnOk (nth f.rules i).name = true := hc.1
    have hne : ¬ (nth f.rules i).alts.length = 0 := by omega
    rw [← startTo_succ hlt]
    refine wp_loop (fun (k : Nat) => k ≤ i ∧ ∀ j, j < k → (nth f.rules j).name ≠ (nth f.rules i).name) (fun k => i - k)
      (fun k => (S 159 [(1, .ptr 0 3 0 0), (3, boolA (startTo f (i + 1))), (4, intA (i : Nat)), (5, .ptr 1 2 0 0), (6, intA (k : Nat))] 2 [(0, some (.arr 3 [fileA f])), (1, some (.arr 2 [gruleA (nth f.rules i)]))])) 0 ⟨[0, 1], ToR.S rfl (by repeat' (first | exact rt_nil | refine rt_t rfl rfl ?_ | refine rt_e rfl rfl ?_)) (by repeat' (first | exact ro_nil | refine ro_p rfl (by first | exact rfl | fail) (by first | (simp [bdL, bdL_append, AV.bd]; done) | fail) ?_)) rfl (by (rw [hm]; exact rfl)) rfl (by (simp [bdT, AV.bd, bdL, bdL_append]; done)) (by repeat' (first | exact True.intro | refine And.intro ?_ ?_ | (simp [bdOq, bdL, bdL_append, AV.bd]; done))) (by (rw [hm]; exact Nat.le_of_ble_eq_true rfl))⟩ ⟨Nat.zero_le _, fun j hj => absurd hj (Nat.not_lt_zero _)⟩ ?_
    rintro k ⟨hk, hnd⟩
    by_cases hki : k < i
    · (repeat' (first | apply jA | apply jF | apply jH | apply jI | apply jK | apply jM | apply jN | apply jO | apply jS | (refine wp_cond rfl (fun hc => ?_) (fun hc => ?_) <;> (try simp only [sB, ne_eq, reduceCtorEq] at hc) <;> (try (exfalso; omega))) | (refine WP.regionC (id := 12) ?_; (refine smove rfl ?_); (refine smove rfl ?_); (refine slss rfl rfl ?_); apply jW) | (refine wp_draw (id := 14) 9 mixed (by kernel_rfl) (by kernel_rfl) rfl ?_ <;> (refine rfieldp rfl rfl rfl ?_) <;> (refine rloadp rfl rfl rfl rfl ?_) <;> (refine rmove rfl ?_) <;> (refine rd_u rfl rfl (aidxn rfl rfl (by omega)) ?_) <;> (refine rd_u rfl rfl (afieldi rfl rfl rfl) ?_) <;> (refine rd_u rfl rfl (aloadi rfl rfl) ?_) <;> (refine rfieldp rfl rfl rfl ?_) <;> (refine rloadp rfl rfl rfl rfl ?_) <;> (refine rd_u rfl rfl (aeqs rfl rfl) ?_) <;> (refine rd_end (by kernel_rfl) ?_)) | (refine WP.regionC (id := 15) ?_; (refine sassign rfl ?_); apply jW) | (refine WP.regionC (id := 13) ?_; (refine smove rfl ?_); (refine sadd rfl rfl (by exact inr_i64_of (by omega)) ?_); (refine sassign rfl ?_); apply jW) | refine ret_b rfl ?_))
      · rw [rules_no2 hlt hki hc]
      · refine ⟨k + 1, ⟨by omega, by omega, fun j hj => ?_⟩, ⟨[0, 1], ToR.S rfl (by repeat' (first | exact rt_nil | refine rt_t rfl rfl ?_ | refine rt_e rfl rfl ?_)) (by repeat' (first | exact ro_nil | refine ro_p rfl (by first | exact rfl | fail) (by first | (simp [bdL, bdL_append, AV.bd]; done) | fail) ?_)) rfl (by (rw [hm]; exact rfl)) rfl (by (simp [bdT, AV.bd, bdL, bdL_append]; done)) (by repeat' (first | exact True.intro | refine And.intro ?_ ?_ | (simp [bdOq, bdL, bdL_append, AV.bd]; done))) (by (rw [hm]; exact Nat.le_of_ble_eq_true rfl))⟩⟩
        by_cases h : j = k
        · subst h; exact hc
        · exact hnd j (by omega)
    obtain rfl : k = i := by omega
    (repeat' (first | apply jA | apply jF | apply jH | apply jJ | apply jL | apply jP | (refine wp_cond rfl (fun hc => ?_) (fun hc => ?_) <;> (try simp only [sB, ne_eq, reduceCtorEq] at hc) <;> (try (exfalso; omega))) | (refine WP.regionC (id := 12) ?_; (refine smove rfl ?_); (refine smove rfl ?_); (refine slss rfl rfl ?_); apply jW) | (refine WP.regionC (id := 16) ?_; (refine sassign rfl ?_); apply jW)))
    refine wp_loop (fun (m : Nat) => m ≤ (nth f.rules k).alts.length ∧ ((nth f.rules k).alts.take m).all altOk = true) (fun m => (nth f.rules k).alts.length - m)
      (fun m => (S 159 [(1, .ptr 0 3 0 0), (3, boolA (startTo f (k + 1))), (4, intA (k : Nat)), (5, .ptr 1 2 0 0), (7, intA (m : Nat))] 2 [(0, some (.arr 3 [fileA f])), (1, some (.arr 2 [gruleA (nth f.rules k)]))])) 0 ⟨[0, 1], ToR.S rfl (by repeat' (first | exact rt_nil | refine rt_t rfl rfl ?_ | refine rt_e rfl rfl ?_)) (by repeat' (first | exact ro_nil | refine ro_p rfl (by first | exact rfl | fail) (by first | (simp [bdL, bdL_append, AV.bd]; done) | fail) ?_)) rfl (by (rw [hm]; exact rfl)) rfl (by (simp [bdT, AV.bd, bdL, bdL_append]; done)) (by repeat' (first | exact True.intro | refine And.intro ?_ ?_ | (simp [bdOq, bdL, bdL_append, AV.bd]; done))) (by (rw [hm]; exact Nat.le_of_ble_eq_true rfl))⟩ ⟨Nat.zero_le _, rfl⟩ ?_
    rintro m ⟨hm2, hall2⟩
    by_cases hml : m < (nth f.rules k).alts.length
    · have hbf := hrf.2 _ (nth_mem hml)
      have hE := rexpr_fn _ hbf 30 (by decide) (by decide)
      (repeat' (first | apply jA | apply jF | apply jH | apply jI | apply jK | apply jM | apply jN | apply jO | apply jS | (refine wp_cond rfl (fun hc => ?_) (fun hc => ?_) <;> (try simp only [sB, ne_eq, reduceCtorEq] at hc) <;> (try (exfalso; omega))) | (refine WP.regionC (id := 17) ?_; (refine smove rfl ?_); (refine sfieldp rfl rfl rfl ?_); (refine sloadp rfl rfl rfl rfl ?_); (refine slenm rfl rfl ?_); (refine slss rfl rfl ?_); apply jW) | (refine WP.regionC (id := 19) ?_; (refine sfieldp rfl rfl rfl ?_); (refine sloadp rfl rfl rfl rfl ?_); (refine smove rfl ?_); (refine sidxn rfl rfl (by omega) ?_); (refine sloadw rfl rfl ?_); (refine se_alloc rfl ?_); (refine se_store_b rfl rfl rfl rfl ?_); apply jW) | (refine WP.regionC (id := 20) ?_; (refine sfieldp rfl rfl rfl ?_); (refine sloadp rfl rfl rfl rfl ?_); (refine slss rfl rfl ?_); (refine smove rfl ?_); (refine sg (gq_vf rfl rfl) (fun he => ap_field_p (rq_p rfl rfl) rfl rfl) ?_); (refine sg (gq_vf rfl rfl) (fun he => ap_load_p (rq_c rfl rfl) rfl rfl rfl) ?_); (refine sg (gq_vf rfl rfl) (fun he => ap_gtr (rq_c rfl rfl) (rq_p rfl rfl)) ?_); (refine su (ap_or (rq_p rfl rfl) (rq_c rfl rfl)) ?_); (refine smove rfl ?_); (refine sg (gq_vf rfl rfl) (fun he => ap_field_p (rq_p rfl rfl) rfl rfl) ?_); (refine sg (gq_vf rfl rfl) (fun he => ap_load_p (rq_c rfl rfl) rfl rfl rfl) ?_); (refine sg_p (gq_vf rfl rfl) (fun he => ⟨(rq_p rfl rfl), (RqL.cons (rq_c rfl rfl) (RqL.cons (rq_p rfl rfl) (RqL.nil))), (by first | ((repeat' first | exact SubL.nil | refine SubL.cons ?_ ?_ | exact Sub.refl); done) | fail), (by first | (simp [bdL, bdL_append, AV.bd, AV.cells]; done) | fail), hE⟩) ?_); (refine sg (gq_vf rfl rfl) (fun he => ap_not (rq_c rfl rfl)) ?_); (refine su (ap_or (rq_p rfl rfl) (rq_c rfl rfl)) ?_); apply jW) | (refine WP.regionC (id := 21) ?_; (refine sassign rfl ?_); apply jW) | (refine WP.regionC (id := 18) ?_; (refine smove rfl ?_); (refine sadd rfl rfl (by exact inr_i64_of (by omega)) ?_); (refine sassign rfl ?_); apply jW) | refine ret_b rfl ?_))
      · rw [rules_no3 hlt (by unfold gruleOk; rw [all_nth_no (l := (nth f.rules k).alts) (f := altOk) (k := m) hml (altOk_no hc), Bool.and_false])]
      · exact ⟨m + 1, ⟨by omega, by omega, take_all_succ hml hall2 (altOk_iff.2 hc)⟩, ⟨[0, 1], ToR.S rfl (by repeat' (first | exact rt_nil | refine rt_t rfl rfl ?_ | refine rt_e rfl rfl ?_)) (by repeat' (first | exact ro_nil | refine ro_p rfl (by first | exact rfl | fail) (by first | (simp [bdL, bdL_append, AV.bd]; done) | fail) ?_)) rfl (by (rw [hm]; exact rfl)) rfl (by (simp [bdT, AV.bd, bdL, bdL_append]; done)) (by repeat' (first | exact True.intro | refine And.intro ?_ ?_ | (simp [bdOq, bdL, bdL_append, AV.bd]; done))) (by (rw [hm]; exact Nat.le_of_ble_eq_true rfl))⟩⟩
    have hra := all_of_take' (by omega) hall2
    (repeat' (first | apply jA | apply jH | apply jJ | apply jL | apply jN | apply jP | (refine wp_cond rfl (fun hc => ?_) (fun hc => ?_) <;> (try simp only [sB, ne_eq, reduceCtorEq] at hc) <;> (try (exfalso; omega))) | (refine WP.regionC (id := 17) ?_; (refine smove rfl ?_); (refine sfieldp rfl rfl rfl ?_); (refine sloadp rfl rfl rfl rfl ?_); (refine slenm rfl rfl ?_); (refine slss rfl rfl ?_); apply jW) | (refine WP.regionC (id := 6) ?_; (refine smove rfl ?_); (refine sadd rfl rfl (by exact inr_i64_of (by omega)) ?_); (refine sassign rfl ?_); apply jW)))
    refine ⟨k + 1, ⟨by omega, by omega, fun j hj => ?_⟩, ⟨[0], ToR.S rfl (by repeat' (first | exact rt_nil | refine rt_t rfl rfl ?_ | refine rt_e rfl rfl ?_)) (by repeat' (first | exact ro_nil | refine ro_p rfl (by first | exact rfl | fail) (by first | (simp [bdL, bdL_append, AV.bd]; done) | fail) ?_)) rfl (by (rw [hm]; exact rfl)) rfl (by (simp [bdT, AV.bd, bdL, bdL_append]; done)) (by repeat' (first | exact True.intro | refine And.intro ?_ ?_ | (simp [bdOq, bdL, bdL_append, AV.bd]; done))) (by (rw [hm]; exact Nat.le_of_ble_eq_true rfl))⟩⟩
    by_cases h : j = k
    · subst h
      refine ⟨⟨hnm, ?_⟩, hnd⟩
      unfold gruleOk
      rw [hra, decide_eq_false (by rintro e; rw [e] at hne; exact hne rfl)]; rfl
    · exact hall j (by omega)
  obtain rfl : i = f.rules.length := by omega
  obtain ⟨hr1, hr2⟩ := rules_yes hall
  (repeat' (first | apply jA | apply jF | apply jH | apply jJ | apply jL | apply jP | (refine wp_cond rfl (fun hc => ?_) (fun hc => ?_) <;> (try simp only [sB, ne_eq, reduceCtorEq] at hc) <;> (try (exfalso; omega))) | (refine WP.regionC (id := 5) ?_; (refine smove rfl ?_); (refine sfieldp rfl rfl rfl ?_); (refine sloadp rfl rfl rfl rfl ?_); (refine slenm rfl rfl ?_); (refine slss rfl rfl ?_); apply jW) | (refine WP.regionC ?_; (refine sassign rfl ?_); apply jW)))
  refine wp_nil 9 1 rfl ?_
  refine wp_loop (fun (j : Nat) => j ≤ f.levels.length ∧ (f.levels.take j).all glevelOk = true ∧ distOk (toks f j) = true) (fun j => f.levels.length - j)
    (fun j => (S 159 [(1, .ptr 0 3 0 0), (3, boolA (startTo f f.rules.length)), (9, .ref 1 1 0 (toks f j).length), (10, intA (j : Nat))] 2 [(0, some (.arr 3 [fileA f])), (1, some (.arr 1 ((toks f j).map strA)))])) 0 ⟨[0, 1], ToR.S rfl (by repeat' (first | exact rt_nil | refine rt_r rfl rfl ?_ | refine rt_t rfl rfl ?_ | refine rt_e rfl rfl ?_)) (by repeat' (first | exact ro_nil | refine ro_e rfl rfl ?_ | refine ro_p rfl (by first | exact rfl | fail) (by first | (simp [bdL, bdL_append, AV.bd]; done) | fail) ?_)) rfl (by (rw [hm]; exact rfl)) rfl (by (simp [bdT, AV.bd, bdL, bdL_append]; done)) (by repeat' (first | exact True.intro | exact rfl | refine And.intro ?_ ?_ | (simp [bdOq, bdL, bdL_append, AV.bd]; done))) (by (rw [hm]; exact Nat.le_of_ble_eq_true rfl))⟩ ⟨Nat.zero_le _, rfl, by simp [toks, distOk]⟩ ?_
  rintro j ⟨hj, hjall, hjd⟩
  have htm := toks_mono f hj
  by_cases hlt2 : j < f.levels.length
  · have htm2 := toks_mono f (k := j + 1) (by omega)
    rw [toks_succ hlt2, List.length_append] at htm2
    have hlf := hf2 _ (nth_mem hlt2)
    (repeat' (first | apply jA | apply jF | apply jH | apply jI | apply jK | apply jM | apply jO | apply jS | (refine wp_cond rfl (fun hc => ?_) (fun hc => ?_) <;> (try simp only [sB, ne_eq, reduceCtorEq] at hc) <;> (try (exfalso; omega))) | (refine WP.regionC (id := 24) ?_; (refine smove rfl ?_); (refine sfieldp rfl rfl rfl ?_); (refine sloadp rfl rfl rfl rfl ?_); (refine slenm rfl rfl ?_); (refine slss rfl rfl ?_); apply jW) | (refine WP.regionC (id := 26) ?_; (refine sfieldp rfl rfl rfl ?_); (refine sloadp rfl rfl rfl rfl ?_); (refine smove rfl ?_); (refine sidxn rfl rfl (by omega) ?_); (refine sloadw rfl rfl ?_); (refine se_alloc rfl ?_); (refine se_store_b rfl rfl rfl rfl ?_); apply jW) | (refine WP.regionC (id := 27) ?_; (refine sfieldp rfl rfl rfl ?_); (refine sloadp rfl rfl rfl rfl ?_); (refine slss rfl rfl ?_); (refine smove rfl ?_); (refine sg (gq_vf rfl rfl) (fun he => ap_field_p (rq_p rfl rfl) rfl rfl) ?_); (refine sg (gq_vf rfl rfl) (fun he => ap_load_p (rq_c rfl rfl) rfl rfl rfl) ?_); (refine sg (gq_vf rfl rfl) (fun he => ap_gtr (rq_c rfl rfl) (rq_p rfl rfl)) ?_); (refine su (ap_or (rq_p rfl rfl) (rq_c rfl rfl)) ?_); (refine smove rfl ?_); (refine sg (gq_vf rfl rfl) (fun he => ap_field_p (rq_p rfl rfl) rfl rfl) ?_); (refine sg (gq_vf rfl rfl) (fun he => ap_load_p (rq_c rfl rfl) rfl rfl rfl) ?_); (refine sg (gq_vf rfl rfl) (fun he => ap_len_m rfl (rq_c rfl rfl)) ?_); (refine sg (gq_vf rfl rfl) (fun he => ap_eql (rq_c rfl rfl) (rq_p rfl rfl)) ?_); (refine su (ap_or (rq_p rfl rfl) (rq_c rfl rfl)) ?_); apply jW) | (refine WP.regionC ?_; (refine sassign rfl ?_); apply jW) | refine ret_b rfl ?_))
    · rw [show validF f = false by simp only [validF, all_nth_no (l := f.levels) (f := glevelOk) (k := j) hlt2 (glevel_no (by omega)), Bool.and_false, Bool.false_and]]
    have hgl : glevelOk (nth f.levels j) = true := glevel_iff.2 (by omega)
    refine wp_loop (fun (k : Nat) => k ≤ (nth f.levels j).tokens.length ∧ distOk (toks2 f j k) = true) (fun k => (nth f.levels j).tokens.length - k)
      (fun k => (S 159 [(1, .ptr 0 3 0 0), (3, boolA (startTo f f.rules.length)), (9, .ref 1 1 0 (toks2 f j k).length), (10, intA (j : Nat)), (11, .ptr 2 2 0 0), (12, intA (k : Nat))] 3 [(0, some (.arr 3 [fileA f])), (1, some (.arr 1 ((toks2 f j k).map strA))), (2, some (.arr 2 [levelA (nth f.levels j)]))])) 0 ?_ ⟨Nat.zero_le _, by rw [toks2, List.take_zero, List.append_nil]; exact hjd⟩ ?_
    · rw [show toks2 f j 0 = toks f j by rw [toks2, List.take_zero, List.append_nil]]
      exact ⟨[0, 1, 2], ToR.S rfl (by repeat' (first | exact rt_nil | refine rt_r rfl rfl ?_ | refine rt_t rfl rfl ?_ | refine rt_e rfl rfl ?_)) (by repeat' (first | exact ro_nil | refine ro_p rfl (by first | exact rfl | fail) (by first | exact bdL_map (fun _ => by exact rfl) _ | (simp [bdL, bdL_append, AV.bd]; done) | fail) ?_)) rfl (by (rw [hm]; exact rfl)) rfl (by (simp [bdT, AV.bd, bdL, bdL_append]; done)) (by repeat' (first | exact True.intro | refine And.intro ?_ ?_ | exact bdL_map (fun _ => by exact rfl) _ | (simp [bdOq, bdL, bdL_append, AV.bd]; done))) (by (rw [hm]; exact Nat.le_of_ble_eq_true rfl))⟩
    rintro k ⟨hk, hkd⟩
    have hk2 : (toks2 f j k).length = (toks f j).length + k := by simp [toks2]; omega
    by_cases hkl : k < (nth f.levels j).tokens.length
    · have hsz : (nth (nth f.levels j).tokens k).size ≤ 9223372036854775807 := hlf _ (nth_mem hkl)
      (repeat' (first | apply jA | apply jF | apply jH | apply jI | (refine wp_cond rfl (fun hc => ?_) (fun hc => ?_) <;> (try simp only [sB, ne_eq, reduceCtorEq] at hc) <;> (try (exfalso; omega))) | (refine WP.regionC (id := 30) ?_; (refine smove rfl ?_); (refine sfieldp rfl rfl rfl ?_); (refine sloadp rfl rfl rfl rfl ?_); (refine slenm rfl rfl ?_); (refine slss rfl rfl ?_); apply jW) | (refine WP.regionC (id := 32) ?_; (refine sassign rfl ?_); apply jW)))
      refine wp_loop (fun (m : Nat) => m ≤ (toks2 f j k).length ∧ ∀ i, i < m → nth (toks2 f j k) i ≠ nth (nth f.levels j).tokens k) (fun m => (toks2 f j k).length - m)
        (fun m => (S 159 [(1, .ptr 0 3 0 0), (3, boolA (startTo f f.rules.length)), (9, .ref 1 1 0 (toks2 f j k).length), (10, intA (j : Nat)), (11, .ptr 2 2 0 0), (12, intA (k : Nat)), (13, intA (m : Nat))] 3 [(0, some (.arr 3 [fileA f])), (1, some (.arr 1 ((toks2 f j k).map strA))), (2, some (.arr 2 [levelA (nth f.levels j)]))])) 0 ⟨[0, 1, 2], ToR.S rfl (by repeat' (first | exact rt_nil | refine rt_r rfl rfl ?_ | refine rt_t rfl rfl ?_ | refine rt_e rfl rfl ?_)) (by repeat' (first | exact ro_nil | refine ro_p rfl (by first | exact rfl | fail) (by first | exact bdL_map (fun _ => by exact rfl) _ | (simp [bdL, bdL_append, AV.bd]; done) | fail) ?_)) rfl (by (rw [hm]; exact rfl)) rfl (by (simp [bdT, AV.bd, bdL, bdL_append]; done)) (by repeat' (first | exact True.intro | refine And.intro ?_ ?_ | exact bdL_map (fun _ => by exact rfl) _ | (simp [bdOq, bdL, bdL_append, AV.bd]; done))) (by (rw [hm]; exact Nat.le_of_ble_eq_true rfl))⟩ ⟨Nat.zero_le _, fun j hj => absurd hj (Nat.not_lt_zero _)⟩ ?_
      rintro m ⟨hm3, hmne⟩
      by_cases hml : m < (toks2 f j k).length
      · (repeat' (first | apply jA | apply jF | apply jH | apply jI | apply jK | apply jM | apply jN | apply jO | apply jS | (refine wp_cond rfl (fun hc => ?_) (fun hc => ?_) <;> (try simp only [sB, ne_eq, reduceCtorEq] at hc) <;> (try (exfalso; omega))) | (refine WP.regionC (id := 33) ?_; (refine smove rfl ?_); (refine smove rfl ?_); (refine su (alenr rfl rfl) ?_); (refine slss rfl rfl ?_); apply jW) | (refine wp_draw (id := 35) 10 mixed (by kernel_rfl) (by kernel_rfl) rfl ?_ <;> (refine rmove rfl ?_) <;> (refine rmove rfl ?_) <;> (refine rd_u rfl rfl (aidxrn rfl rfl (by omega)) ?_) <;> (refine rd_u rfl rfl (aloadpt rfl rfl (by omega) rfl) ?_) <;> (refine rfieldp rfl rfl rfl ?_) <;> (refine rloadp rfl rfl rfl rfl ?_) <;> (refine rmove rfl ?_) <;> (refine rd_u rfl rfl (aidxn rfl rfl (by omega)) ?_) <;> (refine rd_u rfl rfl (aloadw rfl rfl) ?_) <;> (refine rd_u rfl rfl (aeqs rfl rfl) ?_) <;> (refine rd_end (by kernel_rfl) ?_)) | (refine WP.regionC (id := 36) ?_; (refine sassign rfl ?_); apply jW) | (refine WP.regionC (id := 34) ?_; (refine smove rfl ?_); (refine sadd rfl rfl (by exact inr_i64_of (by omega)) ?_); (refine sassign rfl ?_); apply jW) | refine ret_b rfl ?_))
        · rw [toks2_no hlt2 hkl (.inr (hc ▸ nth_mem hml))]
        · refine ⟨m + 1, ⟨by omega, by omega, fun i hi => ?_⟩, ⟨[0, 1, 2], ToR.S rfl (by repeat' (first | exact rt_nil | refine rt_r rfl rfl ?_ | refine rt_t rfl rfl ?_ | refine rt_e rfl rfl ?_)) (by repeat' (first | exact ro_nil | refine ro_p rfl (by first | exact rfl | fail) (by first | exact bdL_map (fun _ => by exact rfl) _ | (simp [bdL, bdL_append, AV.bd]; done) | fail) ?_)) rfl (by (rw [hm]; exact rfl)) rfl (by (simp [bdT, AV.bd, bdL, bdL_append]; done)) (by repeat' (first | exact True.intro | refine And.intro ?_ ?_ | exact bdL_map (fun _ => by exact rfl) _ | (simp [bdOq, bdL, bdL_append, AV.bd]; done))) (by (rw [hm]; exact Nat.le_of_ble_eq_true rfl))⟩⟩
          by_cases h : i = m
          · subst h; exact hc
          · exact hmne i (by omega)
      obtain rfl : m = (toks2 f j k).length := by omega
      (repeat' (first | apply jA | apply jH | apply jI | apply jJ | apply jK | apply jL | apply jM | apply jN | apply jO | apply jP | apply jS | (refine wp_cond rfl (fun hc => ?_) (fun hc => ?_) <;> (try simp only [sB, ne_eq, reduceCtorEq] at hc) <;> (try (exfalso; omega))) | (refine WP.regionC (id := 33) ?_; (refine smove rfl ?_); (refine smove rfl ?_); (refine su (alenr rfl rfl) ?_); (refine slss rfl rfl ?_); apply jW) | (refine WP.regionC (id := 37) ?_; (refine sfieldp rfl rfl rfl ?_); (refine sloadp rfl rfl rfl rfl ?_); (refine smove rfl ?_); (refine sidxn rfl rfl (by omega) ?_); (refine sloadw rfl rfl ?_); (refine sc_p rfl rfl (by first | ((repeat' first | exact SubL.nil | refine SubL.cons ?_ ?_ | exact Sub.refl); done) | fail) (by first | (simp [bdL, bdL_append, AV.bd]; done) | fail) (rname_fn _ (by assumption)) ?_); (refine su (anot rfl) ?_); apply jW) | (refine WP.regionC (id := 38) ?_; (refine sassign rfl ?_); apply jW) | (refine WP.regionC (id := 39) ?_; (refine smove rfl ?_); (refine sfieldp rfl rfl rfl ?_); (refine sloadp rfl rfl rfl rfl ?_); (refine smove rfl ?_); (refine sidxn rfl rfl (by omega) ?_); (refine sloadw rfl rfl ?_); (refine se_lit (OpP.cons rfl (OpP.nil)) rfl rfl rfl rfl rfl rfl ?_); (refine se_app1 rfl rfl rfl rfl rfl rfl rfl rfl (by omega) ?_); (refine sassign rfl ?_); apply jW) | (refine WP.regionC (id := 31) ?_; (refine smove rfl ?_); (refine sadd rfl rfl (by exact inr_i64_of (by omega)) ?_); (refine sassign rfl ?_); apply jW) | refine ret_b rfl ?_))
      · rw [toks2_no hlt2 hkl (.inl hc)]
      · have e1 : toks2 f j (k + 1) = toks2 f j k ++ [nth (nth f.levels j).tokens k] := by rw [toks2, toks2, take_succ_nth hkl, List.append_assoc]
        refine ⟨k + 1, ⟨by omega, by omega, ?_⟩, ?_⟩
        · rw [e1]
          refine distOk_add hkd hc fun hx => ?_
          obtain ⟨i, hi, he⟩ := List.getElem_of_mem hx
          exact hmne i hi (by rw [nth_eq hi]; exact he)
        · rw [e1]
          exact ⟨[0, 4, 2], ToR.S rfl (by repeat' (first | exact rt_nil | refine rt_r rfl rfl ?_ | refine rt_t rfl rfl ?_ | refine rt_e rfl rfl ?_)) (by repeat' (first | exact ro_nil | refine ro_p rfl (by first | exact rfl | fail) (by first | exact bdL_map (fun _ => by exact rfl) _ | (simp [bdL, bdL_append, AV.bd]; done) | fail) ?_)) rfl (by (rw [hm]; exact rfl)) rfl (by (simp [bdT, AV.bd, bdL, bdL_append]; done)) (by repeat' (first | exact True.intro | refine And.intro ?_ ?_ | exact bdL_map (fun _ => by exact rfl) _ | (simp [bdOq, bdL, bdL_append, AV.bd]; done))) (by (rw [hm]; exact Nat.le_of_ble_eq_true rfl))⟩
    obtain rfl : k = (nth f.levels j).tokens.length := by omega
    have e2 : toks2 f j (nth f.levels j).tokens.length = toks f (j + 1) := by rw [toks2, List.take_of_length_le (Nat.le_refl _), toks_succ hlt2]
    rw [e2] at hkd
    rw [e2]
    (repeat' (first | apply jA | apply jH | apply jJ | apply jL | apply jN | apply jP | (refine wp_cond rfl (fun hc => ?_) (fun hc => ?_) <;> (try simp only [sB, ne_eq, reduceCtorEq] at hc) <;> (try (exfalso; omega))) | (refine WP.regionC (id := 30) ?_; (refine smove rfl ?_); (refine sfieldp rfl rfl rfl ?_); (refine sloadp rfl rfl rfl rfl ?_); (refine slenm rfl rfl ?_); (refine slss rfl rfl ?_); apply jW) | (refine WP.regionC (id := 25) ?_; (refine smove rfl ?_); (refine sadd rfl rfl (by exact inr_i64_of (by omega)) ?_); (refine sassign rfl ?_); apply jW)))
    exact ⟨j + 1, ⟨by omega, by omega, take_all_succ hlt2 hjall hgl, hkd⟩, ⟨[0, 1], ToR.S rfl (by repeat' (first | exact rt_nil | refine rt_r rfl rfl ?_ | refine rt_t rfl rfl ?_ | refine rt_e rfl rfl ?_)) (by repeat' (first | exact ro_nil | refine ro_p rfl (by first | exact rfl | fail) (by first | exact bdL_map (fun _ => by exact rfl) _ | (simp [bdL, bdL_append, AV.bd]; done) | fail) ?_)) rfl (by (rw [hm]; exact rfl)) rfl (by (simp [bdT, AV.bd, bdL, bdL_append]; done)) (by repeat' (first | exact True.intro | refine And.intro ?_ ?_ | exact bdL_map (fun _ => by exact rfl) _ | (simp [bdOq, bdL, bdL_append, AV.bd]; done))) (by (rw [hm]; exact Nat.le_of_ble_eq_true rfl))⟩⟩
  obtain rfl : j = f.levels.length := by omega
  have hls := all_of_take' (by omega) hjall
  (repeat' (first | apply jA | apply jH | apply jJ | apply jK | apply jL | apply jP | apply jS | (refine wp_cond rfl (fun hc => ?_) (fun hc => ?_) <;> (try simp only [sB, ne_eq, reduceCtorEq] at hc) <;> (try (exfalso; omega))) | (refine WP.regionC (id := 24) ?_; (refine smove rfl ?_); (refine sfieldp rfl rfl rfl ?_); (refine sloadp rfl rfl rfl rfl ?_); (refine slenm rfl rfl ?_); (refine slss rfl rfl ?_); apply jW) | (refine WP.regionC (id := 40) ?_; (refine smove rfl ?_); (refine sassign rfl ?_); apply jW) | refine ret_b rfl ?_))
  have a1 : decide (1 ≤ f.rules.length) = true := decide_eq_true (by omega)
  have a2 : decide (f.rules.length ≤ 120) = true := decide_eq_true (by omega)
  simp only [validF, a1, a2, hr1, hr2, hls, hjd, start_any, Bool.true_and]
end Go.Lg

namespace Go.Lg
open Go.Proofs
set_option linter.unusedSimpArgs false
set_option linter.unusedVariables false
attribute [local irreducible] Ap Rq asemC WP RunD Ret Gq thenA inBlockA bodyQ noGotoA RqL RqP OpP
set_option maxHeartbeats 8000000
set_option maxRecDepth 20000
attribute [local simp] psA psR tx_nil parseA
theorem adv17_0 (s : ByteArray) (hs : s.size ≤ 100000) : FnO Try.prog 25 [.ptr 0 4 0 0] [psR s 0 0 false] (.tup []) [some (psA s (lexL (bl s) 0) false)] := by
  have h1 := advance_fn s hs 0 0 (Nat.zero_le _) false
  have e1 : nxA s (0 + 0) = posN s (lexL (bl s) 0) := by
    have e : lexL ((bl s).drop (0 + 0)) (0 + 0) = lexL (bl s) 0 := rfl
    unfold nxA; rw [e]; cases lexL (bl s) 0 <;> rfl
  have e2 : nxN s (0 + 0) = (hdT (lexL (bl s) 0)).length := by
    have e : lexL ((bl s).drop (0 + 0)) (0 + 0) = lexL (bl s) 0 := rfl
    unfold nxN; rw [e]; cases lexL (bl s) 0 <;> rfl
  rw [e1, e2] at h1
  exact h1
end Go.Lg

namespace Go.Lg
open Go.Proofs
set_option linter.unusedSimpArgs false
set_option linter.unusedVariables false
attribute [local irreducible] Ap Rq asemC WP RunD Ret Gq thenA inBlockA bodyQ noGotoA RqL RqP OpP
set_option maxHeartbeats 8000000
set_option maxRecDepth 20000
attribute [local simp] psA psR tx_nil
theorem posN_lt {s : ByteArray} {p : Nat × Tx} {l : List (Nat × Tx)} (h : At s (p :: l)) : (posN s (p :: l) : Int) < s.size := by
  have e1 := h.cons.1
  have e2 : 1 ≤ p.2.length := by
    cases hq : p.2 with
    | nil => exact absurd hq h.cons.2.2.2
    | cons c t => simp
  have e3 : posN s (p :: l) = p.1 := rfl
  rw [e3]; omega
theorem tokens17_fn (s : ByteArray) (hs : s.size ≤ 100000) (hB : (lexL (bl s) 0).length ≤ 100000) : Fn Try.prog 13 [strA s] (strsA ((lexT (bl s)).map tx)) := by
  have hAt : At s (lexL (bl s) 0) := ⟨hs, 0, Nat.zero_le _, by rw [List.drop_zero]⟩
  have hadv := adv17_0 s hs
  have hlt : lexT (bl s) = (lexL (bl s) 0).map (·.2) := rfl
  rw [hlt]
  generalize hL : lexL (bl s) 0 = L at *
  refine Fn.intro (by simp [AV.bd, bdL, bdL_append]) (by kernel_rfl) Try.func13 rfl rfl Try.ntmps13 (by exact Nat.le_of_ble_eq_true rfl) ?_; intro Γ hm
  (repeat' (first | apply jA | apply jF | apply jH | (refine WP.regionC ?_; (refine sassign rfl ?_); apply jW) | (refine WP.regionC (id := 1) ?_; (refine smove rfl ?_); (refine su (ap_build (RqP.cons (rq_p rfl rfl) (RqP.nil)) rfl) ?_); (refine se_box rfl (by exact ⟨rfl, rfl⟩) ?_); (refine sassign rfl ?_); apply jW) | (refine WP.regionC (id := 2) ?_; (refine smove rfl ?_); (refine sc_o [0] rfl rfl (hadv) (Lend.o1 rfl rfl rfl rfl (by simp [AV.bd, bdL, bdL_append]) (by simp [AV.bd, bdL, bdL_append])) ?_; simp only [updN, newO, AObj.ren, renL, AV.ren, apx, ap, if_true, if_false, Nat.reduceLT, Nat.reduceAdd, Nat.reduceSub, sO, intA, boolA, strA, psA, psR]); apply jW)))
  refine wp_nil 4 1 rfl ?_
  refine wp_loop (fun (σ : List ByteArray × List (Nat × Tx)) => σ.1.length + σ.2.length ≤ L.length ∧ σ.2 <:+ L ∧ σ.1 ++ (σ.2.map (·.2)).map tx = (L.map (·.2)).map tx) (fun σ => σ.2.length)
    (fun σ => (S 25 [(0, strA s), (3, .ptr 0 4 0 0), (4, .ref 1 1 0 σ.1.length)] 2 [(0, some (psA s σ.2 false)), (1, some (.arr 1 (σ.1.map strA)))])) ([], L) ⟨[0, 1], ToR.S rfl (by repeat' (first | exact rt_nil | refine rt_r rfl rfl ?_ | refine rt_t rfl rfl ?_ | refine rt_e rfl rfl ?_)) (by repeat' (first | exact ro_nil | refine ro_e rfl rfl ?_)) rfl (by (rw [hm]; exact rfl)) rfl (by (simp [bdT, AV.bd, bdL, bdL_append]; done)) (by repeat' (first | exact True.intro | exact rfl | refine And.intro ?_ ?_)) (by (rw [hm]; exact Nat.le_of_ble_eq_true rfl))⟩ ⟨by simp, List.suffix_refl _, rfl⟩ ?_
  rintro ⟨acc, l1⟩ ⟨hn1, hs1, hf1⟩
  simp only at hn1 hs1 hf1 ⊢
  have h1 := hAt.suf hs1
  cases l1 with
  | nil =>
    have hps : (posN s [] : Int) = s.size := rfl
    simp only [List.map_nil, List.append_nil] at hf1
    rw [← hf1]
    refine wp_frzm 4 hm rfl rfl rfl (fun _ => rfl) (fun _ => rfl) rfl ?_
    (repeat' (first | apply jA | apply jH | apply jJ | apply jK | apply jL | apply jP | apply jS | (refine wp_cond rfl (fun hc => ?_) (fun hc => ?_) <;> (try simp only [sB, ne_eq, reduceCtorEq] at hc) <;> (try (exfalso; omega))) | (refine WP.regionC (id := 4) ?_; (refine smove rfl ?_); (refine snilc rfl ?_); (refine sfieldp rfl rfl rfl ?_); (refine sloadp rfl rfl rfl rfl ?_); (refine smove rfl ?_); (refine su (alenstr rfl rfl) ?_); (refine slss rfl rfl ?_); apply jW) | (refine WP.regionC (id := 7) ?_; (refine smove rfl ?_); (refine sassign rfl ?_); apply jW) | exact ret_eq rfl (by (simp [AV.bd, bdL, bdL_append]; done)) rfl))
    all_goals done
  | cons p l2 =>
    have hps := posN_lt h1
    have hO := adv17 h1 false
    have hlen : (p :: l2).length = l2.length + 1 := rfl
    have hnext : l2.length < (p :: l2).length ∧ (acc ++ [tx p.2]).length + l2.length ≤ L.length ∧ l2 <:+ L ∧ (acc ++ [tx p.2]) ++ (l2.map (·.2)).map tx = (L.map (·.2)).map tx := by
      refine ⟨by simp, by simp only [List.length_append, List.length_cons, List.length_nil] at hn1 ⊢; omega, (List.suffix_cons _ _).trans hs1, ?_⟩
      rw [← hf1]; simp
    (repeat' (first | apply jA | apply jF | apply jH | apply jI | apply jN | (refine wp_cond rfl (fun hc => ?_) (fun hc => ?_) <;> (try simp only [sB, ne_eq, reduceCtorEq] at hc) <;> (try (exfalso; omega))) | (refine WP.regionC (id := 4) ?_; (refine smove rfl ?_); (refine snilc rfl ?_); (refine sfieldp rfl rfl rfl ?_); (refine sloadp rfl rfl rfl rfl ?_); (refine smove rfl ?_); (refine su (alenstr rfl rfl) ?_); (refine slss rfl rfl ?_); apply jW) | (refine WP.regionC (id := 5) ?_; (refine smove rfl ?_); (refine smove rfl ?_); (refine sc_o [0] rfl rfl (txt17 (by assumption) _) (Lend.o1 rfl rfl rfl rfl (by simp [AV.bd, bdL, bdL_append]) (by simp [AV.bd, bdL, bdL_append])) ?_; simp only [updN, newO, AObj.ren, renL, AV.ren, apx, ap, if_true, if_false, Nat.reduceLT, Nat.reduceAdd, Nat.reduceSub, sO, intA, boolA, strA, psA, psR]); (refine se_lit (OpP.cons rfl (OpP.nil)) rfl rfl rfl rfl rfl rfl ?_); (refine se_app1 rfl rfl rfl rfl rfl rfl rfl rfl (by omega) ?_); (refine sassign rfl ?_); apply jW) | (refine WP.regionC (id := 6) ?_; (refine smove rfl ?_); (refine sc_o [0] rfl rfl (hO) (Lend.o1 rfl rfl rfl rfl (by simp [AV.bd, bdL, bdL_append]) (by simp [AV.bd, bdL, bdL_append])) ?_; simp only [updN, newO, AObj.ren, renL, AV.ren, apx, ap, if_true, if_false, Nat.reduceLT, Nat.reduceAdd, Nat.reduceSub, sO, intA, boolA, strA, psA, psR]); apply jW)))
    exact ⟨(acc ++ [tx p.2], l2), hnext, ⟨[0, 3], ToR.S rfl (by repeat' (first | exact rt_nil | refine rt_r rfl rfl ?_ | refine rt_t rfl rfl ?_ | refine rt_e rfl rfl ?_)) (by repeat' (first | exact ro_nil | refine ro_e rfl rfl ?_ | refine ro_p rfl (by first | exact rfl | fail) (by first | exact bdL_map (fun _ => by exact rfl) _ | fail) ?_)) rfl (by (rw [hm]; exact rfl)) rfl (by (simp [bdT, AV.bd, bdL, bdL_append]; done)) (by repeat' (first | exact True.intro | exact rfl | refine And.intro ?_ ?_ | exact bdL_map (fun _ => by exact rfl) _)) (by (rw [hm]; exact Nat.le_of_ble_eq_true rfl))⟩⟩
end Go.Lg

namespace Go.Lg
def encT (t : List UInt8) (b : Bool) : List UInt8 := if b then [40] ++ t ++ [41] else t
def reqP (k : Int) (x : GEx) : Bool := if k = 2 then decide (x.kind = 2) || decide (x.kind = 3) else if k = 3 then decide (x.kind = 3) || decide (x.kind = 2) && decide ((x.kids.length : Int) = 0) else !decide (x.kind = 1)
def sepT (k : Int) : List UInt8 := if k = 2 then [32] else if k = 3 then [32, 124, 32] else []
def tailT (k : Int) (n : ByteArray) : List UInt8 := if k = 1 then bl n else if k = 4 then [63] else if k = 5 then [42] else if k = 6 then [43] else []
mutual
def exT : GEx → List UInt8
  | .mk k n l => kidsT k false l ++ tailT k n
def kidsT (k : Int) (more : Bool) : List GEx → List UInt8
  | [] => []
  | e :: l => ((if more then sepT k else []) ++ encT (exT e) (reqP k e)) ++ kidsT k true l
end
theorem exT_eq (e : GEx) : exT e = kidsT e.kind false e.kids ++ tailT e.kind e.name := by cases e; rw [exT]; rfl
def wPrice : List UInt8 := [32, 112, 114, 105, 99, 101, 32]
def prT (p : Int) : List UInt8 := if p = 0 then [] else wPrice ++ Lib.itoa p
def bodT (e : GEx) : List UInt8 := if ¬ e.kind = 2 ∨ 0 < (e.kids.length : Int) then [32] ++ encT (exT e) (decide (e.kind = 3)) else []
def altT (a : GAl) : List UInt8 := bodT a.body ++ prT a.price
def wordT (a : Int) : ByteArray := if a = 1 then kw1 else if a = 2 then kw2 else kw3
def wStartT : List UInt8 := [115, 116, 97, 114, 116, 32]
def endT : List UInt8 := [59, 10]
def lvT (l : GLe) : List UInt8 := bl (wordT l.assoc) ++ ([32] ++ (Lib.join (l.tokens.map bl) [32] ++ endT))
def altsT (l : List GAl) : Nat → List UInt8
  | 0 => []
  | i + 1 => altsT l i ++ ((if i = 0 then [] else [32, 124]) ++ altT (nth l i))
def ruT (r : GRu) : List UInt8 := (bl r.name ++ [32, 61]) ++ (altsT r.alts r.alts.length ++ endT)
def fm0 (f : GFi) : List UInt8 := wStartT ++ (bl f.start ++ endT)
def fmL (f : GFi) (j : Nat) : List UInt8 := fm0 f ++ ((f.levels.take j).map lvT).flatten
def fmR (f : GFi) (k : Nat) : List UInt8 := fmL f f.levels.length ++ ((f.rules.take k).map ruT).flatten
def fmtF (f : GFi) : List UInt8 := fmR f f.rules.length
def oneT (k : Int) (i : Nat) (e : GEx) : List UInt8 := (if i = 0 then [] else sepT k) ++ encT (exT e) (reqP k e)
theorem kidsT_snoc (k : Int) (e : GEx) : ∀ (m : Bool) (l : List GEx), kidsT k m (l ++ [e]) = kidsT k m l ++ ((if m || !l.isEmpty then sepT k else []) ++ encT (exT e) (reqP k e))
  | m, [] => by cases m <;> simp [kidsT]
  | m, x :: l => by rw [List.cons_append, kidsT, kidsT, kidsT_snoc k e true l]; simp
theorem kidsT_take {k : Int} {l : List GEx} {i : Nat} (hi : i < l.length) : kidsT k false (l.take (i + 1)) = kidsT k false (l.take i) ++ oneT k i (nth l i) := by
  rw [take_succ_nth hi, kidsT_snoc, oneT]
  cases i with
  | zero => simp
  | succ i => cases l with
    | nil => simp at hi
    | cons x l => simp
theorem kidsT_mono (k : Int) (l : List GEx) {i : Nat} (hi : i ≤ l.length) : (kidsT k false (l.take i)).length ≤ (kidsT k false l).length := by
  induction h : l.length - i generalizing i with
  | zero => rw [List.take_of_length_le (by omega)]; exact Nat.le_refl _
  | succ n ih =>
    have h1 := ih (i := i + 1) (by omega) (by omega)
    rw [kidsT_take (by omega), List.length_append] at h1
    omega
theorem itoa_len {p : Int} (h0 : 0 ≤ p) (h1 : p ≤ 1000) : (Lib.itoa p).length ≤ 21 := Lib.itoa_length_le p (by omega) (by omega)
theorem fmL_succ {f : GFi} {j : Nat} (h : j < f.levels.length) : fmL f (j + 1) = fmL f j ++ lvT (nth f.levels j) := by
  simp only [fmL, take_succ_nth h, List.map_append, List.flatten_append, List.append_assoc]; simp
theorem fmR_succ {f : GFi} {j : Nat} (h : j < f.rules.length) : fmR f (j + 1) = fmR f j ++ ruT (nth f.rules j) := by
  simp only [fmR, take_succ_nth h, List.map_append, List.flatten_append, List.append_assoc]; simp
theorem fmL_mono (f : GFi) {k : Nat} (hk : k ≤ f.levels.length) : (fmL f k).length ≤ (fmL f f.levels.length).length := by
  induction h : f.levels.length - k generalizing k with
  | zero => obtain rfl : k = f.levels.length := by omega
            exact Nat.le_refl _
  | succ n ih =>
    have := ih (k := k + 1) (by omega) (by omega)
    rw [fmL_succ (by omega), List.length_append] at this
    omega
theorem fmR_mono (f : GFi) {k : Nat} (hk : k ≤ f.rules.length) : (fmR f k).length ≤ (fmtF f).length := by
  unfold fmtF
  induction h : f.rules.length - k generalizing k with
  | zero => obtain rfl : k = f.rules.length := by omega
            exact Nat.le_refl _
  | succ n ih =>
    have := ih (k := k + 1) (by omega) (by omega)
    rw [fmR_succ (by omega), List.length_append] at this
    omega
theorem altsT_mono (l : List GAl) {k : Nat} (hk : k ≤ l.length) : (altsT l k).length ≤ (altsT l l.length).length := by
  induction h : l.length - k generalizing k with
  | zero => obtain rfl : k = l.length := by omega
            exact Nat.le_refl _
  | succ n ih =>
    have := ih (k := k + 1) (by omega) (by omega)
    rw [altsT, List.length_append] at this
    omega
theorem fmL0_le (f : GFi) : (fmL f f.levels.length).length ≤ (fmtF f).length := by
  have := fmR_mono f (Nat.zero_le _)
  simpa [fmR] using this
theorem spaced_ge : ∀ l : List ByteArray, l.length ≤ (spaced l).length
  | [] => Nat.zero_le _
  | x :: l => by
    have := spaced_ge l
    simp only [spaced, List.map_cons, List.flatten_cons, List.length_append, List.length_cons] at this ⊢
    omega
theorem word_size (a : Int) : (wordT a).size ≤ 5 := by
  unfold wordT; split
  · decide
  · split <;> decide
theorem okE_iff {e : GEx} {d : Int} (h : okE e d = true) : okK e.kind e.name e.kids.length = true ∧ ∀ k, k ∈ e.kids → okE k (d - 1) = true := by
  rw [okE_eq] at h
  simp only [Bool.and_eq_true, List.all_eq_true] at h
  exact ⟨h.1.2, h.2⟩
theorem encT_len (t : List UInt8) (r : Bool) : t.length ≤ (encT t r).length := by cases r <;> simp [encT]; omega
theorem join_spaced {l : List ByteArray} (h : l ≠ []) : [32] ++ Lib.join (l.map bl) [32] = spaced l := by
  cases l with
  | nil => exact absurd rfl h
  | cons x l =>
    have h1 := lineT_cons x l
    have h2 : Lib.join ((x :: l).map bl) [32] = bl x ++ spaced l := by
      have := List.append_cancel_right (show Lib.join ((x :: l).map bl) [32] ++ [10] = (bl x ++ spaced l) ++ [10] from h1)
      exact this
    rw [h2]
    simp [spaced]
theorem lvT_eq {l : GLe} (h : l.tokens ≠ []) : lvT l = bl (wordT l.assoc) ++ spaced l.tokens ++ endT := by
  rw [← join_spaced h, lvT]; simp only [List.append_assoc]
theorem spaced_take {l : List ByteArray} {k : Nat} (hk : k < l.length) : spaced (l.take (k + 1)) = spaced (l.take k) ++ (32 :: bl (nth l k)) := by
  rw [take_succ_nth hk, spaced_app]; simp [spaced]
theorem spaced_mono (l : List ByteArray) {k : Nat} (hk : k ≤ l.length) : (spaced (l.take k)).length ≤ (spaced l).length := by
  have h := congrArg List.length (spaced_app (l.take k) (l.drop k))
  rw [List.take_append_drop, List.length_append] at h
  omega
end Go.Lg

namespace Go.Lg
mutual
def cntE : GEx → Nat
  | .mk _ _ l => 1 + cntL l
def cntL : List GEx → Nat
  | [] => 0
  | e :: l => cntE e + cntL l
end
theorem cntE_eq (e : GEx) : cntE e = 1 + cntL e.kids := by cases e; rw [cntE]; rfl
theorem gnOk_size {s : ByteArray} (h : gnOk s = true) : s.size ≤ 24 := by
  simp only [gnOk, Bool.and_eq_true, decide_eq_true_eq] at h; exact h.1.1.2
theorem tail_len {k : Int} {n : ByteArray} {m : Nat} (h : okK k n m = true) : (tailT k n).length ≤ 24 := by
  unfold tailT
  split
  · rename_i h1
    subst h1
    simp [okK] at h
    rw [bl_len]; exact gnOk_size h.1
  · split
    · simp
    · split
      · simp
      · split <;> simp
theorem encT_le (t : List UInt8) (r : Bool) : (encT t r).length ≤ t.length + 2 := by cases r <;> simp [encT]
theorem sep_le (k : Int) : (sepT k).length ≤ 3 := by unfold sepT; split; · simp
                                                     split <;> simp
theorem kids_len (k : Int) : ∀ (l : List GEx) (m : Bool), (∀ x, x ∈ l → (exT x).length + 16 ≤ 40 * cntE x) → (kidsT k m l).length ≤ 40 * cntL l
  | [], m, _ => by simp [kidsT]
  | e :: l, m, h => by
    have h1 := h e (by simp)
    have h2 := kids_len k l true fun x hx => h x (by simp [hx])
    have h3 := encT_le (exT e) (reqP k e)
    have h4 := sep_le k
    rw [kidsT, cntL, List.length_append, List.length_append]
    have h5 : (if m = true then sepT k else []).length ≤ 3 := by split; · exact h4
                                                                 · simp
    omega
theorem exT_len (e : GEx) : ∀ d : Int, okE e d = true → (exT e).length + 16 ≤ 40 * cntE e := by
  induction e using GEx.ind with
  | h e ih =>
    intro d h
    obtain ⟨h1, h2⟩ := okE_iff h
    have h3 := kids_len e.kind e.kids false fun x hx => ih x hx _ (h2 x hx)
    have h4 := tail_len h1
    rw [exT_eq, List.length_append, cntE_eq]
    omega
theorem nodesG_ge (m : Int) : ∀ (l : List GEx) (n : Int), n ≤ nodesG l m n
  | [], n => by rw [nodesG]; exact Int.le_refl _
  | e :: l, n => by
    rw [nodesG]
    split
    · have h1 := nodesG_ge m l (n + nodesR e (m - n))
      have h2 := nodesR_bd e (m - n) (by omega)
      omega
    · exact Int.le_refl _
theorem nodesG_cnt (m : Int) : ∀ (l : List GEx) (n : Int), (∀ x, x ∈ l → ∀ m' : Int, nodesR x m' ≤ m' → (cntE x : Int) ≤ nodesR x m') → nodesG l m n ≤ m → (cntL l : Int) + n ≤ nodesG l m n
  | [], n, _, _ => by rw [nodesG, cntL]; omega
  | e :: l, n, hc, h => by
    rw [nodesG] at h ⊢
    split
    · rename_i hn
      rw [if_pos hn] at h
      have h1 := nodesG_ge m l (n + nodesR e (m - n))
      have h2 := hc e (by simp) (m - n) (by omega)
      have h3 := nodesG_cnt m l (n + nodesR e (m - n)) (fun x hx => hc x (by simp [hx])) h
      rw [cntL]; omega
    · rename_i hn; rw [if_neg hn] at h; exact absurd h hn
theorem nodesR_cnt (e : GEx) : ∀ m : Int, nodesR e m ≤ m → (cntE e : Int) ≤ nodesR e m := by
  induction e using GEx.ind with
  | h e ih =>
    intro m h
    rw [nodesR_eq] at h ⊢
    have := nodesG_cnt m e.kids 1 ih h
    rw [cntE_eq]; omega
theorem altT_len {a : GAl} (h : altOk a = true) : (altT a).length ≤ 40 * (cntE a.body + 1) := by
  obtain ⟨⟨hp0, hp1⟩, hE⟩ := altOk_iff.1 h
  have h1 := exT_len _ _ hE
  have h2 := itoa_len hp0 hp1
  have h3 := encT_le (exT a.body) (decide (a.body.kind = 3))
  rw [altT, List.length_append]
  have h4 : (bodT a.body).length ≤ (exT a.body).length + 3 := by
    unfold bodT; split
    · simp; omega
    · simp
  have h5 : (prT a.price).length ≤ 28 := by
    unfold prT; split
    · simp
    · simp [wPrice]; omega
  omega
theorem alts_len {r : GRu} (hr : ∀ a, a ∈ r.alts → altOk a = true) {m n : Int} : ∀ k, k ≤ r.alts.length → szA r m n k ≤ m → ((altsT r.alts k).length : Int) ≤ 50 * (szA r m n k - n)
  | 0, _, _ => by simp [altsT, szA]
  | k + 1, hk, h => by
    rw [szA] at h ⊢
    split
    · rename_i hle
      rw [if_pos hle] at h
      have h1 := alts_len hr (m := m) (n := n) k (by omega) hle
      have h2 := altT_len (hr _ (nth_mem (l := r.alts) (k := k) (by omega)))
      have h3 := nodesR_cnt (nth r.alts k).body (m - szA r m n k) (by omega)
      have h4 := nodesR_bd (nth r.alts k).body (m - szA r m n k) (by omega)
      rw [altsT, List.length_append, List.length_append]
      have h5 : (if k = 0 then ([] : List UInt8) else [32, 124]).length ≤ 2 := by split <;> simp
      omega
    · rename_i hle; rw [if_neg hle] at h; exact absurd h hle
structure FVal (f : GFi) : Prop where
  rule : ∀ r, r ∈ f.rules → gruleOk r = true
  level : ∀ l, l ∈ f.levels → glevelOk l = true
  rn : ∀ x, x ∈ rnames f f.rules.length → gnOk x = true
  rd : (rnames f f.rules.length).Nodup
  tk : ∀ x, x ∈ toks f f.levels.length → gnOk x = true
  td : (toks f f.levels.length).Nodup
  st : gnOk f.start = true
theorem FVal.of {f : GFi} (h : validF f = true) : FVal f := by
  simp only [validF, Bool.and_eq_true, List.all_eq_true, decide_eq_true_eq] at h
  have h1 := distOk_iff.1 h.1.1.2
  have h2 := distOk_iff.1 h.1.2
  refine ⟨h.1.1.1.1.2, h.1.1.1.2, h1.1, h1.2, h2.1, h2.2, ?_⟩
  have h3 := h.2
  rw [List.any_eq_true] at h3
  obtain ⟨x, hx, he⟩ := h3
  rw [decide_eq_true_eq] at he
  rw [he]; exact h1.1 x hx
theorem FVal.alt {f : GFi} (h : FVal f) : ∀ r, r ∈ f.rules → ∀ a, a ∈ r.alts → altOk a = true := by
  intro r hr a ha
  have := h.rule r hr
  simp only [gruleOk, Bool.and_eq_true, List.all_eq_true] at this
  exact this.2 a ha
theorem FVal.name {f : GFi} (h : FVal f) : ∀ r, r ∈ f.rules → r.name.size ≤ 24 := by
  intro r hr
  refine gnOk_size (h.rn _ ?_)
  rw [rnames_all]; exact List.mem_map.2 ⟨r, hr, rfl⟩
theorem FVal.tok {f : GFi} (h : FVal f) : ∀ l, l ∈ f.levels → ∀ t, t ∈ l.tokens → t.size ≤ 24 := by
  intro l hl t ht
  refine gnOk_size (h.tk _ ?_)
  simp only [toks, List.take_of_length_le (Nat.le_refl _), List.mem_flatten, List.mem_map]
  exact ⟨_, ⟨l, hl, rfl⟩, ht⟩
theorem lv_len {f : GFi} (h : FVal f) {l : GLe} (hl : l ∈ f.levels) : (lvT l).length ≤ 50 * (1 + l.tokens.length) := by
  have hne : l.tokens ≠ [] := by
    have := (glevel_iff.1 (h.level l hl)).2
    intro e; rw [e] at this; exact this rfl
  have h1 := spaced_len (l := l.tokens) (c := 24) (h.tok l hl)
  have h2 := word_size l.assoc
  rw [lvT_eq hne, List.length_append, List.length_append, bl_len]
  have h3 : endT.length = 2 := rfl
  omega
theorem levels_len {f : GFi} (h : FVal f) {m : Int} : ∀ j, j ≤ f.levels.length → szL f m j ≤ m → ((fmL f j).length : Int) ≤ 32 + 50 * szL f m j
  | 0, _, _ => by
    have := gnOk_size h.st
    have hz : (fm0 f).length = 8 + f.start.size := by simp [fm0, wStartT, endT, bl_len]; omega
    simp only [fmL, szL, List.take_zero, List.map_nil, List.flatten_nil, List.append_nil, hz]
    omega
  | j + 1, hj, hs => by
    rw [szL] at hs ⊢
    split
    · rename_i hle
      rw [if_pos hle] at hs
      have h1 := levels_len h (m := m) j (by omega) hle
      have h2 := lv_len h (nth_mem (l := f.levels) (k := j) (by omega))
      rw [fmL_succ (by omega), List.length_append]
      omega
    · rename_i hle; rw [if_neg hle] at hs; exact absurd hs hle
theorem rules_len {f : GFi} (h : FVal f) (hT : TokB f) {m : Int} (h0 : 0 ≤ m) : ∀ i, i ≤ f.rules.length → szR f m i ≤ m → ((fmR f i).length : Int) ≤ 32 + 50 * szR f m i
  | 0, _, hs => by
    rw [szR] at hs ⊢
    have := levels_len h f.levels.length (Nat.le_refl _) hs
    simpa [fmR] using this
  | i + 1, hi, hs => by
    rw [szR] at hs ⊢
    split
    · rename_i hle
      rw [if_pos hle] at hs
      have h1 := rules_len h hT h0 i (by omega) hle
      have hm := nth_mem (l := f.rules) (k := i) (by omega)
      have h2 := alts_len (r := nth f.rules i) (h.alt _ hm) (m := m) (n := szR f m i + 1) (nth f.rules i).alts.length (Nat.le_refl _) hs
      have h3 := h.name _ hm
      have hrt : (ruT (nth f.rules i)).length = (nth f.rules i).name.size + 2 + ((altsT (nth f.rules i).alts (nth f.rules i).alts.length).length + 2) := by
        simp [ruT, endT, bl_len]; omega
      rw [fmR_succ (by omega), List.length_append, hrt]
      omega
    · rename_i hle; rw [if_neg hle] at hs; exact absurd hs hle
end Go.Lg

namespace Go.Lg
theorem lexL_off (l : Tx) : ∀ a b : Nat, lexL l a = (lexL l b).map (fun p => (p.1 + a - b, p.2)) ∧ ∀ p, p ∈ lexL l b → b ≤ p.1 := by
  induction hn : l.length using Nat.strongRecOn generalizing l with
  | _ n ih =>
    subst hn
    intro a b
    cases l with
    | nil => simp [lexL_nil]
    | cons c r =>
      rw [lexL_cons c r a, lexL_cons c r b]
      split
      · obtain ⟨h1, h2⟩ := ih r.length (by simp) r rfl (a + 1) (b + 1)
        refine ⟨by rw [h1]; exact List.map_congr_left fun p hp => by have := h2 p hp; simp; omega, fun p hp => by have := h2 p hp; omega⟩
      · split
        · obtain ⟨h1, h2⟩ := ih (r.drop (comN r)).length (by simp; omega) _ rfl (a + 1 + comN r) (b + 1 + comN r)
          refine ⟨by rw [h1]; exact List.map_congr_left fun p hp => by have := h2 p hp; simp; omega, fun p hp => by have := h2 p hp; omega⟩
        · have hp := tokN_pos c r
          obtain ⟨h1, h2⟩ := ih ((c :: r).drop (tokN (c :: r))).length (by rw [List.length_drop, List.length_cons]; omega) _ rfl (a + tokN (c :: r)) (b + tokN (c :: r))
          constructor
          · rw [h1, List.map_cons]
            congr 1
            · simp
            · exact List.map_congr_left fun p hp => by have := h2 p hp; simp; omega
          · intro p hp
            rcases List.mem_cons.1 hp with rfl | hp
            · exact Nat.le_refl _
            · have := h2 p hp; omega
theorem lexL_tx (l : Tx) (a : Nat) : (lexL l a).map (·.2) = lexT l := by
  rw [lexT, (lexL_off l a 0).1, List.map_map]; rfl
theorem lexT_nil : lexT [] = [] := by rw [lexT, lexL_nil]; rfl
theorem lexT_cons (c : UInt8) (r : Tx) : lexT (c :: r) = if isB c then lexT r else if c = 35 then lexT (r.drop (comN r)) else (c :: r).take (tokN (c :: r)) :: lexT ((c :: r).drop (tokN (c :: r))) := by
  rw [lexT, lexL_cons]
  split
  · rw [lexL_tx]
  · split
    · rw [lexL_tx]
    · rw [List.map_cons, lexL_tx]
def nW : Tx → Bool
  | [] => true
  | c :: _ => !isW c
theorem tw_all {p : UInt8 → Bool} {a r : Tx} (ha : a.all p = true) (hr : (match r with | [] => true | c :: _ => !p c) = true) : (a ++ r).takeWhile p = a := by
  induction a with
  | nil =>
    cases r with
    | nil => rfl
    | cons c r => simp only [Bool.not_eq_true'] at hr; simp [hr]
  | cons x a ih =>
    simp only [List.all_cons, Bool.and_eq_true] at ha
    rw [List.cons_append, List.takeWhile_cons, if_pos ha.1, ih ha.2]
def wordOk : Tx → Bool
  | [] => false
  | c :: r => isL c && r.all isW
def numOk : Tx → Bool
  | [] => false
  | c :: r => isD c && r.all isD
theorem isL_nB {c : UInt8} (h : isL c = true) : isB c = false ∧ c ≠ 35 := by
  constructor
  · cases hb : isB c with
    | false => rfl
    | true =>
      simp only [isB, Bool.or_eq_true, decide_eq_true_eq] at hb
      rcases hb with ((rfl | rfl) | rfl) | rfl <;> exact absurd h (by decide)
  · rintro rfl; exact absurd h (by decide)
theorem isD_nB {c : UInt8} (h : isD c = true) : isB c = false ∧ c ≠ 35 ∧ isL c = false := by
  refine ⟨?_, ?_, ?_⟩
  · cases hb : isB c with
    | false => rfl
    | true =>
      simp only [isB, Bool.or_eq_true, decide_eq_true_eq] at hb
      rcases hb with ((rfl | rfl) | rfl) | rfl <;> exact absurd h (by decide)
  · rintro rfl; exact absurd h (by decide)
  · simp only [isD, digB, isL, letB, Bool.and_eq_true, decide_eq_true_eq] at h ⊢
    simp; omega
theorem lexT_word {t r : Tx} (ht : wordOk t = true) (hr : nW r = true) : lexT (t ++ r) = t :: lexT r := by
  cases t with
  | nil => cases ht
  | cons c t =>
    simp only [wordOk, Bool.and_eq_true] at ht
    obtain ⟨h1, h2⟩ := isL_nB ht.1
    have hn : tokN (c :: (t ++ r)) = t.length + 1 := by
      simp only [tokN, ht.1, if_true]
      rw [tw_all ht.2 hr]; omega
    rw [List.cons_append, lexT_cons, if_neg (by simp [h1]), if_neg h2, hn]
    simp
theorem lexT_num {t r : Tx} (ht : numOk t = true) (hr : nW r = true) : lexT (t ++ r) = t :: lexT r := by
  cases t with
  | nil => cases ht
  | cons c t =>
    simp only [numOk, Bool.and_eq_true] at ht
    obtain ⟨h1, h2, h3⟩ := isD_nB ht.1
    have hn : tokN (c :: (t ++ r)) = t.length + 1 := by
      simp only [tokN, ht.1, h3, if_true, Bool.false_eq_true, if_false]
      rw [tw_all ht.2 (by
        cases r with
        | nil => rfl
        | cons x r => simp only [nW, Bool.not_eq_true', isW, Bool.or_eq_false_iff] at hr; simp [hr.1.2])]; omega
    rw [List.cons_append, lexT_cons, if_neg (by simp [h1]), if_neg h2, hn]
    simp
theorem lexT_blank {c : UInt8} (h : isB c = true) (r : Tx) : lexT (c :: r) = lexT r := by rw [lexT_cons, if_pos h]
def isS (c : UInt8) : Bool := !(isB c) && !(isL c) && !(isD c) && !decide (c = 35)
theorem lexT_sym {c : UInt8} (h : isS c = true) (r : Tx) : lexT (c :: r) = [c] :: lexT r := by
  simp only [isS, Bool.and_eq_true, Bool.not_eq_true', decide_eq_false_iff_not] at h
  rw [lexT_cons, if_neg (by simp [h.1.1.1]), if_neg h.2]
  have : tokN (c :: r) = 1 := by simp [tokN, h.1.1.2, h.1.2]
  rw [this]; rfl
theorem nW_sym {c : UInt8} (h : isS c = true) (h2 : c ≠ 95) (r : Tx) : nW (c :: r) = true := by
  simp only [isS, Bool.and_eq_true, Bool.not_eq_true', decide_eq_false_iff_not] at h
  simp [nW, isW, h.1.1.2, h.1.2, h2]
theorem nW_blank {c : UInt8} (h : isB c = true) (r : Tx) : nW (c :: r) = true := by
  simp only [isB, Bool.or_eq_true, decide_eq_true_eq] at h
  rcases h with ((rfl | rfl) | rfl) | rfl <;> simp only [nW] <;> decide
theorem gn_word {s : ByteArray} (h : gnOk s = true) : wordOk (bl s) = true ∧ nmT (bl s) = true := by
  simp only [gnOk, Bool.and_eq_true, List.all_eq_true, List.mem_range, decide_eq_true_eq, Bool.not_eq_true'] at h
  obtain ⟨⟨⟨h1, _⟩, h2⟩, h3⟩ := h
  have hk : (kwT.any fun k => decide (bl s = k)) = false := by
    rw [kwT, List.any_map]
    rw [← h3]
    congr 1
    funext x
    simp only [Function.comp]
    rw [Bool.eq_iff_iff]
    simp only [decide_eq_true_eq]
    exact ⟨fun e => ba_ext e, fun e => by rw [e]⟩
  rw [← bl_len] at h1 h2
  have h2 : ∀ i, i < (bl s).length → ((isL ((bl s).getD i 0) || (!decide (i = 0) && (isD ((bl s).getD i 0) || decide (((bl s).getD i 0) = 95)))) = true) := by
    intro i hi
    have := h2 i hi
    simp only [gnCh, bAt_bl, Bool.or_eq_true, Bool.and_eq_true, decide_eq_true_eq] at this
    simp only [isL, isD, Bool.or_eq_true, Bool.and_eq_true, decide_eq_true_eq]
    rcases this with h | ⟨h0, h | h⟩
    · exact .inl h
    · exact .inr ⟨h0, .inl h⟩
    · exact .inr ⟨h0, .inr (UInt8.toNat_inj.1 (by have h2 : ((((bl s).getD i 0).toNat : Nat) : Int) = ((95 : UInt8).toNat : Int) := of_decide_eq_true h; omega))⟩
  obtain ⟨l, hl⟩ : ∃ l, bl s = l := ⟨_, rfl⟩
  rw [hl] at h1 h2 hk ⊢
  cases l with
  | nil => simp at h1
  | cons c r =>
    have h0 := h2 0 (by simp)
    simp only [decide_true, Bool.not_true, Bool.false_and, Bool.or_false, List.getD_cons_zero] at h0
    refine ⟨?_, by simp only [nmT, hk]; simpa using h0⟩
    simp only [wordOk, Bool.and_eq_true, List.all_eq_true]
    refine ⟨h0, fun x hx => ?_⟩
    obtain ⟨i, hi⟩ := List.getElem?_of_mem hx
    have := h2 (i + 1) (by simpa using (List.getElem?_eq_some_iff.1 hi).1)
    have hg : (c :: r).getD (i + 1) 0 = x := by simp [List.getD, hi]
    rw [hg] at this
    have hne : ¬ i + 1 = 0 := by omega
    simp only [hne, decide_false, Bool.not_false, Bool.true_and] at this
    simp only [isW, Bool.or_eq_true] at this ⊢
    rcases this with h | h | h
    · exact .inl (.inl h)
    · exact .inl (.inr h)
    · exact .inr h
theorem dec_num (u : Nat) : numOk (Lib.decDigits u) = true := by
  have key : ∀ k, k < 10 → isD (UInt8.ofNat (48 + k)) = true := by decide
  have hall : ∀ u, (Lib.decDigits u).all isD = true ∧ Lib.decDigits u ≠ [] := by
    intro u
    induction u using Nat.strongRecOn with
    | _ u ih =>
      rw [Lib.decDigits]
      split
      · rename_i h; exact ⟨by simp only [List.all_cons, List.all_nil, key u h, Bool.and_true], by simp⟩
      · rename_i h
        obtain ⟨h1, h2⟩ := ih (u / 10) (by omega)
        exact ⟨by simp only [List.all_append, h1, List.all_cons, List.all_nil, key (u % 10) (by omega), Bool.and_true], by simp⟩
  obtain ⟨h1, h2⟩ := hall u
  clear hall
  generalize Lib.decDigits u = l at *
  cases l with
  | nil => exact absurd rfl h2
  | cons c r => simpa [numOk] using h1
end Go.Lg

namespace Go.Lg
theorem pPrim_nm {t : Tx} {r : List Tx} (h : nmT t = true) : pPrim (t :: r) = .ok (.mk 1 (tx t) []) r := by rw [pPrim, if_pos h]
theorem nm40 : nmT [40] = false := by decide
theorem pPrim_grp {r q : List Tx} {es : List GEx} (h : pAlts r = .ok es ([41] :: q)) : pPrim ([40] :: r) = .ok (altOf es) q := by
  rw [pPrim, if_neg (by simp [nm40]), if_pos rfl, h]
  simp
def nI (l : List Tx) : Bool := !(isN l || decide (hd l = [40]))
def nS (l : List Tx) : Bool := !(decide (hd l = [42]) || decide (hd l = [43]) || decide (hd l = [63]))
theorem sufT_none {x : GEx} {l : List Tx} (h : nS l = true) : sufT x l = (x, l) := by
  cases l with
  | nil => rfl
  | cons t r =>
    simp only [nS, hd, List.headD_cons, Bool.not_eq_true', Bool.or_eq_false_iff] at h
    rw [sufT, if_neg (of_decide_eq_false h.1.1), if_neg (of_decide_eq_false h.1.2), if_neg (of_decide_eq_false h.2)]
theorem pItems_none {l : List Tx} (h : nI l = true) : pItems l = .ok [] l := by
  simp only [nI, Bool.not_eq_true'] at h
  rw [pItems, if_neg (by simp [h])]
structure Item (l : List Tx) (x : GEx) (r : List Tx) : Prop where
  starts : (isN l || decide (hd l = [40])) = true
  prim : ∃ y q, pPrim l = .ok y q ∧ sufT y q = (x, r)
  less : r.length < l.length
theorem Item.cons {l r q : List Tx} {x : GEx} {xs : List GEx} (h : Item l x r) (hx : pItems r = .ok xs q) : pItems l = .ok (x :: xs) q := by
  obtain ⟨y, q', h1, h2⟩ := h.prim
  have h3 : (sufT y q').2 = r := by rw [h2]
  rw [pItems, if_pos h.starts, h1]
  simp only
  rw [dif_pos (by rw [h3]; exact h.less)]
  simp only [h2, hx]
def encK (t : List Tx) (b : Bool) : List Tx := if b then [40] :: (t ++ [[41]]) else t
def sepK (k : Int) : List Tx := if k = 3 then [[124]] else []
def tailK (k : Int) (n : ByteArray) : List Tx := if k = 1 then [bl n] else if k = 4 then [[63]] else if k = 5 then [[42]] else if k = 6 then [[43]] else []
mutual
def tkE : GEx → List Tx
  | .mk k n l => tkL k false l ++ tailK k n
def tkL (k : Int) (more : Bool) : List GEx → List Tx
  | [] => []
  | e :: l => ((if more then sepK k else []) ++ encK (tkE e) (reqP k e)) ++ tkL k true l
end
theorem tkE_eq (e : GEx) : tkE e = tkL e.kind false e.kids ++ tailK e.kind e.name := by cases e; rw [tkE]; rfl
theorem lexT_enc {t : Tx} {k : List Tx} (h : ∀ r : Tx, nW r = true → lexT (t ++ r) = k ++ lexT r) (b : Bool) {r : Tx} (hr : nW r = true) : lexT (encT t b ++ r) = encK k b ++ lexT r := by
  cases b with
  | false => exact h r hr
  | true =>
    simp only [encT, encK, if_true, List.append_assoc, List.cons_append, List.nil_append]
    rw [lexT_sym (by decide), h _ (nW_sym (c := 41) (by decide) (by decide) r), lexT_sym (by decide)]
theorem nW_sep {k : Int} (h : k = 2 ∨ k = 3) (r : Tx) : nW (sepT k ++ r) = true := by
  rcases h with rfl | rfl
  · exact nW_blank (c := 32) (by decide) _
  · exact nW_blank (c := 32) (by decide) _
theorem lexT_sep (k : Int) (r : Tx) : lexT (sepT k ++ r) = sepK k ++ lexT r := by
  unfold sepT sepK
  split
  · rename_i h; subst h
    rw [if_neg (by decide)]
    exact lexT_blank (c := 32) (by decide) r
  · split
    · simp only [List.cons_append, List.nil_append]
      rw [lexT_blank (c := 32) (by decide), lexT_sym (c := 124) (by decide), lexT_blank (c := 32) (by decide)]
    · rfl
theorem nW_kids {k : Int} (hk : k = 2 ∨ k = 3) (l : List GEx) {r : Tx} (hr : nW r = true) : nW (kidsT k true l ++ r) = true := by
  cases l with
  | nil => rw [kidsT]; exact hr
  | cons e l => rw [kidsT, if_pos rfl, List.append_assoc, List.append_assoc]; exact nW_sep hk _
theorem lexT_kids {k : Int} (hk : k = 2 ∨ k = 3) : ∀ (l : List GEx) (m : Bool), (∀ x, x ∈ l → ∀ r : Tx, nW r = true → lexT (exT x ++ r) = tkE x ++ lexT r) → ∀ r : Tx, nW r = true → lexT (kidsT k m l ++ r) = tkL k m l ++ lexT r
  | [], m, _, r, _ => by rw [kidsT, tkL]; rfl
  | e :: l, m, h, r, hr => by
    rw [kidsT, tkL]
    have ih := lexT_kids hk l true (fun x hx => h x (by simp [hx])) r hr
    have he := lexT_enc (h e (by simp)) (reqP k e) (nW_kids hk l hr)
    rw [List.append_assoc, List.append_assoc]
    cases m with
    | false => simp only [Bool.false_eq_true, if_false, List.nil_append]; rw [he, ih, List.append_assoc]
    | true => simp only [if_true]; rw [lexT_sep, he, ih]; simp only [List.append_assoc]
theorem lexT_ex (e : GEx) : ∀ d : Int, okE e d = true → ∀ r : Tx, nW r = true → lexT (exT e ++ r) = tkE e ++ lexT r := by
  induction e using GEx.ind with
  | h e ih =>
    intro d hd r hr
    obtain ⟨h1, h2⟩ := okE_iff hd
    rw [exT_eq, tkE_eq]
    have hkids : ∀ x, x ∈ e.kids → ∀ r : Tx, nW r = true → lexT (exT x ++ r) = tkE x ++ lexT r := fun x hx => ih x hx _ (h2 x hx)
    by_cases hk : e.kind = 2 ∨ e.kind = 3
    · have t1 : tailT e.kind e.name = [] := by rcases hk with h | h <;> simp [tailT, h]
      have t2 : tailK e.kind e.name = [] := by rcases hk with h | h <;> simp [tailK, h]
      rw [t1, t2, List.append_nil, List.append_nil]
      exact lexT_kids hk _ _ hkids r hr
    · by_cases hk1 : e.kind = 1
      · rw [hk1] at h1
        simp only [okK, decide_true, Bool.true_and, Bool.not_true, Bool.false_and, Bool.or_false, Bool.and_eq_true, decide_eq_true_eq] at h1
        have h0 : e.kids = [] := List.eq_nil_of_length_eq_zero h1.2
        rw [h0, hk1, kidsT, tkL]
        simp only [tailT, tailK, if_true, List.nil_append]
        exact lexT_word (gn_word h1.1).1 hr
      · simp only [okK, hk1, decide_false, Bool.false_and, Bool.not_false, Bool.true_and, Bool.false_or, Bool.and_eq_true, Bool.or_eq_true, decide_eq_true_eq, Bool.not_eq_true', decide_eq_false_iff_not] at h1
        have h3 : e.kids.length = 1 ∧ (e.kind = 4 ∨ e.kind = 5 ∨ e.kind = 6) := by omega
        obtain ⟨x, hx⟩ := List.length_eq_one_iff.1 h3.1
        rw [hx] at hkids ⊢
        rw [kidsT, kidsT, tkL, tkL]
        simp only [Bool.false_eq_true, if_false, List.nil_append, List.append_nil, List.append_assoc]
        have hs : ∀ c : UInt8, isS c = true → c ≠ 95 → lexT (encT (exT x) (reqP e.kind x) ++ ([c] ++ r)) = encK (tkE x) (reqP e.kind x) ++ ([[c]] ++ lexT r) := fun c h1 h2 => by
          rw [show ([c] ++ r : Tx) = c :: r from rfl, lexT_enc (hkids x (by simp)) _ (nW_sym h1 h2 r), lexT_sym h1]; rfl
        rcases h3.2 with hk | hk | hk
        · rw [show tailT e.kind e.name = [63] by simp [tailT, hk], show tailK e.kind e.name = [[63]] by simp [tailK, hk]]; exact hs 63 (by decide) (by decide)
        · rw [show tailT e.kind e.name = [42] by simp [tailT, hk], show tailK e.kind e.name = [[42]] by simp [tailK, hk]]; exact hs 42 (by decide) (by decide)
        · rw [show tailT e.kind e.name = [43] by simp [tailT, hk], show tailK e.kind e.name = [[43]] by simp [tailK, hk]]; exact hs 43 (by decide) (by decide)
theorem nI_41 (r : List Tx) : nI ([41] :: r) = true := by simp [nI, isN, hd]; decide
theorem nI_124 (r : List Tx) : nI ([124] :: r) = true := by simp [nI, isN, hd]; decide
theorem nS_41 (r : List Tx) : nS ([41] :: r) = true := by simp [nS, hd]
theorem nS_124 (r : List Tx) : nS ([124] :: r) = true := by simp [nS, hd]
theorem isN_nS {l : List Tx} (h : (isN l || decide (hd l = [40])) = true) : nS l = true := by
  cases l with
  | nil => rfl
  | cons t r =>
    simp only [nS, hd, List.headD_cons, isN, Bool.or_eq_true, Bool.not_eq_true', Bool.or_eq_false_iff] at h ⊢
    rcases h with h | h
    · refine ⟨⟨?_, ?_⟩, ?_⟩ <;> refine decide_eq_false ?_ <;> rintro rfl <;> exact absurd h (by decide)
    · rw [of_decide_eq_true h]; exact ⟨⟨rfl, rfl⟩, rfl⟩
theorem pAlts_of {l q : List Tx} {xs : List GEx} (h : pItems l = .ok xs q) (hq : hd q ≠ [124]) : pAlts l = .ok [seqOf xs] q := by
  rw [pAlts, h]
  cases q with
  | nil => rfl
  | cons t q => have hq' : ¬ t = [124] := hq; simp only; rw [if_neg hq']
theorem pAlts_bar {l q q' : List Tx} {xs : List GEx} {es : List GEx} (h : pItems l = .ok xs ([124] :: q)) (hl : q.length < l.length) (h2 : pAlts q = .ok es q') : pAlts l = .ok (seqOf xs :: es) q' := by
  rw [pAlts, h]
  simp only [if_true, dif_pos hl, h2]
structure Reads (e : GEx) : Prop where
  items : e.kind ≠ 3 → ∀ r, nI r = true → nS r = true → ∃ xs, pItems (tkE e ++ r) = .ok xs r ∧ seqOf xs = e
  alts : ∀ r, nI r = true → nS r = true → hd r ≠ [124] → ∃ es, pAlts (tkE e ++ r) = .ok es r ∧ altOf es = e
  start : ∀ b : Bool, (b = true ∨ (e.kind ≠ 2 ∧ e.kind ≠ 3)) → ∀ r, (isN (encK (tkE e) b ++ r) || decide (hd (encK (tkE e) b ++ r) = [40])) = true
  prim : ∀ b : Bool, (b = true ∨ e.kind = 1) → ∀ q, pPrim (encK (tkE e) b ++ q) = .ok e q
  item : ∀ b : Bool, (b = true ∨ (e.kind ≠ 2 ∧ e.kind ≠ 3)) → ∀ r, nS r = true → Item (encK (tkE e) b ++ r) e r
theorem req2 (x : GEx) : reqP 2 x = true ∨ (x.kind ≠ 2 ∧ x.kind ≠ 3) := by
  by_cases h2 : x.kind = 2
  · exact .inl (by simp [reqP, h2])
  · by_cases h3 : x.kind = 3
    · exact .inl (by simp [reqP, h3])
    · exact .inr ⟨h2, h3⟩
theorem reads (e : GEx) : ∀ d : Int, okE e d = true → Reads e := by
  induction e using GEx.ind with
  | h e ih =>
    intro d hd'
    obtain ⟨h1, h2⟩ := okE_iff hd'
    have hr : ∀ x, x ∈ e.kids → Reads x := fun x hx => ih x hx _ (h2 x hx)
    have grpP : (∀ r, nI r = true → nS r = true → hd r ≠ [124] → ∃ es, pAlts (tkE e ++ r) = .ok es r ∧ altOf es = e) → ∀ r, pPrim (encK (tkE e) true ++ r) = .ok e r := fun ha r => by
      obtain ⟨es, g1, g2⟩ := ha ([41] :: r) (nI_41 r) (nS_41 r) (by simp [hd])
      have e0 : encK (tkE e) true ++ r = [40] :: (tkE e ++ [41] :: r) := by simp [encK]
      rw [e0, pPrim_grp g1, g2]
    have grp : (∀ r, nI r = true → nS r = true → hd r ≠ [124] → ∃ es, pAlts (tkE e ++ r) = .ok es r ∧ altOf es = e) → ∀ r, nS r = true → Item (encK (tkE e) true ++ r) e r := fun ha r hs =>
      ⟨by simp [encK, hd], ⟨e, r, grpP ha r, sufT_none hs⟩, by simp [encK]; omega⟩
    have seq : ∀ (l : List GEx) (m : Bool), (∀ x, x ∈ l → Reads x) → ∀ r, nI r = true → nS r = true → pItems (tkL 2 m l ++ r) = .ok l r := by
      intro l
      induction l with
      | nil => intro m _ r h1 _; rw [tkL]; exact pItems_none h1
      | cons x l ihl =>
        intro m hx r hI hS
        have e0 : tkL 2 m (x :: l) ++ r = encK (tkE x) (reqP 2 x) ++ (tkL 2 true l ++ r) := by
          rw [tkL]; cases m <;> simp [sepK]
        rw [e0]
        have hreq := req2 x
        have hrest := ihl true (fun y hy => hx y (by simp [hy])) r hI hS
        refine Item.cons ((hx x (by simp)).item _ hreq _ ?_) hrest
        cases l with
        | nil => rw [tkL]; exact hS
        | cons y l =>
          have e1 : tkL 2 true (y :: l) ++ r = encK (tkE y) (reqP 2 y) ++ (tkL 2 true l ++ r) := by
            rw [tkL]; simp [sepK]
          rw [e1]
          exact isN_nS ((hx y (by simp)).start (reqP 2 y) (req2 y) _)
    have alt : ∀ (l : List GEx) (m : Bool), l ≠ [] → (∀ x, x ∈ l → Reads x) → ∀ r, nI r = true → nS r = true → hd r ≠ [124] → pAlts (tkL 3 false l ++ r) = .ok l r := by
      intro l
      induction l with
      | nil => intro m h; exact absurd rfl h
      | cons x l ihl =>
        intro m _ hx r hI hS hB
        have one : ∀ q, nI q = true → nS q = true → ∃ xs, pItems (encK (tkE x) (reqP 3 x) ++ q) = .ok xs q ∧ seqOf xs = x := by
          intro q hI hS
          cases hb : reqP 3 x with
          | true =>
            refine ⟨[x], Item.cons ((hx x (by simp)).item true (.inl rfl) q hS) (pItems_none hI), rfl⟩
          | false =>
            have h3 : x.kind ≠ 3 := by rintro h; simp [reqP, h] at hb
            exact (hx x (by simp)).items h3 q hI hS
        cases l with
        | nil =>
          have e0 : tkL 3 false [x] ++ r = encK (tkE x) (reqP 3 x) ++ r := by rw [tkL, tkL]; simp
          rw [e0]
          obtain ⟨xs, g1, g2⟩ := one r hI hS
          rw [pAlts_of g1 hB, g2]
        | cons y l =>
          have e0 : tkL 3 false (x :: y :: l) ++ r = encK (tkE x) (reqP 3 x) ++ ([124] :: (tkL 3 false (y :: l) ++ r)) := by
            rw [tkL, tkL, tkL]; simp [sepK]
          rw [e0]
          obtain ⟨xs, g1, g2⟩ := one _ (nI_124 (tkL 3 false (y :: l) ++ r)) (nS_124 _)
          rw [pAlts_bar g1 (by simp; omega) (ihl m (by simp) (fun z hz => hx z (by simp [hz])) r hI hS hB), g2]
    by_cases hk2 : e.kind = 2
    · have e0 : tkE e = tkL 2 false e.kids := by rw [tkE_eq, hk2]; simp [tailK]
      have hs : seqOf e.kids = e := by
        have hne : e.kids.length ≠ 1 := by
          rw [hk2] at h1; simp [okK] at h1; exact h1.2
        have hnm : e.name = ⟨#[]⟩ := by rw [hk2] at h1; simp [okK] at h1; exact h1.1
        have : seqOf e.kids = .mk 2 ⟨#[]⟩ e.kids := by
          unfold seqOf; split
          · rename_i x hx; rw [hx] at hne; exact absurd rfl hne
          · rfl
        rw [this]; exact GEx.ext' hk2.symm hnm.symm rfl
      have hi : ∀ r, nI r = true → nS r = true → ∃ xs, pItems (tkE e ++ r) = .ok xs r ∧ seqOf xs = e := fun r a b => ⟨_, by rw [e0]; exact seq _ _ hr r a b, hs⟩
      have ha : ∀ r, nI r = true → nS r = true → hd r ≠ [124] → ∃ es, pAlts (tkE e ++ r) = .ok es r ∧ altOf es = e := fun r a b c => by
        obtain ⟨xs, g1, g2⟩ := hi r a b
        exact ⟨_, pAlts_of g1 c, g2⟩
      refine ⟨fun _ => hi, ha, fun b hb r => ?_, fun b hb q => ?_, fun b hb r hS => ?_⟩
      · rcases hb with rfl | hb
        · simp [encK, hd]
        · exact absurd hk2 hb.1
      · rcases hb with rfl | hb
        · exact grpP ha q
        · omega
      · rcases hb with rfl | hb
        · exact grp ha r hS
        · exact absurd hk2 hb.1
    · by_cases hk3 : e.kind = 3
      · have e0 : tkE e = tkL 3 false e.kids := by rw [tkE_eq, hk3]; simp [tailK]
        have hl2 : 2 ≤ e.kids.length := by rw [hk3] at h1; simp [okK] at h1; exact h1.2
        have hnm : e.name = ⟨#[]⟩ := by rw [hk3] at h1; simp [okK] at h1; exact h1.1
        have hs : altOf e.kids = e := by
          have : altOf e.kids = .mk 3 ⟨#[]⟩ e.kids := by
            unfold altOf; split
            · rename_i x hx; rw [hx] at hl2; simp at hl2
            · rfl
          rw [this]; exact GEx.ext' hk3.symm hnm.symm rfl
        have ha : ∀ r, nI r = true → nS r = true → hd r ≠ [124] → ∃ es, pAlts (tkE e ++ r) = .ok es r ∧ altOf es = e := fun r a b c =>
          ⟨_, by rw [e0]; exact alt _ false (by rintro h; rw [h] at hl2; simp at hl2) hr r a b c, hs⟩
        refine ⟨fun h => absurd hk3 h, ha, fun b hb r => ?_, fun b hb q => ?_, fun b hb r hS => ?_⟩
        · rcases hb with rfl | hb
          · simp [encK, hd]
          · exact absurd hk3 hb.2
        · rcases hb with rfl | hb
          · exact grpP ha q
          · omega
        · rcases hb with rfl | hb
          · exact grp ha r hS
          · exact absurd hk3 hb.2
      · -- one item
        have hst : ∀ r, (isN (tkE e ++ r) || decide (hd (tkE e ++ r) = [40])) = true := by
          intro r
          by_cases hk1 : e.kind = 1
          · rw [hk1] at h1
            simp only [okK, decide_true, Bool.true_and, Bool.not_true, Bool.false_and, Bool.or_false, Bool.and_eq_true, decide_eq_true_eq] at h1
            have h0 : e.kids = [] := List.eq_nil_of_length_eq_zero h1.2
            rw [tkE_eq, h0, hk1, tkL]
            simp [tailK, isN, (gn_word h1.1).2]
          · obtain ⟨x, hx⟩ : ∃ x, e.kids = [x] := by
              simp only [okK, hk1, hk2, hk3, decide_false, Bool.false_and, Bool.not_false, Bool.true_and, Bool.false_or, Bool.and_eq_true, Bool.or_eq_true, decide_eq_true_eq] at h1
              exact List.length_eq_one_iff.1 (by omega)
            rw [tkE_eq, hx, tkL, tkL]
            simp only [Bool.false_eq_true, if_false, List.nil_append, List.append_nil, List.append_assoc]
            refine (hr x (by simp [hx])).start _ ?_ _
            by_cases hx1 : x.kind = 1
            · exact .inr ⟨by omega, by omega⟩
            · exact .inl (by simp [reqP, hk2, hk3, hx1])
        have hpr1 : e.kind = 1 → ∀ q, pPrim (tkE e ++ q) = .ok e q ∧ (tkE e).length = 1 := by
          intro hk1 q
          rw [hk1] at h1
          simp only [okK, decide_true, Bool.true_and, Bool.not_true, Bool.false_and, Bool.or_false, Bool.and_eq_true, decide_eq_true_eq] at h1
          have h0 : e.kids = [] := List.eq_nil_of_length_eq_zero h1.2
          have e0 : tkE e = [bl e.name] := by rw [tkE_eq, h0, hk1, tkL]; simp [tailK]
          refine ⟨?_, by rw [e0]; rfl⟩
          rw [e0, List.singleton_append, pPrim_nm (gn_word h1.1).2, tx_bl]
          congr 1
          exact GEx.ext' hk1.symm rfl h0.symm
        have hit : ∀ r, nS r = true → Item (tkE e ++ r) e r := by
          intro r hS
          by_cases hk1 : e.kind = 1
          · obtain ⟨g1, g2⟩ := hpr1 hk1 r
            exact ⟨hst r, ⟨e, r, g1, sufT_none hS⟩, by rw [List.length_append, g2]; omega⟩
          · obtain ⟨x, hx, hk⟩ : ∃ x, e.kids = [x] ∧ (e.kind = 4 ∨ e.kind = 5 ∨ e.kind = 6) := by
              simp only [okK, hk1, hk2, hk3, decide_false, Bool.false_and, Bool.not_false, Bool.true_and, Bool.false_or, Bool.and_eq_true, Bool.or_eq_true, decide_eq_true_eq] at h1
              obtain ⟨x, hx⟩ := List.length_eq_one_iff.1 (show e.kids.length = 1 by omega)
              exact ⟨x, hx, by omega⟩
            have hnm : e.name = ⟨#[]⟩ := by
              simp only [okK, hk1, decide_false, Bool.false_and, Bool.not_false, Bool.true_and, Bool.false_or, Bool.and_eq_true, decide_eq_true_eq] at h1
              exact h1.1
            have hreq : reqP e.kind x = true ∨ x.kind = 1 := by
              by_cases hx1 : x.kind = 1
              · exact .inr hx1
              · exact .inl (by simp [reqP, hk2, hk3, hx1])
            have he : e = .mk e.kind ⟨#[]⟩ [x] := GEx.ext' rfl hnm hx
            have key : ∀ c : Tx, tailK e.kind e.name = [c] → (∀ y q, sufT y (c :: q) = sufT (.mk e.kind ⟨#[]⟩ [y]) q) → Item (tkE e ++ r) e r := by
              intro c hc hsuf
              have e0 : tkE e ++ r = encK (tkE x) (reqP e.kind x) ++ (c :: r) := by
                rw [tkE_eq, hx, tkL, tkL, hc]; simp
              refine ⟨hst r, ⟨x, c :: r, ?_, ?_⟩, by rw [e0]; simp; omega⟩
              · rw [e0]; exact (hr x (by simp [hx])).prim _ hreq _
              · rw [hsuf, sufT_none hS, ← he]
            rcases hk with hk | hk | hk
            · refine key [63] (by simp [tailK, hk]) fun y q => ?_
              rw [sufT, if_neg (by decide), if_neg (by decide), if_pos rfl, hk]
            · refine key [42] (by simp [tailK, hk]) fun y q => ?_
              rw [sufT, if_pos rfl, hk]
            · refine key [43] (by simp [tailK, hk]) fun y q => ?_
              rw [sufT, if_neg (by decide), if_pos rfl, hk]
        have hi : ∀ r, nI r = true → nS r = true → ∃ xs, pItems (tkE e ++ r) = .ok xs r ∧ seqOf xs = e := fun r a b => ⟨_, Item.cons (hit r b) (pItems_none a), rfl⟩
        have ha : ∀ r, nI r = true → nS r = true → hd r ≠ [124] → ∃ es, pAlts (tkE e ++ r) = .ok es r ∧ altOf es = e := fun r a b c => by
          obtain ⟨xs, g1, g2⟩ := hi r a b
          exact ⟨_, pAlts_of g1 c, g2⟩
        refine ⟨fun _ => hi, ha, fun b hb r => ?_, fun b hb q => ?_, fun b hb r hS => ?_⟩
        · cases b with
          | true => simp [encK, hd]
          | false => exact hst r
        · cases b with
          | true => exact grpP ha q
          | false =>
            rcases hb with hb | hb
            · cases hb
            · exact (hpr1 hb q).1
        · cases b with
          | true => exact grp ha r hS
          | false => exact hit r hS
end Go.Lg

namespace Go.Lg
def tkLv (l : GLe) : List Tx := bl (wordT l.assoc) :: (l.tokens.map bl ++ [[59]])
def prK (p : Int) : List Tx := if p = 0 then [] else [bl kw4, Lib.itoa p]
def tkAl (a : GAl) : List Tx := encK (tkE a.body) (decide (a.body.kind = 3)) ++ prK a.price
def tkAs (m : Bool) : List GAl → List Tx
  | [] => []
  | a :: l => (if m then [[124]] else []) ++ (tkAl a ++ tkAs true l)
def tkRu (r : GRu) : List Tx := bl r.name :: [61] :: (tkAs false r.alts ++ [[59]])
def tkF (f : GFi) : List Tx := bl kw0 :: bl f.start :: [59] :: ((f.levels.map tkLv).flatten ++ (f.rules.map tkRu).flatten)
def altsS (m : Bool) : List GAl → Tx
  | [] => []
  | a :: l => (if m then [32, 124] else []) ++ (altT a ++ altsS true l)
theorem altsS_snoc (a : GAl) : ∀ (m : Bool) (l : List GAl), altsS m (l ++ [a]) = altsS m l ++ ((if m || !l.isEmpty then [32, 124] else []) ++ altT a)
  | m, [] => by cases m <;> simp [altsS]
  | m, x :: l => by
    rw [List.cons_append, altsS, altsS_snoc a true l, altsS]
    simp only [Bool.true_or, List.isEmpty_cons, Bool.not_false, Bool.or_true, if_true, List.append_assoc]
theorem altsT_S (l : List GAl) : ∀ k, k ≤ l.length → altsT l k = altsS false (l.take k)
  | 0, _ => by simp [altsT, altsS]
  | k + 1, hk => by
    rw [altsT, altsT_S l k (by omega), take_succ_nth (by omega), altsS_snoc]
    cases k with
    | zero => simp
    | succ k => cases l with
      | nil => simp at hk
      | cons x l => simp
theorem lexT_bod {a : GAl} (h : altOk a = true) {r : Tx} (hr : nW r = true) : lexT (bodT a.body ++ r) = encK (tkE a.body) (decide (a.body.kind = 3)) ++ lexT r := by
  have hE := (altOk_iff.1 h).2
  unfold bodT
  split
  · rw [List.append_assoc, List.singleton_append, lexT_blank (by decide), lexT_enc (fun q hq => lexT_ex _ _ hE q hq) _ hr]
  · rename_i hn
    have hk : a.body.kind = 2 ∧ a.body.kids = [] := by
      refine ⟨by omega, List.eq_nil_of_length_eq_zero (by omega)⟩
    have : tkE a.body = [] := by rw [tkE_eq, hk.1, hk.2, tkL]; simp [tailK]
    simp [hk.1, encK, this]
theorem lexT_pr {p : Int} (h0 : 0 ≤ p) {r : Tx} (hr : nW r = true) : lexT (prT p ++ r) = prK p ++ lexT r := by
  unfold prT prK
  split
  · rfl
  · obtain ⟨n, rfl⟩ := Int.eq_ofNat_of_zero_le h0
    have e0 : (wPrice ++ Lib.itoa (n : Int)) ++ r = 32 :: (bl kw4 ++ (32 :: (Lib.itoa (n : Int) ++ r))) := by
      simp [wPrice, bl, kw4]
    rw [e0, lexT_blank (by decide), lexT_word (by decide) (nW_blank (c := 32) (by decide) _), lexT_blank (by decide), Lib.itoa_nonneg, lexT_num (dec_num n) hr]
    rfl
theorem nW_pr {p : Int} {r : Tx} (hr : nW r = true) : nW (prT p ++ r) = true := by
  unfold prT; split
  · exact hr
  · exact nW_blank (c := 32) (by decide) _
theorem lexT_alt {a : GAl} (h : altOk a = true) {r : Tx} (hr : nW r = true) : lexT (altT a ++ r) = tkAl a ++ lexT r := by
  rw [altT, List.append_assoc, lexT_bod h (nW_pr hr), lexT_pr (altOk_iff.1 h).1.1 hr, tkAl, List.append_assoc]
theorem nW_alts {l : List GAl} {r : Tx} (hr : nW r = true) : nW (altsS true l ++ r) = true := by
  cases l with
  | nil => exact hr
  | cons a l => rw [altsS]; exact nW_blank (c := 32) (by decide) _
theorem lexT_alts : ∀ (l : List GAl) (m : Bool), (∀ a, a ∈ l → altOk a = true) → ∀ r : Tx, nW r = true → lexT (altsS m l ++ r) = tkAs m l ++ lexT r
  | [], m, _, r, _ => rfl
  | a :: l, m, h, r, hr => by
    have ih := lexT_alts l true (fun x hx => h x (by simp [hx])) r hr
    have h1 := lexT_alt (h a (by simp)) (nW_alts (l := l) hr)
    rw [altsS, tkAs]
    cases m with
    | false => simp only [Bool.false_eq_true, if_false, List.nil_append, List.append_assoc]; rw [h1, ih]
    | true =>
      simp only [if_true, List.append_assoc, List.cons_append, List.nil_append]
      rw [lexT_blank (by decide), lexT_sym (c := 124) (by decide), h1, ih]
theorem lexT_end (r : Tx) : lexT (endT ++ r) = [59] :: lexT r := by
  show lexT (59 :: 10 :: r) = _
  rw [lexT_sym (by decide), lexT_blank (by decide)]
theorem nW_end (r : Tx) : nW (endT ++ r) = true := nW_sym (c := 59) (by decide) (by decide) _
theorem lexT_ru {r : GRu} (hn : gnOk r.name = true) (ha : ∀ a, a ∈ r.alts → altOk a = true) (q : Tx) : lexT (ruT r ++ q) = tkRu r ++ lexT q := by
  rw [ruT, altsT_S _ _ (Nat.le_refl _), List.take_of_length_le (Nat.le_refl _)]
  have e0 : (bl r.name ++ [32, 61]) ++ (altsS false r.alts ++ endT) ++ q = bl r.name ++ (32 :: 61 :: (altsS false r.alts ++ (endT ++ q))) := by simp
  have h61 : nW (61 :: (altsS false r.alts ++ (endT ++ q))) = true := nW_sym (by decide) (by decide) _
  rw [e0, lexT_word (gn_word hn).1 (nW_blank (c := 32) (by decide) _), lexT_blank (by decide), lexT_sym (c := 61) (by decide), lexT_alts _ _ ha _ (nW_end q), lexT_end, tkRu]
  simp
theorem lexT_names : ∀ (l : List ByteArray), (∀ x, x ∈ l → gnOk x = true) → ∀ r : Tx, nW r = true → lexT (spaced l ++ r) = l.map bl ++ lexT r
  | [], _, r, _ => rfl
  | x :: l, h, r, hr => by
    have ih := lexT_names l (fun y hy => h y (by simp [hy])) r hr
    have e0 : spaced (x :: l) ++ r = 32 :: (bl x ++ (spaced l ++ r)) := by simp [spaced]
    have hw : nW (spaced l ++ r) = true := by
      cases l with
      | nil => exact hr
      | cons y l => exact nW_blank (c := 32) (by decide) _
    rw [e0, lexT_blank (by decide), lexT_word (gn_word (h x (by simp))).1 hw, ih]
    rfl
theorem word_ok (a : Int) : wordOk (bl (wordT a)) = true := by
  unfold wordT; split; · decide
  split <;> decide
theorem lexT_lv {l : GLe} (hne : l.tokens ≠ []) (ht : ∀ x, x ∈ l.tokens → gnOk x = true) (q : Tx) : lexT (lvT l ++ q) = tkLv l ++ lexT q := by
  rw [lvT_eq hne]
  simp only [List.append_assoc]
  have hw : nW (spaced l.tokens ++ (endT ++ q)) = true := by
    cases hl : l.tokens with
    | nil => exact nW_end q
    | cons y l => exact nW_blank (c := 32) (by decide) _
  rw [lexT_word (word_ok _) hw, lexT_names _ ht _ (nW_end q), lexT_end, tkLv]
  simp
end Go.Lg

namespace Go.Lg
theorem numV_snoc (l : Tx) (c : UInt8) : numV (l ++ [c]) = min (10 * numV l + ((c.toNat : Int) - 48)) 1001 := by simp [numV, List.foldl_append]
theorem numV_dec (u : Nat) : u ≤ 1000 → numV (Lib.decDigits u) = u := by
  induction u using Nat.strongRecOn with
  | _ u ih =>
    intro hu
    have key : ∀ k, k < 10 → ((UInt8.ofNat (48 + k)).toNat : Int) - 48 = k := by decide
    rw [Lib.decDigits]
    split
    · rename_i h
      have := key u h
      have e : numV [UInt8.ofNat (48 + u)] = min (10 * 0 + (((UInt8.ofNat (48 + u)).toNat : Int) - 48)) 1001 := rfl
      rw [e, this]; omega
    · rw [numV_snoc, ih (u / 10) (by omega) (by omega), key (u % 10) (by omega)]
      omega
theorem isNum_of {t : Tx} (h : numOk t = true) : isNum t = true := by
  cases t with
  | nil => cases h
  | cons c r => simp only [numOk, Bool.and_eq_true] at h; exact h.1
def Sep (q : List Tx) : Prop := hd q = [124] ∨ hd q = [59]
theorem Sep.nI {q : List Tx} (h : Sep q) : nI q = true := by
  cases q with
  | nil => rfl
  | cons t q =>
    have h : t = [124] ∨ t = [59] := h
    rcases h with rfl | rfl
    · exact nI_124 q
    · simp [Lg.nI, isN, hd]; decide
theorem Sep.nS {q : List Tx} (h : Sep q) : nS q = true := by
  cases q with
  | nil => rfl
  | cons t q =>
    have h : t = [124] ∨ t = [59] := h
    rcases h with rfl | rfl
    · exact nS_124 q
    · simp [Lg.nS, hd]
theorem pPrice_read {p : Int} (h0 : 0 ≤ p) (h1 : p ≤ 1000) {q : List Tx} (hq : Sep q) : pPrice (prK p ++ q) = .ok p q := by
  unfold prK
  split
  · rename_i hp
    subst hp
    cases q with
    | nil => rfl
    | cons t q =>
      have h : t = [124] ∨ t = [59] := hq
      have hne : ¬ t = bl kw4 := by rcases h with rfl | rfl <;> decide
      simp only [List.nil_append, pPrice, if_neg hne]
  · obtain ⟨n, rfl⟩ := Int.eq_ofNat_of_zero_le h0
    have h2 := isNum_of (dec_num n)
    simp only [List.cons_append, List.nil_append, pPrice, if_true, Lib.itoa_nonneg, h2, numV_dec n (by omega)]
theorem prK_nI {p : Int} {q : List Tx} (hq : Sep q) : nI (prK p ++ q) = true ∧ nS (prK p ++ q) = true := by
  unfold prK
  split
  · exact ⟨hq.nI, hq.nS⟩
  · simp only [List.cons_append, nI, nS, isN, hd, List.headD_cons]; exact ⟨rfl, rfl⟩
theorem pAlt_read {a : GAl} (h : altOk a = true) {q : List Tx} (hq : Sep q) : pAlt (tkAl a ++ q) = .ok a q := by
  obtain ⟨⟨hp0, hp1⟩, hE⟩ := altOk_iff.1 h
  have hR := reads _ _ hE
  obtain ⟨h1, h2⟩ := prK_nI (p := a.price) hq
  have hb : ∃ xs, pItems (tkAl a ++ q) = .ok xs (prK a.price ++ q) ∧ seqOf xs = a.body := by
    rw [tkAl, List.append_assoc]
    by_cases h3 : a.body.kind = 3
    · simp only [h3, decide_true]
      exact ⟨_, Item.cons (hR.item true (.inl rfl) _ h2) (pItems_none h1), rfl⟩
    · simp only [h3, decide_false, encK]
      exact hR.items h3 _ h1 h2
  obtain ⟨xs, g1, g2⟩ := hb
  simp only [pAlt, g1, pPrice_read hp0 hp1 hq, g2]
theorem pAltsR_read : ∀ (l : List GAl), l ≠ [] → (∀ a, a ∈ l → altOk a = true) → ∀ q : List Tx, hd q = [59] → pAltsR (tkAs false l ++ q) = .ok l q
  | [], h, _, _, _ => absurd rfl h
  | [a], _, h, q, hq => by
    have e0 : tkAs false [a] ++ q = tkAl a ++ q := by simp [tkAs]
    rw [e0, pAltsR, pAlt_read (h a (by simp)) (.inr hq)]
    cases q with
    | nil => rfl
    | cons t q =>
      have hq : t = [59] := hq
      simp only; rw [if_neg (by rw [hq]; decide)]
  | a :: b :: l, _, h, q, hq => by
    have ih := pAltsR_read (b :: l) (by simp) (fun x hx => h x (by simp [hx])) q hq
    have e0 : tkAs false (a :: b :: l) ++ q = tkAl a ++ ([124] :: (tkAs false (b :: l) ++ q)) := by simp [tkAs]
    rw [e0, pAltsR, pAlt_read (h a (by simp)) (.inl rfl)]
    simp only [if_true]
    rw [dif_pos (by simp; omega), ih]
theorem pName_read {s : ByteArray} (h : gnOk s = true) (q : List Tx) : pName (bl s :: q) = .ok s q := by
  simp only [pName, (gn_word h).2, if_true, tx_bl]
theorem pNames_read : ∀ (l : List ByteArray), (∀ x, x ∈ l → gnOk x = true) → ∀ q : List Tx, isN q = false → pNames (l.map bl ++ q) = (l, q)
  | [], _, q, hq => by
    cases q with
    | nil => rfl
    | cons t q => simp only [isN] at hq; simp [pNames, hq]
  | x :: l, h, q, hq => by
    have ih := pNames_read l (fun y hy => h y (by simp [hy])) q hq
    simp only [List.map_cons, List.cons_append, pNames, (gn_word (h x (by simp))).2, if_true, ih, tx_bl]
theorem assoc_word {a : Int} (h1 : 1 ≤ a) (h3 : a ≤ 3) : assocOf (bl (wordT a)) = some a := by
  have : a = 1 ∨ a = 2 ∨ a = 3 := by omega
  rcases this with rfl | rfl | rfl <;> decide
theorem pLevels_read : ∀ (l : List GLe), (∀ x, x ∈ l → glevelOk x = true ∧ ∀ t, t ∈ x.tokens → gnOk t = true) → ∀ q : List Tx, (∀ t q', q = t :: q' → assocOf t = none) → pLevels ((l.map tkLv).flatten ++ q) = .ok l q
  | [], _, q, hq => by
    cases q with
    | nil => rw [List.map_nil, List.flatten_nil, List.nil_append, pLevels]
    | cons t q => rw [List.map_nil, List.flatten_nil, List.nil_append, pLevels, hq t q rfl]
  | x :: l, h, q, hq => by
    have ih := pLevels_read l (fun y hy => h y (by simp [hy])) q hq
    obtain ⟨h1, h2⟩ := h x (by simp)
    obtain ⟨⟨ha, hb⟩, hne⟩ := glevel_iff.1 h1
    obtain ⟨s, ts, hts⟩ : ∃ s ts, x.tokens = s :: ts := by
      cases hx : x.tokens with
      | nil => rw [hx] at hne; exact absurd rfl hne
      | cons s ts => exact ⟨s, ts, rfl⟩
    have e0 : ((x :: l).map tkLv).flatten ++ q = bl (wordT x.assoc) :: (bl s :: (ts.map bl ++ ([59] :: ((l.map tkLv).flatten ++ q)))) := by
      simp [tkLv, hts]
    rw [e0, pLevels, assoc_word ha hb]
    simp only
    rw [pName_read (h2 s (by simp [hts]))]
    simp only
    rw [pNames_read ts (fun t ht => h2 t (by simp [hts, ht])) _ (by simp [isN]; decide)]
    simp only [pTake, if_true]
    rw [dif_pos (by simp; omega), ih]
    simp only
    congr 2
    rw [← hts]
theorem pRule_read {r : GRu} (hn : gnOk r.name = true) (hne : r.alts ≠ []) (ha : ∀ a, a ∈ r.alts → altOk a = true) (q : List Tx) : pRule (tkRu r ++ q) = .ok r q := by
  have e0 : tkRu r ++ q = bl r.name :: ([61] :: (tkAs false r.alts ++ ([59] :: q))) := by simp [tkRu]
  rw [e0, pRule, pName_read hn]
  simp only [pTake, if_true]
  rw [pAltsR_read _ hne ha _ rfl]
  simp only [if_true]
theorem pRules_read : ∀ (l : List GRu), (∀ r, r ∈ l → gnOk r.name = true ∧ r.alts ≠ [] ∧ ∀ a, a ∈ r.alts → altOk a = true) → pRules (l.map tkRu).flatten = .ok l []
  | [], _ => by rw [List.map_nil, List.flatten_nil, pRules]
  | r :: l, h => by
    have ih := pRules_read l (fun y hy => h y (by simp [hy]))
    obtain ⟨h1, h2, h3⟩ := h r (by simp)
    have e1 := pRule_read h1 h2 h3 (l.map tkRu).flatten
    have e0 : ((r :: l).map tkRu).flatten = bl r.name :: ([61] :: (tkAs false r.alts ++ ([59] :: (l.map tkRu).flatten))) := by simp [tkRu]
    have e2 : tkRu r ++ (l.map tkRu).flatten = bl r.name :: ([61] :: (tkAs false r.alts ++ ([59] :: (l.map tkRu).flatten))) := by simp [tkRu]
    rw [e2] at e1
    rw [e0, pRules, e1]
    simp only
    rw [dif_pos (by simp; omega), ih]
theorem FVal.rname {f : GFi} (h : FVal f) : ∀ r, r ∈ f.rules → gnOk r.name = true := by
  intro r hr
  refine h.rn _ ?_
  rw [rnames_all]; exact List.mem_map.2 ⟨r, hr, rfl⟩
theorem FVal.alts {f : GFi} (h : FVal f) : ∀ r, r ∈ f.rules → r.alts ≠ [] := by
  intro r hr
  have := h.rule r hr
  simp only [gruleOk, Bool.and_eq_true, Bool.not_eq_true', decide_eq_false_iff_not] at this
  exact this.1
theorem FVal.gtok {f : GFi} (h : FVal f) : ∀ l, l ∈ f.levels → ∀ t, t ∈ l.tokens → gnOk t = true := by
  intro l hl t ht
  refine h.tk _ ?_
  simp only [Lg.toks, List.take_of_length_le (Nat.le_refl _), List.mem_flatten, List.mem_map]
  exact ⟨_, ⟨l, hl, rfl⟩, ht⟩
theorem lexT_rules : ∀ (l : List GRu), (∀ r, r ∈ l → gnOk r.name = true ∧ ∀ a, a ∈ r.alts → altOk a = true) → lexT (l.map ruT).flatten = (l.map tkRu).flatten
  | [], _ => lexT_nil
  | r :: l, h => by
    rw [List.map_cons, List.flatten_cons, lexT_ru (h r (by simp)).1 (h r (by simp)).2, lexT_rules l (fun y hy => h y (by simp [hy]))]
    rfl
theorem lexT_levels : ∀ (l : List GLe), (∀ x, x ∈ l → x.tokens ≠ [] ∧ ∀ t, t ∈ x.tokens → gnOk t = true) → ∀ r, lexT ((l.map lvT).flatten ++ r) = (l.map tkLv).flatten ++ lexT r
  | [], _, _ => rfl
  | x :: l, h, r => by
    rw [List.map_cons, List.flatten_cons, List.append_assoc, lexT_lv (h x (by simp)).1 (h x (by simp)).2, lexT_levels l (fun y hy => h y (by simp [hy])), List.map_cons, List.flatten_cons, List.append_assoc]
theorem FVal.lvne {f : GFi} (h : FVal f) : ∀ l, l ∈ f.levels → l.tokens ≠ [] := by
  intro l hl e
  have := (glevel_iff.1 (h.level l hl)).2
  rw [e] at this; exact this rfl
theorem lexT_file {f : GFi} (h : FVal f) : lexT (fmtF f) = tkF f := by
  have e0 : fmtF f = bl kw0 ++ (32 :: (bl f.start ++ (endT ++ ((f.levels.map lvT).flatten ++ (f.rules.map ruT).flatten)))) := by
    simp [fmtF, fmR, fmL, fm0, wStartT, bl, kw0]
  rw [e0, lexT_word (by decide) (nW_blank (c := 32) (by decide) _), lexT_blank (by decide), lexT_word (gn_word h.st).1 (nW_end _), lexT_end,
    lexT_levels _ (fun x hx => ⟨h.lvne x hx, h.gtok x hx⟩), lexT_rules _ (fun r hr => ⟨h.rname r hr, h.alt r hr⟩), tkF]
end Go.Lg

namespace Go.Lg
set_option maxRecDepth 20000
inductive Par : List Tx → List Tx → Prop
  | nil : Par [] []
  | keep (t : Tx) {l l' : List Tx} (h : Par l l') : Par (t :: l) (t :: l')
  | wrap (t : Tx) {l l' : List Tx} (ht : nmT t = true) (hn : hd l ≠ [61]) (h : Par l l') : Par (t :: l) ([40] :: [40] :: t :: [41] :: [41] :: l')
theorem Par.nm_no {t : Tx} {l m : List Tx} (h : Par (t :: l) m) (ht : nmT t = false) : ∃ l', m = t :: l' ∧ Par l l' := by
  cases h with
  | keep _ h => exact ⟨_, rfl, h⟩
  | wrap _ h2 => rw [ht] at h2; cases h2
theorem Par.eq61 {t : Tx} {l m : List Tx} (h : Par (t :: l) m) (ht : hd l = [61]) : ∃ l', m = t :: l' ∧ Par l l' := by
  cases h with
  | keep _ h => exact ⟨_, rfl, h⟩
  | wrap _ _ h3 => exact absurd ht h3
theorem Par.of_nil {m : List Tx} (h : Par [] m) : m = [] := by cases h; rfl
theorem Par.hd {t : Tx} {l m : List Tx} (h : Par (t :: l) m) : ∃ l', m = t :: l' ∨ (nmT t = true ∧ m = [40] :: l') := by
  cases h with
  | keep _ h => exact ⟨_, .inl rfl⟩
  | wrap _ h2 => exact ⟨_, .inr ⟨h2, rfl⟩⟩
theorem nm41 : nmT [41] = false := by decide
theorem nm124 : nmT [124] = false := by decide
theorem nm59 : nmT [59] = false := by decide
theorem nm61 : nmT [61] = false := by decide
theorem nmP : nmT (bl kw4) = false := by decide
theorem nm_num {t : Tx} (h : isNum t = true) : nmT t = false := by
  cases t with
  | nil => cases h
  | cons c r =>
    have hD : isD c = true := h
    simp only [nmT, (isD_nB hD).2.2, Bool.false_and]
theorem pPrim_wrap {t : Tx} (ht : nmT t = true) (r : List Tx) : pPrim ([40] :: [40] :: t :: [41] :: [41] :: r) = .ok (.mk 1 (tx t) []) r := by
  have i0 : Item (t :: [41] :: [41] :: r) (.mk 1 (tx t) []) ([41] :: [41] :: r) := ⟨by simp [isN, ht], ⟨_, _, pPrim_nm ht, sufT_none (nS_41 _)⟩, by simp⟩
  have h0 := i0.cons (pItems_none (nI_41 ([41] :: r)))
  have h1 := pPrim_grp (pAlts_of h0 (by simp [hd]))
  have i1 : Item ([40] :: t :: [41] :: [41] :: r) (.mk 1 (tx t) []) ([41] :: r) := ⟨by simp [hd], ⟨_, _, h1, sufT_none (nS_41 _)⟩, by simp⟩
  have h2 := i1.cons (pItems_none (nI_41 r))
  exact pPrim_grp (pAlts_of h2 (by simp [hd]))
theorem sufT_par : ∀ (x : GEx) (l m : List Tx), Par l m → (sufT x m).1 = (sufT x l).1 ∧ Par (sufT x l).2 (sufT x m).2
  | x, [], m, h => by rw [h.of_nil]; exact ⟨rfl, .nil⟩
  | x, t :: r, m, h => by
    by_cases hs : t = [42] ∨ t = [43] ∨ t = [63]
    · obtain ⟨r', rfl, h'⟩ := h.nm_no (by rcases hs with rfl | rfl | rfl <;> decide)
      rw [sufT, sufT]
      split
      · exact sufT_par _ r r' h'
      · split
        · exact sufT_par _ r r' h'
        · split
          · exact sufT_par _ r r' h'
          · exact ⟨rfl, h⟩
    · have h1 : t ≠ [42] := fun e => hs (.inl e)
      have h2 : t ≠ [43] := fun e => hs (.inr (.inl e))
      have h3 : t ≠ [63] := fun e => hs (.inr (.inr e))
      have e1 : sufT x (t :: r) = (x, t :: r) := by rw [sufT, if_neg h1, if_neg h2, if_neg h3]
      rw [e1]
      obtain ⟨l', rfl | ⟨_, rfl⟩⟩ := h.hd
      · rw [sufT, if_neg h1, if_neg h2, if_neg h3]; exact ⟨rfl, h⟩
      · rw [sufT, if_neg (by decide), if_neg (by decide), if_neg (by decide)]; exact ⟨rfl, h⟩
theorem par_starts {l m : List Tx} (h : Par l m) : (isN m || decide (hd m = [40])) = (isN l || decide (hd l = [40])) := by
  cases h with
  | nil => rfl
  | keep t h => rfl
  | wrap t ht hn h => simp [isN, ht, hd]
theorem par_bar {t : Tx} {l m : List Tx} (h : Par (t :: l) m) : t ≠ [124] → ∃ c r, m = c :: r ∧ c ≠ [124] := by
  intro ht
  obtain ⟨l', rfl | ⟨_, rfl⟩⟩ := h.hd
  · exact ⟨_, _, rfl, ht⟩
  · exact ⟨_, _, rfl, by decide⟩
theorem par_sim (n : Nat) : ∀ l m : List Tx, l.length ≤ n → Par l m →
    (∀ x r, pPrim l = .ok x r → ∃ r', pPrim m = .ok x r' ∧ Par r r') ∧ (∀ xs r, pItems l = .ok xs r → ∃ r', pItems m = .ok xs r' ∧ Par r r') ∧
    (∀ es r, pAlts l = .ok es r → ∃ r', pAlts m = .ok es r' ∧ Par r r') := by
  induction n using Nat.strongRecOn with
  | _ n ih =>
  intro l m hl h
  have hP : ∀ x r, pPrim l = .ok x r → ∃ r', pPrim m = .ok x r' ∧ Par r r' := by
    intro x r hx
    cases l with
    | nil => rw [pPrim] at hx; cases hx
    | cons t s =>
      by_cases ht : nmT t = true
      · rw [pPrim_nm ht] at hx
        injection hx with e1 e2
        subst e1 e2
        cases h with
        | keep _ h => exact ⟨_, pPrim_nm ht, h⟩
        | wrap _ _ _ h => exact ⟨_, pPrim_wrap ht _, h⟩
      · have ht' : nmT t = false := by simpa using ht
        obtain ⟨s', rfl, h'⟩ := h.nm_no ht'
        rw [pPrim, if_neg ht] at hx
        by_cases h40 : t = [40]
        · rw [if_pos h40] at hx
          simp only [List.length_cons] at hl
          cases ha : pAlts s with
          | err q => rw [ha] at hx; cases hx
          | ok es q =>
            rw [ha] at hx
            simp only at hx
            obtain ⟨q', h1, h2⟩ := (ih s.length (by omega) s s' (Nat.le_refl _) h').2.2 es q ha
            cases q with
            | nil => cases hx
            | cons c q0 =>
              simp only at hx
              by_cases hc : c = [41]
              · rw [if_pos hc] at hx
                injection hx with e1 e2
                subst e1 e2 hc
                obtain ⟨q2, rfl, h3⟩ := h2.nm_no nm41
                rw [h40]
                exact ⟨_, pPrim_grp h1, h3⟩
              · rw [if_neg hc] at hx; cases hx
        · rw [if_neg h40] at hx; cases hx
  have hI : ∀ xs r, pItems l = .ok xs r → ∃ r', pItems m = .ok xs r' ∧ Par r r' := by
    intro xs r hx
    rw [pItems_eq] at hx ⊢
    rw [par_starts h]
    split at hx
    · rename_i hs
      rw [if_pos hs]
      cases hp : pPrim l with
      | err q => rw [hp] at hx; cases hx
      | ok y q =>
        rw [hp] at hx
        simp only at hx
        obtain ⟨q', h1, h2⟩ := hP y q hp
        rw [h1]
        simp only
        have hlt := pPrim_lt hp
        have hle := sufT_len y q
        obtain ⟨e1, h3⟩ := sufT_par y q q' h2
        cases hi : pItems (sufT y q).2 with
        | err q2 => rw [hi] at hx; cases hx
        | ok ys q2 =>
          rw [hi] at hx
          injection hx with g1 g2
          subst g1 g2
          obtain ⟨q3, h4, h5⟩ := (ih (sufT y q).2.length (by omega) _ _ (Nat.le_refl _) h3).2.1 ys q2 hi
          rw [h4, e1]
          exact ⟨_, rfl, h5⟩
    · rename_i hs
      rw [if_neg hs]
      injection hx with g1 g2
      subst g1 g2
      exact ⟨_, rfl, h⟩
  refine ⟨hP, hI, ?_⟩
  intro es r hx
  rw [pAlts_eq] at hx ⊢
  cases hi : pItems l with
  | err q => rw [hi] at hx; cases hx
  | ok xs q =>
    rw [hi] at hx
    simp only at hx
    obtain ⟨q', h1, h2⟩ := hI xs q hi
    rw [h1]
    simp only
    have hle := (pItems_suf l).length_le
    rw [hi] at hle
    simp only [PR.rest] at hle
    cases q with
    | nil => rw [h2.of_nil]; injection hx with g1 g2; subst g1 g2; exact ⟨_, rfl, .nil⟩
    | cons t q0 =>
      simp only [List.length_cons] at hle
      by_cases ht : t = [124]
      · subst ht
        obtain ⟨q1, rfl, h3⟩ := h2.nm_no nm124
        simp only [finA, if_true] at hx ⊢
        cases ha : pAlts q0 with
        | err q2 => rw [ha] at hx; cases hx
        | ok es2 q2 =>
          rw [ha] at hx
          injection hx with g1 g2
          subst g1 g2
          obtain ⟨q3, h4, h5⟩ := (ih q0.length (by omega) _ _ (Nat.le_refl _) h3).2.2 es2 q2 ha
          rw [h4]
          exact ⟨_, rfl, h5⟩
      · obtain ⟨c, r', rfl, hc⟩ := par_bar h2 ht
        simp only [finA, if_neg ht] at hx
        injection hx with g1 g2
        subst g1 g2
        simp only [finA, if_neg hc]
        exact ⟨_, rfl, h2⟩
theorem pItems_par {l m : List Tx} (h : Par l m) {xs : List GEx} {r : List Tx} (hx : pItems l = .ok xs r) : ∃ r', pItems m = .ok xs r' ∧ Par r r' := (par_sim _ l m (Nat.le_refl _) h).2.1 xs r hx
theorem pPrice_par {l m : List Tx} (h : Par l m) {p : Int} {r : List Tx} (hx : pPrice l = .ok p r) : ∃ r', pPrice m = .ok p r' ∧ Par r r' := by
  cases l with
  | nil => rw [h.of_nil]; injection hx with g1 g2; subst g1 g2; exact ⟨_, rfl, .nil⟩
  | cons t l =>
    by_cases ht : t = bl kw4
    · subst ht
      obtain ⟨l', rfl, h'⟩ := h.nm_no nmP
      simp only [pPrice, if_true] at hx ⊢
      cases l with
      | nil => cases hx
      | cons t2 l2 =>
        simp only at hx
        by_cases hn : isNum t2 = true
        · rw [if_pos hn] at hx
          injection hx with g1 g2
          subst g1 g2
          obtain ⟨l3, rfl, h3⟩ := h'.nm_no (nm_num hn)
          simp only
          rw [if_pos hn]
          exact ⟨_, rfl, h3⟩
        · rw [if_neg hn] at hx; cases hx
    · simp only [pPrice, if_neg ht] at hx
      injection hx with g1 g2
      subst g1 g2
      obtain ⟨l', rfl | ⟨_, rfl⟩⟩ := h.hd
      · simp only [pPrice, if_neg ht]; exact ⟨_, rfl, h⟩
      · have : ([40] : Tx) ≠ bl kw4 := by decide
        simp only [pPrice, if_neg this]; exact ⟨_, rfl, h⟩
theorem pAlt_par {l m : List Tx} (h : Par l m) {a : GAl} {r : List Tx} (hx : pAlt l = .ok a r) : ∃ r', pAlt m = .ok a r' ∧ Par r r' := by
  unfold pAlt at hx ⊢
  cases hi : pItems l with
  | err q => rw [hi] at hx; cases hx
  | ok xs q =>
    rw [hi] at hx
    simp only at hx
    obtain ⟨q', h1, h2⟩ := pItems_par h hi
    rw [h1]
    simp only
    cases hp : pPrice q with
    | err q2 => rw [hp] at hx; cases hx
    | ok p q2 =>
      rw [hp] at hx
      injection hx with g1 g2
      subst g1 g2
      obtain ⟨q3, h3, h4⟩ := pPrice_par h2 hp
      rw [h3]
      exact ⟨_, rfl, h4⟩
theorem pAltsR_par (n : Nat) : ∀ l m : List Tx, l.length ≤ n → Par l m → ∀ es r, pAltsR l = .ok es r → ∃ r', pAltsR m = .ok es r' ∧ Par r r' := by
  induction n using Nat.strongRecOn with
  | _ n ih =>
  intro l m hl h es r hx
  rw [pAltsR_eq] at hx ⊢
  cases hi : pAlt l with
  | err q => rw [hi] at hx; cases hx
  | ok a q =>
    rw [hi] at hx
    simp only at hx
    obtain ⟨q', h1, h2⟩ := pAlt_par h hi
    rw [h1]
    simp only
    have hle := (pAlt_suf l).length_le
    rw [hi] at hle
    simp only [PR.rest] at hle
    cases q with
    | nil => rw [h2.of_nil]; injection hx with g1 g2; subst g1 g2; exact ⟨_, rfl, .nil⟩
    | cons t q0 =>
      simp only [List.length_cons] at hle
      by_cases ht : t = [124]
      · subst ht
        obtain ⟨q1, rfl, h3⟩ := h2.nm_no nm124
        simp only [finR, if_true] at hx ⊢
        cases ha : pAltsR q0 with
        | err q2 => rw [ha] at hx; cases hx
        | ok es2 q2 =>
          rw [ha] at hx
          injection hx with g1 g2
          subst g1 g2
          obtain ⟨q3, h4, h5⟩ := ih q0.length (by omega) _ _ (Nat.le_refl _) h3 es2 q2 ha
          rw [h4]
          exact ⟨_, rfl, h5⟩
      · obtain ⟨c, r', rfl, hc⟩ := par_bar h2 ht
        simp only [finR, if_neg ht] at hx
        injection hx with g1 g2
        subst g1 g2
        simp only [finR, if_neg hc]
        exact ⟨_, rfl, h2⟩
theorem pRule_par {l m : List Tx} (h : Par l m) {x : GRu} {r : List Tx} (hx : pRule l = .ok x r) : ∃ r', pRule m = .ok x r' ∧ Par r r' := by
  unfold pRule at hx ⊢
  cases l with
  | nil => cases hx
  | cons t l =>
    cases hn : pName (t :: l) with
    | err q => rw [hn] at hx; cases hx
    | ok s q =>
      rw [hn] at hx
      simp only at hx
      have hq : q = l := by
        simp only [pName] at hn
        split at hn
        · injection hn with _ e; exact e.symm
        · cases hn
      subst hq
      cases q with
      | nil => cases hx
      | cons c q =>
        cases h2 : pTake [61] (c :: q) with
        | err q2 => rw [h2] at hx; cases hx
        | ok u q2 =>
          rw [h2] at hx
          simp only at hx
          have hc : c = [61] ∧ q2 = q := by
            simp only [pTake] at h2
            split at h2
            · rename_i e; injection h2 with _ e2; exact ⟨e, e2.symm⟩
            · cases h2
          obtain ⟨rfl, rfl⟩ := hc
          obtain ⟨l', rfl, h'⟩ := h.eq61 rfl
          obtain ⟨l2, rfl, h3⟩ := h'.nm_no nm61
          have e1 : pName (t :: [61] :: l2) = .ok s ([61] :: l2) := by
            simp only [pName] at hn ⊢
            split at hn
            · rename_i ht; rw [if_pos ht]; injection hn with e _; rw [e]
            · cases hn
          rw [e1]
          have e2 : pTake [61] ([61] :: l2) = .ok () l2 := rfl
          simp only [e2]
          cases ha : pAltsR q2 with
          | err q3 => rw [ha] at hx; cases hx
          | ok ys q3 =>
            rw [ha] at hx
            simp only at hx
            obtain ⟨q4, h4, h5⟩ := pAltsR_par _ _ _ (Nat.le_refl _) h3 ys q3 ha
            rw [h4]
            simp only
            cases q3 with
            | nil => cases hx
            | cons c2 q3 =>
              by_cases hc2 : c2 = [59]
              · subst hc2
                obtain ⟨q5, rfl, h6⟩ := h5.nm_no nm59
                have e3 : ∀ z : List Tx, pTake [59] ([59] :: z) = .ok () z := fun _ => rfl
                rw [e3] at hx ⊢
                injection hx with g1 g2
                subst g1 g2
                exact ⟨_, rfl, h6⟩
              · simp only [pTake, if_neg hc2] at hx; cases hx
theorem pRules_par (n : Nat) : ∀ l m : List Tx, l.length ≤ n → Par l m → ∀ xs r, pRules l = .ok xs r → ∃ r', pRules m = .ok xs r' ∧ Par r r' := by
  induction n using Nat.strongRecOn with
  | _ n ih =>
  intro l m hl h xs r hx
  have un : ∀ z : List Tx, pRules z = finU [] z := fun z => (finU_nil z).symm
  cases l with
  | nil => rw [h.of_nil]; rw [pRules] at hx ⊢; injection hx with g1 g2; subst g1 g2; exact ⟨_, rfl, .nil⟩
  | cons t l =>
    have hne : ∃ c r', m = c :: r' := by
      obtain ⟨l', rfl | ⟨_, rfl⟩⟩ := h.hd
      · exact ⟨_, _, rfl⟩
      · exact ⟨_, _, rfl⟩
    obtain ⟨c, m', rfl⟩ := hne
    rw [un, finU_step] at hx
    rw [un, finU_step]
    cases hr : pRule (t :: l) with
    | err q => rw [hr] at hx; cases hx
    | ok x q =>
      rw [hr] at hx
      simp only at hx
      obtain ⟨q', h1, h2⟩ := pRule_par h hr
      rw [h1]
      simp only
      have hlt := pRule_lt hr
      unfold finU at hx ⊢
      cases ha : pRules q with
      | err q2 => rw [ha] at hx; cases hx
      | ok ys q2 =>
        rw [ha] at hx
        simp only at hx
        injection hx with g1 g2
        subst g1 g2
        obtain ⟨q3, h4, h5⟩ := ih q.length (by omega) _ _ (Nat.le_refl _) h2 ys q2 ha
        rw [h4]
        exact ⟨_, rfl, h5⟩
end Go.Lg

namespace Go.Lg
set_option linter.unusedVariables false
def PR.app {α : Type} (x : List Tx) : PR α → PR α
  | .ok a r => .ok a (r ++ x)
  | .err r => .err (r ++ x)
end Go.Lg

namespace Go.Lg
set_option linter.unusedVariables false
theorem tw_cut {p : UInt8 → Bool} {r : Tx} {j : Nat} (h : (r.takeWhile p).length ≤ j) : (r.take j).takeWhile p = r.takeWhile p := by
  induction r generalizing j with
  | nil => simp
  | cons c r ih =>
    cases j with
    | zero =>
      have : r.takeWhile p = r.takeWhile p := rfl
      have h0 : ((c :: r).takeWhile p) = [] := List.eq_nil_of_length_eq_zero (by omega)
      rw [h0]; rfl
    | succ j =>
      rw [List.take_succ_cons, List.takeWhile_cons, List.takeWhile_cons]
      split
      · rename_i hc
        rw [List.takeWhile_cons, if_pos hc] at h
        simp only [List.length_cons] at h
        rw [ih (by omega)]
      · rfl
end Go.Lg

namespace Go.Lg
set_option linter.unusedVariables false
def endB (b : UInt8) : Bool := !isW b && !isD b
theorem tw_end {p : UInt8 → Bool} {b : UInt8} (hb : p b = false) (r m : Tx) : (r ++ b :: m).takeWhile p = r.takeWhile p := by
  induction r with
  | nil => simp [hb]
  | cons c r ih =>
    rw [List.cons_append, List.takeWhile_cons, List.takeWhile_cons]
    split
    · rw [ih]
    · rfl
theorem tokN_end {b : UInt8} (hb : endB b = true) (c : UInt8) (r m : Tx) : tokN (c :: r ++ b :: m) = tokN (c :: r) := by
  simp only [endB, Bool.and_eq_true, Bool.not_eq_true'] at hb
  simp only [List.cons_append, tokN]
  rw [tw_end hb.1, tw_end hb.2]
def Tok (t : Tx) : Prop := ∃ c r, t = c :: r ∧ isB c = false ∧ c ≠ 35 ∧ tokN t = t.length
theorem tokN_take (c : UInt8) (r : Tx) : tokN ((c :: r).take (tokN (c :: r))) = tokN (c :: r) := by
  have h1 := tokN_pos c r
  obtain ⟨j, hj⟩ : ∃ j, tokN (c :: r) = j + 1 := ⟨tokN (c :: r) - 1, by omega⟩
  rw [hj, List.take_succ_cons, ← hj]
  simp only [tokN] at hj ⊢
  split
  · rename_i hL
    rw [if_pos hL] at hj
    rw [tw_cut (by omega)]
  · rename_i hL
    rw [if_neg hL] at hj
    split
    · rename_i hD
      rw [if_pos hD] at hj
      rw [tw_cut (by omega)]
    · rfl
theorem lexL_tok (n : Nat) : ∀ (l : Tx) (k : Nat), l.length ≤ n → ∀ p, p ∈ lexL l k → Tok p.2 := by
  induction n with
  | zero =>
    intro l k hl p hp
    obtain rfl : l = [] := List.eq_nil_of_length_eq_zero (by omega)
    rw [lexL_nil] at hp; cases hp
  | succ n ih =>
    intro l k hl p hp
    cases l with
    | nil => rw [lexL_nil] at hp; cases hp
    | cons c r =>
      simp only [List.length_cons] at hl
      rw [lexL_cons] at hp
      by_cases hB : isB c = true
      · rw [if_pos hB] at hp
        exact ih r _ (by omega) p hp
      · rw [if_neg hB] at hp
        by_cases h35 : c = 35
        · rw [if_pos h35] at hp
          exact ih _ _ (by rw [List.length_drop]; omega) p hp
        · rw [if_neg h35] at hp
          have htp := tokN_pos c r
          rcases List.mem_cons.1 hp with rfl | hp
          · have h1 := tokN_take c r
            have hle := tokN_le (c :: r)
            refine ⟨c, r.take (tokN (c :: r) - 1), ?_, by simpa using hB, h35, ?_⟩
            · obtain ⟨j, hj⟩ : ∃ j, tokN (c :: r) = j + 1 := ⟨tokN (c :: r) - 1, by omega⟩
              rw [hj, List.take_succ_cons]; rfl
            · rw [h1, List.length_take, Nat.min_eq_left hle]
          · exact ih _ _ (by rw [List.length_drop]; simp only [List.length_cons]; omega) p hp
theorem lexT_tok {l : Tx} {t : Tx} (h : t ∈ lexT l) : Tok t := by
  obtain ⟨p, hp, rfl⟩ := List.mem_map.1 h
  exact lexL_tok _ l 0 (Nat.le_refl _) p hp
theorem lexL_at (n : Nat) : ∀ (l : Tx) (k j : Nat), l.length ≤ n → (lexL l k).map (·.2) = (lexL l j).map (·.2) := by
  induction n with
  | zero =>
    intro l k j hl
    obtain rfl : l = [] := List.eq_nil_of_length_eq_zero (by omega)
    rw [lexL_nil, lexL_nil]
  | succ n ih =>
    intro l k j hl
    cases l with
    | nil => rw [lexL_nil, lexL_nil]
    | cons c r =>
      simp only [List.length_cons] at hl
      rw [lexL_cons, lexL_cons]
      have htp := tokN_pos c r
      split
      · exact ih r _ _ (by omega)
      · split
        · exact ih _ _ _ (by rw [List.length_drop]; omega)
        · simp only [List.map_cons]
          rw [ih ((c :: r).drop (tokN (c :: r))) _ (j + tokN (c :: r)) (by rw [List.length_drop]; simp only [List.length_cons]; omega)]
theorem lexT_at (l : Tx) (k : Nat) : (lexL l k).map (·.2) = lexT l := lexL_at _ l k 0 (Nat.le_refl _)
theorem lexW_nil : lexT [] = [] := by unfold lexT; rw [lexL_nil]; rfl
theorem lexW_blank {c : UInt8} (h : isB c = true) (m : Tx) : lexT (c :: m) = lexT m := by
  unfold lexT
  rw [lexL_cons, if_pos h]
  exact lexL_at _ _ _ _ (Nat.le_refl _)
theorem lexW_cons {t : Tx} (ht : Tok t) {b : UInt8} (hb : endB b = true) (m : Tx) : lexT (t ++ b :: m) = t :: lexT (b :: m) := by
  obtain ⟨c, r, rfl, hB, h35, hl⟩ := ht
  have h1 := tokN_end hb c r m
  rw [lexT, List.cons_append, lexL_cons, hB]
  rw [List.cons_append] at h1
  simp only [Bool.false_eq_true, if_false, if_neg h35, List.map_cons]
  rw [h1, hl, lexT_at, ← List.cons_append, List.take_append_of_le_length (Nat.le_refl _), List.take_length, List.drop_append_of_le_length (Nat.le_refl _), List.drop_length, List.nil_append]
def Ends (t : Tx) (ts : List Tx) : Prop := ∀ m, lexT (t ++ m) = ts ++ lexT m
theorem Ends.all {t : Tx} {ts : List Tx} (h : Ends t ts) : lexT t = ts := by
  have := h []
  rwa [List.append_nil, lexW_nil, List.append_nil] at this
end Go.Lg

namespace Go.Lg
set_option maxRecDepth 20000
def isPN (inR : Bool) (x : Tx) (nx : List Tx) (last : Tx) : Bool :=
  (inR && decide (65 ≤ (x.headD 0).toNat) && !decide (x = bl kw4) && !decide (x = [124]) && !decide (hd nx = [61]) && !decide (last = bl kw4))
def pgo (m : Int) : Bool → Tx → Int → List Tx → List Tx
  | _, _, _, [] => []
  | inR, last, k, x :: r =>
    let inR' := inR || decide (x = [61])
    if isPN inR' x r last then (if (k + 1).tmod 3 = m then [40] :: [40] :: x :: [41] :: [41] :: pgo m inR' x (k + 1) r else x :: pgo m inR' x (k + 1) r)
    else x :: pgo m inR' x k r
def chunk (w : Bool) (x : Tx) : Tx := (if w then [40, 40] ++ x ++ [41, 41] else x) ++ [32]
theorem chunk_lex (w : Bool) {x : Tx} (hx : Tok x) (m : Tx) : lexT (chunk w x ++ m) = (if w then [[40], [40], x, [41], [41]] else [x]) ++ lexT m := by
  cases w with
  | false =>
    simp only [chunk, Bool.false_eq_true, if_false]
    rw [List.append_assoc]
    show lexT (x ++ 32 :: m) = _
    rw [lexW_cons hx (by decide), lexW_blank (by decide)]; rfl
  | true =>
    simp only [chunk, if_true]
    have e : [40, 40] ++ x ++ [41, 41] ++ [32] ++ m = 40 :: 40 :: (x ++ 41 :: (41 :: 32 :: m)) := by simp
    rw [e, lexT_sym (by decide), lexT_sym (by decide), lexW_cons hx (by decide), lexT_sym (by decide), lexT_sym (by decide), lexW_blank (by decide)]
    rfl
theorem Ends.chunk {t : Tx} {ts : List Tx} (h : Ends t ts) (w : Bool) {x : Tx} (hx : Tok x) : Ends (t ++ Lg.chunk w x) (ts ++ (if w then [[40], [40], x, [41], [41]] else [x])) := by
  intro m
  rw [List.append_assoc, h, chunk_lex w hx, List.append_assoc]
def NW (x : Tx) : Prop := nmT x = true ∨ (x.headD 0).toNat < 65 ∨ x = bl kw4 ∨ x = [124]
theorem pgo_par (m : Int) : ∀ (l : List Tx) (inR : Bool) (last : Tx) (k : Int), (∀ x, x ∈ l → NW x) → Par l (pgo m inR last k l)
  | [], _, _, _, _ => by rw [pgo]; exact .nil
  | x :: r, inR, last, k, h => by
    have ih := fun a b c => pgo_par m r a b c fun y hy => h y (by simp [hy])
    rw [pgo]
    split
    · rename_i hp
      split
      · simp only [isPN, Bool.and_eq_true, Bool.not_eq_true', decide_eq_true_eq, decide_eq_false_iff_not] at hp
        obtain ⟨⟨⟨⟨⟨_, h65⟩, hk⟩, hb⟩, hn⟩, _⟩ := hp
        refine .wrap x ?_ hn (ih _ _ _)
        rcases h x (by simp) with h1 | h1 | h1 | h1
        · exact h1
        · omega
        · exact absurd h1 hk
        · exact absurd h1 hb
      · exact .keep x (ih _ _ _)
    · exact .keep x (ih _ _ _)
theorem pgo_pre (m : Int) : ∀ (p : List Tx) (last : Tx) (k : Int) (r : List Tx), (∀ x, x ∈ p → x ≠ [61]) → ∃ last', pgo m false last k (p ++ r) = p ++ pgo m false last' k r
  | [], last, k, r, _ => ⟨last, rfl⟩
  | x :: p, last, k, r, h => by
    obtain ⟨l2, h2⟩ := pgo_pre m p x k r fun y hy => h y (by simp [hy])
    refine ⟨l2, ?_⟩
    have hx : decide (x = [61]) = false := decide_eq_false (h x (by simp))
    rw [List.cons_append, pgo]
    simp only [hx, Bool.or_false, isPN, Bool.false_and, Bool.false_eq_true, if_false]
    rw [h2]; rfl
theorem pgo_rules (m : Int) (last : Tx) (k : Int) (t : Tx) (r : List Tx) (ht : t ≠ [61]) (h : ∀ x, x ∈ r → NW x) : Par (t :: r) (pgo m false last k (t :: r)) := by
  have hx : decide (t = [61]) = false := decide_eq_false ht
  rw [pgo]
  simp only [hx, Bool.or_false, isPN, Bool.false_and, Bool.false_eq_true, if_false]
  exact .keep t (pgo_par m r _ _ _ h)
section
theorem nw_sym {c : UInt8} (h : c.toNat < 65) : NW [c] := .inr (.inl h)
theorem nw_gn {s : ByteArray} (h : gnOk s = true) : NW (bl s) := .inl (gn_word h).2
theorem nw_enc {t : List Tx} (h : ∀ x, x ∈ t → NW x) (b : Bool) : ∀ x, x ∈ encK t b → NW x := by
  intro x hx
  cases b with
  | false => exact h x hx
  | true =>
    simp only [encK, if_true, List.mem_cons, List.mem_append, List.not_mem_nil, or_false] at hx
    rcases hx with rfl | hx | rfl
    · exact nw_sym (by decide)
    · exact h x hx
    · exact nw_sym (by decide)
theorem nw_kids {k : Int} : ∀ (l : List GEx) (more : Bool), (∀ e, e ∈ l → ∀ x, x ∈ tkE e → NW x) → ∀ x, x ∈ tkL k more l → NW x
  | [], more, _, x, hx => by rw [tkL] at hx; cases hx
  | e :: l, more, h, x, hx => by
    rw [tkL] at hx
    rcases List.mem_append.1 hx with hx | hx
    · rcases List.mem_append.1 hx with hx | hx
      · split at hx
        · simp only [sepK] at hx
          split at hx
          · simp only [List.mem_cons, List.not_mem_nil, or_false] at hx; exact .inr (.inr (.inr hx))
          · cases hx
        · cases hx
      · exact nw_enc (h e (by simp)) _ x hx
    · exact nw_kids l true (fun e he => h e (by simp [he])) x hx
theorem nw_ex (e : GEx) : ∀ d : Int, okE e d = true → ∀ x, x ∈ tkE e → NW x := by
  induction e using GEx.ind with
  | h e ih =>
    intro d hd x hx
    obtain ⟨h1, h2⟩ := okE_iff hd
    rw [tkE_eq] at hx
    rcases List.mem_append.1 hx with hx | hx
    · exact nw_kids _ _ (fun k hk => ih k hk _ (h2 k hk)) x hx
    · simp only [tailK] at hx
      split at hx
      · rename_i hk
        simp only [List.mem_cons, List.not_mem_nil, or_false] at hx
        subst hx
        simp only [okK, hk, decide_true, Bool.true_and, Bool.not_true, Bool.false_and, Bool.or_false, Bool.and_eq_true] at h1
        exact nw_gn h1.1
      · split at hx
        · simp only [List.mem_cons, List.not_mem_nil, or_false] at hx; subst hx; exact nw_sym (by decide)
        · split at hx
          · simp only [List.mem_cons, List.not_mem_nil, or_false] at hx; subst hx; exact nw_sym (by decide)
          · split at hx
            · simp only [List.mem_cons, List.not_mem_nil, or_false] at hx; subst hx; exact nw_sym (by decide)
            · cases hx
theorem nw_num {t : Tx} (h : numOk t = true) : NW t := by
  refine .inr (.inl ?_)
  cases t with
  | nil => cases h
  | cons c r =>
    have hD := isNum_of h
    simp only [isNum, isD, digB, Bool.and_eq_true, decide_eq_true_eq] at hD
    show c.toNat < 65
    omega
theorem nw_pr {p : Int} (h0 : 0 ≤ p) : ∀ x, x ∈ prK p → NW x := by
  intro x hx
  unfold prK at hx
  split at hx
  · cases hx
  · simp only [List.mem_cons, List.not_mem_nil, or_false] at hx
    rcases hx with rfl | rfl
    · exact .inr (.inr (.inl rfl))
    · obtain ⟨n, rfl⟩ := Int.eq_ofNat_of_zero_le h0
      rw [Lib.itoa_nonneg]
      exact nw_num (dec_num n)
theorem nw_alts : ∀ (l : List GAl) (m : Bool), (∀ a, a ∈ l → altOk a = true) → ∀ x, x ∈ tkAs m l → NW x
  | [], m, _, x, hx => by rw [tkAs] at hx; cases hx
  | a :: l, m, h, x, hx => by
    rw [tkAs] at hx
    have ha := altOk_iff.1 (h a (by simp))
    rcases List.mem_append.1 hx with hx | hx
    · split at hx
      · simp only [List.mem_cons, List.not_mem_nil, or_false] at hx; exact .inr (.inr (.inr hx))
      · cases hx
    · rcases List.mem_append.1 hx with hx | hx
      · unfold tkAl at hx
        rcases List.mem_append.1 hx with hx | hx
        · exact nw_enc (nw_ex _ _ ha.2) _ x hx
        · exact nw_pr ha.1.1 x hx
      · exact nw_alts l true (fun b hb => h b (by simp [hb])) x hx
theorem nw_ru {r : GRu} (hn : gnOk r.name = true) (ha : ∀ a, a ∈ r.alts → altOk a = true) : ∀ x, x ∈ tkRu r → NW x := by
  intro x hx
  unfold tkRu at hx
  simp only [List.mem_cons, List.mem_append, List.not_mem_nil, or_false] at hx
  rcases hx with rfl | rfl | hx | rfl
  · exact nw_gn hn
  · exact nw_sym (by decide)
  · exact nw_alts _ _ ha x hx
  · exact nw_sym (by decide)
end
theorem nm_ne61 {x : Tx} (h : nmT x = true) : x ≠ [61] := fun e => by rw [e, nm61] at h; cases h
theorem par_file {f : GFi} (h : FVal f) (m : Int) : pFile (pgo m false [] 0 (tkF f)) = .ok f [] := by
  have hP : ∀ x, x ∈ bl kw0 :: bl f.start :: [59] :: (f.levels.map tkLv).flatten → x ≠ [61] := by
    intro x hx
    simp only [List.mem_cons] at hx
    rcases hx with rfl | rfl | rfl | hx
    · decide
    · exact nm_ne61 (gn_word h.st).2
    · decide
    · obtain ⟨lv, hlv, hx⟩ := List.mem_flatten.1 hx
      obtain ⟨l, hl, rfl⟩ := List.mem_map.1 hlv
      unfold tkLv at hx
      simp only [List.mem_cons, List.mem_append, List.not_mem_nil, or_false] at hx
      rcases hx with rfl | hx | rfl
      · have := word_ok l.assoc
        intro e
        rw [e] at this
        revert this; decide
      · obtain ⟨t, ht, rfl⟩ := List.mem_map.1 hx
        exact nm_ne61 (gn_word (h.gtok l hl t ht)).2
      · decide
  have e0 : tkF f = (bl kw0 :: bl f.start :: [59] :: (f.levels.map tkLv).flatten) ++ (f.rules.map tkRu).flatten := by simp [tkF]
  obtain ⟨last, e1⟩ := pgo_pre m _ [] 0 (f.rules.map tkRu).flatten hP
  rw [e0, e1]
  have hR : ∃ R', pgo m false last 0 (f.rules.map tkRu).flatten = R' ∧ Par (f.rules.map tkRu).flatten R' ∧ ∀ t q', R' = t :: q' → assocOf t = none := by
    refine ⟨_, rfl, ?_⟩
    cases hr : f.rules with
    | nil =>
      refine ⟨?_, fun t q' e => ?_⟩
      · show Par [] (pgo m false last 0 [])
        rw [pgo]; exact .nil
      · have e : pgo m false last 0 [] = t :: q' := e
        rw [pgo] at e; cases e
    | cons r l =>
      have hn := (gn_word (h.rname r (by simp [hr]))).2
      have ec : ((r :: l).map tkRu).flatten = bl r.name :: ([61] :: (tkAs false r.alts ++ [[59]]) ++ (l.map tkRu).flatten) := by simp [tkRu]
      rw [ec]
      refine ⟨pgo_rules m last 0 _ _ (nm_ne61 hn) (fun x hx => ?_), fun t q' e => ?_⟩
      · have hx' : x ∈ ((r :: l).map tkRu).flatten := by rw [ec]; exact List.mem_cons_of_mem _ hx
        obtain ⟨lv, hlv, hx⟩ := List.mem_flatten.1 hx'
        obtain ⟨r2, hr2, rfl⟩ := List.mem_map.1 hlv
        exact nw_ru (h.rname r2 (by rw [hr]; exact hr2)) (h.alt r2 (by rw [hr]; exact hr2)) x hx
      · have hx : decide (bl r.name = [61]) = false := decide_eq_false (nm_ne61 hn)
        rw [pgo] at e
        simp only [hx, Bool.or_false, isPN, Bool.false_and, Bool.false_eq_true, if_false] at e
        injection e with e _
        rw [← e]
        have ne : ∀ k, k ∈ kwT → bl r.name ≠ k := by
          intro k hk e
          rw [e] at hn
          simp only [nmT, Bool.and_eq_true, Bool.not_eq_true', List.any_eq_false, decide_eq_true_eq] at hn
          exact hn.2 k hk rfl
        simp only [assocOf, if_neg (ne (bl kw1) (by decide)), if_neg (ne (bl kw2) (by decide)), if_neg (ne (bl kw3) (by decide))]
  obtain ⟨R', e2, hp, ha⟩ := hR
  rw [e2]
  obtain ⟨q', h1, h2⟩ := pRules_par _ _ _ (Nat.le_refl _) hp _ _ (pRules_read _ (fun r hr => ⟨h.rname r hr, h.alts r hr, h.alt r hr⟩))
  rw [h2.of_nil] at h1
  rw [pFile, List.cons_append, List.cons_append, List.cons_append]
  simp only [pTake, if_true]
  rw [pName_read h.st]
  simp only [if_true]
  rw [pLevels_read _ (fun x hx => ⟨h.level x hx, h.gtok x hx⟩) _ ha]
  simp only
  rw [h1]
theorem pgo_step (m : Int) (inR : Bool) (last : Tx) (k : Int) (x : Tx) (r : List Tx) :
    pgo m inR last k (x :: r) = (if isPN (inR || decide (x = [61])) x r last && decide ((k + 1).tmod 3 = m) then [[40], [40], x, [41], [41]] else [x]) ++
      pgo m (inR || decide (x = [61])) x (if isPN (inR || decide (x = [61])) x r last then k + 1 else k) r := by
  rw [pgo]
  cases isPN (inR || decide (x = [61])) x r last with
  | false => simp
  | true =>
    by_cases h : (k + 1).tmod 3 = m
    · simp [h]
    · simp [h]
end Go.Lg

namespace Go.Lg
open Go.Proofs
open Go.RowKit
set_option maxRecDepth 20000
section
variable {P : Program} {n M : Nat} {l : List (Nat × AV)} {os : List (Nat × Option AObj)} {e : List Bool} {a : Operand} {ty : TypeId} {ti tj : TI}
theorem ap_conv_r1 {src : TypeId} {z : Int} {id : Nat} [h0 : TIc P src tj] [h : TIc P ty ti] (ha : Rq n l e a (.ref id 1 0 1)) (ho : lookq M os id = some (.arr 1 [.val (.int .u8 z)])) (hz : 0 ≤ z ∧ z ≤ 255) (hk : ti.kind = none) (hs : ti.sh = .string) (hb : b8 P ti = false) (hb' : b8 P tj = true) : Ap P n l M os e (.convert src ty a) (.val (.string (strB [UInt8.ofNat z.toNat]))) := by
  refine ap_conv_ref ha ?_ rfl hk hs hb hb'
  rw [ho]
  have : byteA (UInt8.ofNat z.toNat) = .val (.int .u8 z) := by
    simp only [byteA]
    have h1 : ((UInt8.ofNat z.toNat).toNat : Int) = z := by
      rw [UInt8.toNat_ofNat']
      omega
    rw [h1]
  rw [List.map_cons, List.map_nil, this]
end
end Go.Lg

namespace Go.Lg
open Go.Proofs
set_option linter.unusedSimpArgs false
set_option linter.unusedVariables false
attribute [local irreducible] Ap Rq asemC WP RunD Ret Gq thenA inBlockA bodyQ noGotoA RqL RqP OpP
set_option maxHeartbeats 8000000
set_option maxRecDepth 20000
attribute [local simp] AV.cells altA
theorem decDigits_step {u : Nat} (h : 0 < u / 10) : Lib.decDigits u = Lib.decDigits (u / 10) ++ [UInt8.ofNat (48 + u % 10)] := by
  rw [Lib.decDigits]
  split
  · omega
  · rfl
theorem decDigits_lt {u : Nat} (h : u / 10 = 0) : Lib.decDigits u = [UInt8.ofNat (48 + u % 10)] := by
  rw [Lib.decDigits_one (by omega), Nat.mod_eq_of_lt (by omega)]
theorem dec_inv {u : Nat} {s r : List UInt8} (h : Lib.decDigits u ++ s = r) : (if u / 10 = 0 then [UInt8.ofNat (48 + u % 10)] ++ s = r else Lib.decDigits (u / 10) ++ ([UInt8.ofNat (48 + u % 10)] ++ s) = r) := by
  split
  · rename_i h0; rw [← decDigits_lt h0]; exact h
  · rename_i h0; rw [← List.append_assoc, ← decDigits_step (by omega)]; exact h
theorem tmod10 (n : Nat) : (n : Int).tmod 10 = ((n % 10 : Nat) : Int) := by rw [Int.tmod_eq_emod_of_nonneg (by omega)]; omega
theorem tdiv10 (n : Nat) : (n : Int).tdiv 10 = ((n / 10 : Nat) : Int) := by rw [Int.tdiv_eq_ediv_of_nonneg (by omega)]; omega
theorem decimal_fn (n : Nat) (hn : n ≤ 1000) : Fn Try.prog 67 [intA (n : Int)] (strA (tx (Lib.itoa n))) := by
  rw [Lib.itoa_nonneg]
  have t1 := tmod10 n
  have t2 := tdiv10 n
  refine Fn.intro rfl (by kernel_rfl) Try.func67 rfl rfl Try.ntmps67 (by exact Nat.le_of_ble_eq_true rfl) ?_; intro Γ hm
  (repeat' (first | apply jA | apply jF | apply jH | (refine WP.regionC (id := 0) ?_; (refine sassign rfl ?_); apply jW) | (refine WP.regionC (id := 1) ?_; (refine smove rfl ?_); (refine su (arem rfl rfl (by omega)) ?_); (refine sadd rfl rfl (by exact inr_i64_of (by omega)) ?_); (refine su (aconv rfl rfl (by kernel_rfl) (by exact inr_u8_of (by omega))) ?_); (refine se_lit (OpP.cons rfl (OpP.nil)) rfl rfl rfl rfl rfl rfl ?_); (refine su (ap_conv_r1 (rq_p rfl rfl) rfl (by omega) rfl rfl (by kernel_rfl) (by kernel_rfl)) ?_); (refine sassign rfl ?_); apply jW) | (refine WP.regionC (id := 2) ?_; (refine smove rfl ?_); (refine su (aquo rfl rfl (And.intro (by decide) (by exact inr_i64_of (by omega)))) ?_); (refine sassign rfl ?_); apply jW)))
  rw [t1, t2]
  have h0 : strB [UInt8.ofNat ((48 : Int) + ((n % 10 : Nat) : Int)).toNat] = tx [UInt8.ofNat (48 + n % 10)] := by
    rw [show ((48 : Int) + ((n % 10 : Nat) : Int)).toNat = 48 + n % 10 by omega]; rfl
  rw [h0]
  refine wp_loop (fun (x : Nat × List UInt8) => x.1 ≤ 1000 ∧ x.2.length ≤ 1000 - x.1 ∧ (if x.1 = 0 then x.2 = Lib.decDigits n else Lib.decDigits x.1 ++ x.2 = Lib.decDigits n)) (fun x => x.1)
    (fun x => (S 25 [(0, intA (x.1 : Nat)), (3, strA (tx x.2))] 0 [])) (n / 10, [UInt8.ofNat (48 + n % 10)]) ⟨[], ToR.S rfl (by repeat' (first | exact rt_nil | refine rt_e rfl rfl ?_)) (by repeat' (exact ro_nil)) rfl (by (rw [hm]; exact rfl)) rfl (by (simp [bdT, AV.bd, bdL, bdL_append]; done)) (by repeat' (exact True.intro)) (by (rw [hm]; exact Nat.le_of_ble_eq_true rfl))⟩ ⟨by dsimp only; omega, by simp; omega, ?_⟩ ?_
  · dsimp only
    split
    · rename_i hz; exact (decDigits_lt hz).symm
    · rename_i hz; exact (decDigits_step (by omega)).symm
  rintro ⟨m, s⟩ ⟨hm1, hm2, hm3⟩
  dsimp only at *
  have t1 := tmod10 m
  have t2 := tdiv10 m
  have hsz : (tx s).size = s.length := tx_size s
  by_cases hz : m = 0
  · subst hz
    rw [if_pos rfl] at hm3
    subst hm3
    (repeat' (first | apply jA | apply jH | apply jJ | apply jK | apply jL | apply jP | apply jS | (refine wp_cond rfl (fun hc => ?_) (fun hc => ?_) <;> (try simp only [sB, ne_eq, reduceCtorEq] at hc) <;> (try (exfalso; omega))) | (refine WP.regionC (id := 3) ?_; (refine smove rfl ?_); (refine su (agtr rfl rfl) ?_); apply jW) | (refine WP.regionC (id := 6) ?_; (refine smove rfl ?_); (refine sassign rfl ?_); apply jW) | exact ret_eq rfl rfl rfl))
  · rw [if_neg hz] at hm3
    have hsb : (strB [UInt8.ofNat ((48 : Int) + (m : Int).tmod 10).toNat]).size = 1 := rfl
    (repeat' (first | apply jA | apply jF | apply jH | apply jI | apply jN | (refine wp_cond rfl (fun hc => ?_) (fun hc => ?_) <;> (try simp only [sB, ne_eq, reduceCtorEq] at hc) <;> (try (exfalso; omega))) | (refine WP.regionC (id := 3) ?_; (refine smove rfl ?_); (refine su (agtr rfl rfl) ?_); apply jW) | (refine WP.regionC (id := 5) ?_; (refine smove rfl ?_); (refine su (arem rfl rfl (by omega)) ?_); (refine sadd rfl rfl (by exact inr_i64_of (by omega)) ?_); (refine su (aconv rfl rfl (by kernel_rfl) (by exact inr_u8_of (by omega))) ?_); (refine se_lit (OpP.cons rfl (OpP.nil)) rfl rfl rfl rfl rfl rfl ?_); (refine su (ap_conv_r1 (rq_p rfl rfl) rfl (by omega) rfl rfl (by kernel_rfl) (by kernel_rfl)) ?_); (refine smove rfl ?_); (refine su (acat rfl rfl (by omega)) ?_); (refine sassign rfl ?_); apply jW) | (refine WP.regionC (id := 4) ?_; (refine smove rfl ?_); (refine su (aquo rfl rfl (And.intro (by decide) (by exact inr_i64_of (by omega)))) ?_); (refine sassign rfl ?_); apply jW)))
    rw [t1, t2]
    have h0 : strB [UInt8.ofNat ((48 : Int) + ((m % 10 : Nat) : Int)).toNat] ++ tx s = tx ([UInt8.ofNat (48 + m % 10)] ++ s) := by
      rw [show ((48 : Int) + ((m % 10 : Nat) : Int)).toNat = 48 + m % 10 by omega]; exact tx_app _ _
    rw [h0]
    refine ⟨(m / 10, [UInt8.ofNat (48 + m % 10)] ++ s), ⟨by dsimp only; omega, by dsimp only; omega, by simp; omega, dec_inv hm3⟩, ⟨[], ToR.S rfl (by repeat' (first | exact rt_nil | refine rt_e rfl rfl ?_)) (by repeat' (exact ro_nil)) rfl (by (rw [hm]; exact rfl)) rfl (by (simp [bdT, AV.bd, bdL, bdL_append]; done)) (by repeat' (exact True.intro)) (by (rw [hm]; exact Nat.le_of_ble_eq_true rfl))⟩⟩
end Go.Lg

namespace Go.Lg
open Go.Proofs
set_option linter.unusedSimpArgs false
set_option linter.unusedVariables false
attribute [local irreducible] Ap Rq asemC WP RunD Ret Gq thenA inBlockA bodyQ noGotoA RqL RqP OpP
set_option maxHeartbeats 8000000
set_option maxRecDepth 20000
attribute [local simp] AV.cells altA
theorem kid_fn (e : GEx) (r : Bool) (hE : Fn Try.prog 78 [exprA e] (strA (tx (exT e)))) (hb : (exT e).length ≤ 1000000000) : Fn Try.prog 66 [exprA e, boolA r] (strA (tx (encT (exT e) r))) := by
  have hsz : (tx (exT e)).size = (exT e).length := tx_size _
  cases r with
  | false =>
    rw [show encT (exT e) false = exT e from rfl]
    refine Fn.intro rfl (by kernel_rfl) Try.func66 rfl rfl Try.ntmps66 (by exact Nat.le_of_ble_eq_true rfl) ?_; intro Γ hm
    (repeat' (first | apply jA | apply jH | apply jI | apply jK | apply jS | (refine wp_cond rfl (fun hc => ?_) (fun hc => ?_) <;> (try simp only [sB, ne_eq, reduceCtorEq] at hc) <;> (try (exfalso; omega))) | (refine WP.regionC (id := 0) ?_; (refine se_box rfl (by exact ⟨rfl, rfl⟩) ?_); (refine sassign rfl ?_); apply jW) | (refine WP.regionC (id := 1) ?_; (refine smove rfl ?_); apply jW) | (refine WP.regionC (id := 3) ?_; (refine sloadpw rfl rfl rfl rfl ?_); (refine sc_p rfl rfl (by first | ((repeat' first | exact SubL.nil | refine SubL.cons ?_ ?_ | exact Sub.refl); done) | fail) (by first | (simp [bdL, bdL_append, AV.bd]; done) | fail) (hE) ?_); (refine sassign rfl ?_); apply jW) | exact ret_eq rfl rfl rfl))
  | true =>
    have e1 : tx (encT (exT e) true) = (⟨#[40]⟩ : ByteArray) ++ tx (exT e) ++ ⟨#[41]⟩ := by
      apply ba_ext; simp only [encT, if_true, bl_app, bl_tx]; rfl
    rw [e1]
    refine Fn.intro rfl (by kernel_rfl) Try.func66 rfl rfl Try.ntmps66 (by exact Nat.le_of_ble_eq_true rfl) ?_; intro Γ hm
    (repeat' (first | apply jA | apply jH | apply jK | apply jM | apply jS | (refine wp_cond rfl (fun hc => ?_) (fun hc => ?_) <;> (try simp only [sB, ne_eq, reduceCtorEq] at hc) <;> (try (exfalso; omega))) | (refine WP.regionC (id := 0) ?_; (refine se_box rfl (by exact ⟨rfl, rfl⟩) ?_); (refine sassign rfl ?_); apply jW) | (refine WP.regionC (id := 1) ?_; (refine smove rfl ?_); apply jW) | (refine WP.regionC (id := 2) ?_; (refine sloadpw rfl rfl rfl rfl ?_); (refine sc_p rfl rfl (by first | ((repeat' first | exact SubL.nil | refine SubL.cons ?_ ?_ | exact Sub.refl); done) | fail) (by first | (simp [bdL, bdL_append, AV.bd]; done) | fail) (hE) ?_); (refine su (acat rfl rfl (by (simp only [bsz, sZ] <;> omega))) ?_); (refine su (acat rfl rfl (by (simp only [bsz, sZ] <;> omega))) ?_); (refine sassign rfl ?_); apply jW) | exact ret_eq rfl rfl rfl))
theorem tx3 (a : List UInt8) (b : ByteArray) (c : List UInt8) : tx a ++ b ++ tx c = tx (a ++ (bl b ++ c)) := by
  apply ba_ext; simp [bl_app]
theorem fexpr_fn (e : GEx) : ∀ d : Int, okE e d = true → (exT e).length ≤ 1000000000 → Fn Try.prog 78 [exprA e] (strA (tx (exT e))) := by
  induction e using GEx.ind with
  | h e ih =>
    intro d hv hb
    obtain ⟨hk, hkids⟩ := okE_iff hv
    rw [exT_eq] at hb ⊢
    rw [exprA, kids_exprsA]
    generalize hkd : e.kids = kids at *
    generalize e.kind = kk at *
    generalize e.name = nm at *
    clear hkd hv e
    rw [List.length_append] at hb
    have hK : ∀ i, i < kids.length → (exT (nth kids i)).length ≤ 1000000000 → ∀ r, Fn Try.prog 66 [exprA (nth kids i), boolA r] (strA (tx (encT (exT (nth kids i)) r))) :=
      fun i hi hl r => kid_fn _ r (ih _ (nth_mem hi) (d - 1) (hkids _ (nth_mem hi)) hl) hl
    have hl : True := trivial
    by_cases h1 : kk = 1
    · have hk0 : kids = [] := by
        subst h1; simp [okK] at hk; exact hk.2
      subst hk0
      have e1 : tx (kidsT kk false [] ++ tailT kk nm) = nm := by simp [kidsT, tailT, h1, tx_bl]
      rw [e1]
      refine Fn.intro rfl (by kernel_rfl) Try.func78 rfl rfl Try.ntmps78 (by exact Nat.le_of_ble_eq_true rfl) ?_; intro Γ hm
      (repeat' (first | apply jA | apply jF | apply jH | apply jK | apply jN | apply jS | (refine wp_cond rfl (fun hc => ?_) (fun hc => ?_) <;> (try simp only [sB, ne_eq, reduceCtorEq] at hc) <;> (try (exfalso; omega))) | (refine WP.regionC (id := 0) ?_; (refine se_box rfl (by exact ⟨rfl, rfl⟩) ?_); (refine sassign rfl ?_); apply jW) | (refine WP.regionC (id := 1) ?_; (refine sassign rfl ?_); apply jW) | (refine WP.regionC (id := 2) ?_; (refine sfieldp rfl rfl rfl ?_); (refine sloadp rfl rfl rfl rfl ?_); apply jW) | (refine WP.regionC (id := 10) ?_; (refine seql rfl rfl ?_); (refine sassign rfl ?_); apply jW) | (refine WP.regionC (id := 11) ?_; (refine sfieldp rfl rfl rfl ?_); (refine sloadp rfl rfl rfl rfl ?_); (refine sassign rfl ?_); apply jW) | (refine WP.regionC (id := 26) ?_; (refine smove rfl ?_); (refine sassign rfl ?_); apply jW) | exact ret_eq rfl rfl rfl))
    have ht : kk = 2 ∨ kk = 3 → tailT kk nm = [] := by rintro (h | h) <;> simp [tailT, h]
    by_cases h2 : kk = 2
    · rw [ht (.inl h2), List.append_nil]
      refine Fn.intro rfl (by kernel_rfl) Try.func78 rfl rfl Try.ntmps78 (by exact Nat.le_of_ble_eq_true rfl) ?_; intro Γ hm
      refine wp_lens 0 rfl fun hl => ?_
      have hl : kids.length ≤ 9223372036854775807 := by have := hl; simp [AV.lens, lensL, exprsA] at this; omega
      (repeat' (first | apply jA | apply jF | apply jH | (refine wp_cond rfl (fun hc => ?_) (fun hc => ?_) <;> (try simp only [sB, ne_eq, reduceCtorEq] at hc) <;> (try (exfalso; omega))) | (refine WP.regionC (id := 0) ?_; (refine se_box rfl (by exact ⟨rfl, rfl⟩) ?_); (refine sassign rfl ?_); apply jW) | (refine WP.regionC ?_; (refine sassign rfl ?_); apply jW) | (refine WP.regionC (id := 2) ?_; (refine sfieldp rfl rfl rfl ?_); (refine sloadp rfl rfl rfl rfl ?_); apply jW) | (refine WP.regionC ?_; (refine seql rfl rfl ?_); (refine sassign rfl ?_); apply jW)))
      refine wp_loop (fun (i : Nat) => i ≤ kids.length) (fun i => kids.length - i)
        (fun i => (S 120 [(1, .ptr 0 3 0 0), (3, strA (tx (kidsT kk false (kids.take i)))), (4, intA (i : Nat))] 1 [(0, some (.arr 3 [.agg [intA kk, strA nm, exprsA kids]]))])) 0 ⟨[0], ToR.S rfl (by repeat' (first | exact rt_nil | refine rt_t rfl rfl ?_ | refine rt_e rfl rfl ?_)) (by repeat' (first | exact ro_nil | refine ro_p rfl (by first | exact rfl | fail) (by first | (simp [bdL, bdL_append, AV.bd]; done) | fail) ?_)) rfl (by (rw [hm]; exact rfl)) rfl (by (simp [bdT, AV.bd, bdL, bdL_append]; done)) (by repeat' (first | exact True.intro | refine And.intro ?_ ?_ | (simp [bdOq, bdL, bdL_append, AV.bd]; done))) (by (rw [hm]; exact Nat.le_of_ble_eq_true rfl))⟩ (Nat.zero_le _) ?_
      rintro i hi
      have hmo := kidsT_mono kk kids hi
      have hs1 : (tx (kidsT kk false (kids.take i))).size = (kidsT kk false (kids.take i)).length := tx_size _
      by_cases hlt : i < kids.length
      · have hmo2 := kidsT_mono kk kids (i := i + 1) (by omega)
        rw [kidsT_take hlt, List.length_append, oneT, List.length_append] at hmo2
        have hen := encT_len (exT (nth kids i)) (reqP kk (nth kids i))
        have hX := hK i hlt (by omega)
        have hen2 : ∀ r, (tx (encT (exT (nth kids i)) r)).size ≤ (exT (nth kids i)).length + 2 := fun r => by rw [tx_size]; cases r <;> simp [encT]
        have hen3 := hen2 true
        have hen4 := hen2 (decide ((nth kids i).kind = 3))
        (repeat' (first | apply jA | apply jF | apply jH | apply jI | apply jN | (refine wp_cond rfl (fun hc => ?_) (fun hc => ?_) <;> (try simp only [sB, ne_eq, reduceCtorEq] at hc) <;> (try (exfalso; omega))) | (refine WP.regionC (id := 14) ?_; (refine smove rfl ?_); (refine sfieldp rfl rfl rfl ?_); (refine sloadp rfl rfl rfl rfl ?_); (refine slenm rfl rfl ?_); (refine slss rfl rfl ?_); apply jW) | (refine WP.regionC (id := 16) ?_; (refine smove rfl ?_); (refine su (agtr rfl rfl) ?_); apply jW) | (refine WP.regionC (id := 17) ?_; (refine smove rfl ?_); (refine su (acat rfl rfl (by (simp only [bsz, sZ] <;> omega))) ?_); (refine sassign rfl ?_); apply jW) | (refine wp_draw (id := 18) 25 mixed (by kernel_rfl) (by kernel_rfl) rfl ?_ <;> (refine rmove rfl ?_) <;> (refine rfieldp rfl rfl rfl ?_) <;> (refine rloadp rfl rfl rfl rfl ?_) <;> (refine rmove rfl ?_) <;> (refine rd_u rfl rfl (aidxn rfl rfl (by omega)) ?_) <;> (refine rd_u rfl rfl (aloadw rfl rfl) ?_) <;> (refine rfieldp rfl rfl rfl ?_) <;> (refine rloadp rfl rfl rfl rfl ?_) <;> (refine rmove rfl ?_) <;> (refine rd_u rfl rfl (aidxn rfl rfl (by omega)) ?_) <;> (refine rd_u rfl rfl (afieldi rfl rfl rfl) ?_) <;> (refine rd_u rfl rfl (aloadi rfl rfl) ?_) <;> (refine rd_u rfl rfl (aeql rfl rfl) ?_) <;> (refine rmove rfl ?_) <;> ((refine rd_split (t := 61) rfl (fun hc => ?_) (fun hc => ?_) <;> (try simp only [sB, ne_eq, reduceCtorEq] at hc) <;> (try (exfalso; omega)) <;> (first | refine rd_skip rfl rfl ?_ | refine gfieldp rfl rfl rfl rfl rfl ?_))) <;> (first | refine rd_skip rfl rfl ?_ | refine gloadp rfl rfl rfl rfl rfl rfl ?_) <;> (first | refine rd_skip rfl rfl ?_ | refine gmove rfl rfl rfl ?_) <;> (first | refine rd_skip rfl rfl ?_ | refine rdg_u rfl rfl rfl rfl (aidxn rfl rfl (by omega)) ?_) <;> (first | refine rd_skip rfl rfl ?_ | refine rdg_u rfl rfl rfl rfl (afieldi rfl rfl rfl) ?_) <;> (first | refine rd_skip rfl rfl ?_ | refine rdg_u rfl rfl rfl rfl (aloadi rfl rfl) ?_) <;> (first | refine rd_skip rfl rfl ?_ | refine rdg_u rfl rfl rfl rfl (aeql rfl rfl) ?_) <;> (first | refine rd_pick_t rfl rfl ?_ | refine rd_pick_f rfl rfl ?_) <;> (refine rd_call rfl rfl (by first | ((repeat' first | exact SubL.nil | refine SubL.cons ?_ ?_ | exact Sub.refl); done) | fail) (by first | (simp [bdL, bdL_append, AV.bd]; done) | fail) (hX _) ?_) <;> (refine rd_u rfl rfl (acat rfl rfl (by first | omega | (simp only [bsz, sZ] <;> omega))) ?_) <;> (refine rd_u rfl rfl (aassign rfl) ?_) <;> (refine rd_end (by kernel_rfl) ?_)) | (refine WP.regionC (id := 15) ?_; (refine smove rfl ?_); (refine sadd rfl rfl (by exact inr_i64_of (by omega)) ?_); (refine sassign rfl ?_); apply jW)))
        · have e1 : tx (kidsT kk false (kids.take (i + 1))) = tx (kidsT kk false (kids.take i)) ++ (⟨#[32]⟩ : ByteArray) ++ tx (encT (exT (nth kids i)) (true)) := by
            rw [tx3, kidsT_take hlt, oneT, if_neg (by omega), show reqP kk (nth kids i) = (true) by simp [reqP, h2, hc]]; simp [sepT, bl, h2, hc]
          refine ⟨i + 1, ⟨by omega, by omega⟩, ?_⟩
          rw [e1]
          exact ⟨[0], ToR.S rfl (by repeat' (first | exact rt_nil | refine rt_t rfl rfl ?_ | refine rt_e rfl rfl ?_)) (by repeat' (first | exact ro_nil | refine ro_p rfl (by first | exact rfl | fail) (by first | (simp [bdL, bdL_append, AV.bd]; done) | fail) ?_)) rfl (by (rw [hm]; exact rfl)) rfl (by (simp [bdT, AV.bd, bdL, bdL_append]; done)) (by repeat' (first | exact True.intro | refine And.intro ?_ ?_ | (simp [bdOq, bdL, bdL_append, AV.bd]; done))) (by (rw [hm]; exact Nat.le_of_ble_eq_true rfl))⟩
        · have e1 : tx (kidsT kk false (kids.take (i + 1))) = tx (kidsT kk false (kids.take i)) ++ (⟨#[32]⟩ : ByteArray) ++ tx (encT (exT (nth kids i)) (decide ((nth kids i).kind = 3))) := by
            rw [tx3, kidsT_take hlt, oneT, if_neg (by omega), show reqP kk (nth kids i) = (decide ((nth kids i).kind = 3)) by simp [reqP, h2, hc]]; simp [sepT, bl, h2, hc]
          refine ⟨i + 1, ⟨by omega, by omega⟩, ?_⟩
          rw [e1]
          exact ⟨[0], ToR.S rfl (by repeat' (first | exact rt_nil | refine rt_t rfl rfl ?_ | refine rt_e rfl rfl ?_)) (by repeat' (first | exact ro_nil | refine ro_p rfl (by first | exact rfl | fail) (by first | (simp [bdL, bdL_append, AV.bd]; done) | fail) ?_)) rfl (by (rw [hm]; exact rfl)) rfl (by (simp [bdT, AV.bd, bdL, bdL_append]; done)) (by repeat' (first | exact True.intro | refine And.intro ?_ ?_ | (simp [bdOq, bdL, bdL_append, AV.bd]; done))) (by (rw [hm]; exact Nat.le_of_ble_eq_true rfl))⟩
        · have e1 : tx (kidsT kk false (kids.take (i + 1))) = tx (kidsT kk false (kids.take i)) ++ tx (encT (exT (nth kids i)) (true)) := by
            rw [tx_app, kidsT_take hlt, oneT, if_pos (by omega), show reqP kk (nth kids i) = (true) by simp [reqP, h2, hc], List.nil_append]
          refine ⟨i + 1, ⟨by omega, by omega⟩, ?_⟩
          rw [e1]
          exact ⟨[0], ToR.S rfl (by repeat' (first | exact rt_nil | refine rt_t rfl rfl ?_ | refine rt_e rfl rfl ?_)) (by repeat' (first | exact ro_nil | refine ro_p rfl (by first | exact rfl | fail) (by first | (simp [bdL, bdL_append, AV.bd]; done) | fail) ?_)) rfl (by (rw [hm]; exact rfl)) rfl (by (simp [bdT, AV.bd, bdL, bdL_append]; done)) (by repeat' (first | exact True.intro | refine And.intro ?_ ?_ | (simp [bdOq, bdL, bdL_append, AV.bd]; done))) (by (rw [hm]; exact Nat.le_of_ble_eq_true rfl))⟩
        · have e1 : tx (kidsT kk false (kids.take (i + 1))) = tx (kidsT kk false (kids.take i)) ++ tx (encT (exT (nth kids i)) (decide ((nth kids i).kind = 3))) := by
            rw [tx_app, kidsT_take hlt, oneT, if_pos (by omega), show reqP kk (nth kids i) = (decide ((nth kids i).kind = 3)) by simp [reqP, h2, hc], List.nil_append]
          refine ⟨i + 1, ⟨by omega, by omega⟩, ?_⟩
          rw [e1]
          exact ⟨[0], ToR.S rfl (by repeat' (first | exact rt_nil | refine rt_t rfl rfl ?_ | refine rt_e rfl rfl ?_)) (by repeat' (first | exact ro_nil | refine ro_p rfl (by first | exact rfl | fail) (by first | (simp [bdL, bdL_append, AV.bd]; done) | fail) ?_)) rfl (by (rw [hm]; exact rfl)) rfl (by (simp [bdT, AV.bd, bdL, bdL_append]; done)) (by repeat' (first | exact True.intro | refine And.intro ?_ ?_ | (simp [bdOq, bdL, bdL_append, AV.bd]; done))) (by (rw [hm]; exact Nat.le_of_ble_eq_true rfl))⟩
      · obtain rfl : i = kids.length := by omega
        rw [List.take_of_length_le (Nat.le_refl _)]
        (repeat' (first | apply jA | apply jH | apply jJ | apply jK | apply jL | apply jN | apply jP | apply jS | (refine wp_cond rfl (fun hc => ?_) (fun hc => ?_) <;> (try simp only [sB, ne_eq, reduceCtorEq] at hc) <;> (try (exfalso; omega))) | (refine WP.regionC (id := 14) ?_; (refine smove rfl ?_); (refine sfieldp rfl rfl rfl ?_); (refine sloadp rfl rfl rfl rfl ?_); (refine slenm rfl rfl ?_); (refine slss rfl rfl ?_); apply jW) | (refine WP.regionC (id := 26) ?_; (refine smove rfl ?_); (refine sassign rfl ?_); apply jW) | exact ret_eq rfl rfl rfl))
    by_cases h3 : kk = 3
    · rw [ht (.inr h3), List.append_nil]
      refine Fn.intro rfl (by kernel_rfl) Try.func78 rfl rfl Try.ntmps78 (by exact Nat.le_of_ble_eq_true rfl) ?_; intro Γ hm
      refine wp_lens 0 rfl fun hl => ?_
      have hl : kids.length ≤ 9223372036854775807 := by have := hl; simp [AV.lens, lensL, exprsA] at this; omega
      (repeat' (first | apply jA | apply jF | apply jH | (refine wp_cond rfl (fun hc => ?_) (fun hc => ?_) <;> (try simp only [sB, ne_eq, reduceCtorEq] at hc) <;> (try (exfalso; omega))) | (refine WP.regionC (id := 0) ?_; (refine se_box rfl (by exact ⟨rfl, rfl⟩) ?_); (refine sassign rfl ?_); apply jW) | (refine WP.regionC ?_; (refine sassign rfl ?_); apply jW) | (refine WP.regionC (id := 2) ?_; (refine sfieldp rfl rfl rfl ?_); (refine sloadp rfl rfl rfl rfl ?_); apply jW) | (refine WP.regionC ?_; (refine seql rfl rfl ?_); (refine sassign rfl ?_); apply jW)))
      refine wp_loop (fun (i : Nat) => i ≤ kids.length) (fun i => kids.length - i)
        (fun i => (S 120 [(1, .ptr 0 3 0 0), (3, strA (tx (kidsT kk false (kids.take i)))), (5, intA (i : Nat))] 1 [(0, some (.arr 3 [.agg [intA kk, strA nm, exprsA kids]]))])) 0 ⟨[0], ToR.S rfl (by repeat' (first | exact rt_nil | refine rt_t rfl rfl ?_ | refine rt_e rfl rfl ?_)) (by repeat' (first | exact ro_nil | refine ro_p rfl (by first | exact rfl | fail) (by first | (simp [bdL, bdL_append, AV.bd]; done) | fail) ?_)) rfl (by (rw [hm]; exact rfl)) rfl (by (simp [bdT, AV.bd, bdL, bdL_append]; done)) (by repeat' (first | exact True.intro | refine And.intro ?_ ?_ | (simp [bdOq, bdL, bdL_append, AV.bd]; done))) (by (rw [hm]; exact Nat.le_of_ble_eq_true rfl))⟩ (Nat.zero_le _) ?_
      rintro i hi
      have hmo := kidsT_mono kk kids hi
      have hs1 : (tx (kidsT kk false (kids.take i))).size = (kidsT kk false (kids.take i)).length := tx_size _
      by_cases hlt : i < kids.length
      · have hmo2 := kidsT_mono kk kids (i := i + 1) (by omega)
        rw [kidsT_take hlt, List.length_append, oneT, List.length_append] at hmo2
        have hen := encT_len (exT (nth kids i)) (reqP kk (nth kids i))
        have hX := hK i hlt (by omega)
        have hen2 : ∀ r, (tx (encT (exT (nth kids i)) r)).size ≤ (exT (nth kids i)).length + 2 := fun r => by rw [tx_size]; cases r <;> simp [encT]
        have hen3 := hen2 true
        have hen4 := hen2 false
        have hen5 := hen2 (decide (((kidsL (nth kids i)).length : Int) = 0))
        (repeat' (first | apply jA | apply jF | apply jH | apply jI | apply jN | (refine wp_cond rfl (fun hc => ?_) (fun hc => ?_) <;> (try simp only [sB, ne_eq, reduceCtorEq] at hc) <;> (try (exfalso; omega))) | (refine WP.regionC (id := 21) ?_; (refine smove rfl ?_); (refine sfieldp rfl rfl rfl ?_); (refine sloadp rfl rfl rfl rfl ?_); (refine slenm rfl rfl ?_); (refine slss rfl rfl ?_); apply jW) | (refine WP.regionC (id := 23) ?_; (refine smove rfl ?_); (refine su (agtr rfl rfl) ?_); apply jW) | (refine WP.regionC (id := 24) ?_; (refine smove rfl ?_); (refine su (acat rfl rfl (by (simp only [bsz, sZ] <;> omega))) ?_); (refine sassign rfl ?_); apply jW) | (refine wp_draw (id := 25) 35 mixed (by kernel_rfl) (by kernel_rfl) rfl ?_ <;> (refine rmove rfl ?_) <;> (refine rfieldp rfl rfl rfl ?_) <;> (refine rloadp rfl rfl rfl rfl ?_) <;> (refine rmove rfl ?_) <;> (refine rd_u rfl rfl (aidxn rfl rfl (by omega)) ?_) <;> (refine rd_u rfl rfl (aloadw rfl rfl) ?_) <;> (refine rfieldp rfl rfl rfl ?_) <;> (refine rloadp rfl rfl rfl rfl ?_) <;> (refine rmove rfl ?_) <;> (refine rd_u rfl rfl (aidxn rfl rfl (by omega)) ?_) <;> (refine rd_u rfl rfl (afieldi rfl rfl rfl) ?_) <;> (refine rd_u rfl rfl (aloadi rfl rfl) ?_) <;> (refine rd_u rfl rfl (aeql rfl rfl) ?_) <;> (refine rmove rfl ?_) <;> ((refine rd_split (t := 98) rfl (fun hc => ?_) (fun hc => ?_) <;> (try simp only [sB, ne_eq, reduceCtorEq] at hc) <;> (try (exfalso; omega)) <;> (first | refine rd_skip rfl rfl ?_ | refine gfieldp rfl rfl rfl rfl rfl ?_))) <;> (first | refine rd_skip rfl rfl ?_ | refine gloadp rfl rfl rfl rfl rfl rfl ?_) <;> (first | refine rd_skip rfl rfl ?_ | refine gmove rfl rfl rfl ?_) <;> (first | refine rd_skip rfl rfl ?_ | refine rdg_u rfl rfl rfl rfl (aidxn rfl rfl (by omega)) ?_) <;> (first | refine rd_skip rfl rfl ?_ | refine rdg_u rfl rfl rfl rfl (afieldi rfl rfl rfl) ?_) <;> (first | refine rd_skip rfl rfl ?_ | refine rdg_u rfl rfl rfl rfl (aloadi rfl rfl) ?_) <;> (first | refine rd_skip rfl rfl ?_ | refine rdg_u rfl rfl rfl rfl (aeql rfl rfl) ?_) <;> (first | refine rd_skip rfl rfl ?_ | refine gmove rfl rfl rfl ?_) <;> (first | refine rd_skip2 rfl rfl ?_ | (refine rd_split (t := 106) rfl (fun hc => ?_) (fun hc => ?_) <;> (try simp only [sB, ne_eq, reduceCtorEq] at hc) <;> (try (exfalso; omega)) <;> (first | refine rd_skip rfl rfl ?_ | refine gfieldp rfl rfl rfl rfl rfl ?_))) <;> (first | refine rd_skip rfl rfl ?_ | refine rd_skip2 rfl rfl ?_ | refine gloadp rfl rfl rfl rfl rfl rfl ?_) <;> (first | refine rd_skip rfl rfl ?_ | refine rd_skip2 rfl rfl ?_ | refine gmove rfl rfl rfl ?_) <;> (first | refine rd_skip rfl rfl ?_ | refine rd_skip2 rfl rfl ?_ | refine rdg_u rfl rfl rfl rfl (aidxn rfl rfl (by omega)) ?_) <;> (first | refine rd_skip rfl rfl ?_ | refine rd_skip2 rfl rfl ?_ | refine rdg_u rfl rfl rfl rfl (afieldi rfl rfl rfl) ?_) <;> (first | refine rd_skip rfl rfl ?_ | refine rd_skip2 rfl rfl ?_ | refine rdg_u rfl rfl rfl rfl (aloadi rfl rfl) ?_) <;> (first | refine rd_skip rfl rfl ?_ | refine rd_skip2 rfl rfl ?_ | refine rdg_u rfl rfl rfl rfl (alens rfl rfl) ?_) <;> (first | refine rd_skip rfl rfl ?_ | refine rd_skip2 rfl rfl ?_ | refine rdg_u rfl rfl rfl rfl (aeql rfl rfl) ?_) <;> (first | refine rd_skip rfl rfl ?_ | refine rdg_pick_t rfl rfl rfl rfl ?_ | refine rdg_pick_f rfl rfl rfl rfl ?_) <;> (first | refine rd_pick_t rfl rfl ?_ | refine rd_pick_f rfl rfl ?_) <;> (refine rd_call rfl rfl (by first | ((repeat' first | exact SubL.nil | refine SubL.cons ?_ ?_ | exact Sub.refl); done) | fail) (by first | (simp [bdL, bdL_append, AV.bd]; done) | fail) (hX _) ?_) <;> (refine rd_u rfl rfl (acat rfl rfl (by first | omega | (simp only [bsz, sZ] <;> omega))) ?_) <;> (refine rd_u rfl rfl (aassign rfl) ?_) <;> (refine rd_end (by kernel_rfl) ?_)) | (refine WP.regionC (id := 22) ?_; (refine smove rfl ?_); (refine sadd rfl rfl (by exact inr_i64_of (by omega)) ?_); (refine sassign rfl ?_); apply jW)))
        · have e1 : tx (kidsT kk false (kids.take (i + 1))) = tx (kidsT kk false (kids.take i)) ++ (⟨#[32, 124, 32]⟩ : ByteArray) ++ tx (encT (exT (nth kids i)) (true)) := by
            rw [tx3, kidsT_take hlt, oneT, if_neg (by omega), show reqP kk (nth kids i) = (true) from by simp [reqP, h3, hc]]; simp [sepT, bl, h3, hc]
          refine ⟨i + 1, ⟨by omega, by omega⟩, ?_⟩
          rw [e1]
          exact ⟨[0], ToR.S rfl (by repeat' (first | exact rt_nil | refine rt_t rfl rfl ?_ | refine rt_e rfl rfl ?_)) (by repeat' (first | exact ro_nil | refine ro_p rfl (by first | exact rfl | fail) (by first | (simp [bdL, bdL_append, AV.bd]; done) | fail) ?_)) rfl (by (rw [hm]; exact rfl)) rfl (by (simp [bdT, AV.bd, bdL, bdL_append]; done)) (by repeat' (first | exact True.intro | refine And.intro ?_ ?_ | (simp [bdOq, bdL, bdL_append, AV.bd]; done))) (by (rw [hm]; exact Nat.le_of_ble_eq_true rfl))⟩
        · have e1 : tx (kidsT kk false (kids.take (i + 1))) = tx (kidsT kk false (kids.take i)) ++ (⟨#[32, 124, 32]⟩ : ByteArray) ++ tx (encT (exT (nth kids i)) (decide (((kidsL (nth kids i)).length : Int) = 0))) := by
            rw [tx3, kidsT_take hlt, oneT, if_neg (by omega), show reqP kk (nth kids i) = (decide (((kidsL (nth kids i)).length : Int) = 0)) from by simp [reqP, h3, hc]]; simp [sepT, bl, h3, hc]
          refine ⟨i + 1, ⟨by omega, by omega⟩, ?_⟩
          rw [e1]
          exact ⟨[0], ToR.S rfl (by repeat' (first | exact rt_nil | refine rt_t rfl rfl ?_ | refine rt_e rfl rfl ?_)) (by repeat' (first | exact ro_nil | refine ro_p rfl (by first | exact rfl | fail) (by first | (simp [bdL, bdL_append, AV.bd]; done) | fail) ?_)) rfl (by (rw [hm]; exact rfl)) rfl (by (simp [bdT, AV.bd, bdL, bdL_append]; done)) (by repeat' (first | exact True.intro | refine And.intro ?_ ?_ | (simp [bdOq, bdL, bdL_append, AV.bd]; done))) (by (rw [hm]; exact Nat.le_of_ble_eq_true rfl))⟩
        · rename_i hc3
          have e1 : tx (kidsT kk false (kids.take (i + 1))) = tx (kidsT kk false (kids.take i)) ++ (⟨#[32, 124, 32]⟩ : ByteArray) ++ tx (encT (exT (nth kids i)) (false)) := by
            rw [tx3, kidsT_take hlt, oneT, if_neg (by omega), show reqP kk (nth kids i) = (false) from by simp [reqP, h3, hc, hc3]]; simp [sepT, bl, h3, hc, hc3]
          refine ⟨i + 1, ⟨by omega, by omega⟩, ?_⟩
          rw [e1]
          exact ⟨[0], ToR.S rfl (by repeat' (first | exact rt_nil | refine rt_t rfl rfl ?_ | refine rt_e rfl rfl ?_)) (by repeat' (first | exact ro_nil | refine ro_p rfl (by first | exact rfl | fail) (by first | (simp [bdL, bdL_append, AV.bd]; done) | fail) ?_)) rfl (by (rw [hm]; exact rfl)) rfl (by (simp [bdT, AV.bd, bdL, bdL_append]; done)) (by repeat' (first | exact True.intro | refine And.intro ?_ ?_ | (simp [bdOq, bdL, bdL_append, AV.bd]; done))) (by (rw [hm]; exact Nat.le_of_ble_eq_true rfl))⟩
        · have e1 : tx (kidsT kk false (kids.take (i + 1))) = tx (kidsT kk false (kids.take i)) ++ tx (encT (exT (nth kids i)) (true)) := by
            rw [tx_app, kidsT_take hlt, oneT, if_pos (by omega), show reqP kk (nth kids i) = (true) from by simp [reqP, h3, hc], List.nil_append]
          refine ⟨i + 1, ⟨by omega, by omega⟩, ?_⟩
          rw [e1]
          exact ⟨[0], ToR.S rfl (by repeat' (first | exact rt_nil | refine rt_t rfl rfl ?_ | refine rt_e rfl rfl ?_)) (by repeat' (first | exact ro_nil | refine ro_p rfl (by first | exact rfl | fail) (by first | (simp [bdL, bdL_append, AV.bd]; done) | fail) ?_)) rfl (by (rw [hm]; exact rfl)) rfl (by (simp [bdT, AV.bd, bdL, bdL_append]; done)) (by repeat' (first | exact True.intro | refine And.intro ?_ ?_ | (simp [bdOq, bdL, bdL_append, AV.bd]; done))) (by (rw [hm]; exact Nat.le_of_ble_eq_true rfl))⟩
        · have e1 : tx (kidsT kk false (kids.take (i + 1))) = tx (kidsT kk false (kids.take i)) ++ tx (encT (exT (nth kids i)) (decide (((kidsL (nth kids i)).length : Int) = 0))) := by
            rw [tx_app, kidsT_take hlt, oneT, if_pos (by omega), show reqP kk (nth kids i) = (decide (((kidsL (nth kids i)).length : Int) = 0)) from by simp [reqP, h3, hc], List.nil_append]
          refine ⟨i + 1, ⟨by omega, by omega⟩, ?_⟩
          rw [e1]
          exact ⟨[0], ToR.S rfl (by repeat' (first | exact rt_nil | refine rt_t rfl rfl ?_ | refine rt_e rfl rfl ?_)) (by repeat' (first | exact ro_nil | refine ro_p rfl (by first | exact rfl | fail) (by first | (simp [bdL, bdL_append, AV.bd]; done) | fail) ?_)) rfl (by (rw [hm]; exact rfl)) rfl (by (simp [bdT, AV.bd, bdL, bdL_append]; done)) (by repeat' (first | exact True.intro | refine And.intro ?_ ?_ | (simp [bdOq, bdL, bdL_append, AV.bd]; done))) (by (rw [hm]; exact Nat.le_of_ble_eq_true rfl))⟩
        · rename_i hc3
          have e1 : tx (kidsT kk false (kids.take (i + 1))) = tx (kidsT kk false (kids.take i)) ++ tx (encT (exT (nth kids i)) (false)) := by
            rw [tx_app, kidsT_take hlt, oneT, if_pos (by omega), show reqP kk (nth kids i) = (false) from by simp [reqP, h3, hc, hc3], List.nil_append]
          refine ⟨i + 1, ⟨by omega, by omega⟩, ?_⟩
          rw [e1]
          exact ⟨[0], ToR.S rfl (by repeat' (first | exact rt_nil | refine rt_t rfl rfl ?_ | refine rt_e rfl rfl ?_)) (by repeat' (first | exact ro_nil | refine ro_p rfl (by first | exact rfl | fail) (by first | (simp [bdL, bdL_append, AV.bd]; done) | fail) ?_)) rfl (by (rw [hm]; exact rfl)) rfl (by (simp [bdT, AV.bd, bdL, bdL_append]; done)) (by repeat' (first | exact True.intro | refine And.intro ?_ ?_ | (simp [bdOq, bdL, bdL_append, AV.bd]; done))) (by (rw [hm]; exact Nat.le_of_ble_eq_true rfl))⟩
      · obtain rfl : i = kids.length := by omega
        rw [List.take_of_length_le (Nat.le_refl _)]
        (repeat' (first | apply jA | apply jH | apply jJ | apply jK | apply jL | apply jN | apply jP | apply jS | (refine wp_cond rfl (fun hc => ?_) (fun hc => ?_) <;> (try simp only [sB, ne_eq, reduceCtorEq] at hc) <;> (try (exfalso; omega))) | (refine WP.regionC (id := 21) ?_; (refine smove rfl ?_); (refine sfieldp rfl rfl rfl ?_); (refine sloadp rfl rfl rfl rfl ?_); (refine slenm rfl rfl ?_); (refine slss rfl rfl ?_); apply jW) | (refine WP.regionC (id := 26) ?_; (refine smove rfl ?_); (refine sassign rfl ?_); apply jW) | exact ret_eq rfl rfl rfl))
    obtain ⟨x, rfl⟩ : ∃ x, kids = [x] := by
      have : kids.length = 1 := by
        simp only [okK, Bool.or_eq_true, Bool.and_eq_true, decide_eq_true_eq] at hk
        omega
      exact List.length_eq_one_iff.1 this
    have e0 : kidsT kk false [x] = encT (exT x) (!decide (x.kind = 1)) := by simp [kidsT, reqP, h2, h3]
    rw [e0] at hb ⊢
    have hen := encT_len (exT x) (!decide (x.kind = 1))
    have hx : ∀ r, Fn Try.prog 66 [exprA x, boolA r] (strA (tx (encT (exT x) r))) := hK 0 (by simp) (by show (exT x).length ≤ _; omega)
    have hs1 : (tx (encT (exT x) (!decide (x.kind = 1)))).size = (encT (exT x) (!decide (x.kind = 1))).length := tx_size _
    have hs2 : (tx (encT (exT x) (!decide ((nth [x] 0).kind = 1)))).size = (encT (exT x) (!decide (x.kind = 1))).length := hs1
    by_cases h4 : kk = 4
    · have e1 : tx (encT (exT x) (!decide (x.kind = 1)) ++ tailT kk nm) = tx (encT (exT x) (!decide (x.kind = 1))) ++ ⟨#[63]⟩ := by
        rw [show tailT kk nm = [63] by simp [tailT, h4]]; exact (tx_app _ _).symm
      rw [e1]
      refine Fn.intro rfl (by kernel_rfl) Try.func78 rfl rfl Try.ntmps78 (by exact Nat.le_of_ble_eq_true rfl) ?_; intro Γ hm
      (repeat' (first | apply jA | apply jF | apply jH | apply jK | apply jN | apply jS | (refine wp_cond rfl (fun hc => ?_) (fun hc => ?_) <;> (try simp only [sB, ne_eq, reduceCtorEq] at hc) <;> (try (exfalso; omega))) | (refine WP.regionC (id := 0) ?_; (refine se_box rfl (by exact ⟨rfl, rfl⟩) ?_); (refine sassign rfl ?_); apply jW) | (refine WP.regionC (id := 1) ?_; (refine sassign rfl ?_); apply jW) | (refine WP.regionC ?_; (refine sfieldp rfl rfl rfl ?_); (refine sloadp rfl rfl rfl rfl ?_); apply jW) | (refine WP.regionC ?_; (refine seql rfl rfl ?_); (refine sassign rfl ?_); apply jW) | (refine wp_draw (id := 3) 12 mixed (by kernel_rfl) (by kernel_rfl) rfl ?_ <;> (refine rfieldp rfl rfl rfl ?_) <;> (refine rloadp rfl rfl rfl rfl ?_) <;> (refine rd_u rfl rfl (aidxn rfl rfl (by (simp only [sL] <;> omega))) ?_) <;> (refine rd_u rfl rfl (aloadw rfl rfl) ?_) <;> (refine rfieldp rfl rfl rfl ?_) <;> (refine rloadp rfl rfl rfl rfl ?_) <;> (refine rd_u rfl rfl (aidxn rfl rfl (by (simp only [sL] <;> omega))) ?_) <;> (refine rd_u rfl rfl (afieldi rfl rfl rfl) ?_) <;> (refine rd_u rfl rfl (aloadi rfl rfl) ?_) <;> (refine rd_u rfl rfl (aneq rfl rfl) ?_) <;> (refine rd_call rfl rfl (by first | ((repeat' first | exact SubL.nil | refine SubL.cons ?_ ?_ | exact Sub.refl); done) | fail) (by first | (simp [bdL, bdL_append, AV.bd]; done) | fail) (hx _) ?_) <;> (refine rd_u rfl rfl (aassign rfl) ?_) <;> (refine rd_end (by kernel_rfl) ?_)) | (refine WP.regionC (id := 7) ?_; (refine smove rfl ?_); (refine su (acat rfl rfl (by (simp only [bsz, sZ] <;> omega))) ?_); (refine sassign rfl ?_); apply jW) | (refine WP.regionC (id := 26) ?_; (refine smove rfl ?_); (refine sassign rfl ?_); apply jW) | exact ret_eq rfl rfl rfl))
    by_cases h5 : kk = 5
    · have e1 : tx (encT (exT x) (!decide (x.kind = 1)) ++ tailT kk nm) = tx (encT (exT x) (!decide (x.kind = 1))) ++ ⟨#[42]⟩ := by
        rw [show tailT kk nm = [42] by simp [tailT, h5]]; exact (tx_app _ _).symm
      rw [e1]
      refine Fn.intro rfl (by kernel_rfl) Try.func78 rfl rfl Try.ntmps78 (by exact Nat.le_of_ble_eq_true rfl) ?_; intro Γ hm
      (repeat' (first | apply jA | apply jF | apply jH | apply jK | apply jN | apply jS | (refine wp_cond rfl (fun hc => ?_) (fun hc => ?_) <;> (try simp only [sB, ne_eq, reduceCtorEq] at hc) <;> (try (exfalso; omega))) | (refine WP.regionC (id := 0) ?_; (refine se_box rfl (by exact ⟨rfl, rfl⟩) ?_); (refine sassign rfl ?_); apply jW) | (refine WP.regionC (id := 1) ?_; (refine sassign rfl ?_); apply jW) | (refine WP.regionC ?_; (refine sfieldp rfl rfl rfl ?_); (refine sloadp rfl rfl rfl rfl ?_); apply jW) | (refine WP.regionC ?_; (refine seql rfl rfl ?_); (refine sassign rfl ?_); apply jW) | (refine wp_draw (id := 3) 12 mixed (by kernel_rfl) (by kernel_rfl) rfl ?_ <;> (refine rfieldp rfl rfl rfl ?_) <;> (refine rloadp rfl rfl rfl rfl ?_) <;> (refine rd_u rfl rfl (aidxn rfl rfl (by (simp only [sL] <;> omega))) ?_) <;> (refine rd_u rfl rfl (aloadw rfl rfl) ?_) <;> (refine rfieldp rfl rfl rfl ?_) <;> (refine rloadp rfl rfl rfl rfl ?_) <;> (refine rd_u rfl rfl (aidxn rfl rfl (by (simp only [sL] <;> omega))) ?_) <;> (refine rd_u rfl rfl (afieldi rfl rfl rfl) ?_) <;> (refine rd_u rfl rfl (aloadi rfl rfl) ?_) <;> (refine rd_u rfl rfl (aneq rfl rfl) ?_) <;> (refine rd_call rfl rfl (by first | ((repeat' first | exact SubL.nil | refine SubL.cons ?_ ?_ | exact Sub.refl); done) | fail) (by first | (simp [bdL, bdL_append, AV.bd]; done) | fail) (hx _) ?_) <;> (refine rd_u rfl rfl (aassign rfl) ?_) <;> (refine rd_end (by kernel_rfl) ?_)) | (refine WP.regionC (id := 9) ?_; (refine smove rfl ?_); (refine su (acat rfl rfl (by (simp only [bsz, sZ] <;> omega))) ?_); (refine sassign rfl ?_); apply jW) | (refine WP.regionC (id := 26) ?_; (refine smove rfl ?_); (refine sassign rfl ?_); apply jW) | exact ret_eq rfl rfl rfl))
    have h6 : kk = 6 := by
      simp only [okK, Bool.or_eq_true, Bool.and_eq_true, decide_eq_true_eq] at hk
      omega
    have e1 : tx (encT (exT x) (!decide (x.kind = 1)) ++ tailT kk nm) = tx (encT (exT x) (!decide (x.kind = 1))) ++ ⟨#[43]⟩ := by
      rw [show tailT kk nm = [43] by simp [tailT, h6]]; exact (tx_app _ _).symm
    rw [e1]
    refine Fn.intro rfl (by kernel_rfl) Try.func78 rfl rfl Try.ntmps78 (by exact Nat.le_of_ble_eq_true rfl) ?_; intro Γ hm
    (repeat' (first | apply jA | apply jF | apply jH | apply jK | apply jN | apply jS | (refine wp_cond rfl (fun hc => ?_) (fun hc => ?_) <;> (try simp only [sB, ne_eq, reduceCtorEq] at hc) <;> (try (exfalso; omega))) | (refine WP.regionC (id := 0) ?_; (refine se_box rfl (by exact ⟨rfl, rfl⟩) ?_); (refine sassign rfl ?_); apply jW) | (refine WP.regionC (id := 1) ?_; (refine sassign rfl ?_); apply jW) | (refine WP.regionC ?_; (refine sfieldp rfl rfl rfl ?_); (refine sloadp rfl rfl rfl rfl ?_); apply jW) | (refine WP.regionC ?_; (refine seql rfl rfl ?_); (refine sassign rfl ?_); apply jW) | (refine wp_draw (id := 3) 12 mixed (by kernel_rfl) (by kernel_rfl) rfl ?_ <;> (refine rfieldp rfl rfl rfl ?_) <;> (refine rloadp rfl rfl rfl rfl ?_) <;> (refine rd_u rfl rfl (aidxn rfl rfl (by (simp only [sL] <;> omega))) ?_) <;> (refine rd_u rfl rfl (aloadw rfl rfl) ?_) <;> (refine rfieldp rfl rfl rfl ?_) <;> (refine rloadp rfl rfl rfl rfl ?_) <;> (refine rd_u rfl rfl (aidxn rfl rfl (by (simp only [sL] <;> omega))) ?_) <;> (refine rd_u rfl rfl (afieldi rfl rfl rfl) ?_) <;> (refine rd_u rfl rfl (aloadi rfl rfl) ?_) <;> (refine rd_u rfl rfl (aneq rfl rfl) ?_) <;> (refine rd_call rfl rfl (by first | ((repeat' first | exact SubL.nil | refine SubL.cons ?_ ?_ | exact Sub.refl); done) | fail) (by first | (simp [bdL, bdL_append, AV.bd]; done) | fail) (hx _) ?_) <;> (refine rd_u rfl rfl (aassign rfl) ?_) <;> (refine rd_end (by kernel_rfl) ?_)) | (refine WP.regionC (id := 5) ?_; (refine smove rfl ?_); (refine su (acat rfl rfl (by (simp only [bsz, sZ] <;> omega))) ?_); (refine sassign rfl ?_); apply jW) | (refine WP.regionC (id := 26) ?_; (refine smove rfl ?_); (refine sassign rfl ?_); apply jW) | exact ret_eq rfl rfl rfl))
end Go.Lg

namespace Go.Lg
open Go.Proofs
set_option linter.unusedSimpArgs false
set_option linter.unusedVariables false
attribute [local irreducible] Ap Rq asemC WP RunD Ret Gq thenA inBlockA bodyQ noGotoA RqL RqP OpP
set_option maxHeartbeats 8000000
set_option maxRecDepth 20000
attribute [local simp] AV.cells altA
theorem tx_data (l : List UInt8) : (tx l).data.toList = l := rfl
theorem decimalI_fn (p : Int) (h0 : 0 ≤ p) (h1 : p ≤ 1000) : Fn Try.prog 67 [intA p] (strA (tx (Lib.itoa p))) := by
  obtain ⟨n, rfl⟩ := Int.eq_ofNat_of_zero_le h0
  exact decimal_fn n (by omega)
theorem ralt_fn (a : GAl) (hv : altOk a = true) (hb : (altT a).length ≤ 1000000000) : Fn Try.prog 38 [altA a] (strA (tx (altT a))) := by
  obtain ⟨⟨hp0, hp1⟩, hE⟩ := altOk_iff.1 hv
  have hil := itoa_len hp0 hp1
  have hD := decimalI_fn a.price hp0 hp1
  have hds : (tx (Lib.itoa a.price)).size = (Lib.itoa a.price).length := tx_size _
  rw [altT, List.length_append] at hb
  have hkl : (kidsL a.body).length = a.body.kids.length := kidsL_len _
  by_cases hbod : ¬ a.body.kind = 2 ∨ 0 < (a.body.kids.length : Int)
  · have e1 : bodT a.body = [32] ++ encT (exT a.body) (decide (a.body.kind = 3)) := by rw [bodT, if_pos hbod]
    have hen := encT_len (exT a.body) (decide (a.body.kind = 3))
    rw [e1, List.length_append] at hb
    have hK := kid_fn a.body (decide (a.body.kind = 3)) (fexpr_fn a.body 30 hE (by omega)) (by omega)
    have hks : (tx (encT (exT a.body) (decide (a.body.kind = 3)))).size = (encT (exT a.body) (decide (a.body.kind = 3))).length := tx_size _
    by_cases hpz : a.price = 0
    · have e2 : tx (altT a) = (⟨#[32]⟩ : ByteArray) ++ tx (encT (exT a.body) (decide (a.body.kind = 3))) := by
        rw [altT, prT, if_pos hpz, List.append_nil, e1]; exact (tx_app _ _).symm
      rw [e2]
      unfold altA
      refine Fn.intro rfl (by kernel_rfl) Try.func38 rfl rfl Try.ntmps38 (by exact Nat.le_of_ble_eq_true rfl) ?_; intro Γ hm
      (repeat' (first | apply jA | apply jH | apply jI | apply jK | apply jS | (refine wp_cond rfl (fun hc => ?_) (fun hc => ?_) <;> (try simp only [sB, ne_eq, reduceCtorEq] at hc) <;> (try (exfalso; omega))) | (refine WP.regionC (id := 0) ?_; (refine se_box rfl (by exact ⟨rfl, rfl⟩) ?_); (refine sassign rfl ?_); apply jW) | (refine WP.regionC (id := 1) ?_; (refine sassign rfl ?_); apply jW) | (refine WP.regionC (id := 2) ?_; (refine sfieldp rfl rfl rfl ?_); (refine sfieldp rfl rfl rfl ?_); (refine sloadp rfl rfl rfl rfl ?_); (refine su (aneq rfl rfl) ?_); (refine smove rfl ?_); (refine sg (gq_vf rfl rfl) (fun he => ap_field_p (rq_p rfl rfl) rfl rfl) ?_); (refine sg (gq_vf rfl rfl) (fun he => ap_field_p (rq_c rfl rfl) rfl rfl) ?_); (refine sg (gq_vf rfl rfl) (fun he => ap_load_p (rq_c rfl rfl) rfl rfl rfl) ?_); (refine sg (gq_vf rfl rfl) (fun he => ap_len_s rfl (rq_c rfl rfl)) ?_); (refine sg (gq_vf rfl rfl) (fun he => ap_gtr (rq_c rfl rfl) (rq_p rfl rfl)) ?_); (refine su (ap_or (rq_p rfl rfl) (rq_c rfl rfl)) ?_); apply jW) | (refine WP.regionC (id := 3) ?_; (refine sfieldp rfl rfl rfl ?_); (refine sloadp rfl rfl rfl rfl ?_); (refine sfieldp rfl rfl rfl ?_); (refine sfieldp rfl rfl rfl ?_); (refine sloadp rfl rfl rfl rfl ?_); (refine seql rfl rfl ?_); (refine sc_p rfl rfl (by first | ((repeat' first | exact SubL.nil | refine SubL.cons ?_ ?_ | exact Sub.refl); done) | fail) (by first | (simp [bdL, bdL_append, AV.bd]; done) | fail) (hK) ?_); (refine su (acat rfl rfl (by (simp only [bsz, sZ] <;> omega))) ?_); (refine sassign rfl ?_); apply jW) | (refine WP.regionC (id := 4) ?_; (refine sfieldp rfl rfl rfl ?_); (refine sloadp rfl rfl rfl rfl ?_); (refine su (aneq rfl rfl) ?_); apply jW) | (refine WP.regionC (id := 6) ?_; (refine smove rfl ?_); (refine sassign rfl ?_); apply jW) | exact ret_eq rfl rfl rfl))
    · have e2 : tx (altT a) = (⟨#[32]⟩ : ByteArray) ++ tx (encT (exT a.body) (decide (a.body.kind = 3))) ++ ⟨#[32, 112, 114, 105, 99, 101, 32]⟩ ++ tx (Lib.itoa a.price) := by
        rw [altT, prT, if_neg hpz, e1]; apply ba_ext; simp [bl_app, wPrice, bl, tx_data]
      rw [e2]
      unfold altA
      refine Fn.intro rfl (by kernel_rfl) Try.func38 rfl rfl Try.ntmps38 (by exact Nat.le_of_ble_eq_true rfl) ?_; intro Γ hm
      (repeat' (first | apply jA | apply jH | apply jK | apply jS | (refine wp_cond rfl (fun hc => ?_) (fun hc => ?_) <;> (try simp only [sB, ne_eq, reduceCtorEq] at hc) <;> (try (exfalso; omega))) | (refine WP.regionC (id := 0) ?_; (refine se_box rfl (by exact ⟨rfl, rfl⟩) ?_); (refine sassign rfl ?_); apply jW) | (refine WP.regionC (id := 1) ?_; (refine sassign rfl ?_); apply jW) | (refine WP.regionC (id := 2) ?_; (refine sfieldp rfl rfl rfl ?_); (refine sfieldp rfl rfl rfl ?_); (refine sloadp rfl rfl rfl rfl ?_); (refine su (aneq rfl rfl) ?_); (refine smove rfl ?_); (refine sg (gq_vf rfl rfl) (fun he => ap_field_p (rq_p rfl rfl) rfl rfl) ?_); (refine sg (gq_vf rfl rfl) (fun he => ap_field_p (rq_c rfl rfl) rfl rfl) ?_); (refine sg (gq_vf rfl rfl) (fun he => ap_load_p (rq_c rfl rfl) rfl rfl rfl) ?_); (refine sg (gq_vf rfl rfl) (fun he => ap_len_s rfl (rq_c rfl rfl)) ?_); (refine sg (gq_vf rfl rfl) (fun he => ap_gtr (rq_c rfl rfl) (rq_p rfl rfl)) ?_); (refine su (ap_or (rq_p rfl rfl) (rq_c rfl rfl)) ?_); apply jW) | (refine WP.regionC (id := 3) ?_; (refine sfieldp rfl rfl rfl ?_); (refine sloadp rfl rfl rfl rfl ?_); (refine sfieldp rfl rfl rfl ?_); (refine sfieldp rfl rfl rfl ?_); (refine sloadp rfl rfl rfl rfl ?_); (refine seql rfl rfl ?_); (refine sc_p rfl rfl (by first | ((repeat' first | exact SubL.nil | refine SubL.cons ?_ ?_ | exact Sub.refl); done) | fail) (by first | (simp [bdL, bdL_append, AV.bd]; done) | fail) (hK) ?_); (refine su (acat rfl rfl (by (simp only [bsz, sZ] <;> omega))) ?_); (refine sassign rfl ?_); apply jW) | (refine WP.regionC (id := 4) ?_; (refine sfieldp rfl rfl rfl ?_); (refine sloadp rfl rfl rfl rfl ?_); (refine su (aneq rfl rfl) ?_); apply jW) | (refine WP.regionC (id := 5) ?_; (refine smove rfl ?_); (refine su (acat rfl rfl (by (simp only [bsz, sZ] <;> omega))) ?_); (refine sfieldp rfl rfl rfl ?_); (refine sloadp rfl rfl rfl rfl ?_); (refine sc_p rfl rfl (by first | ((repeat' first | exact SubL.nil | refine SubL.cons ?_ ?_ | exact Sub.refl); done) | fail) (by first | (simp [bdL, bdL_append, AV.bd]; done) | fail) (hD) ?_); (refine su (acat rfl rfl (by (simp only [bsz, sZ] <;> omega))) ?_); (refine sassign rfl ?_); apply jW) | (refine WP.regionC (id := 6) ?_; (refine smove rfl ?_); (refine sassign rfl ?_); apply jW) | exact ret_eq rfl rfl rfl))
  · have e1 : bodT a.body = [] := by rw [bodT, if_neg hbod]
    have hk0 : a.body.kind = 2 ∧ (a.body.kids.length : Int) ≤ 0 := by omega
    by_cases hpz : a.price = 0
    · have e2 : tx (altT a) = ⟨#[]⟩ := by rw [altT, prT, if_pos hpz, e1]; rfl
      rw [e2]
      unfold altA
      refine Fn.intro rfl (by kernel_rfl) Try.func38 rfl rfl Try.ntmps38 (by exact Nat.le_of_ble_eq_true rfl) ?_; intro Γ hm
      (repeat' (first | apply jA | apply jH | apply jI | apply jK | apply jS | (refine wp_cond rfl (fun hc => ?_) (fun hc => ?_) <;> (try simp only [sB, ne_eq, reduceCtorEq] at hc) <;> (try (exfalso; omega))) | (refine WP.regionC (id := 0) ?_; (refine se_box rfl (by exact ⟨rfl, rfl⟩) ?_); (refine sassign rfl ?_); apply jW) | (refine WP.regionC (id := 1) ?_; (refine sassign rfl ?_); apply jW) | (refine WP.regionC (id := 2) ?_; (refine sfieldp rfl rfl rfl ?_); (refine sfieldp rfl rfl rfl ?_); (refine sloadp rfl rfl rfl rfl ?_); (refine su (aneq rfl rfl) ?_); (refine smove rfl ?_); (refine sg (gq_vf rfl rfl) (fun he => ap_field_p (rq_p rfl rfl) rfl rfl) ?_); (refine sg (gq_vf rfl rfl) (fun he => ap_field_p (rq_c rfl rfl) rfl rfl) ?_); (refine sg (gq_vf rfl rfl) (fun he => ap_load_p (rq_c rfl rfl) rfl rfl rfl) ?_); (refine sg (gq_vf rfl rfl) (fun he => ap_len_s rfl (rq_c rfl rfl)) ?_); (refine sg (gq_vf rfl rfl) (fun he => ap_gtr (rq_c rfl rfl) (rq_p rfl rfl)) ?_); (refine su (ap_or (rq_p rfl rfl) (rq_c rfl rfl)) ?_); apply jW) | (refine WP.regionC (id := 4) ?_; (refine sfieldp rfl rfl rfl ?_); (refine sloadp rfl rfl rfl rfl ?_); (refine su (aneq rfl rfl) ?_); apply jW) | (refine WP.regionC (id := 6) ?_; (refine smove rfl ?_); (refine sassign rfl ?_); apply jW) | exact ret_eq rfl rfl rfl))
    · have e2 : tx (altT a) = (⟨#[]⟩ : ByteArray) ++ ⟨#[32, 112, 114, 105, 99, 101, 32]⟩ ++ tx (Lib.itoa a.price) := by
        rw [altT, prT, if_neg hpz, e1]; apply ba_ext; simp [bl_app, wPrice, bl, tx_data]
      rw [e2]
      unfold altA
      refine Fn.intro rfl (by kernel_rfl) Try.func38 rfl rfl Try.ntmps38 (by exact Nat.le_of_ble_eq_true rfl) ?_; intro Γ hm
      (repeat' (first | apply jA | apply jH | apply jI | apply jK | apply jS | (refine wp_cond rfl (fun hc => ?_) (fun hc => ?_) <;> (try simp only [sB, ne_eq, reduceCtorEq] at hc) <;> (try (exfalso; omega))) | (refine WP.regionC (id := 0) ?_; (refine se_box rfl (by exact ⟨rfl, rfl⟩) ?_); (refine sassign rfl ?_); apply jW) | (refine WP.regionC (id := 1) ?_; (refine sassign rfl ?_); apply jW) | (refine WP.regionC (id := 2) ?_; (refine sfieldp rfl rfl rfl ?_); (refine sfieldp rfl rfl rfl ?_); (refine sloadp rfl rfl rfl rfl ?_); (refine su (aneq rfl rfl) ?_); (refine smove rfl ?_); (refine sg (gq_vf rfl rfl) (fun he => ap_field_p (rq_p rfl rfl) rfl rfl) ?_); (refine sg (gq_vf rfl rfl) (fun he => ap_field_p (rq_c rfl rfl) rfl rfl) ?_); (refine sg (gq_vf rfl rfl) (fun he => ap_load_p (rq_c rfl rfl) rfl rfl rfl) ?_); (refine sg (gq_vf rfl rfl) (fun he => ap_len_s rfl (rq_c rfl rfl)) ?_); (refine sg (gq_vf rfl rfl) (fun he => ap_gtr (rq_c rfl rfl) (rq_p rfl rfl)) ?_); (refine su (ap_or (rq_p rfl rfl) (rq_c rfl rfl)) ?_); apply jW) | (refine WP.regionC (id := 4) ?_; (refine sfieldp rfl rfl rfl ?_); (refine sloadp rfl rfl rfl rfl ?_); (refine su (aneq rfl rfl) ?_); apply jW) | (refine WP.regionC (id := 5) ?_; (refine smove rfl ?_); (refine su (acat rfl rfl (by (simp only [bsz, sZ] <;> omega))) ?_); (refine sfieldp rfl rfl rfl ?_); (refine sloadp rfl rfl rfl rfl ?_); (refine sc_p rfl rfl (by first | ((repeat' first | exact SubL.nil | refine SubL.cons ?_ ?_ | exact Sub.refl); done) | fail) (by first | (simp [bdL, bdL_append, AV.bd]; done) | fail) (hD) ?_); (refine su (acat rfl rfl (by (simp only [bsz, sZ] <;> omega))) ?_); (refine sassign rfl ?_); apply jW) | (refine WP.regionC (id := 6) ?_; (refine smove rfl ?_); (refine sassign rfl ?_); apply jW) | exact ret_eq rfl rfl rfl))
theorem rformat_fn (f : GFi) (hv : validF f = true) (hB : (fmtF f).length ≤ 100000000) : Fn Try.prog 16 [fileA f] (strA (tx (fmtF f))) := by
  have hv1 : (∀ r, r ∈ f.rules → gruleOk r = true) ∧ ∀ l, l ∈ f.levels → glevelOk l = true := by
    simp only [validF, Bool.and_eq_true, List.all_eq_true] at hv
    exact ⟨hv.1.1.1.1.2, hv.1.1.1.2⟩
  have hl0 := fmL0_le f
  have hl1 := fmL_mono f (Nat.zero_le _)
  have hz : (fm0 f).length = 8 + f.start.size := by simp [fm0, wStartT, endT, bl_len]; omega
  have hl2 : (fmL f 0).length = 8 + f.start.size := by rw [← hz]; simp [fmL]
  refine Fn.intro rfl (by kernel_rfl) Try.func16 rfl rfl Try.ntmps16 (by exact Nat.le_of_ble_eq_true rfl) ?_; intro Γ hm
  refine wp_lens 0 rfl fun hl => ?_
  have hln : f.rules.length ≤ 9223372036854775807 ∧ f.levels.length ≤ 9223372036854775807 := by have := hl; simp [AV.lens, lensL, fileA, levelsA, grulesA] at this; omega
  (repeat' (first | apply jA | apply jF | apply jH | (refine WP.regionC (id := 0) ?_; (refine se_box rfl (by exact ⟨rfl, rfl⟩) ?_); (refine sassign rfl ?_); apply jW) | (refine WP.regionC (id := 1) ?_; (refine sfieldp rfl rfl rfl ?_); (refine sloadp rfl rfl rfl rfl ?_); (refine su (acat rfl rfl (by (simp only [bsz, sZ] <;> omega))) ?_); (refine su (acat rfl rfl (by (simp only [bsz, sZ] <;> omega))) ?_); (refine sassign rfl ?_); apply jW) | (refine WP.regionC (id := 2) ?_; (refine sassign rfl ?_); apply jW)))
  have e0 : ({ data := #[115, 116, 97, 114, 116, 32] } : ByteArray) ++ f.start ++ { data := #[59, 10] } = tx (fmL f 0) := by
    apply ba_ext; simp [fmL, fm0, wStartT, endT, bl, tx_data]
  rw [e0]
  refine wp_loop (fun (j : Nat) => j ≤ f.levels.length) (fun j => f.levels.length - j)
    (fun j => (S 106 [(1, .ptr 0 3 0 0), (3, strA (tx (fmL f j))), (4, intA (j : Nat))] 1 [(0, some (.arr 3 [fileA f]))])) 0 ⟨[0], ToR.S rfl (by repeat' (first | exact rt_nil | refine rt_t rfl rfl ?_ | refine rt_e rfl rfl ?_)) (by repeat' (first | exact ro_nil | refine ro_p rfl (by first | exact rfl | fail) (by first | (simp [bdL, bdL_append, AV.bd]; done) | fail) ?_)) rfl (by (rw [hm]; exact rfl)) rfl (by (simp [bdT, AV.bd, bdL, bdL_append]; done)) (by repeat' (first | exact True.intro | refine And.intro ?_ ?_ | (simp [bdOq, bdL, bdL_append, AV.bd]; done))) (by (rw [hm]; exact Nat.le_of_ble_eq_true rfl))⟩ (Nat.zero_le _) ?_
  rintro j hj
  have hm1 := fmL_mono f hj
  have hs1 : (tx (fmL f j)).size = (fmL f j).length := tx_size _
  by_cases hlt : j < f.levels.length
  · have hm2 := fmL_mono f (k := j + 1) (by omega)
    have hne : (nth f.levels j).tokens ≠ [] := by
      have := (glevel_iff.1 (hv1.2 _ (nth_mem hlt))).2
      intro h; rw [h] at this; exact this rfl
    rw [fmL_succ hlt, lvT_eq hne, List.length_append, List.length_append, List.length_append, bl_len] at hm2
    have hsg := spaced_ge (nth f.levels j).tokens
    have hw := word_size (nth f.levels j).assoc
    have hend : endT.length = 2 := rfl
    have hw1 : (nth f.levels j).assoc = 1 → tx (fmL f j) ++ ({ data := #[108, 101, 102, 116] } : ByteArray) = tx (fmL f j ++ bl (wordT (nth f.levels j).assoc) ++ spaced ((nth f.levels j).tokens.take 0)) := fun h => by
      rw [wordT, if_pos h]; apply ba_ext; simp [bl_app, spaced, bl, tx_data, kw1]
    have hw2 : (nth f.levels j).assoc = 2 → tx (fmL f j) ++ ({ data := #[114, 105, 103, 104, 116] } : ByteArray) = tx (fmL f j ++ bl (wordT (nth f.levels j).assoc) ++ spaced ((nth f.levels j).tokens.take 0)) := fun h => by
      rw [wordT, if_neg (by omega), if_pos h]; apply ba_ext; simp [bl_app, spaced, bl, tx_data, kw2]
    have hw3 : ¬ (nth f.levels j).assoc = 1 → ¬ (nth f.levels j).assoc = 2 → tx (fmL f j) ++ ({ data := #[110, 111, 110, 101] } : ByteArray) = tx (fmL f j ++ bl (wordT (nth f.levels j).assoc) ++ spaced ((nth f.levels j).tokens.take 0)) := fun h h2 => by
      rw [wordT, if_neg h, if_neg h2]; apply ba_ext; simp [bl_app, spaced, bl, tx_data, kw3]
    (repeat' (first | apply jA | apply jF | apply jH | apply jI | apply jN | (refine wp_cond rfl (fun hc => ?_) (fun hc => ?_) <;> (try simp only [sB, ne_eq, reduceCtorEq] at hc) <;> (try (exfalso; omega))) | (refine WP.regionC (id := 3) ?_; (refine smove rfl ?_); (refine sfieldp rfl rfl rfl ?_); (refine sloadp rfl rfl rfl rfl ?_); (refine slenm rfl rfl ?_); (refine slss rfl rfl ?_); apply jW) | (refine WP.regionC (id := 5) ?_; (refine sfieldp rfl rfl rfl ?_); (refine sloadp rfl rfl rfl rfl ?_); (refine smove rfl ?_); (refine sidxn rfl rfl (by omega) ?_); (refine su (afieldi rfl rfl rfl) ?_); (refine su (aloadi rfl rfl) ?_); apply jW) | (refine WP.regionC ?_; (refine seql rfl rfl ?_); (refine sassign rfl ?_); apply jW) | (refine WP.regionC ?_; (refine smove rfl ?_); (refine su (acat rfl rfl (by (simp only [bsz, sZ] <;> omega))) ?_); (refine sassign rfl ?_); apply jW) | (refine WP.regionC (id := 11) ?_; (refine sassign rfl ?_); apply jW)))
    rw [hw1 hc]
    rotate_left 1
    rw [hw2 hc]
    rotate_left 1
    rw [hw3 (by assumption) hc]
    rotate_left 1
    all_goals
      refine wp_loop (fun (k : Nat) => k ≤ (nth f.levels j).tokens.length) (fun k => (nth f.levels j).tokens.length - k)
        (fun k => (S 106 [(1, .ptr 0 3 0 0), (3, strA (tx (fmL f j ++ bl (wordT (nth f.levels j).assoc) ++ spaced ((nth f.levels j).tokens.take k)))), (4, intA (j : Nat)), (5, intA (k : Nat))] 1 [(0, some (.arr 3 [fileA f]))])) 0 ⟨[0], ToR.S rfl (by repeat' (first | exact rt_nil | refine rt_t rfl rfl ?_ | refine rt_e rfl rfl ?_)) (by repeat' (first | exact ro_nil | refine ro_p rfl (by first | exact rfl | fail) (by first | (simp [bdL, bdL_append, AV.bd]; done) | fail) ?_)) rfl (by (rw [hm]; exact rfl)) rfl (by (simp [bdT, AV.bd, bdL, bdL_append]; done)) (by repeat' (first | exact True.intro | refine And.intro ?_ ?_ | (simp [bdOq, bdL, bdL_append, AV.bd]; done))) (by (rw [hm]; exact Nat.le_of_ble_eq_true rfl))⟩ (Nat.zero_le _) ?_
      rintro k hk
      have hsp := spaced_mono (nth f.levels j).tokens hk
      have hs2 : (tx (fmL f j ++ bl (wordT (nth f.levels j).assoc) ++ spaced ((nth f.levels j).tokens.take k))).size = (fmL f j).length + (wordT (nth f.levels j).assoc).size + (spaced ((nth f.levels j).tokens.take k)).length := by rw [tx_size]; simp [bl_len]; omega
      by_cases hkl : k < (nth f.levels j).tokens.length
      · have hsp2 := spaced_mono (nth f.levels j).tokens (k := k + 1) (by omega)
        rw [spaced_take hkl, List.length_append, List.length_cons, bl_len] at hsp2
        have e1 : tx (fmL f j ++ bl (wordT (nth f.levels j).assoc) ++ spaced ((nth f.levels j).tokens.take (k + 1))) = tx (fmL f j ++ bl (wordT (nth f.levels j).assoc) ++ spaced ((nth f.levels j).tokens.take k)) ++ ({ data := #[32] } : ByteArray) ++ nth (nth f.levels j).tokens k := by
          rw [spaced_take hkl]; apply ba_ext; simp [bl_app, bl, tx_data]
        (repeat' (first | apply jA | apply jF | apply jH | apply jI | apply jN | (refine wp_cond rfl (fun hc => ?_) (fun hc => ?_) <;> (try simp only [sB, ne_eq, reduceCtorEq] at hc) <;> (try (exfalso; omega))) | (refine WP.regionC (id := 12) ?_; (refine smove rfl ?_); (refine sfieldp rfl rfl rfl ?_); (refine sloadp rfl rfl rfl rfl ?_); (refine smove rfl ?_); (refine sidxn rfl rfl (by omega) ?_); (refine su (afieldi rfl rfl rfl) ?_); (refine su (aloadi rfl rfl) ?_); (refine slenm rfl rfl ?_); (refine slss rfl rfl ?_); apply jW) | (refine WP.regionC (id := 14) ?_; (refine smove rfl ?_); (refine su (acat rfl rfl (by (simp only [bsz, sZ] <;> omega))) ?_); (refine sfieldp rfl rfl rfl ?_); (refine sloadp rfl rfl rfl rfl ?_); (refine smove rfl ?_); (refine sidxn rfl rfl (by omega) ?_); (refine su (afieldi rfl rfl rfl) ?_); (refine su (aloadi rfl rfl) ?_); (refine smove rfl ?_); (refine sidxn rfl rfl (by omega) ?_); (refine sloadw rfl rfl ?_); (refine su (acat rfl rfl (by (simp only [bsz, sZ] <;> omega))) ?_); (refine sassign rfl ?_); apply jW) | (refine WP.regionC (id := 13) ?_; (refine smove rfl ?_); (refine sadd rfl rfl (by exact inr_i64_of (by omega)) ?_); (refine sassign rfl ?_); apply jW)))
        refine ⟨k + 1, ⟨by omega, by omega⟩, ?_⟩
        rw [e1]
        exact ⟨[0], ToR.S rfl (by repeat' (first | exact rt_nil | refine rt_t rfl rfl ?_ | refine rt_e rfl rfl ?_)) (by repeat' (first | exact ro_nil | refine ro_p rfl (by first | exact rfl | fail) (by first | (simp [bdL, bdL_append, AV.bd]; done) | fail) ?_)) rfl (by (rw [hm]; exact rfl)) rfl (by (simp [bdT, AV.bd, bdL, bdL_append]; done)) (by repeat' (first | exact True.intro | refine And.intro ?_ ?_ | (simp [bdOq, bdL, bdL_append, AV.bd]; done))) (by (rw [hm]; exact Nat.le_of_ble_eq_true rfl))⟩
      have hkk : k = (nth f.levels j).tokens.length := by omega
      subst hkk
      have e2 : tx (fmL f (j + 1)) = tx (fmL f j ++ bl (wordT (nth f.levels j).assoc) ++ spaced ((nth f.levels j).tokens.take (nth f.levels j).tokens.length)) ++ ({ data := #[59, 10] } : ByteArray) := by
        rw [fmL_succ hlt, lvT_eq hne, List.take_of_length_le (Nat.le_refl _)]; apply ba_ext; simp [bl_app, bl, tx_data, endT]
      (repeat' (first | apply jA | apply jH | apply jJ | apply jL | apply jN | apply jP | (refine wp_cond rfl (fun hc => ?_) (fun hc => ?_) <;> (try simp only [sB, ne_eq, reduceCtorEq] at hc) <;> (try (exfalso; omega))) | (refine WP.regionC (id := 12) ?_; (refine smove rfl ?_); (refine sfieldp rfl rfl rfl ?_); (refine sloadp rfl rfl rfl rfl ?_); (refine smove rfl ?_); (refine sidxn rfl rfl (by omega) ?_); (refine su (afieldi rfl rfl rfl) ?_); (refine su (aloadi rfl rfl) ?_); (refine slenm rfl rfl ?_); (refine slss rfl rfl ?_); apply jW) | (refine WP.regionC (id := 15) ?_; (refine smove rfl ?_); (refine su (acat rfl rfl (by (simp only [bsz, sZ] <;> omega))) ?_); (refine sassign rfl ?_); apply jW) | (refine WP.regionC (id := 4) ?_; (refine smove rfl ?_); (refine sadd rfl rfl (by exact inr_i64_of (by omega)) ?_); (refine sassign rfl ?_); apply jW)))
      refine ⟨j + 1, ⟨by omega, by omega⟩, ?_⟩
      rw [e2]
      exact ⟨[0], ToR.S rfl (by repeat' (first | exact rt_nil | refine rt_t rfl rfl ?_ | refine rt_e rfl rfl ?_)) (by repeat' (first | exact ro_nil | refine ro_p rfl (by first | exact rfl | fail) (by first | (simp [bdL, bdL_append, AV.bd]; done) | fail) ?_)) rfl (by (rw [hm]; exact rfl)) rfl (by (simp [bdT, AV.bd, bdL, bdL_append]; done)) (by repeat' (first | exact True.intro | refine And.intro ?_ ?_ | (simp [bdOq, bdL, bdL_append, AV.bd]; done))) (by (rw [hm]; exact Nat.le_of_ble_eq_true rfl))⟩
  obtain rfl : j = f.levels.length := by omega
  (repeat' (first | apply jA | apply jF | apply jH | apply jJ | apply jL | apply jP | (refine wp_cond rfl (fun hc => ?_) (fun hc => ?_) <;> (try simp only [sB, ne_eq, reduceCtorEq] at hc) <;> (try (exfalso; omega))) | (refine WP.regionC (id := 3) ?_; (refine smove rfl ?_); (refine sfieldp rfl rfl rfl ?_); (refine sloadp rfl rfl rfl rfl ?_); (refine slenm rfl rfl ?_); (refine slss rfl rfl ?_); apply jW) | (refine WP.regionC (id := 16) ?_; (refine sassign rfl ?_); apply jW)))
  have e3 : fmL f f.levels.length = fmR f 0 := by simp [fmR]
  rw [e3]
  refine wp_loop (fun (k : Nat) => k ≤ f.rules.length) (fun k => f.rules.length - k)
    (fun k => (S 106 [(1, .ptr 0 3 0 0), (3, strA (tx (fmR f k))), (6, intA (k : Nat))] 1 [(0, some (.arr 3 [fileA f]))])) 0 ⟨[0], ToR.S rfl (by repeat' (first | exact rt_nil | refine rt_t rfl rfl ?_ | refine rt_e rfl rfl ?_)) (by repeat' (first | exact ro_nil | refine ro_p rfl (by first | exact rfl | fail) (by first | (simp [bdL, bdL_append, AV.bd]; done) | fail) ?_)) rfl (by (rw [hm]; exact rfl)) rfl (by (simp [bdT, AV.bd, bdL, bdL_append]; done)) (by repeat' (first | exact True.intro | refine And.intro ?_ ?_ | (simp [bdOq, bdL, bdL_append, AV.bd]; done))) (by (rw [hm]; exact Nat.le_of_ble_eq_true rfl))⟩ (Nat.zero_le _) ?_
  rintro k hk
  have hr1 := fmR_mono f hk
  have hs3 : (tx (fmR f k)).size = (fmR f k).length := tx_size _
  by_cases hlt2 : k < f.rules.length
  · have hr2 := fmR_mono f (k := k + 1) (by omega)
    rw [fmR_succ hlt2, List.length_append] at hr2
    have hgr := hv1.1 _ (nth_mem hlt2)
    have hao : ∀ a, a ∈ (nth f.rules k).alts → altOk a = true := by
      simp only [gruleOk, Bool.and_eq_true, List.all_eq_true] at hgr
      exact hgr.2
    have hrt : (ruT (nth f.rules k)).length = (nth f.rules k).name.size + 2 + ((altsT (nth f.rules k).alts (nth f.rules k).alts.length).length + 2) := by
      simp [ruT, endT, bl_len]; omega
    have hal : (nth f.rules k).alts.length ≤ 9223372036854775807 := by
      have := hl; simp [AV.lens, lensL, fileA, levelsA, grulesA, lensL_map] at this
      have := this.2.2.2 _ (nth_mem hlt2)
      simp [gruleA, AV.lens, lensL, altsA] at this
      omega
    (repeat' (first | apply jA | apply jF | apply jH | apply jI | (refine wp_cond rfl (fun hc => ?_) (fun hc => ?_) <;> (try simp only [sB, ne_eq, reduceCtorEq] at hc) <;> (try (exfalso; omega))) | (refine WP.regionC (id := 17) ?_; (refine smove rfl ?_); (refine sfieldp rfl rfl rfl ?_); (refine sloadp rfl rfl rfl rfl ?_); (refine slenm rfl rfl ?_); (refine slss rfl rfl ?_); apply jW) | (refine WP.regionC (id := 19) ?_; (refine smove rfl ?_); (refine sfieldp rfl rfl rfl ?_); (refine sloadp rfl rfl rfl rfl ?_); (refine smove rfl ?_); (refine sidxn rfl rfl (by omega) ?_); (refine su (afieldi rfl rfl rfl) ?_); (refine su (aloadi rfl rfl) ?_); (refine su (acat rfl rfl (by omega)) ?_); (refine su (acat rfl rfl (by (simp only [bsz, sZ] <;> omega))) ?_); (refine sassign rfl ?_); apply jW) | (refine WP.regionC (id := 20) ?_; (refine sassign rfl ?_); apply jW)))
    have e4 : tx (fmR f k) ++ (nth f.rules k).name ++ ({ data := #[32, 61] } : ByteArray) = tx (fmR f k ++ (bl (nth f.rules k).name ++ [32, 61]) ++ altsT (nth f.rules k).alts 0) := by
      apply ba_ext; simp [bl_app, bl, tx_data, altsT]
    rw [e4]
    refine wp_loop (fun (i : Nat) => i ≤ (nth f.rules k).alts.length) (fun i => (nth f.rules k).alts.length - i)
      (fun i => (S 106 [(1, .ptr 0 3 0 0), (3, strA (tx (fmR f k ++ (bl (nth f.rules k).name ++ [32, 61]) ++ altsT (nth f.rules k).alts i))), (6, intA (k : Nat)), (7, intA (i : Nat))] 1 [(0, some (.arr 3 [fileA f]))])) 0 ⟨[0], ToR.S rfl (by repeat' (first | exact rt_nil | refine rt_t rfl rfl ?_ | refine rt_e rfl rfl ?_)) (by repeat' (first | exact ro_nil | refine ro_p rfl (by first | exact rfl | fail) (by first | (simp [bdL, bdL_append, AV.bd]; done) | fail) ?_)) rfl (by (rw [hm]; exact rfl)) rfl (by (simp [bdT, AV.bd, bdL, bdL_append]; done)) (by repeat' (first | exact True.intro | refine And.intro ?_ ?_ | (simp [bdOq, bdL, bdL_append, AV.bd]; done))) (by (rw [hm]; exact Nat.le_of_ble_eq_true rfl))⟩ (Nat.zero_le _) ?_
    rintro i hi
    have ha1 := altsT_mono (nth f.rules k).alts hi
    have hs4 : (tx (fmR f k ++ (bl (nth f.rules k).name ++ [32, 61]) ++ altsT (nth f.rules k).alts i)).size = (fmR f k).length + (nth f.rules k).name.size + 2 + (altsT (nth f.rules k).alts i).length := by rw [tx_size]; simp [bl_len]; omega
    by_cases hlt3 : i < (nth f.rules k).alts.length
    · have ha2 := altsT_mono (nth f.rules k).alts (k := i + 1) (by omega)
      rw [altsT, List.length_append, List.length_append] at ha2
      have hX := ralt_fn (nth (nth f.rules k).alts i) (hao _ (nth_mem hlt3)) (by omega)
      have hs5 : (tx (altT (nth (nth f.rules k).alts i))).size = (altT (nth (nth f.rules k).alts i)).length := tx_size _
      (repeat' (first | apply jA | apply jF | apply jH | apply jI | apply jN | (refine wp_cond rfl (fun hc => ?_) (fun hc => ?_) <;> (try simp only [sB, ne_eq, reduceCtorEq] at hc) <;> (try (exfalso; omega))) | (refine WP.regionC (id := 21) ?_; (refine smove rfl ?_); (refine sfieldp rfl rfl rfl ?_); (refine sloadp rfl rfl rfl rfl ?_); (refine smove rfl ?_); (refine sidxn rfl rfl (by omega) ?_); (refine su (afieldi rfl rfl rfl) ?_); (refine su (aloadi rfl rfl) ?_); (refine slenm rfl rfl ?_); (refine slss rfl rfl ?_); apply jW) | (refine WP.regionC (id := 23) ?_; (refine smove rfl ?_); (refine su (agtr rfl rfl) ?_); apply jW) | (refine WP.regionC (id := 24) ?_; (refine smove rfl ?_); (refine su (acat rfl rfl (by (simp only [bsz, sZ] <;> omega))) ?_); (refine sassign rfl ?_); apply jW) | (refine WP.regionC (id := 25) ?_; (refine smove rfl ?_); (refine sfieldp rfl rfl rfl ?_); (refine sloadp rfl rfl rfl rfl ?_); (refine smove rfl ?_); (refine sidxn rfl rfl (by omega) ?_); (refine su (afieldi rfl rfl rfl) ?_); (refine su (aloadi rfl rfl) ?_); (refine smove rfl ?_); (refine sidxn rfl rfl (by omega) ?_); (refine sloadw rfl rfl ?_); (refine sc_p rfl rfl (by first | ((repeat' first | exact SubL.nil | refine SubL.cons ?_ ?_ | exact Sub.refl); done) | fail) (by first | (simp [bdL, bdL_append, AV.bd]; done) | fail) (hX) ?_); (refine su (acat rfl rfl (by first | omega | (simp only [bsz, sZ] <;> omega))) ?_); (refine sassign rfl ?_); apply jW) | (refine WP.regionC (id := 22) ?_; (refine smove rfl ?_); (refine sadd rfl rfl (by exact inr_i64_of (by omega)) ?_); (refine sassign rfl ?_); apply jW)))
      · have e6 : tx (fmR f k ++ (bl (nth f.rules k).name ++ [32, 61]) ++ altsT (nth f.rules k).alts (i + 1)) = tx (fmR f k ++ (bl (nth f.rules k).name ++ [32, 61]) ++ altsT (nth f.rules k).alts i) ++ ({ data := #[32, 124] } : ByteArray) ++ tx (altT (nth (nth f.rules k).alts i)) := by
          rw [altsT, if_neg (by omega)]; apply ba_ext; simp [bl_app, bl, tx_data]
        refine ⟨i + 1, ⟨by omega, by omega⟩, ?_⟩
        rw [e6]
        exact ⟨[0], ToR.S rfl (by repeat' (first | exact rt_nil | refine rt_t rfl rfl ?_ | refine rt_e rfl rfl ?_)) (by repeat' (first | exact ro_nil | refine ro_p rfl (by first | exact rfl | fail) (by first | (simp [bdL, bdL_append, AV.bd]; done) | fail) ?_)) rfl (by (rw [hm]; exact rfl)) rfl (by (simp [bdT, AV.bd, bdL, bdL_append]; done)) (by repeat' (first | exact True.intro | refine And.intro ?_ ?_ | (simp [bdOq, bdL, bdL_append, AV.bd]; done))) (by (rw [hm]; exact Nat.le_of_ble_eq_true rfl))⟩
      · have e6 : tx (fmR f k ++ (bl (nth f.rules k).name ++ [32, 61]) ++ altsT (nth f.rules k).alts (i + 1)) = tx (fmR f k ++ (bl (nth f.rules k).name ++ [32, 61]) ++ altsT (nth f.rules k).alts i) ++ tx (altT (nth (nth f.rules k).alts i)) := by
          rw [altsT, if_pos (by omega)]; apply ba_ext; simp [bl_app, bl, tx_data]
        refine ⟨i + 1, ⟨by omega, by omega⟩, ?_⟩
        rw [e6]
        exact ⟨[0], ToR.S rfl (by repeat' (first | exact rt_nil | refine rt_t rfl rfl ?_ | refine rt_e rfl rfl ?_)) (by repeat' (first | exact ro_nil | refine ro_p rfl (by first | exact rfl | fail) (by first | (simp [bdL, bdL_append, AV.bd]; done) | fail) ?_)) rfl (by (rw [hm]; exact rfl)) rfl (by (simp [bdT, AV.bd, bdL, bdL_append]; done)) (by repeat' (first | exact True.intro | refine And.intro ?_ ?_ | (simp [bdOq, bdL, bdL_append, AV.bd]; done))) (by (rw [hm]; exact Nat.le_of_ble_eq_true rfl))⟩
    obtain rfl : i = (nth f.rules k).alts.length := by omega
    (repeat' (first | apply jA | apply jH | apply jJ | apply jL | apply jN | apply jP | (refine wp_cond rfl (fun hc => ?_) (fun hc => ?_) <;> (try simp only [sB, ne_eq, reduceCtorEq] at hc) <;> (try (exfalso; omega))) | (refine WP.regionC (id := 21) ?_; (refine smove rfl ?_); (refine sfieldp rfl rfl rfl ?_); (refine sloadp rfl rfl rfl rfl ?_); (refine smove rfl ?_); (refine sidxn rfl rfl (by omega) ?_); (refine su (afieldi rfl rfl rfl) ?_); (refine su (aloadi rfl rfl) ?_); (refine slenm rfl rfl ?_); (refine slss rfl rfl ?_); apply jW) | (refine WP.regionC (id := 26) ?_; (refine smove rfl ?_); (refine su (acat rfl rfl (by (simp only [bsz, sZ] <;> omega))) ?_); (refine sassign rfl ?_); apply jW) | (refine WP.regionC (id := 18) ?_; (refine smove rfl ?_); (refine sadd rfl rfl (by exact inr_i64_of (by omega)) ?_); (refine sassign rfl ?_); apply jW)))
    have e7 : tx (fmR f (k + 1)) = tx (fmR f k ++ (bl (nth f.rules k).name ++ [32, 61]) ++ altsT (nth f.rules k).alts (nth f.rules k).alts.length) ++ ({ data := #[59, 10] } : ByteArray) := by
      rw [fmR_succ hlt2, ruT]; apply ba_ext; simp [bl_app, bl, tx_data, endT]
    refine ⟨k + 1, ⟨by omega, by omega⟩, ?_⟩
    rw [e7]
    exact ⟨[0], ToR.S rfl (by repeat' (first | exact rt_nil | refine rt_t rfl rfl ?_ | refine rt_e rfl rfl ?_)) (by repeat' (first | exact ro_nil | refine ro_p rfl (by first | exact rfl | fail) (by first | (simp [bdL, bdL_append, AV.bd]; done) | fail) ?_)) rfl (by (rw [hm]; exact rfl)) rfl (by (simp [bdT, AV.bd, bdL, bdL_append]; done)) (by repeat' (first | exact True.intro | refine And.intro ?_ ?_ | (simp [bdOq, bdL, bdL_append, AV.bd]; done))) (by (rw [hm]; exact Nat.le_of_ble_eq_true rfl))⟩
  obtain rfl : k = f.rules.length := by omega
  (repeat' (first | apply jA | apply jH | apply jJ | apply jK | apply jL | apply jP | apply jS | (refine wp_cond rfl (fun hc => ?_) (fun hc => ?_) <;> (try simp only [sB, ne_eq, reduceCtorEq] at hc) <;> (try (exfalso; omega))) | (refine WP.regionC (id := 17) ?_; (refine smove rfl ?_); (refine sfieldp rfl rfl rfl ?_); (refine sloadp rfl rfl rfl rfl ?_); (refine slenm rfl rfl ?_); (refine slss rfl rfl ?_); apply jW) | (refine WP.regionC (id := 27) ?_; (refine smove rfl ?_); (refine sassign rfl ?_); apply jW) | exact ret_eq rfl rfl rfl))
end Go.Lg

namespace Go.Lg
open Go.Proofs
set_option linter.unusedSimpArgs false
set_option linter.unusedVariables false
attribute [local irreducible] Ap Rq asemC WP RunD Ret Gq thenA inBlockA bodyQ noGotoA RqL RqP OpP
set_option maxHeartbeats 4000000
noncomputable instance : DecidableEq GEx := fun _ _ => Classical.propDecidable _
noncomputable instance : DecidableEq GAl := fun _ _ => Classical.propDecidable _
noncomputable instance : DecidableEq GRu := fun _ _ => Classical.propDecidable _
noncomputable instance : DecidableEq GLe := fun _ _ => Classical.propDecidable _
noncomputable instance : DecidableEq GFi := fun _ _ => Classical.propDecidable _
theorem gex_iff {a b : GEx} : a = b ↔ (a.kind = b.kind ∧ a.name = b.name) ∧ a.kids = b.kids := ⟨by rintro rfl; exact ⟨⟨rfl, rfl⟩, rfl⟩, fun h => GEx.ext' h.1.1 h.1.2 h.2⟩
theorem gal_iff {a b : GAl} : a = b ↔ a.price = b.price ∧ a.body = b.body := ⟨by rintro rfl; exact ⟨rfl, rfl⟩, fun h => by cases a; cases b; simp only at h; rw [h.1, h.2]⟩
theorem gru_iff {a b : GRu} : a = b ↔ a.name = b.name ∧ a.alts = b.alts := ⟨by rintro rfl; exact ⟨rfl, rfl⟩, fun h => by cases a; cases b; simp only at h; rw [h.1, h.2]⟩
theorem gle_iff {a b : GLe} : a = b ↔ a.assoc = b.assoc ∧ a.tokens = b.tokens := ⟨by rintro rfl; exact ⟨rfl, rfl⟩, fun h => by cases a; cases b; simp only at h; rw [h.1, h.2]⟩
theorem gfi_iff {a b : GFi} : a = b ↔ (a.start = b.start ∧ a.levels = b.levels) ∧ a.rules = b.rules := ⟨by rintro rfl; exact ⟨⟨rfl, rfl⟩, rfl⟩, fun h => by cases a; cases b; simp only at h; rw [h.1.1, h.1.2, h.2]⟩
theorem equalStrs_fn (a b : List ByteArray) : Fn Try.prog 41 [strsA a, strsA b] (boolA (decide (a = b))) := by
  refine Fn.intro rfl (by kernel_rfl) Try.func41 rfl rfl Try.ntmps41 (by exact Nat.le_of_ble_eq_true rfl) ?_; intro Γ hm
  refine wp_lens 0 rfl fun h0 => wp_lens 1 rfl fun h1 => ?_
  rw [lens_strsA] at h0 h1
  (repeat' (first | apply jA | apply jF | apply jH | apply jI | apply jK | apply jM | apply jS | (refine wp_cond rfl (fun hc => ?_) (fun hc => ?_) <;> (try simp only [sB, ne_eq, reduceCtorEq] at hc) <;> (try (exfalso; omega))) | (refine WP.regionC ?_; (refine sassign rfl ?_); apply jW) | (refine WP.regionC (id := 1) ?_; (refine smove rfl ?_); (refine slenm rfl rfl ?_); (refine smove rfl ?_); (refine slenm rfl rfl ?_); (refine su (aneq rfl rfl) ?_); apply jW) | (refine WP.regionC (id := 3) ?_; (refine smove rfl ?_); (refine slenm rfl rfl ?_); (refine smove rfl ?_); apply jW) | refine ret_b rfl ?_))
  · have : a ≠ b := by rintro rfl; exact hc rfl
    simp [this]
  refine wp_loop (fun k => k ≤ a.length ∧ a.take k = b.take k) (fun k => a.length - k) (fun k => (S 26 [(0, strsA a), (1, strsA b), (12, intA (a.length : Nat)), (13, intA (k : Nat))] 0 [])) 0 ⟨[], ToR.S rfl (by repeat' (first | exact rt_nil | refine rt_e rfl rfl ?_ | refine rt_p rfl rfl (by first | (simp [AV.bd, bdL, bdL_append]; done) | fail) ?_)) (by repeat' (exact ro_nil)) rfl (by (rw [hm]; exact rfl)) rfl (by (simp [bdT, AV.bd, bdL, bdL_append]; done)) (by repeat' (exact True.intro)) (by (rw [hm]; exact Nat.le_of_ble_eq_true rfl))⟩ ⟨Nat.zero_le _, rfl⟩ ?_
  rintro k ⟨hk, hall⟩
  have hab : a.length = b.length := by omega
  (repeat' (first | apply jA | apply jF | apply jH | apply jI | apply jJ | apply jK | apply jL | apply jM | apply jN | apply jO | apply jP | apply jS | (refine wp_cond rfl (fun hc => ?_) (fun hc => ?_) <;> (try simp only [sB, ne_eq, reduceCtorEq] at hc) <;> (try (exfalso; omega))) | (refine WP.regionC (id := 4) ?_; (refine slss rfl rfl ?_); apply jW) | (refine WP.regionC (id := 5) ?_; (refine smove rfl ?_); (refine sassign rfl ?_); apply jW) | (refine wp_draw (id := 6) 9 mixed (by kernel_rfl) (by kernel_rfl) rfl ?_ <;> (refine rmove rfl ?_) <;> (refine rmove rfl ?_) <;> (refine rd_u rfl rfl (aidxn rfl rfl (by omega)) ?_) <;> (refine rd_u rfl rfl (aloadw rfl rfl) ?_) <;> (refine rmove rfl ?_) <;> (refine rmove rfl ?_) <;> (refine rd_u rfl rfl (aidxn rfl rfl (by omega)) ?_) <;> (refine rd_u rfl rfl (aloadw rfl rfl) ?_) <;> (refine rd_u rfl rfl (anes rfl rfl) ?_) <;> (refine rd_end (by kernel_rfl) ?_)) | (refine WP.regionC ?_; (refine sassign rfl ?_); apply jW) | (refine WP.regionC (id := 8) ?_; (refine sadd rfl rfl (by exact inr_i64_of (by omega)) ?_); (refine smove rfl ?_); apply jW) | refine ret_b rfl ?_))
  · have : a ≠ b := by rintro rfl; exact hc rfl
    simp [this]
  · exact ⟨k + 1, ⟨by omega, by omega, take_eq_succ (by omega) (by omega) hall hc⟩, ⟨[], ToR.S rfl (by repeat' (first | exact rt_nil | refine rt_e rfl rfl ?_ | refine rt_p rfl rfl (by first | (simp [AV.bd, bdL, bdL_append]; done) | fail) ?_)) (by repeat' (exact ro_nil)) rfl (by (rw [hm]; exact rfl)) rfl (by (simp [bdT, AV.bd, bdL, bdL_append]; done)) (by repeat' (exact True.intro)) (by (rw [hm]; exact Nat.le_of_ble_eq_true rfl))⟩⟩
  simp [eq_of_takes hab (by omega) hall]
theorem equalE_fn (a b : List GEx) (h : ∀ x, x ∈ a → ∀ y, Fn Try.prog 46 [exprA x, exprA y] (boolA (decide (x = y)))) : Fn Try.prog 68 [exprsA a, exprsA b, .clo (.func 46) [] []] (boolA (decide (a = b))) := by
  refine Fn.intro rfl (by kernel_rfl) Try.func68 rfl rfl Try.ntmps68 (by exact Nat.le_of_ble_eq_true rfl) ?_; intro Γ hm
  refine wp_lens 0 rfl fun h0 => wp_lens 1 rfl fun h1 => ?_
  have h0 : a.length ≤ 9223372036854775807 := by simpa [exprsA] using h0.1
  have h1 : b.length ≤ 9223372036854775807 := by simpa [exprsA] using h1.1
  (repeat' (first | apply jA | apply jF | apply jH | apply jI | apply jK | apply jM | apply jS | (refine wp_cond rfl (fun hc => ?_) (fun hc => ?_) <;> (try simp only [sB, ne_eq, reduceCtorEq] at hc) <;> (try (exfalso; omega))) | (refine WP.regionC ?_; (refine sassign rfl ?_); apply jW) | (refine WP.regionC (id := 1) ?_; (refine smove rfl ?_); (refine slenm rfl rfl ?_); (refine smove rfl ?_); (refine slenm rfl rfl ?_); (refine su (aneq rfl rfl) ?_); apply jW) | (refine WP.regionC (id := 3) ?_; (refine smove rfl ?_); (refine slenm rfl rfl ?_); (refine smove rfl ?_); apply jW) | refine ret_b rfl ?_))
  · have : a ≠ b := by rintro rfl; exact hc rfl
    simp [this]
  refine wp_loop (fun k => k ≤ a.length ∧ a.take k = b.take k) (fun k => a.length - k) (fun k => (S 32 [(1, exprsA b), (2, .clo (.func 46) [] []), (15, exprsA a), (16, intA (a.length : Nat)), (17, intA (k : Nat))] 0 [])) 0 ⟨[], ToR.S rfl (by repeat' (first | exact rt_nil | refine rt_e rfl rfl ?_ | refine rt_p rfl rfl (by first | (simp [AV.bd, bdL, bdL_append]; done) | fail) ?_)) (by repeat' (exact ro_nil)) rfl (by (rw [hm]; exact rfl)) rfl (by (simp [bdT, AV.bd, bdL, bdL_append]; done)) (by repeat' (exact True.intro)) (by (rw [hm]; exact Nat.le_of_ble_eq_true rfl))⟩ ⟨Nat.zero_le _, rfl⟩ ?_
  rintro k ⟨hk, hall⟩
  have hab : a.length = b.length := by omega
  by_cases hlt : k < a.length
  · have hx := h _ (nth_mem hlt) (nth b k)
    (repeat' (first | apply jA | apply jF | apply jH | apply jI | apply jK | apply jM | apply jN | apply jO | apply jS | (refine wp_cond rfl (fun hc => ?_) (fun hc => ?_) <;> (try simp only [sB, ne_eq, reduceCtorEq] at hc) <;> (try (exfalso; omega))) | (refine WP.regionC (id := 4) ?_; (refine slss rfl rfl ?_); apply jW) | (refine WP.regionC (id := 5) ?_; (refine smove rfl ?_); (refine sidxn rfl rfl (by omega) ?_); (refine sloadw rfl rfl ?_); (refine se_alloc rfl ?_); (refine sassign rfl ?_); (refine se_store_b rfl rfl rfl rfl ?_); apply jW) | (refine WP.regionC (id := 6) ?_; (refine smove rfl ?_); (refine smove rfl ?_); (refine sidxn rfl rfl (by omega) ?_); (refine sloadw rfl rfl ?_); (refine se_alloc rfl ?_); (refine se_store_b rfl rfl rfl rfl ?_); apply jW) | (refine WP.regionC (id := 7) ?_; (refine smove rfl ?_); (refine sloadpw rfl rfl rfl rfl ?_); (refine sloadpw rfl rfl rfl rfl ?_); (refine sc_p rfl rfl (by first | ((repeat' first | exact SubL.nil | refine SubL.cons ?_ ?_ | exact Sub.refl); done) | fail) (by first | (simp [bdL, bdL_append, AV.bd]; done) | fail) (hx) ?_); (refine su (anot rfl) ?_); apply jW) | (refine WP.regionC (id := 8) ?_; (refine sassign rfl ?_); apply jW) | (refine WP.regionC (id := 9) ?_; (refine sadd rfl rfl (by exact inr_i64_of (by omega)) ?_); (refine smove rfl ?_); apply jW) | refine ret_b rfl ?_))
    · have : a ≠ b := by rintro rfl; exact hc rfl
      simp [this]
    · exact ⟨k + 1, ⟨by omega, by omega, take_eq_succ (by omega) (by omega) hall hc⟩, ⟨[], ToR.S rfl (by repeat' (first | exact rt_nil | refine rt_e rfl rfl ?_ | refine rt_p rfl rfl (by first | (simp [AV.bd, bdL, bdL_append]; done) | fail) ?_)) (by repeat' (exact ro_nil)) rfl (by (rw [hm]; exact rfl)) rfl (by (simp [bdT, AV.bd, bdL, bdL_append]; done)) (by repeat' (exact True.intro)) (by (rw [hm]; exact Nat.le_of_ble_eq_true rfl))⟩⟩
  (repeat' (first | apply jA | apply jH | apply jJ | apply jK | apply jL | apply jP | apply jS | (refine wp_cond rfl (fun hc => ?_) (fun hc => ?_) <;> (try simp only [sB, ne_eq, reduceCtorEq] at hc) <;> (try (exfalso; omega))) | (refine WP.regionC (id := 4) ?_; (refine slss rfl rfl ?_); apply jW) | (refine WP.regionC (id := 10) ?_; (refine sassign rfl ?_); apply jW) | refine ret_b rfl ?_))
  simp [eq_of_takes hab (by omega) hall]
theorem sameExpr_fn (a : GEx) : ∀ b : GEx, Fn Try.prog 46 [exprA a, exprA b] (boolA (decide (a = b))) := by
  induction a using GEx.ind with
  | h a ih =>
    intro b
    have hq := equalE_fn a.kids b.kids ih
    have e1 : decide (a = b) = (decide (a.kind = b.kind) && decide (a.name = b.name) && decide (a.kids = b.kids)) := by
      rw [Bool.eq_iff_iff]; simp only [Bool.and_eq_true, decide_eq_true_eq]; exact gex_iff
    rw [e1, exprA, exprA, kids_exprsA, kids_exprsA]
    refine Fn.intro rfl (by kernel_rfl) Try.func46 rfl rfl Try.ntmps46 (by exact Nat.le_of_ble_eq_true rfl) ?_; intro Γ hm
    (repeat' (first | apply jA | apply jH | apply jK | apply jS | (refine WP.regionC (id := 0) ?_; (refine se_box rfl (by exact ⟨rfl, rfl⟩) ?_); (refine se_box rfl (by exact ⟨rfl, rfl⟩) ?_); (refine sassign rfl ?_); apply jW) | (refine WP.regionC (id := 1) ?_; (refine sfieldp rfl rfl rfl ?_); (refine sloadp rfl rfl rfl rfl ?_); (refine sfieldp rfl rfl rfl ?_); (refine sloadp rfl rfl rfl rfl ?_); (refine seql rfl rfl ?_); (refine smove rfl ?_); (refine sg (gq_vt rfl rfl) (fun he => ap_field_p (rq_p rfl rfl) rfl rfl) ?_); (refine sg (gq_vt rfl rfl) (fun he => ap_load_p (rq_c rfl rfl) rfl rfl rfl) ?_); (refine sg (gq_vt rfl rfl) (fun he => ap_field_p (rq_p rfl rfl) rfl rfl) ?_); (refine sg (gq_vt rfl rfl) (fun he => ap_load_p (rq_c rfl rfl) rfl rfl rfl) ?_); (refine sg (gq_vt rfl rfl) (fun he => ap_eqs (rq_c rfl rfl) (rq_c rfl rfl)) ?_); (refine su (ap_and (rq_p rfl rfl) (rq_c rfl rfl)) ?_); (refine smove rfl ?_); (refine sg (gq_vt rfl rfl) (fun he => ap_field_p (rq_p rfl rfl) rfl rfl) ?_); (refine sg (gq_vt rfl rfl) (fun he => ap_load_p (rq_c rfl rfl) rfl rfl rfl) ?_); (refine sg (gq_vt rfl rfl) (fun he => ap_field_p (rq_p rfl rfl) rfl rfl) ?_); (refine sg (gq_vt rfl rfl) (fun he => ap_load_p (rq_c rfl rfl) rfl rfl rfl) ?_); (refine sg_p (gq_vt rfl rfl) (fun he => ⟨(rq_p rfl rfl), (RqL.cons (rq_c rfl rfl) (RqL.cons (rq_c rfl rfl) (RqL.cons (rq_p rfl rfl) (RqL.nil)))), (by first | ((repeat' first | exact SubL.nil | refine SubL.cons ?_ ?_ | exact Sub.refl); done) | fail), (by first | (simp [bdL, bdL_append, AV.bd]; done) | fail), hq⟩) ?_); (refine su (ap_and (rq_p rfl rfl) (rq_c rfl rfl)) ?_); (refine sassign rfl ?_); apply jW) | exact ret_eq rfl rfl rfl))
theorem gequal3_fn (x y : GAl) : Fn Try.prog 45 [altA x, altA y] (boolA (decide (x = y))) := by
  have hq := sameExpr_fn x.body y.body
  have e1 : decide (x = y) = (decide (x.price = y.price) && decide (x.body = y.body)) := by
    rw [Bool.eq_iff_iff]; simp only [Bool.and_eq_true, decide_eq_true_eq]; exact gal_iff
  rw [e1]
  unfold altA
  refine Fn.intro rfl (by kernel_rfl) Try.func45 rfl rfl Try.ntmps45 (by exact Nat.le_of_ble_eq_true rfl) ?_; intro Γ hm
  (repeat' (first | apply jA | apply jH | apply jK | apply jS | (refine WP.regionC (id := 0) ?_; (refine se_box rfl (by exact ⟨rfl, rfl⟩) ?_); (refine se_box rfl (by exact ⟨rfl, rfl⟩) ?_); (refine sassign rfl ?_); apply jW) | (refine WP.regionC (id := 1) ?_; (refine sfieldp rfl rfl rfl ?_); (refine sloadp rfl rfl rfl rfl ?_); (refine sfieldp rfl rfl rfl ?_); (refine sloadp rfl rfl rfl rfl ?_); (refine seql rfl rfl ?_); (refine smove rfl ?_); (refine sg (gq_vt rfl rfl) (fun he => ap_field_p (rq_p rfl rfl) rfl rfl) ?_); (refine sg (gq_vt rfl rfl) (fun he => ap_load_p (rq_c rfl rfl) rfl rfl rfl) ?_); (refine sg (gq_vt rfl rfl) (fun he => ap_field_p (rq_p rfl rfl) rfl rfl) ?_); (refine sg (gq_vt rfl rfl) (fun he => ap_load_p (rq_c rfl rfl) rfl rfl rfl) ?_); (refine sg_p (gq_vt rfl rfl) (fun he => ⟨(rq_p rfl rfl), (RqL.cons (rq_c rfl rfl) (RqL.cons (rq_c rfl rfl) (RqL.nil))), (by first | ((repeat' first | exact SubL.nil | refine SubL.cons ?_ ?_ | exact Sub.refl); done) | fail), (by first | (simp [bdL, bdL_append, AV.bd, AV.cells]; done) | fail), hq⟩) ?_); (refine su (ap_and (rq_p rfl rfl) (rq_c rfl rfl)) ?_); (refine sassign rfl ?_); apply jW) | exact ret_eq rfl rfl rfl))
theorem equalA_fn (a b : List GAl) : Fn Try.prog 44 [altsA a, altsA b, .clo (.func 45) [] []] (boolA (decide (a = b))) := by
  refine Fn.intro rfl (by kernel_rfl) Try.func44 rfl rfl Try.ntmps44 (by exact Nat.le_of_ble_eq_true rfl) ?_; intro Γ hm
  refine wp_lens 0 rfl fun h0 => wp_lens 1 rfl fun h1 => ?_
  have h0 : a.length ≤ 9223372036854775807 := by simpa [altsA] using h0.1
  have h1 : b.length ≤ 9223372036854775807 := by simpa [altsA] using h1.1
  (repeat' (first | apply jA | apply jF | apply jH | apply jI | apply jK | apply jM | apply jS | (refine wp_cond rfl (fun hc => ?_) (fun hc => ?_) <;> (try simp only [sB, ne_eq, reduceCtorEq] at hc) <;> (try (exfalso; omega))) | (refine WP.regionC ?_; (refine sassign rfl ?_); apply jW) | (refine WP.regionC (id := 1) ?_; (refine smove rfl ?_); (refine slenm rfl rfl ?_); (refine smove rfl ?_); (refine slenm rfl rfl ?_); (refine su (aneq rfl rfl) ?_); apply jW) | (refine WP.regionC (id := 3) ?_; (refine smove rfl ?_); (refine slenm rfl rfl ?_); (refine smove rfl ?_); apply jW) | refine ret_b rfl ?_))
  · have : a ≠ b := by rintro rfl; exact hc rfl
    simp [this]
  refine wp_loop (fun k => k ≤ a.length ∧ a.take k = b.take k) (fun k => a.length - k) (fun k => (S 32 [(1, altsA b), (2, .clo (.func 45) [] []), (15, altsA a), (16, intA (a.length : Nat)), (17, intA (k : Nat))] 0 [])) 0 ⟨[], ToR.S rfl (by repeat' (first | exact rt_nil | refine rt_e rfl rfl ?_ | refine rt_p rfl rfl (by first | (simp [AV.bd, bdL, bdL_append]; done) | fail) ?_)) (by repeat' (exact ro_nil)) rfl (by (rw [hm]; exact rfl)) rfl (by (simp [bdT, AV.bd, bdL, bdL_append]; done)) (by repeat' (exact True.intro)) (by (rw [hm]; exact Nat.le_of_ble_eq_true rfl))⟩ ⟨Nat.zero_le _, rfl⟩ ?_
  rintro k ⟨hk, hall⟩
  have hab : a.length = b.length := by omega
  by_cases hlt : k < a.length
  · have hx := gequal3_fn (nth a k) (nth b k)
    (repeat' (first | apply jA | apply jF | apply jH | apply jI | apply jK | apply jM | apply jN | apply jO | apply jS | (refine wp_cond rfl (fun hc => ?_) (fun hc => ?_) <;> (try simp only [sB, ne_eq, reduceCtorEq] at hc) <;> (try (exfalso; omega))) | (refine WP.regionC (id := 4) ?_; (refine slss rfl rfl ?_); apply jW) | (refine WP.regionC (id := 5) ?_; (refine smove rfl ?_); (refine sidxn rfl rfl (by omega) ?_); (refine sloadw rfl rfl ?_); (refine se_alloc rfl ?_); (refine sassign rfl ?_); (refine se_store_b rfl rfl rfl rfl ?_); apply jW) | (refine WP.regionC (id := 6) ?_; (refine smove rfl ?_); (refine smove rfl ?_); (refine sidxn rfl rfl (by omega) ?_); (refine sloadw rfl rfl ?_); (refine se_alloc rfl ?_); (refine se_store_b rfl rfl rfl rfl ?_); apply jW) | (refine WP.regionC (id := 7) ?_; (refine smove rfl ?_); (refine sloadpw rfl rfl rfl rfl ?_); (refine sloadpw rfl rfl rfl rfl ?_); (refine sc_p rfl rfl (by first | ((repeat' first | exact SubL.nil | refine SubL.cons ?_ ?_ | exact Sub.refl); done) | fail) (by first | (simp [bdL, bdL_append, AV.bd]; done) | fail) (hx) ?_); (refine su (anot rfl) ?_); apply jW) | (refine WP.regionC (id := 8) ?_; (refine sassign rfl ?_); apply jW) | (refine WP.regionC (id := 9) ?_; (refine sadd rfl rfl (by exact inr_i64_of (by omega)) ?_); (refine smove rfl ?_); apply jW) | refine ret_b rfl ?_))
    · have : a ≠ b := by rintro rfl; exact hc rfl
      simp [this]
    · exact ⟨k + 1, ⟨by omega, by omega, take_eq_succ (by omega) (by omega) hall hc⟩, ⟨[], ToR.S rfl (by repeat' (first | exact rt_nil | refine rt_e rfl rfl ?_ | refine rt_p rfl rfl (by first | (simp [AV.bd, bdL, bdL_append]; done) | fail) ?_)) (by repeat' (exact ro_nil)) rfl (by (rw [hm]; exact rfl)) rfl (by (simp [bdT, AV.bd, bdL, bdL_append]; done)) (by repeat' (exact True.intro)) (by (rw [hm]; exact Nat.le_of_ble_eq_true rfl))⟩⟩
  (repeat' (first | apply jA | apply jH | apply jJ | apply jK | apply jL | apply jP | apply jS | (refine wp_cond rfl (fun hc => ?_) (fun hc => ?_) <;> (try simp only [sB, ne_eq, reduceCtorEq] at hc) <;> (try (exfalso; omega))) | (refine WP.regionC (id := 4) ?_; (refine slss rfl rfl ?_); apply jW) | (refine WP.regionC (id := 10) ?_; (refine sassign rfl ?_); apply jW) | refine ret_b rfl ?_))
  simp [eq_of_takes hab (by omega) hall]
theorem gequal2_fn (x y : GRu) : Fn Try.prog 43 [gruleA x, gruleA y] (boolA (decide (x = y))) := by
  have e1 : decide (x = y) = (decide (x.name = y.name) && decide (x.alts = y.alts)) := by
    rw [Bool.eq_iff_iff]; simp only [Bool.and_eq_true, decide_eq_true_eq]; exact gru_iff
  rw [e1]
  refine Fn.intro rfl (by kernel_rfl) Try.func43 rfl rfl Try.ntmps43 (by exact Nat.le_of_ble_eq_true rfl) ?_; intro Γ hm
  (repeat' (first | apply jA | apply jH | apply jK | apply jS | (refine WP.regionC (id := 0) ?_; (refine se_box rfl (by exact ⟨rfl, rfl⟩) ?_); (refine se_box rfl (by exact ⟨rfl, rfl⟩) ?_); (refine sassign rfl ?_); apply jW) | (refine WP.regionC (id := 1) ?_; (refine sfieldp rfl rfl rfl ?_); (refine sloadp rfl rfl rfl rfl ?_); (refine sfieldp rfl rfl rfl ?_); (refine sloadp rfl rfl rfl rfl ?_); (refine seqs rfl rfl ?_); (refine smove rfl ?_); (refine sg (gq_vt rfl rfl) (fun he => ap_field_p (rq_p rfl rfl) rfl rfl) ?_); (refine sg (gq_vt rfl rfl) (fun he => ap_load_p (rq_c rfl rfl) rfl rfl rfl) ?_); (refine sg (gq_vt rfl rfl) (fun he => ap_field_p (rq_p rfl rfl) rfl rfl) ?_); (refine sg (gq_vt rfl rfl) (fun he => ap_load_p (rq_c rfl rfl) rfl rfl rfl) ?_); (refine sg_p (gq_vt rfl rfl) (fun he => ⟨(rq_p rfl rfl), (RqL.cons (rq_c rfl rfl) (RqL.cons (rq_c rfl rfl) (RqL.cons (rq_p rfl rfl) (RqL.nil)))), (by first | ((repeat' first | exact SubL.nil | refine SubL.cons ?_ ?_ | exact Sub.refl); done) | fail), (by first | (simp [bdL, bdL_append, AV.bd]; done) | fail), equalA_fn x.alts y.alts⟩) ?_); (refine su (ap_and (rq_p rfl rfl) (rq_c rfl rfl)) ?_); (refine sassign rfl ?_); apply jW) | exact ret_eq rfl rfl rfl))
theorem equalR_fn (a b : List GRu) : Fn Try.prog 42 [grulesA a, grulesA b, .clo (.func 43) [] []] (boolA (decide (a = b))) := by
  refine Fn.intro rfl (by kernel_rfl) Try.func42 rfl rfl Try.ntmps42 (by exact Nat.le_of_ble_eq_true rfl) ?_; intro Γ hm
  refine wp_lens 0 rfl fun h0 => wp_lens 1 rfl fun h1 => ?_
  have h0 : a.length ≤ 9223372036854775807 := by simpa [grulesA] using h0.1
  have h1 : b.length ≤ 9223372036854775807 := by simpa [grulesA] using h1.1
  (repeat' (first | apply jA | apply jF | apply jH | apply jI | apply jK | apply jM | apply jS | (refine wp_cond rfl (fun hc => ?_) (fun hc => ?_) <;> (try simp only [sB, ne_eq, reduceCtorEq] at hc) <;> (try (exfalso; omega))) | (refine WP.regionC ?_; (refine sassign rfl ?_); apply jW) | (refine WP.regionC (id := 1) ?_; (refine smove rfl ?_); (refine slenm rfl rfl ?_); (refine smove rfl ?_); (refine slenm rfl rfl ?_); (refine su (aneq rfl rfl) ?_); apply jW) | (refine WP.regionC (id := 3) ?_; (refine smove rfl ?_); (refine slenm rfl rfl ?_); (refine smove rfl ?_); apply jW) | refine ret_b rfl ?_))
  · have : a ≠ b := by rintro rfl; exact hc rfl
    simp [this]
  refine wp_loop (fun k => k ≤ a.length ∧ a.take k = b.take k) (fun k => a.length - k) (fun k => (S 32 [(1, grulesA b), (2, .clo (.func 43) [] []), (15, grulesA a), (16, intA (a.length : Nat)), (17, intA (k : Nat))] 0 [])) 0 ⟨[], ToR.S rfl (by repeat' (first | exact rt_nil | refine rt_e rfl rfl ?_ | refine rt_p rfl rfl (by first | (simp [AV.bd, bdL, bdL_append]; done) | fail) ?_)) (by repeat' (exact ro_nil)) rfl (by (rw [hm]; exact rfl)) rfl (by (simp [bdT, AV.bd, bdL, bdL_append]; done)) (by repeat' (exact True.intro)) (by (rw [hm]; exact Nat.le_of_ble_eq_true rfl))⟩ ⟨Nat.zero_le _, rfl⟩ ?_
  rintro k ⟨hk, hall⟩
  have hab : a.length = b.length := by omega
  by_cases hlt : k < a.length
  · have hx := gequal2_fn (nth a k) (nth b k)
    (repeat' (first | apply jA | apply jF | apply jH | apply jI | apply jK | apply jM | apply jN | apply jO | apply jS | (refine wp_cond rfl (fun hc => ?_) (fun hc => ?_) <;> (try simp only [sB, ne_eq, reduceCtorEq] at hc) <;> (try (exfalso; omega))) | (refine WP.regionC (id := 4) ?_; (refine slss rfl rfl ?_); apply jW) | (refine WP.regionC (id := 5) ?_; (refine smove rfl ?_); (refine sidxn rfl rfl (by omega) ?_); (refine sloadw rfl rfl ?_); (refine se_alloc rfl ?_); (refine sassign rfl ?_); (refine se_store_b rfl rfl rfl rfl ?_); apply jW) | (refine WP.regionC (id := 6) ?_; (refine smove rfl ?_); (refine smove rfl ?_); (refine sidxn rfl rfl (by omega) ?_); (refine sloadw rfl rfl ?_); (refine se_alloc rfl ?_); (refine se_store_b rfl rfl rfl rfl ?_); apply jW) | (refine WP.regionC (id := 7) ?_; (refine smove rfl ?_); (refine sloadpw rfl rfl rfl rfl ?_); (refine sloadpw rfl rfl rfl rfl ?_); (refine sc_p rfl rfl (by first | ((repeat' first | exact SubL.nil | refine SubL.cons ?_ ?_ | exact Sub.refl); done) | fail) (by first | (simp [bdL, bdL_append, AV.bd]; done) | fail) (hx) ?_); (refine su (anot rfl) ?_); apply jW) | (refine WP.regionC (id := 8) ?_; (refine sassign rfl ?_); apply jW) | (refine WP.regionC (id := 9) ?_; (refine sadd rfl rfl (by exact inr_i64_of (by omega)) ?_); (refine smove rfl ?_); apply jW) | refine ret_b rfl ?_))
    · have : a ≠ b := by rintro rfl; exact hc rfl
      simp [this]
    · exact ⟨k + 1, ⟨by omega, by omega, take_eq_succ (by omega) (by omega) hall hc⟩, ⟨[], ToR.S rfl (by repeat' (first | exact rt_nil | refine rt_e rfl rfl ?_ | refine rt_p rfl rfl (by first | (simp [AV.bd, bdL, bdL_append]; done) | fail) ?_)) (by repeat' (exact ro_nil)) rfl (by (rw [hm]; exact rfl)) rfl (by (simp [bdT, AV.bd, bdL, bdL_append]; done)) (by repeat' (exact True.intro)) (by (rw [hm]; exact Nat.le_of_ble_eq_true rfl))⟩⟩
  (repeat' (first | apply jA | apply jH | apply jJ | apply jK | apply jL | apply jP | apply jS | (refine wp_cond rfl (fun hc => ?_) (fun hc => ?_) <;> (try simp only [sB, ne_eq, reduceCtorEq] at hc) <;> (try (exfalso; omega))) | (refine WP.regionC (id := 4) ?_; (refine slss rfl rfl ?_); apply jW) | (refine WP.regionC (id := 10) ?_; (refine sassign rfl ?_); apply jW) | refine ret_b rfl ?_))
  simp [eq_of_takes hab (by omega) hall]
theorem gequal1_fn (x y : GLe) : Fn Try.prog 40 [levelA x, levelA y] (boolA (decide (x = y))) := by
  have e1 : decide (x = y) = (decide (x.assoc = y.assoc) && decide (x.tokens = y.tokens)) := by
    rw [Bool.eq_iff_iff]; simp only [Bool.and_eq_true, decide_eq_true_eq]; exact gle_iff
  rw [e1]
  refine Fn.intro rfl (by kernel_rfl) Try.func40 rfl rfl Try.ntmps40 (by exact Nat.le_of_ble_eq_true rfl) ?_; intro Γ hm
  (repeat' (first | apply jA | apply jH | apply jK | apply jS | (refine WP.regionC (id := 0) ?_; (refine se_box rfl (by exact ⟨rfl, rfl⟩) ?_); (refine se_box rfl (by exact ⟨rfl, rfl⟩) ?_); (refine sassign rfl ?_); apply jW) | (refine WP.regionC (id := 1) ?_; (refine sfieldp rfl rfl rfl ?_); (refine sloadp rfl rfl rfl rfl ?_); (refine sfieldp rfl rfl rfl ?_); (refine sloadp rfl rfl rfl rfl ?_); (refine seql rfl rfl ?_); (refine smove rfl ?_); (refine sg (gq_vt rfl rfl) (fun he => ap_field_p (rq_p rfl rfl) rfl rfl) ?_); (refine sg (gq_vt rfl rfl) (fun he => ap_load_p (rq_c rfl rfl) rfl rfl rfl) ?_); (refine sg (gq_vt rfl rfl) (fun he => ap_field_p (rq_p rfl rfl) rfl rfl) ?_); (refine sg (gq_vt rfl rfl) (fun he => ap_load_p (rq_c rfl rfl) rfl rfl rfl) ?_); (refine sg_p (gq_vt rfl rfl) (fun he => ⟨(rq_p rfl rfl), (RqL.cons (rq_c rfl rfl) (RqL.cons (rq_c rfl rfl) (RqL.nil))), (by first | ((repeat' first | exact SubL.nil | refine SubL.cons ?_ ?_ | exact Sub.refl); done) | fail), (by first | (simp [bdL, bdL_append, AV.bd]; done) | fail), equalStrs_fn x.tokens y.tokens⟩) ?_); (refine su (ap_and (rq_p rfl rfl) (rq_c rfl rfl)) ?_); (refine sassign rfl ?_); apply jW) | exact ret_eq rfl rfl rfl))
theorem equalL_fn (a b : List GLe) : Fn Try.prog 39 [levelsA a, levelsA b, .clo (.func 40) [] []] (boolA (decide (a = b))) := by
  refine Fn.intro rfl (by kernel_rfl) Try.func39 rfl rfl Try.ntmps39 (by exact Nat.le_of_ble_eq_true rfl) ?_; intro Γ hm
  refine wp_lens 0 rfl fun h0 => wp_lens 1 rfl fun h1 => ?_
  have h0 : a.length ≤ 9223372036854775807 := by simpa [levelsA] using h0.1
  have h1 : b.length ≤ 9223372036854775807 := by simpa [levelsA] using h1.1
  (repeat' (first | apply jA | apply jF | apply jH | apply jI | apply jK | apply jM | apply jS | (refine wp_cond rfl (fun hc => ?_) (fun hc => ?_) <;> (try simp only [sB, ne_eq, reduceCtorEq] at hc) <;> (try (exfalso; omega))) | (refine WP.regionC ?_; (refine sassign rfl ?_); apply jW) | (refine WP.regionC (id := 1) ?_; (refine smove rfl ?_); (refine slenm rfl rfl ?_); (refine smove rfl ?_); (refine slenm rfl rfl ?_); (refine su (aneq rfl rfl) ?_); apply jW) | (refine WP.regionC (id := 3) ?_; (refine smove rfl ?_); (refine slenm rfl rfl ?_); (refine smove rfl ?_); apply jW) | refine ret_b rfl ?_))
  · have : a ≠ b := by rintro rfl; exact hc rfl
    simp [this]
  refine wp_loop (fun k => k ≤ a.length ∧ a.take k = b.take k) (fun k => a.length - k) (fun k => (S 32 [(1, levelsA b), (2, .clo (.func 40) [] []), (15, levelsA a), (16, intA (a.length : Nat)), (17, intA (k : Nat))] 0 [])) 0 ⟨[], ToR.S rfl (by repeat' (first | exact rt_nil | refine rt_e rfl rfl ?_ | refine rt_p rfl rfl (by first | (simp [AV.bd, bdL, bdL_append]; done) | fail) ?_)) (by repeat' (exact ro_nil)) rfl (by (rw [hm]; exact rfl)) rfl (by (simp [bdT, AV.bd, bdL, bdL_append]; done)) (by repeat' (exact True.intro)) (by (rw [hm]; exact Nat.le_of_ble_eq_true rfl))⟩ ⟨Nat.zero_le _, rfl⟩ ?_
  rintro k ⟨hk, hall⟩
  have hab : a.length = b.length := by omega
  by_cases hlt : k < a.length
  · have hx := gequal1_fn (nth a k) (nth b k)
    (repeat' (first | apply jA | apply jF | apply jH | apply jI | apply jK | apply jM | apply jN | apply jO | apply jS | (refine wp_cond rfl (fun hc => ?_) (fun hc => ?_) <;> (try simp only [sB, ne_eq, reduceCtorEq] at hc) <;> (try (exfalso; omega))) | (refine WP.regionC (id := 4) ?_; (refine slss rfl rfl ?_); apply jW) | (refine WP.regionC (id := 5) ?_; (refine smove rfl ?_); (refine sidxn rfl rfl (by omega) ?_); (refine sloadw rfl rfl ?_); (refine se_alloc rfl ?_); (refine sassign rfl ?_); (refine se_store_b rfl rfl rfl rfl ?_); apply jW) | (refine WP.regionC (id := 6) ?_; (refine smove rfl ?_); (refine smove rfl ?_); (refine sidxn rfl rfl (by omega) ?_); (refine sloadw rfl rfl ?_); (refine se_alloc rfl ?_); (refine se_store_b rfl rfl rfl rfl ?_); apply jW) | (refine WP.regionC (id := 7) ?_; (refine smove rfl ?_); (refine sloadpw rfl rfl rfl rfl ?_); (refine sloadpw rfl rfl rfl rfl ?_); (refine sc_p rfl rfl (by first | ((repeat' first | exact SubL.nil | refine SubL.cons ?_ ?_ | exact Sub.refl); done) | fail) (by first | (simp [bdL, bdL_append, AV.bd]; done) | fail) (hx) ?_); (refine su (anot rfl) ?_); apply jW) | (refine WP.regionC (id := 8) ?_; (refine sassign rfl ?_); apply jW) | (refine WP.regionC (id := 9) ?_; (refine sadd rfl rfl (by exact inr_i64_of (by omega)) ?_); (refine smove rfl ?_); apply jW) | refine ret_b rfl ?_))
    · have : a ≠ b := by rintro rfl; exact hc rfl
      simp [this]
    · exact ⟨k + 1, ⟨by omega, by omega, take_eq_succ (by omega) (by omega) hall hc⟩, ⟨[], ToR.S rfl (by repeat' (first | exact rt_nil | refine rt_e rfl rfl ?_ | refine rt_p rfl rfl (by first | (simp [AV.bd, bdL, bdL_append]; done) | fail) ?_)) (by repeat' (exact ro_nil)) rfl (by (rw [hm]; exact rfl)) rfl (by (simp [bdT, AV.bd, bdL, bdL_append]; done)) (by repeat' (exact True.intro)) (by (rw [hm]; exact Nat.le_of_ble_eq_true rfl))⟩⟩
  (repeat' (first | apply jA | apply jH | apply jJ | apply jK | apply jL | apply jP | apply jS | (refine wp_cond rfl (fun hc => ?_) (fun hc => ?_) <;> (try simp only [sB, ne_eq, reduceCtorEq] at hc) <;> (try (exfalso; omega))) | (refine WP.regionC (id := 4) ?_; (refine slss rfl rfl ?_); apply jW) | (refine WP.regionC (id := 10) ?_; (refine sassign rfl ?_); apply jW) | refine ret_b rfl ?_))
  simp [eq_of_takes hab (by omega) hall]
theorem gequal_fn (x y : GFi) : Fn Try.prog 17 [fileA x, fileA y] (boolA (decide (x = y))) := by
  have e1 : decide (x = y) = (decide (x.start = y.start) && decide (x.levels = y.levels) && decide (x.rules = y.rules)) := by
    rw [Bool.eq_iff_iff]; simp only [Bool.and_eq_true, decide_eq_true_eq]; exact gfi_iff
  rw [e1]
  refine Fn.intro rfl (by kernel_rfl) Try.func17 rfl rfl Try.ntmps17 (by exact Nat.le_of_ble_eq_true rfl) ?_; intro Γ hm
  (repeat' (first | apply jA | apply jH | apply jK | apply jS | (refine WP.regionC (id := 0) ?_; (refine se_box rfl (by exact ⟨rfl, rfl⟩) ?_); (refine se_box rfl (by exact ⟨rfl, rfl⟩) ?_); (refine sassign rfl ?_); apply jW) | (refine WP.regionC (id := 1) ?_; (refine sfieldp rfl rfl rfl ?_); (refine sloadp rfl rfl rfl rfl ?_); (refine sfieldp rfl rfl rfl ?_); (refine sloadp rfl rfl rfl rfl ?_); (refine seqs rfl rfl ?_); (refine smove rfl ?_); (refine sg (gq_vt rfl rfl) (fun he => ap_field_p (rq_p rfl rfl) rfl rfl) ?_); (refine sg (gq_vt rfl rfl) (fun he => ap_load_p (rq_c rfl rfl) rfl rfl rfl) ?_); (refine sg (gq_vt rfl rfl) (fun he => ap_field_p (rq_p rfl rfl) rfl rfl) ?_); (refine sg (gq_vt rfl rfl) (fun he => ap_load_p (rq_c rfl rfl) rfl rfl rfl) ?_); (refine sg_p (gq_vt rfl rfl) (fun he => ⟨(rq_p rfl rfl), (RqL.cons (rq_c rfl rfl) (RqL.cons (rq_c rfl rfl) (RqL.cons (rq_p rfl rfl) (RqL.nil)))), (by first | ((repeat' first | exact SubL.nil | refine SubL.cons ?_ ?_ | exact Sub.refl); done) | fail), (by first | (simp [bdL, bdL_append, AV.bd]; done) | fail), equalL_fn x.levels y.levels⟩) ?_); (refine su (ap_and (rq_p rfl rfl) (rq_c rfl rfl)) ?_); (refine smove rfl ?_); (refine sg (gq_vt rfl rfl) (fun he => ap_field_p (rq_p rfl rfl) rfl rfl) ?_); (refine sg (gq_vt rfl rfl) (fun he => ap_load_p (rq_c rfl rfl) rfl rfl rfl) ?_); (refine sg (gq_vt rfl rfl) (fun he => ap_field_p (rq_p rfl rfl) rfl rfl) ?_); (refine sg (gq_vt rfl rfl) (fun he => ap_load_p (rq_c rfl rfl) rfl rfl rfl) ?_); (refine sg_p (gq_vt rfl rfl) (fun he => ⟨(rq_p rfl rfl), (RqL.cons (rq_c rfl rfl) (RqL.cons (rq_c rfl rfl) (RqL.cons (rq_p rfl rfl) (RqL.nil)))), (by first | ((repeat' first | exact SubL.nil | refine SubL.cons ?_ ?_ | exact Sub.refl); done) | fail), (by first | (simp [bdL, bdL_append, AV.bd]; done) | fail), equalR_fn x.rules y.rules⟩) ?_); (refine su (ap_and (rq_p rfl rfl) (rq_c rfl rfl)) ?_); (refine sassign rfl ?_); apply jW) | exact ret_eq rfl rfl rfl))
end Go.Lg
