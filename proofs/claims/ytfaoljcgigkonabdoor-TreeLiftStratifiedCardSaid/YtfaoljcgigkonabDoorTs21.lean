/-
  Part 21 of the proof of TreeLiftStratifiedCard: the logic over the model, the functions' contracts and the plain laws.
-/
import Derived.Test.YtfaoljcgigkonabDoorTs20
set_option linter.unusedSimpArgs false
set_option linter.unusedVariables false
set_option linter.unusedSectionVars false
set_option linter.defProp false
set_option maxRecDepth 20000
set_option maxHeartbeats 8000000
namespace Go.Lg
def relS (g : Gram) (l : List GLe) (y' y : Int) : Prop := (0 <= y /\ y' = y) \/ (y < 0 /\ (-1 - y).toNat < g.nonterms.length /\ (-1 - y') ∈ chnG g l (-1 - y).toNat)
section
variable {g : Gram} {l : List GLe}
theorem relS_self {y : Int} (h : -(g.nonterms.length : Int) <= y) : relS g l y y := by
 by_cases hy : 0 <= y
 ·exact .inl ⟨hy, rfl⟩
 ·refine .inr ⟨by omega, by omega, ?_⟩
  rw [mem_chn]; left; omega
theorem chn_at_mem {e i : Nat} (h : i <= (useL g l e).length) : nth (chnG g l e) i ∈ chnG g l e := nth_mem (by rw [chnG_len]; omega)
theorem selfB_iff {r : Rul} : selfB r = true ↔ r.body.length = 3 /\ nth r.body 0 = -1 - r.head /\ nth r.body 2 = -1 - r.head /\ 0 <= nth r.body 1 := by
 simp only [selfB, Bool.and_eq_true, decide_eq_true_eq, and_assoc]
theorem bin_self {r : Rul} (h : 0 <= binL g l r) : selfB r = true /\ binL g l r = levelG g l (nth r.body 1) := by
 unfold binL at h ⊢
 split
 ·rename_i h1; exact ⟨h1, rfl⟩
 ·rename_i h1; rw [if_neg h1] at h; omega
theorem ruleS_fit (hv : GVal g) {r : Rul} (hr : r ∈ g.rules) : (ruleS g l r).head ∈ chnG g l r.head.toNat /\ (ruleS g l r).price = r.price /\ (ruleS g l r).body.length = r.body.length /\
  ∀ j, j < r.body.length -> relS g l (nth (ruleS g l r).body j) (nth r.body j) := by
 have hf := hv.rule r hr
 have h0 := hf.h0
 have hn := hf.hn
 have hself : ∀ i, i <= (useL g l r.head.toNat).length -> relS g l (-1 - nth (chnG g l r.head.toNat) i) (-1 - r.head) := fun i hi => by
  refine .inr ⟨by omega, by omega, ?_⟩
  rw [show (-1 - (-1 - r.head)).toNat = r.head.toNat by omega, show -1 - (-1 - nth (chnG g l r.head.toNat) i) = nth (chnG g l r.head.toNat) i by omega]
  exact chn_at_mem hi
 by_cases hb : 0 <= binL g l r
 ·obtain ⟨hs, _⟩ := bin_self hb
  obtain ⟨s1, s2, s3, s4⟩ := selfB_iff.1 hs
  have hu := posU_is g l (bin_used g l hr h0 hb)
  rw [Int.toNat_of_nonneg hb] at hu
  have hu := hu.1
  unfold ruleS
  rw [if_pos hb]
  refine ⟨chn_at_mem (by omega), rfl, by simp [s1], ?_⟩
  intro j hj
  match j, hj with
  | 0, _ => rw [s2]; exact hself _ (by split <;> omega)
  | 1, _ => exact .inl ⟨s4, rfl⟩
  | 2, _ => rw [s3]; exact hself _ (by split <;> omega)
  | j + 3, hj => omega
 ·unfold ruleS
  rw [if_neg hb]
  refine ⟨lastC_mem g l _, rfl, by simp, ?_⟩
  intro j hj
  rw [nth_range hj]
  split
  ·rename_i hc
   rw [hc.2]
   exact hself _ (Nat.le_refl _)
  ·exact relS_self (hf.lo _ (nth_mem hj))
theorem mem_unitsS {r : Rul} {k : Nat} (h : r ∈ unitsS g l k) : ∃ e i, e < k /\ i < (useL g l e).length /\ r = ⟨nth (chnG g l e) i, [-1 - nth (chnG g l e) (i + 1)], 0⟩ := by
 simp only [unitsS, unitS, List.mem_flatten, List.mem_map, List.mem_range] at h
 obtain ⟨q, ⟨e, he, rfl⟩, hq⟩ := h
 obtain ⟨i, hi, rfl⟩ := List.mem_map.1 hq
 exact ⟨e, i, he, by simpa using hi, rfl⟩
theorem from_old {i : Nat} (h : i < g.rules.length) : nth (fromG g l) i = (i : Int) := by
 unfold fromG
 rw [nth_append, if_pos (by simpa using h), nth_range h]
theorem from_unit {i : Nat} (h1 : g.rules.length <= i) (h2 : i < g.rules.length + (unitsS g l g.nonterms.length).length) : nth (fromG g l) i = -1 := by
 unfold fromG
 rw [nth_append, if_neg (by simp; omega), nth_replicate (by simp; omega)]
theorem strat_old {i : Nat} (h : i < g.rules.length) : nth (stratG g l).rules i = ruleS g l (nth g.rules i) := by
 unfold stratG
 simp only
 rw [nth_append, if_pos (by simpa using h), nth_mapP h]
theorem strat_unit {i : Nat} (h1 : g.rules.length <= i) (h2 : i < (stratG g l).rules.length) : ∃ e j, e < g.nonterms.length /\ j < (useL g l e).length /\ nth (stratG g l).rules i = ⟨nth (chnG g l e) j, [-1 - nth (chnG g l e) (j + 1)], 0⟩ := by
 have h3 : nth (stratG g l).rules i ∈ unitsS g l g.nonterms.length := by
  unfold stratG at h2 ⊢
  simp only [List.length_append, List.length_map] at h2 ⊢
  rw [nth_append, if_neg (by simp; omega)]
  exact nth_mem (by simp; omega)
 exact mem_unitsS h3
theorem strat_lift_list {s : Gram} {fr : List Int} : ∀ (ks : List Tre) (ys : List Int), ys.length = ks.length ->
    (∀ j, j < ks.length -> ∃ x, liftT fr (nth ks j) = [x] /\ okT g (nth ys j) x = true /\ priceT g x = priceT s (nth ks j) /\ leavesT x = leavesT (nth ks j)) ->
    ∃ xs, liftTL fr ks = xs /\ xs.length = ks.length /\ (∀ j, j < ks.length -> okT g (nth ys j) (nth xs j) = true) /\ priceTL g xs = priceTL s ks /\ leavesTL xs = leavesTL ks
  | [], _, _, _ => ⟨[], rfl, rfl, fun j hj => by simp at hj, by simp [priceTL], by simp [leavesTL]⟩
  | k :: ks, [], h, _ => by simp at h
  | k :: ks, y :: ys, h, hx => by
    obtain ⟨x, a1, a2, a3, a4⟩ := hx 0 (by simp)
    obtain ⟨xs, b1, b2, b3, b4, b5⟩ := strat_lift_list (s := s) (fr := fr) ks ys (by simpa using h) fun j hj => hx (j + 1) (by simpa using hj)
    refine ⟨x :: xs, ?_, by simp [b2], ?_, ?_, ?_⟩
    · rw [liftTL, show liftT fr k = [x] from a1, b1]; rfl
    · intro j hj
      cases j with
      | zero => exact a2
      | succ j => exact b3 j (by simpa using hj)
    · rw [priceTL, priceTL, b4, show priceT g x = priceT s k from a3]
    · rw [leavesTL, leavesTL, b5, show leavesT x = leavesT k from a4]
theorem strat_lift (hv : GVal g) (t : Tre) : ∀ y' y, relS g l y' y -> okT (stratG g l) y' t = true ->
  ∃ x, liftT (fromG g l) t = [x] /\ okT g y x = true /\ priceT g x = priceT (stratG g l) t /\ leavesT x = leavesT t := by
 induction t using Tre.ind with
 | h t ih =>
  intro y' y hrel hok
  rcases hrel with ⟨hy, rfl⟩ | ⟨hy, hn, hc⟩
  ·obtain rfl := (okT_leaf hy).1 hok
   have hl1 : (leafT y').rule = -1 := rfl
   exact ⟨leafT y', by rw [liftT_eq, if_pos hl1], (okT_leaf hy).2 rfl, by rw [priceT_eq, priceT_eq, if_pos (by omega), if_pos (by omega)], rfl⟩
  ·have hy' : y' < 0 := by
    rw [mem_chn] at hc
    have := offN_le g l (-1 - y).toNat
    omega
   have hT := (okT_in hy').1 hok
   have hr0 := hT.r0
   have hrn := hT.rn
   have hhd := hT.hd
   by_cases hi : t.rule.toNat < g.rules.length
   ·have hlen := hT.len
    have hkid := hT.kid
    rw [strat_old hi] at hhd hlen hkid
    have hr := nth_mem hi
    have hf := hv.rule _ hr
    obtain ⟨f1, f2, f3, f4⟩ := ruleS_fit (l := l) hv hr
    have he : (nth g.rules t.rule.toNat).head.toNat = (-1 - y).toNat := by
     have h0 := hf.h0
     have h1 := hf.hn
     refine chn_uniq g l (by omega) hn f1 ?_
     rw [hhd]; exact hc
    obtain ⟨xs, b1, b2, b3, b4, b5⟩ := strat_lift_list (g := g) (s := stratG g l) (fr := fromG g l) t.kids (nth g.rules t.rule.toNat).body (by omega) fun j hj => by
     exact ih _ (nth_mem hj) _ _ (f4 j (by omega)) (hkid j hj)
    have q1 : (Tre.mk t.rule 0 xs).rule = t.rule := rfl
    have q2 : (Tre.mk t.rule 0 xs).kids = xs := rfl
    refine ⟨.mk t.rule 0 xs, ?_, ?_, ?_, ?_⟩
    ·rw [liftT_eq, if_neg (by omega), from_old hi, if_neg (by omega), b1, Int.toNat_of_nonneg hr0]
    ·have h0 := hf.h0
     refine (okT_in hy).2 ⟨hr0, hi, rfl, by rw [q1]; omega, by rw [q1, q2]; omega, fun j hj => b3 j (by rw [q2] at hj; omega)⟩
    ·rw [priceT_eq, priceT_eq _ t, q1, q2, if_neg (by omega), if_neg (by omega), strat_old hi, f2, b4]
    ·rw [leavesT_eq, leavesT_eq t, q1, q2, if_neg (by omega), if_neg (by omega)]
     exact b5
   ·obtain ⟨e, j, he, hj, hq⟩ := strat_unit (g := g) (l := l) (by omega) hrn
    have hlen := hT.len
    have hkid := hT.kid
    rw [hq] at hhd hlen hkid
    simp only at hhd hlen hkid
    have hee : e = (-1 - y).toNat := chn_uniq g l he hn (chn_at_mem (g := g) (l := l) (e := e) (i := j) (by omega)) (by rw [hhd]; exact hc)
    obtain ⟨k, hks⟩ : ∃ k, t.kids = [k] := by
     cases hq : t.kids with
     | nil => rw [hq] at hlen; simp at hlen
     | cons a m =>
      rw [hq] at hlen
      have : m = [] := List.eq_nil_of_length_eq_zero (by simpa using hlen)
      rw [this]; exact ⟨a, rfl⟩
    rw [hks] at hkid ih
    have hk := hkid 0 (by simp)
    rw [nth_zero, nth_zero] at hk
    obtain ⟨x, a1, a2, a3, a4⟩ := ih k (by simp) _ y (.inr ⟨hy, hn, by
     rw [<- hee, show ∀ z : Int, -1 - (-1 - z) = z by omega]
     exact chn_at_mem (by omega)⟩) hk
    refine ⟨x, ?_, a2, ?_, ?_⟩
    ·rw [liftT_eq, if_neg (by omega), from_unit (by omega) (by
      have := hrn
      unfold stratG at this
      simpa using this), if_pos rfl, hks, liftTL, liftTL, a1]
     rfl
    ·rw [a3, priceT_eq _ t, if_neg (by omega), hq, hks]
     simp [priceTL]
    ·rw [a4, leavesT_eq t, if_neg (by omega), hks]
     simp [leavesTL]
theorem strat_tok (hv : GVal g) {t : Tre} (h0 : 0 <= t.rule) (h : tokT (stratG g l) t) : ∃ x, liftT (fromG g l) t = [x] /\ tokT g x /\ priceT g x = priceT (stratG g l) t /\ leavesT x = leavesT t := by
 rcases h with ⟨h1, _⟩ | ⟨h1, h2, h3⟩
 ·omega
 ·have hrn : t.rule.toNat < (stratG g l).rules.length := by omega
  obtain ⟨e, he, hc⟩ : ∃ e, e < g.nonterms.length /\ (nth (stratG g l).rules t.rule.toNat).head ∈ chnG g l e := by
   by_cases hi : t.rule.toNat < g.rules.length
   ·rw [strat_old hi]
    have hf := hv.rule _ (nth_mem hi)
    have := hf.h0
    have := hf.hn
    exact ⟨_, by omega, (ruleS_fit hv (nth_mem hi)).1⟩
   ·obtain ⟨e, j, he, hj, hq⟩ := strat_unit (g := g) (l := l) (by omega) hrn
    rw [hq]
    exact ⟨e, he, chn_at_mem (by omega)⟩
  obtain ⟨x, a1, a2, a3, a4⟩ := strat_lift (l := l) hv t _ (-1 - (e : Int)) (.inr ⟨by omega, by omega, by
   rw [show ∀ z : Int, -1 - (-1 - z) = z by omega, show ∀ z : Int, -1 - (-1 - z) = z by omega]
   exact hc⟩) h3
  refine ⟨x, a1, .inr ?_, a3, a4⟩
  have hT := (okT_in (by omega)).1 a2
  have := hT.r0
  have := hT.rn
  have hd := hT.hd
  exact ⟨by omega, by omega, by rw [hd, show -1 - (-1 - (-1 - (e : Int))) = -1 - (e : Int) by omega]; exact a2⟩
end
open Go.Proofs
attribute [local irreducible] Ap Rq asemC WP RunD Ret Gq thenA inBlockA bodyQ noGotoA RqL RqP OpP
theorem same20_fn (a b : List Int) : Fn Tryd.prog 11 [intsA a, intsA b] (boolA (decide (a = b))) := by
 refine Fn.intro rfl (by kernel_rfl) Tryd.func11 rfl rfl Tryd.ntmps11 (by exact nle rfl) ?_; intro Γ hm
 refine wp_lens 0 rfl fun h0 => wp_lens 1 rfl fun h1 => ?_
 have h0 : a.length <= 9223372036854775807 := by have := h0; simp [AV.lens, intsA] at this; omega
 have h1 : b.length <= 9223372036854775807 := by have := h1; simp [AV.lens, intsA] at this; omega
 by_cases hlen : a.length = b.length
 ·(repeat' (first | apply jA | apply jF | apply jH | apply jI | (refine wp_cond rfl (fun hc => ?_) (fun hc => ?_) <;> (try simp only [sB, ne_eq, reduceCtorEq] at hc) <;> (try (exfalso; omega))) | (refine WP.regionC ?_; (refine sassign rfl ?_); apply jW) | (refine rgC 1 ?_; (refine smove rfl ?_); (refine slenm rfl rfl ?_); (refine smove rfl ?_); (refine slenm rfl rfl ?_); (refine su (aneq rfl rfl) ?_); apply jW)))
  all_goals try (exfalso; omega)
  refine wp_loop (fun (i : Nat) => i <= a.length /\ a.take i = b.take i) (fun i => a.length - i)
   (fun i => (S 26 [(0, intsA a), (1, intsA b), (5, intA (i : Nat))] 0 [])) 0 ⟨[], ToR.S rfl (by repeat' (first | exact rt_nil | refine rt_e rfl rfl ?_ | refine rt_p rfl rfl (by first | (simp [AV.bd, bdL, bdL_append]; done) | fail) ?_)) (by repeat' (exact ro_nil)) rfl (by (rw [hm]; exact rfl)) rfl zq4 (by repeat' (exact True.intro)) (by (rw [hm]; exact nle rfl))⟩ ⟨Nat.zero_le _, rfl⟩ ?_
  rintro i ⟨hi, hall⟩
  by_cases hlt : i < a.length
  ·(repeat' (first | apply jA | apply jF | apply jH | apply jI | apply jK | apply jM | apply jN | apply jO | apply jS | (refine wp_cond rfl (fun hc => ?_) (fun hc => ?_) <;> (try simp only [sB, ne_eq, reduceCtorEq] at hc) <;> (try (exfalso; omega))) | (refine rgC 4 ?_; (refine smove rfl ?_); (refine smove rfl ?_); (refine slenm rfl rfl ?_); (refine slss rfl rfl ?_); apply jW) | (refine wp_draw (id := 6) 9 mixed (by kernel_rfl) (by kernel_rfl) rfl ?_ <;> (refine rmove rfl ?_) <;> (refine rmove rfl ?_) <;> (refine rd_u rfl rfl (aidxn rfl rfl (by omega)) ?_) <;> (refine rd_u rfl rfl (aloadw rfl rfl) ?_) <;> (refine rmove rfl ?_) <;> (refine rmove rfl ?_) <;> (refine rd_u rfl rfl (aidxn rfl rfl (by omega)) ?_) <;> (refine rd_u rfl rfl (aloadw rfl rfl) ?_) <;> (refine rd_u rfl rfl (aneq rfl rfl) ?_) <;> (refine rd_end (by kernel_rfl) ?_)) | (refine rgC 7 ?_; (refine sassign rfl ?_); apply jW) | (refine rgC 5 ?_; (refine smove rfl ?_); (refine sadd rfl rfl (by exact inr_i64_of (by omega)) ?_); (refine sassign rfl ?_); apply jW) | refine ret_b rfl ?_))
   ·rw [decide_eq_false]
    rintro rfl
    exact absurd rfl hc
   ·exact ⟨i + 1, ⟨by omega, by omega, take_eq_succ (by omega) (by omega) hall hc⟩, ⟨[], ToR.S rfl (by repeat' (first | exact rt_nil | refine rt_e rfl rfl ?_ | refine rt_p rfl rfl (by first | (simp [AV.bd, bdL, bdL_append]; done) | fail) ?_)) (by repeat' (exact ro_nil)) rfl (by (rw [hm]; exact rfl)) rfl zq4 (by repeat' (exact True.intro)) (by (rw [hm]; exact nle rfl))⟩⟩
  ·rw [decide_eq_true (eq_of_takes hlen (by omega) hall)]
   (repeat' (first | apply jA | apply jH | apply jJ | apply jK | apply jL | apply jP | apply jS | (refine wp_cond rfl (fun hc => ?_) (fun hc => ?_) <;> (try simp only [sB, ne_eq, reduceCtorEq] at hc) <;> (try (exfalso; omega))) | (refine rgC 4 ?_; (refine smove rfl ?_); (refine smove rfl ?_); (refine slenm rfl rfl ?_); (refine slss rfl rfl ?_); apply jW) | (refine rgC 8 ?_; (refine sassign rfl ?_); apply jW) | exact ret_eq rfl rfl rfl))
 ·rw [decide_eq_false (fun h => hlen (by rw [h]))]
  (repeat' (first | apply jA | apply jH | apply jK | apply jM | apply jS | (refine wp_cond rfl (fun hc => ?_) (fun hc => ?_) <;> (try simp only [sB, ne_eq, reduceCtorEq] at hc) <;> (try (exfalso; omega))) | (refine WP.regionC ?_; (refine sassign rfl ?_); apply jW) | (refine rgC 1 ?_; (refine smove rfl ?_); (refine slenm rfl rfl ?_); (refine smove rfl ?_); (refine slenm rfl rfl ?_); (refine su (aneq rfl rfl) ?_); apply jW) | exact ret_eq rfl rfl rfl))
  all_goals (rfl)
def fewR (r : Rul) : Bool := decide (r.body.length <= 20)
def fewV (x : GLe) : Bool := decide (x.tokens.length <= 10)
def fewG (g : Gram) (l : List GLe) (n : Int) : Bool := decide (g.terms.length <= 130 /\ g.nonterms.length <= 130 /\ (g.rules.length : Int) <= n /\ l.length <= 10) && g.rules.all fewR && l.all fewV
theorem few20_fn (g : Gram) (l : List GLe) (n : Int) (h0 : 0 <= n) (h1 : n <= 1000) : Fn Tryd.prog 4 [gramA g, levelsA l, intA n] (boolA (fewG g l n)) := by
 unfold fewG
 refine Fn.intro rfl (by kernel_rfl) Tryd.func4 rfl rfl Tryd.ntmps4 (by exact nle rfl) ?_; intro Γ hm
 refine wp_lens 0 rfl fun hl => wp_lens 1 rfl fun hll => ?_
 obtain ⟨hl1, hl2, hl3, hl4⟩ := (lens_gramA g).1 hl
 have hl5 : l.length <= 9223372036854775807 := by have := hll; simp [AV.lens, levelsA] at this; omega
 have hl6 : ∀ x, x ∈ l -> x.tokens.length <= 9223372036854775807 := by have := hll; intro x hx; simp [AV.lens, levelsA, lensL_map, levelA] at this; have := this.2 x hx; simp [lensL, AV.lens, intA, strsA] at this; omega
 by_cases hc0 : g.terms.length <= 130 /\ g.nonterms.length <= 130 /\ (g.rules.length : Int) <= n /\ l.length <= 10
 ·rw [decide_eq_true hc0, Bool.true_and]
  (repeat' (first | apply jA | apply jF | apply jH | apply jI | (refine wp_cond rfl (fun hc => ?_) (fun hc => ?_) <;> (try simp only [sB, ne_eq, reduceCtorEq] at hc) <;> (try (exfalso; omega))) | (refine rgC 0 ?_; (refine se_box rfl (by exact ⟨rfl, rfl⟩) ?_); (refine sassign rfl ?_); apply jW) | (refine rgC 1 ?_; (refine sfieldp rfl rfl rfl ?_); (refine sloadp rfl rfl rfl rfl ?_); (refine slenm rfl rfl ?_); (refine su (agtr rfl rfl) ?_); (refine smove rfl ?_); (refine sg (gq_vf rfl rfl) (fun he => ap_field_p (rq_p rfl rfl) rfl rfl) ?_); (refine sg (gq_vf rfl rfl) (fun he => ap_load_p (rq_c rfl rfl) rfl rfl rfl) ?_); (refine sg (gq_vf rfl rfl) (fun he => ap_len_m rfl (rq_c rfl rfl)) ?_); (refine sg (gq_vf rfl rfl) (fun he => ap_gtr (rq_c rfl rfl) (rq_p rfl rfl)) ?_); (refine su (ap_or (rq_p rfl rfl) (rq_c rfl rfl)) ?_); (refine smove rfl ?_); (refine sg (gq_vf rfl rfl) (fun he => ap_field_p (rq_p rfl rfl) rfl rfl) ?_); (refine sg (gq_vf rfl rfl) (fun he => ap_load_p (rq_c rfl rfl) rfl rfl rfl) ?_); (refine sg (gq_vf rfl rfl) (fun he => ap_len_m rfl (rq_c rfl rfl)) ?_); (refine sg (gq_vf rfl rfl) (fun he => ap_move (rq_p rfl rfl)) ?_); (refine sg (gq_vf rfl rfl) (fun he => ap_gtr (rq_c rfl rfl) (rq_c rfl rfl)) ?_); (refine su (ap_or (rq_p rfl rfl) (rq_c rfl rfl)) ?_); (refine smove rfl ?_); (refine sg (gq_vf rfl rfl) (fun he => ap_move (rq_p rfl rfl)) ?_); (refine sg (gq_vf rfl rfl) (fun he => ap_len_m rfl (rq_c rfl rfl)) ?_); (refine sg (gq_vf rfl rfl) (fun he => ap_gtr (rq_c rfl rfl) (rq_p rfl rfl)) ?_); (refine su (ap_or (rq_p rfl rfl) (rq_c rfl rfl)) ?_); apply jW) | (refine rgC 3 ?_; (refine sassign rfl ?_); apply jW)))
  all_goals try (exfalso; omega)
  refine wp_loop (fun (i : Nat) => i <= g.rules.length /\ (g.rules.take i).all fewR = true) (fun i => g.rules.length - i)
   (fun i => (S 59 [(1, levelsA l), (3, .ptr 0 4 0 0), (7, intA (i : Nat))] 1 [(0, some (.arr 4 [gramA g]))])) 0 ⟨[0], ToR.S rfl (by repeat' (first | exact rt_nil | refine rt_t rfl rfl ?_ | refine rt_e rfl rfl ?_ | refine rt_p rfl rfl (by first | (simp [AV.bd, bdL, bdL_append]; done) | fail) ?_)) (by repeat' (first | exact ro_nil | refine ro_p rfl (by first | exact rfl | fail) zq5 ?_)) rfl (by (rw [hm]; exact rfl)) rfl zq4 zq3 (by (rw [hm]; exact nle rfl))⟩ ⟨Nat.zero_le _, rfl⟩ ?_
  rintro i ⟨hi, hall⟩
  by_cases hlt : i < g.rules.length
  ·have hb := hl4 _ (nth_mem hlt)
   (repeat' (first | apply jA | apply jF | apply jH | apply jI | apply jK | apply jM | apply jN | apply jO | apply jS | (refine wp_cond rfl (fun hc => ?_) (fun hc => ?_) <;> (try simp only [sB, ne_eq, reduceCtorEq] at hc) <;> (try (exfalso; omega))) | (refine rgC 4 ?_; (refine smove rfl ?_); (refine sfieldp rfl rfl rfl ?_); (refine sloadp rfl rfl rfl rfl ?_); (refine slenm rfl rfl ?_); (refine slss rfl rfl ?_); apply jW) | (refine rgC 6 ?_; (refine sfieldp rfl rfl rfl ?_); (refine sloadp rfl rfl rfl rfl ?_); (refine smove rfl ?_); (refine sidxn rfl rfl (by omega) ?_); (refine su (afieldi rfl rfl rfl) ?_); (refine su (aloadi rfl rfl) ?_); (refine slenm rfl rfl ?_); (refine su (agtr rfl rfl) ?_); apply jW) | (refine rgC 7 ?_; (refine sassign rfl ?_); apply jW) | (refine rgC 5 ?_; (refine smove rfl ?_); (refine sadd rfl rfl (by exact inr_i64_of (by omega)) ?_); (refine sassign rfl ?_); apply jW) | refine ret_b rfl ?_))
   ·rw [all_nth_no (f := fewR) hlt (decide_eq_false (by omega))]; rfl
   ·exact ⟨i + 1, ⟨by omega, by omega, take_all_succ hlt hall (decide_eq_true (by omega))⟩, ⟨[0], ToR.S rfl (by repeat' (first | exact rt_nil | refine rt_t rfl rfl ?_ | refine rt_e rfl rfl ?_ | refine rt_p rfl rfl (by first | (simp [AV.bd, bdL, bdL_append]; done) | fail) ?_)) (by repeat' (first | exact ro_nil | refine ro_p rfl (by first | exact rfl | fail) zq5 ?_)) rfl (by (rw [hm]; exact rfl)) rfl zq4 zq3 (by (rw [hm]; exact nle rfl))⟩⟩
  ·rw [all_of_take' (by omega) hall, Bool.true_and]
   (repeat' (first | apply jA | apply jF | apply jH | apply jJ | apply jL | apply jP | (refine wp_cond rfl (fun hc => ?_) (fun hc => ?_) <;> (try simp only [sB, ne_eq, reduceCtorEq] at hc) <;> (try (exfalso; omega))) | (refine rgC 4 ?_; (refine smove rfl ?_); (refine sfieldp rfl rfl rfl ?_); (refine sloadp rfl rfl rfl rfl ?_); (refine slenm rfl rfl ?_); (refine slss rfl rfl ?_); apply jW) | (refine rgC 8 ?_; (refine sassign rfl ?_); apply jW)))
   refine wp_loop (fun (i : Nat) => i <= l.length /\ (l.take i).all fewV = true) (fun i => l.length - i)
    (fun i => (S 59 [(1, levelsA l), (8, intA (i : Nat))] 0 [])) 0 ⟨[], ToR.S rfl (by repeat' (first | exact rt_nil | refine rt_e rfl rfl ?_ | refine rt_p rfl rfl (by first | (simp [AV.bd, bdL, bdL_append]; done) | fail) ?_)) (by repeat' (exact ro_nil)) rfl (by (rw [hm]; exact rfl)) rfl zq4 (by repeat' (exact True.intro)) (by (rw [hm]; exact nle rfl))⟩ ⟨Nat.zero_le _, rfl⟩ ?_
   rintro j ⟨hj, hallj⟩
   by_cases hltj : j < l.length
   ·have hb := hl6 _ (nth_mem hltj)
    (repeat' (first | apply jA | apply jF | apply jH | apply jI | apply jK | apply jM | apply jN | apply jO | apply jS | (refine wp_cond rfl (fun hc => ?_) (fun hc => ?_) <;> (try simp only [sB, ne_eq, reduceCtorEq] at hc) <;> (try (exfalso; omega))) | (refine rgC 9 ?_; (refine smove rfl ?_); (refine smove rfl ?_); (refine slenm rfl rfl ?_); (refine slss rfl rfl ?_); apply jW) | (refine rgC 11 ?_; (refine smove rfl ?_); (refine smove rfl ?_); (refine sidxn rfl rfl (by omega) ?_); (refine su (afieldi rfl rfl rfl) ?_); (refine su (aloadi rfl rfl) ?_); (refine slenm rfl rfl ?_); (refine su (agtr rfl rfl) ?_); apply jW) | (refine rgC 12 ?_; (refine sassign rfl ?_); apply jW) | (refine rgC 10 ?_; (refine smove rfl ?_); (refine sadd rfl rfl (by exact inr_i64_of (by omega)) ?_); (refine sassign rfl ?_); apply jW) | refine ret_b rfl ?_))
    ·rw [all_nth_no (f := fewV) hltj (decide_eq_false (by omega))]
    ·exact ⟨j + 1, ⟨by omega, by omega, take_all_succ hltj hallj (decide_eq_true (by omega))⟩, ⟨[], ToR.S rfl (by repeat' (first | exact rt_nil | refine rt_e rfl rfl ?_ | refine rt_p rfl rfl (by first | (simp [AV.bd, bdL, bdL_append]; done) | fail) ?_)) (by repeat' (exact ro_nil)) rfl (by (rw [hm]; exact rfl)) rfl zq4 (by repeat' (exact True.intro)) (by (rw [hm]; exact nle rfl))⟩⟩
   ·rw [all_of_take' (by omega) hallj]
    (repeat' (first | apply jA | apply jH | apply jJ | apply jK | apply jL | apply jP | apply jS | (refine wp_cond rfl (fun hc => ?_) (fun hc => ?_) <;> (try simp only [sB, ne_eq, reduceCtorEq] at hc) <;> (try (exfalso; omega))) | (refine rgC 9 ?_; (refine smove rfl ?_); (refine smove rfl ?_); (refine slenm rfl rfl ?_); (refine slss rfl rfl ?_); apply jW) | (refine rgC 13 ?_; (refine sassign rfl ?_); apply jW) | exact ret_eq rfl rfl rfl))
 ·rw [decide_eq_false hc0, Bool.false_and, Bool.false_and]
  (repeat' (first | apply jA | apply jH | apply jK | apply jM | apply jS | (refine wp_cond rfl (fun hc => ?_) (fun hc => ?_) <;> (try simp only [sB, ne_eq, reduceCtorEq] at hc) <;> (try (exfalso; omega))) | (refine rgC 0 ?_; (refine se_box rfl (by exact ⟨rfl, rfl⟩) ?_); (refine sassign rfl ?_); apply jW) | (refine rgC 1 ?_; (refine sfieldp rfl rfl rfl ?_); (refine sloadp rfl rfl rfl rfl ?_); (refine slenm rfl rfl ?_); (refine su (agtr rfl rfl) ?_); (refine smove rfl ?_); (refine sg (gq_vf rfl rfl) (fun he => ap_field_p (rq_p rfl rfl) rfl rfl) ?_); (refine sg (gq_vf rfl rfl) (fun he => ap_load_p (rq_c rfl rfl) rfl rfl rfl) ?_); (refine sg (gq_vf rfl rfl) (fun he => ap_len_m rfl (rq_c rfl rfl)) ?_); (refine sg (gq_vf rfl rfl) (fun he => ap_gtr (rq_c rfl rfl) (rq_p rfl rfl)) ?_); (refine su (ap_or (rq_p rfl rfl) (rq_c rfl rfl)) ?_); (refine smove rfl ?_); (refine sg (gq_vf rfl rfl) (fun he => ap_field_p (rq_p rfl rfl) rfl rfl) ?_); (refine sg (gq_vf rfl rfl) (fun he => ap_load_p (rq_c rfl rfl) rfl rfl rfl) ?_); (refine sg (gq_vf rfl rfl) (fun he => ap_len_m rfl (rq_c rfl rfl)) ?_); (refine sg (gq_vf rfl rfl) (fun he => ap_move (rq_p rfl rfl)) ?_); (refine sg (gq_vf rfl rfl) (fun he => ap_gtr (rq_c rfl rfl) (rq_c rfl rfl)) ?_); (refine su (ap_or (rq_p rfl rfl) (rq_c rfl rfl)) ?_); (refine smove rfl ?_); (refine sg (gq_vf rfl rfl) (fun he => ap_move (rq_p rfl rfl)) ?_); (refine sg (gq_vf rfl rfl) (fun he => ap_len_m rfl (rq_c rfl rfl)) ?_); (refine sg (gq_vf rfl rfl) (fun he => ap_gtr (rq_c rfl rfl) (rq_p rfl rfl)) ?_); (refine su (ap_or (rq_p rfl rfl) (rq_c rfl rfl)) ?_); apply jW) | (refine rgC 2 ?_; (refine sassign rfl ?_); apply jW) | exact ret_eq rfl rfl rfl))
  all_goals (rfl)
end Go.Lg
namespace Go.Lg
open Go.Proofs
attribute [local irreducible] Ap Rq asemC WP RunD Ret Gq thenA inBlockA bodyQ noGotoA RqL RqP OpP
attribute [local simp] AV.cells
structure FewL (l : List GLe) : Prop where
 n : l.length <= 10
 t : ∀ x, x ∈ l -> x.tokens.length <= 10
theorem FewL.of {g : Gram} {l : List GLe} {n : Int} (h : fewG g l n = true) : FewL l := by
 unfold fewG at h
 simp only [Bool.and_eq_true, decide_eq_true_eq, List.all_eq_true] at h
 exact ⟨h.1.1.2.2.2, fun x hx => by have := h.2 x hx; simpa [fewV] using this⟩
theorem lvlTok_succ {l : List GLe} {i : Nat} (hi : i < l.length) : lvlTok (l.take (i + 1)) = lvlTok (l.take i) ++ (nth l i).tokens := by
 unfold lvlTok
 rw [take_succ_nth hi, List.map_append, List.flatten_append]
 simp
theorem lvlTok_pre {l : List GLe} {i k : Nat} (hi : i < l.length) (hk : k < (nth l i).tokens.length) : (lvlTok (l.take i) ++ (nth l i).tokens.take k ++ [nth (nth l i).tokens k]) <+: lvlTok l := by
 have h1 : lvlTok l = lvlTok (l.take (i + 1)) ++ lvlTok (l.drop (i + 1)) := by
  unfold lvlTok
  rw [<- List.flatten_append, <- List.map_append, List.take_append_drop]
 have h2 : (nth l i).tokens.take k ++ [nth (nth l i).tokens k] = (nth l i).tokens.take (k + 1) := (take_succ_nth hk).symm
 rw [List.append_assoc, h2, h1, lvlTok_succ hi, List.append_assoc]
 exact (List.prefix_append_right_inj _).2 (List.IsPrefix.trans (List.take_prefix _ _) (List.prefix_append _ _))
theorem lvlTok_len {l : List GLe} (h : ∀ x, x ∈ l -> x.tokens.length <= 10) : (lvlTok l).length <= 10 * l.length := by
 induction l with
 | nil => simp [lvlTok]
 | cons a l ih =>
  have h1 := h a (by simp)
  have h2 := ih fun x hx => h x (by simp [hx])
  simp only [lvlTok, List.map_cons, List.flatten_cons, List.length_append, List.length_cons] at h2 ⊢
  omega
theorem levs20_fn (l : List GLe) (hf : FewL l) : Fn Tryd.prog 39 [levelsA l] (boolA (levsOk l)) := by
 have hfn := hf.n
 have hft := hf.t
 refine Fn.intro rfl (by kernel_rfl) Tryd.func39 rfl rfl Tryd.ntmps39 (by exact nle rfl) ?_; intro Γ hm
 (repeat' (first | apply jA | apply jF | apply jH | (refine WP.regionC ?_; (refine sassign rfl ?_); apply jW)))
 refine wp_nil 3 1 rfl ?_
 refine wp_loop (fun (i : Nat) => i <= l.length /\ (l.take i).all levOk = true /\ (lvlTok (l.take i)).Nodup) (fun i => l.length - i)
  (fun i => (S 76 [(0, levelsA l), (3, .ref 0 1 0 (lvlTok (l.take i)).length), (4, intA (i : Nat))] 1 [(0, some (.arr 1 ((lvlTok (l.take i)).map strA)))])) 0 ⟨[0], ToR.S rfl (by repeat' (first | exact rt_nil | refine rt_r rfl rfl ?_ | refine rt_e rfl rfl ?_ | refine rt_p rfl rfl (by first | (simp [AV.bd, bdL, bdL_append]; done) | fail) ?_)) (by repeat' (first | exact ro_nil | refine ro_e rfl rfl ?_)) rfl (by (rw [hm]; exact rfl)) rfl zq4 (by repeat' (first | exact True.intro | exact rfl | refine And.intro ?_ ?_)) (by (rw [hm]; exact nle rfl))⟩ ⟨Nat.zero_le _, rfl, by simp [lvlTok]⟩ ?_
 rintro i ⟨hi, hall, hnd⟩
 have hln := lvlTok_len (l := l.take i) fun x hx => hft x (List.mem_of_mem_take hx)
 rw [List.length_take] at hln
 by_cases hlt : i < l.length
 ·have htk := hft _ (nth_mem hlt)
  by_cases hok : levOk (nth l i) = true
  ·have hok' := hok
   simp only [levOk, Bool.and_eq_true, decide_eq_true_eq] at hok'
   (repeat' (first | apply jA | apply jF | apply jH | apply jI | (refine wp_cond rfl (fun hc => ?_) (fun hc => ?_) <;> (try simp only [sB, ne_eq, reduceCtorEq] at hc) <;> (try (exfalso; omega))) | (refine rgC 3 ?_; (refine smove rfl ?_); (refine smove rfl ?_); (refine slenm rfl rfl ?_); (refine slss rfl rfl ?_); apply jW) | (refine rgC 5 ?_; (refine smove rfl ?_); (refine smove rfl ?_); (refine sidxn rfl rfl (by omega) ?_); (refine su (afieldi rfl rfl rfl) ?_); (refine su (aloadi rfl rfl) ?_); (refine slss rfl rfl ?_); (refine smove rfl ?_); (refine sg (gq_vf rfl rfl) (fun he => ap_move (rq_p rfl rfl)) ?_); (refine sg (gq_vf rfl rfl) (fun he => ap_move (rq_p rfl rfl)) ?_); (refine sg (gq_vf rfl rfl) (fun he => ap_idx_n (rq_c rfl rfl) (rq_c rfl rfl) (by (try simp only [sH, id, sB, ne_eq, reduceCtorEq] at he); omega)) ?_); (refine sg (gq_vf rfl rfl) (fun he => ap_field_i (rq_c rfl rfl) rfl rfl) ?_); (refine sg (gq_vf rfl rfl) (fun he => ap_load_i (rq_c rfl rfl) rfl) ?_); (refine sg (gq_vf rfl rfl) (fun he => ap_gtr (rq_c rfl rfl) (rq_p rfl rfl)) ?_); (refine su (ap_or (rq_p rfl rfl) (rq_c rfl rfl)) ?_); (refine smove rfl ?_); (refine sg (gq_vf rfl rfl) (fun he => ap_move (rq_p rfl rfl)) ?_); (refine sg (gq_vf rfl rfl) (fun he => ap_move (rq_p rfl rfl)) ?_); (refine sg (gq_vf rfl rfl) (fun he => ap_idx_n (rq_c rfl rfl) (rq_c rfl rfl) (by (try simp only [sH, id, sB, ne_eq, reduceCtorEq] at he); omega)) ?_); (refine sg (gq_vf rfl rfl) (fun he => ap_field_i (rq_c rfl rfl) rfl rfl) ?_); (refine sg (gq_vf rfl rfl) (fun he => ap_load_i (rq_c rfl rfl) rfl) ?_); (refine sg (gq_vf rfl rfl) (fun he => ap_len_m rfl (rq_c rfl rfl)) ?_); (refine sg (gq_vf rfl rfl) (fun he => ap_eql (rq_c rfl rfl) (rq_p rfl rfl)) ?_); (refine su (ap_or (rq_p rfl rfl) (rq_c rfl rfl)) ?_); apply jW) | (refine rgC 7 ?_; (refine sassign rfl ?_); apply jW)))
   all_goals try (exfalso; omega)
   refine wp_loop (fun (k : Nat) => k <= (nth l i).tokens.length /\ (lvlTok (l.take i) ++ (nth l i).tokens.take k).Nodup) (fun k => (nth l i).tokens.length - k)
    (fun k => (S 76 [(0, levelsA l), (3, .ref 0 1 0 (lvlTok (l.take i) ++ (nth l i).tokens.take k).length), (4, intA (i : Nat)), (5, intA (k : Nat))] 1 [(0, some (.arr 1 ((lvlTok (l.take i) ++ (nth l i).tokens.take k).map strA)))])) 0 ?_ ⟨Nat.zero_le _, by simpa using hnd⟩ ?_
   ·rw [List.take_zero, List.append_nil]
    exact ⟨[0], ToR.S rfl (by repeat' (first | exact rt_nil | refine rt_r rfl rfl ?_ | refine rt_e rfl rfl ?_ | refine rt_p rfl rfl (by first | (simp [AV.bd, bdL, bdL_append]; done) | fail) ?_)) (by repeat' (first | exact ro_nil | refine ro_p rfl (by first | exact rfl | fail) (by first | exact bdL_map (fun _ => by exact rfl) _ | fail) ?_)) rfl (by (rw [hm]; exact rfl)) rfl zq4 (by repeat' (first | exact True.intro | refine And.intro ?_ ?_ | exact bdL_map (fun _ => by exact rfl) _)) (by (rw [hm]; exact nle rfl))⟩
   rintro k ⟨hk, hnk⟩
   by_cases hkt : k < (nth l i).tokens.length
   ·have hpre := lvlTok_pre hlt hkt
    have hsl : (lvlTok (l.take i) ++ (nth l i).tokens.take k).length <= 200 := by rw [List.length_append, List.length_take]; omega
    have hsn : lvlTok (l.take i) ++ (nth l i).tokens.take (k + 1) = (lvlTok (l.take i) ++ (nth l i).tokens.take k) ++ [nth (nth l i).tokens k] := by rw [take_succ_nth hkt, List.append_assoc]
    generalize lvlTok (l.take i) ++ (nth l i).tokens.take k = seen at *
    (repeat' (first | apply jA | apply jF | apply jH | apply jI | (refine wp_cond rfl (fun hc => ?_) (fun hc => ?_) <;> (try simp only [sB, ne_eq, reduceCtorEq] at hc) <;> (try (exfalso; omega))) | (refine rgC 8 ?_; (refine smove rfl ?_); (refine smove rfl ?_); (refine smove rfl ?_); (refine sidxn rfl rfl (by omega) ?_); (refine su (afieldi rfl rfl rfl) ?_); (refine su (aloadi rfl rfl) ?_); (refine slenm rfl rfl ?_); (refine slss rfl rfl ?_); apply jW) | (refine rgC 10 ?_; (refine sassign rfl ?_); apply jW)))
    refine wp_loop (fun (m : Nat) => m <= seen.length /\ ∀ j, j < m -> nth seen j ≠ nth (nth l i).tokens k) (fun m => seen.length - m)
     (fun m => (S 76 [(0, levelsA l), (3, .ref 0 1 0 seen.length), (4, intA (i : Nat)), (5, intA (k : Nat)), (6, intA (m : Nat))] 1 [(0, some (.arr 1 (seen.map strA)))])) 0 ⟨[0], ToR.S rfl (by repeat' (first | exact rt_nil | refine rt_r rfl rfl ?_ | refine rt_e rfl rfl ?_ | refine rt_p rfl rfl (by first | (simp [AV.bd, bdL, bdL_append]; done) | fail) ?_)) (by repeat' (first | exact ro_nil | refine ro_p rfl (by first | exact rfl | fail) (by first | exact bdL_map (fun _ => by exact rfl) _ | fail) ?_)) rfl (by (rw [hm]; exact rfl)) rfl zq4 (by repeat' (first | exact True.intro | refine And.intro ?_ ?_ | exact bdL_map (fun _ => by exact rfl) _)) (by (rw [hm]; exact nle rfl))⟩ ⟨Nat.zero_le _, by omega⟩ ?_
    rintro m ⟨hmq, hne⟩
    by_cases hml : m < seen.length
    ·(repeat' (first | apply jA | apply jF | apply jH | apply jI | apply jK | apply jM | apply jN | apply jO | apply jS | (refine wp_cond rfl (fun hc => ?_) (fun hc => ?_) <;> (try simp only [sB, ne_eq, reduceCtorEq] at hc) <;> (try (exfalso; omega))) | (refine rgC 11 ?_; (refine smove rfl ?_); (refine smove rfl ?_); (refine su (alenr rfl rfl) ?_); (refine slss rfl rfl ?_); apply jW) | (refine wp_draw (id := 13) 13 mixed (by kernel_rfl) (by kernel_rfl) rfl ?_ <;> (refine rmove rfl ?_) <;> (refine rmove rfl ?_) <;> (refine rd_u rfl rfl (aidxrn rfl rfl (by omega)) ?_) <;> (refine rd_u rfl rfl (aloadpt rfl rfl (by omega) rfl) ?_) <;> (refine rmove rfl ?_) <;> (refine rmove rfl ?_) <;> (refine rd_u rfl rfl (aidxn rfl rfl (by omega)) ?_) <;> (refine rd_u rfl rfl (afieldi rfl rfl rfl) ?_) <;> (refine rd_u rfl rfl (aloadi rfl rfl) ?_) <;> (refine rmove rfl ?_) <;> (refine rd_u rfl rfl (aidxn rfl rfl (by omega)) ?_) <;> (refine rd_u rfl rfl (aloadw rfl rfl) ?_) <;> (refine rd_u rfl rfl (aeqs rfl rfl) ?_) <;> (refine rd_end (by kernel_rfl) ?_)) | (refine rgC 14 ?_; (refine sassign rfl ?_); apply jW) | (refine rgC 12 ?_; (refine smove rfl ?_); (refine sadd rfl rfl (by exact inr_i64_of (by omega)) ?_); (refine sassign rfl ?_); apply jW) | refine ret_b rfl ?_))
     ·have : levsOk l = false := by
       rw [Bool.eq_false_iff]
       intro h
       unfold levsOk at h
       rw [Bool.and_eq_true, decide_eq_true_eq] at h
       have h2 := h.2.sublist hpre.sublist
       rw [List.nodup_append] at h2
       exact h2.2.2 _ (nth_mem hml) _ (by simp) hc
      rw [this]
     ·exact ⟨m + 1, ⟨by omega, by omega, fun j hj => by
       by_cases e : j = m
       ·subst e; exact hc
       ·exact hne j (by omega)⟩, ⟨[0], ToR.S rfl (by repeat' (first | exact rt_nil | refine rt_r rfl rfl ?_ | refine rt_e rfl rfl ?_ | refine rt_p rfl rfl (by first | (simp [AV.bd, bdL, bdL_append]; done) | fail) ?_)) (by repeat' (first | exact ro_nil | refine ro_p rfl (by first | exact rfl | fail) (by first | exact bdL_map (fun _ => by exact rfl) _ | fail) ?_)) rfl (by (rw [hm]; exact rfl)) rfl zq4 (by repeat' (first | exact True.intro | refine And.intro ?_ ?_ | exact bdL_map (fun _ => by exact rfl) _)) (by (rw [hm]; exact nle rfl))⟩⟩
    ·(repeat' (first | apply jA | apply jH | apply jJ | apply jL | apply jN | apply jP | (refine wp_cond rfl (fun hc => ?_) (fun hc => ?_) <;> (try simp only [sB, ne_eq, reduceCtorEq] at hc) <;> (try (exfalso; omega))) | (refine rgC 11 ?_; (refine smove rfl ?_); (refine smove rfl ?_); (refine su (alenr rfl rfl) ?_); (refine slss rfl rfl ?_); apply jW) | (refine rgC 15 ?_; (refine smove rfl ?_); (refine smove rfl ?_); (refine smove rfl ?_); (refine sidxn rfl rfl (by omega) ?_); (refine su (afieldi rfl rfl rfl) ?_); (refine su (aloadi rfl rfl) ?_); (refine smove rfl ?_); (refine sidxn rfl rfl (by omega) ?_); (refine sloadw rfl rfl ?_); (refine se_lit (OpP.cons rfl (OpP.nil)) rfl rfl rfl rfl rfl rfl ?_); (refine se_app1 rfl rfl rfl rfl rfl rfl rfl rfl (by omega) ?_); (refine sassign rfl ?_); apply jW) | (refine rgC 9 ?_; (refine smove rfl ?_); (refine sadd rfl rfl (by exact inr_i64_of (by omega)) ?_); (refine sassign rfl ?_); apply jW)))
     refine ⟨k + 1, ⟨by omega, by omega, ?_⟩, ?_⟩
     ·rw [hsn, List.nodup_append]
      refine ⟨hnk, by simp, fun a ha b hb => ?_⟩
      rw [List.mem_singleton] at hb
      subst hb
      obtain ⟨j, hj, rfl⟩ := List.getElem_of_mem ha
      have := hne j (by omega)
      rwa [nth_eq hj] at this
     ·rw [hsn]
      exact ⟨[2], ToR.S rfl (by repeat' (first | exact rt_nil | refine rt_r rfl rfl ?_ | refine rt_e rfl rfl ?_ | refine rt_p rfl rfl (by first | (simp [AV.bd, bdL, bdL_append]; done) | fail) ?_)) (by repeat' (first | exact ro_nil | refine ro_p rfl (by first | exact rfl | fail) (by first | exact bdL_map (fun _ => by exact rfl) _ | fail) ?_)) rfl (by (rw [hm]; exact rfl)) rfl zq4 (by repeat' (first | exact True.intro | refine And.intro ?_ ?_ | exact bdL_map (fun _ => by exact rfl) _)) (by (rw [hm]; exact nle rfl))⟩
   ·have e1 : (nth l i).tokens.take k = (nth l i).tokens := List.take_of_length_le (by omega)
    rw [e1] at hnk ⊢
    rw [<- lvlTok_succ hlt] at hnk ⊢
    (repeat' (first | apply jA | apply jH | apply jJ | apply jL | apply jN | apply jP | (refine wp_cond rfl (fun hc => ?_) (fun hc => ?_) <;> (try simp only [sB, ne_eq, reduceCtorEq] at hc) <;> (try (exfalso; omega))) | (refine rgC 8 ?_; (refine smove rfl ?_); (refine smove rfl ?_); (refine smove rfl ?_); (refine sidxn rfl rfl (by omega) ?_); (refine su (afieldi rfl rfl rfl) ?_); (refine su (aloadi rfl rfl) ?_); (refine slenm rfl rfl ?_); (refine slss rfl rfl ?_); apply jW) | (refine rgC 4 ?_; (refine smove rfl ?_); (refine sadd rfl rfl (by exact inr_i64_of (by omega)) ?_); (refine sassign rfl ?_); apply jW)))
    exact ⟨i + 1, ⟨by omega, by omega, take_all_succ hlt hall hok, hnk⟩, ⟨[0], ToR.S rfl (by repeat' (first | exact rt_nil | refine rt_r rfl rfl ?_ | refine rt_e rfl rfl ?_ | refine rt_p rfl rfl (by first | (simp [AV.bd, bdL, bdL_append]; done) | fail) ?_)) (by repeat' (first | exact ro_nil | refine ro_p rfl (by first | exact rfl | fail) (by first | exact bdL_map (fun _ => by exact rfl) _ | fail) ?_)) rfl (by (rw [hm]; exact rfl)) rfl zq4 (by repeat' (first | exact True.intro | refine And.intro ?_ ?_ | exact bdL_map (fun _ => by exact rfl) _)) (by (rw [hm]; exact nle rfl))⟩⟩
  ·have hok : levOk (nth l i) = false := by simpa using hok
   have hno : levsOk l = false := by
    unfold levsOk
    rw [all_nth_no (f := levOk) hlt hok, Bool.false_and]
   have hok' := hok
   simp only [levOk, Bool.and_eq_false_iff, decide_eq_false_iff_not] at hok'
   rw [hno]
   (repeat' (first | apply jA | apply jF | apply jH | apply jI | apply jK | apply jM | apply jO | apply jS | (refine wp_cond rfl (fun hc => ?_) (fun hc => ?_) <;> (try simp only [sB, ne_eq, reduceCtorEq] at hc) <;> (try (exfalso; omega))) | (refine rgC 3 ?_; (refine smove rfl ?_); (refine smove rfl ?_); (refine slenm rfl rfl ?_); (refine slss rfl rfl ?_); apply jW) | (refine rgC 5 ?_; (refine smove rfl ?_); (refine smove rfl ?_); (refine sidxn rfl rfl (by omega) ?_); (refine su (afieldi rfl rfl rfl) ?_); (refine su (aloadi rfl rfl) ?_); (refine slss rfl rfl ?_); (refine smove rfl ?_); (refine sg (gq_vf rfl rfl) (fun he => ap_move (rq_p rfl rfl)) ?_); (refine sg (gq_vf rfl rfl) (fun he => ap_move (rq_p rfl rfl)) ?_); (refine sg (gq_vf rfl rfl) (fun he => ap_idx_n (rq_c rfl rfl) (rq_c rfl rfl) (by (try simp only [sH, id, sB, ne_eq, reduceCtorEq] at he); omega)) ?_); (refine sg (gq_vf rfl rfl) (fun he => ap_field_i (rq_c rfl rfl) rfl rfl) ?_); (refine sg (gq_vf rfl rfl) (fun he => ap_load_i (rq_c rfl rfl) rfl) ?_); (refine sg (gq_vf rfl rfl) (fun he => ap_gtr (rq_c rfl rfl) (rq_p rfl rfl)) ?_); (refine su (ap_or (rq_p rfl rfl) (rq_c rfl rfl)) ?_); (refine smove rfl ?_); (refine sg (gq_vf rfl rfl) (fun he => ap_move (rq_p rfl rfl)) ?_); (refine sg (gq_vf rfl rfl) (fun he => ap_move (rq_p rfl rfl)) ?_); (refine sg (gq_vf rfl rfl) (fun he => ap_idx_n (rq_c rfl rfl) (rq_c rfl rfl) (by (try simp only [sH, id, sB, ne_eq, reduceCtorEq] at he); omega)) ?_); (refine sg (gq_vf rfl rfl) (fun he => ap_field_i (rq_c rfl rfl) rfl rfl) ?_); (refine sg (gq_vf rfl rfl) (fun he => ap_load_i (rq_c rfl rfl) rfl) ?_); (refine sg (gq_vf rfl rfl) (fun he => ap_len_m rfl (rq_c rfl rfl)) ?_); (refine sg (gq_vf rfl rfl) (fun he => ap_eql (rq_c rfl rfl) (rq_p rfl rfl)) ?_); (refine su (ap_or (rq_p rfl rfl) (rq_c rfl rfl)) ?_); apply jW) | (refine rgC 6 ?_; (refine sassign rfl ?_); apply jW) | exact ret_eq rfl rfl rfl))
   all_goals (rfl)
 ·rw [List.take_of_length_le (by omega)] at hall hnd
  have : levsOk l = true := by
   unfold levsOk
   rw [hall, decide_eq_true hnd]; rfl
  rw [this]
  (repeat' (first | apply jA | apply jH | apply jJ | apply jK | apply jL | apply jP | apply jS | (refine wp_cond rfl (fun hc => ?_) (fun hc => ?_) <;> (try simp only [sB, ne_eq, reduceCtorEq] at hc) <;> (try (exfalso; omega))) | (refine rgC 3 ?_; (refine smove rfl ?_); (refine smove rfl ?_); (refine slenm rfl rfl ?_); (refine slss rfl rfl ?_); apply jW) | (refine rgC 16 ?_; (refine sassign rfl ?_); apply jW) | exact ret_eq rfl rfl rfl))
theorem term20_fn (g : Gram) (s : ByteArray) : Fn Tryd.prog 40 [gramA g, strA s] (intA (termI g s)) := by
 refine Fn.intro rfl (by kernel_rfl) Tryd.func40 rfl rfl Tryd.ntmps40 (by exact nle rfl) ?_; intro Γ hm
 refine wp_lens 0 rfl fun hl => ?_
 obtain ⟨hl1, hl2, hl3, hl4⟩ := (lens_gramA g).1 hl
 (repeat' (first | apply jA | apply jF | apply jH | (refine rgC 0 ?_; (refine se_box rfl (by exact ⟨rfl, rfl⟩) ?_); (refine sassign rfl ?_); apply jW) | (refine rgC 1 ?_; (refine sassign rfl ?_); apply jW)))
 refine wp_loop (fun k => k <= g.terms.length /\ (g.terms.take k).any (fun x => decide (x = s)) = false) (fun k => g.terms.length - k) (fun k => (S 21 [(1, strA s), (2, .ptr 0 4 0 0), (5, intA (k : Nat))] 1 [(0, some (.arr 4 [gramA g]))])) 0 ⟨[0], ToR.S rfl (by repeat' (first | exact rt_nil | refine rt_t rfl rfl ?_ | refine rt_e rfl rfl ?_)) (by repeat' (first | exact ro_nil | refine ro_p rfl (by first | exact rfl | fail) zq5 ?_)) rfl (by (rw [hm]; exact rfl)) rfl zq4 zq3 (by (rw [hm]; exact nle rfl))⟩ ⟨Nat.zero_le _, rfl⟩ ?_
 rintro k ⟨hk, hall⟩
 (repeat' (first | apply jA | apply jF | apply jH | apply jI | apply jJ | apply jK | apply jL | apply jM | apply jN | apply jO | apply jP | apply jS | (refine wp_cond rfl (fun hc => ?_) (fun hc => ?_) <;> (try simp only [sB, ne_eq, reduceCtorEq] at hc) <;> (try (exfalso; omega))) | (refine rgC 2 ?_; (refine smove rfl ?_); (refine sfieldp rfl rfl rfl ?_); (refine sloadp rfl rfl rfl rfl ?_); (refine slenm rfl rfl ?_); (refine slss rfl rfl ?_); apply jW) | (refine rgC 4 ?_; (refine sfieldp rfl rfl rfl ?_); (refine sloadp rfl rfl rfl rfl ?_); (refine smove rfl ?_); (refine sidxn rfl rfl (by omega) ?_); (refine sloadw rfl rfl ?_); (refine smove rfl ?_); (refine seqs rfl rfl ?_); apply jW) | (refine rgC 5 ?_; (refine smove rfl ?_); (refine sassign rfl ?_); apply jW) | (refine rgC 3 ?_; (refine smove rfl ?_); (refine sadd rfl rfl (by exact inr_i64_of (by omega)) ?_); (refine sassign rfl ?_); apply jW) | (refine rgC 6 ?_; (refine sassign rfl ?_); apply jW) | refine ret_i rfl ?_))
 ·exact (indexP_at (by omega) hall (by simp [hc])).symm
 ·exact ⟨k + 1, ⟨by omega, by omega, take_any_succ (by omega) hall (by simp [hc])⟩, ⟨[0], ToR.S rfl (by repeat' (first | exact rt_nil | refine rt_t rfl rfl ?_ | refine rt_e rfl rfl ?_)) (by repeat' (first | exact ro_nil | refine ro_p rfl (by first | exact rfl | fail) zq5 ?_)) rfl (by (rw [hm]; exact rfl)) rfl zq4 zq3 (by (rw [hm]; exact nle rfl))⟩⟩
 ·exact (indexP_no (by omega) hall).symm
theorem level20_fn (g : Gram) (l : List GLe) (hf : FewL l) (t : Int) : Fn Tryd.prog 41 [gramA g, levelsA l, intA t] (intA (levelG g l t)) := by
 have hfn := hf.n
 have hft := hf.t
 have hterm := term20_fn g
 refine Fn.intro rfl (by kernel_rfl) Tryd.func41 rfl rfl Tryd.ntmps41 (by exact nle rfl) ?_; intro Γ hm
 (repeat' (first | apply jA | apply jF | apply jH | (refine rgC 0 ?_; (refine se_box rfl (by exact ⟨rfl, rfl⟩) ?_); (refine sassign rfl ?_); apply jW) | (refine rgC 1 ?_; (refine sassign rfl ?_); apply jW)))
 refine wp_loop (fun i => i <= l.length /\ (l.take i).any (fun x : GLe => x.tokens.any fun n => decide (termI g n = t)) = false) (fun i => l.length - i)
  (fun i => (S 38 [(1, levelsA l), (2, intA t), (3, .ptr 0 4 0 0), (7, intA (i : Nat))] 1 [(0, some (.arr 4 [gramA g]))])) 0 ⟨[0], ToR.S rfl (by repeat' (first | exact rt_nil | refine rt_t rfl rfl ?_ | refine rt_e rfl rfl ?_ | refine rt_p rfl rfl (by first | (simp [AV.bd, bdL, bdL_append]; done) | fail) ?_)) (by repeat' (first | exact ro_nil | refine ro_p rfl (by first | exact rfl | fail) zq5 ?_)) rfl (by (rw [hm]; exact rfl)) rfl zq4 zq3 (by (rw [hm]; exact nle rfl))⟩ ⟨Nat.zero_le _, rfl⟩ ?_
 rintro i ⟨hi, hall⟩
 by_cases hlt : i < l.length
 ·have htk := hft _ (nth_mem hlt)
  (repeat' (first | apply jA | apply jF | apply jH | apply jI | (refine wp_cond rfl (fun hc => ?_) (fun hc => ?_) <;> (try simp only [sB, ne_eq, reduceCtorEq] at hc) <;> (try (exfalso; omega))) | (refine rgC 2 ?_; (refine smove rfl ?_); (refine smove rfl ?_); (refine slenm rfl rfl ?_); (refine slss rfl rfl ?_); apply jW) | (refine rgC 4 ?_; (refine sassign rfl ?_); apply jW)))
  refine wp_loop (fun k => k <= (nth l i).tokens.length /\ ((nth l i).tokens.take k).any (fun n => decide (termI g n = t)) = false) (fun k => (nth l i).tokens.length - k)
   (fun k => (S 38 [(1, levelsA l), (2, intA t), (3, .ptr 0 4 0 0), (7, intA (i : Nat)), (8, intA (k : Nat))] 1 [(0, some (.arr 4 [gramA g]))])) 0 ⟨[0], ToR.S rfl (by repeat' (first | exact rt_nil | refine rt_t rfl rfl ?_ | refine rt_e rfl rfl ?_ | refine rt_p rfl rfl (by first | (simp [AV.bd, bdL, bdL_append]; done) | fail) ?_)) (by repeat' (first | exact ro_nil | refine ro_p rfl (by first | exact rfl | fail) zq5 ?_)) rfl (by (rw [hm]; exact rfl)) rfl zq4 zq3 (by (rw [hm]; exact nle rfl))⟩ ⟨Nat.zero_le _, rfl⟩ ?_
  rintro k ⟨hk, hallk⟩
  by_cases hkl : k < (nth l i).tokens.length
  ·(repeat' (first | apply jA | apply jF | apply jH | apply jI | apply jK | apply jM | apply jN | apply jO | apply jS | (refine wp_cond rfl (fun hc => ?_) (fun hc => ?_) <;> (try simp only [sB, ne_eq, reduceCtorEq] at hc) <;> (try (exfalso; omega))) | (refine rgC 5 ?_; (refine smove rfl ?_); (refine smove rfl ?_); (refine smove rfl ?_); (refine sidxn rfl rfl (by omega) ?_); (refine su (afieldi rfl rfl rfl) ?_); (refine su (aloadi rfl rfl) ?_); (refine slenm rfl rfl ?_); (refine slss rfl rfl ?_); apply jW) | (refine wp_draw (id := 7) 12 mixed (by kernel_rfl) (by kernel_rfl) rfl ?_ <;> (refine rd_u rfl rfl (aloadpw rfl rfl rfl rfl) ?_) <;> (refine rmove rfl ?_) <;> (refine rmove rfl ?_) <;> (refine rd_u rfl rfl (aidxn rfl rfl (by omega)) ?_) <;> (refine rd_u rfl rfl (afieldi rfl rfl rfl) ?_) <;> (refine rd_u rfl rfl (aloadi rfl rfl) ?_) <;> (refine rmove rfl ?_) <;> (refine rd_u rfl rfl (aidxn rfl rfl (by omega)) ?_) <;> (refine rd_u rfl rfl (aloadw rfl rfl) ?_) <;> (refine rd_call rfl rfl zq1 zq5 (hterm _) ?_) <;> (refine rmove rfl ?_) <;> (refine rd_u rfl rfl (aeql rfl rfl) ?_) <;> (refine rd_end (by kernel_rfl) ?_)) | (refine rgC 8 ?_; (refine smove rfl ?_); (refine sassign rfl ?_); apply jW) | (refine rgC 6 ?_; (refine smove rfl ?_); (refine sadd rfl rfl (by exact inr_i64_of (by omega)) ?_); (refine sassign rfl ?_); apply jW) | refine ret_i rfl ?_))
   ·have hany : ((nth l i).tokens.any fun n => decide (termI g n = t)) = true := by
     rw [List.any_eq_true]
     exact ⟨_, nth_mem hkl, by simp [hc]⟩
    have : levelG g l t = (i : Int) := indexP_at hlt hall hany
    rw [this]
   ·exact ⟨k + 1, ⟨by omega, by omega, take_any_succ hkl hallk (by simp [hc])⟩, ⟨[0], ToR.S rfl (by repeat' (first | exact rt_nil | refine rt_t rfl rfl ?_ | refine rt_e rfl rfl ?_ | refine rt_p rfl rfl (by first | (simp [AV.bd, bdL, bdL_append]; done) | fail) ?_)) (by repeat' (first | exact ro_nil | refine ro_p rfl (by first | exact rfl | fail) zq5 ?_)) rfl (by (rw [hm]; exact rfl)) rfl zq4 zq3 (by (rw [hm]; exact nle rfl))⟩⟩
  ·(repeat' (first | apply jA | apply jH | apply jJ | apply jL | apply jN | apply jP | (refine wp_cond rfl (fun hc => ?_) (fun hc => ?_) <;> (try simp only [sB, ne_eq, reduceCtorEq] at hc) <;> (try (exfalso; omega))) | (refine rgC 5 ?_; (refine smove rfl ?_); (refine smove rfl ?_); (refine smove rfl ?_); (refine sidxn rfl rfl (by omega) ?_); (refine su (afieldi rfl rfl rfl) ?_); (refine su (aloadi rfl rfl) ?_); (refine slenm rfl rfl ?_); (refine slss rfl rfl ?_); apply jW) | (refine rgC 3 ?_; (refine smove rfl ?_); (refine sadd rfl rfl (by exact inr_i64_of (by omega)) ?_); (refine sassign rfl ?_); apply jW)))
   have hany : ((nth l i).tokens.any fun n => decide (termI g n = t)) = false := by
    rw [<- hallk, List.take_of_length_le (by omega)]
   exact ⟨i + 1, ⟨by omega, by omega, take_any_succ hlt hall hany⟩, ⟨[0], ToR.S rfl (by repeat' (first | exact rt_nil | refine rt_t rfl rfl ?_ | refine rt_e rfl rfl ?_ | refine rt_p rfl rfl (by first | (simp [AV.bd, bdL, bdL_append]; done) | fail) ?_)) (by repeat' (first | exact ro_nil | refine ro_p rfl (by first | exact rfl | fail) zq5 ?_)) rfl (by (rw [hm]; exact rfl)) rfl zq4 zq3 (by (rw [hm]; exact nle rfl))⟩⟩
 ·have : levelG g l t = -1 := indexP_no (by omega) hall
  rw [this]
  (repeat' (first | apply jA | apply jH | apply jJ | apply jK | apply jL | apply jP | apply jS | (refine wp_cond rfl (fun hc => ?_) (fun hc => ?_) <;> (try simp only [sB, ne_eq, reduceCtorEq] at hc) <;> (try (exfalso; omega))) | (refine rgC 2 ?_; (refine smove rfl ?_); (refine smove rfl ?_); (refine slenm rfl rfl ?_); (refine slss rfl rfl ?_); apply jW) | (refine rgC 9 ?_; (refine sassign rfl ?_); apply jW) | exact ret_eq rfl rfl rfl))
theorem binary20_fn {g : Gram} (hv : GVal g) (l : List GLe) (hf : FewL l) (r : Nat) (hr : r < g.rules.length) : Fn Tryd.prog 24 [gramA g, levelsA l, intA (r : Nat)] (intA (binL g l (nth g.rules r))) := by
 have hrf := hv.rule _ (nth_mem hr)
 have h0 := hrf.h0
 have h1 := hrf.hn
 have hn2 := hv.n2
 have hr2 := hv.r2
 have hln := hrf.len
 have hlv := level20_fn g l hf (nth (nth g.rules r).body (nat_lit 1))
 unfold binL
 by_cases hs : selfB (nth g.rules r) = true
 ·rw [if_pos hs]
  obtain ⟨s1, s2, s3, s4⟩ := selfB_iff.1 hs
  refine Fn.intro rfl (by kernel_rfl) Tryd.func24 rfl rfl Tryd.ntmps24 (by exact nle rfl) ?_; intro Γ hm
  (repeat' (first | apply jA | apply jH | apply jI | apply jK | apply jS | (refine wp_cond rfl (fun hc => ?_) (fun hc => ?_) <;> (try simp only [sB, ne_eq, reduceCtorEq] at hc) <;> (try (exfalso; omega))) | (refine rgC 0 ?_; (refine se_box rfl (by exact ⟨rfl, rfl⟩) ?_); (refine sassign rfl ?_); apply jW) | (refine rgC 1 ?_; (refine sfieldp rfl rfl rfl ?_); (refine sloadp rfl rfl rfl rfl ?_); (refine smove rfl ?_); (refine sidxn rfl rfl (by omega) ?_); (refine sloadw rfl rfl ?_); (refine se_alloc rfl ?_); (refine se_store_b rfl rfl rfl rfl ?_); apply jW) | (refine wp_draw (id := 2) 31 mixed (by kernel_rfl) (by kernel_rfl) rfl ?_ <;> (refine rfieldp rfl rfl rfl ?_) <;> (refine rloadp rfl rfl rfl rfl ?_) <;> (refine rd_u rfl rfl (alenm rfl rfl) ?_) <;> (refine rd_u rfl rfl (aneq rfl rfl) ?_) <;> (refine rmove rfl ?_) <;> ((refine rd_split (t := 17) rfl (fun hc => ?_) (fun hc => ?_) <;> (try simp only [sB, ne_eq, reduceCtorEq] at hc) <;> (try (exfalso; omega)) <;> (refine gfieldp rfl rfl rfl rfl rfl ?_))) <;> (refine gloadp rfl rfl rfl rfl rfl rfl ?_) <;> (refine rdg_u rfl rfl rfl rfl (aidxn rfl rfl (by (simp only [sL] <;> omega))) ?_) <;> (refine rdg_u rfl rfl rfl rfl (aloadw rfl rfl) ?_) <;> (refine gfieldp rfl rfl rfl rfl rfl ?_) <;> (refine gloadp rfl rfl rfl rfl rfl rfl ?_) <;> (refine rdg_u rfl rfl rfl rfl (asub rfl rfl (by exact inr_i64_of (by omega))) ?_) <;> (refine rdg_u rfl rfl rfl rfl (aneq rfl rfl) ?_) <;> (refine rd_pick_f rfl rfl ?_) <;> (refine rmove rfl ?_) <;> ((refine rd_split (t := 27) rfl (fun hc => ?_) (fun hc => ?_) <;> (try simp only [sB, ne_eq, reduceCtorEq] at hc) <;> (try (exfalso; omega)) <;> (refine gfieldp rfl rfl rfl rfl rfl ?_))) <;> (refine gloadp rfl rfl rfl rfl rfl rfl ?_) <;> (refine rdg_u rfl rfl rfl rfl (aidxn rfl rfl (by (simp only [sL] <;> omega))) ?_) <;> (refine rdg_u rfl rfl rfl rfl (aloadw rfl rfl) ?_) <;> (refine gfieldp rfl rfl rfl rfl rfl ?_) <;> (refine gloadp rfl rfl rfl rfl rfl rfl ?_) <;> (refine rdg_u rfl rfl rfl rfl (asub rfl rfl (by exact inr_i64_of (by omega))) ?_) <;> (refine rdg_u rfl rfl rfl rfl (aneq rfl rfl) ?_) <;> (refine rd_pick_f rfl rfl ?_) <;> (refine rmove rfl ?_) <;> ((refine rd_split (t := 37) rfl (fun hc => ?_) (fun hc => ?_) <;> (try simp only [sB, ne_eq, reduceCtorEq] at hc) <;> (try (exfalso; omega)) <;> (refine gfieldp rfl rfl rfl rfl rfl ?_))) <;> (refine gloadp rfl rfl rfl rfl rfl rfl ?_) <;> (refine rdg_u rfl rfl rfl rfl (aidxn rfl rfl (by (simp only [sL] <;> omega))) ?_) <;> (refine rdg_u rfl rfl rfl rfl (aloadw rfl rfl) ?_) <;> (refine rdg_u rfl rfl rfl rfl (alss rfl rfl) ?_) <;> (refine rd_pick_f rfl rfl ?_) <;> (refine rd_end (by kernel_rfl) ?_)) | (refine wp_draw (id := 4) 8 mixed (by kernel_rfl) (by kernel_rfl) rfl ?_ <;> (refine rd_u rfl rfl (aloadpw rfl rfl rfl rfl) ?_) <;> (refine rmove rfl ?_) <;> (refine rfieldp rfl rfl rfl ?_) <;> (refine rloadp rfl rfl rfl rfl ?_) <;> (refine rd_u rfl rfl (aidxn rfl rfl (by (simp only [sL] <;> omega))) ?_) <;> (refine rd_u rfl rfl (aloadw rfl rfl) ?_) <;> (refine rd_call rfl rfl zq1 zq5 (hlv) ?_) <;> (refine rd_u rfl rfl (aassign rfl) ?_) <;> (refine rd_end (by kernel_rfl) ?_)) | exact ret_eq rfl rfl rfl))
  all_goals (rfl)
 ·rw [if_neg hs]
  have hno : ¬ ((nth g.rules r).body.length = 3 /\ nth (nth g.rules r).body (nat_lit 0) = -1 - (nth g.rules r).head /\ nth (nth g.rules r).body (nat_lit 2) = -1 - (nth g.rules r).head /\ 0 <= nth (nth g.rules r).body (nat_lit 1)) := fun h => hs (selfB_iff.2 h)
  refine Fn.intro rfl (by kernel_rfl) Tryd.func24 rfl rfl Tryd.ntmps24 (by exact nle rfl) ?_; intro Γ hm
  (repeat' (first | apply jA | apply jH | apply jI | apply jK | apply jM | apply jS | (refine wp_cond rfl (fun hc => ?_) (fun hc => ?_) <;> (try simp only [sB, ne_eq, reduceCtorEq] at hc) <;> (try (exfalso; omega))) | (refine rgC 0 ?_; (refine se_box rfl (by exact ⟨rfl, rfl⟩) ?_); (refine sassign rfl ?_); apply jW) | (refine rgC 1 ?_; (refine sfieldp rfl rfl rfl ?_); (refine sloadp rfl rfl rfl rfl ?_); (refine smove rfl ?_); (refine sidxn rfl rfl (by omega) ?_); (refine sloadw rfl rfl ?_); (refine se_alloc rfl ?_); (refine se_store_b rfl rfl rfl rfl ?_); apply jW) | (refine wp_draw (id := 2) 31 mixed (by kernel_rfl) (by kernel_rfl) rfl ?_ <;> (refine rfieldp rfl rfl rfl ?_) <;> (refine rloadp rfl rfl rfl rfl ?_) <;> (refine rd_u rfl rfl (alenm rfl rfl) ?_) <;> (refine rd_u rfl rfl (aneq rfl rfl) ?_) <;> (refine rmove rfl ?_) <;> ((refine rd_split (t := 17) rfl (fun hc => ?_) (fun hc => ?_) <;> (try simp only [sB, ne_eq, reduceCtorEq] at hc) <;> (try (exfalso; omega)) <;> (first | refine rd_skip rfl rfl ?_ | refine gfieldp rfl rfl rfl rfl rfl ?_))) <;> (first | refine rd_skip rfl rfl ?_ | refine gloadp rfl rfl rfl rfl rfl rfl ?_) <;> (first | refine rd_skip rfl rfl ?_ | refine rdg_u rfl rfl rfl rfl (aidxn rfl rfl (by (simp only [sL] <;> omega))) ?_) <;> (first | refine rd_skip rfl rfl ?_ | refine rdg_u rfl rfl rfl rfl (aloadw rfl rfl) ?_) <;> (first | refine rd_skip rfl rfl ?_ | refine gfieldp rfl rfl rfl rfl rfl ?_) <;> (first | refine rd_skip rfl rfl ?_ | refine gloadp rfl rfl rfl rfl rfl rfl ?_) <;> (first | refine rd_skip rfl rfl ?_ | refine rdg_u rfl rfl rfl rfl (asub rfl rfl (by exact inr_i64_of (by omega))) ?_) <;> (first | refine rd_skip rfl rfl ?_ | refine rdg_u rfl rfl rfl rfl (aneq rfl rfl) ?_) <;> (first | refine rd_pick_t rfl rfl ?_ | refine rd_pick_f rfl rfl ?_) <;> (refine rmove rfl ?_) <;> (first | refine rd_skip rfl rfl ?_ | (refine rd_split (t := 27) rfl (fun hc => ?_) (fun hc => ?_) <;> (try simp only [sB, ne_eq, reduceCtorEq] at hc) <;> (try (exfalso; omega)) <;> (first | refine rd_skip rfl rfl ?_ | refine gfieldp rfl rfl rfl rfl rfl ?_))) <;> (first | refine rd_skip rfl rfl ?_ | refine gloadp rfl rfl rfl rfl rfl rfl ?_) <;> (first | refine rd_skip rfl rfl ?_ | refine rdg_u rfl rfl rfl rfl (aidxn rfl rfl (by (simp only [sL] <;> omega))) ?_) <;> (first | refine rd_skip rfl rfl ?_ | refine rdg_u rfl rfl rfl rfl (aloadw rfl rfl) ?_) <;> (first | refine rd_skip rfl rfl ?_ | refine gfieldp rfl rfl rfl rfl rfl ?_) <;> (first | refine rd_skip rfl rfl ?_ | refine gloadp rfl rfl rfl rfl rfl rfl ?_) <;> (first | refine rd_skip rfl rfl ?_ | refine rdg_u rfl rfl rfl rfl (asub rfl rfl (by exact inr_i64_of (by omega))) ?_) <;> (first | refine rd_skip rfl rfl ?_ | refine rdg_u rfl rfl rfl rfl (aneq rfl rfl) ?_) <;> (first | refine rd_pick_t rfl rfl ?_ | refine rd_pick_f rfl rfl ?_) <;> (refine rmove rfl ?_) <;> (first | refine rd_skip rfl rfl ?_ | (refine rd_split (t := 37) rfl (fun hc => ?_) (fun hc => ?_) <;> (try simp only [sB, ne_eq, reduceCtorEq] at hc) <;> (try (exfalso; omega)) <;> (first | refine rd_skip rfl rfl ?_ | refine gfieldp rfl rfl rfl rfl rfl ?_))) <;> (first | refine rd_skip rfl rfl ?_ | refine gloadp rfl rfl rfl rfl rfl rfl ?_) <;> (first | refine rd_skip rfl rfl ?_ | refine rdg_u rfl rfl rfl rfl (aidxn rfl rfl (by (simp only [sL] <;> omega))) ?_) <;> (first | refine rd_skip rfl rfl ?_ | refine rdg_u rfl rfl rfl rfl (aloadw rfl rfl) ?_) <;> (first | refine rd_skip rfl rfl ?_ | refine rdg_u rfl rfl rfl rfl (alss rfl rfl) ?_) <;> (first | refine rd_pick_t rfl rfl ?_ | refine rd_pick_f rfl rfl ?_) <;> (refine rd_end (by kernel_rfl) ?_)) | (refine rgC 3 ?_; (refine sassign rfl ?_); apply jW) | exact ret_eq rfl rfl rfl))
  all_goals ((exfalso; grind))
end Go.Lg
namespace Go.Lg
open Go.Proofs
attribute [local irreducible] Ap Rq asemC WP RunD Ret Gq thenA inBlockA bodyQ noGotoA RqL RqP OpP
attribute [local simp] AV.cells
def useTo (g : Gram) (l : List GLe) (e k : Nat) : List Int := ((List.range k).filter fun (i : Nat) => g.rules.any fun r => decide (r.head = (e : Int)) && decide (binL g l r = (i : Int))).map fun (i : Nat) => (i : Int)
theorem useTo_all (g : Gram) (l : List GLe) (e : Nat) : useTo g l e l.length = (useL g l e).map fun (i : Nat) => (i : Int) := rfl
theorem useTo_succ (g : Gram) (l : List GLe) (e k : Nat) : useTo g l e (k + 1) = useTo g l e k ++ (if (g.rules.any fun r => decide (r.head = (e : Int)) && decide (binL g l r = (k : Int))) = true then [(k : Int)] else []) := by
 unfold useTo
 rw [List.range_succ, List.filter_append, List.map_append]
 congr 1
 simp only [List.filter_cons, List.filter_nil]
 split <;> rfl
theorem useTo_len (g : Gram) (l : List GLe) (e k : Nat) : (useTo g l e k).length <= k := by
 unfold useTo
 rw [List.length_map]
 have := List.length_filter_le (fun (i : Nat) => g.rules.any fun r => decide (r.head = (e : Int)) && decide (binL g l r = (i : Int))) (List.range k)
 simpa using this
theorem used20_fn {g : Gram} (hv : GVal g) (l : List GLe) (hf : FewL l) (e : Nat) : Fn Tryd.prog 22 [gramA g, levelsA l, intA (e : Nat)] (intsA ((useL g l e).map fun (i : Nat) => (i : Int))) := by
 have hfn := hf.n
 have hr2 := hv.r2
 have hbin := fun r hr => binary20_fn hv l hf r hr
 rw [<- useTo_all]
 refine Fn.intro (by simp [AV.bd, bdL, bdL_append]) (by kernel_rfl) Tryd.func22 rfl rfl Tryd.ntmps22 (by exact nle rfl) ?_; intro Γ hm
 (repeat' (first | apply jA | apply jF | apply jH | (refine rgC 0 ?_; (refine se_box rfl (by exact ⟨rfl, rfl⟩) ?_); (refine sassign rfl ?_); apply jW) | (refine WP.regionC ?_; (refine sassign rfl ?_); apply jW)))
 refine wp_nil 7 1 rfl ?_
 refine wp_loop (fun (i : Nat) => i <= l.length) (fun i => l.length - i)
  (fun i => (S 49 [(1, levelsA l), (2, intA (e : Nat)), (3, .ptr 0 4 0 0), (7, .ref 1 1 0 (useTo g l e i).length), (8, intA (i : Nat))] 2 [(0, some (.arr 4 [gramA g])), (1, some (.arr 1 ((useTo g l e i).map intA)))])) 0 ⟨[0, 1], ToR.S rfl (by repeat' (first | exact rt_nil | refine rt_r rfl rfl ?_ | refine rt_t rfl rfl ?_ | refine rt_e rfl rfl ?_ | refine rt_p rfl rfl (by first | (simp [AV.bd, bdL, bdL_append]; done) | fail) ?_)) (by repeat' (first | exact ro_nil | refine ro_e rfl rfl ?_ | refine ro_p rfl (by first | exact rfl | fail) zq5 ?_)) rfl (by (rw [hm]; exact rfl)) rfl zq4 (by repeat' (first | exact True.intro | exact rfl | refine And.intro ?_ ?_ | (simp [bdOq, bdL, bdL_append, AV.bd]; done))) (by (rw [hm]; exact nle rfl))⟩ (Nat.zero_le _) ?_
 intro i hi
 have hul := useTo_len g l e i
 by_cases hlt : i < l.length
 ·(repeat' (first | apply jA | apply jF | apply jH | apply jI | (refine wp_cond rfl (fun hc => ?_) (fun hc => ?_) <;> (try simp only [sB, ne_eq, reduceCtorEq] at hc) <;> (try (exfalso; omega))) | (refine rgC 3 ?_; (refine smove rfl ?_); (refine smove rfl ?_); (refine slenm rfl rfl ?_); (refine slss rfl rfl ?_); apply jW) | (refine WP.regionC ?_; (refine sassign rfl ?_); apply jW)))
  refine wp_loop (fun (r : Nat) => r <= g.rules.length) (fun r => g.rules.length - r)
   (fun r => (S 49 [(1, levelsA l), (2, intA (e : Nat)), (3, .ptr 0 4 0 0), (7, .ref 1 1 0 (useTo g l e i).length), (8, intA (i : Nat)), (9, boolA ((g.rules.take r).any fun r => decide (r.head = (e : Int)) && decide (binL g l r = (i : Int)))), (10, intA (r : Nat))] 2 [(0, some (.arr 4 [gramA g])), (1, some (.arr 1 ((useTo g l e i).map intA)))])) 0 ⟨[0, 1], ToR.S rfl (by repeat' (first | exact rt_nil | refine rt_r rfl rfl ?_ | refine rt_t rfl rfl ?_ | refine rt_e rfl rfl ?_ | refine rt_p rfl rfl (by first | (simp [AV.bd, bdL, bdL_append]; done) | fail) ?_)) (by repeat' (first | exact ro_nil | refine ro_p rfl (by first | exact rfl | fail) (by first | exact bdL_map (fun _ => by exact rfl) _ | (simp [bdL, bdL_append, AV.bd]; done) | fail) ?_)) rfl (by (rw [hm]; exact rfl)) rfl zq4 (by repeat' (first | exact True.intro | refine And.intro ?_ ?_ | exact bdL_map (fun _ => by exact rfl) _ | (simp [bdOq, bdL, bdL_append, AV.bd]; done))) (by (rw [hm]; exact nle rfl))⟩ (Nat.zero_le _) ?_
  intro r hr
  by_cases hrl : r < g.rules.length
  ·have hx := hbin r hrl
   have hsn : ((g.rules.take (r + 1)).any fun r => decide (r.head = (e : Int)) && decide (binL g l r = (i : Int))) = (((g.rules.take r).any fun r => decide (r.head = (e : Int)) && decide (binL g l r = (i : Int))) || (decide ((nth g.rules r).head = (e : Int)) && decide (binL g l (nth g.rules r) = (i : Int)))) := by
    rw [take_succ_nth hrl, List.any_append]; simp
   generalize ((g.rules.take r).any fun r => decide (r.head = (e : Int)) && decide (binL g l r = (i : Int))) = F at *
   (repeat' (first | apply jA | apply jF | apply jH | apply jI | apply jN | (refine wp_cond rfl (fun hc => ?_) (fun hc => ?_) <;> (try simp only [sB, ne_eq, reduceCtorEq] at hc) <;> (try (exfalso; omega))) | (refine rgC 7 ?_; (refine smove rfl ?_); (refine sfieldp rfl rfl rfl ?_); (refine sloadp rfl rfl rfl rfl ?_); (refine slenm rfl rfl ?_); (refine slss rfl rfl ?_); apply jW) | (refine rgC 9 ?_; (refine smove rfl ?_); (refine smove rfl ?_); (refine sg (gq_vf rfl rfl) (fun he => ap_field_p (rq_p rfl rfl) rfl rfl) ?_); (refine sg (gq_vf rfl rfl) (fun he => ap_load_p (rq_c rfl rfl) rfl rfl rfl) ?_); (refine sg (gq_vf rfl rfl) (fun he => ap_move (rq_p rfl rfl)) ?_); (refine sg (gq_vf rfl rfl) (fun he => ap_idx_n (rq_c rfl rfl) (rq_c rfl rfl) (by (try simp only [sH, id, sB, ne_eq, reduceCtorEq] at he); omega)) ?_); (refine sg (gq_vf rfl rfl) (fun he => ap_field_i (rq_c rfl rfl) rfl rfl) ?_); (refine sg (gq_vf rfl rfl) (fun he => ap_load_i (rq_c rfl rfl) rfl) ?_); (refine sg (gq_vf rfl rfl) (fun he => ap_move (rq_p rfl rfl)) ?_); (refine sg (gq_vf rfl rfl) (fun he => ap_eql (rq_c rfl rfl) (rq_c rfl rfl)) ?_); (refine sg (gq_vf rfl rfl) (fun he => ap_move (rq_c rfl rfl)) ?_); (refine sg (gq_ct rfl rfl) (fun he => ap_load_pw (rq_p rfl rfl) rfl rfl rfl) ?_); (refine sg (gq_ct rfl rfl) (fun he => ap_move (rq_p rfl rfl)) ?_); (refine sg (gq_ct rfl rfl) (fun he => ap_move (rq_p rfl rfl)) ?_); (refine sg_p (gq_ct rfl rfl) (fun he => ⟨(rq_p rfl rfl), (RqL.cons (rq_c rfl rfl) (RqL.cons (rq_c rfl rfl) (RqL.cons (rq_c rfl rfl) (RqL.nil)))), zq1, zq5, hx⟩) ?_); (refine sg (gq_ct rfl rfl) (fun he => ap_move (rq_p rfl rfl)) ?_); (refine sg (gq_ct rfl rfl) (fun he => ap_eql (rq_c rfl rfl) (rq_c rfl rfl)) ?_); (refine sg (gq_vf rfl rfl) (fun he => ap_and (rq_c rfl rfl) (rq_c rfl rfl)) ?_); (refine su (ap_or (rq_p rfl rfl) (rq_c rfl rfl)) ?_); (refine sassign rfl ?_); apply jW) | (refine rgC 8 ?_; (refine smove rfl ?_); (refine sadd rfl rfl (by exact inr_i64_of (by omega)) ?_); (refine sassign rfl ?_); apply jW)))
   all_goals try (exfalso; omega)
   refine ⟨r + 1, ⟨by omega, by omega⟩, ?_⟩
   rw [hsn]
   exact ⟨[0, 1], ToR.S rfl (by repeat' (first | exact rt_nil | refine rt_r rfl rfl ?_ | refine rt_t rfl rfl ?_ | refine rt_e rfl rfl ?_ | refine rt_p rfl rfl (by first | (simp [AV.bd, bdL, bdL_append]; done) | fail) ?_)) (by repeat' (first | exact ro_nil | refine ro_p rfl (by first | exact rfl | fail) (by first | exact bdL_map (fun _ => by exact rfl) _ | (simp [bdL, bdL_append, AV.bd]; done) | fail) ?_)) rfl (by (rw [hm]; exact rfl)) rfl zq4 (by repeat' (first | exact True.intro | refine And.intro ?_ ?_ | exact bdL_map (fun _ => by exact rfl) _ | (simp [bdOq, bdL, bdL_append, AV.bd]; done))) (by (rw [hm]; exact nle rfl))⟩
  ·rw [List.take_of_length_le (by omega)]
   have hsu := useTo_succ g l e i
   cases hF : (g.rules.any fun r => decide (r.head = (e : Int)) && decide (binL g l r = (i : Int))) with
   | false =>
    rw [hF, if_neg (by simp), List.append_nil] at hsu
    (repeat' (first | apply jA | apply jH | apply jI | apply jJ | apply jL | apply jN | apply jP | (refine wp_cond rfl (fun hc => ?_) (fun hc => ?_) <;> (try simp only [sB, ne_eq, reduceCtorEq] at hc) <;> (try (exfalso; omega))) | (refine rgC 7 ?_; (refine smove rfl ?_); (refine sfieldp rfl rfl rfl ?_); (refine sloadp rfl rfl rfl rfl ?_); (refine slenm rfl rfl ?_); (refine slss rfl rfl ?_); apply jW) | (refine rgC 10 ?_; (refine smove rfl ?_); apply jW) | (refine rgC 4 ?_; (refine smove rfl ?_); (refine sadd rfl rfl (by exact inr_i64_of (by omega)) ?_); (refine sassign rfl ?_); apply jW)))
    all_goals try (exfalso; simp at hc; done)
    refine ⟨i + 1, ⟨by omega, by omega⟩, ?_⟩
    rw [hsu]
    exact ⟨[0, 1], ToR.S rfl (by repeat' (first | exact rt_nil | refine rt_r rfl rfl ?_ | refine rt_t rfl rfl ?_ | refine rt_e rfl rfl ?_ | refine rt_p rfl rfl (by first | (simp [AV.bd, bdL, bdL_append]; done) | fail) ?_)) (by repeat' (first | exact ro_nil | refine ro_p rfl (by first | exact rfl | fail) (by first | exact bdL_map (fun _ => by exact rfl) _ | (simp [bdL, bdL_append, AV.bd]; done) | fail) ?_)) rfl (by (rw [hm]; exact rfl)) rfl zq4 (by repeat' (first | exact True.intro | refine And.intro ?_ ?_ | exact bdL_map (fun _ => by exact rfl) _ | (simp [bdOq, bdL, bdL_append, AV.bd]; done))) (by (rw [hm]; exact nle rfl))⟩
   | true =>
    rw [hF, if_pos rfl] at hsu
    (repeat' (first | apply jA | apply jH | apply jJ | apply jL | apply jN | apply jP | (refine wp_cond rfl (fun hc => ?_) (fun hc => ?_) <;> (try simp only [sB, ne_eq, reduceCtorEq] at hc) <;> (try (exfalso; omega))) | (refine rgC 7 ?_; (refine smove rfl ?_); (refine sfieldp rfl rfl rfl ?_); (refine sloadp rfl rfl rfl rfl ?_); (refine slenm rfl rfl ?_); (refine slss rfl rfl ?_); apply jW) | (refine rgC 10 ?_; (refine smove rfl ?_); apply jW) | (refine rgC 11 ?_; (refine smove rfl ?_); (refine smove rfl ?_); (refine se_lit (OpP.cons rfl (OpP.nil)) rfl rfl rfl rfl rfl rfl ?_); (refine se_app1 rfl rfl rfl rfl rfl rfl rfl rfl (by omega) ?_); (refine sassign rfl ?_); apply jW) | (refine rgC 4 ?_; (refine smove rfl ?_); (refine sadd rfl rfl (by exact inr_i64_of (by omega)) ?_); (refine sassign rfl ?_); apply jW)))
    all_goals try (exfalso; simp at hc; done)
    refine ⟨i + 1, ⟨by omega, by omega⟩, ?_⟩
    rw [hsu]
    exact ⟨[0, 3], ToR.S rfl (by repeat' (first | exact rt_nil | refine rt_r rfl rfl ?_ | refine rt_t rfl rfl ?_ | refine rt_e rfl rfl ?_ | refine rt_p rfl rfl (by first | (simp [AV.bd, bdL, bdL_append]; done) | fail) ?_)) (by repeat' (first | exact ro_nil | refine ro_p rfl (by first | exact rfl | fail) (by first | exact bdL_map (fun _ => by exact rfl) _ | (simp [bdL, bdL_append, AV.bd]; done) | fail) ?_)) rfl (by (rw [hm]; exact rfl)) rfl zq4 (by repeat' (first | exact True.intro | refine And.intro ?_ ?_ | exact bdL_map (fun _ => by exact rfl) _ | (simp [bdOq, bdL, bdL_append, AV.bd]; done))) (by (rw [hm]; exact nle rfl))⟩
 ·obtain rfl : i = l.length := by omega
  (repeat' (first | apply jA | apply jH | apply jJ | apply jK | apply jL | apply jP | apply jS | (refine wp_cond rfl (fun hc => ?_) (fun hc => ?_) <;> (try simp only [sB, ne_eq, reduceCtorEq] at hc) <;> (try (exfalso; omega))) | (refine rgC 3 ?_; (refine smove rfl ?_); (refine smove rfl ?_); (refine slenm rfl rfl ?_); (refine slss rfl rfl ?_); apply jW) | (refine rgC 12 ?_; (refine smove rfl ?_); (refine sassign rfl ?_); apply jW) | refine ret_sl rfl rfl rfl (fun _ => by exact rfl) (fun _ => rfl) ?_))
  all_goals rfl
theorem decimal20_fn (n : Nat) : n <= 1000 -> Fn Tryd.prog 23 [intA (n : Nat)] (strA (tx (Lib.decDigits n))) := by
 induction n using Nat.strongRecOn with
 | ind n ih =>
  intro hn
  by_cases h : n < 10
  ·rw [dd_lt (by omega)]
   refine Fn.intro rfl (by kernel_rfl) Tryd.func23 rfl rfl Tryd.ntmps23 (by exact nle rfl) ?_; intro Γ hm
   (repeat' (first | apply jA | apply jH | apply jK | apply jM | apply jS | (refine wp_cond rfl (fun hc => ?_) (fun hc => ?_) <;> (try simp only [sB, ne_eq, reduceCtorEq] at hc) <;> (try (exfalso; omega))) | (refine rgC 0 ?_; (refine sassign rfl ?_); apply jW) | (refine rgC 1 ?_; (refine smove rfl ?_); (refine slss rfl rfl ?_); apply jW) | (refine rgC 2 ?_; (refine smove rfl ?_); (refine sadd rfl rfl (by exact inr_i64_of (by omega)) ?_); (refine su (aconv rfl rfl (by kernel_rfl) (by exact inr_u8_of (by omega))) ?_); (refine se_lit (OpP.cons rfl (OpP.nil)) rfl rfl rfl rfl rfl rfl ?_); (refine su (ap_conv_r1 (rq_p rfl rfl) rfl (by omega) rfl rfl (by kernel_rfl) (by kernel_rfl)) ?_); (refine sassign rfl ?_); apply jW)))
   all_goals try (exfalso; omega)
   rw [show ((48 : Int) + (n : Int)).toNat = 48 + n % 10 by omega]
   exact ret_eq rfl rfl rfl
  ·have h1 := ih (n / 10) (by omega) (by omega)
   have h2 := ih (n % 10) (by omega) (by omega)
   rw [<- tdiv10Y] at h1
   rw [<- tmod10Y] at h2
   have t1 := tmod10Y n
   have t2 := tdiv10Y n
   have l1 := dd_len (n / 10) (by omega)
   have l2 := dd_len (n % 10) (by omega)
   have s1 := tx_size (Lib.decDigits (n / 10))
   have s2 := tx_size (Lib.decDigits (n % 10))
   have e : tx (Lib.decDigits n) = tx (Lib.decDigits (n / 10)) ++ tx (Lib.decDigits (n % 10)) := by
    rw [dd_step (by omega), dd_lt (u := n % 10) (by omega), tx_app, Nat.mod_mod]
   rw [e]
   refine Fn.intro rfl (by kernel_rfl) Tryd.func23 rfl rfl Tryd.ntmps23 (by exact nle rfl) ?_; intro Γ hm
   (repeat' (first | apply jA | apply jH | apply jI | apply jK | apply jS | (refine wp_cond rfl (fun hc => ?_) (fun hc => ?_) <;> (try simp only [sB, ne_eq, reduceCtorEq] at hc) <;> (try (exfalso; omega))) | (refine rgC 0 ?_; (refine sassign rfl ?_); apply jW) | (refine rgC 1 ?_; (refine smove rfl ?_); (refine slss rfl rfl ?_); apply jW) | (refine rgC 3 ?_; (refine smove rfl ?_); (refine su (aquo rfl rfl (And.intro (by decide) (by exact inr_i64_of (by omega)))) ?_); (refine sc_p rfl rfl zq1 zq5 (h1) ?_); (refine smove rfl ?_); (refine su (arem rfl rfl (by omega)) ?_); (refine sc_p rfl rfl zq1 zq5 (h2) ?_); (refine su (acat rfl rfl (by omega)) ?_); (refine sassign rfl ?_); apply jW) | exact ret_eq rfl rfl rfl))
   all_goals try (exfalso; omega)
theorem index20_fn (l : List Int) (v : Int) : Fn Tryd.prog 25 [intsA l, intA v] (intA (indexP (fun x => decide (x = v)) l + 1)) := by
 refine Fn.intro rfl (by kernel_rfl) Tryd.func25 rfl rfl Tryd.ntmps25 (by exact nle rfl) ?_; intro Γ hm
 refine wp_lens 0 rfl fun h0 => ?_
 have h0 : l.length <= 9223372036854775807 := by have := h0; simp [AV.lens, intsA] at this; omega
 (repeat' (first | apply jA | apply jF | apply jH | (refine WP.regionC ?_; (refine sassign rfl ?_); apply jW)))
 refine wp_loop (fun k => k <= l.length /\ (l.take k).any (fun x => decide (x = v)) = false) (fun k => l.length - k) (fun k => (S 20 [(0, intsA l), (1, intA v), (5, intA (k : Nat))] 0 [])) 0 ⟨[], ToR.S rfl (by repeat' (first | exact rt_nil | refine rt_e rfl rfl ?_ | refine rt_p rfl rfl (by first | (simp [AV.bd, bdL, bdL_append]; done) | fail) ?_)) (by repeat' (exact ro_nil)) rfl (by (rw [hm]; exact rfl)) rfl zq4 (by repeat' (exact True.intro)) (by (rw [hm]; exact nle rfl))⟩ ⟨Nat.zero_le _, rfl⟩ ?_
 rintro k ⟨hk, hall⟩
 (repeat' (first | apply jA | apply jF | apply jH | apply jI | apply jJ | apply jK | apply jL | apply jM | apply jN | apply jO | apply jP | apply jS | (refine wp_cond rfl (fun hc => ?_) (fun hc => ?_) <;> (try simp only [sB, ne_eq, reduceCtorEq] at hc) <;> (try (exfalso; omega))) | (refine rgC 2 ?_; (refine smove rfl ?_); (refine smove rfl ?_); (refine slenm rfl rfl ?_); (refine slss rfl rfl ?_); apply jW) | (refine rgC 4 ?_; (refine smove rfl ?_); (refine smove rfl ?_); (refine sidxn rfl rfl (by omega) ?_); (refine sloadw rfl rfl ?_); (refine smove rfl ?_); (refine seql rfl rfl ?_); apply jW) | (refine WP.regionC ?_; (refine smove rfl ?_); (refine sadd rfl rfl (by exact inr_i64_of (by omega)) ?_); (refine sassign rfl ?_); apply jW) | (refine rgC 6 ?_; (refine sassign rfl ?_); apply jW) | refine ret_i rfl ?_))
 ·rw [indexP_at (p := fun x => decide (x = v)) (by omega) hall (by simp [hc])]
 ·exact ⟨k + 1, ⟨by omega, by omega, take_any_succ (by omega) hall (by simp [hc])⟩, ⟨[], ToR.S rfl (by repeat' (first | exact rt_nil | refine rt_e rfl rfl ?_ | refine rt_p rfl rfl (by first | (simp [AV.bd, bdL, bdL_append]; done) | fail) ?_)) (by repeat' (exact ro_nil)) rfl (by (rw [hm]; exact rfl)) rfl zq4 (by repeat' (exact True.intro)) (by (rw [hm]; exact nle rfl))⟩⟩
 ·rw [indexP_no (p := fun x => decide (x = v)) (by omega) hall]; rfl
end Go.Lg
namespace Go.Lg
open Go.Proofs
attribute [local irreducible] Ap Rq asemC WP RunD Ret Gq thenA inBlockA bodyQ noGotoA RqL RqP OpP
attribute [local simp] AV.cells
theorem noTok_nth {g : Gram} {l : List GLe} {i k : Nat} (hi : i < l.length) (hk : k < (nth l i).tokens.length) (h : ¬ 0 <= termI g (nth (nth l i).tokens k)) : noTok g l = false := by
 rw [Bool.eq_false_iff]
 intro hn
 unfold noTok lvlTok at hn
 rw [List.all_eq_true] at hn
 have := hn _ (List.mem_flatten.2 ⟨_, List.mem_map.2 ⟨_, nth_mem hi, rfl⟩, nth_mem hk⟩)
 exact h (by simpa using this)
theorem noTok_all {g : Gram} {l : List GLe} (h : ∀ i, i < l.length -> ∀ k, k < (nth l i).tokens.length -> 0 <= termI g (nth (nth l i).tokens k)) : noTok g l = true := by
 unfold noTok lvlTok
 rw [List.all_eq_true]
 intro s hs
 obtain ⟨q, hq, hs⟩ := List.mem_flatten.1 hs
 obtain ⟨x, hx, rfl⟩ := List.mem_map.1 hq
 obtain ⟨i, hi, rfl⟩ := List.getElem_of_mem hx
 obtain ⟨k, hk, rfl⟩ := List.getElem_of_mem hs
 have h2 := h i hi
 rw [nth_eq hi] at h2
 have := h2 k hk
 rw [nth_eq hk] at this
 simpa using this
theorem confl_any {g : Gram} {l : List GLe} {i : Nat} (hi : i < g.rules.length) (h : conflG g l i = true) : (List.range g.rules.length).any (conflG g l) = true := by
 rw [List.any_eq_true]; exact ⟨i, List.mem_range.2 hi, h⟩
theorem sameOp_iff {g : Gram} {l : List GLe} {r s : Rul} : sameOp g l r s = true ↔ 0 <= binL g l s /\ s.head = r.head /\ nth s.body 1 = nth r.body 1 := by
 unfold sameOp
 simp only [Bool.and_eq_true, decide_eq_true_eq, and_assoc]
theorem bin_len3 {g : Gram} {l : List GLe} {r : Rul} (h : 0 <= binL g l r) : r.body.length = 3 := (selfB_iff.1 (bin_self h).1).1
theorem check20_fn (g : Gram) (l : List GLe) (hf : FewL l) : Fn Tryd.prog 21 [gramA g, levelsA l] (intA (checkG g l)) := by
 have hfn := hf.n
 have hft := hf.t
 have hg := rvalid18_fn g
 have hlv := levs20_fn l hf
 unfold checkG
 cases hval : validG g with
 | false =>
  rw [hval] at hg
  rw [Bool.false_and, if_neg (by simp)]
  refine Fn.intro rfl (by kernel_rfl) Tryd.func21 rfl rfl Tryd.ntmps21 (by exact nle rfl) ?_; intro Γ hm
  (repeat' (first | apply jA | apply jH | apply jK | apply jM | apply jS | (refine wp_cond rfl (fun hc => ?_) (fun hc => ?_) <;> (try simp only [sB, ne_eq, reduceCtorEq] at hc) <;> (try (exfalso; omega))) | (refine rgC 0 ?_; (refine se_box rfl (by exact ⟨rfl, rfl⟩) ?_); (refine sassign rfl ?_); apply jW) | (refine rgC 1 ?_; (refine sloadpw rfl rfl rfl rfl ?_); (refine sc_p rfl rfl zq1 zq5 (hg) ?_); (refine su (anot rfl) ?_); (refine smove rfl ?_); (refine sg (gq_vf rfl rfl) (fun he => ap_move (rq_p rfl rfl)) ?_); (refine sk_no rfl rfl ?_); (refine sk_no rfl rfl ?_); (refine pk_t rfl rfl ?_); apply jW) | (refine rgC 2 ?_; (refine sassign rfl ?_); apply jW) | exact ret_eq rfl rfl rfl))
  all_goals (rfl)
 | true =>
  rw [hval] at hg
  have hv := validG_iff.1 hval
  have hr2 := hv.r2
  cases hlo : levsOk l with
  | false =>
   rw [hlo] at hlv
   rw [Bool.and_false, if_neg (by simp)]
   refine Fn.intro rfl (by kernel_rfl) Tryd.func21 rfl rfl Tryd.ntmps21 (by exact nle rfl) ?_; intro Γ hm
   (repeat' (first | apply jA | apply jH | apply jI | apply jK | apply jM | apply jS | (refine wp_cond rfl (fun hc => ?_) (fun hc => ?_) <;> (try simp only [sB, ne_eq, reduceCtorEq] at hc) <;> (try (exfalso; omega))) | (refine rgC 0 ?_; (refine se_box rfl (by exact ⟨rfl, rfl⟩) ?_); (refine sassign rfl ?_); apply jW) | (refine rgC 1 ?_; (refine sloadpw rfl rfl rfl rfl ?_); (refine sc_p rfl rfl zq1 zq5 (hg) ?_); (refine su (anot rfl) ?_); (refine smove rfl ?_); (refine sg (gq_vf rfl rfl) (fun he => ap_move (rq_p rfl rfl)) ?_); (refine sg_p (gq_vf rfl rfl) (fun he => ⟨(rq_p rfl rfl), (RqL.cons (rq_c rfl rfl) (RqL.nil)), zq1, zq5, hlv⟩) ?_); (refine sg (gq_vf rfl rfl) (fun he => ap_not (rq_c rfl rfl)) ?_); (refine su (ap_or (rq_p rfl rfl) (rq_c rfl rfl)) ?_); apply jW) | (refine rgC 2 ?_; (refine sassign rfl ?_); apply jW) | exact ret_eq rfl rfl rfl))
   all_goals ((exfalso; simp at hc; done))
  | true =>
   rw [hlo] at hlv
   rw [Bool.and_self, if_pos rfl]
   have hterm := term20_fn g
   refine Fn.intro rfl (by kernel_rfl) Tryd.func21 rfl rfl Tryd.ntmps21 (by exact nle rfl) ?_; intro Γ hm
   (repeat' (first | apply jA | apply jF | apply jH | apply jI | (refine wp_cond rfl (fun hc => ?_) (fun hc => ?_) <;> (try simp only [sB, ne_eq, reduceCtorEq] at hc) <;> (try (exfalso; omega))) | (refine rgC 0 ?_; (refine se_box rfl (by exact ⟨rfl, rfl⟩) ?_); (refine sassign rfl ?_); apply jW) | (refine rgC 1 ?_; (refine sloadpw rfl rfl rfl rfl ?_); (refine sc_p rfl rfl zq1 zq5 (hg) ?_); (refine su (anot rfl) ?_); (refine smove rfl ?_); (refine sg (gq_vf rfl rfl) (fun he => ap_move (rq_p rfl rfl)) ?_); (refine sg_p (gq_vf rfl rfl) (fun he => ⟨(rq_p rfl rfl), (RqL.cons (rq_c rfl rfl) (RqL.nil)), zq1, zq5, hlv⟩) ?_); (refine sg (gq_vf rfl rfl) (fun he => ap_not (rq_c rfl rfl)) ?_); (refine su (ap_or (rq_p rfl rfl) (rq_c rfl rfl)) ?_); apply jW) | (refine rgC 3 ?_; (refine sassign rfl ?_); apply jW)))
   all_goals try (exfalso; simp at hc; done)
   refine wp_loop (fun (i : Nat) => i <= l.length /\ ∀ j, j < i -> ∀ k, k < (nth l j).tokens.length -> 0 <= termI g (nth (nth l j).tokens k)) (fun i => l.length - i)
    (fun i => (S 131 [(1, levelsA l), (2, .ptr 0 4 0 0), (5, intA (i : Nat))] 1 [(0, some (.arr 4 [gramA g]))])) 0 ⟨[0], ToR.S rfl (by repeat' (first | exact rt_nil | refine rt_t rfl rfl ?_ | refine rt_e rfl rfl ?_ | refine rt_p rfl rfl (by first | (simp [AV.bd, bdL, bdL_append]; done) | fail) ?_)) (by repeat' (first | exact ro_nil | refine ro_p rfl (by first | exact rfl | fail) zq5 ?_)) rfl (by (rw [hm]; exact rfl)) rfl zq4 zq3 (by (rw [hm]; exact nle rfl))⟩ ⟨Nat.zero_le _, by omega⟩ ?_
   rintro i ⟨hi, hall⟩
   by_cases hlt : i < l.length
   ·have htk := hft _ (nth_mem hlt)
    (repeat' (first | apply jA | apply jF | apply jH | apply jI | (refine wp_cond rfl (fun hc => ?_) (fun hc => ?_) <;> (try simp only [sB, ne_eq, reduceCtorEq] at hc) <;> (try (exfalso; omega))) | (refine rgC 4 ?_; (refine smove rfl ?_); (refine smove rfl ?_); (refine slenm rfl rfl ?_); (refine slss rfl rfl ?_); apply jW) | (refine rgC 6 ?_; (refine sassign rfl ?_); apply jW)))
    refine wp_loop (fun (k : Nat) => k <= (nth l i).tokens.length /\ ∀ m, m < k -> 0 <= termI g (nth (nth l i).tokens m)) (fun k => (nth l i).tokens.length - k)
     (fun k => (S 131 [(1, levelsA l), (2, .ptr 0 4 0 0), (5, intA (i : Nat)), (6, intA (k : Nat))] 1 [(0, some (.arr 4 [gramA g]))])) 0 ⟨[0], ToR.S rfl (by repeat' (first | exact rt_nil | refine rt_t rfl rfl ?_ | refine rt_e rfl rfl ?_ | refine rt_p rfl rfl (by first | (simp [AV.bd, bdL, bdL_append]; done) | fail) ?_)) (by repeat' (first | exact ro_nil | refine ro_p rfl (by first | exact rfl | fail) zq5 ?_)) rfl (by (rw [hm]; exact rfl)) rfl zq4 zq3 (by (rw [hm]; exact nle rfl))⟩ ⟨Nat.zero_le _, by omega⟩ ?_
    rintro k ⟨hk, hallk⟩
    by_cases hkl : k < (nth l i).tokens.length
    ·(repeat' (first | apply jA | apply jF | apply jH | apply jI | apply jK | apply jM | apply jN | apply jO | apply jS | (refine wp_cond rfl (fun hc => ?_) (fun hc => ?_) <;> (try simp only [sB, ne_eq, reduceCtorEq] at hc) <;> (try (exfalso; omega))) | (refine rgC 7 ?_; (refine smove rfl ?_); (refine smove rfl ?_); (refine smove rfl ?_); (refine sidxn rfl rfl (by omega) ?_); (refine su (afieldi rfl rfl rfl) ?_); (refine su (aloadi rfl rfl) ?_); (refine slenm rfl rfl ?_); (refine slss rfl rfl ?_); apply jW) | (refine wp_draw (id := 9) 11 mixed (by kernel_rfl) (by kernel_rfl) rfl ?_ <;> (refine rd_u rfl rfl (aloadpw rfl rfl rfl rfl) ?_) <;> (refine rmove rfl ?_) <;> (refine rmove rfl ?_) <;> (refine rd_u rfl rfl (aidxn rfl rfl (by omega)) ?_) <;> (refine rd_u rfl rfl (afieldi rfl rfl rfl) ?_) <;> (refine rd_u rfl rfl (aloadi rfl rfl) ?_) <;> (refine rmove rfl ?_) <;> (refine rd_u rfl rfl (aidxn rfl rfl (by omega)) ?_) <;> (refine rd_u rfl rfl (aloadw rfl rfl) ?_) <;> (refine rd_call rfl rfl zq1 zq5 (hterm _) ?_) <;> (refine rd_u rfl rfl (alss rfl rfl) ?_) <;> (refine rd_end (by kernel_rfl) ?_)) | (refine rgC 10 ?_; (refine sassign rfl ?_); apply jW) | (refine rgC 8 ?_; (refine smove rfl ?_); (refine sadd rfl rfl (by exact inr_i64_of (by omega)) ?_); (refine sassign rfl ?_); apply jW) | refine ret_i rfl ?_))
     ·rw [noTok_nth hlt hkl (by omega), if_neg (by simp)]
     ·exact ⟨k + 1, ⟨by omega, by omega, fun m hm => by
       by_cases e : m = k
       ·subst e; omega
       ·exact hallk m (by omega)⟩, ⟨[0], ToR.S rfl (by repeat' (first | exact rt_nil | refine rt_t rfl rfl ?_ | refine rt_e rfl rfl ?_ | refine rt_p rfl rfl (by first | (simp [AV.bd, bdL, bdL_append]; done) | fail) ?_)) (by repeat' (first | exact ro_nil | refine ro_p rfl (by first | exact rfl | fail) zq5 ?_)) rfl (by (rw [hm]; exact rfl)) rfl zq4 zq3 (by (rw [hm]; exact nle rfl))⟩⟩
    ·(repeat' (first | apply jA | apply jH | apply jJ | apply jL | apply jN | apply jP | (refine wp_cond rfl (fun hc => ?_) (fun hc => ?_) <;> (try simp only [sB, ne_eq, reduceCtorEq] at hc) <;> (try (exfalso; omega))) | (refine rgC 7 ?_; (refine smove rfl ?_); (refine smove rfl ?_); (refine smove rfl ?_); (refine sidxn rfl rfl (by omega) ?_); (refine su (afieldi rfl rfl rfl) ?_); (refine su (aloadi rfl rfl) ?_); (refine slenm rfl rfl ?_); (refine slss rfl rfl ?_); apply jW) | (refine rgC 5 ?_; (refine smove rfl ?_); (refine sadd rfl rfl (by exact inr_i64_of (by omega)) ?_); (refine sassign rfl ?_); apply jW)))
     exact ⟨i + 1, ⟨by omega, by omega, fun j hj => by
      by_cases e : j = i
      ·subst e; exact fun m hm => hallk m (by omega)
      ·exact hall j (by omega)⟩, ⟨[0], ToR.S rfl (by repeat' (first | exact rt_nil | refine rt_t rfl rfl ?_ | refine rt_e rfl rfl ?_ | refine rt_p rfl rfl (by first | (simp [AV.bd, bdL, bdL_append]; done) | fail) ?_)) (by repeat' (first | exact ro_nil | refine ro_p rfl (by first | exact rfl | fail) zq5 ?_)) rfl (by (rw [hm]; exact rfl)) rfl zq4 zq3 (by (rw [hm]; exact nle rfl))⟩⟩
   ·rw [noTok_all fun j hj => hall j (by omega), if_pos rfl]
    have hbin := fun r hr => binary20_fn hv l hf r hr
    (repeat' (first | apply jA | apply jF | apply jH | apply jJ | apply jL | apply jP | (refine wp_cond rfl (fun hc => ?_) (fun hc => ?_) <;> (try simp only [sB, ne_eq, reduceCtorEq] at hc) <;> (try (exfalso; omega))) | (refine rgC 4 ?_; (refine smove rfl ?_); (refine smove rfl ?_); (refine slenm rfl rfl ?_); (refine slss rfl rfl ?_); apply jW) | (refine rgC 11 ?_; (refine sassign rfl ?_); apply jW)))
    refine wp_loop (fun (r : Nat) => r <= g.rules.length /\ ∀ j, j < r -> conflG g l j = false) (fun r => g.rules.length - r)
     (fun r => (S 131 [(1, levelsA l), (2, .ptr 0 4 0 0), (7, intA (r : Nat))] 1 [(0, some (.arr 4 [gramA g]))])) 0 ⟨[0], ToR.S rfl (by repeat' (first | exact rt_nil | refine rt_t rfl rfl ?_ | refine rt_e rfl rfl ?_ | refine rt_p rfl rfl (by first | (simp [AV.bd, bdL, bdL_append]; done) | fail) ?_)) (by repeat' (first | exact ro_nil | refine ro_p rfl (by first | exact rfl | fail) zq5 ?_)) rfl (by (rw [hm]; exact rfl)) rfl zq4 zq3 (by (rw [hm]; exact nle rfl))⟩ ⟨Nat.zero_le _, by omega⟩ ?_
    rintro r ⟨hr, hcf⟩
    by_cases hrl : r < g.rules.length
    ·have hx := hbin r hrl
     have hrf := hv.rule _ (nth_mem hrl)
     have hln := hrf.len
     by_cases hb : 0 <= binL g l (nth g.rules r)
     ·have h3 := bin_len3 hb
      have hcd : conflG g l r = (g.rules.take r).any (sameOp g l (nth g.rules r)) := by unfold conflG; rw [if_pos hb]
      (repeat' (first | apply jA | apply jF | apply jH | apply jI | (refine wp_cond rfl (fun hc => ?_) (fun hc => ?_) <;> (try simp only [sB, ne_eq, reduceCtorEq] at hc) <;> (try (exfalso; omega))) | (refine rgC 12 ?_; (refine smove rfl ?_); (refine sfieldp rfl rfl rfl ?_); (refine sloadp rfl rfl rfl rfl ?_); (refine slenm rfl rfl ?_); (refine slss rfl rfl ?_); apply jW) | (refine rgC 14 ?_; (refine sloadpw rfl rfl rfl rfl ?_); (refine smove rfl ?_); (refine smove rfl ?_); (refine sc_p rfl rfl zq1 zq5 (hx) ?_); (refine su (ageq rfl rfl) ?_); apply jW) | (refine rgC 15 ?_; (refine sassign rfl ?_); apply jW)))
      all_goals try (exfalso; omega)
      refine wp_loop (fun (s : Nat) => s <= r /\ ∀ j, j < s -> sameOp g l (nth g.rules r) (nth g.rules j) = false) (fun s => r - s)
       (fun s => (S 131 [(1, levelsA l), (2, .ptr 0 4 0 0), (7, intA (r : Nat)), (8, intA (s : Nat))] 1 [(0, some (.arr 4 [gramA g]))])) 0 ⟨[0], ToR.S rfl (by repeat' (first | exact rt_nil | refine rt_t rfl rfl ?_ | refine rt_e rfl rfl ?_ | refine rt_p rfl rfl (by first | (simp [AV.bd, bdL, bdL_append]; done) | fail) ?_)) (by repeat' (first | exact ro_nil | refine ro_p rfl (by first | exact rfl | fail) zq5 ?_)) rfl (by (rw [hm]; exact rfl)) rfl zq4 zq3 (by (rw [hm]; exact nle rfl))⟩ ⟨Nat.zero_le _, by omega⟩ ?_
      rintro s ⟨hs, hall2⟩
      by_cases hsr : s < r
      ·have hxs := hbin s (by omega)
       have hso := sameOp_iff (g := g) (l := l) (r := nth g.rules r) (s := nth g.rules s)
       have hsm : nth g.rules s ∈ g.rules.take r := by
        rw [show nth g.rules s = nth (g.rules.take r) s by rw [nth_eq (by omega), nth_eq (by rw [List.length_take]; omega), List.getElem_take]]
        exact nth_mem (by rw [List.length_take]; omega)
       by_cases hbs : 0 <= binL g l (nth g.rules s)
       ·have h3s := bin_len3 hbs
        have hso2 : sameOp g l (nth g.rules r) (nth g.rules s) = true ↔ (nth g.rules s).head = (nth g.rules r).head /\ nth (nth g.rules s).body (nat_lit 1) = nth (nth g.rules r).body (nat_lit 1) := ⟨fun h => (hso.1 h).2, fun h => hso.2 ⟨hbs, h⟩⟩
        by_cases hsame : sameOp g l (nth g.rules r) (nth g.rules s) = true
        ·have hs2 := hso2.1 hsame
         rw [confl_any hrl (by rw [hcd, List.any_eq_true]; exact ⟨_, hsm, hsame⟩), if_pos rfl]
         (repeat' (first | apply jA | apply jF | apply jH | apply jI | apply jK | apply jM | apply jN | apply jO | apply jS | (refine wp_cond rfl (fun hc => ?_) (fun hc => ?_) <;> (try simp only [sB, ne_eq, reduceCtorEq] at hc) <;> (try (exfalso; omega))) | (refine rgC 16 ?_; (refine smove rfl ?_); (refine smove rfl ?_); (refine slss rfl rfl ?_); apply jW) | (refine wp_draw (id := 18) 39 mixed (by kernel_rfl) (by kernel_rfl) rfl ?_ <;> (refine rd_u rfl rfl (aloadpw rfl rfl rfl rfl) ?_) <;> (refine rmove rfl ?_) <;> (refine rmove rfl ?_) <;> (refine rd_call rfl rfl zq1 zq5 (hxs) ?_) <;> (refine rd_u rfl rfl (ageq rfl rfl) ?_) <;> (refine rmove rfl ?_) <;> ((refine rd_split (t := 68) rfl (fun hc => ?_) (fun hc => ?_) <;> (try simp only [sB, ne_eq, reduceCtorEq] at hc) <;> (try (exfalso; omega)) <;> (refine gfieldp rfl rfl rfl rfl rfl ?_))) <;> (refine gloadp rfl rfl rfl rfl rfl rfl ?_) <;> (refine gmove rfl rfl rfl ?_) <;> (refine rdg_u rfl rfl rfl rfl (aidxn rfl rfl (by omega)) ?_) <;> (refine rdg_u rfl rfl rfl rfl (afieldi rfl rfl rfl) ?_) <;> (refine rdg_u rfl rfl rfl rfl (aloadi rfl rfl) ?_) <;> (refine gfieldp rfl rfl rfl rfl rfl ?_) <;> (refine gloadp rfl rfl rfl rfl rfl rfl ?_) <;> (refine gmove rfl rfl rfl ?_) <;> (refine rdg_u rfl rfl rfl rfl (aidxn rfl rfl (by omega)) ?_) <;> (refine rdg_u rfl rfl rfl rfl (afieldi rfl rfl rfl) ?_) <;> (refine rdg_u rfl rfl rfl rfl (aloadi rfl rfl) ?_) <;> (refine rdg_u rfl rfl rfl rfl (aeql rfl rfl) ?_) <;> (refine rd_pick_t rfl rfl ?_) <;> (refine rmove rfl ?_) <;> ((refine rd_split (t := 83) rfl (fun hc => ?_) (fun hc => ?_) <;> (try simp only [sB, ne_eq, reduceCtorEq] at hc) <;> (try (exfalso; omega)) <;> (refine gfieldp rfl rfl rfl rfl rfl ?_))) <;> (refine gloadp rfl rfl rfl rfl rfl rfl ?_) <;> (refine gmove rfl rfl rfl ?_) <;> (refine rdg_u rfl rfl rfl rfl (aidxn rfl rfl (by omega)) ?_) <;> (refine rdg_u rfl rfl rfl rfl (afieldi rfl rfl rfl) ?_) <;> (refine rdg_u rfl rfl rfl rfl (aloadi rfl rfl) ?_) <;> (refine rdg_u rfl rfl rfl rfl (aidxn rfl rfl (by (simp only [sL] <;> omega))) ?_) <;> (refine rdg_u rfl rfl rfl rfl (aloadw rfl rfl) ?_) <;> (refine gfieldp rfl rfl rfl rfl rfl ?_) <;> (refine gloadp rfl rfl rfl rfl rfl rfl ?_) <;> (refine gmove rfl rfl rfl ?_) <;> (refine rdg_u rfl rfl rfl rfl (aidxn rfl rfl (by omega)) ?_) <;> (refine rdg_u rfl rfl rfl rfl (afieldi rfl rfl rfl) ?_) <;> (refine rdg_u rfl rfl rfl rfl (aloadi rfl rfl) ?_) <;> (refine rdg_u rfl rfl rfl rfl (aidxn rfl rfl (by (simp only [sL] <;> omega))) ?_) <;> (refine rdg_u rfl rfl rfl rfl (aloadw rfl rfl) ?_) <;> (refine rdg_u rfl rfl rfl rfl (aeql rfl rfl) ?_) <;> (refine rd_pick_t rfl rfl ?_) <;> (refine rd_end (by kernel_rfl) ?_)) | (refine rgC 19 ?_; (refine sassign rfl ?_); apply jW) | exact ret_eq rfl rfl rfl))
         all_goals ((exfalso; grind))
        ·have hs2 : ¬ ((nth g.rules s).head = (nth g.rules r).head /\ nth (nth g.rules s).body (nat_lit 1) = nth (nth g.rules r).body (nat_lit 1)) := fun h => hsame (hso2.2 h)
         (repeat' (first | apply jA | apply jF | apply jH | apply jI | apply jN | (refine wp_cond rfl (fun hc => ?_) (fun hc => ?_) <;> (try simp only [sB, ne_eq, reduceCtorEq] at hc) <;> (try (exfalso; omega))) | (refine rgC 16 ?_; (refine smove rfl ?_); (refine smove rfl ?_); (refine slss rfl rfl ?_); apply jW) | (refine wp_draw (id := 18) 39 mixed (by kernel_rfl) (by kernel_rfl) rfl ?_ <;> (refine rd_u rfl rfl (aloadpw rfl rfl rfl rfl) ?_) <;> (refine rmove rfl ?_) <;> (refine rmove rfl ?_) <;> (refine rd_call rfl rfl zq1 zq5 (hxs) ?_) <;> (refine rd_u rfl rfl (ageq rfl rfl) ?_) <;> (refine rmove rfl ?_) <;> ((refine rd_split (t := 68) rfl (fun hc => ?_) (fun hc => ?_) <;> (try simp only [sB, ne_eq, reduceCtorEq] at hc) <;> (try (exfalso; omega)) <;> (refine gfieldp rfl rfl rfl rfl rfl ?_))) <;> (refine gloadp rfl rfl rfl rfl rfl rfl ?_) <;> (refine gmove rfl rfl rfl ?_) <;> (refine rdg_u rfl rfl rfl rfl (aidxn rfl rfl (by omega)) ?_) <;> (refine rdg_u rfl rfl rfl rfl (afieldi rfl rfl rfl) ?_) <;> (refine rdg_u rfl rfl rfl rfl (aloadi rfl rfl) ?_) <;> (refine gfieldp rfl rfl rfl rfl rfl ?_) <;> (refine gloadp rfl rfl rfl rfl rfl rfl ?_) <;> (refine gmove rfl rfl rfl ?_) <;> (refine rdg_u rfl rfl rfl rfl (aidxn rfl rfl (by omega)) ?_) <;> (refine rdg_u rfl rfl rfl rfl (afieldi rfl rfl rfl) ?_) <;> (refine rdg_u rfl rfl rfl rfl (aloadi rfl rfl) ?_) <;> (refine rdg_u rfl rfl rfl rfl (aeql rfl rfl) ?_) <;> (refine rd_pick_t rfl rfl ?_) <;> (refine rmove rfl ?_) <;> ((refine rd_split (t := 83) rfl (fun hc => ?_) (fun hc => ?_) <;> (try simp only [sB, ne_eq, reduceCtorEq] at hc) <;> (try (exfalso; omega)) <;> (first | refine rd_skip rfl rfl ?_ | refine gfieldp rfl rfl rfl rfl rfl ?_))) <;> (first | refine rd_skip rfl rfl ?_ | refine gloadp rfl rfl rfl rfl rfl rfl ?_) <;> (first | refine rd_skip rfl rfl ?_ | refine gmove rfl rfl rfl ?_) <;> (first | refine rd_skip rfl rfl ?_ | refine rdg_u rfl rfl rfl rfl (aidxn rfl rfl (by omega)) ?_) <;> (first | refine rd_skip rfl rfl ?_ | refine rdg_u rfl rfl rfl rfl (afieldi rfl rfl rfl) ?_) <;> (first | refine rd_skip rfl rfl ?_ | refine rdg_u rfl rfl rfl rfl (aloadi rfl rfl) ?_) <;> (first | refine rd_skip rfl rfl ?_ | refine rdg_u rfl rfl rfl rfl (aidxn rfl rfl (by (simp only [sL] <;> omega))) ?_) <;> (first | refine rd_skip rfl rfl ?_ | refine rdg_u rfl rfl rfl rfl (aloadw rfl rfl) ?_) <;> (first | refine rd_skip rfl rfl ?_ | refine gfieldp rfl rfl rfl rfl rfl ?_) <;> (first | refine rd_skip rfl rfl ?_ | refine gloadp rfl rfl rfl rfl rfl rfl ?_) <;> (first | refine rd_skip rfl rfl ?_ | refine gmove rfl rfl rfl ?_) <;> (first | refine rd_skip rfl rfl ?_ | refine rdg_u rfl rfl rfl rfl (aidxn rfl rfl (by omega)) ?_) <;> (first | refine rd_skip rfl rfl ?_ | refine rdg_u rfl rfl rfl rfl (afieldi rfl rfl rfl) ?_) <;> (first | refine rd_skip rfl rfl ?_ | refine rdg_u rfl rfl rfl rfl (aloadi rfl rfl) ?_) <;> (first | refine rd_skip rfl rfl ?_ | refine rdg_u rfl rfl rfl rfl (aidxn rfl rfl (by (simp only [sL] <;> omega))) ?_) <;> (first | refine rd_skip rfl rfl ?_ | refine rdg_u rfl rfl rfl rfl (aloadw rfl rfl) ?_) <;> (first | refine rd_skip rfl rfl ?_ | refine rdg_u rfl rfl rfl rfl (aeql rfl rfl) ?_) <;> (first | refine rd_pick_t rfl rfl ?_ | refine rd_pick_f rfl rfl ?_) <;> (refine rd_end (by kernel_rfl) ?_)) | (refine rgC 17 ?_; (refine smove rfl ?_); (refine sadd rfl rfl (by exact inr_i64_of (by omega)) ?_); (refine sassign rfl ?_); apply jW)))
         all_goals try (exfalso; grind)
         all_goals exact ⟨s + 1, ⟨by omega, by omega, fun j hj => by
          by_cases e : j = s
          ·subst e; simpa using hsame
          ·exact hall2 j (by omega)⟩, ⟨[0], ToR.S rfl (by repeat' (first | exact rt_nil | refine rt_t rfl rfl ?_ | refine rt_e rfl rfl ?_ | refine rt_p rfl rfl (by first | (simp [AV.bd, bdL, bdL_append]; done) | fail) ?_)) (by repeat' (first | exact ro_nil | refine ro_p rfl (by first | exact rfl | fail) zq5 ?_)) rfl (by (rw [hm]; exact rfl)) rfl zq4 zq3 (by (rw [hm]; exact nle rfl))⟩⟩
       ·have hsame : sameOp g l (nth g.rules r) (nth g.rules s) = false := by
         rw [Bool.eq_false_iff]; exact fun h => hbs (hso.1 h).1
        (repeat' (first | apply jA | apply jF | apply jH | apply jI | apply jN | (refine wp_cond rfl (fun hc => ?_) (fun hc => ?_) <;> (try simp only [sB, ne_eq, reduceCtorEq] at hc) <;> (try (exfalso; omega))) | (refine rgC 16 ?_; (refine smove rfl ?_); (refine smove rfl ?_); (refine slss rfl rfl ?_); apply jW) | (refine wp_draw (id := 18) 39 mixed (by kernel_rfl) (by kernel_rfl) rfl ?_ <;> (refine rd_u rfl rfl (aloadpw rfl rfl rfl rfl) ?_) <;> (refine rmove rfl ?_) <;> (refine rmove rfl ?_) <;> (refine rd_call rfl rfl zq1 zq5 (hxs) ?_) <;> (refine rd_u rfl rfl (ageq rfl rfl) ?_) <;> (refine rmove rfl ?_) <;> ((refine rd_split (t := 68) rfl (fun hc => ?_) (fun hc => ?_) <;> (try simp only [sB, ne_eq, reduceCtorEq] at hc) <;> (try (exfalso; omega)) <;> (refine rd_skip rfl rfl ?_))) <;> (refine rd_skip rfl rfl ?_) <;> (refine rd_skip rfl rfl ?_) <;> (refine rd_skip rfl rfl ?_) <;> (refine rd_skip rfl rfl ?_) <;> (refine rd_skip rfl rfl ?_) <;> (refine rd_skip rfl rfl ?_) <;> (refine rd_skip rfl rfl ?_) <;> (refine rd_skip rfl rfl ?_) <;> (refine rd_skip rfl rfl ?_) <;> (refine rd_skip rfl rfl ?_) <;> (refine rd_skip rfl rfl ?_) <;> (refine rd_skip rfl rfl ?_) <;> (refine rd_pick_f rfl rfl ?_) <;> (refine rmove rfl ?_) <;> (refine rd_skip rfl rfl ?_) <;> (refine rd_skip rfl rfl ?_) <;> (refine rd_skip rfl rfl ?_) <;> (refine rd_skip rfl rfl ?_) <;> (refine rd_skip rfl rfl ?_) <;> (refine rd_skip rfl rfl ?_) <;> (refine rd_skip rfl rfl ?_) <;> (refine rd_skip rfl rfl ?_) <;> (refine rd_skip rfl rfl ?_) <;> (refine rd_skip rfl rfl ?_) <;> (refine rd_skip rfl rfl ?_) <;> (refine rd_skip rfl rfl ?_) <;> (refine rd_skip rfl rfl ?_) <;> (refine rd_skip rfl rfl ?_) <;> (refine rd_skip rfl rfl ?_) <;> (refine rd_skip rfl rfl ?_) <;> (refine rd_skip rfl rfl ?_) <;> (refine rd_pick_f rfl rfl ?_) <;> (refine rd_end (by kernel_rfl) ?_)) | (refine rgC 17 ?_; (refine smove rfl ?_); (refine sadd rfl rfl (by exact inr_i64_of (by omega)) ?_); (refine sassign rfl ?_); apply jW)))
        all_goals try (exfalso; omega)
        all_goals exact ⟨s + 1, ⟨by omega, by omega, fun j hj => by
         by_cases e : j = s
         ·subst e; exact hsame
         ·exact hall2 j (by omega)⟩, ⟨[0], ToR.S rfl (by repeat' (first | exact rt_nil | refine rt_t rfl rfl ?_ | refine rt_e rfl rfl ?_ | refine rt_p rfl rfl (by first | (simp [AV.bd, bdL, bdL_append]; done) | fail) ?_)) (by repeat' (first | exact ro_nil | refine ro_p rfl (by first | exact rfl | fail) zq5 ?_)) rfl (by (rw [hm]; exact rfl)) rfl zq4 zq3 (by (rw [hm]; exact nle rfl))⟩⟩
      ·(repeat' (first | apply jA | apply jH | apply jJ | apply jL | apply jP | (refine wp_cond rfl (fun hc => ?_) (fun hc => ?_) <;> (try simp only [sB, ne_eq, reduceCtorEq] at hc) <;> (try (exfalso; omega))) | (refine rgC 16 ?_; (refine smove rfl ?_); (refine smove rfl ?_); (refine slss rfl rfl ?_); apply jW) | (refine rgC 13 ?_; (refine smove rfl ?_); (refine sadd rfl rfl (by exact inr_i64_of (by omega)) ?_); (refine sassign rfl ?_); apply jW)))
       have hcr : conflG g l r = false := by
        rw [hcd, List.any_eq_false]
        intro x hx
        obtain ⟨j, hj, e⟩ := List.getElem_of_mem hx
        rw [List.length_take] at hj
        rw [List.getElem_take] at e
        have := hall2 j (by omega)
        rw [nth_eq (show j < g.rules.length by omega), e] at this
        simp [this]
       exact ⟨r + 1, ⟨by omega, by omega, fun j hj => by
        by_cases e : j = r
        ·subst e; exact hcr
        ·exact hcf j (by omega)⟩, ⟨[0], ToR.S rfl (by repeat' (first | exact rt_nil | refine rt_t rfl rfl ?_ | refine rt_e rfl rfl ?_ | refine rt_p rfl rfl (by first | (simp [AV.bd, bdL, bdL_append]; done) | fail) ?_)) (by repeat' (first | exact ro_nil | refine ro_p rfl (by first | exact rfl | fail) zq5 ?_)) rfl (by (rw [hm]; exact rfl)) rfl zq4 zq3 (by (rw [hm]; exact nle rfl))⟩⟩
     ·have hcd : conflG g l r = (nth g.rules r).body.any fun t => decide (0 <= t) && decide (0 <= levelG g l t) := by unfold conflG; rw [if_neg hb]
      have hlvl := level20_fn g l hf
      (repeat' (first | apply jA | apply jF | apply jH | apply jI | (refine wp_cond rfl (fun hc => ?_) (fun hc => ?_) <;> (try simp only [sB, ne_eq, reduceCtorEq] at hc) <;> (try (exfalso; omega))) | (refine rgC 12 ?_; (refine smove rfl ?_); (refine sfieldp rfl rfl rfl ?_); (refine sloadp rfl rfl rfl rfl ?_); (refine slenm rfl rfl ?_); (refine slss rfl rfl ?_); apply jW) | (refine rgC 14 ?_; (refine sloadpw rfl rfl rfl rfl ?_); (refine smove rfl ?_); (refine smove rfl ?_); (refine sc_p rfl rfl zq1 zq5 (hx) ?_); (refine su (ageq rfl rfl) ?_); apply jW) | (refine rgC 20 ?_; (refine sassign rfl ?_); apply jW)))
      all_goals try (exfalso; omega)
      refine wp_loop (fun (k : Nat) => k <= (nth g.rules r).body.length /\ ((nth g.rules r).body.take k).any (fun t => decide (0 <= t) && decide (0 <= levelG g l t)) = false) (fun k => (nth g.rules r).body.length - k)
       (fun k => (S 131 [(1, levelsA l), (2, .ptr 0 4 0 0), (7, intA (r : Nat)), (9, intA (k : Nat))] 1 [(0, some (.arr 4 [gramA g]))])) 0 ⟨[0], ToR.S rfl (by repeat' (first | exact rt_nil | refine rt_t rfl rfl ?_ | refine rt_e rfl rfl ?_ | refine rt_p rfl rfl (by first | (simp [AV.bd, bdL, bdL_append]; done) | fail) ?_)) (by repeat' (first | exact ro_nil | refine ro_p rfl (by first | exact rfl | fail) zq5 ?_)) rfl (by (rw [hm]; exact rfl)) rfl zq4 zq3 (by (rw [hm]; exact nle rfl))⟩ ⟨Nat.zero_le _, rfl⟩ ?_
      rintro k ⟨hk, hallk⟩
      by_cases hkl : k < (nth g.rules r).body.length
      ·(repeat' (first | apply jA | apply jF | apply jH | apply jI | apply jK | apply jM | apply jN | apply jO | apply jS | (refine wp_cond rfl (fun hc => ?_) (fun hc => ?_) <;> (try simp only [sB, ne_eq, reduceCtorEq] at hc) <;> (try (exfalso; omega))) | (refine rgC 21 ?_; (refine smove rfl ?_); (refine sfieldp rfl rfl rfl ?_); (refine sloadp rfl rfl rfl rfl ?_); (refine smove rfl ?_); (refine sidxn rfl rfl (by omega) ?_); (refine su (afieldi rfl rfl rfl) ?_); (refine su (aloadi rfl rfl) ?_); (refine slenm rfl rfl ?_); (refine slss rfl rfl ?_); apply jW) | (refine rgC 23 ?_; (refine sfieldp rfl rfl rfl ?_); (refine sloadp rfl rfl rfl rfl ?_); (refine smove rfl ?_); (refine sidxn rfl rfl (by omega) ?_); (refine su (afieldi rfl rfl rfl) ?_); (refine su (aloadi rfl rfl) ?_); (refine smove rfl ?_); (refine sidxn rfl rfl (by omega) ?_); (refine sloadw rfl rfl ?_); (refine sassign rfl ?_); apply jW) | (refine rgC 24 ?_; (refine smove rfl ?_); (refine su (ageq rfl rfl) ?_); (refine smove rfl ?_); (refine sg (gq_vt rfl rfl) (fun he => ap_load_pw (rq_p rfl rfl) rfl rfl rfl) ?_); (refine sg (gq_vt rfl rfl) (fun he => ap_move (rq_p rfl rfl)) ?_); (refine sg (gq_vt rfl rfl) (fun he => ap_move (rq_p rfl rfl)) ?_); (refine sg_p (gq_vt rfl rfl) (fun he => ⟨(rq_p rfl rfl), (RqL.cons (rq_c rfl rfl) (RqL.cons (rq_c rfl rfl) (RqL.cons (rq_c rfl rfl) (RqL.nil)))), zq1, zq5, hlvl _⟩) ?_); (refine sg (gq_vt rfl rfl) (fun he => ap_geq (rq_c rfl rfl) (rq_p rfl rfl)) ?_); (refine su (ap_and (rq_p rfl rfl) (rq_c rfl rfl)) ?_); apply jW) | (refine rgC 25 ?_; (refine sassign rfl ?_); apply jW) | (refine rgC 22 ?_; (refine smove rfl ?_); (refine sadd rfl rfl (by exact inr_i64_of (by omega)) ?_); (refine sassign rfl ?_); apply jW) | refine ret_i rfl ?_))
       ·rw [confl_any hrl (by rw [hcd, List.any_eq_true]; exact ⟨_, nth_mem hkl, by simp [hc.1, hc.2]⟩), if_pos rfl]
       ·exact ⟨k + 1, ⟨by omega, by omega, take_any_succ hkl hallk (by
         rw [Bool.and_eq_false_iff, decide_eq_false_iff_not, decide_eq_false_iff_not]
         omega)⟩, ⟨[0], ToR.S rfl (by repeat' (first | exact rt_nil | refine rt_t rfl rfl ?_ | refine rt_e rfl rfl ?_ | refine rt_p rfl rfl (by first | (simp [AV.bd, bdL, bdL_append]; done) | fail) ?_)) (by repeat' (first | exact ro_nil | refine ro_p rfl (by first | exact rfl | fail) zq5 ?_)) rfl (by (rw [hm]; exact rfl)) rfl zq4 zq3 (by (rw [hm]; exact nle rfl))⟩⟩
      ·(repeat' (first | apply jA | apply jH | apply jJ | apply jL | apply jN | apply jP | (refine wp_cond rfl (fun hc => ?_) (fun hc => ?_) <;> (try simp only [sB, ne_eq, reduceCtorEq] at hc) <;> (try (exfalso; omega))) | (refine rgC 21 ?_; (refine smove rfl ?_); (refine sfieldp rfl rfl rfl ?_); (refine sloadp rfl rfl rfl rfl ?_); (refine smove rfl ?_); (refine sidxn rfl rfl (by omega) ?_); (refine su (afieldi rfl rfl rfl) ?_); (refine su (aloadi rfl rfl) ?_); (refine slenm rfl rfl ?_); (refine slss rfl rfl ?_); apply jW) | (refine rgC 13 ?_; (refine smove rfl ?_); (refine sadd rfl rfl (by exact inr_i64_of (by omega)) ?_); (refine sassign rfl ?_); apply jW)))
       rw [List.take_of_length_le (by omega), <- hcd] at hallk
       exact ⟨r + 1, ⟨by omega, by omega, fun j hj => by
        by_cases e : j = r
        ·subst e; exact hallk
        ·exact hcf j (by omega)⟩, ⟨[0], ToR.S rfl (by repeat' (first | exact rt_nil | refine rt_t rfl rfl ?_ | refine rt_e rfl rfl ?_ | refine rt_p rfl rfl (by first | (simp [AV.bd, bdL, bdL_append]; done) | fail) ?_)) (by repeat' (first | exact ro_nil | refine ro_p rfl (by first | exact rfl | fail) zq5 ?_)) rfl (by (rw [hm]; exact rfl)) rfl zq4 zq3 (by (rw [hm]; exact nle rfl))⟩⟩
    ·have hno : (List.range g.rules.length).any (conflG g l) = false := by
      rw [List.any_eq_false]
      intro j hj
      have := hcf j (by have := List.mem_range.1 hj; omega)
      simp [this]
     rw [hno, if_neg (by simp)]
     (repeat' (first | apply jA | apply jH | apply jJ | apply jK | apply jL | apply jP | apply jS | (refine wp_cond rfl (fun hc => ?_) (fun hc => ?_) <;> (try simp only [sB, ne_eq, reduceCtorEq] at hc) <;> (try (exfalso; omega))) | (refine rgC 12 ?_; (refine smove rfl ?_); (refine sfieldp rfl rfl rfl ?_); (refine sloadp rfl rfl rfl rfl ?_); (refine slenm rfl rfl ?_); (refine slss rfl rfl ?_); apply jW) | (refine rgC 26 ?_; (refine sassign rfl ?_); apply jW) | exact ret_eq rfl rfl rfl))
end Go.Lg
namespace Go.Lg
open Go.Proofs
attribute [local irreducible] Ap Rq asemC WP RunD Ret Gq thenA inBlockA bodyQ noGotoA RqL RqP OpP
attribute [local simp] AV.cells
theorem nameOk_szY {x : ByteArray} (h : nameOk x = true) : x.size <= 48 := by
 simp only [nameOk, Bool.and_eq_true, decide_eq_true_eq] at h
 exact h.1.2
def stratA (x : Gram × List Int × Int) : AV := .tup [gramA x.1, intsA x.2.1, intA x.2.2]
@[simp] theorem bd_stratA (n : Nat) (x : Gram × List Int × Int) : (stratA x).bd n = true := by simp [stratA, AV.bd, bdL]
@[simp] theorem bdL_intsA2 (n : Nat) (l : List (List Int)) : bdL n (l.map intsA) = true := bdL_map (fun _ => by simp [intsA, AV.bd, bdL]) l
@[simp] theorem bdL_replI (n k : Nat) (z : Int) : bdL n (List.replicate k (intA z)) = true := by
 rw [<- List.map_replicate]
 exact bdL_map (fun _ => by simp) _
def useI (g : Gram) (l : List GLe) (e : Nat) : List Int := (useL g l e).map fun (i : Nat) => (i : Int)
def chnTo (g : Gram) (l : List GLe) (k : Nat) : List (List Int) := (List.range k).map (chnG g l)
def lvsTo (g : Gram) (l : List GLe) (k : Nat) : List (List Int) := (List.range k).map (useI g l)
theorem chnTo_succ (g : Gram) (l : List GLe) (k : Nat) : chnTo g l (k + 1) = chnTo g l k ++ [chnG g l k] := by simp [chnTo, List.range_succ]
theorem lvsTo_succ (g : Gram) (l : List GLe) (k : Nat) : lvsTo g l (k + 1) = lvsTo g l k ++ [useI g l k] := by simp [lvsTo, List.range_succ]
theorem chnTo_len (g : Gram) (l : List GLe) (k : Nat) : (chnTo g l k).length = k := by simp [chnTo]
theorem lvsTo_len (g : Gram) (l : List GLe) (k : Nat) : (lvsTo g l k).length = k := by simp [lvsTo]
def chnP (g : Gram) (l : List GLe) (e i : Nat) : List Int := (e : Int) :: (List.range i).map fun (j : Nat) => ((offN g l e + j : Nat) : Int)
theorem chnP_succ (g : Gram) (l : List GLe) (e i : Nat) : chnP g l e (i + 1) = chnP g l e i ++ [((offN g l e + i : Nat) : Int)] := by simp [chnP, List.range_succ]
theorem chnP_len (g : Gram) (l : List GLe) (e i : Nat) : (chnP g l e i).length = i + 1 := by simp [chnP]
def namP (g : Gram) (l : List GLe) (e i : Nat) : List ByteArray := namsG g l e ++ (List.range i).map fun (i : Nat) => nth g.nonterms e ++ ⟨#[64]⟩ ++ tx (Lib.decDigits (i + 2))
theorem namP_succ (g : Gram) (l : List GLe) (e i : Nat) : namP g l e (i + 1) = namP g l e i ++ [nth g.nonterms e ++ ⟨#[64]⟩ ++ tx (Lib.decDigits (i + 2))] := by simp [namP, List.range_succ]
theorem namP_all (g : Gram) (l : List GLe) (e : Nat) : namP g l e (useL g l e).length = namsG g l (e + 1) := by
 rw [namsG_succ]
 unfold namP namG
 congr 1
 done
theorem namP_len (g : Gram) (l : List GLe) (e i : Nat) : (namP g l e i).length = offN g l e + i := by
 unfold namP
 rw [List.length_append, namsG_len]; simp
theorem offN_bd {g : Gram} {l : List GLe} (hl : l.length <= 10) (e : Nat) : offN g l e <= g.nonterms.length + 10 * e := by
 induction e with
 | zero => exact Nat.le_refl _
 | succ e ih => have := useL_len g l e; rw [offN]; omega
theorem strat20_no {g : Gram} (l : List GLe) (hf : FewL l) (hc0 : checkG g l ≠ 0) : Fn Tryd.prog 7 [gramA g, levelsA l] (stratA (stratR g l)) := by
 have hck := check20_fn g l hf
 have hR : stratR g l = (zG, [], checkG g l) := by unfold stratR; rw [if_neg hc0]
 have hA : stratA (stratR g l) = .tup [.agg [.sl 1 [], .sl 1 [], intA 0, .sl 3 []], .sl 1 [], intA (checkG g l)] := by rw [hR]; rfl
 rw [hA]
 generalize checkG g l = e at *
 refine Fn.intro rfl (by kernel_rfl) Tryd.func7 rfl rfl Tryd.ntmps7 (by exact nle rfl) ?_; intro Γ hm
 (repeat' (first | apply jA | apply jH | apply jK | apply jM | apply jS | (refine wp_cond rfl (fun hc => ?_) (fun hc => ?_) <;> (try simp only [sB, ne_eq, reduceCtorEq] at hc) <;> (try (exfalso; omega))) | (refine rgC 0 ?_; (refine se_box rfl (by exact ⟨rfl, rfl⟩) ?_); (refine se_alloc rfl ?_); (refine sassign rfl ?_); (refine sassign rfl ?_); apply jW) | (refine rgC 1 ?_; (refine sloadpw rfl rfl rfl rfl ?_); (refine smove rfl ?_); (refine sc_p rfl rfl zq1 zq5 (hck) ?_); (refine sassign rfl ?_); apply jW) | (refine rgC 2 ?_; (refine smove rfl ?_); (refine su (aneq rfl rfl) ?_); apply jW) | (refine rgC 3 ?_; (refine su (ap_build (RqP.nil) rfl) ?_); (refine smove rfl ?_); (refine se_store_b rfl rfl rfl rfl ?_); (refine sassign rfl ?_); (refine sassign rfl ?_); apply jW)))
 all_goals try (exfalso; omega)
 exact ret_many (.cellT rfl rfl rfl rfl (.tmp rfl (.tmp rfl .nil))) (nle rfl) (by first | ((repeat' first | exact FzL.nil | refine FzL.cons ?_ ?_ | exact Fz.nil | (exact Fz.reflp (by simp [AV.bd, bdL, bdL_append])) | refine Fz.aggL ?_); done) | fail)
theorem useL_monoY {g : Gram} {l : List GLe} {e i j : Nat} (hij : i < j) (hj : j < (useL g l e).length) : nth (useL g l e) i < nth (useL g l e) j := by
 have h : (useL g l e).Pairwise (· < ·) := List.pairwise_lt_range.filter _
 rw [List.pairwise_iff_getElem] at h
 rw [nth_eq (by omega), nth_eq hj]
 exact h i j (by omega) hj hij
theorem idx_pos {g : Gram} {l : List GLe} {e i : Nat} (h : i ∈ useL g l e) : indexP (fun x => decide (x = (i : Int))) (useI g l e) = ((posU g l e (i : Int) : Nat) : Int) /\ posU g l e (i : Int) < (useL g l e).length := by
 obtain ⟨h1, h2⟩ := posU_is g l h
 have hl : (useI g l e).length = (useL g l e).length := by simp [useI]
 have hn : ∀ j, j < (useL g l e).length -> nth (useI g l e) j = ((nth (useL g l e) j : Nat) : Int) := fun j hj => by
  unfold useI
  rw [nth_mapP hj]
 refine ⟨indexP_is (by omega) (by rw [hn _ h1, h2]; simp) fun j hj => ?_, h1⟩
 rw [hn j (by omega)]
 have := useL_monoY hj h1
 exact decide_eq_false (by omega)
theorem take_chn {g : Gram} {l : List GLe} {e i : Nat} : chnP g l e (useL g l e).length = chnG g l e := rfl
theorem set3 {B : List Int} (h : B.length = 3) (x y : Int) : (B.set 0 x).set 2 y = [x, nth B 1, y] := by
 match B, h with
 | [a, b, c], _ => rfl
theorem set3a {B : List Int} (h : B.length = 3) (x y z : Int) : ((B.set 0 x).set 2 y).set 0 z = [z, nth B 1, y] := by
 match B, h with
 | [a, b, c], _ => rfl
theorem set3b {B : List Int} (h : B.length = 3) (x y z : Int) : ((B.set 0 x).set 2 y).set 2 z = [x, nth B 1, z] := by
 match B, h with
 | [a, b, c], _ => rfl
def bodN (q s : Int) (B : List Int) : List Int := (if nth B 0 = s then B.set 0 q else B)
def bodM (q s : Int) (B : List Int) : List Int := if nth B (B.length - 1) = s then (bodN q s B).set (B.length - 1) q else bodN q s B
theorem bodM_is (q s : Int) (B : List Int) (h : 0 < B.length) : bodM q s B = (List.range B.length).map fun k => if (k = 0 \/ k + 1 = B.length) /\ nth B k = s then q else nth B k := by
 have hl : (bodN q s B).length = B.length := by unfold bodN; split <;> simp
 have hn : ∀ j, j < B.length -> nth (bodN q s B) j = if j = 0 /\ nth B j = s then q else nth B j := fun j hj => by
  unfold bodN
  split
  ·rename_i h0
   rw [nth_set h]
   by_cases e : 0 = j
   ·subst e; rw [if_pos rfl, if_pos ⟨rfl, h0⟩]
   ·rw [if_neg e, if_neg (fun h => e h.1.symm)]
  ·rename_i h0
   rw [if_neg]
   rintro ⟨rfl, h1⟩
   exact h0 h1
 have hl2 : (bodM q s B).length = B.length := by unfold bodM; split <;> simp [hl]
 refine nth_ext (by rw [hl2]; simp) fun j hj => ?_
 rw [hl2] at hj
 rw [nth_range hj]
 unfold bodM
 split
 ·rename_i h1
  rw [nth_set (by rw [hl]; omega), hn j hj]
  by_cases e : B.length - 1 = j
  ·subst e
   rw [if_pos rfl, if_pos ⟨.inr (by omega), h1⟩]
  ·rw [if_neg e]
   by_cases e2 : j = 0
   ·subst e2
    by_cases e3 : nth B 0 = s
    ·rw [if_pos ⟨rfl, e3⟩, if_pos ⟨.inl rfl, e3⟩]
    ·rw [if_neg (fun h => e3 h.2), if_neg (fun h => e3 h.2)]
   ·rw [if_neg (fun h => e2 h.1), if_neg]
    rintro ⟨h | h, _⟩ <;> omega
 ·rename_i h1
  rw [hn j hj]
  by_cases e2 : j = 0
  ·subst e2
   by_cases e3 : nth B 0 = s
   ·rw [if_pos ⟨rfl, e3⟩, if_pos ⟨.inl rfl, e3⟩]
   ·rw [if_neg (fun h => e3 h.2), if_neg (fun h => e3 h.2)]
  ·rw [if_neg (fun h => e2 h.1), if_neg]
   rintro ⟨h | h, h3⟩
   ·omega
   ·rw [show B.length - 1 = j by omega] at h1
    exact h1 h3
theorem bod_same {B : List Int} {s : Int} : B = (List.range B.length).map fun k => if (k = 0 \/ k + 1 = B.length) /\ nth B k = s then s else nth B k := by
 refine nth_ext (by simp) fun j hj => ?_
 rw [nth_range hj]
 split
 ·rename_i h; exact h.2
 ·rfl
end Go.Lg
namespace Go.Lg
theorem check_facts {g : Gram} {l : List GLe} (h : checkG g l = 0) : GVal g /\ levsOk l = true /\ noTok g l = true /\ ∀ i, i < g.rules.length -> conflG g l i = false := by
 unfold checkG at h
 split at h
 ·rename_i h1
  rw [Bool.and_eq_true] at h1
  split at h
  ·rename_i h2
   split at h
   ·omega
   ·rename_i h3
    refine ⟨validG_iff.1 h1.1, h1.2, h2, fun i hi => ?_⟩
    rw [Bool.not_eq_true, List.any_eq_false] at h3
    have := h3 i (List.mem_range.2 hi)
    simpa using this
  ·omega
 ·omega
open Go.Proofs
attribute [local irreducible] Ap Rq asemC WP RunD Ret Gq thenA inBlockA bodyQ noGotoA RqL RqP OpP
attribute [local simp] AV.cells
def rulTo (g : Gram) (l : List GLe) (r : Nat) : List Rul := (g.rules.take r).map (ruleS g l)
theorem rulTo_succ {g : Gram} (l : List GLe) {r : Nat} (hr : r < g.rules.length) : rulTo g l (r + 1) = rulTo g l r ++ [ruleS g l (nth g.rules r)] := by
 unfold rulTo; rw [take_succ_nth hr, List.map_append]; rfl
theorem rulTo_len {g : Gram} (l : List GLe) {r : Nat} (hr : r <= g.rules.length) : (rulTo g l r).length = r := by unfold rulTo; rw [List.length_map, List.length_take]; omega
def froTo (r : Nat) : List Int := (List.range r).map fun (i : Nat) => (i : Int)
theorem froTo_succ (r : Nat) : froTo (r + 1) = froTo r ++ [(r : Int)] := by simp [froTo, List.range_succ]
theorem froTo_len (r : Nat) : (froTo r).length = r := by simp [froTo]
def untP (g : Gram) (l : List GLe) (e i : Nat) : List Rul := (List.range i).map fun i => ⟨nth (chnG g l e) i, [-1 - nth (chnG g l e) (i + 1)], 0⟩
theorem untP_succ (g : Gram) (l : List GLe) (e i : Nat) : untP g l e (i + 1) = untP g l e i ++ [⟨nth (chnG g l e) i, [-1 - nth (chnG g l e) (i + 1)], 0⟩] := by simp [untP, List.range_succ]
theorem untP_len (g : Gram) (l : List GLe) (e i : Nat) : (untP g l e i).length = i := by simp [untP]
theorem unitsS_bd {g : Gram} {l : List GLe} (hl : l.length <= 10) (e : Nat) : (unitsS g l e).length <= 10 * e := by
 induction e with
 | zero => simp [unitsS]
 | succ e ih => have := useL_len g l e; rw [unitsS_succ, List.length_append, unitS_len]; omega
theorem strat20_yes {g : Gram} (l : List GLe) (hf : FewL l) (hc0 : checkG g l = 0) : Fn Tryd.prog 7 [gramA g, levelsA l] (stratA (stratR g l)) := by
 have hck := check20_fn g l hf
 have hv := (check_facts hc0).1
 have hval := validG_iff.2 hv
 have hnm := (NVal.of hval).nm
 have hfn := hf.n
 have hn2 := hv.n2
 have hr2 := hv.r2
 rw [hc0] at hck
 have hused := fun e => used20_fn hv l hf e
 have hbin := fun r hr => binary20_fn hv l hf r hr
 refine Fn.intro (by simp [AV.bd, bdL, bdL_append]) (by kernel_rfl) Tryd.func7 rfl rfl Tryd.ntmps7 (by exact nle rfl) ?_; intro Γ hm
 (repeat' (first | apply jA | apply jF | apply jH | apply jI | (refine wp_cond rfl (fun hc => ?_) (fun hc => ?_) <;> (try simp only [sB, ne_eq, reduceCtorEq] at hc) <;> (try (exfalso; omega))) | (refine rgC 0 ?_; (refine se_box rfl (by exact ⟨rfl, rfl⟩) ?_); (refine se_alloc rfl ?_); (refine sassign rfl ?_); (refine sassign rfl ?_); apply jW) | (refine rgC 1 ?_; (refine sloadpw rfl rfl rfl rfl ?_); (refine smove rfl ?_); (refine sc_p rfl rfl zq1 zq5 (hck) ?_); (refine sassign rfl ?_); apply jW) | (refine rgC 2 ?_; (refine smove rfl ?_); (refine su (aneq rfl rfl) ?_); apply jW) | (refine rgC 4 ?_; (refine se_lit0 ?_); (refine sfieldp rfl rfl rfl ?_); (refine sloadp rfl rfl rfl rfl ?_); (refine se_appE rfl rfl rfl rfl rfl rfl (by (simp only [sL] <;> omega)) ?_); (refine sassign rfl ?_); apply jW) | (refine rgC 5 ?_; (refine sassign rfl ?_); (refine sassign rfl ?_); apply jW) | (refine rgC 6 ?_; (refine sassign rfl ?_); apply jW)))
 all_goals try (exfalso; simp at hc; done)
 refine wp_nil 9 1 rfl ?_
 refine wp_nil 10 1 rfl ?_
 refine wp_loop (fun (e : Nat) => e <= g.nonterms.length) (fun e => g.nonterms.length - e)
  (fun e => (S 270 [(1, levelsA l), (2, .ptr 0 4 0 0), (4, .ptr 1 4 0 0), (8, .ref 2 1 0 (namsG g l e).length), (9, .ref 3 1 0 (chnTo g l e).length), (10, .ref 4 1 0 (lvsTo g l e).length), (11, intA (e : Nat))] 5 [(0, some (.arr 4 [gramA g])), (1, some (.arr 4 [.agg [.val (.slice none 0 0), .val (.slice none 0 0), intA 0, .val (.slice none 0 0)]])), (2, some (.arr 1 ((namsG g l e).map strA))), (3, some (.arr 1 ((chnTo g l e).map intsA))), (4, some (.arr 1 ((lvsTo g l e).map intsA)))])) 0 ?_ (Nat.zero_le _) ?_
 ·rw [show (namsG g l 0).length = (g.nonterms.map strA).length by simp [namsG], show namsG g l 0 = g.nonterms by simp [namsG]]
  exact ⟨[0, 1, 3, 4, 5], ToR.S rfl (by repeat' (first | exact rt_nil | refine rt_r rfl rfl ?_ | refine rt_t rfl rfl ?_ | refine rt_e rfl rfl ?_ | refine rt_p rfl rfl (by first | (simp [AV.bd, bdL, bdL_append]; done) | fail) ?_)) (by repeat' (first | exact ro_nil | refine ro_e rfl rfl ?_ | refine ro_p rfl (by first | exact rfl | fail) (by first | exact bdL_map (fun _ => by exact rfl) _ | (simp [bdL, bdL_append, AV.bd]; done) | fail) ?_)) rfl (by (rw [hm]; exact rfl)) rfl zq4 (by repeat' (first | exact True.intro | exact rfl | refine And.intro ?_ ?_ | exact bdL_map (fun _ => by exact rfl) _ | (simp [bdOq, bdL, bdL_append, AV.bd]; done))) (by (rw [hm]; exact nle rfl))⟩
 intro e he
 have hoff := offN_bd (g := g) (l := l) hfn e
 have hnl := namsG_len g l e
 have hcl := chnTo_len g l e
 have hll := lvsTo_len g l e
 by_cases hlt : e < g.nonterms.length
 ·skip
  have hue := hused e
  have hul := useL_len g l e
  have hui : (useI g l e).length = (useL g l e).length := by simp [useI]
  rw [show ((useL g l e).map fun (i : Nat) => (i : Int)) = useI g l e from rfl] at hue
  (repeat' (first | apply jA | apply jF | apply jH | apply jI | (refine wp_cond rfl (fun hc => ?_) (fun hc => ?_) <;> (try simp only [sB, ne_eq, reduceCtorEq] at hc) <;> (try (exfalso; omega))) | (refine rgC 7 ?_; (refine smove rfl ?_); (refine sfieldp rfl rfl rfl ?_); (refine sloadp rfl rfl rfl rfl ?_); (refine slenm rfl rfl ?_); (refine slss rfl rfl ?_); apply jW) | (refine rgC 9 ?_; (refine sloadpw rfl rfl rfl rfl ?_); (refine smove rfl ?_); (refine smove rfl ?_); (refine sc_p rfl rfl zq1 zq5 (hue) ?_); (refine sassign rfl ?_); apply jW) | (refine rgC 10 ?_; (refine smove rfl ?_); (refine se_lit (OpP.cons rfl (OpP.nil)) rfl rfl rfl rfl rfl rfl ?_); (refine sassign rfl ?_); apply jW) | (refine rgC 11 ?_; (refine sassign rfl ?_); apply jW)))
  refine wp_loop (fun (i : Nat) => i <= (useI g l e).length) (fun i => (useI g l e).length - i)
   (fun i => (S 270 [(1, levelsA l), (2, .ptr 0 4 0 0), (4, .ptr 1 4 0 0), (8, .ref 2 1 0 (namP g l e i).length), (9, .ref 3 1 0 (chnTo g l e).length), (10, .ref 4 1 0 (lvsTo g l e).length), (11, intA (e : Nat)), (12, intsA (useI g l e)), (13, .ref 5 1 0 (chnP g l e i).length), (14, intA (i : Nat))] 6 [(0, some (.arr 4 [gramA g])), (1, some (.arr 4 [.agg [.val (.slice none 0 0), .val (.slice none 0 0), intA 0, .val (.slice none 0 0)]])), (2, some (.arr 1 ((namP g l e i).map strA))), (3, some (.arr 1 ((chnTo g l e).map intsA))), (4, some (.arr 1 ((lvsTo g l e).map intsA))), (5, some (.arr 1 ((chnP g l e i).map intA)))])) 0 ?_ (Nat.zero_le _) ?_
  ·rw [show namP g l e 0 = namsG g l e by simp [namP]]
   exact ⟨[0, 1, 2, 3, 4, 5], ToR.S rfl (by repeat' (first | exact rt_nil | refine rt_r rfl rfl ?_ | refine rt_t rfl rfl ?_ | refine rt_e rfl rfl ?_ | refine rt_p rfl rfl (by first | (simp [AV.bd, bdL, bdL_append]; done) | fail) ?_)) (by repeat' (first | exact ro_nil | refine ro_e rfl rfl ?_ | refine ro_p rfl (by first | exact rfl | fail) (by first | exact bdL_map (fun _ => by first | exact rfl | simp [AV.bd, bdL, bdL_append]) _ | (simp [bdL, bdL_append, AV.bd]; done) | fail) ?_)) rfl (by (rw [hm]; exact rfl)) rfl zq4 (by repeat' (first | exact True.intro | exact rfl | refine And.intro ?_ ?_ | exact bdL_map (fun _ => by first | exact rfl | simp [AV.bd, bdL, bdL_append]) _ | (simp [bdOq, bdL, bdL_append, AV.bd]; done))) (by (rw [hm]; exact nle rfl))⟩
  intro i hi
  have hnpl := namP_len g l e i
  have hcpl := chnP_len g l e i
  by_cases hil : i < (useI g l e).length
  ·have hns := namP_succ g l e i
   have hcs := chnP_succ g l e i
   have hd := decimal20_fn (i + 2) (by omega)
   have hdl := dd_len (i + 2) (by omega)
   have hds := tx_size (Lib.decDigits (i + 2))
   have hne := (nameOk_szY (hnm _ (List.mem_append_right _ (nth_mem hlt))))
   rw [show ((i + 2 : Nat) : Int) = (i : Int) + 2 by omega] at hd
   rw [show ((offN g l e + i : Nat) : Int) = ((namP g l e i).length : Nat) by omega] at hcs
   (repeat' (first | apply jA | apply jF | apply jH | apply jI | apply jN | (refine wp_cond rfl (fun hc => ?_) (fun hc => ?_) <;> (try simp only [sB, ne_eq, reduceCtorEq] at hc) <;> (try (exfalso; omega))) | (refine rgC 12 ?_; (refine smove rfl ?_); (refine smove rfl ?_); (refine slenm rfl rfl ?_); (refine slss rfl rfl ?_); apply jW) | (refine rgC 14 ?_; (refine smove rfl ?_); (refine smove rfl ?_); (refine su (alenr rfl rfl) ?_); (refine se_lit (OpP.cons rfl (OpP.nil)) rfl rfl rfl rfl rfl rfl ?_); (refine se_app1 rfl rfl rfl rfl rfl rfl rfl rfl (by omega) ?_); (refine sassign rfl ?_); apply jW) | (refine wp_draw (id := 15) 14 mixed (by kernel_rfl) (by kernel_rfl) rfl ?_ <;> (refine rmove rfl ?_) <;> (refine rfieldp rfl rfl rfl ?_) <;> (refine rloadp rfl rfl rfl rfl ?_) <;> (refine rmove rfl ?_) <;> (refine rd_u rfl rfl (aidxn rfl rfl (by omega)) ?_) <;> (refine rd_u rfl rfl (aloadw rfl rfl) ?_) <;> (refine rd_u rfl rfl (acat rfl rfl (by (simp only [bsz, sZ] <;> omega))) ?_) <;> (refine rmove rfl ?_) <;> (refine rd_u rfl rfl (aadd rfl rfl (by exact inr_i64_of (by omega))) ?_) <;> (refine rd_call rfl rfl zq1 zq5 (hd) ?_) <;> (refine rd_u rfl rfl (acat rfl rfl (by (simp only [bsz, sZ] <;> omega))) ?_) <;> (refine rd_lit (OpP.cons rfl (OpP.nil)) rfl rfl rfl rfl rfl rfl ?_) <;> (refine rd_app1 rfl rfl rfl rfl rfl rfl rfl rfl (by omega) ?_) <;> (refine rd_u rfl rfl (aassign rfl) ?_) <;> (refine rd_end (by kernel_rfl) ?_)) | (refine rgC 13 ?_; (refine smove rfl ?_); (refine sadd rfl rfl (by exact inr_i64_of (by omega)) ?_); (refine sassign rfl ?_); apply jW)))
   refine ⟨i + 1, ⟨by omega, by omega⟩, ?_⟩
   rw [hns, hcs]
   exact ⟨[0, 1, 20, 3, 4, 7], ToR.S rfl (by repeat' (first | exact rt_nil | refine rt_r rfl rfl ?_ | refine rt_t rfl rfl ?_ | refine rt_e rfl rfl ?_ | refine rt_p rfl rfl (by first | (simp [AV.bd, bdL, bdL_append]; done) | fail) ?_)) (by repeat' (first | exact ro_nil | refine ro_e rfl rfl ?_ | refine ro_p rfl (by first | exact rfl | fail) (by first | exact bdL_map (fun _ => by first | exact rfl | simp [AV.bd, bdL, bdL_append]) _ | (simp [bdL, bdL_append, AV.bd]; done) | fail) ?_)) rfl (by (rw [hm]; exact rfl)) rfl zq4 (by repeat' (first | exact True.intro | exact rfl | refine And.intro ?_ ?_ | exact bdL_map (fun _ => by first | exact rfl | simp [AV.bd, bdL, bdL_append]) _ | (simp [bdOq, bdL, bdL_append, AV.bd]; done))) (by (rw [hm]; exact nle rfl))⟩
  ·have hi2 : i = (useL g l e).length := by omega
   subst hi2
   rw [take_chn, namP_all]
   have hct := chnTo_succ g l e
   have hlt2 := lvsTo_succ g l e
   refine wp_frz (f := intA) 13 hm rfl rfl rfl (fun _ => rfl) (fun _ => rfl) ?_
   (repeat' (first | apply jA | apply jH | apply jJ | apply jL | apply jN | apply jP | (refine wp_cond rfl (fun hc => ?_) (fun hc => ?_) <;> (try simp only [sB, ne_eq, reduceCtorEq] at hc) <;> (try (exfalso; omega))) | (refine rgC 12 ?_; (refine smove rfl ?_); (refine smove rfl ?_); (refine slenm rfl rfl ?_); (refine slss rfl rfl ?_); apply jW) | (refine rgC 16 ?_; (refine smove rfl ?_); (refine smove rfl ?_); (refine se_lit (OpP.cons rfl (OpP.nil)) rfl rfl rfl rfl rfl rfl ?_); (refine se_app1 rfl rfl rfl rfl rfl rfl rfl rfl (by omega) ?_); (refine smove rfl ?_); (refine smove rfl ?_); (refine se_lit (OpP.cons rfl (OpP.nil)) rfl rfl rfl rfl rfl rfl ?_); (refine se_app1 rfl rfl rfl rfl rfl rfl rfl rfl (by omega) ?_); (refine sassign rfl ?_); (refine sassign rfl ?_); apply jW) | (refine rgC 8 ?_; (refine smove rfl ?_); (refine sadd rfl rfl (by exact inr_i64_of (by omega)) ?_); (refine sassign rfl ?_); apply jW)))
   refine ⟨e + 1, ⟨by omega, by omega⟩, ?_⟩
   rw [hct, hlt2]
   exact ⟨[0, 1, 2, 7, 9], ToR.S rfl (by repeat' (first | exact rt_nil | refine rt_r rfl rfl ?_ | refine rt_t rfl rfl ?_ | refine rt_e rfl rfl ?_ | refine rt_p rfl rfl (by first | (simp [AV.bd, bdL, bdL_append]; done) | fail) ?_)) (by repeat' (first | exact ro_nil | refine ro_e rfl rfl ?_ | refine ro_p rfl (by first | exact rfl | fail) (by first | exact bdL_map (fun _ => by first | exact rfl | simp [AV.bd, bdL, bdL_append]) _ | (simp [bdL, bdL_append, AV.bd]; done) | fail) ?_)) rfl (by (rw [hm]; exact rfl)) rfl zq4 (by repeat' (first | exact True.intro | exact rfl | refine And.intro ?_ ?_ | exact bdL_map (fun _ => by first | exact rfl | simp [AV.bd, bdL, bdL_append]) _ | (simp [bdOq, bdL, bdL_append, AV.bd]; done))) (by (rw [hm]; exact nle rfl))⟩
   exact 0
 ·obtain rfl : e = g.nonterms.length := by omega
  refine wp_frz (f := strA) 8 hm rfl rfl rfl (fun _ => rfl) (fun _ => rfl) ?_
  refine wp_frz (f := intsA) 9 hm rfl rfl rfl (fun _ => by simp [intsA, AV.bd, bdL]) (fun _ => rfl) ?_
  refine wp_frz (f := intsA) 10 hm rfl rfl rfl (fun _ => by simp [intsA, AV.bd, bdL]) (fun _ => rfl) ?_
  (repeat' (first | apply jA | apply jF | apply jH | apply jJ | apply jL | apply jP | (refine wp_cond rfl (fun hc => ?_) (fun hc => ?_) <;> (try simp only [sB, ne_eq, reduceCtorEq] at hc) <;> (try (exfalso; omega))) | (refine rgC 7 ?_; (refine smove rfl ?_); (refine sfieldp rfl rfl rfl ?_); (refine sloadp rfl rfl rfl rfl ?_); (refine slenm rfl rfl ?_); (refine slss rfl rfl ?_); apply jW) | (refine rgC 17 ?_; (refine sfieldp rfl rfl rfl ?_); (refine sloadp rfl rfl rfl rfl ?_); (refine smove rfl ?_); (refine sfieldp rfl rfl rfl ?_); (refine sloadp rfl rfl rfl rfl ?_); (refine su (ap_build (RqP.cons (rq_p rfl rfl) (RqP.cons (rq_p rfl rfl) (RqP.cons (rq_p rfl rfl) (RqP.nil)))) rfl) ?_); (refine se_alloc rfl ?_); (refine se_store_b rfl rfl rfl rfl ?_); apply jW) | (refine WP.regionC ?_; (refine sassign rfl ?_); apply jW)))
  refine wp_nil 16 3 rfl ?_
  refine wp_nil 17 1 rfl ?_
  refine wp_loop (fun (r : Nat) => r <= g.rules.length) (fun r => g.rules.length - r)
   (fun r => (S 270 [(1, levelsA l), (2, .ptr 0 4 0 0), (4, .ptr 1 4 0 0), (9, .sl 1 ((chnTo g l g.nonterms.length).map intsA)), (10, .sl 1 ((lvsTo g l g.nonterms.length).map intsA)), (15, .ptr 2 4 0 0), (16, .ref 3 3 0 (rulTo g l r).length), (17, .ref 4 1 0 (froTo r).length), (18, intA (r : Nat))] 5 [(0, some (.arr 4 [gramA g])), (1, some (.arr 4 [.agg [.val (.slice none 0 0), .val (.slice none 0 0), intA 0, .val (.slice none 0 0)]])), (2, some (.arr 4 [.agg [strsA g.terms, strsA (namsG g l g.nonterms.length), intA g.start, .val (.slice none 0 0)]])), (3, some (.arr 3 ((rulTo g l r).map ruleA))), (4, some (.arr 1 ((froTo r).map intA)))])) 0 ⟨[0, 1, 5, 6, 7], ToR.S rfl (by repeat' (first | exact rt_nil | refine rt_r rfl rfl ?_ | refine rt_t rfl rfl ?_ | refine rt_e rfl rfl ?_ | refine rt_p rfl rfl (by first | (simp [AV.bd, bdL, bdL_append]; done) | fail) ?_)) (by repeat' (first | exact ro_nil | refine ro_e rfl rfl ?_ | refine ro_p rfl (by first | exact rfl | fail) zq5 ?_)) rfl (by (rw [hm]; exact rfl)) rfl zq4 (by repeat' (first | exact True.intro | exact rfl | refine And.intro ?_ ?_ | (simp [bdOq, bdL, bdL_append, AV.bd]; done))) (by (rw [hm]; exact nle rfl))⟩ (Nat.zero_le _) ?_
  intro r hr
  have hrl := rulTo_len (g := g) l hr
  have hfl := froTo_len r
  by_cases hrt : r < g.rules.length
  ·have hx := hbin r hrt
   have hrf := hv.rule _ (nth_mem hrt)
   have hh0 := hrf.h0
   have hh1 := hrf.hn
   have hln := hrf.len
   have hC : nth (chnTo g l g.nonterms.length) (nth g.rules r).head.toNat = chnG g l (nth g.rules r).head.toNat := nth_range (by omega)
   have hU : nth (lvsTo g l g.nonterms.length) (nth g.rules r).head.toNat = useI g l (nth g.rules r).head.toNat := nth_range (by omega)
   have hCl := chnG_len g l (nth g.rules r).head.toNat
   have hul := useL_len g l (nth g.rules r).head.toNat
   have hbd : ∀ i, i < (chnG g l (nth g.rules r).head.toNat).length -> 0 <= nth (chnG g l (nth g.rules r).head.toNat) i /\ nth (chnG g l (nth g.rules r).head.toNat) i <= 5000 := fun i hi => by
    have hm := nth_mem hi
    rw [mem_chn] at hm
    have o1 := offN_bd (g := g) (l := l) hfn (nth g.rules r).head.toNat
    omega
   rw [<- hC] at hCl hbd
   have b1 := hbd (((nth (chnTo g l g.nonterms.length) (nth g.rules r).head.toNat).length : Int) - 1).toNat (by omega)
   by_cases hb : 0 <= binL g l (nth g.rules r)
   ·have hbl := binL_lt g l (nth g.rules r)
    have hmem := bin_used g l (nth_mem hrt) hh0 hb
    have hix := idx_pos hmem
    rw [Int.toNat_of_nonneg hb] at hix
    have hidx := index20_fn (nth (lvsTo g l g.nonterms.length) (nth g.rules r).head.toNat) (binL g l (nth g.rules r))
    rw [hU, hix.1, <- hU] at hidx
    have hP := hix.2
    have hb3 := bin_len3 hb
    have b2 := hbd (((posU g l (nth g.rules r).head.toNat (binL g l (nth g.rules r)) : Nat) : Int) + 1 - 1).toNat (by omega)
    have b3 := hbd (posU g l (nth g.rules r).head.toNat (binL g l (nth g.rules r)) + 1) (by omega)
    have b5 := hbd (posU g l (nth g.rules r).head.toNat (binL g l (nth g.rules r)) + (nat_lit 1)) (by show posU g l (nth g.rules r).head.toNat (binL g l (nth g.rules r)) + 1 < _; omega)
    have b4 := hbd (posU g l (nth g.rules r).head.toNat (binL g l (nth g.rules r))) (by omega)
    generalize hp : posU g l (nth g.rules r).head.toNat (binL g l (nth g.rules r)) = p at *
    (repeat' (first | apply jA | apply jF | apply jH | apply jI | (refine wp_cond rfl (fun hc => ?_) (fun hc => ?_) <;> (try simp only [sB, ne_eq, reduceCtorEq] at hc) <;> (try (exfalso; omega))) | (refine rgC 21 ?_; (refine smove rfl ?_); (refine sfieldp rfl rfl rfl ?_); (refine sloadp rfl rfl rfl rfl ?_); (refine slenm rfl rfl ?_); (refine slss rfl rfl ?_); apply jW) | (refine rgC 23 ?_; (refine sfieldp rfl rfl rfl ?_); (refine sloadp rfl rfl rfl rfl ?_); (refine smove rfl ?_); (refine sidxn rfl rfl (by omega) ?_); (refine sloadw rfl rfl ?_); (refine se_alloc rfl ?_); (refine se_store_b rfl rfl rfl rfl ?_); apply jW) | (refine rgC 24 ?_; (refine smove rfl ?_); (refine sfieldp rfl rfl rfl ?_); (refine sloadp rfl rfl rfl rfl ?_); (refine su (aidxz rfl rfl (by omega)) ?_); (refine sloadw rfl rfl ?_); (refine sassign rfl ?_); apply jW) | (refine rgC 25 ?_; (refine smove rfl ?_); (refine smove rfl ?_); (refine slenm rfl rfl ?_); (refine su (asub rfl rfl (by exact inr_i64_of (by omega))) ?_); (refine su (aidxz rfl rfl (by omega)) ?_); (refine sloadw rfl rfl ?_); (refine sassign rfl ?_); apply jW) | (refine rgC 26 ?_; (refine sloadpw rfl rfl rfl rfl ?_); (refine smove rfl ?_); (refine smove rfl ?_); (refine sc_p rfl rfl zq1 zq5 (hx) ?_); (refine sassign rfl ?_); apply jW) | (refine rgC 27 ?_; (refine se_lit0 ?_); (refine sfieldp rfl rfl rfl ?_); (refine sloadp rfl rfl rfl rfl ?_); (refine se_appE rfl rfl rfl rfl rfl rfl (by (simp only [sL] <;> omega)) ?_); (refine sassign rfl ?_); apply jW) | (refine rgC 28 ?_; (refine smove rfl ?_); (refine sassign rfl ?_); apply jW) | (refine rgC 29 ?_; (refine smove rfl ?_); (refine su (ageq rfl rfl) ?_); apply jW) | (refine rgC 30 ?_; (refine smove rfl ?_); (refine sfieldp rfl rfl rfl ?_); (refine sloadp rfl rfl rfl rfl ?_); (refine su (aidxz rfl rfl (by omega)) ?_); (refine sloadw rfl rfl ?_); (refine smove rfl ?_); (refine sc_p rfl rfl zq1 zq5 (hidx) ?_); (refine sassign rfl ?_); apply jW) | (refine rgC 31 ?_; (refine smove rfl ?_); (refine smove rfl ?_); (refine su (asub rfl rfl (by exact inr_i64_of (by omega))) ?_); (refine su (aidxz rfl rfl (by omega)) ?_); (refine sloadw rfl rfl ?_); (refine sassign rfl ?_); apply jW) | (refine wp_draw (id := 32) 13 mixed (by kernel_rfl) (by kernel_rfl) rfl ?_ <;> (refine rmove rfl ?_) <;> (refine rmove rfl ?_) <;> (refine rd_u rfl rfl (asub rfl rfl (by exact inr_i64_of (by omega))) ?_) <;> (refine rd_u rfl rfl (aidxz rfl rfl (by omega)) ?_) <;> (refine rd_u rfl rfl (aloadw rfl rfl) ?_) <;> (refine rd_u rfl rfl (asub rfl rfl (by exact inr_i64_of (by omega))) ?_) <;> (refine rmove rfl ?_) <;> (refine rmove rfl ?_) <;> (refine rd_u rfl rfl (aidxn rfl rfl (by (simp only [sL] <;> omega))) ?_) <;> (refine rd_u rfl rfl (aloadw rfl rfl) ?_) <;> (refine rd_u rfl rfl (asub rfl rfl (by exact inr_i64_of (by omega))) ?_) <;> (refine rd_u rfl rfl (aassign rfl) ?_) <;> (refine rd_u rfl rfl (aassign rfl) ?_) <;> (refine rd_end (by kernel_rfl) ?_))))
    have e1 : ((p : Int) + 1 - 1).toNat = p := by omega
    by_cases a1 : (nth l (binL g l (nth g.rules r)).toNat).assoc = 1
    ·skip
     (repeat' (first | apply jA | apply jH | apply jI | (refine wp_cond rfl (fun hc => ?_) (fun hc => ?_) <;> (try simp only [sB, ne_eq, reduceCtorEq] at hc) <;> (try (exfalso; omega))) | (refine rgC 33 ?_; (refine smove rfl ?_); (refine smove rfl ?_); (refine smove rfl ?_); (refine smove rfl ?_); (refine su (aidxrn rfl rfl (by (simp only [sL] <;> omega))) ?_); (refine se_store_t rfl rfl (by (simp only [sL] <;> omega)) rfl rfl ?_); (refine su (aidxrn rfl rfl (by (simp only [sL] <;> omega))) ?_); (refine se_store_t rfl rfl (by (simp only [sL] <;> omega)) rfl rfl ?_); apply jW) | (refine WP.regionC ?_; (refine smove rfl ?_); (refine smove rfl ?_); (refine su (aidxz rfl rfl (by omega)) ?_); (refine su (afieldi rfl rfl rfl) ?_); (refine su (aloadi rfl rfl) ?_); (refine seql rfl rfl ?_); apply jW) | (refine rgC 35 ?_; (refine smove rfl ?_); (refine smove rfl ?_); (refine su (aidxrn rfl rfl (by (simp only [sL] <;> omega))) ?_); (refine se_store_t rfl rfl (by (simp only [sL] <;> omega)) rfl rfl ?_); apply jW)))
     all_goals try (exfalso; omega)
     refine wp_frz (f := intA) 23 hm rfl rfl (by simp) (fun _ => rfl) (fun _ => rfl) ?_
     (repeat' (first | apply jH | apply jN | (refine rgC 44 ?_; (refine smove rfl ?_); (refine smove rfl ?_); (refine smove rfl ?_); (refine sfieldp rfl rfl rfl ?_); (refine sloadp rfl rfl rfl rfl ?_); (refine su (ap_build (RqP.cons (rq_p rfl rfl) (RqP.cons (rq_p rfl rfl) (RqP.cons (rq_p rfl rfl) (RqP.nil)))) rfl) ?_); (refine se_lit (OpP.cons rfl (OpP.nil)) rfl rfl rfl rfl rfl rfl ?_); (refine se_app1R rfl rfl rfl rfl rfl rfl rfl rfl (by omega) ?_); (refine smove rfl ?_); (refine smove rfl ?_); (refine se_lit (OpP.cons rfl (OpP.nil)) rfl rfl rfl rfl rfl rfl ?_); (refine se_app1 rfl rfl rfl rfl rfl rfl rfl rfl (by omega) ?_); (refine sassign rfl ?_); (refine sassign rfl ?_); apply jW) | (refine rgC 22 ?_; (refine smove rfl ?_); (refine sadd rfl rfl (by exact inr_i64_of (by omega)) ?_); (refine sassign rfl ?_); apply jW)))
     have hRS : ruleS g l (nth g.rules r) = ⟨nth (nth (chnTo g l g.nonterms.length) (nth g.rules r).head.toNat) ((p : Int) + 1 - 1).toNat, (((nth g.rules r).body.set 0 (-1 - nth (nth (chnTo g l g.nonterms.length) (nth g.rules r).head.toNat) (p + 1))).set 2 (-1 - nth (nth (chnTo g l g.nonterms.length) (nth g.rules r).head.toNat) (p + 1))).set 0 (-1 - nth (nth (chnTo g l g.nonterms.length) (nth g.rules r).head.toNat) ((p : Int) + 1 - 1).toNat), (nth g.rules r).price⟩ := by
      unfold ruleS
      rw [if_pos hb, hp, hC, e1, set3a hb3, if_pos a1, if_neg (by omega)]
      rfl
     refine ⟨r + 1, ⟨by omega, by omega⟩, ?_⟩
     rw [rulTo_succ l hrt, froTo_succ, hRS]
     exact ⟨[0, 1, 2, 22, 24], ToR.S rfl (by repeat' (first | exact rt_nil | refine rt_r rfl rfl ?_ | refine rt_t rfl rfl ?_ | refine rt_e rfl rfl ?_ | refine rt_p rfl rfl (by first | (simp [AV.bd, bdL, bdL_append]; done) | fail) ?_)) (by repeat' (first | exact ro_nil | refine ro_e rfl rfl ?_ | refine ro_p rfl (by first | exact rfl | fail) (by first | exact bdL_map (fun _ => by first | exact rfl | simp [AV.bd, bdL, bdL_append]) _ | (simp [bdL, bdL_append, AV.bd]; done) | fail) ?_)) rfl (by (rw [hm]; exact rfl)) rfl zq4 (by repeat' (first | exact True.intro | exact rfl | refine And.intro ?_ ?_ | exact bdL_map (fun _ => by first | exact rfl | simp [AV.bd, bdL, bdL_append]) _ | (simp [bdOq, bdL, bdL_append, AV.bd]; done))) (by (rw [hm]; exact nle rfl))⟩
    ·by_cases a2 : (nth l (binL g l (nth g.rules r)).toNat).assoc = 2
     ·skip
      (repeat' (first | apply jA | apply jH | apply jI | (refine wp_cond rfl (fun hc => ?_) (fun hc => ?_) <;> (try simp only [sB, ne_eq, reduceCtorEq] at hc) <;> (try (exfalso; omega))) | (refine rgC 33 ?_; (refine smove rfl ?_); (refine smove rfl ?_); (refine smove rfl ?_); (refine smove rfl ?_); (refine su (aidxrn rfl rfl (by (simp only [sL] <;> omega))) ?_); (refine se_store_t rfl rfl (by (simp only [sL] <;> omega)) rfl rfl ?_); (refine su (aidxrn rfl rfl (by (simp only [sL] <;> omega))) ?_); (refine se_store_t rfl rfl (by (simp only [sL] <;> omega)) rfl rfl ?_); apply jW) | (refine WP.regionC ?_; (refine smove rfl ?_); (refine smove rfl ?_); (refine su (aidxz rfl rfl (by omega)) ?_); (refine su (afieldi rfl rfl rfl) ?_); (refine su (aloadi rfl rfl) ?_); (refine seql rfl rfl ?_); apply jW) | (refine rgC 37 ?_; (refine smove rfl ?_); (refine smove rfl ?_); (refine su (aidxrn rfl rfl (by (simp only [sL] <;> omega))) ?_); (refine se_store_t rfl rfl (by (simp only [sL] <;> omega)) rfl rfl ?_); apply jW)))
      all_goals try (exfalso; omega)
      refine wp_frz (f := intA) 23 hm rfl rfl (by simp) (fun _ => rfl) (fun _ => rfl) ?_
      (repeat' (first | apply jH | apply jN | (refine rgC 44 ?_; (refine smove rfl ?_); (refine smove rfl ?_); (refine smove rfl ?_); (refine sfieldp rfl rfl rfl ?_); (refine sloadp rfl rfl rfl rfl ?_); (refine su (ap_build (RqP.cons (rq_p rfl rfl) (RqP.cons (rq_p rfl rfl) (RqP.cons (rq_p rfl rfl) (RqP.nil)))) rfl) ?_); (refine se_lit (OpP.cons rfl (OpP.nil)) rfl rfl rfl rfl rfl rfl ?_); (refine se_app1R rfl rfl rfl rfl rfl rfl rfl rfl (by omega) ?_); (refine smove rfl ?_); (refine smove rfl ?_); (refine se_lit (OpP.cons rfl (OpP.nil)) rfl rfl rfl rfl rfl rfl ?_); (refine se_app1 rfl rfl rfl rfl rfl rfl rfl rfl (by omega) ?_); (refine sassign rfl ?_); (refine sassign rfl ?_); apply jW) | (refine rgC 22 ?_; (refine smove rfl ?_); (refine sadd rfl rfl (by exact inr_i64_of (by omega)) ?_); (refine sassign rfl ?_); apply jW)))
      have hRS : ruleS g l (nth g.rules r) = ⟨nth (nth (chnTo g l g.nonterms.length) (nth g.rules r).head.toNat) ((p : Int) + 1 - 1).toNat, (((nth g.rules r).body.set 0 (-1 - nth (nth (chnTo g l g.nonterms.length) (nth g.rules r).head.toNat) (p + 1))).set 2 (-1 - nth (nth (chnTo g l g.nonterms.length) (nth g.rules r).head.toNat) (p + 1))).set 2 (-1 - nth (nth (chnTo g l g.nonterms.length) (nth g.rules r).head.toNat) ((p : Int) + 1 - 1).toNat), (nth g.rules r).price⟩ := by
       unfold ruleS
       rw [if_pos hb, hp, hC, e1, set3b hb3, if_neg a1, if_pos a2]
       rfl
      refine ⟨r + 1, ⟨by omega, by omega⟩, ?_⟩
      rw [rulTo_succ l hrt, froTo_succ, hRS]
      exact ⟨[0, 1, 2, 22, 24], ToR.S rfl (by repeat' (first | exact rt_nil | refine rt_r rfl rfl ?_ | refine rt_t rfl rfl ?_ | refine rt_e rfl rfl ?_ | refine rt_p rfl rfl (by first | (simp [AV.bd, bdL, bdL_append]; done) | fail) ?_)) (by repeat' (first | exact ro_nil | refine ro_e rfl rfl ?_ | refine ro_p rfl (by first | exact rfl | fail) (by first | exact bdL_map (fun _ => by first | exact rfl | simp [AV.bd, bdL, bdL_append]) _ | (simp [bdL, bdL_append, AV.bd]; done) | fail) ?_)) rfl (by (rw [hm]; exact rfl)) rfl zq4 (by repeat' (first | exact True.intro | exact rfl | refine And.intro ?_ ?_ | exact bdL_map (fun _ => by first | exact rfl | simp [AV.bd, bdL, bdL_append]) _ | (simp [bdOq, bdL, bdL_append, AV.bd]; done))) (by (rw [hm]; exact nle rfl))⟩
     ·skip
      (repeat' (first | apply jA | apply jH | apply jI | (refine wp_cond rfl (fun hc => ?_) (fun hc => ?_) <;> (try simp only [sB, ne_eq, reduceCtorEq] at hc) <;> (try (exfalso; omega))) | (refine rgC 33 ?_; (refine smove rfl ?_); (refine smove rfl ?_); (refine smove rfl ?_); (refine smove rfl ?_); (refine su (aidxrn rfl rfl (by (simp only [sL] <;> omega))) ?_); (refine se_store_t rfl rfl (by (simp only [sL] <;> omega)) rfl rfl ?_); (refine su (aidxrn rfl rfl (by (simp only [sL] <;> omega))) ?_); (refine se_store_t rfl rfl (by (simp only [sL] <;> omega)) rfl rfl ?_); apply jW) | (refine WP.regionC ?_; (refine smove rfl ?_); (refine smove rfl ?_); (refine su (aidxz rfl rfl (by omega)) ?_); (refine su (afieldi rfl rfl rfl) ?_); (refine su (aloadi rfl rfl) ?_); (refine seql rfl rfl ?_); apply jW)))
      all_goals try (exfalso; omega)
      refine wp_frz (f := intA) 23 hm rfl rfl (by simp) (fun _ => rfl) (fun _ => rfl) ?_
      (repeat' (first | apply jH | apply jN | (refine rgC 44 ?_; (refine smove rfl ?_); (refine smove rfl ?_); (refine smove rfl ?_); (refine sfieldp rfl rfl rfl ?_); (refine sloadp rfl rfl rfl rfl ?_); (refine su (ap_build (RqP.cons (rq_p rfl rfl) (RqP.cons (rq_p rfl rfl) (RqP.cons (rq_p rfl rfl) (RqP.nil)))) rfl) ?_); (refine se_lit (OpP.cons rfl (OpP.nil)) rfl rfl rfl rfl rfl rfl ?_); (refine se_app1R rfl rfl rfl rfl rfl rfl rfl rfl (by omega) ?_); (refine smove rfl ?_); (refine smove rfl ?_); (refine se_lit (OpP.cons rfl (OpP.nil)) rfl rfl rfl rfl rfl rfl ?_); (refine se_app1 rfl rfl rfl rfl rfl rfl rfl rfl (by omega) ?_); (refine sassign rfl ?_); (refine sassign rfl ?_); apply jW) | (refine rgC 22 ?_; (refine smove rfl ?_); (refine sadd rfl rfl (by exact inr_i64_of (by omega)) ?_); (refine sassign rfl ?_); apply jW)))
      have hRS : ruleS g l (nth g.rules r) = ⟨nth (nth (chnTo g l g.nonterms.length) (nth g.rules r).head.toNat) ((p : Int) + 1 - 1).toNat, ((nth g.rules r).body.set 0 (-1 - nth (nth (chnTo g l g.nonterms.length) (nth g.rules r).head.toNat) (p + 1))).set 2 (-1 - nth (nth (chnTo g l g.nonterms.length) (nth g.rules r).head.toNat) (p + 1)), (nth g.rules r).price⟩ := by
       unfold ruleS
       rw [if_pos hb, hp, hC, e1, set3 hb3, if_neg a1, if_neg a2]
       done
      refine ⟨r + 1, ⟨by omega, by omega⟩, ?_⟩
      rw [rulTo_succ l hrt, froTo_succ, hRS]
      exact ⟨[0, 1, 2, 22, 24], ToR.S rfl (by repeat' (first | exact rt_nil | refine rt_r rfl rfl ?_ | refine rt_t rfl rfl ?_ | refine rt_e rfl rfl ?_ | refine rt_p rfl rfl (by first | (simp [AV.bd, bdL, bdL_append]; done) | fail) ?_)) (by repeat' (first | exact ro_nil | refine ro_e rfl rfl ?_ | refine ro_p rfl (by first | exact rfl | fail) (by first | exact bdL_map (fun _ => by first | exact rfl | simp [AV.bd, bdL, bdL_append]) _ | (simp [bdL, bdL_append, AV.bd]; done) | fail) ?_)) rfl (by (rw [hm]; exact rfl)) rfl zq4 (by repeat' (first | exact True.intro | exact rfl | refine And.intro ?_ ?_ | exact bdL_map (fun _ => by first | exact rfl | simp [AV.bd, bdL, bdL_append]) _ | (simp [bdOq, bdL, bdL_append, AV.bd]; done))) (by (rw [hm]; exact nle rfl))⟩
   ·have hRS0 : ∀ bd, bd = ((List.range (nth g.rules r).body.length).map fun k => if (k = 0 \/ k + 1 = (nth g.rules r).body.length) /\ nth (nth g.rules r).body k = -1 - (nth g.rules r).head then -1 - lastC g l (nth g.rules r).head.toNat else nth (nth g.rules r).body k) -> ruleS g l (nth g.rules r) = ⟨nth (nth (chnTo g l g.nonterms.length) (nth g.rules r).head.toNat) (((nth (chnTo g l g.nonterms.length) (nth g.rules r).head.toNat).length : Int) - 1).toNat, bd, (nth g.rules r).price⟩ := fun bd h => by
     unfold ruleS
     rw [if_neg hb, h, show (((nth (chnTo g l g.nonterms.length) (nth g.rules r).head.toNat).length : Int) - 1).toNat = (useL g l (nth g.rules r).head.toNat).length by omega, hC]
     rfl
    have hml : ((nth g.rules r).body.map intA).length = (nth g.rules r).body.length := by simp
    have hq : nth (nth (chnTo g l g.nonterms.length) (nth g.rules r).head.toNat) (((nth (chnTo g l g.nonterms.length) (nth g.rules r).head.toNat).length : Int) - 1).toNat = lastC g l (nth g.rules r).head.toNat := by
     rw [show (((nth (chnTo g l g.nonterms.length) (nth g.rules r).head.toNat).length : Int) - 1).toNat = (useL g l (nth g.rules r).head.toNat).length by omega, hC]
     rfl
    have hn : ((((nth g.rules r).body.map intA).length : Int) - 1).toNat = (nth g.rules r).body.length - 1 := by omega
    by_cases hK : 0 < (nth g.rules r).body.length /\ 1 < (nth (chnTo g l g.nonterms.length) (nth g.rules r).head.toNat).length
    ·have h2i : nth (nth g.rules r).body ((((nth g.rules r).body.map intA).length : Int) - 1).toNat = nth (nth g.rules r).body ((nth g.rules r).body.length - 1) := by rw [hn]
     by_cases h1 : nth (nth g.rules r).body (nat_lit 0) = -1 - (nth g.rules r).head
     ·by_cases h2 : nth (nth g.rules r).body ((((nth g.rules r).body.map intA).length : Int) - 1).toNat = -1 - (nth g.rules r).head
      ·have h2' := h2
       rw [h2i] at h2'
       (repeat' (first | apply jA | apply jF | apply jH | apply jI | (refine wp_cond rfl (fun hc => ?_) (fun hc => ?_) <;> (try simp only [sB, ne_eq, reduceCtorEq] at hc) <;> (try (exfalso; omega))) | (refine rgC 21 ?_; (refine smove rfl ?_); (refine sfieldp rfl rfl rfl ?_); (refine sloadp rfl rfl rfl rfl ?_); (refine slenm rfl rfl ?_); (refine slss rfl rfl ?_); apply jW) | (refine rgC 23 ?_; (refine sfieldp rfl rfl rfl ?_); (refine sloadp rfl rfl rfl rfl ?_); (refine smove rfl ?_); (refine sidxn rfl rfl (by omega) ?_); (refine sloadw rfl rfl ?_); (refine se_alloc rfl ?_); (refine se_store_b rfl rfl rfl rfl ?_); apply jW) | (refine rgC 24 ?_; (refine smove rfl ?_); (refine sfieldp rfl rfl rfl ?_); (refine sloadp rfl rfl rfl rfl ?_); (refine su (aidxz rfl rfl (by omega)) ?_); (refine sloadw rfl rfl ?_); (refine sassign rfl ?_); apply jW) | (refine rgC 25 ?_; (refine smove rfl ?_); (refine smove rfl ?_); (refine slenm rfl rfl ?_); (refine su (asub rfl rfl (by exact inr_i64_of (by omega))) ?_); (refine su (aidxz rfl rfl (by omega)) ?_); (refine sloadw rfl rfl ?_); (refine sassign rfl ?_); apply jW) | (refine rgC 26 ?_; (refine sloadpw rfl rfl rfl rfl ?_); (refine smove rfl ?_); (refine smove rfl ?_); (refine sc_p rfl rfl zq1 zq5 (hx) ?_); (refine sassign rfl ?_); apply jW) | (refine rgC 27 ?_; (refine se_lit0 ?_); (refine sfieldp rfl rfl rfl ?_); (refine sloadp rfl rfl rfl rfl ?_); (refine se_appE rfl rfl rfl rfl rfl rfl (by omega) ?_); (refine sassign rfl ?_); apply jW) | (refine rgC 28 ?_; (refine smove rfl ?_); (refine sassign rfl ?_); apply jW) | (refine rgC 29 ?_; (refine smove rfl ?_); (refine su (ageq rfl rfl) ?_); apply jW) | (refine rgC 38 ?_; (refine smove rfl ?_); (refine su (alenr rfl rfl) ?_); (refine sassign rfl ?_); apply jW) | (refine rgC 39 ?_; (refine smove rfl ?_); (refine su (agtr rfl rfl) ?_); (refine smove rfl ?_); (refine sg (gq_vt rfl rfl) (fun he => ap_move (rq_p rfl rfl)) ?_); (refine sg (gq_vt rfl rfl) (fun he => ap_len_m rfl (rq_c rfl rfl)) ?_); (refine sg (gq_vt rfl rfl) (fun he => ap_gtr (rq_c rfl rfl) (rq_p rfl rfl)) ?_); (refine su (ap_and (rq_p rfl rfl) (rq_c rfl rfl)) ?_); apply jW) | (refine wp_draw (id := 40) 8 mixed (by kernel_rfl) (by kernel_rfl) rfl ?_ <;> (refine rfieldp rfl rfl rfl ?_) <;> (refine rloadp rfl rfl rfl rfl ?_) <;> (refine rd_u rfl rfl (aidxn rfl rfl (by (simp only [sL] <;> omega))) ?_) <;> (refine rd_u rfl rfl (aloadw rfl rfl) ?_) <;> (refine rfieldp rfl rfl rfl ?_) <;> (refine rloadp rfl rfl rfl rfl ?_) <;> (refine rd_u rfl rfl (asub rfl rfl (by exact inr_i64_of (by omega))) ?_) <;> (refine rd_u rfl rfl (aeql rfl rfl) ?_) <;> (refine rd_end (by kernel_rfl) ?_)) | (refine rgC 41 ?_; (refine smove rfl ?_); (refine smove rfl ?_); (refine su (asub rfl rfl (by exact inr_i64_of (by omega))) ?_); (refine su (aidxrn rfl rfl (by (simp only [sL] <;> omega))) ?_); (refine se_store_t rfl rfl (by (simp only [sL] <;> omega)) rfl rfl ?_); apply jW) | (refine wp_draw (id := 42) 10 mixed (by kernel_rfl) (by kernel_rfl) rfl ?_ <;> (refine rfieldp rfl rfl rfl ?_) <;> (refine rloadp rfl rfl rfl rfl ?_) <;> (refine rmove rfl ?_) <;> (refine rd_u rfl rfl (asub rfl rfl (by exact inr_i64_of (by omega))) ?_) <;> (refine rd_u rfl rfl (aidxz rfl rfl (by omega)) ?_) <;> (refine rd_u rfl rfl (aloadw rfl rfl) ?_) <;> (refine rfieldp rfl rfl rfl ?_) <;> (refine rloadp rfl rfl rfl rfl ?_) <;> (refine rd_u rfl rfl (asub rfl rfl (by exact inr_i64_of (by omega))) ?_) <;> (refine rd_u rfl rfl (aeql rfl rfl) ?_) <;> (refine rd_end (by kernel_rfl) ?_)) | (refine rgC 43 ?_; (refine smove rfl ?_); (refine smove rfl ?_); (refine su (asub rfl rfl (by exact inr_i64_of (by omega))) ?_); (refine smove rfl ?_); (refine su (asub rfl rfl (by exact inr_i64_of (by omega))) ?_); (refine su (aidxrz rfl rfl (by omega)) ?_); (refine se_store_t rfl rfl (by first | omega | (simp only [sL] <;> omega)) rfl rfl ?_); apply jW)))
       all_goals try (exfalso; grind)
       refine wp_frz (f := intA) 23 hm rfl rfl (by simp) (fun _ => rfl) (fun _ => rfl) ?_
       (repeat' (first | apply jH | apply jN | (refine rgC 44 ?_; (refine smove rfl ?_); (refine smove rfl ?_); (refine smove rfl ?_); (refine sfieldp rfl rfl rfl ?_); (refine sloadp rfl rfl rfl rfl ?_); (refine su (ap_build (RqP.cons (rq_p rfl rfl) (RqP.cons (rq_p rfl rfl) (RqP.cons (rq_p rfl rfl) (RqP.nil)))) rfl) ?_); (refine se_lit (OpP.cons rfl (OpP.nil)) rfl rfl rfl rfl rfl rfl ?_); (refine se_app1R rfl rfl rfl rfl rfl rfl rfl rfl (by omega) ?_); (refine smove rfl ?_); (refine smove rfl ?_); (refine se_lit (OpP.cons rfl (OpP.nil)) rfl rfl rfl rfl rfl rfl ?_); (refine se_app1 rfl rfl rfl rfl rfl rfl rfl rfl (by omega) ?_); (refine sassign rfl ?_); (refine sassign rfl ?_); apply jW) | (refine rgC 22 ?_; (refine smove rfl ?_); (refine sadd rfl rfl (by exact inr_i64_of (by omega)) ?_); (refine sassign rfl ?_); apply jW)))
       refine ⟨r + 1, ⟨by omega, by omega⟩, ?_⟩
       rw [rulTo_succ l hrt, froTo_succ, hRS0 (((nth g.rules r).body.set 0 (-1 - nth (nth (chnTo g l g.nonterms.length) (nth g.rules r).head.toNat) (((nth (chnTo g l g.nonterms.length) (nth g.rules r).head.toNat).length : Int) - 1).toNat)).set ((((nth g.rules r).body.map intA).length : Int) - 1).toNat (-1 - nth (nth (chnTo g l g.nonterms.length) (nth g.rules r).head.toNat) (((nth (chnTo g l g.nonterms.length) (nth g.rules r).head.toNat).length : Int) - 1).toNat)) (by rw [<- bodM_is _ _ _ hK.1, hq, hn]; unfold bodM bodN; rw [if_pos h2', if_pos h1])]
       exact ⟨[0, 1, 2, 27, 29], ToR.S rfl (by repeat' (first | exact rt_nil | refine rt_r rfl rfl ?_ | refine rt_t rfl rfl ?_ | refine rt_e rfl rfl ?_ | refine rt_p rfl rfl (by first | (simp [AV.bd, bdL, bdL_append]; done) | fail) ?_)) (by repeat' (first | exact ro_nil | refine ro_e rfl rfl ?_ | refine ro_p rfl (by first | exact rfl | fail) (by first | exact bdL_map (fun _ => by first | exact rfl | simp [AV.bd, bdL, bdL_append]) _ | (simp [bdL, bdL_append, AV.bd]; done) | fail) ?_)) rfl (by (rw [hm]; exact rfl)) rfl zq4 (by repeat' (first | exact True.intro | exact rfl | refine And.intro ?_ ?_ | exact bdL_map (fun _ => by first | exact rfl | simp [AV.bd, bdL, bdL_append]) _ | (simp [bdOq, bdL, bdL_append, AV.bd]; done))) (by (rw [hm]; exact nle rfl))⟩
      ·have h2' := h2
       rw [h2i] at h2'
       (repeat' (first | apply jA | apply jF | apply jH | apply jI | (refine wp_cond rfl (fun hc => ?_) (fun hc => ?_) <;> (try simp only [sB, ne_eq, reduceCtorEq] at hc) <;> (try (exfalso; omega))) | (refine rgC 21 ?_; (refine smove rfl ?_); (refine sfieldp rfl rfl rfl ?_); (refine sloadp rfl rfl rfl rfl ?_); (refine slenm rfl rfl ?_); (refine slss rfl rfl ?_); apply jW) | (refine rgC 23 ?_; (refine sfieldp rfl rfl rfl ?_); (refine sloadp rfl rfl rfl rfl ?_); (refine smove rfl ?_); (refine sidxn rfl rfl (by omega) ?_); (refine sloadw rfl rfl ?_); (refine se_alloc rfl ?_); (refine se_store_b rfl rfl rfl rfl ?_); apply jW) | (refine rgC 24 ?_; (refine smove rfl ?_); (refine sfieldp rfl rfl rfl ?_); (refine sloadp rfl rfl rfl rfl ?_); (refine su (aidxz rfl rfl (by omega)) ?_); (refine sloadw rfl rfl ?_); (refine sassign rfl ?_); apply jW) | (refine rgC 25 ?_; (refine smove rfl ?_); (refine smove rfl ?_); (refine slenm rfl rfl ?_); (refine su (asub rfl rfl (by exact inr_i64_of (by omega))) ?_); (refine su (aidxz rfl rfl (by omega)) ?_); (refine sloadw rfl rfl ?_); (refine sassign rfl ?_); apply jW) | (refine rgC 26 ?_; (refine sloadpw rfl rfl rfl rfl ?_); (refine smove rfl ?_); (refine smove rfl ?_); (refine sc_p rfl rfl zq1 zq5 (hx) ?_); (refine sassign rfl ?_); apply jW) | (refine rgC 27 ?_; (refine se_lit0 ?_); (refine sfieldp rfl rfl rfl ?_); (refine sloadp rfl rfl rfl rfl ?_); (refine se_appE rfl rfl rfl rfl rfl rfl (by omega) ?_); (refine sassign rfl ?_); apply jW) | (refine rgC 28 ?_; (refine smove rfl ?_); (refine sassign rfl ?_); apply jW) | (refine rgC 29 ?_; (refine smove rfl ?_); (refine su (ageq rfl rfl) ?_); apply jW) | (refine rgC 38 ?_; (refine smove rfl ?_); (refine su (alenr rfl rfl) ?_); (refine sassign rfl ?_); apply jW) | (refine rgC 39 ?_; (refine smove rfl ?_); (refine su (agtr rfl rfl) ?_); (refine smove rfl ?_); (refine sg (gq_vt rfl rfl) (fun he => ap_move (rq_p rfl rfl)) ?_); (refine sg (gq_vt rfl rfl) (fun he => ap_len_m rfl (rq_c rfl rfl)) ?_); (refine sg (gq_vt rfl rfl) (fun he => ap_gtr (rq_c rfl rfl) (rq_p rfl rfl)) ?_); (refine su (ap_and (rq_p rfl rfl) (rq_c rfl rfl)) ?_); apply jW) | (refine wp_draw (id := 40) 8 mixed (by kernel_rfl) (by kernel_rfl) rfl ?_ <;> (refine rfieldp rfl rfl rfl ?_) <;> (refine rloadp rfl rfl rfl rfl ?_) <;> (refine rd_u rfl rfl (aidxn rfl rfl (by (simp only [sL] <;> omega))) ?_) <;> (refine rd_u rfl rfl (aloadw rfl rfl) ?_) <;> (refine rfieldp rfl rfl rfl ?_) <;> (refine rloadp rfl rfl rfl rfl ?_) <;> (refine rd_u rfl rfl (asub rfl rfl (by exact inr_i64_of (by omega))) ?_) <;> (refine rd_u rfl rfl (aeql rfl rfl) ?_) <;> (refine rd_end (by kernel_rfl) ?_)) | (refine rgC 41 ?_; (refine smove rfl ?_); (refine smove rfl ?_); (refine su (asub rfl rfl (by exact inr_i64_of (by omega))) ?_); (refine su (aidxrn rfl rfl (by (simp only [sL] <;> omega))) ?_); (refine se_store_t rfl rfl (by (simp only [sL] <;> omega)) rfl rfl ?_); apply jW) | (refine wp_draw (id := 42) 10 mixed (by kernel_rfl) (by kernel_rfl) rfl ?_ <;> (refine rfieldp rfl rfl rfl ?_) <;> (refine rloadp rfl rfl rfl rfl ?_) <;> (refine rmove rfl ?_) <;> (refine rd_u rfl rfl (asub rfl rfl (by exact inr_i64_of (by omega))) ?_) <;> (refine rd_u rfl rfl (aidxz rfl rfl (by omega)) ?_) <;> (refine rd_u rfl rfl (aloadw rfl rfl) ?_) <;> (refine rfieldp rfl rfl rfl ?_) <;> (refine rloadp rfl rfl rfl rfl ?_) <;> (refine rd_u rfl rfl (asub rfl rfl (by exact inr_i64_of (by omega))) ?_) <;> (refine rd_u rfl rfl (aeql rfl rfl) ?_) <;> (refine rd_end (by kernel_rfl) ?_))))
       all_goals try (exfalso; grind)
       refine wp_frz (f := intA) 23 hm rfl rfl (by simp) (fun _ => rfl) (fun _ => rfl) ?_
       (repeat' (first | apply jH | apply jN | (refine rgC 44 ?_; (refine smove rfl ?_); (refine smove rfl ?_); (refine smove rfl ?_); (refine sfieldp rfl rfl rfl ?_); (refine sloadp rfl rfl rfl rfl ?_); (refine su (ap_build (RqP.cons (rq_p rfl rfl) (RqP.cons (rq_p rfl rfl) (RqP.cons (rq_p rfl rfl) (RqP.nil)))) rfl) ?_); (refine se_lit (OpP.cons rfl (OpP.nil)) rfl rfl rfl rfl rfl rfl ?_); (refine se_app1R rfl rfl rfl rfl rfl rfl rfl rfl (by omega) ?_); (refine smove rfl ?_); (refine smove rfl ?_); (refine se_lit (OpP.cons rfl (OpP.nil)) rfl rfl rfl rfl rfl rfl ?_); (refine se_app1 rfl rfl rfl rfl rfl rfl rfl rfl (by omega) ?_); (refine sassign rfl ?_); (refine sassign rfl ?_); apply jW) | (refine rgC 22 ?_; (refine smove rfl ?_); (refine sadd rfl rfl (by exact inr_i64_of (by omega)) ?_); (refine sassign rfl ?_); apply jW)))
       refine ⟨r + 1, ⟨by omega, by omega⟩, ?_⟩
       rw [rulTo_succ l hrt, froTo_succ, hRS0 ((nth g.rules r).body.set 0 (-1 - nth (nth (chnTo g l g.nonterms.length) (nth g.rules r).head.toNat) (((nth (chnTo g l g.nonterms.length) (nth g.rules r).head.toNat).length : Int) - 1).toNat)) (by rw [<- bodM_is _ _ _ hK.1, hq]; unfold bodM bodN; rw [if_neg h2', if_pos h1])]
       exact ⟨[0, 1, 2, 27, 29], ToR.S rfl (by repeat' (first | exact rt_nil | refine rt_r rfl rfl ?_ | refine rt_t rfl rfl ?_ | refine rt_e rfl rfl ?_ | refine rt_p rfl rfl (by first | (simp [AV.bd, bdL, bdL_append]; done) | fail) ?_)) (by repeat' (first | exact ro_nil | refine ro_e rfl rfl ?_ | refine ro_p rfl (by first | exact rfl | fail) (by first | exact bdL_map (fun _ => by first | exact rfl | simp [AV.bd, bdL, bdL_append]) _ | (simp [bdL, bdL_append, AV.bd]; done) | fail) ?_)) rfl (by (rw [hm]; exact rfl)) rfl zq4 (by repeat' (first | exact True.intro | exact rfl | refine And.intro ?_ ?_ | exact bdL_map (fun _ => by first | exact rfl | simp [AV.bd, bdL, bdL_append]) _ | (simp [bdOq, bdL, bdL_append, AV.bd]; done))) (by (rw [hm]; exact nle rfl))⟩
     ·by_cases h2 : nth (nth g.rules r).body ((((nth g.rules r).body.map intA).length : Int) - 1).toNat = -1 - (nth g.rules r).head
      ·have h2' := h2
       rw [h2i] at h2'
       (repeat' (first | apply jA | apply jF | apply jH | apply jI | (refine wp_cond rfl (fun hc => ?_) (fun hc => ?_) <;> (try simp only [sB, ne_eq, reduceCtorEq] at hc) <;> (try (exfalso; omega))) | (refine rgC 21 ?_; (refine smove rfl ?_); (refine sfieldp rfl rfl rfl ?_); (refine sloadp rfl rfl rfl rfl ?_); (refine slenm rfl rfl ?_); (refine slss rfl rfl ?_); apply jW) | (refine rgC 23 ?_; (refine sfieldp rfl rfl rfl ?_); (refine sloadp rfl rfl rfl rfl ?_); (refine smove rfl ?_); (refine sidxn rfl rfl (by omega) ?_); (refine sloadw rfl rfl ?_); (refine se_alloc rfl ?_); (refine se_store_b rfl rfl rfl rfl ?_); apply jW) | (refine rgC 24 ?_; (refine smove rfl ?_); (refine sfieldp rfl rfl rfl ?_); (refine sloadp rfl rfl rfl rfl ?_); (refine su (aidxz rfl rfl (by omega)) ?_); (refine sloadw rfl rfl ?_); (refine sassign rfl ?_); apply jW) | (refine rgC 25 ?_; (refine smove rfl ?_); (refine smove rfl ?_); (refine slenm rfl rfl ?_); (refine su (asub rfl rfl (by exact inr_i64_of (by omega))) ?_); (refine su (aidxz rfl rfl (by omega)) ?_); (refine sloadw rfl rfl ?_); (refine sassign rfl ?_); apply jW) | (refine rgC 26 ?_; (refine sloadpw rfl rfl rfl rfl ?_); (refine smove rfl ?_); (refine smove rfl ?_); (refine sc_p rfl rfl zq1 zq5 (hx) ?_); (refine sassign rfl ?_); apply jW) | (refine rgC 27 ?_; (refine se_lit0 ?_); (refine sfieldp rfl rfl rfl ?_); (refine sloadp rfl rfl rfl rfl ?_); (refine se_appE rfl rfl rfl rfl rfl rfl (by omega) ?_); (refine sassign rfl ?_); apply jW) | (refine rgC 28 ?_; (refine smove rfl ?_); (refine sassign rfl ?_); apply jW) | (refine rgC 29 ?_; (refine smove rfl ?_); (refine su (ageq rfl rfl) ?_); apply jW) | (refine rgC 38 ?_; (refine smove rfl ?_); (refine su (alenr rfl rfl) ?_); (refine sassign rfl ?_); apply jW) | (refine rgC 39 ?_; (refine smove rfl ?_); (refine su (agtr rfl rfl) ?_); (refine smove rfl ?_); (refine sg (gq_vt rfl rfl) (fun he => ap_move (rq_p rfl rfl)) ?_); (refine sg (gq_vt rfl rfl) (fun he => ap_len_m rfl (rq_c rfl rfl)) ?_); (refine sg (gq_vt rfl rfl) (fun he => ap_gtr (rq_c rfl rfl) (rq_p rfl rfl)) ?_); (refine su (ap_and (rq_p rfl rfl) (rq_c rfl rfl)) ?_); apply jW) | (refine wp_draw (id := 40) 8 mixed (by kernel_rfl) (by kernel_rfl) rfl ?_ <;> (refine rfieldp rfl rfl rfl ?_) <;> (refine rloadp rfl rfl rfl rfl ?_) <;> (refine rd_u rfl rfl (aidxn rfl rfl (by (simp only [sL] <;> omega))) ?_) <;> (refine rd_u rfl rfl (aloadw rfl rfl) ?_) <;> (refine rfieldp rfl rfl rfl ?_) <;> (refine rloadp rfl rfl rfl rfl ?_) <;> (refine rd_u rfl rfl (asub rfl rfl (by exact inr_i64_of (by omega))) ?_) <;> (refine rd_u rfl rfl (aeql rfl rfl) ?_) <;> (refine rd_end (by kernel_rfl) ?_)) | (refine wp_draw (id := 42) 10 mixed (by kernel_rfl) (by kernel_rfl) rfl ?_ <;> (refine rfieldp rfl rfl rfl ?_) <;> (refine rloadp rfl rfl rfl rfl ?_) <;> (refine rmove rfl ?_) <;> (refine rd_u rfl rfl (asub rfl rfl (by exact inr_i64_of (by omega))) ?_) <;> (refine rd_u rfl rfl (aidxz rfl rfl (by omega)) ?_) <;> (refine rd_u rfl rfl (aloadw rfl rfl) ?_) <;> (refine rfieldp rfl rfl rfl ?_) <;> (refine rloadp rfl rfl rfl rfl ?_) <;> (refine rd_u rfl rfl (asub rfl rfl (by exact inr_i64_of (by omega))) ?_) <;> (refine rd_u rfl rfl (aeql rfl rfl) ?_) <;> (refine rd_end (by kernel_rfl) ?_)) | (refine rgC 43 ?_; (refine smove rfl ?_); (refine smove rfl ?_); (refine su (asub rfl rfl (by exact inr_i64_of (by omega))) ?_); (refine smove rfl ?_); (refine su (asub rfl rfl (by exact inr_i64_of (by omega))) ?_); (refine su (aidxrz rfl rfl (by omega)) ?_); (refine se_store_t rfl rfl (by omega) rfl rfl ?_); apply jW)))
       all_goals try (exfalso; grind)
       refine wp_frz (f := intA) 23 hm rfl rfl (by simp) (fun _ => rfl) (fun _ => rfl) ?_
       (repeat' (first | apply jH | apply jN | (refine rgC 44 ?_; (refine smove rfl ?_); (refine smove rfl ?_); (refine smove rfl ?_); (refine sfieldp rfl rfl rfl ?_); (refine sloadp rfl rfl rfl rfl ?_); (refine su (ap_build (RqP.cons (rq_p rfl rfl) (RqP.cons (rq_p rfl rfl) (RqP.cons (rq_p rfl rfl) (RqP.nil)))) rfl) ?_); (refine se_lit (OpP.cons rfl (OpP.nil)) rfl rfl rfl rfl rfl rfl ?_); (refine se_app1R rfl rfl rfl rfl rfl rfl rfl rfl (by omega) ?_); (refine smove rfl ?_); (refine smove rfl ?_); (refine se_lit (OpP.cons rfl (OpP.nil)) rfl rfl rfl rfl rfl rfl ?_); (refine se_app1 rfl rfl rfl rfl rfl rfl rfl rfl (by omega) ?_); (refine sassign rfl ?_); (refine sassign rfl ?_); apply jW) | (refine rgC 22 ?_; (refine smove rfl ?_); (refine sadd rfl rfl (by exact inr_i64_of (by omega)) ?_); (refine sassign rfl ?_); apply jW)))
       refine ⟨r + 1, ⟨by omega, by omega⟩, ?_⟩
       rw [rulTo_succ l hrt, froTo_succ, hRS0 ((nth g.rules r).body.set ((((nth g.rules r).body.map intA).length : Int) - 1).toNat (-1 - nth (nth (chnTo g l g.nonterms.length) (nth g.rules r).head.toNat) (((nth (chnTo g l g.nonterms.length) (nth g.rules r).head.toNat).length : Int) - 1).toNat)) (by rw [<- bodM_is _ _ _ hK.1, hq, hn]; unfold bodM bodN; rw [if_pos h2', if_neg h1])]
       exact ⟨[0, 1, 2, 27, 29], ToR.S rfl (by repeat' (first | exact rt_nil | refine rt_r rfl rfl ?_ | refine rt_t rfl rfl ?_ | refine rt_e rfl rfl ?_ | refine rt_p rfl rfl (by first | (simp [AV.bd, bdL, bdL_append]; done) | fail) ?_)) (by repeat' (first | exact ro_nil | refine ro_e rfl rfl ?_ | refine ro_p rfl (by first | exact rfl | fail) (by first | exact bdL_map (fun _ => by first | exact rfl | simp [AV.bd, bdL, bdL_append]) _ | (simp [bdL, bdL_append, AV.bd]; done) | fail) ?_)) rfl (by (rw [hm]; exact rfl)) rfl zq4 (by repeat' (first | exact True.intro | exact rfl | refine And.intro ?_ ?_ | exact bdL_map (fun _ => by first | exact rfl | simp [AV.bd, bdL, bdL_append]) _ | (simp [bdOq, bdL, bdL_append, AV.bd]; done))) (by (rw [hm]; exact nle rfl))⟩
      ·have h2' := h2
       rw [h2i] at h2'
       (repeat' (first | apply jA | apply jF | apply jH | apply jI | (refine wp_cond rfl (fun hc => ?_) (fun hc => ?_) <;> (try simp only [sB, ne_eq, reduceCtorEq] at hc) <;> (try (exfalso; omega))) | (refine rgC 21 ?_; (refine smove rfl ?_); (refine sfieldp rfl rfl rfl ?_); (refine sloadp rfl rfl rfl rfl ?_); (refine slenm rfl rfl ?_); (refine slss rfl rfl ?_); apply jW) | (refine rgC 23 ?_; (refine sfieldp rfl rfl rfl ?_); (refine sloadp rfl rfl rfl rfl ?_); (refine smove rfl ?_); (refine sidxn rfl rfl (by omega) ?_); (refine sloadw rfl rfl ?_); (refine se_alloc rfl ?_); (refine se_store_b rfl rfl rfl rfl ?_); apply jW) | (refine rgC 24 ?_; (refine smove rfl ?_); (refine sfieldp rfl rfl rfl ?_); (refine sloadp rfl rfl rfl rfl ?_); (refine su (aidxz rfl rfl (by omega)) ?_); (refine sloadw rfl rfl ?_); (refine sassign rfl ?_); apply jW) | (refine rgC 25 ?_; (refine smove rfl ?_); (refine smove rfl ?_); (refine slenm rfl rfl ?_); (refine su (asub rfl rfl (by exact inr_i64_of (by omega))) ?_); (refine su (aidxz rfl rfl (by omega)) ?_); (refine sloadw rfl rfl ?_); (refine sassign rfl ?_); apply jW) | (refine rgC 26 ?_; (refine sloadpw rfl rfl rfl rfl ?_); (refine smove rfl ?_); (refine smove rfl ?_); (refine sc_p rfl rfl zq1 zq5 (hx) ?_); (refine sassign rfl ?_); apply jW) | (refine rgC 27 ?_; (refine se_lit0 ?_); (refine sfieldp rfl rfl rfl ?_); (refine sloadp rfl rfl rfl rfl ?_); (refine se_appE rfl rfl rfl rfl rfl rfl (by omega) ?_); (refine sassign rfl ?_); apply jW) | (refine rgC 28 ?_; (refine smove rfl ?_); (refine sassign rfl ?_); apply jW) | (refine rgC 29 ?_; (refine smove rfl ?_); (refine su (ageq rfl rfl) ?_); apply jW) | (refine rgC 38 ?_; (refine smove rfl ?_); (refine su (alenr rfl rfl) ?_); (refine sassign rfl ?_); apply jW) | (refine rgC 39 ?_; (refine smove rfl ?_); (refine su (agtr rfl rfl) ?_); (refine smove rfl ?_); (refine sg (gq_vt rfl rfl) (fun he => ap_move (rq_p rfl rfl)) ?_); (refine sg (gq_vt rfl rfl) (fun he => ap_len_m rfl (rq_c rfl rfl)) ?_); (refine sg (gq_vt rfl rfl) (fun he => ap_gtr (rq_c rfl rfl) (rq_p rfl rfl)) ?_); (refine su (ap_and (rq_p rfl rfl) (rq_c rfl rfl)) ?_); apply jW) | (refine wp_draw (id := 40) 8 mixed (by kernel_rfl) (by kernel_rfl) rfl ?_ <;> (refine rfieldp rfl rfl rfl ?_) <;> (refine rloadp rfl rfl rfl rfl ?_) <;> (refine rd_u rfl rfl (aidxn rfl rfl (by (simp only [sL] <;> omega))) ?_) <;> (refine rd_u rfl rfl (aloadw rfl rfl) ?_) <;> (refine rfieldp rfl rfl rfl ?_) <;> (refine rloadp rfl rfl rfl rfl ?_) <;> (refine rd_u rfl rfl (asub rfl rfl (by exact inr_i64_of (by omega))) ?_) <;> (refine rd_u rfl rfl (aeql rfl rfl) ?_) <;> (refine rd_end (by kernel_rfl) ?_)) | (refine wp_draw (id := 42) 10 mixed (by kernel_rfl) (by kernel_rfl) rfl ?_ <;> (refine rfieldp rfl rfl rfl ?_) <;> (refine rloadp rfl rfl rfl rfl ?_) <;> (refine rmove rfl ?_) <;> (refine rd_u rfl rfl (asub rfl rfl (by exact inr_i64_of (by omega))) ?_) <;> (refine rd_u rfl rfl (aidxz rfl rfl (by omega)) ?_) <;> (refine rd_u rfl rfl (aloadw rfl rfl) ?_) <;> (refine rfieldp rfl rfl rfl ?_) <;> (refine rloadp rfl rfl rfl rfl ?_) <;> (refine rd_u rfl rfl (asub rfl rfl (by exact inr_i64_of (by omega))) ?_) <;> (refine rd_u rfl rfl (aeql rfl rfl) ?_) <;> (refine rd_end (by kernel_rfl) ?_))))
       all_goals try (exfalso; grind)
       refine wp_frz (f := intA) 23 hm rfl rfl (by simp) (fun _ => rfl) (fun _ => rfl) ?_
       (repeat' (first | apply jH | apply jN | (refine rgC 44 ?_; (refine smove rfl ?_); (refine smove rfl ?_); (refine smove rfl ?_); (refine sfieldp rfl rfl rfl ?_); (refine sloadp rfl rfl rfl rfl ?_); (refine su (ap_build (RqP.cons (rq_p rfl rfl) (RqP.cons (rq_p rfl rfl) (RqP.cons (rq_p rfl rfl) (RqP.nil)))) rfl) ?_); (refine se_lit (OpP.cons rfl (OpP.nil)) rfl rfl rfl rfl rfl rfl ?_); (refine se_app1R rfl rfl rfl rfl rfl rfl rfl rfl (by omega) ?_); (refine smove rfl ?_); (refine smove rfl ?_); (refine se_lit (OpP.cons rfl (OpP.nil)) rfl rfl rfl rfl rfl rfl ?_); (refine se_app1 rfl rfl rfl rfl rfl rfl rfl rfl (by omega) ?_); (refine sassign rfl ?_); (refine sassign rfl ?_); apply jW) | (refine rgC 22 ?_; (refine smove rfl ?_); (refine sadd rfl rfl (by exact inr_i64_of (by omega)) ?_); (refine sassign rfl ?_); apply jW)))
       refine ⟨r + 1, ⟨by omega, by omega⟩, ?_⟩
       rw [rulTo_succ l hrt, froTo_succ, hRS0 ((nth g.rules r).body) (by rw [<- bodM_is _ _ _ hK.1]; unfold bodM bodN; rw [if_neg h2', if_neg h1])]
       exact ⟨[0, 1, 2, 27, 29], ToR.S rfl (by repeat' (first | exact rt_nil | refine rt_r rfl rfl ?_ | refine rt_t rfl rfl ?_ | refine rt_e rfl rfl ?_ | refine rt_p rfl rfl (by first | (simp [AV.bd, bdL, bdL_append]; done) | fail) ?_)) (by repeat' (first | exact ro_nil | refine ro_e rfl rfl ?_ | refine ro_p rfl (by first | exact rfl | fail) (by first | exact bdL_map (fun _ => by first | exact rfl | simp [AV.bd, bdL, bdL_append]) _ | (simp [bdL, bdL_append, AV.bd]; done) | fail) ?_)) rfl (by (rw [hm]; exact rfl)) rfl zq4 (by repeat' (first | exact True.intro | exact rfl | refine And.intro ?_ ?_ | exact bdL_map (fun _ => by first | exact rfl | simp [AV.bd, bdL, bdL_append]) _ | (simp [bdOq, bdL, bdL_append, AV.bd]; done))) (by (rw [hm]; exact nle rfl))⟩
    ·have hBs : (nth g.rules r).body = (List.range (nth g.rules r).body.length).map fun k => if (k = 0 \/ k + 1 = (nth g.rules r).body.length) /\ nth (nth g.rules r).body k = -1 - (nth g.rules r).head then -1 - lastC g l (nth g.rules r).head.toNat else nth (nth g.rules r).body k := by
      by_cases hb0 : (nth g.rules r).body.length = 0
      ·rw [List.eq_nil_of_length_eq_zero hb0]; rfl
      ·have hl0 : lastC g l (nth g.rules r).head.toNat = (nth g.rules r).head := by
        unfold lastC
        rw [show (useL g l (nth g.rules r).head.toNat).length = 0 by omega]
        show (((nth g.rules r).head.toNat : Nat) : Int) = _
        omega
       rw [hl0]
       exact bod_same
     (repeat' (first | apply jA | apply jF | apply jH | apply jI | (refine wp_cond rfl (fun hc => ?_) (fun hc => ?_) <;> (try simp only [sB, ne_eq, reduceCtorEq] at hc) <;> (try (exfalso; omega))) | (refine rgC 21 ?_; (refine smove rfl ?_); (refine sfieldp rfl rfl rfl ?_); (refine sloadp rfl rfl rfl rfl ?_); (refine slenm rfl rfl ?_); (refine slss rfl rfl ?_); apply jW) | (refine rgC 23 ?_; (refine sfieldp rfl rfl rfl ?_); (refine sloadp rfl rfl rfl rfl ?_); (refine smove rfl ?_); (refine sidxn rfl rfl (by omega) ?_); (refine sloadw rfl rfl ?_); (refine se_alloc rfl ?_); (refine se_store_b rfl rfl rfl rfl ?_); apply jW) | (refine rgC 24 ?_; (refine smove rfl ?_); (refine sfieldp rfl rfl rfl ?_); (refine sloadp rfl rfl rfl rfl ?_); (refine su (aidxz rfl rfl (by omega)) ?_); (refine sloadw rfl rfl ?_); (refine sassign rfl ?_); apply jW) | (refine rgC 25 ?_; (refine smove rfl ?_); (refine smove rfl ?_); (refine slenm rfl rfl ?_); (refine su (asub rfl rfl (by exact inr_i64_of (by omega))) ?_); (refine su (aidxz rfl rfl (by omega)) ?_); (refine sloadw rfl rfl ?_); (refine sassign rfl ?_); apply jW) | (refine rgC 26 ?_; (refine sloadpw rfl rfl rfl rfl ?_); (refine smove rfl ?_); (refine smove rfl ?_); (refine sc_p rfl rfl zq1 zq5 (hx) ?_); (refine sassign rfl ?_); apply jW) | (refine rgC 27 ?_; (refine se_lit0 ?_); (refine sfieldp rfl rfl rfl ?_); (refine sloadp rfl rfl rfl rfl ?_); (refine se_appE rfl rfl rfl rfl rfl rfl (by omega) ?_); (refine sassign rfl ?_); apply jW) | (refine rgC 28 ?_; (refine smove rfl ?_); (refine sassign rfl ?_); apply jW) | (refine rgC 29 ?_; (refine smove rfl ?_); (refine su (ageq rfl rfl) ?_); apply jW) | (refine rgC 38 ?_; (refine smove rfl ?_); (refine su (alenr rfl rfl) ?_); (refine sassign rfl ?_); apply jW) | (refine rgC 39 ?_; (refine smove rfl ?_); (refine su (agtr rfl rfl) ?_); (refine smove rfl ?_); (refine sg (gq_vt rfl rfl) (fun he => ap_move (rq_p rfl rfl)) ?_); (refine sg (gq_vt rfl rfl) (fun he => ap_len_m rfl (rq_c rfl rfl)) ?_); (refine sg (gq_vt rfl rfl) (fun he => ap_gtr (rq_c rfl rfl) (rq_p rfl rfl)) ?_); (refine su (ap_and (rq_p rfl rfl) (rq_c rfl rfl)) ?_); apply jW)))
     all_goals try (exfalso; omega)
     all_goals refine wp_frz (f := intA) 23 hm rfl rfl (by simp) (fun _ => rfl) (fun _ => rfl) ?_
     all_goals ((repeat' (first | apply jH | apply jN | (refine rgC 44 ?_; (refine smove rfl ?_); (refine smove rfl ?_); (refine smove rfl ?_); (refine sfieldp rfl rfl rfl ?_); (refine sloadp rfl rfl rfl rfl ?_); (refine su (ap_build (RqP.cons (rq_p rfl rfl) (RqP.cons (rq_p rfl rfl) (RqP.cons (rq_p rfl rfl) (RqP.nil)))) rfl) ?_); (refine se_lit (OpP.cons rfl (OpP.nil)) rfl rfl rfl rfl rfl rfl ?_); (refine se_app1R rfl rfl rfl rfl rfl rfl rfl rfl (by omega) ?_); (refine smove rfl ?_); (refine smove rfl ?_); (refine se_lit (OpP.cons rfl (OpP.nil)) rfl rfl rfl rfl rfl rfl ?_); (refine se_app1 rfl rfl rfl rfl rfl rfl rfl rfl (by omega) ?_); (refine sassign rfl ?_); (refine sassign rfl ?_); apply jW) | (refine rgC 22 ?_; (refine smove rfl ?_); (refine sadd rfl rfl (by exact inr_i64_of (by omega)) ?_); (refine sassign rfl ?_); apply jW))))
     all_goals refine ⟨r + 1, ⟨by omega, by omega⟩, ?_⟩
     all_goals rw [rulTo_succ l hrt, froTo_succ, hRS0 (nth g.rules r).body hBs]
     all_goals exact ⟨[0, 1, 2, 9, 11], ToR.S rfl (by repeat' (first | exact rt_nil | refine rt_r rfl rfl ?_ | refine rt_t rfl rfl ?_ | refine rt_e rfl rfl ?_ | refine rt_p rfl rfl (by first | (simp [AV.bd, bdL, bdL_append]; done) | fail) ?_)) (by repeat' (first | exact ro_nil | refine ro_e rfl rfl ?_ | refine ro_p rfl (by first | exact rfl | fail) (by first | exact bdL_map (fun _ => by first | exact rfl | simp [AV.bd, bdL, bdL_append]) _ | (simp [bdL, bdL_append, AV.bd]; done) | fail) ?_)) rfl (by (rw [hm]; exact rfl)) rfl zq4 (by repeat' (first | exact True.intro | exact rfl | refine And.intro ?_ ?_ | exact bdL_map (fun _ => by first | exact rfl | simp [AV.bd, bdL, bdL_append]) _ | (simp [bdOq, bdL, bdL_append, AV.bd]; done))) (by (rw [hm]; exact nle rfl))⟩
  ·obtain rfl : r = g.rules.length := by omega
   (repeat' (first | apply jA | apply jF | apply jH | apply jJ | apply jL | apply jP | (refine wp_cond rfl (fun hc => ?_) (fun hc => ?_) <;> (try simp only [sB, ne_eq, reduceCtorEq] at hc) <;> (try (exfalso; omega))) | (refine rgC 21 ?_; (refine smove rfl ?_); (refine sfieldp rfl rfl rfl ?_); (refine sloadp rfl rfl rfl rfl ?_); (refine slenm rfl rfl ?_); (refine slss rfl rfl ?_); apply jW) | (refine rgC 45 ?_; (refine sassign rfl ?_); apply jW)))
   refine wp_loop (fun (e : Nat) => e <= g.nonterms.length) (fun e => g.nonterms.length - e)
    (fun e => (S 270 [(4, .ptr 0 4 0 0), (9, .sl 1 ((chnTo g l g.nonterms.length).map intsA)), (15, .ptr 1 4 0 0), (16, .ref 2 3 0 (rulTo g l g.rules.length ++ unitsS g l e).length), (17, .ref 3 1 0 (froTo g.rules.length ++ List.replicate (unitsS g l e).length (-1)).length), (29, intA (e : Nat))] 4 [(0, some (.arr 4 [.agg [.val (.slice none 0 0), .val (.slice none 0 0), intA 0, .val (.slice none 0 0)]])), (1, some (.arr 4 [.agg [strsA g.terms, strsA (namsG g l g.nonterms.length), intA g.start, .val (.slice none 0 0)]])), (2, some (.arr 3 ((rulTo g l g.rules.length ++ unitsS g l e).map ruleA))), (3, some (.arr 1 ((froTo g.rules.length ++ List.replicate (unitsS g l e).length (-1)).map intA)))])) 0 ?_ (Nat.zero_le _) ?_
   ·rw [show unitsS g l 0 = [] from rfl, List.append_nil, show List.replicate ([] : List Rul).length (-1 : Int) = [] from rfl, List.append_nil]
    exact ⟨[1, 2, 3, 4], ToR.S rfl (by repeat' (first | exact rt_nil | refine rt_r rfl rfl ?_ | refine rt_t rfl rfl ?_ | refine rt_e rfl rfl ?_ | refine rt_p rfl rfl (by first | (simp [AV.bd, bdL, bdL_append]; done) | fail) ?_)) (by repeat' (first | exact ro_nil | refine ro_e rfl rfl ?_ | refine ro_p rfl (by first | exact rfl | fail) (by first | exact bdL_map (fun _ => by first | exact rfl | simp [AV.bd, bdL, bdL_append]) _ | (simp [bdL, bdL_append, AV.bd]; done) | fail) ?_)) rfl (by (rw [hm]; exact rfl)) rfl zq4 (by repeat' (first | exact True.intro | exact rfl | refine And.intro ?_ ?_ | exact bdL_map (fun _ => by first | exact rfl | simp [AV.bd, bdL, bdL_append]) _ | (simp [bdOq, bdL, bdL_append, AV.bd]; done))) (by (rw [hm]; exact nle rfl))⟩
   intro e he
   have hub := unitsS_bd (g := g) (l := l) hfn e
   by_cases het : e < g.nonterms.length
   ·have hC : nth (chnTo g l g.nonterms.length) e = chnG g l e := nth_range (by omega)
    have hCl := chnG_len g l e
    have hul := useL_len g l e
    have hbd : ∀ i, i < (chnG g l e).length -> 0 <= nth (chnG g l e) i /\ nth (chnG g l e) i <= 5000 := fun i hi => by
     have hm := nth_mem hi
     rw [mem_chn] at hm
     have o1 := offN_bd (g := g) (l := l) hfn e
     omega
    rw [<- hC] at hCl hbd
    (repeat' (first | apply jA | apply jF | apply jH | apply jI | (refine wp_cond rfl (fun hc => ?_) (fun hc => ?_) <;> (try simp only [sB, ne_eq, reduceCtorEq] at hc) <;> (try (exfalso; omega))) | (refine rgC 46 ?_; (refine smove rfl ?_); (refine smove rfl ?_); (refine slenm rfl rfl ?_); (refine slss rfl rfl ?_); apply jW) | (refine rgC 48 ?_; (refine sassign rfl ?_); apply jW)))
    refine wp_loop (fun (j : Nat) => j <= (useL g l e).length) (fun j => (useL g l e).length - j)
     (fun j => (S 270 [(4, .ptr 0 4 0 0), (9, .sl 1 ((chnTo g l g.nonterms.length).map intsA)), (15, .ptr 1 4 0 0), (16, .ref 2 3 0 (rulTo g l g.rules.length ++ unitsS g l e ++ untP g l e j).length), (17, .ref 3 1 0 (froTo g.rules.length ++ List.replicate ((unitsS g l e).length + j) (-1)).length), (29, intA (e : Nat)), (30, intA ((j : Nat) + 1 : Int))] 4 [(0, some (.arr 4 [.agg [.val (.slice none 0 0), .val (.slice none 0 0), intA 0, .val (.slice none 0 0)]])), (1, some (.arr 4 [.agg [strsA g.terms, strsA (namsG g l g.nonterms.length), intA g.start, .val (.slice none 0 0)]])), (2, some (.arr 3 ((rulTo g l g.rules.length ++ unitsS g l e ++ untP g l e j).map ruleA))), (3, some (.arr 1 ((froTo g.rules.length ++ List.replicate ((unitsS g l e).length + j) (-1)).map intA)))])) 0 ?_ (Nat.zero_le _) ?_
    ·rw [show untP g l e 0 = [] from rfl, List.append_nil, Nat.add_zero, show ((0 : Nat) : Int) + 1 = 1 from rfl]
     exact ⟨[0, 1, 2, 3], ToR.S rfl (by repeat' (first | exact rt_nil | refine rt_r rfl rfl ?_ | refine rt_t rfl rfl ?_ | refine rt_e rfl rfl ?_ | refine rt_p rfl rfl (by first | (simp [AV.bd, bdL, bdL_append]; done) | fail) ?_)) (by repeat' (first | exact ro_nil | refine ro_e rfl rfl ?_ | refine ro_p rfl (by first | exact rfl | fail) (by first | exact bdL_map (fun _ => by first | exact rfl | simp [AV.bd, bdL, bdL_append]) _ | (simp [bdL, bdL_append, AV.bd]; done) | fail) ?_)) rfl (by (rw [hm]; exact rfl)) rfl zq4 (by repeat' (first | exact True.intro | exact rfl | refine And.intro ?_ ?_ | exact bdL_map (fun _ => by first | exact rfl | simp [AV.bd, bdL, bdL_append]) _ | (simp [bdOq, bdL, bdL_append, AV.bd]; done))) (by (rw [hm]; exact nle rfl))⟩
    intro j hj
    have hpl := untP_len g l e j
    have hll2 : (rulTo g l g.rules.length ++ unitsS g l e ++ untP g l e j).length <= 3000 := by simp only [List.length_append]; omega
    have hll3 : (froTo g.rules.length ++ List.replicate ((unitsS g l e).length + j) (-1)).length <= 3000 := by simp only [List.length_append, List.length_replicate]; omega
    by_cases hjt : j < (useL g l e).length
    ·have c1 := hbd ((j : Int) + 1).toNat (by omega)
     have c2 := hbd (j + (nat_lit 1)) (by show j + 1 < _; omega)
     have c3 := hbd ((j : Int) + 1 - 1).toNat (by omega)
     (repeat' (first | apply jA | apply jF | apply jH | apply jI | apply jN | (refine wp_cond rfl (fun hc => ?_) (fun hc => ?_) <;> (try simp only [sB, ne_eq, reduceCtorEq] at hc) <;> (try (exfalso; omega))) | (refine rgC 49 ?_; (refine smove rfl ?_); (refine smove rfl ?_); (refine smove rfl ?_); (refine sidxn rfl rfl (by omega) ?_); (refine sloadw rfl rfl ?_); (refine slenm rfl rfl ?_); (refine slss rfl rfl ?_); apply jW) | (refine wp_draw (id := 51) 26 mixed (by kernel_rfl) (by kernel_rfl) rfl ?_ <;> (refine rmove rfl ?_) <;> (refine rmove rfl ?_) <;> (refine rmove rfl ?_) <;> (refine rd_u rfl rfl (aidxn rfl rfl (by omega)) ?_) <;> (refine rd_u rfl rfl (aloadw rfl rfl) ?_) <;> (refine rmove rfl ?_) <;> (refine rd_u rfl rfl (asub rfl rfl (by exact inr_i64_of (by omega))) ?_) <;> (refine rd_u rfl rfl (aidxz rfl rfl (by omega)) ?_) <;> (refine rd_u rfl rfl (aloadw rfl rfl) ?_) <;> (refine rmove rfl ?_) <;> (refine rmove rfl ?_) <;> (refine rd_u rfl rfl (aidxn rfl rfl (by omega)) ?_) <;> (refine rd_u rfl rfl (aloadw rfl rfl) ?_) <;> (refine rmove rfl ?_) <;> (refine rd_u rfl rfl (aidxn rfl rfl (by (simp only [sL] <;> omega))) ?_) <;> (refine rd_u rfl rfl (aloadw rfl rfl) ?_) <;> (refine rd_u rfl rfl (asub rfl rfl (by exact inr_i64_of (by omega))) ?_) <;> (refine rd_frzl (OpP.cons rfl (OpP.nil)) rfl rfl rfl rfl rfl rfl (by first | exact rfl | fail) ?_) <;> (refine rd_u rfl rfl (ap_build (RqP.cons (rq_p rfl rfl) (RqP.cons (rq_p rfl rfl) (RqP.nil))) rfl) ?_) <;> (refine rd_lit (OpP.cons rfl (OpP.nil)) rfl rfl rfl rfl rfl rfl ?_) <;> (refine rd_app rfl rfl rfl (by (simp; done)) rfl rfl rfl rfl (by (simp only [sL] <;> omega)) ?_) <;> (refine rmove rfl ?_) <;> (refine rd_frzl (OpP.cons rfl (OpP.nil)) rfl rfl rfl rfl rfl rfl (by first | exact rfl | fail) ?_) <;> (refine rd_app rfl rfl rfl (by (simp; done)) rfl rfl rfl rfl (by (simp only [sL] <;> omega)) ?_) <;> (refine rd_u rfl rfl (aassign rfl) ?_) <;> (refine rd_u rfl rfl (aassign rfl) ?_) <;> (refine rd_end (by kernel_rfl) ?_)) | (refine rgC 50 ?_; (refine smove rfl ?_); (refine sadd rfl rfl (by exact inr_i64_of (by omega)) ?_); (refine sassign rfl ?_); apply jW)))
     have hx1 : rulTo g l g.rules.length ++ unitsS g l e ++ untP g l e (j + 1) = (rulTo g l g.rules.length ++ unitsS g l e ++ untP g l e j) ++ [(⟨nth (nth (chnTo g l g.nonterms.length) e) ((j : Int) + 1 - 1).toNat, [-1 - nth (nth (chnTo g l g.nonterms.length) e) (j + 1)], 0⟩ : Rul)] := by
      rw [untP_succ, <- List.append_assoc, hC, show ((j : Int) + 1 - 1).toNat = j by omega]
     have hy1 : froTo g.rules.length ++ List.replicate ((unitsS g l e).length + (j + 1)) (-1) = (froTo g.rules.length ++ List.replicate ((unitsS g l e).length + j) (-1)) ++ [(-1 : Int)] := by
      rw [<- Nat.add_assoc, List.replicate_succ', List.append_assoc]
     have hm1 : ((rulTo g l g.rules.length ++ unitsS g l e ++ untP g l e j) ++ [(⟨nth (nth (chnTo g l g.nonterms.length) e) ((j : Int) + 1 - 1).toNat, [-1 - nth (nth (chnTo g l g.nonterms.length) e) (j + 1)], 0⟩ : Rul)]).map ruleA = (rulTo g l g.rules.length ++ unitsS g l e ++ untP g l e j).map ruleA ++ [AV.agg [intA (nth (nth (chnTo g l g.nonterms.length) e) ((j : Int) + 1 - 1).toNat), .sl 1 [.val (.int .i64 (-1 - nth (nth (chnTo g l g.nonterms.length) e) (j + 1)))], intA 0]] := by rw [List.map_append]; rfl
     have hm2 : ((rulTo g l g.rules.length ++ unitsS g l e ++ untP g l e j) ++ [(⟨nth (nth (chnTo g l g.nonterms.length) e) ((j : Int) + 1 - 1).toNat, [-1 - nth (nth (chnTo g l g.nonterms.length) e) (j + 1)], 0⟩ : Rul)]).length = ((rulTo g l g.rules.length ++ unitsS g l e ++ untP g l e j).map ruleA ++ [AV.agg [intA (nth (nth (chnTo g l g.nonterms.length) e) ((j : Int) + 1 - 1).toNat), .sl 1 [.val (.int .i64 (-1 - nth (nth (chnTo g l g.nonterms.length) e) (j + 1)))], intA 0]]).length := by simp
     have hm3 : ((froTo g.rules.length ++ List.replicate ((unitsS g l e).length + j) (-1)) ++ [(-1 : Int)]).map intA = (froTo g.rules.length ++ List.replicate ((unitsS g l e).length + j) (-1)).map intA ++ [.val (.int .i64 (-1))] := by rw [List.map_append]; rfl
     have hm4 : ((froTo g.rules.length ++ List.replicate ((unitsS g l e).length + j) (-1)) ++ [(-1 : Int)]).length = ((froTo g.rules.length ++ List.replicate ((unitsS g l e).length + j) (-1)).map intA ++ [AV.val (.int .i64 (-1))]).length := by simp
     refine ⟨j + 1, ⟨by omega, by omega⟩, ?_⟩
     rw [hx1, hy1, hm2, hm1, hm4, hm3]
     exact ⟨[0, 1, 24, 27], ToR.S rfl (by repeat' (first | exact rt_nil | refine rt_r rfl rfl ?_ | refine rt_t rfl rfl ?_ | refine rt_e rfl rfl ?_ | refine rt_p rfl rfl (by first | (simp [AV.bd, bdL, bdL_append]; done) | fail) ?_)) (by repeat' (first | exact ro_nil | refine ro_e rfl rfl ?_ | refine ro_p rfl (by first | exact rfl | fail) zq5 ?_)) rfl (by (rw [hm]; exact rfl)) rfl zq4 (by repeat' (first | exact True.intro | exact rfl | refine And.intro ?_ ?_ | (simp [bdOq, bdL, bdL_append, AV.bd]; done))) (by (rw [hm]; exact nle rfl))⟩
    ·obtain rfl : j = (useL g l e).length := by omega
     have hxe : rulTo g l g.rules.length ++ unitsS g l e ++ untP g l e (useL g l e).length = rulTo g l g.rules.length ++ unitsS g l (e + 1) := by
      rw [unitsS_succ, <- List.append_assoc]; rfl
     have hye : (unitsS g l e).length + (useL g l e).length = (unitsS g l (e + 1)).length := by rw [unitsS_succ, List.length_append, unitS_len]
     rw [hxe, hye]
     (repeat' (first | apply jA | apply jH | apply jJ | apply jL | apply jN | apply jP | (refine wp_cond rfl (fun hc => ?_) (fun hc => ?_) <;> (try simp only [sB, ne_eq, reduceCtorEq] at hc) <;> (try (exfalso; omega))) | (refine rgC 49 ?_; (refine smove rfl ?_); (refine smove rfl ?_); (refine smove rfl ?_); (refine sidxn rfl rfl (by omega) ?_); (refine sloadw rfl rfl ?_); (refine slenm rfl rfl ?_); (refine slss rfl rfl ?_); apply jW) | (refine rgC 47 ?_; (refine smove rfl ?_); (refine sadd rfl rfl (by exact inr_i64_of (by omega)) ?_); (refine sassign rfl ?_); apply jW)))
     exact ⟨e + 1, ⟨by omega, by omega⟩, ⟨[0, 1, 2, 3], ToR.S rfl (by repeat' (first | exact rt_nil | refine rt_r rfl rfl ?_ | refine rt_t rfl rfl ?_ | refine rt_e rfl rfl ?_ | refine rt_p rfl rfl (by first | (simp [AV.bd, bdL, bdL_append]; done) | fail) ?_)) (by repeat' (first | exact ro_nil | refine ro_e rfl rfl ?_ | refine ro_p rfl (by first | exact rfl | fail) (by first | exact bdL_map (fun _ => by first | exact rfl | simp [AV.bd, bdL, bdL_append]) _ | (simp [bdL, bdL_append, AV.bd]; done) | fail) ?_)) rfl (by (rw [hm]; exact rfl)) rfl zq4 (by repeat' (first | exact True.intro | exact rfl | refine And.intro ?_ ?_ | exact bdL_map (fun _ => by first | exact rfl | simp [AV.bd, bdL, bdL_append]) _ | (simp [bdOq, bdL, bdL_append, AV.bd]; done))) (by (rw [hm]; exact nle rfl))⟩⟩
   ·obtain rfl : e = g.nonterms.length := by omega
    have hsg : gramA (stratG g l) = .agg [strsA g.terms, strsA (namsG g l g.nonterms.length), intA g.start, .sl 3 ((rulTo g l g.rules.length ++ unitsS g l g.nonterms.length).map ruleA)] := by
     unfold stratG rulTo
     rw [List.take_length]; rfl
    have hvs := rvalid18_fn (stratG g l)
    have hR : stratR g l = if validG (stratG g l) then (stratG g l, fromG g l, 0) else (zG, [], 11) := by unfold stratR; rw [if_pos hc0]
    have hfg : fromG g l = froTo g.rules.length ++ List.replicate (unitsS g l g.nonterms.length).length (-1) := rfl
    rw [hR]
    refine wp_frz (f := ruleA) 16 hm rfl rfl rfl (fun _ => by simp) (fun _ => rfl) ?_
    cases hvv : validG (stratG g l) with
    | false =>
     rw [hvv, hsg] at hvs
     rw [if_neg (by simp), show stratA (zG, [], 11) = .tup [.agg [.sl 1 [], .sl 1 [], intA 0, .sl 3 []], .sl 1 [], intA 11] from rfl]
     (repeat' (first | apply jA | apply jH | apply jJ | apply jK | apply jL | apply jM | apply jP | apply jS | (refine wp_cond rfl (fun hc => ?_) (fun hc => ?_) <;> (try simp only [sB, ne_eq, reduceCtorEq] at hc) <;> (try (exfalso; omega))) | (refine rgC 46 ?_; (refine smove rfl ?_); (refine smove rfl ?_); (refine slenm rfl rfl ?_); (refine slss rfl rfl ?_); apply jW) | (refine rgC 52 ?_; (refine smove rfl ?_); (refine sfieldp rfl rfl rfl ?_); (refine se_store_b rfl rfl rfl rfl ?_); apply jW) | (refine rgC 53 ?_; (refine sloadpw rfl rfl rfl rfl ?_); (refine sc_p rfl rfl zq1 zq5 (hvs) ?_); (refine su (anot rfl) ?_); apply jW) | (refine rgC 54 ?_; (refine su (ap_build (RqP.nil) rfl) ?_); (refine se_store_b rfl rfl rfl rfl ?_); (refine sassign rfl ?_); (refine sassign rfl ?_); apply jW)))
     all_goals try (exfalso; simp at hc; done)
     exact ret_many (.cellT rfl rfl rfl rfl (.tmp rfl (.tmp rfl .nil))) (nle rfl) (by first | ((repeat' first | exact FzL.nil | refine FzL.cons ?_ ?_ | exact Fz.nil | (exact Fz.reflp (by simp [AV.bd, bdL, bdL_append])) | refine Fz.aggL ?_); done) | fail)
    | true =>
     rw [hvv, hsg] at hvs
     rw [if_pos rfl]
     unfold stratA
     simp only
     rw [hsg, hfg]
     (repeat' (first | apply jA | apply jH | apply jI | apply jJ | apply jK | apply jL | apply jP | apply jS | (refine wp_cond rfl (fun hc => ?_) (fun hc => ?_) <;> (try simp only [sB, ne_eq, reduceCtorEq] at hc) <;> (try (exfalso; omega))) | (refine rgC 46 ?_; (refine smove rfl ?_); (refine smove rfl ?_); (refine slenm rfl rfl ?_); (refine slss rfl rfl ?_); apply jW) | (refine rgC 52 ?_; (refine smove rfl ?_); (refine sfieldp rfl rfl rfl ?_); (refine se_store_b rfl rfl rfl rfl ?_); apply jW) | (refine rgC 53 ?_; (refine sloadpw rfl rfl rfl rfl ?_); (refine sc_p rfl rfl zq1 zq5 (hvs) ?_); (refine su (anot rfl) ?_); apply jW) | (refine rgC 55 ?_; (refine sloadpw rfl rfl rfl rfl ?_); (refine smove rfl ?_); (refine se_store_b rfl rfl rfl rfl ?_); (refine sassign rfl ?_); (refine sassign rfl ?_); apply jW)))
     all_goals try (exfalso; simp at hc; done)
     exact ret_many (.cellT rfl rfl rfl rfl (.tmp rfl (.tmp rfl .nil))) (nle rfl) (by first | ((repeat' first | exact FzL.nil | refine FzL.cons ?_ ?_ | (exact Fz.list rfl rfl (fun _ => by simp [AV.bd, bdL, bdL_append]) (fun _ => rfl)) | (exact Fz.reflp (by simp [AV.bd, bdL, bdL_append]))); done) | fail)
end Go.Lg
namespace Go.Lg
theorem lf_of_ok {s : Gram} (t : Tre) : ∀ y, okT s y t = true -> lfT s.rules.length t = true := by
 induction t using Tre.ind with
 | h t ih =>
  intro y hok
  rw [lfT_eq]
  by_cases hy : 0 <= y
  ·obtain rfl := (okT_leaf hy).1 hok
   rw [if_pos (show (leafT y).rule < 0 from (by show (-1 : Int) < 0; decide))]
   rfl
  ·have hT := (okT_in (by omega)).1 hok
   have h0 := hT.r0
   have h1 := hT.rn
   rw [if_neg (by omega), decide_eq_true (by omega), Bool.true_and, lfTL_iff]
   exact fun i hi => ih _ (nth_mem hi) _ (hT.kid i hi)
theorem sz_lift (fr : List Int) (t : Tre) : szTL (liftT fr t) <= szT t := by
 induction t using Tre.ind with
 | h t ih =>
  have happ : ∀ a b : List Tre, szTL (a ++ b) = szTL a + szTL b := by
   intro a b
   induction a with
   | nil => rw [List.nil_append, szTL]; omega
   | cons p a ih => rw [List.cons_append, szTL, szTL, ih]; omega
  have key : ∀ l : List Tre, (∀ x, x ∈ l -> x ∈ t.kids) -> szTL (liftTL fr l) <= szTL l := by
   intro l
   induction l with
   | nil => intro _; simp [liftTL]
   | cons a l ihl =>
    intro hl
    have h1 := ih a (hl a (by simp))
    have h2 := ihl fun x hx => hl x (by simp [hx])
    rw [liftTL, szTL, happ]; omega
  have hk := key t.kids fun _ h => h
  rw [liftT_eq]
  split
  ·simp only [szTL]; omega
  ·split
   ·rw [szT_eq t]; omega
   ·have h1 : szT (Tre.mk (nth fr t.rule.toNat) 0 (liftTL fr t.kids)) = 1 + szTL (liftTL fr t.kids) := by rw [szT_eq]; rfl
    rw [szTL, szTL, h1, szT_eq t]
    omega
theorem fromG_len (g : Gram) (l : List GLe) : (fromG g l).length = (stratG g l).rules.length := by simp [fromG, stratG]
theorem fromG_ge (g : Gram) (l : List GLe) : ∀ x, x ∈ fromG g l -> -1 <= x := by
 intro x hx
 unfold fromG at hx
 rcases List.mem_append.1 hx with hx | hx
 ·obtain ⟨i, _, rfl⟩ := List.mem_map.1 hx; omega
 ·rw [(List.mem_replicate.1 hx).2]; omega
theorem strat_law {g : Gram} {l : List GLe} (hv : GVal g) {t : Tre} (h0 : 0 <= t.rule) (h : tokT (stratG g l) t) : ∃ x, liftR t (fromG g l) = (x, 0) /\ tokT g x /\ priceT g x = priceT (stratG g l) t /\ leavesT x = leavesT t /\ szT x <= szT t := by
 obtain ⟨x, a1, a2, a3, a4⟩ := strat_tok hv h0 h
 refine ⟨x, ?_, a2, a3, a4, ?_⟩
 ·unfold liftR
  have hf : (fromG g l).all (fun x => decide (-1 <= x)) = true := by
   rw [List.all_eq_true]
   exact fun x hx => decide_eq_true (fromG_ge g l x hx)
  have hl : lfT (fromG g l).length t = true := by
   rw [fromG_len]
   rcases h with ⟨h1, _⟩ | ⟨_, _, h3⟩
   ·omega
   ·exact lf_of_ok t _ h3
  rw [if_pos hf, if_pos hl, a1]
 ·have := sz_lift (fromG g l) t
  rw [a1, szTL, szTL] at this
  omega
open Go.Proofs
attribute [local irreducible] Ap Rq asemC WP RunD Ret Gq thenA inBlockA bodyQ noGotoA RqL RqP OpP
attribute [local simp] AV.cells
theorem root23_fn {g : Gram} (hv : GVal g) (t : Tre) (h : t.rule = -1 \/ (0 <= t.rule /\ t.rule < g.rules.length)) : Fn Tryd.prog 43 [gramA g, treA t] (intA (rootT g t)) := by
 unfold rootT
 rw [treA_kids]
 by_cases hr : t.rule = -1
 ·rw [if_pos hr]
  refine Fn.intro rfl (by kernel_rfl) Tryd.func43 rfl rfl Tryd.ntmps43 (by exact nle rfl) ?_; intro Γ hm
  (repeat' (first | apply jA | apply jH | apply jK | apply jM | apply jS | (refine wp_cond rfl (fun hc => ?_) (fun hc => ?_) <;> (try simp only [sB, ne_eq, reduceCtorEq] at hc) <;> (try (exfalso; omega))) | (refine rgC 0 ?_; (refine se_box rfl (by exact ⟨rfl, rfl⟩) ?_); (refine se_box rfl (by exact ⟨rfl, rfl⟩) ?_); (refine sassign rfl ?_); apply jW) | (refine rgC 1 ?_; (refine sfieldp rfl rfl rfl ?_); (refine sloadp rfl rfl rfl rfl ?_); (refine seql rfl rfl ?_); apply jW) | (refine rgC 2 ?_; (refine sfieldp rfl rfl rfl ?_); (refine sloadp rfl rfl rfl rfl ?_); (refine sassign rfl ?_); apply jW) | exact ret_eq rfl rfl rfl))
  all_goals ((exfalso; omega))
 ·rw [if_neg hr]
  have hrf := hv.rule _ (nth_mem (show t.rule.toNat < g.rules.length by omega))
  have h0 := hrf.h0
  have h1 := hrf.hn
  have hn2 := hv.n2
  refine Fn.intro rfl (by kernel_rfl) Tryd.func43 rfl rfl Tryd.ntmps43 (by exact nle rfl) ?_; intro Γ hm
  (repeat' (first | apply jA | apply jH | apply jI | apply jK | apply jS | (refine wp_cond rfl (fun hc => ?_) (fun hc => ?_) <;> (try simp only [sB, ne_eq, reduceCtorEq] at hc) <;> (try (exfalso; omega))) | (refine rgC 0 ?_; (refine se_box rfl (by exact ⟨rfl, rfl⟩) ?_); (refine se_box rfl (by exact ⟨rfl, rfl⟩) ?_); (refine sassign rfl ?_); apply jW) | (refine rgC 1 ?_; (refine sfieldp rfl rfl rfl ?_); (refine sloadp rfl rfl rfl rfl ?_); (refine seql rfl rfl ?_); apply jW) | (refine rgC 3 ?_; (refine sfieldp rfl rfl rfl ?_); (refine sloadp rfl rfl rfl rfl ?_); (refine sfieldp rfl rfl rfl ?_); (refine sloadp rfl rfl rfl rfl ?_); (refine su (aidxz rfl rfl (by omega)) ?_); (refine su (afieldi rfl rfl rfl) ?_); (refine su (aloadi rfl rfl) ?_); (refine su (asub rfl rfl (by exact inr_i64_of (by omega))) ?_); (refine sassign rfl ?_); apply jW) | exact ret_eq rfl rfl rfl))
  all_goals ((exfalso; omega))
theorem vT_in {g : Gram} {t : Tre} (h : vT g t = true) : t.rule = -1 \/ (0 <= t.rule /\ t.rule < g.rules.length) := by
 unfold vT at h
 split at h
 ·left; assumption
 ·simp only [Bool.and_eq_true, decide_eq_true_eq] at h; right; exact h.1
theorem okT_vT {g : Gram} (hv : GVal g) {x : Int} (hx : x < g.terms.length) (t : Tre) : okT g x t = (vT g t && decide (rootT g t = x)) := by
 rw [Bool.eq_iff_iff, Bool.and_eq_true, decide_eq_true_eq]
 unfold vT
 by_cases hr : t.rule = -1
 ·rw [if_pos hr]
  have er : rootT g t = t.term := by unfold rootT; rw [if_pos hr]
  rw [er, okT_eq]
  simp only [Bool.and_eq_true, decide_eq_true_eq]
  by_cases h0 : 0 <= x
  ·rw [if_pos h0]
   simp only [Bool.and_eq_true, decide_eq_true_eq]
   omega
  ·rw [if_neg h0]
   simp only [Bool.and_eq_true, decide_eq_true_eq]
   omega
 ·rw [if_neg hr]
  have er : rootT g t = -1 - (nth g.rules t.rule.toNat).head := by unfold rootT; rw [if_neg hr]
  simp only [Bool.and_eq_true, decide_eq_true_eq]
  constructor
  ·intro h
   by_cases h0 : 0 <= x
   ·rw [okT_leaf h0] at h; subst h; exact absurd rfl hr
   ·have hT := (okT_in (by omega)).1 h
    have h1 := hT.hd
    have h2 := hT.r0
    have h3 := hT.rn
    have e : rootT g t = x := by omega
    exact ⟨⟨⟨h2, by omega⟩, by rw [e]; exact h⟩, e⟩
  ·rintro ⟨h, rfl⟩; exact h.2
theorem valid23_fn {g : Gram} (hv : GVal g) (t : Tre) : Fn Tryd.prog 27 [gramA g, treA t] (boolA (vT g t)) := by
 induction t using Tre.ind with
 | h t ih =>
  have hroot := fun (k : Tre) (h : vT g k = true) => root23_fn hv k (vT_in h)
  have hkey : t.rule ≠ -1 -> vT g t = (decide (0 <= t.rule) && decide (t.rule < g.rules.length) && decide (t.term = 0) && decide (t.kids.length = (nth g.rules t.rule.toNat).body.length) && okTL g (nth g.rules t.rule.toNat).body t.kids) := fun hr => by
   by_cases hin : 0 <= t.rule /\ t.rule < g.rules.length
   ·have hrf := hv.rule _ (nth_mem (show t.rule.toNat < g.rules.length by omega))
    have h0 := hrf.h0
    unfold vT
    rw [if_neg hr, okT_eq, rootT, if_neg hr, if_neg (by omega), decide_eq_true (show (nth g.rules t.rule.toNat).head = -1 - (-1 - (nth g.rules t.rule.toNat).head) by omega), Bool.and_true, decide_eq_true hin.1, decide_eq_true hin.2]
    simp only [Bool.true_and]
   ·have e2 : vT g t = false := by
     rw [Bool.eq_false_iff]
     intro h
     exact hin ((vT_in h).resolve_left hr)
    rw [e2]
    refine Eq.symm (Bool.eq_false_iff.2 ?_)
    simp only [ne_eq, Bool.and_eq_true, decide_eq_true_eq]
    exact fun h => hin h.1.1.1
  have hleaf : t.rule = -1 -> vT g t = (decide (0 <= t.term) && decide (t.term < g.terms.length) && decide (t.kids.length = 0)) := fun hr => by unfold vT; rw [if_pos hr]
  rw [treA_kids]
  generalize vT g t = V at *
  generalize t.kids = kids at *
  generalize t.rule = rule at *
  generalize t.term = term at *
  clear t
  refine Fn.intro rfl (by kernel_rfl) Tryd.func27 rfl rfl Tryd.ntmps27 (by exact nle rfl) ?_; intro Γ hm
  refine wp_lens 1 rfl fun hl => ?_
  have hl : kids.length <= 9223372036854775807 := by have := hl; simp [AV.lens, lensL, tresA] at this; omega
  have hr2 := hv.r2
  have ht2 := hv.terms
  by_cases hr : rule = -1
  ·rw [hleaf hr]
   (repeat' (first | apply jA | apply jH | apply jK | apply jM | apply jS | (refine wp_cond rfl (fun hc => ?_) (fun hc => ?_) <;> (try simp only [sB, ne_eq, reduceCtorEq] at hc) <;> (try (exfalso; omega))) | (refine rgC 0 ?_; (refine se_box rfl (by exact ⟨rfl, rfl⟩) ?_); (refine se_box rfl (by exact ⟨rfl, rfl⟩) ?_); (refine sassign rfl ?_); apply jW) | (refine rgC 1 ?_; (refine sfieldp rfl rfl rfl ?_); (refine sloadp rfl rfl rfl rfl ?_); (refine seql rfl rfl ?_); apply jW) | (refine rgC 2 ?_; (refine sfieldp rfl rfl rfl ?_); (refine sloadp rfl rfl rfl rfl ?_); (refine su (ageq rfl rfl) ?_); (refine smove rfl ?_); (refine sg (gq_vt rfl rfl) (fun he => ap_field_p (rq_p rfl rfl) rfl rfl) ?_); (refine sg (gq_vt rfl rfl) (fun he => ap_load_p (rq_c rfl rfl) rfl rfl rfl) ?_); (refine sg (gq_vt rfl rfl) (fun he => ap_field_p (rq_p rfl rfl) rfl rfl) ?_); (refine sg (gq_vt rfl rfl) (fun he => ap_load_p (rq_c rfl rfl) rfl rfl rfl) ?_); (refine sg (gq_vt rfl rfl) (fun he => ap_len_m rfl (rq_c rfl rfl)) ?_); (refine sg (gq_vt rfl rfl) (fun he => ap_lss (rq_c rfl rfl) (rq_c rfl rfl)) ?_); (refine su (ap_and (rq_p rfl rfl) (rq_c rfl rfl)) ?_); (refine smove rfl ?_); (refine sg (gq_vt rfl rfl) (fun he => ap_field_p (rq_p rfl rfl) rfl rfl) ?_); (refine sg (gq_vt rfl rfl) (fun he => ap_load_p (rq_c rfl rfl) rfl rfl rfl) ?_); (refine sg (gq_vt rfl rfl) (fun he => ap_len_m rfl (rq_c rfl rfl)) ?_); (refine sg (gq_vt rfl rfl) (fun he => ap_eql (rq_c rfl rfl) (rq_p rfl rfl)) ?_); (refine su (ap_and (rq_p rfl rfl) (rq_c rfl rfl)) ?_); (refine sassign rfl ?_); apply jW) | refine ret_b rfl ?_))
   all_goals ((rw [Bool.eq_iff_iff]; simp only [Bool.and_eq_true, decide_eq_true_eq]; omega))
  ·have hkey := hkey hr
   clear hleaf
   by_cases hin : 0 <= rule /\ rule < g.rules.length
   ·rw [decide_eq_true hin.1, decide_eq_true hin.2, Bool.true_and, Bool.true_and] at hkey
    have hrf := hv.rule _ (nth_mem (show rule.toNat < g.rules.length by omega))
    have hbl := hrf.len
    (repeat' (first | apply jA | apply jF | apply jH | apply jI | apply jK | apply jM | apply jS | (refine wp_cond rfl (fun hc => ?_) (fun hc => ?_) <;> (try simp only [sB, ne_eq, reduceCtorEq] at hc) <;> (try (exfalso; omega))) | (refine rgC 0 ?_; (refine se_box rfl (by exact ⟨rfl, rfl⟩) ?_); (refine se_box rfl (by exact ⟨rfl, rfl⟩) ?_); (refine sassign rfl ?_); apply jW) | (refine rgC 1 ?_; (refine sfieldp rfl rfl rfl ?_); (refine sloadp rfl rfl rfl rfl ?_); (refine seql rfl rfl ?_); apply jW) | (refine wp_draw (id := 3) 30 mixed (by kernel_rfl) (by kernel_rfl) rfl ?_ <;> (refine rfieldp rfl rfl rfl ?_) <;> (refine rloadp rfl rfl rfl rfl ?_) <;> (refine rd_u rfl rfl (alss rfl rfl) ?_) <;> (refine rmove rfl ?_) <;> ((refine rd_split (t := 29) rfl (fun hc => ?_) (fun hc => ?_) <;> (try simp only [sB, ne_eq, reduceCtorEq] at hc) <;> (try (exfalso; omega)) <;> (refine gfieldp rfl rfl rfl rfl rfl ?_))) <;> (refine gloadp rfl rfl rfl rfl rfl rfl ?_) <;> (refine gfieldp rfl rfl rfl rfl rfl ?_) <;> (refine gloadp rfl rfl rfl rfl rfl rfl ?_) <;> (refine rdg_u rfl rfl rfl rfl (alenm rfl rfl) ?_) <;> (refine rdg_u rfl rfl rfl rfl (ageq rfl rfl) ?_) <;> (refine rd_pick_f rfl rfl ?_) <;> (refine rmove rfl ?_) <;> ((refine rd_split (t := 37) rfl (fun hc => ?_) (fun hc => ?_) <;> (try simp only [sB, ne_eq, reduceCtorEq] at hc) <;> (try (exfalso; omega)) <;> (refine gfieldp rfl rfl rfl rfl rfl ?_))) <;> (refine gloadp rfl rfl rfl rfl rfl rfl ?_) <;> (refine rdg_u rfl rfl rfl rfl (aneq rfl rfl) ?_) <;> (refine rd_pick_f rfl rfl ?_) <;> (refine rmove rfl ?_) <;> ((refine rd_split (t := 42) rfl (fun hc => ?_) (fun hc => ?_) <;> (try simp only [sB, ne_eq, reduceCtorEq] at hc) <;> (try (exfalso; omega)) <;> (first | refine rd_skip rfl rfl ?_ | refine gfieldp rfl rfl rfl rfl rfl ?_))) <;> (first | refine rd_skip rfl rfl ?_ | refine gloadp rfl rfl rfl rfl rfl rfl ?_) <;> (first | refine rd_skip rfl rfl ?_ | refine rdg_u rfl rfl rfl rfl (alenm rfl rfl) ?_) <;> (first | refine rd_skip rfl rfl ?_ | refine gfieldp rfl rfl rfl rfl rfl ?_) <;> (first | refine rd_skip rfl rfl ?_ | refine gloadp rfl rfl rfl rfl rfl rfl ?_) <;> (first | refine rd_skip rfl rfl ?_ | refine gfieldp rfl rfl rfl rfl rfl ?_) <;> (first | refine rd_skip rfl rfl ?_ | refine gloadp rfl rfl rfl rfl rfl rfl ?_) <;> (first | refine rd_skip rfl rfl ?_ | refine rdg_u rfl rfl rfl rfl (aidxz rfl rfl (by omega)) ?_) <;> (first | refine rd_skip rfl rfl ?_ | refine rdg_u rfl rfl rfl rfl (afieldi rfl rfl rfl) ?_) <;> (first | refine rd_skip rfl rfl ?_ | refine rdg_u rfl rfl rfl rfl (aloadi rfl rfl) ?_) <;> (first | refine rd_skip rfl rfl ?_ | refine rdg_u rfl rfl rfl rfl (alenm rfl rfl) ?_) <;> (first | refine rd_skip rfl rfl ?_ | refine rdg_u rfl rfl rfl rfl (aneq rfl rfl) ?_) <;> (first | refine rd_pick_t rfl rfl ?_ | refine rd_pick_f rfl rfl ?_) <;> (refine rd_end (by kernel_rfl) ?_)) | (refine WP.regionC ?_; (refine sassign rfl ?_); apply jW) | refine ret_b rfl ?_))
    all_goals try (exfalso; omega)
    all_goals try (rw [hkey]; refine Eq.symm ?_; grind; done)
    have hkl : kids.length = (nth g.rules rule.toNat).body.length := by omega
    have ht0 : term = 0 := by omega
    rw [decide_eq_true ht0, decide_eq_true hkl, Bool.true_and, Bool.true_and] at hkey
    rw [hkey]
    refine wp_loop (fun (i : Nat) => i <= kids.length /\ ∀ j, j < i -> okT g (nth (nth g.rules rule.toNat).body j) (nth kids j) = true) (fun i => kids.length - i)
     (fun i => (S 91 [(2, .ptr 0 4 0 0), (3, .ptr 1 3 0 0), (5, intA (i : Nat))] 2 [(0, some (.arr 4 [gramA g])), (1, some (.arr 3 [.agg [intA rule, intA term, tresA kids]]))])) 0 ⟨[0, 1], ToR.S rfl (by repeat' (first | exact rt_nil | refine rt_t rfl rfl ?_ | refine rt_e rfl rfl ?_)) (by repeat' (first | exact ro_nil | refine ro_p rfl (by first | exact rfl | fail) zq5 ?_)) rfl (by (rw [hm]; exact rfl)) rfl zq4 zq3 (by (rw [hm]; exact nle rfl))⟩ ⟨Nat.zero_le _, fun j hj => by omega⟩ ?_
    rintro i ⟨hi, hall⟩
    by_cases hlt : i < kids.length
    ·have hx := ih _ (nth_mem hlt)
     have hlb : i < (nth g.rules rule.toNat).body.length := by omega
     have hok := okT_vT hv (hrf.hi _ (nth_mem hlb)) (nth kids i)
     by_cases hvk : vT g (nth kids i) = true
     ·have hrt := hroot _ hvk
      rw [hvk] at hx
      rw [hvk, Bool.true_and] at hok
      (repeat' (first | apply jA | apply jF | apply jH | apply jI | apply jK | apply jM | apply jN | apply jO | apply jS | (refine wp_cond rfl (fun hc => ?_) (fun hc => ?_) <;> (try simp only [sB, ne_eq, reduceCtorEq] at hc) <;> (try (exfalso; omega))) | (refine rgC 6 ?_; (refine smove rfl ?_); (refine sfieldp rfl rfl rfl ?_); (refine sloadp rfl rfl rfl rfl ?_); (refine slenm rfl rfl ?_); (refine slss rfl rfl ?_); apply jW) | (refine wp_draw (id := 8) 28 mixed (by kernel_rfl) (by kernel_rfl) rfl ?_ <;> (refine rd_u rfl rfl (aloadpw rfl rfl rfl rfl) ?_) <;> (refine rfieldp rfl rfl rfl ?_) <;> (refine rloadp rfl rfl rfl rfl ?_) <;> (refine rmove rfl ?_) <;> (refine rd_u rfl rfl (aidxn rfl rfl (by omega)) ?_) <;> (refine rd_u rfl rfl (aloadw rfl rfl) ?_) <;> (refine rd_call rfl rfl zq1 zq5 (hx) ?_) <;> (refine rd_u rfl rfl (anot rfl) ?_) <;> (refine rmove rfl ?_) <;> (refine rdg_u rfl rfl rfl rfl (aloadpw rfl rfl rfl rfl) ?_) <;> (refine gfieldp rfl rfl rfl rfl rfl ?_) <;> (refine gloadp rfl rfl rfl rfl rfl rfl ?_) <;> (refine gmove rfl rfl rfl ?_) <;> (refine rdg_u rfl rfl rfl rfl (aidxn rfl rfl (by omega)) ?_) <;> (refine rdg_u rfl rfl rfl rfl (aloadw rfl rfl) ?_) <;> (refine rdg_call rfl rfl rfl rfl zq1 zq5 (hrt) ?_) <;> (refine gfieldp rfl rfl rfl rfl rfl ?_) <;> (refine gloadp rfl rfl rfl rfl rfl rfl ?_) <;> (refine gfieldp rfl rfl rfl rfl rfl ?_) <;> (refine gloadp rfl rfl rfl rfl rfl rfl ?_) <;> (refine rdg_u rfl rfl rfl rfl (aidxz rfl rfl (by omega)) ?_) <;> (refine rdg_u rfl rfl rfl rfl (afieldi rfl rfl rfl) ?_) <;> (refine rdg_u rfl rfl rfl rfl (aloadi rfl rfl) ?_) <;> (refine gmove rfl rfl rfl ?_) <;> (refine rdg_u rfl rfl rfl rfl (aidxn rfl rfl (by omega)) ?_) <;> (refine rdg_u rfl rfl rfl rfl (aloadw rfl rfl) ?_) <;> (refine rdg_u rfl rfl rfl rfl (aneq rfl rfl) ?_) <;> (refine rd_pick_f rfl rfl ?_) <;> (refine rd_end (by kernel_rfl) ?_)) | (refine rgC 9 ?_; (refine sassign rfl ?_); apply jW) | (refine rgC 7 ?_; (refine smove rfl ?_); (refine sadd rfl rfl (by exact inr_i64_of (by omega)) ?_); (refine sassign rfl ?_); apply jW) | refine ret_b rfl ?_))
      ·rw [okTL_noY g hkl hlt (by rw [hok]; exact decide_eq_false (by grind))]
      ·exact ⟨i + 1, ⟨by omega, by omega, fun j hj => by
        by_cases e : j = i
        ·subst e; rw [hok]; exact decide_eq_true (by grind)
        ·exact hall j (by omega)⟩, ⟨[0, 1], ToR.S rfl (by repeat' (first | exact rt_nil | refine rt_t rfl rfl ?_ | refine rt_e rfl rfl ?_)) (by repeat' (first | exact ro_nil | refine ro_p rfl (by first | exact rfl | fail) zq5 ?_)) rfl (by (rw [hm]; exact rfl)) rfl zq4 zq3 (by (rw [hm]; exact nle rfl))⟩⟩
     ·have hvk : vT g (nth kids i) = false := by simpa using hvk
      rw [hvk] at hx
      rw [hvk, Bool.false_and] at hok
      (repeat' (first | apply jA | apply jF | apply jH | apply jI | apply jK | apply jM | apply jO | apply jS | (refine wp_cond rfl (fun hc => ?_) (fun hc => ?_) <;> (try simp only [sB, ne_eq, reduceCtorEq] at hc) <;> (try (exfalso; omega))) | (refine rgC 6 ?_; (refine smove rfl ?_); (refine sfieldp rfl rfl rfl ?_); (refine sloadp rfl rfl rfl rfl ?_); (refine slenm rfl rfl ?_); (refine slss rfl rfl ?_); apply jW) | (refine wp_draw (id := 8) 28 mixed (by kernel_rfl) (by kernel_rfl) rfl ?_ <;> (refine rd_u rfl rfl (aloadpw rfl rfl rfl rfl) ?_) <;> (refine rfieldp rfl rfl rfl ?_) <;> (refine rloadp rfl rfl rfl rfl ?_) <;> (refine rmove rfl ?_) <;> (refine rd_u rfl rfl (aidxn rfl rfl (by omega)) ?_) <;> (refine rd_u rfl rfl (aloadw rfl rfl) ?_) <;> (refine rd_call rfl rfl zq1 zq5 (hx) ?_) <;> (refine rd_u rfl rfl (anot rfl) ?_) <;> (refine rmove rfl ?_) <;> (refine rd_skip rfl rfl ?_) <;> (refine rd_skip rfl rfl ?_) <;> (refine rd_skip rfl rfl ?_) <;> (refine rd_skip rfl rfl ?_) <;> (refine rd_skip rfl rfl ?_) <;> (refine rd_skip rfl rfl ?_) <;> (refine rd_skip rfl rfl ?_) <;> (refine rd_skip rfl rfl ?_) <;> (refine rd_skip rfl rfl ?_) <;> (refine rd_skip rfl rfl ?_) <;> (refine rd_skip rfl rfl ?_) <;> (refine rd_skip rfl rfl ?_) <;> (refine rd_skip rfl rfl ?_) <;> (refine rd_skip rfl rfl ?_) <;> (refine rd_skip rfl rfl ?_) <;> (refine rd_skip rfl rfl ?_) <;> (refine rd_skip rfl rfl ?_) <;> (refine rd_skip rfl rfl ?_) <;> (refine rd_pick_t rfl rfl ?_) <;> (refine rd_end (by kernel_rfl) ?_)) | (refine rgC 9 ?_; (refine sassign rfl ?_); apply jW) | refine ret_b rfl ?_))
      rw [okTL_noY g hkl hlt hok]
    ·have e1 : okTL g (nth g.rules rule.toNat).body kids = true := (okTL_iff g _ kids hkl.symm).2 fun j hj => hall j (by omega)
     rw [e1]
     (repeat' (first | apply jA | apply jH | apply jJ | apply jK | apply jL | apply jP | apply jS | (refine wp_cond rfl (fun hc => ?_) (fun hc => ?_) <;> (try simp only [sB, ne_eq, reduceCtorEq] at hc) <;> (try (exfalso; omega))) | (refine rgC 6 ?_; (refine smove rfl ?_); (refine sfieldp rfl rfl rfl ?_); (refine sloadp rfl rfl rfl rfl ?_); (refine slenm rfl rfl ?_); (refine slss rfl rfl ?_); apply jW) | (refine rgC 10 ?_; (refine sassign rfl ?_); apply jW) | exact ret_eq rfl rfl rfl))
   ·have e2 : V = false := by
     rw [hkey]
     refine Bool.eq_false_iff.2 ?_
     simp only [ne_eq, Bool.and_eq_true, decide_eq_true_eq]
     exact fun h => hin h.1.1.1
    rw [e2]
    (repeat' (first | apply jA | apply jH | apply jI | apply jK | apply jM | apply jS | (refine wp_cond rfl (fun hc => ?_) (fun hc => ?_) <;> (try simp only [sB, ne_eq, reduceCtorEq] at hc) <;> (try (exfalso; omega))) | (refine rgC 0 ?_; (refine se_box rfl (by exact ⟨rfl, rfl⟩) ?_); (refine se_box rfl (by exact ⟨rfl, rfl⟩) ?_); (refine sassign rfl ?_); apply jW) | (refine rgC 1 ?_; (refine sfieldp rfl rfl rfl ?_); (refine sloadp rfl rfl rfl rfl ?_); (refine seql rfl rfl ?_); apply jW) | (refine wp_draw (id := 3) 30 mixed (by kernel_rfl) (by kernel_rfl) rfl ?_ <;> (refine rfieldp rfl rfl rfl ?_) <;> (refine rloadp rfl rfl rfl rfl ?_) <;> (refine rd_u rfl rfl (alss rfl rfl) ?_) <;> (refine rmove rfl ?_) <;> ((refine rd_split (t := 29) rfl (fun hc => ?_) (fun hc => ?_) <;> (try simp only [sB, ne_eq, reduceCtorEq] at hc) <;> (try (exfalso; omega)) <;> (first | refine rd_skip rfl rfl ?_ | refine gfieldp rfl rfl rfl rfl rfl ?_))) <;> (first | refine rd_skip rfl rfl ?_ | refine gloadp rfl rfl rfl rfl rfl rfl ?_) <;> (first | refine rd_skip rfl rfl ?_ | refine gfieldp rfl rfl rfl rfl rfl ?_) <;> (first | refine rd_skip rfl rfl ?_ | refine gloadp rfl rfl rfl rfl rfl rfl ?_) <;> (first | refine rd_skip rfl rfl ?_ | refine rdg_u rfl rfl rfl rfl (alenm rfl rfl) ?_) <;> (first | refine rd_skip rfl rfl ?_ | refine rdg_u rfl rfl rfl rfl (ageq rfl rfl) ?_) <;> (first | refine rd_pick_t rfl rfl ?_ | refine rd_pick_f rfl rfl ?_) <;> (refine rmove rfl ?_) <;> (first | refine rd_skip rfl rfl ?_ | (refine rd_split (t := 37) rfl (fun hc => ?_) (fun hc => ?_) <;> (try simp only [sB, ne_eq, reduceCtorEq] at hc) <;> (try (exfalso; omega)) <;> (refine rd_skip rfl rfl ?_))) <;> (refine rd_skip rfl rfl ?_) <;> (refine rd_skip rfl rfl ?_) <;> (refine rd_pick_t rfl rfl ?_) <;> (refine rmove rfl ?_) <;> (refine rd_skip rfl rfl ?_) <;> (refine rd_skip rfl rfl ?_) <;> (refine rd_skip rfl rfl ?_) <;> (refine rd_skip rfl rfl ?_) <;> (refine rd_skip rfl rfl ?_) <;> (refine rd_skip rfl rfl ?_) <;> (refine rd_skip rfl rfl ?_) <;> (refine rd_skip rfl rfl ?_) <;> (refine rd_skip rfl rfl ?_) <;> (refine rd_skip rfl rfl ?_) <;> (refine rd_skip rfl rfl ?_) <;> (refine rd_skip rfl rfl ?_) <;> (refine rd_pick_t rfl rfl ?_) <;> (refine rd_end (by kernel_rfl) ?_)) | (refine rgC 4 ?_; (refine sassign rfl ?_); apply jW) | exact ret_eq rfl rfl rfl))
    all_goals ((exfalso; omega))
theorem rvalid23_fn (g : Gram) (t : Tre) : Fn Tryd.prog 8 [gramA g, treA t] (boolA (validT g t)) := by
 have hg := rvalid18_fn g
 unfold validT
 cases hval : validG g with
 | false =>
  rw [hval] at hg
  rw [treA_kids]
  refine Fn.intro rfl (by kernel_rfl) Tryd.func8 rfl rfl Tryd.ntmps8 (by exact nle rfl) ?_; intro Γ hm
  (repeat' (first | apply jA | apply jH | apply jK | apply jS | (refine rgC 0 ?_; (refine se_box rfl (by exact ⟨rfl, rfl⟩) ?_); (refine se_box rfl (by exact ⟨rfl, rfl⟩) ?_); (refine sassign rfl ?_); apply jW) | (refine rgC 1 ?_; (refine sloadpw rfl rfl rfl rfl ?_); (refine sc_p rfl rfl zq1 zq5 (hg) ?_); (refine smove rfl ?_); (refine sg (gq_vt rfl rfl) (fun he => ap_load_pw (rq_p rfl rfl) rfl rfl rfl) ?_); (refine sg (gq_vt rfl rfl) (fun he => ap_load_pw (rq_p rfl rfl) rfl rfl rfl) ?_); (refine sk_no rfl rfl ?_); (refine pk_f rfl rfl ?_); (refine sassign rfl ?_); apply jW) | exact ret_eq rfl rfl rfl))
  all_goals ((exfalso; simp at hc; done))
 | true =>
  rw [hval] at hg
  have hx := valid23_fn (validG_iff.1 hval) t
  rw [Bool.true_and]
  rw [treA_kids] at hx ⊢
  refine Fn.intro rfl (by kernel_rfl) Tryd.func8 rfl rfl Tryd.ntmps8 (by exact nle rfl) ?_; intro Γ hm
  (repeat' (first | apply jA | apply jH | apply jK | apply jS | (refine rgC 0 ?_; (refine se_box rfl (by exact ⟨rfl, rfl⟩) ?_); (refine se_box rfl (by exact ⟨rfl, rfl⟩) ?_); (refine sassign rfl ?_); apply jW) | (refine rgC 1 ?_; (refine sloadpw rfl rfl rfl rfl ?_); (refine sc_p rfl rfl zq1 zq5 (hg) ?_); (refine smove rfl ?_); (refine sg (gq_vt rfl rfl) (fun he => ap_load_pw (rq_p rfl rfl) rfl rfl rfl) ?_); (refine sg (gq_vt rfl rfl) (fun he => ap_load_pw (rq_p rfl rfl) rfl rfl rfl) ?_); (refine sg_p (gq_vt rfl rfl) (fun he => ⟨(rq_p rfl rfl), (RqL.cons (rq_c rfl rfl) (RqL.cons (rq_c rfl rfl) (RqL.nil))), zq1, zq5, hx⟩) ?_); (refine su (ap_and (rq_p rfl rfl) (rq_c rfl rfl)) ?_); (refine sassign rfl ?_); apply jW) | exact ret_eq rfl rfl rfl))
  all_goals ((exfalso; simp at hc; done))
end Go.Lg
namespace Go.Lg
open Go.Proofs
attribute [local irreducible] Ap Rq asemC WP RunD Ret Gq thenA inBlockA bodyQ noGotoA RqL RqP OpP
attribute [local simp] AV.cells
theorem tresA_one (f tm : Int) (L : List Tre) : tresA [.mk f tm L] = .sl 3 [.agg [intA f, intA tm, .sl 3 (L.map treA)]] := by
 simp only [tresA, List.map_cons, List.map_nil, treA_eq, Tre.rule, Tre.term, Tre.kids]
theorem liftTL_take_len (fr : List Int) (l : List Tre) (i : Nat) : (liftTL fr (l.take i)).length <= szTL l := by
 have h1 := liftTL_len fr (l.take i)
 have h2 := szTL_take l i
 omega
theorem lift_fn (from_ : List Int) (hf : from_.length <= 1000) (t : Tre) : lfT from_.length t = true -> szT t <= 1000000 -> Fn Tryd.prog 29 [treA t, intsA from_] (tresA (liftT from_ t)) := by
 induction t using Tre.ind with
 | h t ih =>
  intro hlf hz
  have hle := leaf_fn t
  rw [lfT_eq] at hlf
  rw [szT_eq] at hz
  have hLL := liftTL_len from_ t.kids
  have hszk := fun (i : Nat) (hi : i < t.kids.length) => szTL_mem (nth_mem hi)
  have htk := liftTL_take_len from_ t.kids
  rw [liftT_eq]
  have het : t = .mk t.rule t.term t.kids := by cases t; rfl
  by_cases hr : t.rule = -1
  ·rw [if_pos hr]
   rw [decide_eq_true hr] at hle
   rw [treA_kids] at hle ⊢
   refine Fn.intro (by simp [AV.bd, bdL, bdL_append]) (by kernel_rfl) Tryd.func29 rfl rfl Tryd.ntmps29 (by exact nle rfl) ?_; intro Γ hm
   (repeat' (first | apply jA | apply jH | apply jK | apply jM | apply jS | (refine wp_cond rfl (fun hc => ?_) (fun hc => ?_) <;> (try simp only [sB, ne_eq, reduceCtorEq] at hc) <;> (try (exfalso; omega))) | (refine rgC 0 ?_; (refine se_box rfl (by exact ⟨rfl, rfl⟩) ?_); (refine sassign rfl ?_); apply jW) | (refine rgC 1 ?_; (refine sloadpw rfl rfl rfl rfl ?_); (refine sc_p rfl rfl zq1 zq5 (hle) ?_); apply jW) | (refine rgC 2 ?_; (refine sloadpw rfl rfl rfl rfl ?_); (refine se_lit (OpP.cons rfl (OpP.nil)) rfl rfl rfl rfl rfl rfl ?_); (refine sassign rfl ?_); apply jW)))
   all_goals try (exfalso; simp at hc; done)
   rw [show tresA [t] = .sl 3 [.agg [intA t.rule, intA t.term, tresA t.kids]] by simp only [tresA, List.map_cons, List.map_nil, treA_eq]]
   exact ret_1 rfl (by first | ((repeat' first | exact FzL.nil | refine FzL.cons ?_ ?_ | (exact Fz.reflp (by simp [AV.bd, bdL, bdL_append])) | refine Fz.rowL rfl rfl rfl ?_); done) | fail)
  ·rw [if_neg hr]
   rw [decide_eq_false hr] at hle
   have hl2 : 0 <= t.rule /\ t.rule < from_.length /\ lfTL from_.length t.kids = true := by
    split at hlf
    ·simp only [Bool.and_eq_true, decide_eq_true_eq] at hlf; exact absurd hlf.1 hr
    ·simp only [Bool.and_eq_true, decide_eq_true_eq] at hlf; exact ⟨by omega, hlf.1, hlf.2⟩
   obtain ⟨hr0, hrn, hlk⟩ := hl2
   have hlk := (lfTL_iff _ _).1 hlk
   have hin := fun i (hi : i < t.kids.length) => ih _ (nth_mem hi) (hlk i hi)
   clear ih het hlf hlk
   rw [treA_kids] at hle ⊢
   generalize t.kids = kids at *
   generalize t.rule = rule at *
   generalize t.term = term at *
   clear t
   refine Fn.intro (by simp [AV.bd, bdL, bdL_append]) (by kernel_rfl) Tryd.func29 rfl rfl Tryd.ntmps29 (by exact nle rfl) ?_; intro Γ hm
   refine wp_lens 0 rfl fun hl => ?_
   have hl : kids.length <= 9223372036854775807 := by have := hl; simp [AV.lens, lensL, tresA] at this; omega
   (repeat' (first | apply jA | apply jF | apply jH | apply jI | (refine wp_cond rfl (fun hc => ?_) (fun hc => ?_) <;> (try simp only [sB, ne_eq, reduceCtorEq] at hc) <;> (try (exfalso; omega))) | (refine rgC 0 ?_; (refine se_box rfl (by exact ⟨rfl, rfl⟩) ?_); (refine sassign rfl ?_); apply jW) | (refine rgC 1 ?_; (refine sloadpw rfl rfl rfl rfl ?_); (refine sc_p rfl rfl zq1 zq5 (hle) ?_); apply jW) | (refine rgC 3 ?_; (refine sassign rfl ?_); apply jW) | (refine rgC 4 ?_; (refine sfieldp rfl rfl rfl ?_); (refine sloadp rfl rfl rfl rfl ?_); (refine slenm rfl rfl ?_); (refine smove rfl ?_); apply jW)))
   all_goals try (exfalso; simp at hc; done)
   refine wp_nil 5 3 rfl ?_
   refine wp_loop (fun (i : Nat) => i <= kids.length) (fun i => kids.length - i)
    (fun i => (S 40 [(1, intsA from_), (2, .ptr 0 3 0 0), (5, .ref 1 3 0 (liftTL from_ (kids.take i)).length), (13, tresA kids), (14, intA (kids.length : Nat)), (15, intA (i : Nat))] 2 [(0, some (.arr 3 [.agg [intA rule, intA term, tresA kids]])), (1, some (.arr 3 ((liftTL from_ (kids.take i)).map treA)))])) 0 ⟨[0, 1], ToR.S rfl (by repeat' (first | exact rt_nil | refine rt_r rfl rfl ?_ | refine rt_t rfl rfl ?_ | refine rt_e rfl rfl ?_ | refine rt_p rfl rfl (by first | (simp [AV.bd, bdL, bdL_append]; done) | fail) ?_)) (by repeat' (first | exact ro_nil | refine ro_e rfl rfl ?_ | refine ro_p rfl (by first | exact rfl | fail) zq5 ?_)) rfl (by (rw [hm]; exact rfl)) rfl zq4 (by repeat' (first | exact True.intro | exact rfl | refine And.intro ?_ ?_ | (simp [bdOq, bdL, bdL_append, AV.bd]; done))) (by (rw [hm]; exact nle rfl))⟩ (Nat.zero_le _) ?_
   intro i hi
   by_cases hlt : i < kids.length
   ·have hsk := hszk i hlt
    have hx := hin i hlt (by omega)
    have hn := liftTL_snoc from_ (nth kids i) (kids.take i)
    rw [<- take_succ_nth hlt] at hn
    have hn2 := congrArg List.length hn
    rw [List.length_append] at hn2
    have ht1 := htk i
    have ht2 := htk (i + 1)
    (repeat' (first | apply jA | apply jF | apply jH | apply jI | apply jN | (refine wp_cond rfl (fun hc => ?_) (fun hc => ?_) <;> (try simp only [sB, ne_eq, reduceCtorEq] at hc) <;> (try (exfalso; omega))) | (refine rgC 5 ?_; (refine slss rfl rfl ?_); apply jW) | (refine rgC 6 ?_; (refine sidxn rfl rfl (by omega) ?_); (refine sloadw rfl rfl ?_); (refine se_alloc rfl ?_); (refine se_store_b rfl rfl rfl rfl ?_); apply jW) | (refine rgC 7 ?_; (refine smove rfl ?_); (refine sloadpw rfl rfl rfl rfl ?_); (refine smove rfl ?_); (refine sc_p rfl rfl zq1 zq5 (hx) ?_); (refine se_appL rfl rfl rfl rfl rfl rfl rfl (by omega) ?_); (refine sassign rfl ?_); apply jW) | (refine rgC 8 ?_; (refine sadd rfl rfl (by exact inr_i64_of (by omega)) ?_); (refine smove rfl ?_); apply jW)))
    refine ⟨i + 1, ⟨by omega, by omega⟩, ?_⟩
    rw [hn]
    exact ⟨[0, 3], ToR.S rfl (by repeat' (first | exact rt_nil | refine rt_r rfl rfl ?_ | refine rt_t rfl rfl ?_ | refine rt_e rfl rfl ?_ | refine rt_p rfl rfl (by first | (simp [AV.bd, bdL, bdL_append]; done) | fail) ?_)) (by repeat' (first | exact ro_nil | refine ro_p rfl (by first | exact rfl | fail) (by first | exact bdL_map (fun _ => by simp [AV.bd, bdL, bdL_append]) _ | (simp [bdL, bdL_append, AV.bd]; done) | fail) ?_)) rfl (by (rw [hm]; exact rfl)) rfl zq4 (by repeat' (first | exact True.intro | refine And.intro ?_ ?_ | exact bdL_map (fun _ => by simp [AV.bd, bdL, bdL_append]) _ | (simp [bdOq, bdL, bdL_append, AV.bd]; done))) (by (rw [hm]; exact nle rfl))⟩
   ·rw [List.take_of_length_le (by omega)]
    by_cases hfr : nth from_ rule.toNat = -1
    ·rw [if_pos hfr]
     (repeat' (first | apply jA | apply jH | apply jJ | apply jK | apply jL | apply jM | apply jP | apply jS | (refine wp_cond rfl (fun hc => ?_) (fun hc => ?_) <;> (try simp only [sB, ne_eq, reduceCtorEq] at hc) <;> (try (exfalso; omega))) | (refine rgC 5 ?_; (refine slss rfl rfl ?_); apply jW) | (refine rgC 9 ?_; (refine smove rfl ?_); (refine sfieldp rfl rfl rfl ?_); (refine sloadp rfl rfl rfl rfl ?_); (refine su (aidxz rfl rfl (by omega)) ?_); (refine sloadw rfl rfl ?_); (refine seql rfl rfl ?_); apply jW) | (refine rgC 10 ?_; (refine smove rfl ?_); (refine sassign rfl ?_); apply jW) | refine ret_sl rfl rfl rfl (fun _ => by simp [AV.bd, bdL, bdL_append]) (fun _ => rfl) ?_))
     all_goals (rfl)
    ·rw [if_neg hfr]
     (repeat' (first | apply jA | apply jH | apply jI | apply jJ | apply jK | apply jL | apply jP | apply jS | (refine wp_cond rfl (fun hc => ?_) (fun hc => ?_) <;> (try simp only [sB, ne_eq, reduceCtorEq] at hc) <;> (try (exfalso; omega))) | (refine rgC 5 ?_; (refine slss rfl rfl ?_); apply jW) | (refine rgC 9 ?_; (refine smove rfl ?_); (refine sfieldp rfl rfl rfl ?_); (refine sloadp rfl rfl rfl rfl ?_); (refine su (aidxz rfl rfl (by omega)) ?_); (refine sloadw rfl rfl ?_); (refine seql rfl rfl ?_); apply jW) | (refine rgC 11 ?_; (refine smove rfl ?_); (refine sfieldp rfl rfl rfl ?_); (refine sloadp rfl rfl rfl rfl ?_); (refine su (aidxz rfl rfl (by omega)) ?_); (refine sloadw rfl rfl ?_); (refine smove rfl ?_); (refine su (ap_build (RqP.cons (rq_p rfl rfl) (RqP.cons (rq_p rfl rfl) (RqP.nil))) rfl) ?_); (refine se_lit (OpP.cons rfl (OpP.nil)) rfl rfl rfl rfl rfl rfl ?_); (refine sassign rfl ?_); apply jW)))
     all_goals try (exfalso; omega)
     rw [tresA_one]
     exact ret_1 rfl (by first | ((repeat' first | exact FzL.nil | refine FzL.cons ?_ ?_ | (exact Fz.list rfl rfl (fun _ => by simp [AV.bd, bdL, bdL_append]) (fun _ => rfl)) | (exact Fz.reflp (by simp [AV.bd, bdL, bdL_append])) | refine Fz.rowL rfl rfl rfl ?_ | refine Fz.aggL ?_); done) | fail)
theorem all_ge_no {l : List Int} {i : Nat} (hi : i < l.length) (h : nth l i < -1) : l.all (fun x => decide (-1 <= x)) = false := all_nth_no (f := fun x => decide (-1 <= x)) hi (decide_eq_false (by omega))
def liftA (x : Tre × Int) : AV := .tup [treA x.1, intA x.2]
@[simp] theorem bd_liftA (n : Nat) (x : Tre × Int) : (liftA x).bd n = true := by simp [liftA, AV.bd, bdL]
theorem liftA_z (e : Int) : liftA (zT, e) = .tup [.agg [intA 0, intA 0, .sl 3 []], intA e] := by
 simp only [liftA, zT, treA_eq, Tre.rule, Tre.term, Tre.kids, List.map_nil]
theorem tlift_fn (t : Tre) (from_ : List Int) (hf : from_.length <= 1000) (hz : szT t <= 1000000) : Fn Tryd.prog 9 [treA t, intsA from_] (liftA (liftR t from_)) := by
 have hlb := liftable_fn from_ hf t
 have hlt := lift_fn from_ hf t
 unfold liftR
 rw [treA_kids] at hlb hlt ⊢
 refine Fn.intro (by simp [AV.bd, bdL, bdL_append]) (by kernel_rfl) Tryd.func9 rfl rfl Tryd.ntmps9 (by exact nle rfl) ?_; intro Γ hm
 (repeat' (first | apply jA | apply jF | apply jH | (refine rgC 0 ?_; (refine se_box rfl (by exact ⟨rfl, rfl⟩) ?_); (refine se_alloc rfl ?_); (refine sassign rfl ?_); apply jW) | (refine rgC 1 ?_; (refine smove rfl ?_); (refine slenm rfl rfl ?_); (refine smove rfl ?_); apply jW)))
 refine wp_loop (fun (i : Nat) => i <= from_.length /\ (from_.take i).all (fun x => decide (-1 <= x)) = true) (fun i => from_.length - i)
  (fun i => (S 34 [(1, intsA from_), (2, .ptr 0 3 0 0), (4, .ptr 1 3 0 0), (9, intsA from_), (10, intA (from_.length : Nat)), (11, intA (i : Nat))] 2 [(0, some (.arr 3 [.agg [intA t.rule, intA t.term, tresA t.kids]])), (1, some (.arr 3 [.agg [intA 0, intA 0, .val (.slice none 0 0)]]))])) 0 ⟨[0, 1], ToR.S rfl (by repeat' (first | exact rt_nil | refine rt_t rfl rfl ?_ | refine rt_e rfl rfl ?_ | refine rt_p rfl rfl (by first | (simp [AV.bd, bdL, bdL_append]; done) | fail) ?_)) (by repeat' (first | exact ro_nil | refine ro_e rfl rfl ?_ | refine ro_p rfl (by first | exact rfl | fail) zq5 ?_)) rfl (by (rw [hm]; exact rfl)) rfl zq4 (by repeat' (first | exact True.intro | exact rfl | refine And.intro ?_ ?_ | (simp [bdOq, bdL, bdL_append, AV.bd]; done))) (by (rw [hm]; exact nle rfl))⟩ ⟨Nat.zero_le _, rfl⟩ ?_
 rintro i ⟨hi, hall⟩
 by_cases hlti : i < from_.length
 ·(repeat' (first | apply jA | apply jF | apply jH | apply jI | apply jK | apply jM | apply jN | apply jO | apply jS | (refine wp_cond rfl (fun hc => ?_) (fun hc => ?_) <;> (try simp only [sB, ne_eq, reduceCtorEq] at hc) <;> (try (exfalso; omega))) | (refine rgC 2 ?_; (refine slss rfl rfl ?_); apply jW) | (refine rgC 3 ?_; (refine sidxn rfl rfl (by omega) ?_); (refine sloadw rfl rfl ?_); (refine sassign rfl ?_); apply jW) | (refine rgC 4 ?_; (refine smove rfl ?_); (refine slss rfl rfl ?_); apply jW) | (refine rgC 5 ?_; (refine su (ap_build (RqP.nil) rfl) ?_); (refine se_store_b rfl rfl rfl rfl ?_); (refine sassign rfl ?_); apply jW) | (refine rgC 6 ?_; (refine sadd rfl rfl (by exact inr_i64_of (by omega)) ?_); (refine smove rfl ?_); apply jW)))
  ·rw [all_ge_no (i := i) hlti (by omega)]
   simp only [Bool.false_eq_true, if_false]
   rw [liftA_z]
   exact ret_many (.cellT rfl rfl rfl rfl (.tmp rfl .nil)) (nle rfl) (by first | ((repeat' first | exact FzL.nil | refine FzL.cons ?_ ?_ | exact Fz.nil | (exact Fz.reflp (by simp [AV.bd, bdL, bdL_append])) | refine Fz.aggL ?_); done) | fail)
  ·exact ⟨i + 1, ⟨by omega, by omega, take_all_succ hlti hall (decide_eq_true (by omega))⟩, ⟨[0, 1], ToR.S rfl (by repeat' (first | exact rt_nil | refine rt_t rfl rfl ?_ | refine rt_e rfl rfl ?_ | refine rt_p rfl rfl (by first | (simp [AV.bd, bdL, bdL_append]; done) | fail) ?_)) (by repeat' (first | exact ro_nil | refine ro_e rfl rfl ?_ | refine ro_p rfl (by first | exact rfl | fail) zq5 ?_)) rfl (by (rw [hm]; exact rfl)) rfl zq4 (by repeat' (first | exact True.intro | exact rfl | refine And.intro ?_ ?_ | (simp [bdOq, bdL, bdL_append, AV.bd]; done))) (by (rw [hm]; exact nle rfl))⟩⟩
 ·rw [all_of_take' (by omega) hall]
  simp only [if_true]
  cases hq : lfT from_.length t with
  | false =>
   rw [hq] at hlb
   (repeat' (first | apply jA | apply jH | apply jJ | apply jK | apply jL | apply jM | apply jP | apply jS | (refine wp_cond rfl (fun hc => ?_) (fun hc => ?_) <;> (try simp only [sB, ne_eq, reduceCtorEq] at hc) <;> (try (exfalso; omega))) | (refine rgC 2 ?_; (refine slss rfl rfl ?_); apply jW) | (refine rgC 7 ?_; (refine sloadpw rfl rfl rfl rfl ?_); (refine smove rfl ?_); (refine sc_p rfl rfl zq1 zq5 (hlb) ?_); (refine su (anot rfl) ?_); apply jW) | (refine rgC 8 ?_; (refine su (ap_build (RqP.nil) rfl) ?_); (refine se_store_b rfl rfl rfl rfl ?_); (refine sassign rfl ?_); apply jW)))
   all_goals try (exfalso; simp at hc; done)
   simp only [Bool.false_eq_true, if_false]
   rw [liftA_z]
   exact ret_many (.cellT rfl rfl rfl rfl (.tmp rfl .nil)) (nle rfl) (by first | ((repeat' first | exact FzL.nil | refine FzL.cons ?_ ?_ | exact Fz.nil | (exact Fz.reflp (by simp [AV.bd, bdL, bdL_append])) | refine Fz.aggL ?_); done) | fail)
  | true =>
   rw [hq] at hlb
   have hlt := hlt hq hz
   have hLn := liftT_len from_ t
   simp only [if_true]
   cases hL : liftT from_ t with
   | nil =>
    rw [hL] at hlt
    (repeat' (first | apply jA | apply jH | apply jI | apply jJ | apply jK | apply jL | apply jM | apply jP | apply jS | (refine wp_cond rfl (fun hc => ?_) (fun hc => ?_) <;> (try simp only [sB, ne_eq, reduceCtorEq] at hc) <;> (try (exfalso; omega))) | (refine rgC 2 ?_; (refine slss rfl rfl ?_); apply jW) | (refine rgC 7 ?_; (refine sloadpw rfl rfl rfl rfl ?_); (refine smove rfl ?_); (refine sc_p rfl rfl zq1 zq5 (hlb) ?_); (refine su (anot rfl) ?_); apply jW) | (refine rgC 9 ?_; (refine sloadpw rfl rfl rfl rfl ?_); (refine smove rfl ?_); (refine sc_p rfl rfl zq1 zq5 (hlt) ?_); (refine sassign rfl ?_); apply jW) | (refine rgC 10 ?_; (refine smove rfl ?_); (refine slenm rfl rfl ?_); (refine su (aneq rfl rfl) ?_); apply jW) | (refine rgC 11 ?_; (refine su (ap_build (RqP.nil) rfl) ?_); (refine se_store_b rfl rfl rfl rfl ?_); (refine sassign rfl ?_); apply jW)))
    all_goals try (exfalso; simp at hc; done)
    simp only
    rw [liftA_z]
    exact ret_many (.cellT rfl rfl rfl rfl (.tmp rfl .nil)) (nle rfl) (by first | ((repeat' first | exact FzL.nil | refine FzL.cons ?_ ?_ | exact Fz.nil | (exact Fz.reflp (by simp [AV.bd, bdL, bdL_append])) | refine Fz.aggL ?_); done) | fail)
   | cons a L =>
    rw [hL] at hlt hLn
    simp only [List.length_cons] at hLn
    cases L with
    | nil =>
     (repeat' (first | apply jA | apply jH | apply jI | apply jJ | apply jK | apply jL | apply jP | apply jS | (refine wp_cond rfl (fun hc => ?_) (fun hc => ?_) <;> (try simp only [sB, ne_eq, reduceCtorEq] at hc) <;> (try (exfalso; omega))) | (refine rgC 2 ?_; (refine slss rfl rfl ?_); apply jW) | (refine rgC 7 ?_; (refine sloadpw rfl rfl rfl rfl ?_); (refine smove rfl ?_); (refine sc_p rfl rfl zq1 zq5 (hlb) ?_); (refine su (anot rfl) ?_); apply jW) | (refine rgC 9 ?_; (refine sloadpw rfl rfl rfl rfl ?_); (refine smove rfl ?_); (refine sc_p rfl rfl zq1 zq5 (hlt) ?_); (refine sassign rfl ?_); apply jW) | (refine rgC 10 ?_; (refine smove rfl ?_); (refine slenm rfl rfl ?_); (refine su (aneq rfl rfl) ?_); apply jW) | (refine rgC 12 ?_; (refine smove rfl ?_); (refine sidxn rfl rfl (by (simp only [sL] <;> omega)) ?_); (refine sloadw rfl rfl ?_); (refine se_store_b rfl rfl rfl rfl ?_); (refine sassign rfl ?_); apply jW)))
     all_goals try (exfalso; simp at hc; done)
     simp only [liftA]
     exact ret_many (.cellT rfl rfl rfl rfl (.tmp rfl .nil)) (nle rfl) (by first | ((repeat' first | exact FzL.nil | refine FzL.cons ?_ ?_ | (exact Fz.reflp (by simp [AV.bd, bdL, bdL_append]))); done) | fail)
    | cons b L =>
     simp only [List.length_cons] at hLn
     (repeat' (first | apply jA | apply jH | apply jI | apply jJ | apply jK | apply jL | apply jM | apply jP | apply jS | (refine wp_cond rfl (fun hc => ?_) (fun hc => ?_) <;> (try simp only [sB, ne_eq, reduceCtorEq] at hc) <;> (try (exfalso; omega))) | (refine rgC 2 ?_; (refine slss rfl rfl ?_); apply jW) | (refine rgC 7 ?_; (refine sloadpw rfl rfl rfl rfl ?_); (refine smove rfl ?_); (refine sc_p rfl rfl zq1 zq5 (hlb) ?_); (refine su (anot rfl) ?_); apply jW) | (refine rgC 9 ?_; (refine sloadpw rfl rfl rfl rfl ?_); (refine smove rfl ?_); (refine sc_p rfl rfl zq1 zq5 (hlt) ?_); (refine sassign rfl ?_); apply jW) | (refine rgC 10 ?_; (refine smove rfl ?_); (refine slenm rfl rfl ?_); (refine su (aneq rfl rfl) ?_); apply jW) | (refine rgC 11 ?_; (refine su (ap_build (RqP.nil) rfl) ?_); (refine se_store_b rfl rfl rfl rfl ?_); (refine sassign rfl ?_); apply jW)))
     all_goals try (exfalso; simp at hc; omega)
     simp only
     rw [liftA_z]
     exact ret_many (.cellT rfl rfl rfl rfl (.tmp rfl .nil)) (nle rfl) (by first | ((repeat' first | exact FzL.nil | refine FzL.cons ?_ ?_ | exact Fz.nil | (exact Fz.reflp (by simp [AV.bd, bdL, bdL_append])) | refine Fz.aggL ?_); done) | fail)
end Go.Lg
namespace Go.Lg
open Go.Proofs
attribute [local irreducible] Ap Rq asemC WP RunD Ret Gq thenA inBlockA bodyQ noGotoA RqL RqP OpP
end Go.Lg
namespace Go.Lg
open Go.Proofs
attribute [local irreducible] Ap Rq asemC WP RunD Ret Gq thenA inBlockA bodyQ noGotoA RqL RqP OpP
def UnderP (g : Gram) (out : List Bool) : Prop := out.length = g.nonterms.length /\ ∀ S : List Bool, S.length = g.nonterms.length -> leB (stepP g S) S -> leB out S
theorem UnderP.nob (g : Gram) : UnderP g (nob g.nonterms.length) := ⟨nob_len _, fun S hS _ => nob_le hS⟩
theorem UnderP.set {g : Gram} {out : List Bool} (hv : GVal g) (h : UnderP g out) {r : Rul} (hr : r ∈ g.rules) (hb : r.body.all (okSym out) = true) : UnderP g (out.set r.head.toNat true) := by
 refine ⟨by simp [h.1], fun S hS hc => leB_set (h.2 S hS hc) ?_⟩
 refine stepP_closes hc hr (hv.rule r hr).h0 (by rw [hS]; exact (hv.rule r hr).hn) ?_
 rw [List.all_eq_true] at *
 exact fun x hx => okSym_mono (h.2 S hS hc) (hb x hx)
theorem UnderP.eq {g : Gram} {out : List Bool} (h : UnderP g out) (hc : ∀ r, r ∈ g.rules -> r.body.all (okSym out) = true -> nth out r.head.toNat = true) : out = prodG g :=
 (lfpB_eq (stepP_mono g _) (nob_len _) (nob_le h.1) (stepP_closed hc) (fun S h1 h2 => h.2 S (by rw [<- h1.1, nob_len]) h2)).symm
end Go.Lg
namespace Go.Lg
open Go.Proofs
attribute [local irreducible] Ap Rq asemC WP RunD Ret Gq thenA inBlockA bodyQ noGotoA RqL RqP OpP
end Go.Lg
