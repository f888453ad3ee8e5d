/-
  Part 16 of the proof of GrammarfileLinesCard: the logic over the model, the functions' contracts and the plain laws.
-/
import Derived.Test.YteipbjbnlleheaaDoorKg15

set_option linter.unusedSimpArgs false
set_option linter.unusedVariables false
set_option linter.unusedSectionVars false

/- the reference's Size; small -/
namespace Go.Lg
open Go.Proofs
set_option linter.unusedSimpArgs false
set_option linter.unusedVariables false
attribute [local irreducible] Ap Rq asemC WP RunD Ret Gq thenA inBlockA bodyQ noGotoA RqL RqP OpP
set_option maxHeartbeats 8000000
set_option maxRecDepth 20000
attribute [local simp] AV.cells altA

mutual
/-- the number of nodes, counting at most so many -/
def nodesR : GEx → Int → Int
  | .mk _ _ l, most => nodesG l most 1
def nodesG : List GEx → Int → Int → Int
  | [], _, n => n
  | e :: l, most, n => if n ≤ most then nodesG l most (n + nodesR e (most - n)) else n
end
theorem nodesR_eq (e : GEx) (m : Int) : nodesR e m = nodesG e.kids m 1 := by cases e; rw [nodesR]; rfl
theorem nodesR_bd (e : GEx) : ∀ m : Int, 0 ≤ m → 1 ≤ nodesR e m ∧ nodesR e m ≤ m + 1 := by
  induction e using GEx.ind with
  | h e ih =>
    intro m hm
    rw [nodesR_eq]
    generalize e.kids = l at *
    have key : ∀ (l : List GEx), (∀ x, x ∈ l → ∀ m : Int, 0 ≤ m → 1 ≤ nodesR x m ∧ nodesR x m ≤ m + 1) → ∀ n : Int, 1 ≤ n → n ≤ m + 1 → 1 ≤ nodesG l m n ∧ nodesG l m n ≤ m + 1 := by
      intro l
      induction l with
      | nil => intro _ n h1 h2; rw [nodesG]; exact ⟨h1, h2⟩
      | cons x l ihl =>
        intro hl n h1 h2
        rw [nodesG]
        split
        · have := hl x (by simp) (m - n) (by omega)
          exact ihl (fun y hy => hl y (by simp [hy])) _ (by omega) (by omega)
        · exact ⟨h1, h2⟩
    exact key l ih 1 (by omega) (by omega)
/-- after the first i kids -/
def nodesK (l : List GEx) (m : Int) (i : Nat) : Int := nodesG (l.take i) m 1
theorem nodesG_snoc (m : Int) (e : GEx) : ∀ (l : List GEx) (n : Int), nodesG l m n ≤ m → nodesG (l ++ [e]) m n = nodesG l m n + nodesR e (m - nodesG l m n)
  | [], n, h => by rw [nodesG] at h; simp only [List.nil_append, nodesG, if_pos h]
  | x :: l, n, h => by
    rw [nodesG] at h
    rw [List.cons_append, nodesG, nodesG]
    split
    · rename_i hn; rw [if_pos hn] at h; exact nodesG_snoc m e l _ h
    · rename_i hn; rw [if_neg hn] at h; exact absurd h hn
theorem nodesG_over (m : Int) (r : List GEx) : ∀ (l : List GEx) (n : Int), m < nodesG l m n → nodesG (l ++ r) m n = nodesG l m n
  | [], n, h => by
    rw [nodesG] at h ⊢
    rw [List.nil_append]
    cases r with
    | nil => rw [nodesG]
    | cons x r => rw [nodesG, if_neg (by omega)]
  | x :: l, n, h => by
    rw [nodesG] at h
    rw [List.cons_append, nodesG, nodesG]
    split
    · rename_i hn; rw [if_pos hn] at h; exact nodesG_over m r l _ h
    · rfl

theorem nodes_fn (e : GEx) : ∀ m : Int, 0 ≤ m → m ≤ 1000 → Fn Tryd.prog 42 [exprA e, intA m] (intA (nodesR e m)) := by
  induction e using GEx.ind with
  | h e ih =>
    intro m h0 h1
    have hbd := nodesR_bd e m h0
    rw [nodesR_eq] at hbd ⊢
    rw [exprA, kids_exprsA]
    generalize hkd : e.kids = kids at *
    generalize e.kind = kk
    generalize e.name = nm
    clear hkd e
    refine Fn.intro (by exact rfl) (by kernel_rfl) Tryd.func42 rfl rfl Tryd.ntmps42 (by exact Nat.le_of_ble_eq_true rfl) ?_; intro Γ hm
    refine wp_lens 0 rfl fun hl => ?_
    have hl : kids.length ≤ 9223372036854775807 := by have := hl; simp [AV.lens, lensL, exprsA] at this; omega
    (repeat' (first | refine WP.seq ?_ | refine WP.block ?_ | refine go_n ?_ | (refine WP.regionC (id := 0) ?_; (refine se_box (by exact rfl) (by exact ⟨rfl, rfl⟩) ?_); (refine su (ap_assign (by exact rq_p rfl rfl)) ?_); refine asemC_end ?_) | (refine WP.regionC (id := 1) ?_; (refine su (ap_assign (by exact rq_p rfl rfl)) ?_); refine asemC_end ?_) | (refine WP.regionC (id := 2) ?_; (refine su (ap_assign (by exact rq_p rfl rfl)) ?_); refine asemC_end ?_)))
    refine wp_loop (fun (i : Nat) => i ≤ kids.length ∧ 1 ≤ nodesK kids m i ∧ nodesK kids m i ≤ m + 1) (fun i => kids.length - i)
      (fun i => (S 31 [(1, intA m), (2, .ptr 0 3 0 0), (5, intA (nodesK kids m i)), (6, intA (i : Nat))] 1 [(0, some (.arr 3 [.agg [intA kk, strA nm, exprsA kids]]))])) 0 ?_ ⟨Nat.zero_le _, by simp [nodesK, nodesG], by simp [nodesK, nodesG]; omega⟩ ?_
    · rw [show nodesK kids m 0 = 1 by simp [nodesK, nodesG]]
      exact ⟨[0], ToR.S rfl (by repeat' (first | exact rt_nil | refine rt_t (by exact rfl) (by exact rfl) ?_ | refine rt_e (by exact rfl) (by exact rfl) ?_)) (by repeat' (first | exact ro_nil | refine ro_p (by exact rfl) (by first | exact rfl | fail) (by first | (simp [bdL, bdL_append, AV.bd]; done) | fail) ?_)) (by decide) (by (rw [hm]; exact rfl)) (by exact rfl) (by (simp [bdT, AV.bd, bdL, bdL_append]; done)) (by repeat' (first | exact True.intro | refine And.intro ?_ ?_ | (simp [bdOq, bdL, bdL_append, AV.bd]; done))) (by (rw [hm]; exact Nat.le_of_ble_eq_true rfl))⟩
    rintro i ⟨hi, hn1, hn2⟩
    by_cases hlt : i < kids.length
    · by_cases hle : nodesK kids m i ≤ m
      · have hx := ih _ (nth_mem hlt) (m - nodesK kids m i) (by omega) (by omega)
        have hb2 := nodesR_bd (nth kids i) (m - nodesK kids m i) (by omega)
        have e1 : nodesK kids m (i + 1) = nodesK kids m i + nodesR (nth kids i) (m - nodesK kids m i) := by
          unfold nodesK at hle ⊢
          rw [take_succ_nth hlt, nodesG_snoc m _ _ _ hle]
        (repeat' (first | refine WP.seq ?_ | refine WP.block ?_ | refine go_n ?_ | refine WP.skip ?_ | refine bl_n ?_ | (refine wp_cond (by exact rfl) (fun hc => ?_) (fun hc => ?_) <;> (try simp only [decide_eq_true_eq, decide_eq_false_iff_not, Decidable.not_not, Bool.and_eq_true, Bool.or_eq_true, Bool.not_eq_true', Bool.not_eq_false', Bool.or_eq_false_iff, Bool.and_eq_false_iff, Int.not_lt, Int.not_le, reduceCtorEq, ne_eq, Bool.not_true, Bool.not_false, Bool.not_eq_true, Bool.not_eq_false] at hc) <;> (try (exfalso; omega))) | (refine WP.regionC (id := 3) ?_; (refine su (ap_move (by exact rq_p rfl rfl)) ?_); (refine su (ap_field_p (by exact rq_p rfl rfl) (by exact rfl) (by exact rfl)) ?_); (refine su (ap_load_p (by exact rq_p rfl rfl) (by exact rfl) (by exact rfl) (by exact rfl)) ?_); (refine su (ap_len_m (by exact rfl) (by exact rq_p rfl rfl)) ?_); (refine su (ap_lss (by exact rq_p rfl rfl) (by exact rq_p rfl rfl)) ?_); (refine su (ap_move (by exact rq_p rfl rfl)) ?_); (refine sg (by exact gq_vt rfl rfl) (fun he => ap_move (by exact rq_p rfl rfl)) ?_); (refine sg (by exact gq_vt rfl rfl) (fun he => ap_move (by exact rq_p rfl rfl)) ?_); (refine sg (by exact gq_vt rfl rfl) (fun he => ap_leq (by exact rq_c rfl rfl) (by exact rq_c rfl rfl)) ?_); (refine su (ap_and (by exact rq_p rfl rfl) (by exact rq_c rfl rfl)) ?_); refine asemC_end ?_) | (refine WP.regionC (id := 5) ?_; (refine su (ap_move (by exact rq_p rfl rfl)) ?_); (refine su (ap_field_p (by exact rq_p rfl rfl) (by exact rfl) (by exact rfl)) ?_); (refine su (ap_load_p (by exact rq_p rfl rfl) (by exact rfl) (by exact rfl) (by exact rfl)) ?_); (refine su (ap_move (by exact rq_p rfl rfl)) ?_); (refine su (ap_idx_n (by exact rq_p rfl rfl) (by exact rq_p rfl rfl) (by omega)) ?_); (refine su (ap_load_w (by exact rq_p rfl rfl) (by exact rfl)) ?_); (refine su (ap_move (by exact rq_p rfl rfl)) ?_); (refine su (ap_move (by exact rq_p rfl rfl)) ?_); (refine su (ap_sub (by exact rq_p rfl rfl) (by exact rq_p rfl rfl) (by exact inr_i64_of (by omega))) ?_); (refine sc_p rfl rfl (by first | ((repeat' first | exact SubL.nil | refine SubL.cons ?_ ?_ | exact Sub.refl); done) | fail) (by first | (simp [bdL, bdL_append, AV.bd]; done) | fail) (hx) ?_); (refine su (ap_add (by exact rq_p rfl rfl) (by exact rq_p rfl rfl) (by exact inr_i64_of (by omega))) ?_); (refine su (ap_assign (by exact rq_p rfl rfl)) ?_); refine asemC_end ?_) | (refine WP.regionC (id := 4) ?_; (refine su (ap_move (by exact rq_p rfl rfl)) ?_); (refine su (ap_add (by exact rq_p rfl rfl) (by exact rq_p rfl rfl) (by exact inr_i64_of (by omega))) ?_); (refine su (ap_assign (by exact rq_p rfl rfl)) ?_); refine asemC_end ?_)))
        refine ⟨i + 1, ⟨by omega, by omega, by omega, by omega⟩, ?_⟩
        rw [e1]
        exact ⟨[0], ToR.S rfl (by repeat' (first | exact rt_nil | refine rt_t (by exact rfl) (by exact rfl) ?_ | refine rt_e (by exact rfl) (by exact rfl) ?_)) (by repeat' (first | exact ro_nil | refine ro_p (by exact rfl) (by first | exact rfl | fail) (by first | (simp [bdL, bdL_append, AV.bd]; done) | fail) ?_)) (by decide) (by (rw [hm]; exact rfl)) (by exact rfl) (by (simp [bdT, AV.bd, bdL, bdL_append]; done)) (by repeat' (first | exact True.intro | refine And.intro ?_ ?_ | (simp [bdOq, bdL, bdL_append, AV.bd]; done))) (by (rw [hm]; exact Nat.le_of_ble_eq_true rfl))⟩
      · have e1 : nodesG kids m 1 = nodesK kids m i := by
          have := nodesG_over m (kids.drop i) (kids.take i) 1 (by unfold nodesK at hle; omega)
          rwa [List.take_append_drop] at this
        rw [e1]
        (repeat' (first | refine WP.seq ?_ | refine go_n ?_ | refine WP.exit ?_ | refine WP.ret ?_ | refine go_x ?_ | refine bl_x ?_ | refine bo_r ?_ | (refine wp_cond (by exact rfl) (fun hc => ?_) (fun hc => ?_) <;> (try simp only [decide_eq_true_eq, decide_eq_false_iff_not, Decidable.not_not, Bool.and_eq_true, Bool.or_eq_true, Bool.not_eq_true', Bool.not_eq_false', Bool.or_eq_false_iff, Bool.and_eq_false_iff, Int.not_lt, Int.not_le, reduceCtorEq, ne_eq, Bool.not_true, Bool.not_false, Bool.not_eq_true, Bool.not_eq_false] at hc) <;> (try (exfalso; omega))) | (refine WP.regionC (id := 3) ?_; (refine su (ap_move (by exact rq_p rfl rfl)) ?_); (refine su (ap_field_p (by exact rq_p rfl rfl) (by exact rfl) (by exact rfl)) ?_); (refine su (ap_load_p (by exact rq_p rfl rfl) (by exact rfl) (by exact rfl) (by exact rfl)) ?_); (refine su (ap_len_m (by exact rfl) (by exact rq_p rfl rfl)) ?_); (refine su (ap_lss (by exact rq_p rfl rfl) (by exact rq_p rfl rfl)) ?_); (refine su (ap_move (by exact rq_p rfl rfl)) ?_); (refine sg (by exact gq_vt rfl rfl) (fun he => ap_move (by exact rq_p rfl rfl)) ?_); (refine sg (by exact gq_vt rfl rfl) (fun he => ap_move (by exact rq_p rfl rfl)) ?_); (refine sg (by exact gq_vt rfl rfl) (fun he => ap_leq (by exact rq_c rfl rfl) (by exact rq_c rfl rfl)) ?_); (refine su (ap_and (by exact rq_p rfl rfl) (by exact rq_c rfl rfl)) ?_); refine asemC_end ?_) | (refine WP.regionC (id := 6) ?_; (refine su (ap_move (by exact rq_p rfl rfl)) ?_); (refine su (ap_assign (by exact rq_p rfl rfl)) ?_); refine asemC_end ?_) | exact ret_eq (by exact rfl) (by exact rfl) rfl))
    · have e1 : nodesG kids m 1 = nodesK kids m i := by rw [nodesK, List.take_of_length_le (by omega)]
      rw [e1]
      (repeat' (first | refine WP.seq ?_ | refine go_n ?_ | refine WP.exit ?_ | refine WP.ret ?_ | refine go_x ?_ | refine bl_x ?_ | refine bo_r ?_ | (refine wp_cond (by exact rfl) (fun hc => ?_) (fun hc => ?_) <;> (try simp only [decide_eq_true_eq, decide_eq_false_iff_not, Decidable.not_not, Bool.and_eq_true, Bool.or_eq_true, Bool.not_eq_true', Bool.not_eq_false', Bool.or_eq_false_iff, Bool.and_eq_false_iff, Int.not_lt, Int.not_le, reduceCtorEq, ne_eq, Bool.not_true, Bool.not_false, Bool.not_eq_true, Bool.not_eq_false] at hc) <;> (try (exfalso; omega))) | (refine WP.regionC (id := 3) ?_; (refine su (ap_move (by exact rq_p rfl rfl)) ?_); (refine su (ap_field_p (by exact rq_p rfl rfl) (by exact rfl) (by exact rfl)) ?_); (refine su (ap_load_p (by exact rq_p rfl rfl) (by exact rfl) (by exact rfl) (by exact rfl)) ?_); (refine su (ap_len_m (by exact rfl) (by exact rq_p rfl rfl)) ?_); (refine su (ap_lss (by exact rq_p rfl rfl) (by exact rq_p rfl rfl)) ?_); (refine su (ap_move (by exact rq_p rfl rfl)) ?_); (refine sg (by exact gq_vt rfl rfl) (fun he => ap_move (by exact rq_p rfl rfl)) ?_); (refine sg (by exact gq_vt rfl rfl) (fun he => ap_move (by exact rq_p rfl rfl)) ?_); (refine sg (by exact gq_vt rfl rfl) (fun he => ap_leq (by exact rq_c rfl rfl) (by exact rq_c rfl rfl)) ?_); (refine su (ap_and (by exact rq_p rfl rfl) (by exact rq_c rfl rfl)) ?_); refine asemC_end ?_) | (refine WP.regionC (id := 6) ?_; (refine su (ap_move (by exact rq_p rfl rfl)) ?_); (refine su (ap_assign (by exact rq_p rfl rfl)) ?_); refine asemC_end ?_) | exact ret_eq (by exact rfl) (by exact rfl) rfl))

def TokB (f : GFi) : Prop := ∀ l, l ∈ f.levels → l.tokens.length ≤ 140737488355328
def szL (f : GFi) (m : Int) : Nat → Int
  | 0 => 0
  | j + 1 => if szL f m j ≤ m then szL f m j + 1 + ((nth f.levels j).tokens.length : Int) else szL f m j
def szA (r : GRu) (m n : Int) : Nat → Int
  | 0 => n
  | k + 1 => if szA r m n k ≤ m then szA r m n k + 1 + nodesR (nth r.alts k).body (m - szA r m n k) else szA r m n k
def szR (f : GFi) (m : Int) : Nat → Int
  | 0 => szL f m f.levels.length
  | i + 1 => if szR f m i ≤ m then szA (nth f.rules i) m (szR f m i + 1) (nth f.rules i).alts.length else szR f m i
def sizeF (f : GFi) (m : Int) : Int := szR f m f.rules.length
theorem szL_over (f : GFi) (m : Int) {j : Nat} (h : m < szL f m j) : ∀ d, szL f m (j + d) = szL f m j
  | 0 => rfl
  | d + 1 => by rw [← Nat.add_assoc, szL, szL_over f m h d, if_neg (by omega)]
theorem szA_over (r : GRu) (m n : Int) {j : Nat} (h : m < szA r m n j) : ∀ d, szA r m n (j + d) = szA r m n j
  | 0 => rfl
  | d + 1 => by rw [← Nat.add_assoc, szA, szA_over r m n h d, if_neg (by omega)]
theorem szR_over (f : GFi) (m : Int) {j : Nat} (h : m < szR f m j) : ∀ d, szR f m (j + d) = szR f m j
  | 0 => rfl
  | d + 1 => by rw [← Nat.add_assoc, szR, szR_over f m h d, if_neg (by omega)]
theorem szL_bd (f : GFi) (hT : TokB f) (m : Int) (h0 : 0 ≤ m) : ∀ j, j ≤ f.levels.length → 0 ≤ szL f m j ∧ szL f m j ≤ m + 140737488355330
  | 0, _ => by rw [szL]; omega
  | j + 1, hj => by
    have h1 := szL_bd f hT m h0 j (by omega)
    have h2 := hT _ (nth_mem (l := f.levels) (k := j) (by omega))
    rw [szL]; split <;> omega
theorem szA_bd (r : GRu) (m n : Int) : ∀ k, n ≤ szA r m n k ∧ (szA r m n k ≤ n ∨ szA r m n k ≤ m + 2)
  | 0 => by rw [szA]; omega
  | k + 1 => by
    have h1 := szA_bd r m n k
    rw [szA]
    split
    · have := nodesR_bd (nth r.alts k).body (m - szA r m n k) (by omega)
      omega
    · exact h1
theorem szR_bd (f : GFi) (hT : TokB f) (m : Int) (h0 : 0 ≤ m) : ∀ i, 0 ≤ szR f m i ∧ szR f m i ≤ m + 140737488355340 ∧ szL f m f.levels.length ≤ szR f m i
  | 0 => by have := szL_bd f hT m h0 f.levels.length (Nat.le_refl _); rw [szR]; omega
  | i + 1 => by
    have h1 := szR_bd f hT m h0 i
    rw [szR]
    split
    · have := szA_bd (nth f.rules i) m (szR f m i + 1) (nth f.rules i).alts.length
      omega
    · exact h1
theorem szL_le {f : GFi} {m : Int} : ∀ j, j ≤ f.levels.length → szL f m j ≤ m → ((toks f j).length : Int) ≤ szL f m j
  | 0, _, _ => by simp [szL, toks]
  | j + 1, hj, h => by
    rw [szL] at h ⊢
    split
    · rename_i hle
      have := szL_le j (by omega) hle
      rw [toks_succ (by omega), List.length_append]
      omega
    · rename_i hle; rw [if_neg hle] at h; exact absurd h hle
theorem toks_small {f : GFi} (hT : TokB f) {m : Int} (h0 : 0 ≤ m) (h : sizeF f m ≤ m) : ((toks f f.levels.length).length : Int) ≤ m := by
  have h1 := szR_bd f hT m h0 f.rules.length
  unfold sizeF at h
  have h2 := szL_le (f := f) (m := m) f.levels.length (Nat.le_refl _) (by omega)
  omega

theorem size_fn (f : GFi) (hT : TokB f) (m : Int) (h0 : 0 ≤ m) (h1 : m ≤ 1000) : Fn Tryd.prog 20 [fileA f, intA m] (intA (sizeF f m)) := by
  refine Fn.intro (by exact rfl) (by kernel_rfl) Tryd.func20 rfl rfl Tryd.ntmps20 (by exact Nat.le_of_ble_eq_true rfl) ?_; intro Γ hm
  refine wp_lens 0 rfl fun hl => ?_
  have hln : f.rules.length ≤ 9223372036854775807 ∧ f.levels.length ≤ 9223372036854775807 := by have := hl; simp [AV.lens, lensL, fileA, levelsA, grulesA] at this; omega
  have hll : ∀ r, r ∈ f.rules → r.alts.length ≤ 9223372036854775807 := by
    have := hl; simp [AV.lens, lensL, fileA, levelsA, grulesA, lensL_map] at this
    intro r hr
    have := this.2.2.2 _ hr
    simp [gruleA, AV.lens, lensL, altsA] at this
    omega
  (repeat' (first | refine WP.seq ?_ | refine WP.block ?_ | refine go_n ?_ | (refine WP.regionC (id := 0) ?_; (refine se_box (by exact rfl) (by exact ⟨rfl, rfl⟩) ?_); (refine su (ap_assign (by exact rq_p rfl rfl)) ?_); refine asemC_end ?_) | (refine WP.regionC (id := 1) ?_; (refine su (ap_assign (by exact rq_p rfl rfl)) ?_); refine asemC_end ?_) | (refine WP.regionC (id := 2) ?_; (refine su (ap_assign (by exact rq_p rfl rfl)) ?_); refine asemC_end ?_)))
  refine wp_loop (fun (j : Nat) => j ≤ f.levels.length) (fun j => f.levels.length - j)
    (fun j => (S 79 [(1, intA m), (2, .ptr 0 3 0 0), (5, intA (szL f m j)), (6, intA (j : Nat))] 1 [(0, some (.arr 3 [fileA f]))])) 0 ⟨[0], ToR.S rfl (by repeat' (first | exact rt_nil | refine rt_t (by exact rfl) (by exact rfl) ?_ | refine rt_e (by exact rfl) (by exact rfl) ?_)) (by repeat' (first | exact ro_nil | refine ro_p (by exact rfl) (by first | exact rfl | fail) (by first | (simp [bdL, bdL_append, AV.bd]; done) | fail) ?_)) (by decide) (by (rw [hm]; exact rfl)) (by exact rfl) (by (simp [bdT, AV.bd, bdL, bdL_append]; done)) (by repeat' (first | exact True.intro | refine And.intro ?_ ?_ | (simp [bdOq, bdL, bdL_append, AV.bd]; done))) (by (rw [hm]; exact Nat.le_of_ble_eq_true rfl))⟩ (Nat.zero_le _) ?_
  rintro j hj
  have hb := szL_bd f hT m h0 j hj
  by_cases hlt : j < f.levels.length ∧ szL f m j ≤ m
  · have htk := hT _ (nth_mem (l := f.levels) (k := j) hlt.1)
    have hlt1 := hlt.1; have hlt2 := hlt.2
    (repeat' (first | refine WP.seq ?_ | refine WP.block ?_ | refine go_n ?_ | refine WP.skip ?_ | refine bl_n ?_ | (refine wp_cond (by exact rfl) (fun hc => ?_) (fun hc => ?_) <;> (try simp only [decide_eq_true_eq, decide_eq_false_iff_not, Decidable.not_not, Bool.and_eq_true, Bool.or_eq_true, Bool.not_eq_true', Bool.not_eq_false', Bool.or_eq_false_iff, Bool.and_eq_false_iff, Int.not_lt, Int.not_le, reduceCtorEq, ne_eq, Bool.not_true, Bool.not_false, Bool.not_eq_true, Bool.not_eq_false] at hc) <;> (try (exfalso; omega))) | (refine WP.regionC (id := 3) ?_; (refine su (ap_move (by exact rq_p rfl rfl)) ?_); (refine su (ap_field_p (by exact rq_p rfl rfl) (by exact rfl) (by exact rfl)) ?_); (refine su (ap_load_p (by exact rq_p rfl rfl) (by exact rfl) (by exact rfl) (by exact rfl)) ?_); (refine su (ap_len_m (by exact rfl) (by exact rq_p rfl rfl)) ?_); (refine su (ap_lss (by exact rq_p rfl rfl) (by exact rq_p rfl rfl)) ?_); (refine su (ap_move (by exact rq_p rfl rfl)) ?_); (refine sg (by exact gq_vt rfl rfl) (fun he => ap_move (by exact rq_p rfl rfl)) ?_); (refine sg (by exact gq_vt rfl rfl) (fun he => ap_move (by exact rq_p rfl rfl)) ?_); (refine sg (by exact gq_vt rfl rfl) (fun he => ap_leq (by exact rq_c rfl rfl) (by exact rq_c rfl rfl)) ?_); (refine su (ap_and (by exact rq_p rfl rfl) (by exact rq_c rfl rfl)) ?_); refine asemC_end ?_) | (refine WP.regionC (id := 5) ?_; (refine su (ap_move (by exact rq_p rfl rfl)) ?_); (refine su (ap_add (by exact rq_p rfl rfl) (by exact rq_p rfl rfl) (by exact inr_i64_of (by omega))) ?_); (refine su (ap_field_p (by exact rq_p rfl rfl) (by exact rfl) (by exact rfl)) ?_); (refine su (ap_load_p (by exact rq_p rfl rfl) (by exact rfl) (by exact rfl) (by exact rfl)) ?_); (refine su (ap_move (by exact rq_p rfl rfl)) ?_); (refine su (ap_idx_n (by exact rq_p rfl rfl) (by exact rq_p rfl rfl) (by omega)) ?_); (refine su (ap_field_i (by exact rq_p rfl rfl) (by exact rfl) (by exact rfl)) ?_); (refine su (ap_load_i (by exact rq_p rfl rfl) (by exact rfl)) ?_); (refine su (ap_len_m (by exact rfl) (by exact rq_p rfl rfl)) ?_); (refine su (ap_add (by exact rq_p rfl rfl) (by exact rq_p rfl rfl) (by exact inr_i64_of (by omega))) ?_); (refine su (ap_assign (by exact rq_p rfl rfl)) ?_); refine asemC_end ?_) | (refine WP.regionC (id := 4) ?_; (refine su (ap_move (by exact rq_p rfl rfl)) ?_); (refine su (ap_add (by exact rq_p rfl rfl) (by exact rq_p rfl rfl) (by exact inr_i64_of (by omega))) ?_); (refine su (ap_assign (by exact rq_p rfl rfl)) ?_); refine asemC_end ?_)))
    refine ⟨j + 1, ⟨by omega, by omega⟩, ?_⟩
    rw [szL, if_pos hlt2]
    exact ⟨[0], ToR.S rfl (by repeat' (first | exact rt_nil | refine rt_t (by exact rfl) (by exact rfl) ?_ | refine rt_e (by exact rfl) (by exact rfl) ?_)) (by repeat' (first | exact ro_nil | refine ro_p (by exact rfl) (by first | exact rfl | fail) (by first | (simp [bdL, bdL_append, AV.bd]; done) | fail) ?_)) (by decide) (by (rw [hm]; exact rfl)) (by exact rfl) (by (simp [bdT, AV.bd, bdL, bdL_append]; done)) (by repeat' (first | exact True.intro | refine And.intro ?_ ?_ | (simp [bdOq, bdL, bdL_append, AV.bd]; done))) (by (rw [hm]; exact Nat.le_of_ble_eq_true rfl))⟩
  have e0 : szL f m j = szR f m 0 := by
    rw [szR]
    by_cases hle : szL f m j ≤ m
    · have : j = f.levels.length := by omega
      rw [this]
    · have := szL_over f m (j := j) (by omega) (f.levels.length - j)
      rw [show j + (f.levels.length - j) = f.levels.length by omega] at this
      exact this.symm
  have hlt' : f.levels.length ≤ j ∨ m < szL f m j := by omega
  (repeat' (first | refine WP.seq ?_ | refine WP.block ?_ | refine go_n ?_ | refine WP.exit ?_ | refine go_x ?_ | refine bl_x ?_ | (refine wp_cond (by exact rfl) (fun hc => ?_) (fun hc => ?_) <;> (try simp only [decide_eq_true_eq, decide_eq_false_iff_not, Decidable.not_not, Bool.and_eq_true, Bool.or_eq_true, Bool.not_eq_true', Bool.not_eq_false', Bool.or_eq_false_iff, Bool.and_eq_false_iff, Int.not_lt, Int.not_le, reduceCtorEq, ne_eq, Bool.not_true, Bool.not_false, Bool.not_eq_true, Bool.not_eq_false] at hc) <;> (try (exfalso; omega))) | (refine WP.regionC (id := 3) ?_; (refine su (ap_move (by exact rq_p rfl rfl)) ?_); (refine su (ap_field_p (by exact rq_p rfl rfl) (by exact rfl) (by exact rfl)) ?_); (refine su (ap_load_p (by exact rq_p rfl rfl) (by exact rfl) (by exact rfl) (by exact rfl)) ?_); (refine su (ap_len_m (by exact rfl) (by exact rq_p rfl rfl)) ?_); (refine su (ap_lss (by exact rq_p rfl rfl) (by exact rq_p rfl rfl)) ?_); (refine su (ap_move (by exact rq_p rfl rfl)) ?_); (refine sg (by exact gq_vt rfl rfl) (fun he => ap_move (by exact rq_p rfl rfl)) ?_); (refine sg (by exact gq_vt rfl rfl) (fun he => ap_move (by exact rq_p rfl rfl)) ?_); (refine sg (by exact gq_vt rfl rfl) (fun he => ap_leq (by exact rq_c rfl rfl) (by exact rq_c rfl rfl)) ?_); (refine su (ap_and (by exact rq_p rfl rfl) (by exact rq_c rfl rfl)) ?_); refine asemC_end ?_) | (refine WP.regionC (id := 6) ?_; (refine su (ap_assign (by exact rq_p rfl rfl)) ?_); refine asemC_end ?_)))
  rw [e0]
  refine wp_loop (fun (i : Nat) => i ≤ f.rules.length) (fun i => f.rules.length - i)
    (fun i => (S 79 [(1, intA m), (2, .ptr 0 3 0 0), (5, intA (szR f m i)), (7, intA (i : Nat))] 1 [(0, some (.arr 3 [fileA f]))])) 0 ⟨[0], ToR.S rfl (by repeat' (first | exact rt_nil | refine rt_t (by exact rfl) (by exact rfl) ?_ | refine rt_e (by exact rfl) (by exact rfl) ?_)) (by repeat' (first | exact ro_nil | refine ro_p (by exact rfl) (by first | exact rfl | fail) (by first | (simp [bdL, bdL_append, AV.bd]; done) | fail) ?_)) (by decide) (by (rw [hm]; exact rfl)) (by exact rfl) (by (simp [bdT, AV.bd, bdL, bdL_append]; done)) (by repeat' (first | exact True.intro | refine And.intro ?_ ?_ | (simp [bdOq, bdL, bdL_append, AV.bd]; done))) (by (rw [hm]; exact Nat.le_of_ble_eq_true rfl))⟩ (Nat.zero_le _) ?_
  rintro i hi
  have hbr := szR_bd f hT m h0 i
  by_cases hlr : i < f.rules.length ∧ szR f m i ≤ m
  · have hlr1 := hlr.1; have hlr2 := hlr.2
    have hal := hll _ (nth_mem hlr1)
    (repeat' (first | refine WP.seq ?_ | refine WP.block ?_ | refine go_n ?_ | refine WP.skip ?_ | (refine wp_cond (by exact rfl) (fun hc => ?_) (fun hc => ?_) <;> (try simp only [decide_eq_true_eq, decide_eq_false_iff_not, Decidable.not_not, Bool.and_eq_true, Bool.or_eq_true, Bool.not_eq_true', Bool.not_eq_false', Bool.or_eq_false_iff, Bool.and_eq_false_iff, Int.not_lt, Int.not_le, reduceCtorEq, ne_eq, Bool.not_true, Bool.not_false, Bool.not_eq_true, Bool.not_eq_false] at hc) <;> (try (exfalso; omega))) | (refine WP.regionC (id := 7) ?_; (refine su (ap_move (by exact rq_p rfl rfl)) ?_); (refine su (ap_field_p (by exact rq_p rfl rfl) (by exact rfl) (by exact rfl)) ?_); (refine su (ap_load_p (by exact rq_p rfl rfl) (by exact rfl) (by exact rfl) (by exact rfl)) ?_); (refine su (ap_len_m (by exact rfl) (by exact rq_p rfl rfl)) ?_); (refine su (ap_lss (by exact rq_p rfl rfl) (by exact rq_p rfl rfl)) ?_); (refine su (ap_move (by exact rq_p rfl rfl)) ?_); (refine sg (by exact gq_vt rfl rfl) (fun he => ap_move (by exact rq_p rfl rfl)) ?_); (refine sg (by exact gq_vt rfl rfl) (fun he => ap_move (by exact rq_p rfl rfl)) ?_); (refine sg (by exact gq_vt rfl rfl) (fun he => ap_leq (by exact rq_c rfl rfl) (by exact rq_c rfl rfl)) ?_); (refine su (ap_and (by exact rq_p rfl rfl) (by exact rq_c rfl rfl)) ?_); refine asemC_end ?_) | (refine WP.regionC (id := 9) ?_; (refine su (ap_move (by exact rq_p rfl rfl)) ?_); (refine su (ap_add (by exact rq_p rfl rfl) (by exact rq_p rfl rfl) (by exact inr_i64_of (by omega))) ?_); (refine su (ap_assign (by exact rq_p rfl rfl)) ?_); refine asemC_end ?_) | (refine WP.regionC (id := 10) ?_; (refine su (ap_assign (by exact rq_p rfl rfl)) ?_); refine asemC_end ?_)))
    refine wp_loop (fun (k : Nat) => k ≤ (nth f.rules i).alts.length) (fun k => (nth f.rules i).alts.length - k)
      (fun k => (S 79 [(1, intA m), (2, .ptr 0 3 0 0), (5, intA (szA (nth f.rules i) m (szR f m i + 1) k)), (7, intA (i : Nat)), (8, intA (k : Nat))] 1 [(0, some (.arr 3 [fileA f]))])) 0 ⟨[0], ToR.S rfl (by repeat' (first | exact rt_nil | refine rt_t (by exact rfl) (by exact rfl) ?_ | refine rt_e (by exact rfl) (by exact rfl) ?_)) (by repeat' (first | exact ro_nil | refine ro_p (by exact rfl) (by first | exact rfl | fail) (by first | (simp [bdL, bdL_append, AV.bd]; done) | fail) ?_)) (by decide) (by (rw [hm]; exact rfl)) (by exact rfl) (by (simp [bdT, AV.bd, bdL, bdL_append]; done)) (by repeat' (first | exact True.intro | refine And.intro ?_ ?_ | (simp [bdOq, bdL, bdL_append, AV.bd]; done))) (by (rw [hm]; exact Nat.le_of_ble_eq_true rfl))⟩ (Nat.zero_le _) ?_
    rintro k hk
    have hba := szA_bd (nth f.rules i) m (szR f m i + 1) k
    by_cases hla : k < (nth f.rules i).alts.length ∧ szA (nth f.rules i) m (szR f m i + 1) k ≤ m
    · have hla1 := hla.1; have hla2 := hla.2
      have hnb := nodesR_bd (nth (nth f.rules i).alts k).body (m - szA (nth f.rules i) m (szR f m i + 1) k) (by omega)
      have hx := nodes_fn (nth (nth f.rules i).alts k).body (m - szA (nth f.rules i) m (szR f m i + 1) k) (by omega) (by omega)
      (repeat' (first | refine WP.seq ?_ | refine WP.block ?_ | refine go_n ?_ | refine WP.skip ?_ | refine bl_n ?_ | (refine wp_cond (by exact rfl) (fun hc => ?_) (fun hc => ?_) <;> (try simp only [decide_eq_true_eq, decide_eq_false_iff_not, Decidable.not_not, Bool.and_eq_true, Bool.or_eq_true, Bool.not_eq_true', Bool.not_eq_false', Bool.or_eq_false_iff, Bool.and_eq_false_iff, Int.not_lt, Int.not_le, reduceCtorEq, ne_eq, Bool.not_true, Bool.not_false, Bool.not_eq_true, Bool.not_eq_false] at hc) <;> (try (exfalso; omega))) | (refine WP.regionC (id := 11) ?_; (refine su (ap_move (by exact rq_p rfl rfl)) ?_); (refine su (ap_field_p (by exact rq_p rfl rfl) (by exact rfl) (by exact rfl)) ?_); (refine su (ap_load_p (by exact rq_p rfl rfl) (by exact rfl) (by exact rfl) (by exact rfl)) ?_); (refine su (ap_move (by exact rq_p rfl rfl)) ?_); (refine su (ap_idx_n (by exact rq_p rfl rfl) (by exact rq_p rfl rfl) (by omega)) ?_); (refine su (ap_field_i (by exact rq_p rfl rfl) (by exact rfl) (by exact rfl)) ?_); (refine su (ap_load_i (by exact rq_p rfl rfl) (by exact rfl)) ?_); (refine su (ap_len_m (by exact rfl) (by exact rq_p rfl rfl)) ?_); (refine su (ap_lss (by exact rq_p rfl rfl) (by exact rq_p rfl rfl)) ?_); (refine su (ap_move (by exact rq_p rfl rfl)) ?_); (refine sg (by exact gq_vt rfl rfl) (fun he => ap_move (by exact rq_p rfl rfl)) ?_); (refine sg (by exact gq_vt rfl rfl) (fun he => ap_move (by exact rq_p rfl rfl)) ?_); (refine sg (by exact gq_vt rfl rfl) (fun he => ap_leq (by exact rq_c rfl rfl) (by exact rq_c rfl rfl)) ?_); (refine su (ap_and (by exact rq_p rfl rfl) (by exact rq_c rfl rfl)) ?_); refine asemC_end ?_) | (refine WP.regionC (id := 13) ?_; (refine su (ap_move (by exact rq_p rfl rfl)) ?_); (refine su (ap_add (by exact rq_p rfl rfl) (by exact rq_p rfl rfl) (by exact inr_i64_of (by omega))) ?_); (refine su (ap_field_p (by exact rq_p rfl rfl) (by exact rfl) (by exact rfl)) ?_); (refine su (ap_load_p (by exact rq_p rfl rfl) (by exact rfl) (by exact rfl) (by exact rfl)) ?_); (refine su (ap_move (by exact rq_p rfl rfl)) ?_); (refine su (ap_idx_n (by exact rq_p rfl rfl) (by exact rq_p rfl rfl) (by omega)) ?_); (refine su (ap_field_i (by exact rq_p rfl rfl) (by exact rfl) (by exact rfl)) ?_); (refine su (ap_load_i (by exact rq_p rfl rfl) (by exact rfl)) ?_); (refine su (ap_move (by exact rq_p rfl rfl)) ?_); (refine su (ap_idx_n (by exact rq_p rfl rfl) (by exact rq_p rfl rfl) (by omega)) ?_); (refine su (ap_field_i (by exact rq_p rfl rfl) (by exact rfl) (by exact rfl)) ?_); (refine su (ap_load_i (by exact rq_p rfl rfl) (by exact rfl)) ?_); (refine su (ap_move (by exact rq_p rfl rfl)) ?_); (refine su (ap_move (by exact rq_p rfl rfl)) ?_); (refine su (ap_sub (by exact rq_p rfl rfl) (by exact rq_p rfl rfl) (by exact inr_i64_of (by omega))) ?_); (refine sc_p rfl rfl (by first | ((repeat' first | exact SubL.nil | refine SubL.cons ?_ ?_ | exact Sub.refl); done) | fail) (by first | (simp [bdL, bdL_append, AV.bd]; done) | fail) (hx) ?_); (refine su (ap_add (by exact rq_p rfl rfl) (by exact rq_p rfl rfl) (by exact inr_i64_of (by omega))) ?_); (refine su (ap_assign (by exact rq_p rfl rfl)) ?_); refine asemC_end ?_) | (refine WP.regionC (id := 12) ?_; (refine su (ap_move (by exact rq_p rfl rfl)) ?_); (refine su (ap_add (by exact rq_p rfl rfl) (by exact rq_p rfl rfl) (by exact inr_i64_of (by omega))) ?_); (refine su (ap_assign (by exact rq_p rfl rfl)) ?_); refine asemC_end ?_)))
      refine ⟨k + 1, ⟨by omega, by omega⟩, ?_⟩
      rw [szA, if_pos hla2]
      exact ⟨[0], ToR.S rfl (by repeat' (first | exact rt_nil | refine rt_t (by exact rfl) (by exact rfl) ?_ | refine rt_e (by exact rfl) (by exact rfl) ?_)) (by repeat' (first | exact ro_nil | refine ro_p (by exact rfl) (by first | exact rfl | fail) (by first | (simp [bdL, bdL_append, AV.bd]; done) | fail) ?_)) (by decide) (by (rw [hm]; exact rfl)) (by exact rfl) (by (simp [bdT, AV.bd, bdL, bdL_append]; done)) (by repeat' (first | exact True.intro | refine And.intro ?_ ?_ | (simp [bdOq, bdL, bdL_append, AV.bd]; done))) (by (rw [hm]; exact Nat.le_of_ble_eq_true rfl))⟩
    have e2 : szA (nth f.rules i) m (szR f m i + 1) k = szR f m (i + 1) := by
      rw [szR, if_pos hlr2]
      by_cases hle : szA (nth f.rules i) m (szR f m i + 1) k ≤ m
      · have : k = (nth f.rules i).alts.length := by omega
        rw [this]
      · have := szA_over (nth f.rules i) m (szR f m i + 1) (j := k) (by omega) ((nth f.rules i).alts.length - k)
        rw [show k + ((nth f.rules i).alts.length - k) = (nth f.rules i).alts.length by omega] at this
        exact this.symm
    have hla' : (nth f.rules i).alts.length ≤ k ∨ m < szA (nth f.rules i) m (szR f m i + 1) k := by omega
    (repeat' (first | refine WP.seq ?_ | refine go_n ?_ | refine WP.exit ?_ | refine go_x ?_ | refine bl_n ?_ | refine bl_x ?_ | (refine wp_cond (by exact rfl) (fun hc => ?_) (fun hc => ?_) <;> (try simp only [decide_eq_true_eq, decide_eq_false_iff_not, Decidable.not_not, Bool.and_eq_true, Bool.or_eq_true, Bool.not_eq_true', Bool.not_eq_false', Bool.or_eq_false_iff, Bool.and_eq_false_iff, Int.not_lt, Int.not_le, reduceCtorEq, ne_eq, Bool.not_true, Bool.not_false, Bool.not_eq_true, Bool.not_eq_false] at hc) <;> (try (exfalso; omega))) | (refine WP.regionC (id := 11) ?_; (refine su (ap_move (by exact rq_p rfl rfl)) ?_); (refine su (ap_field_p (by exact rq_p rfl rfl) (by exact rfl) (by exact rfl)) ?_); (refine su (ap_load_p (by exact rq_p rfl rfl) (by exact rfl) (by exact rfl) (by exact rfl)) ?_); (refine su (ap_move (by exact rq_p rfl rfl)) ?_); (refine su (ap_idx_n (by exact rq_p rfl rfl) (by exact rq_p rfl rfl) (by omega)) ?_); (refine su (ap_field_i (by exact rq_p rfl rfl) (by exact rfl) (by exact rfl)) ?_); (refine su (ap_load_i (by exact rq_p rfl rfl) (by exact rfl)) ?_); (refine su (ap_len_m (by exact rfl) (by exact rq_p rfl rfl)) ?_); (refine su (ap_lss (by exact rq_p rfl rfl) (by exact rq_p rfl rfl)) ?_); (refine su (ap_move (by exact rq_p rfl rfl)) ?_); (refine sg (by exact gq_vt rfl rfl) (fun he => ap_move (by exact rq_p rfl rfl)) ?_); (refine sg (by exact gq_vt rfl rfl) (fun he => ap_move (by exact rq_p rfl rfl)) ?_); (refine sg (by exact gq_vt rfl rfl) (fun he => ap_leq (by exact rq_c rfl rfl) (by exact rq_c rfl rfl)) ?_); (refine su (ap_and (by exact rq_p rfl rfl) (by exact rq_c rfl rfl)) ?_); refine asemC_end ?_) | (refine WP.regionC (id := 8) ?_; (refine su (ap_move (by exact rq_p rfl rfl)) ?_); (refine su (ap_add (by exact rq_p rfl rfl) (by exact rq_p rfl rfl) (by exact inr_i64_of (by omega))) ?_); (refine su (ap_assign (by exact rq_p rfl rfl)) ?_); refine asemC_end ?_)))
    refine ⟨i + 1, ⟨by omega, by omega⟩, ?_⟩
    rw [← e2]
    exact ⟨[0], ToR.S rfl (by repeat' (first | exact rt_nil | refine rt_t (by exact rfl) (by exact rfl) ?_ | refine rt_e (by exact rfl) (by exact rfl) ?_)) (by repeat' (first | exact ro_nil | refine ro_p (by exact rfl) (by first | exact rfl | fail) (by first | (simp [bdL, bdL_append, AV.bd]; done) | fail) ?_)) (by decide) (by (rw [hm]; exact rfl)) (by exact rfl) (by (simp [bdT, AV.bd, bdL, bdL_append]; done)) (by repeat' (first | exact True.intro | refine And.intro ?_ ?_ | (simp [bdOq, bdL, bdL_append, AV.bd]; done))) (by (rw [hm]; exact Nat.le_of_ble_eq_true rfl))⟩
  have e3 : sizeF f m = szR f m i := by
    unfold sizeF
    by_cases hle : szR f m i ≤ m
    · have : i = f.rules.length := by omega
      rw [this]
    · have := szR_over f m (j := i) (by omega) (f.rules.length - i)
      rw [show i + (f.rules.length - i) = f.rules.length by omega] at this
      exact this
  have hlr' : f.rules.length ≤ i ∨ m < szR f m i := by omega
  rw [e3]
  (repeat' (first | refine WP.seq ?_ | refine go_n ?_ | refine WP.exit ?_ | refine WP.ret ?_ | refine go_x ?_ | refine bl_x ?_ | refine bo_r ?_ | (refine wp_cond (by exact rfl) (fun hc => ?_) (fun hc => ?_) <;> (try simp only [decide_eq_true_eq, decide_eq_false_iff_not, Decidable.not_not, Bool.and_eq_true, Bool.or_eq_true, Bool.not_eq_true', Bool.not_eq_false', Bool.or_eq_false_iff, Bool.and_eq_false_iff, Int.not_lt, Int.not_le, reduceCtorEq, ne_eq, Bool.not_true, Bool.not_false, Bool.not_eq_true, Bool.not_eq_false] at hc) <;> (try (exfalso; omega))) | (refine WP.regionC (id := 7) ?_; (refine su (ap_move (by exact rq_p rfl rfl)) ?_); (refine su (ap_field_p (by exact rq_p rfl rfl) (by exact rfl) (by exact rfl)) ?_); (refine su (ap_load_p (by exact rq_p rfl rfl) (by exact rfl) (by exact rfl) (by exact rfl)) ?_); (refine su (ap_len_m (by exact rfl) (by exact rq_p rfl rfl)) ?_); (refine su (ap_lss (by exact rq_p rfl rfl) (by exact rq_p rfl rfl)) ?_); (refine su (ap_move (by exact rq_p rfl rfl)) ?_); (refine sg (by exact gq_vt rfl rfl) (fun he => ap_move (by exact rq_p rfl rfl)) ?_); (refine sg (by exact gq_vt rfl rfl) (fun he => ap_move (by exact rq_p rfl rfl)) ?_); (refine sg (by exact gq_vt rfl rfl) (fun he => ap_leq (by exact rq_c rfl rfl) (by exact rq_c rfl rfl)) ?_); (refine su (ap_and (by exact rq_p rfl rfl) (by exact rq_c rfl rfl)) ?_); refine asemC_end ?_) | (refine WP.regionC (id := 14) ?_; (refine su (ap_move (by exact rq_p rfl rfl)) ?_); (refine su (ap_assign (by exact rq_p rfl rfl)) ?_); refine asemC_end ?_) | exact ret_eq (by exact rfl) (by exact rfl) rfl))
theorem small_fn (f : GFi) (hT : TokB f) (m : Int) (h0 : 0 ≤ m) (h1 : m ≤ 1000) : Fn Tryd.prog 9 [fileA f, intA m] (boolA (decide (sizeF f m ≤ m))) := by
  have hx := size_fn f hT m h0 h1
  refine Fn.intro (by exact rfl) (by kernel_rfl) Tryd.func9 rfl rfl Tryd.ntmps9 (by exact Nat.le_of_ble_eq_true rfl) ?_; intro Γ hm
  (repeat' (first | refine WP.seq ?_ | refine go_n ?_ | refine WP.ret ?_ | refine bo_r ?_ | (refine WP.regionC (id := 0) ?_; (refine se_box (by exact rfl) (by exact ⟨rfl, rfl⟩) ?_); (refine su (ap_assign (by exact rq_p rfl rfl)) ?_); refine asemC_end ?_) | (refine WP.regionC (id := 1) ?_; (refine su (ap_load_pw (by exact rq_p rfl rfl) (by exact rfl) (by exact rfl) (by exact rfl)) ?_); (refine su (ap_move (by exact rq_p rfl rfl)) ?_); (refine sc_p rfl rfl (by first | ((repeat' first | exact SubL.nil | refine SubL.cons ?_ ?_ | exact Sub.refl); done) | fail) (by first | (simp [bdL, bdL_append, AV.bd]; done) | fail) (hx) ?_); (refine su (ap_move (by exact rq_p rfl rfl)) ?_); (refine su (ap_leq (by exact rq_p rfl rfl) (by exact rq_p rfl rfl)) ?_); (refine su (ap_assign (by exact rq_p rfl rfl)) ?_); refine asemC_end ?_) | exact ret_eq (by exact rfl) (by exact rfl) rfl))
end Go.Lg

/- emendateref16.Valid. -/
namespace Go.Lg
open Go.Proofs
set_option linter.unusedSimpArgs false
set_option linter.unusedVariables false
attribute [local irreducible] Ap Rq asemC WP RunD Ret Gq thenA inBlockA bodyQ noGotoA RqL RqP OpP
set_option maxHeartbeats 8000000

/-- the first k rules are valid as the reference sees it -/
def rulesTo (f : GFi) (k : Nat) : Prop := ∀ j, j < k → (gnOk (nth f.rules j).name = true ∧ gruleOk (nth f.rules j) = true) ∧ ∀ i, i < j → (nth f.rules i).name ≠ (nth f.rules j).name
def startTo (f : GFi) (k : Nat) : Bool := (f.rules.take k).any fun r => decide (r.name = f.start)
theorem startTo_succ {f : GFi} {k : Nat} (hk : k < f.rules.length) : startTo f (k + 1) = (startTo f k || decide ((nth f.rules k).name = f.start)) := by
  simp [startTo, take_succ_nth hk]
theorem altOk_iff {a : GAl} : altOk a = true ↔ (0 ≤ a.price ∧ a.price ≤ 1000) ∧ okE a.body 30 = true := by
  simp only [altOk, Bool.and_eq_true, decide_eq_true_eq]
theorem altOk_no {a : GAl} (h : (a.price < 0 ∨ 1000 < a.price) ∨ okE a.body 30 = false) : altOk a = false := by
  cases hg : altOk a with
  | false => rfl
  | true =>
    have := altOk_iff.1 hg
    rcases h with h | h
    · omega
    · rw [h] at this; exact absurd this.2 (by decide)
theorem nth_map {α β : Type} [Inhabited α] [Inhabited β] (g : α → β) {l : List α} {k : Nat} (hk : k < l.length) : nth (l.map g) k = g (nth l k) := by
  rw [nth_eq (by simpa using hk), nth_eq hk, List.getElem_map]
theorem rnames_all (f : GFi) : rnames f f.rules.length = f.rules.map (·.name) := by simp [rnames]
theorem rules_no1 {f : GFi} {k : Nat} (hk : k < f.rules.length) (h : gnOk (nth f.rules k).name = false) : validF f = false := by
  have : distOk (rnames f f.rules.length) = false := by
    rw [rnames_all]
    simp only [distOk, all_nth_no (l := f.rules.map (·.name)) (f := gnOk) (k := k) (by simpa using hk) (by rw [nth_map _ hk]; exact h), Bool.false_and]
  simp only [validF, this, Bool.and_false, Bool.false_and]
theorem rules_no2 {f : GFi} {i k : Nat} (hk : k < f.rules.length) (hi : i < k) (h : (nth f.rules i).name = (nth f.rules k).name) : validF f = false := by
  have : distOk (rnames f f.rules.length) = false := by
    rw [rnames_all]
    simp only [distOk, decide_eq_false (not_nodup (l := f.rules.map (·.name)) (j := k) (k := i) (by simpa using hk) hi (by rw [nth_map _ (by omega), nth_map _ hk]; exact h)), Bool.and_false]
  simp only [validF, this, Bool.and_false, Bool.false_and]
theorem rules_no3 {f : GFi} {k : Nat} (hk : k < f.rules.length) (h : gruleOk (nth f.rules k) = false) : validF f = false := by
  simp only [validF, all_nth_no (l := f.rules) (f := gruleOk) (k := k) hk h, Bool.and_false, Bool.false_and]
theorem rules_yes {f : GFi} (h : rulesTo f f.rules.length) : f.rules.all gruleOk = true ∧ distOk (rnames f f.rules.length) = true := by
  refine ⟨all_of_nth fun j hj => (h j hj).1.2, ?_⟩
  rw [rnames_all]
  simp only [distOk, Bool.and_eq_true, decide_eq_true_eq]
  refine ⟨all_of_nth fun j hj => ?_, nodup_nth fun j hj i hi => ?_⟩
  · have hj' : j < f.rules.length := by simpa using hj
    rw [nth_map _ hj']; exact (h j hj').1.1
  · have hj' : j < f.rules.length := by simpa using hj
    rw [nth_map _ hj', nth_map _ (by omega)]; exact (h j hj').2 i hi
theorem start_any (f : GFi) : (rnames f f.rules.length).any (fun x => decide (f.start = x)) = startTo f f.rules.length := by
  rw [rnames_all, startTo, List.take_of_length_le (Nat.le_refl _), List.any_map]
  congr 1
  funext r
  simp only [Function.comp]
  rw [Bool.eq_iff_iff]; simp [eq_comm]
theorem distOk_iff {l : List ByteArray} : distOk l = true ↔ (∀ x, x ∈ l → gnOk x = true) ∧ l.Nodup := by
  simp only [distOk, Bool.and_eq_true, decide_eq_true_eq, List.all_eq_true]
theorem distOk_add {l : List ByteArray} {x : ByteArray} (h : distOk l = true) (h1 : gnOk x = true) (h2 : x ∉ l) : distOk (l ++ [x]) = true := by
  rw [distOk_iff] at h ⊢
  refine ⟨fun y hy => ?_, ?_⟩
  · rcases List.mem_append.1 hy with hy | hy
    · exact h.1 y hy
    · rw [List.mem_singleton.1 hy]; exact h1
  · rw [List.nodup_append]; exact ⟨h.2, by simp, fun a ha b hb => by rw [List.mem_singleton.1 hb]; rintro rfl; exact h2 ha⟩
theorem distOk_no {l r : List ByteArray} {x : ByteArray} (h : gnOk x = false ∨ x ∈ l) : distOk (l ++ x :: r) = false := by
  cases hg : distOk (l ++ x :: r) with
  | false => rfl
  | true =>
    rw [distOk_iff] at hg
    rcases h with h | h
    · have := hg.1 x (by simp); rw [h] at this; cases this
    · exact absurd rfl ((List.nodup_append.1 hg.2).2.2 x h x (by simp))
/-- the names of the tokens up to the k-th of the j-th level -/
def toks2 (f : GFi) (j k : Nat) : List ByteArray := toks f j ++ (nth f.levels j).tokens.take k
theorem toks2_no {f : GFi} {j k : Nat} (hj : j < f.levels.length) (hk : k < (nth f.levels j).tokens.length) (h : gnOk (nth (nth f.levels j).tokens k) = false ∨ nth (nth f.levels j).tokens k ∈ toks2 f j k) : validF f = false := by
  have key : ∃ r, toks f f.levels.length = toks2 f j k ++ nth (nth f.levels j).tokens k :: r := by
    refine ⟨(nth f.levels j).tokens.drop (k + 1) ++ ((f.levels.drop (j + 1)).map (·.tokens)).flatten, ?_⟩
    have e1 : toks f f.levels.length = toks f (j + 1) ++ ((f.levels.drop (j + 1)).map (·.tokens)).flatten := by
      simp only [toks, List.take_of_length_le (Nat.le_refl f.levels.length)]
      rw [← List.flatten_append, ← List.map_append, List.take_append_drop]
    rw [e1, toks_succ hj, toks2]
    have e2 : (nth f.levels j).tokens = (nth f.levels j).tokens.take k ++ nth (nth f.levels j).tokens k :: (nth f.levels j).tokens.drop (k + 1) := by
      rw [nth_eq hk, ← List.drop_eq_getElem_cons hk, List.take_append_drop]
    conv => lhs; rw [e2]
    simp only [List.append_assoc, List.cons_append]
  obtain ⟨r, hr⟩ := key
  have : distOk (toks f f.levels.length) = false := by rw [hr]; exact distOk_no h
  simp only [validF, this, Bool.and_false, Bool.false_and]

theorem rvalid_fn (f : GFi) (hf : f.fit) (hT : (toks f f.levels.length).length ≤ 1000000) : Fn Tryd.prog 12 [fileA f] (boolA (validF f)) := by
  obtain ⟨hf1, hf2, hf3⟩ := hf
  refine Fn.intro (by exact rfl) (by kernel_rfl) Tryd.func12 rfl rfl Tryd.ntmps12 (by exact Nat.le_of_ble_eq_true rfl) ?_; intro Γ hm
  refine wp_lens 0 rfl fun hl => ?_
  have hl2 : f.rules.length ≤ 9223372036854775807 ∧ f.levels.length ≤ 9223372036854775807 := by have := hl; simp [AV.lens, lensL, fileA, levelsA, grulesA] at this; omega
  (repeat' (first | refine WP.seq ?_ | refine WP.block ?_ | refine go_n ?_ | refine WP.skip ?_ | refine WP.ret ?_ | refine go_r ?_ | refine bo_r ?_ | (refine wp_cond (by exact rfl) (fun hc => ?_) (fun hc => ?_) <;> (try simp only [decide_eq_true_eq, decide_eq_false_iff_not, Decidable.not_not, Bool.and_eq_true, Bool.or_eq_true, Bool.not_eq_true', Bool.not_eq_false', Bool.or_eq_false_iff, Bool.and_eq_false_iff, Int.not_lt, Int.not_le, reduceCtorEq, ne_eq, Bool.not_true, Bool.not_false, Bool.not_eq_true, Bool.not_eq_false] at hc) <;> (try (exfalso; omega))) | (refine WP.regionC (id := 0) ?_; (refine se_box (by exact rfl) (by exact ⟨rfl, rfl⟩) ?_); (refine su (ap_assign (by exact rq_p rfl rfl)) ?_); refine asemC_end ?_) | (refine WP.regionC (id := 1) ?_; (refine su (ap_field_p (by exact rq_p rfl rfl) (by exact rfl) (by exact rfl)) ?_); (refine su (ap_load_p (by exact rq_p rfl rfl) (by exact rfl) (by exact rfl) (by exact rfl)) ?_); (refine su (ap_len_m (by exact rfl) (by exact rq_p rfl rfl)) ?_); (refine su (ap_lss (by exact rq_p rfl rfl) (by exact rq_p rfl rfl)) ?_); (refine su (ap_move (by exact rq_p rfl rfl)) ?_); (refine sg (by exact gq_vf rfl rfl) (fun he => ap_field_p (by exact rq_p rfl rfl) (by exact rfl) (by exact rfl)) ?_); (refine sg (by exact gq_vf rfl rfl) (fun he => ap_load_p (by exact rq_c rfl rfl) (by exact rfl) (by exact rfl) (by exact rfl)) ?_); (refine sg (by exact gq_vf rfl rfl) (fun he => ap_len_m (by exact rfl) (by exact rq_c rfl rfl)) ?_); (refine sg (by exact gq_vf rfl rfl) (fun he => ap_gtr (by exact rq_c rfl rfl) (by exact rq_p rfl rfl)) ?_); (refine su (ap_or (by exact rq_p rfl rfl) (by exact rq_c rfl rfl)) ?_); refine asemC_end ?_) | (refine WP.regionC (id := 2) ?_; (refine su (ap_assign (by exact rq_p rfl rfl)) ?_); refine asemC_end ?_) | (refine WP.regionC (id := 3) ?_; (refine su (ap_assign (by exact rq_p rfl rfl)) ?_); refine asemC_end ?_) | (refine WP.regionC (id := 4) ?_; (refine su (ap_assign (by exact rq_p rfl rfl)) ?_); refine asemC_end ?_) | refine ret_b (by exact rfl) ?_))
  · simp [validF]; omega
  refine wp_loop (fun (i : Nat) => i ≤ f.rules.length ∧ rulesTo f i) (fun i => f.rules.length - i)
    (fun i => (S 159 [(1, .ptr 0 3 0 0), (3, boolA (startTo f i)), (4, intA (i : Nat))] 1 [(0, some (.arr 3 [fileA f]))])) 0 ⟨[0], ToR.S rfl (by repeat' (first | exact rt_nil | refine rt_t (by exact rfl) (by exact rfl) ?_ | refine rt_e (by exact rfl) (by exact rfl) ?_)) (by repeat' (first | exact ro_nil | refine ro_p (by exact rfl) (by first | exact rfl | fail) (by first | (simp [bdL, bdL_append, AV.bd]; done) | fail) ?_)) (by decide) (by (rw [hm]; exact rfl)) (by exact rfl) (by (simp [bdT, AV.bd, bdL, bdL_append]; done)) (by repeat' (first | exact True.intro | refine And.intro ?_ ?_ | (simp [bdOq, bdL, bdL_append, AV.bd]; done))) (by (rw [hm]; exact Nat.le_of_ble_eq_true rfl))⟩ ⟨Nat.zero_le _, fun j hj => absurd hj (Nat.not_lt_zero _)⟩ ?_
  rintro i ⟨hi, hall⟩
  by_cases hlt : i < f.rules.length
  · have hrf := hf3 _ (nth_mem hlt)
    have hns : (nth f.rules i).name.size ≤ 9223372036854775807 := hrf.1
    have hal : (nth f.rules i).alts.length ≤ 9223372036854775807 := by
      have := hl; simp [AV.lens, lensL, fileA, levelsA, grulesA, lensL_map] at this
      have := this.2.2.2 _ (nth_mem hlt)
      simp [gruleA, AV.lens, lensL, altsA] at this
      omega
    (repeat' (first | refine WP.seq ?_ | refine WP.block ?_ | refine go_n ?_ | refine WP.skip ?_ | refine WP.ret ?_ | refine go_r ?_ | refine bl_r ?_ | refine bo_r ?_ | (refine wp_cond (by exact rfl) (fun hc => ?_) (fun hc => ?_) <;> (try simp only [decide_eq_true_eq, decide_eq_false_iff_not, Decidable.not_not, Bool.and_eq_true, Bool.or_eq_true, Bool.not_eq_true', Bool.not_eq_false', Bool.or_eq_false_iff, Bool.and_eq_false_iff, Int.not_lt, Int.not_le, reduceCtorEq, ne_eq, Bool.not_true, Bool.not_false, Bool.not_eq_true, Bool.not_eq_false] at hc) <;> (try (exfalso; omega))) | (refine WP.regionC (id := 5) ?_; (refine su (ap_move (by exact rq_p rfl rfl)) ?_); (refine su (ap_field_p (by exact rq_p rfl rfl) (by exact rfl) (by exact rfl)) ?_); (refine su (ap_load_p (by exact rq_p rfl rfl) (by exact rfl) (by exact rfl) (by exact rfl)) ?_); (refine su (ap_len_m (by exact rfl) (by exact rq_p rfl rfl)) ?_); (refine su (ap_lss (by exact rq_p rfl rfl) (by exact rq_p rfl rfl)) ?_); refine asemC_end ?_) | (refine WP.regionC (id := 7) ?_; (refine su (ap_field_p (by exact rq_p rfl rfl) (by exact rfl) (by exact rfl)) ?_); (refine su (ap_load_p (by exact rq_p rfl rfl) (by exact rfl) (by exact rfl) (by exact rfl)) ?_); (refine su (ap_move (by exact rq_p rfl rfl)) ?_); (refine su (ap_idx_n (by exact rq_p rfl rfl) (by exact rq_p rfl rfl) (by omega)) ?_); (refine su (ap_load_w (by exact rq_p rfl rfl) (by exact rfl)) ?_); (refine se_alloc (by exact rfl) ?_); (refine se_store_b (by exact rfl) (by exact rfl) (by exact rfl) (by exact rfl) ?_); refine asemC_end ?_) | (refine WP.regionC (id := 8) ?_; (refine su (ap_move (by exact rq_p rfl rfl)) ?_); (refine su (ap_move (by exact rq_p rfl rfl)) ?_); (refine sg (by exact gq_vf rfl rfl) (fun he => ap_field_p (by exact rq_p rfl rfl) (by exact rfl) (by exact rfl)) ?_); (refine sg (by exact gq_vf rfl rfl) (fun he => ap_load_p (by exact rq_c rfl rfl) (by exact rfl) (by exact rfl) (by exact rfl)) ?_); (refine sg (by exact gq_vf rfl rfl) (fun he => ap_field_p (by exact rq_p rfl rfl) (by exact rfl) (by exact rfl)) ?_); (refine sg (by exact gq_vf rfl rfl) (fun he => ap_load_p (by exact rq_c rfl rfl) (by exact rfl) (by exact rfl) (by exact rfl)) ?_); (refine sg (by exact gq_vf rfl rfl) (fun he => ap_eqs (by exact rq_c rfl rfl) (by exact rq_c rfl rfl)) ?_); (refine su (ap_or (by exact rq_p rfl rfl) (by exact rq_c rfl rfl)) ?_); (refine su (ap_assign (by exact rq_p rfl rfl)) ?_); refine asemC_end ?_) | (refine WP.regionC (id := 9) ?_; (refine su (ap_field_p (by exact rq_p rfl rfl) (by exact rfl) (by exact rfl)) ?_); (refine su (ap_load_p (by exact rq_p rfl rfl) (by exact rfl) (by exact rfl) (by exact rfl)) ?_); (refine sc_p rfl rfl (by first | ((repeat' first | exact SubL.nil | refine SubL.cons ?_ ?_ | exact Sub.refl); done) | fail) (by first | (simp [bdL, bdL_append, AV.bd]; done) | fail) (rname_fn _ (by assumption)) ?_); (refine su (ap_not (by exact rq_p rfl rfl)) ?_); (refine su (ap_move (by exact rq_p rfl rfl)) ?_); (refine sg (by exact gq_vf rfl rfl) (fun he => ap_field_p (by exact rq_p rfl rfl) (by exact rfl) (by exact rfl)) ?_); (refine sg (by exact gq_vf rfl rfl) (fun he => ap_load_p (by exact rq_c rfl rfl) (by exact rfl) (by exact rfl) (by exact rfl)) ?_); (refine sg (by exact gq_vf rfl rfl) (fun he => ap_len_m (by exact rfl) (by exact rq_c rfl rfl)) ?_); (refine sg (by exact gq_vf rfl rfl) (fun he => ap_eql (by exact rq_c rfl rfl) (by exact rq_p rfl rfl)) ?_); (refine su (ap_or (by exact rq_p rfl rfl) (by exact rq_c rfl rfl)) ?_); refine asemC_end ?_) | (refine WP.regionC (id := 10) ?_; (refine su (ap_assign (by exact rq_p rfl rfl)) ?_); refine asemC_end ?_) | (refine WP.regionC (id := 11) ?_; (refine su (ap_assign (by exact rq_p rfl rfl)) ?_); refine asemC_end ?_) | refine ret_b (by exact rfl) ?_))
    · rcases hc with hc | hc
      · rw [rules_no1 hlt hc]
      · rw [rules_no3 hlt (by unfold gruleOk; rw [show (nth f.rules i).alts = [] from List.eq_nil_of_length_eq_zero (by omega)]; rfl)]
    have hnm : gnOk (nth f.rules i).name = true := hc.1
    have hne : ¬ (nth f.rules i).alts.length = 0 := by omega
    rw [← startTo_succ hlt]
    refine wp_loop (fun (k : Nat) => k ≤ i ∧ ∀ j, j < k → (nth f.rules j).name ≠ (nth f.rules i).name) (fun k => i - k)
      (fun k => (S 159 [(1, .ptr 0 3 0 0), (3, boolA (startTo f (i + 1))), (4, intA (i : Nat)), (5, .ptr 1 2 0 0), (6, intA (k : Nat))] 2 [(0, some (.arr 3 [fileA f])), (1, some (.arr 2 [gruleA (nth f.rules i)]))])) 0 ⟨[0, 1], ToR.S rfl (by repeat' (first | exact rt_nil | refine rt_t (by exact rfl) (by exact rfl) ?_ | refine rt_e (by exact rfl) (by exact rfl) ?_)) (by repeat' (first | exact ro_nil | refine ro_p (by exact rfl) (by first | exact rfl | fail) (by first | (simp [bdL, bdL_append, AV.bd]; done) | fail) ?_)) (by decide) (by (rw [hm]; exact rfl)) (by exact rfl) (by (simp [bdT, AV.bd, bdL, bdL_append]; done)) (by repeat' (first | exact True.intro | refine And.intro ?_ ?_ | (simp [bdOq, bdL, bdL_append, AV.bd]; done))) (by (rw [hm]; exact Nat.le_of_ble_eq_true rfl))⟩ ⟨Nat.zero_le _, fun j hj => absurd hj (Nat.not_lt_zero _)⟩ ?_
    rintro k ⟨hk, hnd⟩
    by_cases hki : k < i
    · (repeat' (first | refine WP.seq ?_ | refine WP.block ?_ | refine go_n ?_ | refine WP.skip ?_ | refine WP.ret ?_ | refine go_r ?_ | refine bl_n ?_ | refine bl_r ?_ | refine bo_r ?_ | (refine wp_cond (by exact rfl) (fun hc => ?_) (fun hc => ?_) <;> (try simp only [decide_eq_true_eq, decide_eq_false_iff_not, Decidable.not_not, Bool.and_eq_true, Bool.or_eq_true, Bool.not_eq_true', Bool.not_eq_false', Bool.or_eq_false_iff, Bool.and_eq_false_iff, Int.not_lt, Int.not_le, reduceCtorEq, ne_eq, Bool.not_true, Bool.not_false, Bool.not_eq_true, Bool.not_eq_false] at hc) <;> (try (exfalso; omega))) | (refine WP.regionC (id := 12) ?_; (refine su (ap_move (by exact rq_p rfl rfl)) ?_); (refine su (ap_move (by exact rq_p rfl rfl)) ?_); (refine su (ap_lss (by exact rq_p rfl rfl) (by exact rq_p rfl rfl)) ?_); refine asemC_end ?_) | (refine wp_draw (id := 14) 9 mixed (by kernel_rfl) (by kernel_rfl) rfl ?_ <;> (refine rd_u (by exact rfl) (by exact rfl) (ap_field_p (by exact rq_p rfl rfl) (by exact rfl) (by exact rfl)) ?_) <;> (refine rd_u (by exact rfl) (by exact rfl) (ap_load_p (by exact rq_p rfl rfl) (by exact rfl) (by exact rfl) (by exact rfl)) ?_) <;> (refine rd_u (by exact rfl) (by exact rfl) (ap_move (by exact rq_p rfl rfl)) ?_) <;> (refine rd_u (by exact rfl) (by exact rfl) (ap_idx_n (by exact rq_p rfl rfl) (by exact rq_p rfl rfl) (by omega)) ?_) <;> (refine rd_u (by exact rfl) (by exact rfl) (ap_field_i (by exact rq_p rfl rfl) (by exact rfl) (by exact rfl)) ?_) <;> (refine rd_u (by exact rfl) (by exact rfl) (ap_load_i (by exact rq_p rfl rfl) (by exact rfl)) ?_) <;> (refine rd_u (by exact rfl) (by exact rfl) (ap_field_p (by exact rq_p rfl rfl) (by exact rfl) (by exact rfl)) ?_) <;> (refine rd_u (by exact rfl) (by exact rfl) (ap_load_p (by exact rq_p rfl rfl) (by exact rfl) (by exact rfl) (by exact rfl)) ?_) <;> (refine rd_u (by exact rfl) (by exact rfl) (ap_eqs (by exact rq_p rfl rfl) (by exact rq_p rfl rfl)) ?_) <;> (refine rd_end (by kernel_rfl) ?_)) | (refine WP.regionC (id := 15) ?_; (refine su (ap_assign (by exact rq_p rfl rfl)) ?_); refine asemC_end ?_) | (refine WP.regionC (id := 13) ?_; (refine su (ap_move (by exact rq_p rfl rfl)) ?_); (refine su (ap_add (by exact rq_p rfl rfl) (by exact rq_p rfl rfl) (by exact inr_i64_of (by omega))) ?_); (refine su (ap_assign (by exact rq_p rfl rfl)) ?_); refine asemC_end ?_) | refine ret_b (by exact rfl) ?_))
      · rw [rules_no2 hlt hki hc]
      · refine ⟨k + 1, ⟨by omega, by omega, fun j hj => ?_⟩, ⟨[0, 1], ToR.S rfl (by repeat' (first | exact rt_nil | refine rt_t (by exact rfl) (by exact rfl) ?_ | refine rt_e (by exact rfl) (by exact rfl) ?_)) (by repeat' (first | exact ro_nil | refine ro_p (by exact rfl) (by first | exact rfl | fail) (by first | (simp [bdL, bdL_append, AV.bd]; done) | fail) ?_)) (by decide) (by (rw [hm]; exact rfl)) (by exact rfl) (by (simp [bdT, AV.bd, bdL, bdL_append]; done)) (by repeat' (first | exact True.intro | refine And.intro ?_ ?_ | (simp [bdOq, bdL, bdL_append, AV.bd]; done))) (by (rw [hm]; exact Nat.le_of_ble_eq_true rfl))⟩⟩
        by_cases h : j = k
        · subst h; exact hc
        · exact hnd j (by omega)
    obtain rfl : k = i := by omega
    (repeat' (first | refine WP.seq ?_ | refine WP.block ?_ | refine go_n ?_ | refine WP.exit ?_ | refine go_x ?_ | refine bl_x ?_ | (refine wp_cond (by exact rfl) (fun hc => ?_) (fun hc => ?_) <;> (try simp only [decide_eq_true_eq, decide_eq_false_iff_not, Decidable.not_not, Bool.and_eq_true, Bool.or_eq_true, Bool.not_eq_true', Bool.not_eq_false', Bool.or_eq_false_iff, Bool.and_eq_false_iff, Int.not_lt, Int.not_le, reduceCtorEq, ne_eq, Bool.not_true, Bool.not_false, Bool.not_eq_true, Bool.not_eq_false] at hc) <;> (try (exfalso; omega))) | (refine WP.regionC (id := 12) ?_; (refine su (ap_move (by exact rq_p rfl rfl)) ?_); (refine su (ap_move (by exact rq_p rfl rfl)) ?_); (refine su (ap_lss (by exact rq_p rfl rfl) (by exact rq_p rfl rfl)) ?_); refine asemC_end ?_) | (refine WP.regionC (id := 16) ?_; (refine su (ap_assign (by exact rq_p rfl rfl)) ?_); refine asemC_end ?_)))
    refine wp_loop (fun (m : Nat) => m ≤ (nth f.rules k).alts.length ∧ ((nth f.rules k).alts.take m).all altOk = true) (fun m => (nth f.rules k).alts.length - m)
      (fun m => (S 159 [(1, .ptr 0 3 0 0), (3, boolA (startTo f (k + 1))), (4, intA (k : Nat)), (5, .ptr 1 2 0 0), (7, intA (m : Nat))] 2 [(0, some (.arr 3 [fileA f])), (1, some (.arr 2 [gruleA (nth f.rules k)]))])) 0 ⟨[0, 1], ToR.S rfl (by repeat' (first | exact rt_nil | refine rt_t (by exact rfl) (by exact rfl) ?_ | refine rt_e (by exact rfl) (by exact rfl) ?_)) (by repeat' (first | exact ro_nil | refine ro_p (by exact rfl) (by first | exact rfl | fail) (by first | (simp [bdL, bdL_append, AV.bd]; done) | fail) ?_)) (by decide) (by (rw [hm]; exact rfl)) (by exact rfl) (by (simp [bdT, AV.bd, bdL, bdL_append]; done)) (by repeat' (first | exact True.intro | refine And.intro ?_ ?_ | (simp [bdOq, bdL, bdL_append, AV.bd]; done))) (by (rw [hm]; exact Nat.le_of_ble_eq_true rfl))⟩ ⟨Nat.zero_le _, rfl⟩ ?_
    rintro m ⟨hm2, hall2⟩
    by_cases hml : m < (nth f.rules k).alts.length
    · have hbf := hrf.2 _ (nth_mem hml)
      have hE := rexpr_fn _ hbf 30 (by decide) (by decide)
      (repeat' (first | refine WP.seq ?_ | refine WP.block ?_ | refine go_n ?_ | refine WP.skip ?_ | refine WP.ret ?_ | refine go_r ?_ | refine bl_n ?_ | refine bl_r ?_ | refine bo_r ?_ | (refine wp_cond (by exact rfl) (fun hc => ?_) (fun hc => ?_) <;> (try simp only [decide_eq_true_eq, decide_eq_false_iff_not, Decidable.not_not, Bool.and_eq_true, Bool.or_eq_true, Bool.not_eq_true', Bool.not_eq_false', Bool.or_eq_false_iff, Bool.and_eq_false_iff, Int.not_lt, Int.not_le, reduceCtorEq, ne_eq, Bool.not_true, Bool.not_false, Bool.not_eq_true, Bool.not_eq_false] at hc) <;> (try (exfalso; omega))) | (refine WP.regionC (id := 17) ?_; (refine su (ap_move (by exact rq_p rfl rfl)) ?_); (refine su (ap_field_p (by exact rq_p rfl rfl) (by exact rfl) (by exact rfl)) ?_); (refine su (ap_load_p (by exact rq_p rfl rfl) (by exact rfl) (by exact rfl) (by exact rfl)) ?_); (refine su (ap_len_m (by exact rfl) (by exact rq_p rfl rfl)) ?_); (refine su (ap_lss (by exact rq_p rfl rfl) (by exact rq_p rfl rfl)) ?_); refine asemC_end ?_) | (refine WP.regionC (id := 19) ?_; (refine su (ap_field_p (by exact rq_p rfl rfl) (by exact rfl) (by exact rfl)) ?_); (refine su (ap_load_p (by exact rq_p rfl rfl) (by exact rfl) (by exact rfl) (by exact rfl)) ?_); (refine su (ap_move (by exact rq_p rfl rfl)) ?_); (refine su (ap_idx_n (by exact rq_p rfl rfl) (by exact rq_p rfl rfl) (by omega)) ?_); (refine su (ap_load_w (by exact rq_p rfl rfl) (by exact rfl)) ?_); (refine se_alloc (by exact rfl) ?_); (refine se_store_b (by exact rfl) (by exact rfl) (by exact rfl) (by exact rfl) ?_); refine asemC_end ?_) | (refine WP.regionC (id := 20) ?_; (refine su (ap_field_p (by exact rq_p rfl rfl) (by exact rfl) (by exact rfl)) ?_); (refine su (ap_load_p (by exact rq_p rfl rfl) (by exact rfl) (by exact rfl) (by exact rfl)) ?_); (refine su (ap_lss (by exact rq_p rfl rfl) (by exact rq_p rfl rfl)) ?_); (refine su (ap_move (by exact rq_p rfl rfl)) ?_); (refine sg (by exact gq_vf rfl rfl) (fun he => ap_field_p (by exact rq_p rfl rfl) (by exact rfl) (by exact rfl)) ?_); (refine sg (by exact gq_vf rfl rfl) (fun he => ap_load_p (by exact rq_c rfl rfl) (by exact rfl) (by exact rfl) (by exact rfl)) ?_); (refine sg (by exact gq_vf rfl rfl) (fun he => ap_gtr (by exact rq_c rfl rfl) (by exact rq_p rfl rfl)) ?_); (refine su (ap_or (by exact rq_p rfl rfl) (by exact rq_c rfl rfl)) ?_); (refine su (ap_move (by exact rq_p rfl rfl)) ?_); (refine sg (by exact gq_vf rfl rfl) (fun he => ap_field_p (by exact rq_p rfl rfl) (by exact rfl) (by exact rfl)) ?_); (refine sg (by exact gq_vf rfl rfl) (fun he => ap_load_p (by exact rq_c rfl rfl) (by exact rfl) (by exact rfl) (by exact rfl)) ?_); (refine sg_p (by exact gq_vf rfl rfl) (fun he => ⟨(by exact rq_p rfl rfl), (RqL.cons (by exact rq_c rfl rfl) (RqL.cons (by exact rq_p rfl rfl) (RqL.nil))), (by first | ((repeat' first | exact SubL.nil | refine SubL.cons ?_ ?_ | exact Sub.refl); done) | fail), (by first | (simp [bdL, bdL_append, AV.bd, AV.cells]; done) | fail), hE⟩) ?_); (refine sg (by exact gq_vf rfl rfl) (fun he => ap_not (by exact rq_c rfl rfl)) ?_); (refine su (ap_or (by exact rq_p rfl rfl) (by exact rq_c rfl rfl)) ?_); refine asemC_end ?_) | (refine WP.regionC (id := 21) ?_; (refine su (ap_assign (by exact rq_p rfl rfl)) ?_); refine asemC_end ?_) | (refine WP.regionC (id := 18) ?_; (refine su (ap_move (by exact rq_p rfl rfl)) ?_); (refine su (ap_add (by exact rq_p rfl rfl) (by exact rq_p rfl rfl) (by exact inr_i64_of (by omega))) ?_); (refine su (ap_assign (by exact rq_p rfl rfl)) ?_); refine asemC_end ?_) | refine ret_b (by exact rfl) ?_))
      · rw [rules_no3 hlt (by unfold gruleOk; rw [all_nth_no (l := (nth f.rules k).alts) (f := altOk) (k := m) hml (altOk_no hc), Bool.and_false])]
      · exact ⟨m + 1, ⟨by omega, by omega, take_all_succ hml hall2 (altOk_iff.2 hc)⟩, ⟨[0, 1], ToR.S rfl (by repeat' (first | exact rt_nil | refine rt_t (by exact rfl) (by exact rfl) ?_ | refine rt_e (by exact rfl) (by exact rfl) ?_)) (by repeat' (first | exact ro_nil | refine ro_p (by exact rfl) (by first | exact rfl | fail) (by first | (simp [bdL, bdL_append, AV.bd]; done) | fail) ?_)) (by decide) (by (rw [hm]; exact rfl)) (by exact rfl) (by (simp [bdT, AV.bd, bdL, bdL_append]; done)) (by repeat' (first | exact True.intro | refine And.intro ?_ ?_ | (simp [bdOq, bdL, bdL_append, AV.bd]; done))) (by (rw [hm]; exact Nat.le_of_ble_eq_true rfl))⟩⟩
    have hra := all_of_take' (by omega) hall2
    (repeat' (first | refine WP.seq ?_ | refine go_n ?_ | refine WP.exit ?_ | refine go_x ?_ | refine bl_n ?_ | refine bl_x ?_ | (refine wp_cond (by exact rfl) (fun hc => ?_) (fun hc => ?_) <;> (try simp only [decide_eq_true_eq, decide_eq_false_iff_not, Decidable.not_not, Bool.and_eq_true, Bool.or_eq_true, Bool.not_eq_true', Bool.not_eq_false', Bool.or_eq_false_iff, Bool.and_eq_false_iff, Int.not_lt, Int.not_le, reduceCtorEq, ne_eq, Bool.not_true, Bool.not_false, Bool.not_eq_true, Bool.not_eq_false] at hc) <;> (try (exfalso; omega))) | (refine WP.regionC (id := 17) ?_; (refine su (ap_move (by exact rq_p rfl rfl)) ?_); (refine su (ap_field_p (by exact rq_p rfl rfl) (by exact rfl) (by exact rfl)) ?_); (refine su (ap_load_p (by exact rq_p rfl rfl) (by exact rfl) (by exact rfl) (by exact rfl)) ?_); (refine su (ap_len_m (by exact rfl) (by exact rq_p rfl rfl)) ?_); (refine su (ap_lss (by exact rq_p rfl rfl) (by exact rq_p rfl rfl)) ?_); refine asemC_end ?_) | (refine WP.regionC (id := 6) ?_; (refine su (ap_move (by exact rq_p rfl rfl)) ?_); (refine su (ap_add (by exact rq_p rfl rfl) (by exact rq_p rfl rfl) (by exact inr_i64_of (by omega))) ?_); (refine su (ap_assign (by exact rq_p rfl rfl)) ?_); refine asemC_end ?_)))
    refine ⟨k + 1, ⟨by omega, by omega, fun j hj => ?_⟩, ⟨[0], ToR.S rfl (by repeat' (first | exact rt_nil | refine rt_t (by exact rfl) (by exact rfl) ?_ | refine rt_e (by exact rfl) (by exact rfl) ?_)) (by repeat' (first | exact ro_nil | refine ro_p (by exact rfl) (by first | exact rfl | fail) (by first | (simp [bdL, bdL_append, AV.bd]; done) | fail) ?_)) (by decide) (by (rw [hm]; exact rfl)) (by exact rfl) (by (simp [bdT, AV.bd, bdL, bdL_append]; done)) (by repeat' (first | exact True.intro | refine And.intro ?_ ?_ | (simp [bdOq, bdL, bdL_append, AV.bd]; done))) (by (rw [hm]; exact Nat.le_of_ble_eq_true rfl))⟩⟩
    by_cases h : j = k
    · subst h
      refine ⟨⟨hnm, ?_⟩, hnd⟩
      unfold gruleOk
      rw [hra, decide_eq_false (by rintro e; rw [e] at hne; exact hne rfl)]; rfl
    · exact hall j (by omega)
  obtain rfl : i = f.rules.length := by omega
  obtain ⟨hr1, hr2⟩ := rules_yes hall
  (repeat' (first | refine WP.seq ?_ | refine WP.block ?_ | refine go_n ?_ | refine WP.exit ?_ | refine go_x ?_ | refine bl_x ?_ | (refine wp_cond (by exact rfl) (fun hc => ?_) (fun hc => ?_) <;> (try simp only [decide_eq_true_eq, decide_eq_false_iff_not, Decidable.not_not, Bool.and_eq_true, Bool.or_eq_true, Bool.not_eq_true', Bool.not_eq_false', Bool.or_eq_false_iff, Bool.and_eq_false_iff, Int.not_lt, Int.not_le, reduceCtorEq, ne_eq, Bool.not_true, Bool.not_false, Bool.not_eq_true, Bool.not_eq_false] at hc) <;> (try (exfalso; omega))) | (refine WP.regionC (id := 5) ?_; (refine su (ap_move (by exact rq_p rfl rfl)) ?_); (refine su (ap_field_p (by exact rq_p rfl rfl) (by exact rfl) (by exact rfl)) ?_); (refine su (ap_load_p (by exact rq_p rfl rfl) (by exact rfl) (by exact rfl) (by exact rfl)) ?_); (refine su (ap_len_m (by exact rfl) (by exact rq_p rfl rfl)) ?_); (refine su (ap_lss (by exact rq_p rfl rfl) (by exact rq_p rfl rfl)) ?_); refine asemC_end ?_) | (refine WP.regionC (id := 22) ?_; (refine su (ap_assign (by exact rq_p rfl rfl)) ?_); refine asemC_end ?_) | (refine WP.regionC (id := 23) ?_; (refine su (ap_assign (by exact rq_p rfl rfl)) ?_); refine asemC_end ?_)))
  refine wp_nil 9 1 (by exact rfl) ?_
  refine wp_loop (fun (j : Nat) => j ≤ f.levels.length ∧ (f.levels.take j).all glevelOk = true ∧ distOk (toks f j) = true) (fun j => f.levels.length - j)
    (fun j => (S 159 [(1, .ptr 0 3 0 0), (3, boolA (startTo f f.rules.length)), (9, .ref 1 1 0 (toks f j).length), (10, intA (j : Nat))] 2 [(0, some (.arr 3 [fileA f])), (1, some (.arr 1 ((toks f j).map strA)))])) 0 ⟨[0, 1], ToR.S rfl (by repeat' (first | exact rt_nil | refine rt_r (by exact rfl) (by exact rfl) ?_ | refine rt_t (by exact rfl) (by exact rfl) ?_ | refine rt_e (by exact rfl) (by exact rfl) ?_)) (by repeat' (first | exact ro_nil | refine ro_e (by exact rfl) (by exact rfl) ?_ | refine ro_p (by exact rfl) (by first | exact rfl | fail) (by first | (simp [bdL, bdL_append, AV.bd]; done) | fail) ?_)) (by decide) (by (rw [hm]; exact rfl)) (by exact rfl) (by (simp [bdT, AV.bd, bdL, bdL_append]; done)) (by repeat' (first | exact True.intro | exact rfl | refine And.intro ?_ ?_ | (simp [bdOq, bdL, bdL_append, AV.bd]; done))) (by (rw [hm]; exact Nat.le_of_ble_eq_true rfl))⟩ ⟨Nat.zero_le _, rfl, by simp [toks, distOk]⟩ ?_
  rintro j ⟨hj, hjall, hjd⟩
  have htm := toks_mono f hj
  by_cases hlt2 : j < f.levels.length
  · have htm2 := toks_mono f (k := j + 1) (by omega)
    rw [toks_succ hlt2, List.length_append] at htm2
    have hlf := hf2 _ (nth_mem hlt2)
    (repeat' (first | refine WP.seq ?_ | refine WP.block ?_ | refine go_n ?_ | refine WP.skip ?_ | refine WP.ret ?_ | refine go_r ?_ | refine bl_r ?_ | refine bo_r ?_ | (refine wp_cond (by exact rfl) (fun hc => ?_) (fun hc => ?_) <;> (try simp only [decide_eq_true_eq, decide_eq_false_iff_not, Decidable.not_not, Bool.and_eq_true, Bool.or_eq_true, Bool.not_eq_true', Bool.not_eq_false', Bool.or_eq_false_iff, Bool.and_eq_false_iff, Int.not_lt, Int.not_le, reduceCtorEq, ne_eq, Bool.not_true, Bool.not_false, Bool.not_eq_true, Bool.not_eq_false] at hc) <;> (try (exfalso; omega))) | (refine WP.regionC (id := 24) ?_; (refine su (ap_move (by exact rq_p rfl rfl)) ?_); (refine su (ap_field_p (by exact rq_p rfl rfl) (by exact rfl) (by exact rfl)) ?_); (refine su (ap_load_p (by exact rq_p rfl rfl) (by exact rfl) (by exact rfl) (by exact rfl)) ?_); (refine su (ap_len_m (by exact rfl) (by exact rq_p rfl rfl)) ?_); (refine su (ap_lss (by exact rq_p rfl rfl) (by exact rq_p rfl rfl)) ?_); refine asemC_end ?_) | (refine WP.regionC (id := 26) ?_; (refine su (ap_field_p (by exact rq_p rfl rfl) (by exact rfl) (by exact rfl)) ?_); (refine su (ap_load_p (by exact rq_p rfl rfl) (by exact rfl) (by exact rfl) (by exact rfl)) ?_); (refine su (ap_move (by exact rq_p rfl rfl)) ?_); (refine su (ap_idx_n (by exact rq_p rfl rfl) (by exact rq_p rfl rfl) (by omega)) ?_); (refine su (ap_load_w (by exact rq_p rfl rfl) (by exact rfl)) ?_); (refine se_alloc (by exact rfl) ?_); (refine se_store_b (by exact rfl) (by exact rfl) (by exact rfl) (by exact rfl) ?_); refine asemC_end ?_) | (refine WP.regionC (id := 27) ?_; (refine su (ap_field_p (by exact rq_p rfl rfl) (by exact rfl) (by exact rfl)) ?_); (refine su (ap_load_p (by exact rq_p rfl rfl) (by exact rfl) (by exact rfl) (by exact rfl)) ?_); (refine su (ap_lss (by exact rq_p rfl rfl) (by exact rq_p rfl rfl)) ?_); (refine su (ap_move (by exact rq_p rfl rfl)) ?_); (refine sg (by exact gq_vf rfl rfl) (fun he => ap_field_p (by exact rq_p rfl rfl) (by exact rfl) (by exact rfl)) ?_); (refine sg (by exact gq_vf rfl rfl) (fun he => ap_load_p (by exact rq_c rfl rfl) (by exact rfl) (by exact rfl) (by exact rfl)) ?_); (refine sg (by exact gq_vf rfl rfl) (fun he => ap_gtr (by exact rq_c rfl rfl) (by exact rq_p rfl rfl)) ?_); (refine su (ap_or (by exact rq_p rfl rfl) (by exact rq_c rfl rfl)) ?_); (refine su (ap_move (by exact rq_p rfl rfl)) ?_); (refine sg (by exact gq_vf rfl rfl) (fun he => ap_field_p (by exact rq_p rfl rfl) (by exact rfl) (by exact rfl)) ?_); (refine sg (by exact gq_vf rfl rfl) (fun he => ap_load_p (by exact rq_c rfl rfl) (by exact rfl) (by exact rfl) (by exact rfl)) ?_); (refine sg (by exact gq_vf rfl rfl) (fun he => ap_len_m (by exact rfl) (by exact rq_c rfl rfl)) ?_); (refine sg (by exact gq_vf rfl rfl) (fun he => ap_eql (by exact rq_c rfl rfl) (by exact rq_p rfl rfl)) ?_); (refine su (ap_or (by exact rq_p rfl rfl) (by exact rq_c rfl rfl)) ?_); refine asemC_end ?_) | (refine WP.regionC (id := 28) ?_; (refine su (ap_assign (by exact rq_p rfl rfl)) ?_); refine asemC_end ?_) | (refine WP.regionC (id := 29) ?_; (refine su (ap_assign (by exact rq_p rfl rfl)) ?_); refine asemC_end ?_) | refine ret_b (by exact rfl) ?_))
    · rw [show validF f = false by simp only [validF, all_nth_no (l := f.levels) (f := glevelOk) (k := j) hlt2 (glevel_no (by omega)), Bool.and_false, Bool.false_and]]
    have hgl : glevelOk (nth f.levels j) = true := glevel_iff.2 (by omega)
    refine wp_loop (fun (k : Nat) => k ≤ (nth f.levels j).tokens.length ∧ distOk (toks2 f j k) = true) (fun k => (nth f.levels j).tokens.length - k)
      (fun k => (S 159 [(1, .ptr 0 3 0 0), (3, boolA (startTo f f.rules.length)), (9, .ref 1 1 0 (toks2 f j k).length), (10, intA (j : Nat)), (11, .ptr 2 2 0 0), (12, intA (k : Nat))] 3 [(0, some (.arr 3 [fileA f])), (1, some (.arr 1 ((toks2 f j k).map strA))), (2, some (.arr 2 [levelA (nth f.levels j)]))])) 0 ?_ ⟨Nat.zero_le _, by rw [toks2, List.take_zero, List.append_nil]; exact hjd⟩ ?_
    · rw [show toks2 f j 0 = toks f j by rw [toks2, List.take_zero, List.append_nil]]
      exact ⟨[0, 1, 2], ToR.S rfl (by repeat' (first | exact rt_nil | refine rt_r (by exact rfl) (by exact rfl) ?_ | refine rt_t (by exact rfl) (by exact rfl) ?_ | refine rt_e (by exact rfl) (by exact rfl) ?_)) (by repeat' (first | exact ro_nil | refine ro_p (by exact rfl) (by first | exact rfl | fail) (by first | exact bdL_map (fun _ => by exact rfl) _ | (simp [bdL, bdL_append, AV.bd]; done) | fail) ?_)) (by decide) (by (rw [hm]; exact rfl)) (by exact rfl) (by (simp [bdT, AV.bd, bdL, bdL_append]; done)) (by repeat' (first | exact True.intro | refine And.intro ?_ ?_ | exact bdL_map (fun _ => by exact rfl) _ | (simp [bdOq, bdL, bdL_append, AV.bd]; done))) (by (rw [hm]; exact Nat.le_of_ble_eq_true rfl))⟩
    rintro k ⟨hk, hkd⟩
    have hk2 : (toks2 f j k).length = (toks f j).length + k := by simp [toks2]; omega
    by_cases hkl : k < (nth f.levels j).tokens.length
    · have hsz : (nth (nth f.levels j).tokens k).size ≤ 9223372036854775807 := hlf _ (nth_mem hkl)
      (repeat' (first | refine WP.seq ?_ | refine WP.block ?_ | refine go_n ?_ | refine WP.skip ?_ | (refine wp_cond (by exact rfl) (fun hc => ?_) (fun hc => ?_) <;> (try simp only [decide_eq_true_eq, decide_eq_false_iff_not, Decidable.not_not, Bool.and_eq_true, Bool.or_eq_true, Bool.not_eq_true', Bool.not_eq_false', Bool.or_eq_false_iff, Bool.and_eq_false_iff, Int.not_lt, Int.not_le, reduceCtorEq, ne_eq, Bool.not_true, Bool.not_false, Bool.not_eq_true, Bool.not_eq_false] at hc) <;> (try (exfalso; omega))) | (refine WP.regionC (id := 30) ?_; (refine su (ap_move (by exact rq_p rfl rfl)) ?_); (refine su (ap_field_p (by exact rq_p rfl rfl) (by exact rfl) (by exact rfl)) ?_); (refine su (ap_load_p (by exact rq_p rfl rfl) (by exact rfl) (by exact rfl) (by exact rfl)) ?_); (refine su (ap_len_m (by exact rfl) (by exact rq_p rfl rfl)) ?_); (refine su (ap_lss (by exact rq_p rfl rfl) (by exact rq_p rfl rfl)) ?_); refine asemC_end ?_) | (refine WP.regionC (id := 32) ?_; (refine su (ap_assign (by exact rq_p rfl rfl)) ?_); refine asemC_end ?_)))
      refine wp_loop (fun (m : Nat) => m ≤ (toks2 f j k).length ∧ ∀ i, i < m → nth (toks2 f j k) i ≠ nth (nth f.levels j).tokens k) (fun m => (toks2 f j k).length - m)
        (fun m => (S 159 [(1, .ptr 0 3 0 0), (3, boolA (startTo f f.rules.length)), (9, .ref 1 1 0 (toks2 f j k).length), (10, intA (j : Nat)), (11, .ptr 2 2 0 0), (12, intA (k : Nat)), (13, intA (m : Nat))] 3 [(0, some (.arr 3 [fileA f])), (1, some (.arr 1 ((toks2 f j k).map strA))), (2, some (.arr 2 [levelA (nth f.levels j)]))])) 0 ⟨[0, 1, 2], ToR.S rfl (by repeat' (first | exact rt_nil | refine rt_r (by exact rfl) (by exact rfl) ?_ | refine rt_t (by exact rfl) (by exact rfl) ?_ | refine rt_e (by exact rfl) (by exact rfl) ?_)) (by repeat' (first | exact ro_nil | refine ro_p (by exact rfl) (by first | exact rfl | fail) (by first | exact bdL_map (fun _ => by exact rfl) _ | (simp [bdL, bdL_append, AV.bd]; done) | fail) ?_)) (by decide) (by (rw [hm]; exact rfl)) (by exact rfl) (by (simp [bdT, AV.bd, bdL, bdL_append]; done)) (by repeat' (first | exact True.intro | refine And.intro ?_ ?_ | exact bdL_map (fun _ => by exact rfl) _ | (simp [bdOq, bdL, bdL_append, AV.bd]; done))) (by (rw [hm]; exact Nat.le_of_ble_eq_true rfl))⟩ ⟨Nat.zero_le _, fun j hj => absurd hj (Nat.not_lt_zero _)⟩ ?_
      rintro m ⟨hm3, hmne⟩
      by_cases hml : m < (toks2 f j k).length
      · (repeat' (first | refine WP.seq ?_ | refine WP.block ?_ | refine go_n ?_ | refine WP.skip ?_ | refine WP.ret ?_ | refine go_r ?_ | refine bl_n ?_ | refine bl_r ?_ | refine bo_r ?_ | (refine wp_cond (by exact rfl) (fun hc => ?_) (fun hc => ?_) <;> (try simp only [decide_eq_true_eq, decide_eq_false_iff_not, Decidable.not_not, Bool.and_eq_true, Bool.or_eq_true, Bool.not_eq_true', Bool.not_eq_false', Bool.or_eq_false_iff, Bool.and_eq_false_iff, Int.not_lt, Int.not_le, reduceCtorEq, ne_eq, Bool.not_true, Bool.not_false, Bool.not_eq_true, Bool.not_eq_false] at hc) <;> (try (exfalso; omega))) | (refine WP.regionC (id := 33) ?_; (refine su (ap_move (by exact rq_p rfl rfl)) ?_); (refine su (ap_move (by exact rq_p rfl rfl)) ?_); (refine su (ap_len_r (by exact rfl) (by exact rq_p rfl rfl)) ?_); (refine su (ap_lss (by exact rq_p rfl rfl) (by exact rq_p rfl rfl)) ?_); refine asemC_end ?_) | (refine wp_draw (id := 35) 10 mixed (by kernel_rfl) (by kernel_rfl) rfl ?_ <;> (refine rd_u (by exact rfl) (by exact rfl) (ap_move (by exact rq_p rfl rfl)) ?_) <;> (refine rd_u (by exact rfl) (by exact rfl) (ap_move (by exact rq_p rfl rfl)) ?_) <;> (refine rd_u (by exact rfl) (by exact rfl) (ap_idxr_n (by exact rq_p rfl rfl) (by exact rq_p rfl rfl) (by omega)) ?_) <;> (refine rd_u (by exact rfl) (by exact rfl) (ap_load_pt (by exact rq_p rfl rfl) (by exact rfl) (by omega) (by exact rfl)) ?_) <;> (refine rd_u (by exact rfl) (by exact rfl) (ap_field_p (by exact rq_p rfl rfl) (by exact rfl) (by exact rfl)) ?_) <;> (refine rd_u (by exact rfl) (by exact rfl) (ap_load_p (by exact rq_p rfl rfl) (by exact rfl) (by exact rfl) (by exact rfl)) ?_) <;> (refine rd_u (by exact rfl) (by exact rfl) (ap_move (by exact rq_p rfl rfl)) ?_) <;> (refine rd_u (by exact rfl) (by exact rfl) (ap_idx_n (by exact rq_p rfl rfl) (by exact rq_p rfl rfl) (by omega)) ?_) <;> (refine rd_u (by exact rfl) (by exact rfl) (ap_load_w (by exact rq_p rfl rfl) (by exact rfl)) ?_) <;> (refine rd_u (by exact rfl) (by exact rfl) (ap_eqs (by exact rq_p rfl rfl) (by exact rq_p rfl rfl)) ?_) <;> (refine rd_end (by kernel_rfl) ?_)) | (refine WP.regionC (id := 36) ?_; (refine su (ap_assign (by exact rq_p rfl rfl)) ?_); refine asemC_end ?_) | (refine WP.regionC (id := 34) ?_; (refine su (ap_move (by exact rq_p rfl rfl)) ?_); (refine su (ap_add (by exact rq_p rfl rfl) (by exact rq_p rfl rfl) (by exact inr_i64_of (by omega))) ?_); (refine su (ap_assign (by exact rq_p rfl rfl)) ?_); refine asemC_end ?_) | refine ret_b (by exact rfl) ?_))
        · rw [toks2_no hlt2 hkl (.inr (hc ▸ nth_mem hml))]
        · refine ⟨m + 1, ⟨by omega, by omega, fun i hi => ?_⟩, ⟨[0, 1, 2], ToR.S rfl (by repeat' (first | exact rt_nil | refine rt_r (by exact rfl) (by exact rfl) ?_ | refine rt_t (by exact rfl) (by exact rfl) ?_ | refine rt_e (by exact rfl) (by exact rfl) ?_)) (by repeat' (first | exact ro_nil | refine ro_p (by exact rfl) (by first | exact rfl | fail) (by first | exact bdL_map (fun _ => by exact rfl) _ | (simp [bdL, bdL_append, AV.bd]; done) | fail) ?_)) (by decide) (by (rw [hm]; exact rfl)) (by exact rfl) (by (simp [bdT, AV.bd, bdL, bdL_append]; done)) (by repeat' (first | exact True.intro | refine And.intro ?_ ?_ | exact bdL_map (fun _ => by exact rfl) _ | (simp [bdOq, bdL, bdL_append, AV.bd]; done))) (by (rw [hm]; exact Nat.le_of_ble_eq_true rfl))⟩⟩
          by_cases h : i = m
          · subst h; exact hc
          · exact hmne i (by omega)
      obtain rfl : m = (toks2 f j k).length := by omega
      (repeat' (first | refine WP.seq ?_ | refine go_n ?_ | refine WP.skip ?_ | refine WP.exit ?_ | refine WP.ret ?_ | refine go_x ?_ | refine go_r ?_ | refine bl_n ?_ | refine bl_r ?_ | refine bl_x ?_ | refine bo_r ?_ | (refine wp_cond (by exact rfl) (fun hc => ?_) (fun hc => ?_) <;> (try simp only [decide_eq_true_eq, decide_eq_false_iff_not, Decidable.not_not, Bool.and_eq_true, Bool.or_eq_true, Bool.not_eq_true', Bool.not_eq_false', Bool.or_eq_false_iff, Bool.and_eq_false_iff, Int.not_lt, Int.not_le, reduceCtorEq, ne_eq, Bool.not_true, Bool.not_false, Bool.not_eq_true, Bool.not_eq_false] at hc) <;> (try (exfalso; omega))) | (refine WP.regionC (id := 33) ?_; (refine su (ap_move (by exact rq_p rfl rfl)) ?_); (refine su (ap_move (by exact rq_p rfl rfl)) ?_); (refine su (ap_len_r (by exact rfl) (by exact rq_p rfl rfl)) ?_); (refine su (ap_lss (by exact rq_p rfl rfl) (by exact rq_p rfl rfl)) ?_); refine asemC_end ?_) | (refine WP.regionC (id := 37) ?_; (refine su (ap_field_p (by exact rq_p rfl rfl) (by exact rfl) (by exact rfl)) ?_); (refine su (ap_load_p (by exact rq_p rfl rfl) (by exact rfl) (by exact rfl) (by exact rfl)) ?_); (refine su (ap_move (by exact rq_p rfl rfl)) ?_); (refine su (ap_idx_n (by exact rq_p rfl rfl) (by exact rq_p rfl rfl) (by omega)) ?_); (refine su (ap_load_w (by exact rq_p rfl rfl) (by exact rfl)) ?_); (refine sc_p rfl rfl (by first | ((repeat' first | exact SubL.nil | refine SubL.cons ?_ ?_ | exact Sub.refl); done) | fail) (by first | (simp [bdL, bdL_append, AV.bd]; done) | fail) (rname_fn _ (by assumption)) ?_); (refine su (ap_not (by exact rq_p rfl rfl)) ?_); refine asemC_end ?_) | (refine WP.regionC (id := 38) ?_; (refine su (ap_assign (by exact rq_p rfl rfl)) ?_); refine asemC_end ?_) | (refine WP.regionC (id := 39) ?_; (refine su (ap_move (by exact rq_p rfl rfl)) ?_); (refine su (ap_field_p (by exact rq_p rfl rfl) (by exact rfl) (by exact rfl)) ?_); (refine su (ap_load_p (by exact rq_p rfl rfl) (by exact rfl) (by exact rfl) (by exact rfl)) ?_); (refine su (ap_move (by exact rq_p rfl rfl)) ?_); (refine su (ap_idx_n (by exact rq_p rfl rfl) (by exact rq_p rfl rfl) (by omega)) ?_); (refine su (ap_load_w (by exact rq_p rfl rfl) (by exact rfl)) ?_); (refine se_lit (OpP.cons (by exact rfl) (OpP.nil)) (by exact rfl) (by exact rfl) (by exact rfl) (by exact rfl) (by exact rfl) (by exact rfl) ?_); (refine se_app1 (by exact rfl) (by exact rfl) (by exact rfl) (by exact rfl) (by exact rfl) (by exact rfl) (by exact rfl) (by exact rfl) (by omega) ?_); (refine su (ap_assign (by exact rq_p rfl rfl)) ?_); refine asemC_end ?_) | (refine WP.regionC (id := 31) ?_; (refine su (ap_move (by exact rq_p rfl rfl)) ?_); (refine su (ap_add (by exact rq_p rfl rfl) (by exact rq_p rfl rfl) (by exact inr_i64_of (by omega))) ?_); (refine su (ap_assign (by exact rq_p rfl rfl)) ?_); refine asemC_end ?_) | refine ret_b (by exact rfl) ?_))
      · rw [toks2_no hlt2 hkl (.inl hc)]
      · have e1 : toks2 f j (k + 1) = toks2 f j k ++ [nth (nth f.levels j).tokens k] := by rw [toks2, toks2, take_succ_nth hkl, List.append_assoc]
        refine ⟨k + 1, ⟨by omega, by omega, ?_⟩, ?_⟩
        · rw [e1]
          refine distOk_add hkd hc fun hx => ?_
          obtain ⟨i, hi, he⟩ := List.getElem_of_mem hx
          exact hmne i hi (by rw [nth_eq hi]; exact he)
        · rw [e1]
          exact ⟨[0, 4, 2], ToR.S rfl (by repeat' (first | exact rt_nil | refine rt_r (by exact rfl) (by exact rfl) ?_ | refine rt_t (by exact rfl) (by exact rfl) ?_ | refine rt_e (by exact rfl) (by exact rfl) ?_)) (by repeat' (first | exact ro_nil | refine ro_p (by exact rfl) (by first | exact rfl | fail) (by first | exact bdL_map (fun _ => by exact rfl) _ | (simp [bdL, bdL_append, AV.bd]; done) | fail) ?_)) (by decide) (by (rw [hm]; exact rfl)) (by exact rfl) (by (simp [bdT, AV.bd, bdL, bdL_append]; done)) (by repeat' (first | exact True.intro | refine And.intro ?_ ?_ | exact bdL_map (fun _ => by exact rfl) _ | (simp [bdOq, bdL, bdL_append, AV.bd]; done))) (by (rw [hm]; exact Nat.le_of_ble_eq_true rfl))⟩
    obtain rfl : k = (nth f.levels j).tokens.length := by omega
    have e2 : toks2 f j (nth f.levels j).tokens.length = toks f (j + 1) := by rw [toks2, List.take_of_length_le (Nat.le_refl _), toks_succ hlt2]
    rw [e2] at hkd
    rw [e2]
    (repeat' (first | refine WP.seq ?_ | refine go_n ?_ | refine WP.exit ?_ | refine go_x ?_ | refine bl_n ?_ | refine bl_x ?_ | (refine wp_cond (by exact rfl) (fun hc => ?_) (fun hc => ?_) <;> (try simp only [decide_eq_true_eq, decide_eq_false_iff_not, Decidable.not_not, Bool.and_eq_true, Bool.or_eq_true, Bool.not_eq_true', Bool.not_eq_false', Bool.or_eq_false_iff, Bool.and_eq_false_iff, Int.not_lt, Int.not_le, reduceCtorEq, ne_eq, Bool.not_true, Bool.not_false, Bool.not_eq_true, Bool.not_eq_false] at hc) <;> (try (exfalso; omega))) | (refine WP.regionC (id := 30) ?_; (refine su (ap_move (by exact rq_p rfl rfl)) ?_); (refine su (ap_field_p (by exact rq_p rfl rfl) (by exact rfl) (by exact rfl)) ?_); (refine su (ap_load_p (by exact rq_p rfl rfl) (by exact rfl) (by exact rfl) (by exact rfl)) ?_); (refine su (ap_len_m (by exact rfl) (by exact rq_p rfl rfl)) ?_); (refine su (ap_lss (by exact rq_p rfl rfl) (by exact rq_p rfl rfl)) ?_); refine asemC_end ?_) | (refine WP.regionC (id := 25) ?_; (refine su (ap_move (by exact rq_p rfl rfl)) ?_); (refine su (ap_add (by exact rq_p rfl rfl) (by exact rq_p rfl rfl) (by exact inr_i64_of (by omega))) ?_); (refine su (ap_assign (by exact rq_p rfl rfl)) ?_); refine asemC_end ?_)))
    exact ⟨j + 1, ⟨by omega, by omega, take_all_succ hlt2 hjall hgl, hkd⟩, ⟨[0, 1], ToR.S rfl (by repeat' (first | exact rt_nil | refine rt_r (by exact rfl) (by exact rfl) ?_ | refine rt_t (by exact rfl) (by exact rfl) ?_ | refine rt_e (by exact rfl) (by exact rfl) ?_)) (by repeat' (first | exact ro_nil | refine ro_p (by exact rfl) (by first | exact rfl | fail) (by first | exact bdL_map (fun _ => by exact rfl) _ | (simp [bdL, bdL_append, AV.bd]; done) | fail) ?_)) (by decide) (by (rw [hm]; exact rfl)) (by exact rfl) (by (simp [bdT, AV.bd, bdL, bdL_append]; done)) (by repeat' (first | exact True.intro | refine And.intro ?_ ?_ | exact bdL_map (fun _ => by exact rfl) _ | (simp [bdOq, bdL, bdL_append, AV.bd]; done))) (by (rw [hm]; exact Nat.le_of_ble_eq_true rfl))⟩⟩
  obtain rfl : j = f.levels.length := by omega
  have hls := all_of_take' (by omega) hjall
  (repeat' (first | refine WP.seq ?_ | refine go_n ?_ | refine WP.exit ?_ | refine WP.ret ?_ | refine go_x ?_ | refine bl_x ?_ | refine bo_r ?_ | (refine wp_cond (by exact rfl) (fun hc => ?_) (fun hc => ?_) <;> (try simp only [decide_eq_true_eq, decide_eq_false_iff_not, Decidable.not_not, Bool.and_eq_true, Bool.or_eq_true, Bool.not_eq_true', Bool.not_eq_false', Bool.or_eq_false_iff, Bool.and_eq_false_iff, Int.not_lt, Int.not_le, reduceCtorEq, ne_eq, Bool.not_true, Bool.not_false, Bool.not_eq_true, Bool.not_eq_false] at hc) <;> (try (exfalso; omega))) | (refine WP.regionC (id := 24) ?_; (refine su (ap_move (by exact rq_p rfl rfl)) ?_); (refine su (ap_field_p (by exact rq_p rfl rfl) (by exact rfl) (by exact rfl)) ?_); (refine su (ap_load_p (by exact rq_p rfl rfl) (by exact rfl) (by exact rfl) (by exact rfl)) ?_); (refine su (ap_len_m (by exact rfl) (by exact rq_p rfl rfl)) ?_); (refine su (ap_lss (by exact rq_p rfl rfl) (by exact rq_p rfl rfl)) ?_); refine asemC_end ?_) | (refine WP.regionC (id := 40) ?_; (refine su (ap_move (by exact rq_p rfl rfl)) ?_); (refine su (ap_assign (by exact rq_p rfl rfl)) ?_); refine asemC_end ?_) | refine ret_b (by exact rfl) ?_))
  have a1 : decide (1 ≤ f.rules.length) = true := decide_eq_true (by omega)
  have a2 : decide (f.rules.length ≤ 120) = true := decide_eq_true (by omega)
  simp only [validF, a1, a2, hr1, hr2, hls, hjd, start_any, Bool.true_and]
end Go.Lg

/- the laws about grammar files: Valid, Equal -/
namespace Go.Lg
open Go.Proofs
set_option linter.unusedSimpArgs false
set_option linter.unusedVariables false
attribute [local irreducible] Ap Rq asemC WP RunD Ret Gq thenA inBlockA bodyQ noGotoA RqL RqP OpP
set_option maxHeartbeats 8000000
set_option maxRecDepth 20000

theorem law_fvalid (f : GFi) (hf : f.fit ∧ TokB f) : Fn Tryd.prog 3 [fileA f] (boolA true) := by
  have hs := small_fn f hf.2 200 (by decide) (by decide)
  by_cases hz : sizeF f 200 ≤ 200
  · have ht := toks_small hf.2 (by decide) hz
    have h1 := gvalid_fn f (by omega)
    have h2 := rvalid_fn f hf.1 (by omega)
    refine Fn.intro (by exact rfl) (by kernel_rfl) Tryd.func3 rfl rfl Tryd.ntmps3 (by exact Nat.le_of_ble_eq_true rfl) ?_; intro Γ hm
    (repeat' (first | refine WP.seq ?_ | refine go_n ?_ | refine WP.skip ?_ | refine WP.ret ?_ | refine bo_r ?_ | (refine wp_cond (by exact rfl) (fun hc => ?_) (fun hc => ?_) <;> (try simp only [decide_eq_true_eq, decide_eq_false_iff_not, Decidable.not_not, Bool.and_eq_true, Bool.or_eq_true, Bool.not_eq_true', Bool.not_eq_false', Bool.or_eq_false_iff, Bool.and_eq_false_iff, Int.not_lt, Int.not_le, reduceCtorEq, ne_eq, Bool.not_true, Bool.not_false, Bool.not_eq_true, Bool.not_eq_false] at hc) <;> (try (exfalso; omega))) | (refine WP.regionC (id := 0) ?_; (refine se_box (by exact rfl) (by exact ⟨rfl, rfl⟩) ?_); (refine su (ap_assign (by exact rq_p rfl rfl)) ?_); refine asemC_end ?_) | (refine WP.regionC (id := 1) ?_; (refine su (ap_load_pw (by exact rq_p rfl rfl) (by exact rfl) (by exact rfl) (by exact rfl)) ?_); (refine sc_p rfl rfl (by first | ((repeat' first | exact SubL.nil | refine SubL.cons ?_ ?_ | exact Sub.refl); done) | fail) (by first | (simp [bdL, bdL_append, AV.bd]; done) | fail) (hs) ?_); (refine su (ap_not (by exact rq_p rfl rfl)) ?_); refine asemC_end ?_) | (refine wp_draw (id := 3) 9 mixed (by kernel_rfl) (by kernel_rfl) rfl ?_ <;> (refine rd_call rfl rfl (by first | ((repeat' (exact SubL.nil)); done) | fail) (by first | (simp [bdL, bdL_append, AV.bd]; done) | fail) (awake16_fn) ?_) <;> (refine rd_u (by exact rfl) (by exact rfl) (ap_move (by exact rq_p rfl rfl)) ?_) <;> (refine rdg_u rfl rfl (by exact rfl) (by exact rfl) (ap_load_pw (by exact rq_p rfl rfl) (by exact rfl) (by exact rfl) (by exact rfl)) ?_) <;> (refine rdg_call rfl (by exact rfl) rfl rfl (by first | ((repeat' first | exact SubL.nil | refine SubL.cons ?_ ?_ | exact Sub.refl); done) | fail) (by first | (simp [bdL, bdL_append, AV.bd]; done) | fail) (h1) ?_) <;> (refine rdg_u rfl rfl (by exact rfl) (by exact rfl) (ap_load_pw (by exact rq_p rfl rfl) (by exact rfl) (by exact rfl) (by exact rfl)) ?_) <;> (refine rdg_call rfl (by exact rfl) rfl rfl (by first | ((repeat' first | exact SubL.nil | refine SubL.cons ?_ ?_ | exact Sub.refl); done) | fail) (by first | (simp [bdL, bdL_append, AV.bd]; done) | fail) (h2) ?_) <;> (refine rdg_u rfl rfl (by exact rfl) (by exact rfl) (ap_eqb (by kernel_rfl) (by exact rq_p rfl rfl) (by exact rq_p rfl rfl)) ?_) <;> (refine rd_pick_t (by exact rfl) (by exact rfl) ?_) <;> (refine rd_u (by exact rfl) (by exact rfl) (ap_assign (by exact rq_p rfl rfl)) ?_) <;> (refine rd_end (by kernel_rfl) ?_)) | refine ret_b (by exact rfl) ?_))
    simp
  · refine Fn.intro (by exact rfl) (by kernel_rfl) Tryd.func3 rfl rfl Tryd.ntmps3 (by exact Nat.le_of_ble_eq_true rfl) ?_; intro Γ hm
    (repeat' (first | refine WP.seq ?_ | refine go_n ?_ | refine WP.ret ?_ | refine go_r ?_ | refine bo_r ?_ | (refine wp_cond (by exact rfl) (fun hc => ?_) (fun hc => ?_) <;> (try simp only [decide_eq_true_eq, decide_eq_false_iff_not, Decidable.not_not, Bool.and_eq_true, Bool.or_eq_true, Bool.not_eq_true', Bool.not_eq_false', Bool.or_eq_false_iff, Bool.and_eq_false_iff, Int.not_lt, Int.not_le, reduceCtorEq, ne_eq, Bool.not_true, Bool.not_false, Bool.not_eq_true, Bool.not_eq_false] at hc) <;> (try (exfalso; omega))) | (refine WP.regionC (id := 0) ?_; (refine se_box (by exact rfl) (by exact ⟨rfl, rfl⟩) ?_); (refine su (ap_assign (by exact rq_p rfl rfl)) ?_); refine asemC_end ?_) | (refine WP.regionC (id := 1) ?_; (refine su (ap_load_pw (by exact rq_p rfl rfl) (by exact rfl) (by exact rfl) (by exact rfl)) ?_); (refine sc_p rfl rfl (by first | ((repeat' first | exact SubL.nil | refine SubL.cons ?_ ?_ | exact Sub.refl); done) | fail) (by first | (simp [bdL, bdL_append, AV.bd]; done) | fail) (hs) ?_); (refine su (ap_not (by exact rq_p rfl rfl)) ?_); refine asemC_end ?_) | (refine WP.regionC (id := 2) ?_; (refine sc_p rfl rfl (by first | ((repeat' (exact SubL.nil)); done) | fail) (by first | (simp [bdL, bdL_append, AV.bd]; done) | fail) (awake16_fn) ?_); (refine su (ap_assign (by exact rq_p rfl rfl)) ?_); refine asemC_end ?_) | exact ret_eq (by exact rfl) (by exact rfl) rfl))
theorem law_fequal (a : GFi) (ha : a.fit ∧ TokB a) (b : GFi) (hb : b.fit ∧ TokB b) : Fn Tryd.prog 4 [fileA a, fileA b] (boolA true) := by
  have hs := small_fn a ha.2 200 (by decide) (by decide)
  have ht := small_fn b hb.2 200 (by decide) (by decide)
  have e1 := gequal_fn a b
  have e2 := requal_fn a b
  have e3 := gequal_fn a a
  have e4 := gequal_fn b a
  refine Fn.intro (by exact rfl) (by kernel_rfl) Tryd.func4 rfl rfl Tryd.ntmps4 (by exact Nat.le_of_ble_eq_true rfl) ?_; intro Γ hm
  (repeat' (first | refine WP.seq ?_ | refine go_n ?_ | refine WP.skip ?_ | refine WP.ret ?_ | refine go_r ?_ | refine bo_r ?_ | (refine wp_cond (by exact rfl) (fun hc => ?_) (fun hc => ?_) <;> (try simp only [decide_eq_true_eq, decide_eq_false_iff_not, Decidable.not_not, Bool.and_eq_true, Bool.or_eq_true, Bool.not_eq_true', Bool.not_eq_false', Bool.or_eq_false_iff, Bool.and_eq_false_iff, Int.not_lt, Int.not_le, reduceCtorEq, ne_eq, Bool.not_true, Bool.not_false, Bool.not_eq_true, Bool.not_eq_false] at hc) <;> (try (exfalso; omega))) | (refine WP.regionC (id := 0) ?_; (refine se_box (by exact rfl) (by exact ⟨rfl, rfl⟩) ?_); (refine se_box (by exact rfl) (by exact ⟨rfl, rfl⟩) ?_); (refine su (ap_assign (by exact rq_p rfl rfl)) ?_); refine asemC_end ?_) | (refine WP.regionC (id := 1) ?_; (refine su (ap_load_pw (by exact rq_p rfl rfl) (by exact rfl) (by exact rfl) (by exact rfl)) ?_); (refine sc_p rfl rfl (by first | ((repeat' first | exact SubL.nil | refine SubL.cons ?_ ?_ | exact Sub.refl); done) | fail) (by first | (simp [bdL, bdL_append, AV.bd]; done) | fail) (hs) ?_); (refine su (ap_not (by exact rq_p rfl rfl)) ?_); (refine su (ap_move (by exact rq_p rfl rfl)) ?_); (refine sg (by exact gq_vf rfl rfl) (fun he => ap_load_pw (by exact rq_p rfl rfl) (by exact rfl) (by exact rfl) (by exact rfl)) ?_); (refine sg_p (by exact gq_vf rfl rfl) (fun he => ⟨(by exact rq_p rfl rfl), (RqL.cons (by exact rq_c rfl rfl) (RqL.cons (by exact rq_p rfl rfl) (RqL.nil))), (by first | ((repeat' first | exact SubL.nil | refine SubL.cons ?_ ?_ | exact Sub.refl); done) | fail), (by first | (simp [bdL, bdL_append, AV.bd]; done) | fail), ht⟩) ?_); (refine sg (by exact gq_vf rfl rfl) (fun he => ap_not (by exact rq_c rfl rfl)) ?_); (refine su (ap_or (by exact rq_p rfl rfl) (by exact rq_c rfl rfl)) ?_); refine asemC_end ?_) | (refine WP.regionC (id := 2) ?_; (refine sc_p rfl rfl (by first | ((repeat' (exact SubL.nil)); done) | fail) (by first | (simp [bdL, bdL_append, AV.bd]; done) | fail) (awake16_fn) ?_); (refine su (ap_assign (by exact rq_p rfl rfl)) ?_); refine asemC_end ?_) | (refine wp_draw (id := 3) 25 mixed (by kernel_rfl) (by kernel_rfl) rfl ?_ <;> (refine rd_call rfl rfl (by first | ((repeat' (exact SubL.nil)); done) | fail) (by first | (simp [bdL, bdL_append, AV.bd]; done) | fail) (awake16_fn) ?_) <;> (refine rd_u (by exact rfl) (by exact rfl) (ap_move (by exact rq_p rfl rfl)) ?_) <;> (refine rdg_u rfl rfl (by exact rfl) (by exact rfl) (ap_load_pw (by exact rq_p rfl rfl) (by exact rfl) (by exact rfl) (by exact rfl)) ?_) <;> (refine rdg_u rfl rfl (by exact rfl) (by exact rfl) (ap_load_pw (by exact rq_p rfl rfl) (by exact rfl) (by exact rfl) (by exact rfl)) ?_) <;> (refine rdg_call rfl (by exact rfl) rfl rfl (by first | ((repeat' first | exact SubL.nil | refine SubL.cons ?_ ?_ | exact Sub.refl); done) | fail) (by first | (simp [bdL, bdL_append, AV.bd]; done) | fail) (e1) ?_) <;> (refine rdg_u rfl rfl (by exact rfl) (by exact rfl) (ap_load_pw (by exact rq_p rfl rfl) (by exact rfl) (by exact rfl) (by exact rfl)) ?_) <;> (refine rdg_u rfl rfl (by exact rfl) (by exact rfl) (ap_load_pw (by exact rq_p rfl rfl) (by exact rfl) (by exact rfl) (by exact rfl)) ?_) <;> (refine rdg_call rfl (by exact rfl) rfl rfl (by first | ((repeat' first | exact SubL.nil | refine SubL.cons ?_ ?_ | exact Sub.refl); done) | fail) (by first | (simp [bdL, bdL_append, AV.bd]; done) | fail) (e2) ?_) <;> (refine rdg_u rfl rfl (by exact rfl) (by exact rfl) (ap_eqb (by kernel_rfl) (by exact rq_p rfl rfl) (by exact rq_p rfl rfl)) ?_) <;> (refine rd_pick_t (by exact rfl) (by exact rfl) ?_) <;> (refine rd_u (by exact rfl) (by exact rfl) (ap_move (by exact rq_p rfl rfl)) ?_) <;> ((refine rd_split (t := 24) (by exact rfl) (fun hc => ?_) (fun hc => ?_) <;> (try simp only [decide_eq_true_eq, decide_eq_false_iff_not, Decidable.not_not, Bool.and_eq_true, Bool.or_eq_true, Bool.not_eq_true', Bool.not_eq_false', Bool.or_eq_false_iff, Bool.and_eq_false_iff, Int.not_lt, Int.not_le, reduceCtorEq, ne_eq, Bool.not_true, Bool.not_false, Bool.not_eq_true, Bool.not_eq_false] at hc) <;> (try (exfalso; omega)) <;> (first | refine rd_skip rfl rfl ?_ | refine rdg_u rfl rfl (by exact rfl) (by exact rfl) (ap_load_pw (by exact rq_p rfl rfl) (by exact rfl) (by exact rfl) (by exact rfl)) ?_))) <;> (first | refine rd_skip rfl rfl ?_ | refine rdg_u rfl rfl (by exact rfl) (by exact rfl) (ap_load_pw (by exact rq_p rfl rfl) (by exact rfl) (by exact rfl) (by exact rfl)) ?_) <;> (first | refine rd_skip rfl rfl ?_ | refine rdg_call rfl (by exact rfl) rfl rfl (by first | ((repeat' first | exact SubL.nil | refine SubL.cons ?_ ?_ | exact Sub.refl); done) | fail) (by first | (simp [bdL, bdL_append, AV.bd]; done) | fail) (e3) ?_) <;> (first | refine rd_pick_t (by exact rfl) (by exact rfl) ?_ | refine rd_pick_f (by exact rfl) (by exact rfl) ?_) <;> (refine rd_u (by exact rfl) (by exact rfl) (ap_move (by exact rq_p rfl rfl)) ?_) <;> (first | refine rd_skip rfl rfl ?_ | (refine rd_split (t := 29) (by exact rfl) (fun hc => ?_) (fun hc => ?_) <;> (try simp only [decide_eq_true_eq, decide_eq_false_iff_not, Decidable.not_not, Bool.and_eq_true, Bool.or_eq_true, Bool.not_eq_true', Bool.not_eq_false', Bool.or_eq_false_iff, Bool.and_eq_false_iff, Int.not_lt, Int.not_le, reduceCtorEq, ne_eq, Bool.not_true, Bool.not_false, Bool.not_eq_true, Bool.not_eq_false] at hc) <;> (try (exfalso; omega)) <;> (first | refine rd_skip rfl rfl ?_ | refine rdg_u rfl rfl (by exact rfl) (by exact rfl) (ap_load_pw (by exact rq_p rfl rfl) (by exact rfl) (by exact rfl) (by exact rfl)) ?_))) <;> (first | refine rd_skip rfl rfl ?_ | refine rdg_u rfl rfl (by exact rfl) (by exact rfl) (ap_load_pw (by exact rq_p rfl rfl) (by exact rfl) (by exact rfl) (by exact rfl)) ?_) <;> (first | refine rd_skip rfl rfl ?_ | refine rdg_call rfl (by exact rfl) rfl rfl (by first | ((repeat' first | exact SubL.nil | refine SubL.cons ?_ ?_ | exact Sub.refl); done) | fail) (by first | (simp [bdL, bdL_append, AV.bd]; done) | fail) (e4) ?_) <;> (first | refine rd_skip rfl rfl ?_ | refine rdg_u rfl rfl (by exact rfl) (by exact rfl) (ap_load_pw (by exact rq_p rfl rfl) (by exact rfl) (by exact rfl) (by exact rfl)) ?_) <;> (first | refine rd_skip rfl rfl ?_ | refine rdg_u rfl rfl (by exact rfl) (by exact rfl) (ap_load_pw (by exact rq_p rfl rfl) (by exact rfl) (by exact rfl) (by exact rfl)) ?_) <;> (first | refine rd_skip rfl rfl ?_ | refine rdg_call rfl (by exact rfl) rfl rfl (by first | ((repeat' first | exact SubL.nil | refine SubL.cons ?_ ?_ | exact Sub.refl); done) | fail) (by first | (simp [bdL, bdL_append, AV.bd]; done) | fail) (e1) ?_) <;> (first | refine rd_skip rfl rfl ?_ | refine rdg_u rfl rfl (by exact rfl) (by exact rfl) (ap_eqb (by kernel_rfl) (by exact rq_p rfl rfl) (by exact rq_p rfl rfl)) ?_) <;> (first | refine rd_pick_t (by exact rfl) (by exact rfl) ?_ | refine rd_pick_f (by exact rfl) (by exact rfl) ?_) <;> (refine rd_u (by exact rfl) (by exact rfl) (ap_assign (by exact rq_p rfl rfl)) ?_) <;> (refine rd_end (by kernel_rfl) ?_)) | exact ret_eq (by exact rfl) (by exact rfl) rfl | refine ret_b (by exact rfl) ?_))
  · rw [show decide (b = a) = decide (a = b) by rw [Bool.eq_iff_iff]; simp [eq_comm]]; simp
  · simp at hc
  · simp at hc
end Go.Lg

/- the reference's texts: Decimal, kid, FormatExpr -/
namespace Go.Lg
open Go.Proofs
set_option linter.unusedSimpArgs false
set_option linter.unusedVariables false
attribute [local irreducible] Ap Rq asemC WP RunD Ret Gq thenA inBlockA bodyQ noGotoA RqL RqP OpP
set_option maxHeartbeats 8000000
set_option maxRecDepth 20000
attribute [local simp] AV.cells altA

section
variable {P : Program} {n M : Nat} {l : List (Nat × AV)} {os : List (Nat × Option AObj)} {e : List Bool} {a : Operand} {ty : TypeId} {ti tj : TI}
theorem ap_conv_r1 {src : TypeId} {z : Int} {id : Nat} [h0 : TIc P src tj] [h : TIc P ty ti] (ha : Rq n l e a (.ref id 1 0 1)) (ho : lookq M os id = some (.arr 1 [.val (.int .u8 z)])) (hz : 0 ≤ z ∧ z ≤ 255) (hk : ti.kind = none) (hs : ti.sh = .string) (hb : b8 P ti = false) (hb' : b8 P tj = true) : Ap P n l M os e (.convert src ty a) (.val (.string (strB [UInt8.ofNat z.toNat]))) := by
  refine ap_conv_ref ha ?_ rfl hk hs hb hb'
  rw [ho]
  have : byteA (UInt8.ofNat z.toNat) = .val (.int .u8 z) := by
    simp only [byteA]
    have h1 : ((UInt8.ofNat z.toNat).toNat : Int) = z := by
      rw [UInt8.toNat_ofNat']
      omega
    rw [h1]
  rw [List.map_cons, List.map_nil, this]
end
theorem decDigits_step {u : Nat} (h : 0 < u / 10) : Lib.decDigits u = Lib.decDigits (u / 10) ++ [UInt8.ofNat (48 + u % 10)] := by
  rw [Lib.decDigits]
  split
  · omega
  · rfl
theorem decDigits_lt {u : Nat} (h : u / 10 = 0) : Lib.decDigits u = [UInt8.ofNat (48 + u % 10)] := by
  rw [Lib.decDigits_one (by omega), Nat.mod_eq_of_lt (by omega)]
theorem dec_inv {u : Nat} {s r : List UInt8} (h : Lib.decDigits u ++ s = r) : (if u / 10 = 0 then [UInt8.ofNat (48 + u % 10)] ++ s = r else Lib.decDigits (u / 10) ++ ([UInt8.ofNat (48 + u % 10)] ++ s) = r) := by
  split
  · rename_i h0; rw [← decDigits_lt h0]; exact h
  · rename_i h0; rw [← List.append_assoc, ← decDigits_step (by omega)]; exact h
theorem tmod10 (n : Nat) : (n : Int).tmod 10 = ((n % 10 : Nat) : Int) := by rw [Int.tmod_eq_emod_of_nonneg (by omega)]; omega
theorem tdiv10 (n : Nat) : (n : Int).tdiv 10 = ((n / 10 : Nat) : Int) := by rw [Int.tdiv_eq_ediv_of_nonneg (by omega)]; omega

theorem decimal_fn (n : Nat) (hn : n ≤ 1000) : Fn Tryd.prog 55 [intA (n : Int)] (strA (tx (Lib.itoa n))) := by
  rw [Lib.itoa_nonneg]
  have t1 := tmod10 n
  have t2 := tdiv10 n
  refine Fn.intro (by exact rfl) (by kernel_rfl) Tryd.func55 rfl rfl Tryd.ntmps55 (by exact Nat.le_of_ble_eq_true rfl) ?_; intro Γ hm
  (repeat' (first | refine WP.seq ?_ | refine WP.block ?_ | refine go_n ?_ | (refine WP.regionC (id := 0) ?_; (refine su (ap_assign (by exact rq_p rfl rfl)) ?_); refine asemC_end ?_) | (refine WP.regionC (id := 1) ?_; (refine su (ap_move (by exact rq_p rfl rfl)) ?_); (refine su (ap_rem (by exact rq_p rfl rfl) (by exact rq_p rfl rfl) (by omega)) ?_); (refine su (ap_add (by exact rq_p rfl rfl) (by exact rq_p rfl rfl) (by exact inr_i64_of (by omega))) ?_); (refine su (ap_conv (by exact rq_p rfl rfl) (by exact rfl) (by kernel_rfl) (by exact inr_u8_of (by omega))) ?_); (refine se_lit (OpP.cons (by exact rfl) (OpP.nil)) (by exact rfl) (by exact rfl) (by exact rfl) (by exact rfl) (by exact rfl) (by exact rfl) ?_); (refine su (ap_conv_r1 (by exact rq_p rfl rfl) (by exact rfl) (by omega) (by exact rfl) (by exact rfl) (by kernel_rfl) (by kernel_rfl)) ?_); (refine su (ap_assign (by exact rq_p rfl rfl)) ?_); refine asemC_end ?_) | (refine WP.regionC (id := 2) ?_; (refine su (ap_move (by exact rq_p rfl rfl)) ?_); (refine su (ap_quo (by exact rq_p rfl rfl) (by exact rq_p rfl rfl) (And.intro (by decide) (by exact inr_i64_of (by omega)))) ?_); (refine su (ap_assign (by exact rq_p rfl rfl)) ?_); refine asemC_end ?_)))
  rw [t1, t2]
  have h0 : strB [UInt8.ofNat ((48 : Int) + ((n % 10 : Nat) : Int)).toNat] = tx [UInt8.ofNat (48 + n % 10)] := by
    rw [show ((48 : Int) + ((n % 10 : Nat) : Int)).toNat = 48 + n % 10 by omega]; rfl
  rw [h0]
  refine wp_loop (fun (x : Nat × List UInt8) => x.1 ≤ 1000 ∧ x.2.length ≤ 1000 - x.1 ∧ (if x.1 = 0 then x.2 = Lib.decDigits n else Lib.decDigits x.1 ++ x.2 = Lib.decDigits n)) (fun x => x.1)
    (fun x => (S 25 [(0, intA (x.1 : Nat)), (3, strA (tx x.2))] 0 [])) (n / 10, [UInt8.ofNat (48 + n % 10)]) ⟨[], ToR.S rfl (by repeat' (first | exact rt_nil | refine rt_e (by exact rfl) (by exact rfl) ?_)) (by repeat' (exact ro_nil)) (by decide) (by (rw [hm]; exact rfl)) (by exact rfl) (by (simp [bdT, AV.bd, bdL, bdL_append]; done)) (by repeat' (exact True.intro)) (by (rw [hm]; exact Nat.le_of_ble_eq_true rfl))⟩ ⟨by dsimp only; omega, by simp; omega, ?_⟩ ?_
  · dsimp only
    split
    · rename_i hz; exact (decDigits_lt hz).symm
    · rename_i hz; exact (decDigits_step (by omega)).symm
  rintro ⟨m, s⟩ ⟨hm1, hm2, hm3⟩
  dsimp only at *
  have t1 := tmod10 m
  have t2 := tdiv10 m
  have hsz : (tx s).size = s.length := tx_size s
  by_cases hz : m = 0
  · subst hz
    rw [if_pos rfl] at hm3
    subst hm3
    (repeat' (first | refine WP.seq ?_ | refine go_n ?_ | refine WP.exit ?_ | refine WP.ret ?_ | refine go_x ?_ | refine bl_x ?_ | refine bo_r ?_ | (refine wp_cond (by exact rfl) (fun hc => ?_) (fun hc => ?_) <;> (try simp only [decide_eq_true_eq, decide_eq_false_iff_not, Decidable.not_not, Bool.and_eq_true, Bool.or_eq_true, Bool.not_eq_true', Bool.not_eq_false', Bool.or_eq_false_iff, Bool.and_eq_false_iff, Int.not_lt, Int.not_le, reduceCtorEq, ne_eq, Bool.not_true, Bool.not_false, Bool.not_eq_true, Bool.not_eq_false] at hc) <;> (try (exfalso; omega))) | (refine WP.regionC (id := 3) ?_; (refine su (ap_move (by exact rq_p rfl rfl)) ?_); (refine su (ap_gtr (by exact rq_p rfl rfl) (by exact rq_p rfl rfl)) ?_); refine asemC_end ?_) | (refine WP.regionC (id := 6) ?_; (refine su (ap_move (by exact rq_p rfl rfl)) ?_); (refine su (ap_assign (by exact rq_p rfl rfl)) ?_); refine asemC_end ?_) | exact ret_eq (by exact rfl) (by exact rfl) rfl))
  · rw [if_neg hz] at hm3
    have hsb : (strB [UInt8.ofNat ((48 : Int) + (m : Int).tmod 10).toNat]).size = 1 := rfl
    (repeat' (first | refine WP.seq ?_ | refine WP.block ?_ | refine go_n ?_ | refine WP.skip ?_ | refine bl_n ?_ | (refine wp_cond (by exact rfl) (fun hc => ?_) (fun hc => ?_) <;> (try simp only [decide_eq_true_eq, decide_eq_false_iff_not, Decidable.not_not, Bool.and_eq_true, Bool.or_eq_true, Bool.not_eq_true', Bool.not_eq_false', Bool.or_eq_false_iff, Bool.and_eq_false_iff, Int.not_lt, Int.not_le, reduceCtorEq, ne_eq, Bool.not_true, Bool.not_false, Bool.not_eq_true, Bool.not_eq_false] at hc) <;> (try (exfalso; omega))) | (refine WP.regionC (id := 3) ?_; (refine su (ap_move (by exact rq_p rfl rfl)) ?_); (refine su (ap_gtr (by exact rq_p rfl rfl) (by exact rq_p rfl rfl)) ?_); refine asemC_end ?_) | (refine WP.regionC (id := 5) ?_; (refine su (ap_move (by exact rq_p rfl rfl)) ?_); (refine su (ap_rem (by exact rq_p rfl rfl) (by exact rq_p rfl rfl) (by omega)) ?_); (refine su (ap_add (by exact rq_p rfl rfl) (by exact rq_p rfl rfl) (by exact inr_i64_of (by omega))) ?_); (refine su (ap_conv (by exact rq_p rfl rfl) (by exact rfl) (by kernel_rfl) (by exact inr_u8_of (by omega))) ?_); (refine se_lit (OpP.cons (by exact rfl) (OpP.nil)) (by exact rfl) (by exact rfl) (by exact rfl) (by exact rfl) (by exact rfl) (by exact rfl) ?_); (refine su (ap_conv_r1 (by exact rq_p rfl rfl) (by exact rfl) (by omega) (by exact rfl) (by exact rfl) (by kernel_rfl) (by kernel_rfl)) ?_); (refine su (ap_move (by exact rq_p rfl rfl)) ?_); (refine su (ap_cat (by exact rq_p rfl rfl) (by exact rq_p rfl rfl) (by omega)) ?_); (refine su (ap_assign (by exact rq_p rfl rfl)) ?_); refine asemC_end ?_) | (refine WP.regionC (id := 4) ?_; (refine su (ap_move (by exact rq_p rfl rfl)) ?_); (refine su (ap_quo (by exact rq_p rfl rfl) (by exact rq_p rfl rfl) (And.intro (by decide) (by exact inr_i64_of (by omega)))) ?_); (refine su (ap_assign (by exact rq_p rfl rfl)) ?_); refine asemC_end ?_)))
    rw [t1, t2]
    have h0 : strB [UInt8.ofNat ((48 : Int) + ((m % 10 : Nat) : Int)).toNat] ++ tx s = tx ([UInt8.ofNat (48 + m % 10)] ++ s) := by
      rw [show ((48 : Int) + ((m % 10 : Nat) : Int)).toNat = 48 + m % 10 by omega]; exact tx_app _ _
    rw [h0]
    refine ⟨(m / 10, [UInt8.ofNat (48 + m % 10)] ++ s), ⟨by dsimp only; omega, by dsimp only; omega, by simp; omega, dec_inv hm3⟩, ⟨[], ToR.S rfl (by repeat' (first | exact rt_nil | refine rt_e (by exact rfl) (by exact rfl) ?_)) (by repeat' (exact ro_nil)) (by decide) (by (rw [hm]; exact rfl)) (by exact rfl) (by (simp [bdT, AV.bd, bdL, bdL_append]; done)) (by repeat' (exact True.intro)) (by (rw [hm]; exact Nat.le_of_ble_eq_true rfl))⟩⟩
end Go.Lg

/- the reference's texts: kid, FormatExpr -/
namespace Go.Lg
open Go.Proofs
set_option linter.unusedSimpArgs false
set_option linter.unusedVariables false
attribute [local irreducible] Ap Rq asemC WP RunD Ret Gq thenA inBlockA bodyQ noGotoA RqL RqP OpP
set_option maxHeartbeats 8000000
set_option maxRecDepth 20000
attribute [local simp] AV.cells altA

theorem kid_fn (e : GEx) (r : Bool) (hE : Fn Tryd.prog 64 [exprA e] (strA (tx (exT e)))) (hb : (exT e).length ≤ 1000000000) : Fn Tryd.prog 54 [exprA e, boolA r] (strA (tx (encT (exT e) r))) := by
  have hsz : (tx (exT e)).size = (exT e).length := tx_size _
  cases r with
  | false =>
    rw [show encT (exT e) false = exT e from rfl]
    refine Fn.intro (by exact rfl) (by kernel_rfl) Tryd.func54 rfl rfl Tryd.ntmps54 (by exact Nat.le_of_ble_eq_true rfl) ?_; intro Γ hm
    (repeat' (first | refine WP.seq ?_ | refine go_n ?_ | refine WP.skip ?_ | refine WP.ret ?_ | refine bo_r ?_ | (refine wp_cond (by exact rfl) (fun hc => ?_) (fun hc => ?_) <;> (try simp only [decide_eq_true_eq, decide_eq_false_iff_not, Decidable.not_not, Bool.and_eq_true, Bool.or_eq_true, Bool.not_eq_true', Bool.not_eq_false', Bool.or_eq_false_iff, Bool.and_eq_false_iff, Int.not_lt, Int.not_le, reduceCtorEq, ne_eq, Bool.not_true, Bool.not_false, Bool.not_eq_true, Bool.not_eq_false] at hc) <;> (try (exfalso; omega))) | (refine WP.regionC (id := 0) ?_; (refine se_box (by exact rfl) (by exact ⟨rfl, rfl⟩) ?_); (refine su (ap_assign (by exact rq_p rfl rfl)) ?_); refine asemC_end ?_) | (refine WP.regionC (id := 1) ?_; (refine su (ap_move (by exact rq_p rfl rfl)) ?_); refine asemC_end ?_) | (refine WP.regionC (id := 3) ?_; (refine su (ap_load_pw (by exact rq_p rfl rfl) (by exact rfl) (by exact rfl) (by exact rfl)) ?_); (refine sc_p rfl rfl (by first | ((repeat' first | exact SubL.nil | refine SubL.cons ?_ ?_ | exact Sub.refl); done) | fail) (by first | (simp [bdL, bdL_append, AV.bd]; done) | fail) (hE) ?_); (refine su (ap_assign (by exact rq_p rfl rfl)) ?_); refine asemC_end ?_) | exact ret_eq (by exact rfl) (by exact rfl) rfl))
  | true =>
    have e1 : tx (encT (exT e) true) = (⟨#[40]⟩ : ByteArray) ++ tx (exT e) ++ ⟨#[41]⟩ := by
      apply ba_ext; simp only [encT, if_true, bl_app, bl_tx]; rfl
    rw [e1]
    refine Fn.intro (by exact rfl) (by kernel_rfl) Tryd.func54 rfl rfl Tryd.ntmps54 (by exact Nat.le_of_ble_eq_true rfl) ?_; intro Γ hm
    (repeat' (first | refine WP.seq ?_ | refine go_n ?_ | refine WP.ret ?_ | refine go_r ?_ | refine bo_r ?_ | (refine wp_cond (by exact rfl) (fun hc => ?_) (fun hc => ?_) <;> (try simp only [decide_eq_true_eq, decide_eq_false_iff_not, Decidable.not_not, Bool.and_eq_true, Bool.or_eq_true, Bool.not_eq_true', Bool.not_eq_false', Bool.or_eq_false_iff, Bool.and_eq_false_iff, Int.not_lt, Int.not_le, reduceCtorEq, ne_eq, Bool.not_true, Bool.not_false, Bool.not_eq_true, Bool.not_eq_false] at hc) <;> (try (exfalso; omega))) | (refine WP.regionC (id := 0) ?_; (refine se_box (by exact rfl) (by exact ⟨rfl, rfl⟩) ?_); (refine su (ap_assign (by exact rq_p rfl rfl)) ?_); refine asemC_end ?_) | (refine WP.regionC (id := 1) ?_; (refine su (ap_move (by exact rq_p rfl rfl)) ?_); refine asemC_end ?_) | (refine WP.regionC (id := 2) ?_; (refine su (ap_load_pw (by exact rq_p rfl rfl) (by exact rfl) (by exact rfl) (by exact rfl)) ?_); (refine sc_p rfl rfl (by first | ((repeat' first | exact SubL.nil | refine SubL.cons ?_ ?_ | exact Sub.refl); done) | fail) (by first | (simp [bdL, bdL_append, AV.bd]; done) | fail) (hE) ?_); (refine su (ap_cat (by exact rq_p rfl rfl) (by exact rq_p rfl rfl) (by (simp only [bsz, List.size_toArray, ByteArray.size_append, List.length_append, List.length_cons, List.length_nil] <;> omega))) ?_); (refine su (ap_cat (by exact rq_p rfl rfl) (by exact rq_p rfl rfl) (by (simp only [bsz, List.size_toArray, ByteArray.size_append, List.length_append, List.length_cons, List.length_nil] <;> omega))) ?_); (refine su (ap_assign (by exact rq_p rfl rfl)) ?_); refine asemC_end ?_) | exact ret_eq (by exact rfl) (by exact rfl) rfl))
theorem okE_iff {e : GEx} {d : Int} (h : okE e d = true) : okK e.kind e.name e.kids.length = true ∧ ∀ k, k ∈ e.kids → okE k (d - 1) = true := by
  rw [okE_eq] at h
  simp only [Bool.and_eq_true, List.all_eq_true] at h
  exact ⟨h.1.2, h.2⟩
theorem encT_len (t : List UInt8) (r : Bool) : t.length ≤ (encT t r).length := by cases r <;> simp [encT]; omega
theorem tx3 (a : List UInt8) (b : ByteArray) (c : List UInt8) : tx a ++ b ++ tx c = tx (a ++ (bl b ++ c)) := by
  apply ba_ext; simp [bl_app]
theorem fexpr_fn (e : GEx) : ∀ d : Int, okE e d = true → (exT e).length ≤ 1000000000 → Fn Tryd.prog 64 [exprA e] (strA (tx (exT e))) := by
  induction e using GEx.ind with
  | h e ih =>
    intro d hv hb
    obtain ⟨hk, hkids⟩ := okE_iff hv
    rw [exT_eq] at hb ⊢
    rw [exprA, kids_exprsA]
    generalize hkd : e.kids = kids at *
    generalize e.kind = kk at *
    generalize e.name = nm at *
    clear hkd hv e
    rw [List.length_append] at hb
    have hK : ∀ i, i < kids.length → (exT (nth kids i)).length ≤ 1000000000 → ∀ r, Fn Tryd.prog 54 [exprA (nth kids i), boolA r] (strA (tx (encT (exT (nth kids i)) r))) :=
      fun i hi hl r => kid_fn _ r (ih _ (nth_mem hi) (d - 1) (hkids _ (nth_mem hi)) hl) hl
    have hl : True := trivial
    by_cases h1 : kk = 1
    · have hk0 : kids = [] := by
        subst h1; simp [okK] at hk; exact hk.2
      subst hk0
      have e1 : tx (kidsT kk false [] ++ tailT kk nm) = nm := by simp [kidsT, tailT, h1, tx_bl]
      rw [e1]
      refine Fn.intro (by exact rfl) (by kernel_rfl) Tryd.func64 rfl rfl Tryd.ntmps64 (by exact Nat.le_of_ble_eq_true rfl) ?_; intro Γ hm
      (repeat' (first | refine WP.seq ?_ | refine WP.block ?_ | refine go_n ?_ | refine WP.ret ?_ | refine bl_n ?_ | refine bo_r ?_ | (refine wp_cond (by exact rfl) (fun hc => ?_) (fun hc => ?_) <;> (try simp only [decide_eq_true_eq, decide_eq_false_iff_not, Decidable.not_not, Bool.and_eq_true, Bool.or_eq_true, Bool.not_eq_true', Bool.not_eq_false', Bool.or_eq_false_iff, Bool.and_eq_false_iff, Int.not_lt, Int.not_le, reduceCtorEq, ne_eq, Bool.not_true, Bool.not_false, Bool.not_eq_true, Bool.not_eq_false] at hc) <;> (try (exfalso; omega))) | (refine WP.regionC (id := 0) ?_; (refine se_box (by exact rfl) (by exact ⟨rfl, rfl⟩) ?_); (refine su (ap_assign (by exact rq_p rfl rfl)) ?_); refine asemC_end ?_) | (refine WP.regionC (id := 1) ?_; (refine su (ap_assign (by exact rq_p rfl rfl)) ?_); refine asemC_end ?_) | (refine WP.regionC (id := 2) ?_; (refine su (ap_field_p (by exact rq_p rfl rfl) (by exact rfl) (by exact rfl)) ?_); (refine su (ap_load_p (by exact rq_p rfl rfl) (by exact rfl) (by exact rfl) (by exact rfl)) ?_); refine asemC_end ?_) | (refine WP.regionC (id := 10) ?_; (refine su (ap_eql (by exact rq_p rfl rfl) (by exact rq_p rfl rfl)) ?_); (refine su (ap_assign (by exact rq_p rfl rfl)) ?_); refine asemC_end ?_) | (refine WP.regionC (id := 11) ?_; (refine su (ap_field_p (by exact rq_p rfl rfl) (by exact rfl) (by exact rfl)) ?_); (refine su (ap_load_p (by exact rq_p rfl rfl) (by exact rfl) (by exact rfl) (by exact rfl)) ?_); (refine su (ap_assign (by exact rq_p rfl rfl)) ?_); refine asemC_end ?_) | (refine WP.regionC (id := 26) ?_; (refine su (ap_move (by exact rq_p rfl rfl)) ?_); (refine su (ap_assign (by exact rq_p rfl rfl)) ?_); refine asemC_end ?_) | exact ret_eq (by exact rfl) (by exact rfl) rfl))
    have ht : kk = 2 ∨ kk = 3 → tailT kk nm = [] := by rintro (h | h) <;> simp [tailT, h]
    by_cases h2 : kk = 2
    · rw [ht (.inl h2), List.append_nil]
      refine Fn.intro (by exact rfl) (by kernel_rfl) Tryd.func64 rfl rfl Tryd.ntmps64 (by exact Nat.le_of_ble_eq_true rfl) ?_; intro Γ hm
      refine wp_lens 0 rfl fun hl => ?_
      have hl : kids.length ≤ 9223372036854775807 := by have := hl; simp [AV.lens, lensL, exprsA] at this; omega
      (repeat' (first | refine WP.seq ?_ | refine WP.block ?_ | refine go_n ?_ | (refine wp_cond (by exact rfl) (fun hc => ?_) (fun hc => ?_) <;> (try simp only [decide_eq_true_eq, decide_eq_false_iff_not, Decidable.not_not, Bool.and_eq_true, Bool.or_eq_true, Bool.not_eq_true', Bool.not_eq_false', Bool.or_eq_false_iff, Bool.and_eq_false_iff, Int.not_lt, Int.not_le, reduceCtorEq, ne_eq, Bool.not_true, Bool.not_false, Bool.not_eq_true, Bool.not_eq_false] at hc) <;> (try (exfalso; omega))) | (refine WP.regionC (id := 0) ?_; (refine se_box (by exact rfl) (by exact ⟨rfl, rfl⟩) ?_); (refine su (ap_assign (by exact rq_p rfl rfl)) ?_); refine asemC_end ?_) | (refine WP.regionC (id := 1) ?_; (refine su (ap_assign (by exact rq_p rfl rfl)) ?_); refine asemC_end ?_) | (refine WP.regionC (id := 2) ?_; (refine su (ap_field_p (by exact rq_p rfl rfl) (by exact rfl) (by exact rfl)) ?_); (refine su (ap_load_p (by exact rq_p rfl rfl) (by exact rfl) (by exact rfl) (by exact rfl)) ?_); refine asemC_end ?_) | (refine WP.regionC (id := 10) ?_; (refine su (ap_eql (by exact rq_p rfl rfl) (by exact rq_p rfl rfl)) ?_); (refine su (ap_assign (by exact rq_p rfl rfl)) ?_); refine asemC_end ?_) | (refine WP.regionC (id := 12) ?_; (refine su (ap_eql (by exact rq_p rfl rfl) (by exact rq_p rfl rfl)) ?_); (refine su (ap_assign (by exact rq_p rfl rfl)) ?_); refine asemC_end ?_) | (refine WP.regionC (id := 13) ?_; (refine su (ap_assign (by exact rq_p rfl rfl)) ?_); refine asemC_end ?_)))
      refine wp_loop (fun (i : Nat) => i ≤ kids.length) (fun i => kids.length - i)
        (fun i => (S 120 [(1, .ptr 0 3 0 0), (3, strA (tx (kidsT kk false (kids.take i)))), (4, intA (i : Nat))] 1 [(0, some (.arr 3 [.agg [intA kk, strA nm, exprsA kids]]))])) 0 ⟨[0], ToR.S rfl (by repeat' (first | exact rt_nil | refine rt_t (by exact rfl) (by exact rfl) ?_ | refine rt_e (by exact rfl) (by exact rfl) ?_)) (by repeat' (first | exact ro_nil | refine ro_p (by exact rfl) (by first | exact rfl | fail) (by first | (simp [bdL, bdL_append, AV.bd]; done) | fail) ?_)) (by decide) (by (rw [hm]; exact rfl)) (by exact rfl) (by (simp [bdT, AV.bd, bdL, bdL_append]; done)) (by repeat' (first | exact True.intro | refine And.intro ?_ ?_ | (simp [bdOq, bdL, bdL_append, AV.bd]; done))) (by (rw [hm]; exact Nat.le_of_ble_eq_true rfl))⟩ (Nat.zero_le _) ?_
      rintro i hi
      have hmo := kidsT_mono kk kids hi
      have hs1 : (tx (kidsT kk false (kids.take i))).size = (kidsT kk false (kids.take i)).length := tx_size _
      by_cases hlt : i < kids.length
      · have hmo2 := kidsT_mono kk kids (i := i + 1) (by omega)
        rw [kidsT_take hlt, List.length_append, oneT, List.length_append] at hmo2
        have hen := encT_len (exT (nth kids i)) (reqP kk (nth kids i))
        have hX := hK i hlt (by omega)
        have hen2 : ∀ r, (tx (encT (exT (nth kids i)) r)).size ≤ (exT (nth kids i)).length + 2 := fun r => by rw [tx_size]; cases r <;> simp [encT]
        have hen3 := hen2 true
        have hen4 := hen2 (decide ((nth kids i).kind = 3))
        (repeat' (first | refine WP.seq ?_ | refine WP.block ?_ | refine go_n ?_ | refine WP.skip ?_ | refine bl_n ?_ | (refine wp_cond (by exact rfl) (fun hc => ?_) (fun hc => ?_) <;> (try simp only [decide_eq_true_eq, decide_eq_false_iff_not, Decidable.not_not, Bool.and_eq_true, Bool.or_eq_true, Bool.not_eq_true', Bool.not_eq_false', Bool.or_eq_false_iff, Bool.and_eq_false_iff, Int.not_lt, Int.not_le, reduceCtorEq, ne_eq, Bool.not_true, Bool.not_false, Bool.not_eq_true, Bool.not_eq_false] at hc) <;> (try (exfalso; omega))) | (refine WP.regionC (id := 14) ?_; (refine su (ap_move (by exact rq_p rfl rfl)) ?_); (refine su (ap_field_p (by exact rq_p rfl rfl) (by exact rfl) (by exact rfl)) ?_); (refine su (ap_load_p (by exact rq_p rfl rfl) (by exact rfl) (by exact rfl) (by exact rfl)) ?_); (refine su (ap_len_m (by exact rfl) (by exact rq_p rfl rfl)) ?_); (refine su (ap_lss (by exact rq_p rfl rfl) (by exact rq_p rfl rfl)) ?_); refine asemC_end ?_) | (refine WP.regionC (id := 16) ?_; (refine su (ap_move (by exact rq_p rfl rfl)) ?_); (refine su (ap_gtr (by exact rq_p rfl rfl) (by exact rq_p rfl rfl)) ?_); refine asemC_end ?_) | (refine WP.regionC (id := 17) ?_; (refine su (ap_move (by exact rq_p rfl rfl)) ?_); (refine su (ap_cat (by exact rq_p rfl rfl) (by exact rq_p rfl rfl) (by (simp only [bsz, List.size_toArray, ByteArray.size_append, List.length_append, List.length_cons, List.length_nil] <;> omega))) ?_); (refine su (ap_assign (by exact rq_p rfl rfl)) ?_); refine asemC_end ?_) | (refine wp_draw (id := 18) 25 mixed (by kernel_rfl) (by kernel_rfl) rfl ?_ <;> (refine rd_u (by exact rfl) (by exact rfl) (ap_move (by exact rq_p rfl rfl)) ?_) <;> (refine rd_u (by exact rfl) (by exact rfl) (ap_field_p (by exact rq_p rfl rfl) (by exact rfl) (by exact rfl)) ?_) <;> (refine rd_u (by exact rfl) (by exact rfl) (ap_load_p (by exact rq_p rfl rfl) (by exact rfl) (by exact rfl) (by exact rfl)) ?_) <;> (refine rd_u (by exact rfl) (by exact rfl) (ap_move (by exact rq_p rfl rfl)) ?_) <;> (refine rd_u (by exact rfl) (by exact rfl) (ap_idx_n (by exact rq_p rfl rfl) (by exact rq_p rfl rfl) (by omega)) ?_) <;> (refine rd_u (by exact rfl) (by exact rfl) (ap_load_w (by exact rq_p rfl rfl) (by exact rfl)) ?_) <;> (refine rd_u (by exact rfl) (by exact rfl) (ap_field_p (by exact rq_p rfl rfl) (by exact rfl) (by exact rfl)) ?_) <;> (refine rd_u (by exact rfl) (by exact rfl) (ap_load_p (by exact rq_p rfl rfl) (by exact rfl) (by exact rfl) (by exact rfl)) ?_) <;> (refine rd_u (by exact rfl) (by exact rfl) (ap_move (by exact rq_p rfl rfl)) ?_) <;> (refine rd_u (by exact rfl) (by exact rfl) (ap_idx_n (by exact rq_p rfl rfl) (by exact rq_p rfl rfl) (by omega)) ?_) <;> (refine rd_u (by exact rfl) (by exact rfl) (ap_field_i (by exact rq_p rfl rfl) (by exact rfl) (by exact rfl)) ?_) <;> (refine rd_u (by exact rfl) (by exact rfl) (ap_load_i (by exact rq_p rfl rfl) (by exact rfl)) ?_) <;> (refine rd_u (by exact rfl) (by exact rfl) (ap_eql (by exact rq_p rfl rfl) (by exact rq_p rfl rfl)) ?_) <;> (refine rd_u (by exact rfl) (by exact rfl) (ap_move (by exact rq_p rfl rfl)) ?_) <;> ((refine rd_split (t := 61) (by exact rfl) (fun hc => ?_) (fun hc => ?_) <;> (try simp only [decide_eq_true_eq, decide_eq_false_iff_not, Decidable.not_not, Bool.and_eq_true, Bool.or_eq_true, Bool.not_eq_true', Bool.not_eq_false', Bool.or_eq_false_iff, Bool.and_eq_false_iff, Int.not_lt, Int.not_le, reduceCtorEq, ne_eq, Bool.not_true, Bool.not_false, Bool.not_eq_true, Bool.not_eq_false] at hc) <;> (try (exfalso; omega)) <;> (first | refine rd_skip rfl rfl ?_ | refine rdg_u rfl rfl (by exact rfl) (by exact rfl) (ap_field_p (by exact rq_p rfl rfl) (by exact rfl) (by exact rfl)) ?_))) <;> (first | refine rd_skip rfl rfl ?_ | refine rdg_u rfl rfl (by exact rfl) (by exact rfl) (ap_load_p (by exact rq_p rfl rfl) (by exact rfl) (by exact rfl) (by exact rfl)) ?_) <;> (first | refine rd_skip rfl rfl ?_ | refine rdg_u rfl rfl (by exact rfl) (by exact rfl) (ap_move (by exact rq_p rfl rfl)) ?_) <;> (first | refine rd_skip rfl rfl ?_ | refine rdg_u rfl rfl (by exact rfl) (by exact rfl) (ap_idx_n (by exact rq_p rfl rfl) (by exact rq_p rfl rfl) (by omega)) ?_) <;> (first | refine rd_skip rfl rfl ?_ | refine rdg_u rfl rfl (by exact rfl) (by exact rfl) (ap_field_i (by exact rq_p rfl rfl) (by exact rfl) (by exact rfl)) ?_) <;> (first | refine rd_skip rfl rfl ?_ | refine rdg_u rfl rfl (by exact rfl) (by exact rfl) (ap_load_i (by exact rq_p rfl rfl) (by exact rfl)) ?_) <;> (first | refine rd_skip rfl rfl ?_ | refine rdg_u rfl rfl (by exact rfl) (by exact rfl) (ap_eql (by exact rq_p rfl rfl) (by exact rq_p rfl rfl)) ?_) <;> (first | refine rd_pick_t (by exact rfl) (by exact rfl) ?_ | refine rd_pick_f (by exact rfl) (by exact rfl) ?_) <;> (refine rd_call rfl rfl (by first | ((repeat' first | exact SubL.nil | refine SubL.cons ?_ ?_ | exact Sub.refl); done) | fail) (by first | (simp [bdL, bdL_append, AV.bd]; done) | fail) (hX _) ?_) <;> (refine rd_u (by exact rfl) (by exact rfl) (ap_cat (by exact rq_p rfl rfl) (by exact rq_p rfl rfl) (by first | omega | (simp only [bsz, List.size_toArray, ByteArray.size_append, List.length_append, List.length_cons, List.length_nil] <;> omega))) ?_) <;> (refine rd_u (by exact rfl) (by exact rfl) (ap_assign (by exact rq_p rfl rfl)) ?_) <;> (refine rd_end (by kernel_rfl) ?_)) | (refine WP.regionC (id := 15) ?_; (refine su (ap_move (by exact rq_p rfl rfl)) ?_); (refine su (ap_add (by exact rq_p rfl rfl) (by exact rq_p rfl rfl) (by exact inr_i64_of (by omega))) ?_); (refine su (ap_assign (by exact rq_p rfl rfl)) ?_); refine asemC_end ?_)))
        · have e1 : tx (kidsT kk false (kids.take (i + 1))) = tx (kidsT kk false (kids.take i)) ++ (⟨#[32]⟩ : ByteArray) ++ tx (encT (exT (nth kids i)) (true)) := by
            rw [tx3, kidsT_take hlt, oneT, if_neg (by omega), show reqP kk (nth kids i) = (true) by simp [reqP, h2, hc]]; simp [sepT, bl, h2, hc]
          refine ⟨i + 1, ⟨by omega, by omega⟩, ?_⟩
          rw [e1]
          exact ⟨[0], ToR.S rfl (by repeat' (first | exact rt_nil | refine rt_t (by exact rfl) (by exact rfl) ?_ | refine rt_e (by exact rfl) (by exact rfl) ?_)) (by repeat' (first | exact ro_nil | refine ro_p (by exact rfl) (by first | exact rfl | fail) (by first | (simp [bdL, bdL_append, AV.bd]; done) | fail) ?_)) (by decide) (by (rw [hm]; exact rfl)) (by exact rfl) (by (simp [bdT, AV.bd, bdL, bdL_append]; done)) (by repeat' (first | exact True.intro | refine And.intro ?_ ?_ | (simp [bdOq, bdL, bdL_append, AV.bd]; done))) (by (rw [hm]; exact Nat.le_of_ble_eq_true rfl))⟩
        · have e1 : tx (kidsT kk false (kids.take (i + 1))) = tx (kidsT kk false (kids.take i)) ++ (⟨#[32]⟩ : ByteArray) ++ tx (encT (exT (nth kids i)) (decide ((nth kids i).kind = 3))) := by
            rw [tx3, kidsT_take hlt, oneT, if_neg (by omega), show reqP kk (nth kids i) = (decide ((nth kids i).kind = 3)) by simp [reqP, h2, hc]]; simp [sepT, bl, h2, hc]
          refine ⟨i + 1, ⟨by omega, by omega⟩, ?_⟩
          rw [e1]
          exact ⟨[0], ToR.S rfl (by repeat' (first | exact rt_nil | refine rt_t (by exact rfl) (by exact rfl) ?_ | refine rt_e (by exact rfl) (by exact rfl) ?_)) (by repeat' (first | exact ro_nil | refine ro_p (by exact rfl) (by first | exact rfl | fail) (by first | (simp [bdL, bdL_append, AV.bd]; done) | fail) ?_)) (by decide) (by (rw [hm]; exact rfl)) (by exact rfl) (by (simp [bdT, AV.bd, bdL, bdL_append]; done)) (by repeat' (first | exact True.intro | refine And.intro ?_ ?_ | (simp [bdOq, bdL, bdL_append, AV.bd]; done))) (by (rw [hm]; exact Nat.le_of_ble_eq_true rfl))⟩
        · have e1 : tx (kidsT kk false (kids.take (i + 1))) = tx (kidsT kk false (kids.take i)) ++ tx (encT (exT (nth kids i)) (true)) := by
            rw [tx_app, kidsT_take hlt, oneT, if_pos (by omega), show reqP kk (nth kids i) = (true) by simp [reqP, h2, hc], List.nil_append]
          refine ⟨i + 1, ⟨by omega, by omega⟩, ?_⟩
          rw [e1]
          exact ⟨[0], ToR.S rfl (by repeat' (first | exact rt_nil | refine rt_t (by exact rfl) (by exact rfl) ?_ | refine rt_e (by exact rfl) (by exact rfl) ?_)) (by repeat' (first | exact ro_nil | refine ro_p (by exact rfl) (by first | exact rfl | fail) (by first | (simp [bdL, bdL_append, AV.bd]; done) | fail) ?_)) (by decide) (by (rw [hm]; exact rfl)) (by exact rfl) (by (simp [bdT, AV.bd, bdL, bdL_append]; done)) (by repeat' (first | exact True.intro | refine And.intro ?_ ?_ | (simp [bdOq, bdL, bdL_append, AV.bd]; done))) (by (rw [hm]; exact Nat.le_of_ble_eq_true rfl))⟩
        · have e1 : tx (kidsT kk false (kids.take (i + 1))) = tx (kidsT kk false (kids.take i)) ++ tx (encT (exT (nth kids i)) (decide ((nth kids i).kind = 3))) := by
            rw [tx_app, kidsT_take hlt, oneT, if_pos (by omega), show reqP kk (nth kids i) = (decide ((nth kids i).kind = 3)) by simp [reqP, h2, hc], List.nil_append]
          refine ⟨i + 1, ⟨by omega, by omega⟩, ?_⟩
          rw [e1]
          exact ⟨[0], ToR.S rfl (by repeat' (first | exact rt_nil | refine rt_t (by exact rfl) (by exact rfl) ?_ | refine rt_e (by exact rfl) (by exact rfl) ?_)) (by repeat' (first | exact ro_nil | refine ro_p (by exact rfl) (by first | exact rfl | fail) (by first | (simp [bdL, bdL_append, AV.bd]; done) | fail) ?_)) (by decide) (by (rw [hm]; exact rfl)) (by exact rfl) (by (simp [bdT, AV.bd, bdL, bdL_append]; done)) (by repeat' (first | exact True.intro | refine And.intro ?_ ?_ | (simp [bdOq, bdL, bdL_append, AV.bd]; done))) (by (rw [hm]; exact Nat.le_of_ble_eq_true rfl))⟩
      · obtain rfl : i = kids.length := by omega
        rw [List.take_of_length_le (Nat.le_refl _)]
        (repeat' (first | refine WP.seq ?_ | refine go_n ?_ | refine WP.exit ?_ | refine WP.ret ?_ | refine go_x ?_ | refine bl_n ?_ | refine bl_x ?_ | refine bo_r ?_ | (refine wp_cond (by exact rfl) (fun hc => ?_) (fun hc => ?_) <;> (try simp only [decide_eq_true_eq, decide_eq_false_iff_not, Decidable.not_not, Bool.and_eq_true, Bool.or_eq_true, Bool.not_eq_true', Bool.not_eq_false', Bool.or_eq_false_iff, Bool.and_eq_false_iff, Int.not_lt, Int.not_le, reduceCtorEq, ne_eq, Bool.not_true, Bool.not_false, Bool.not_eq_true, Bool.not_eq_false] at hc) <;> (try (exfalso; omega))) | (refine WP.regionC (id := 14) ?_; (refine su (ap_move (by exact rq_p rfl rfl)) ?_); (refine su (ap_field_p (by exact rq_p rfl rfl) (by exact rfl) (by exact rfl)) ?_); (refine su (ap_load_p (by exact rq_p rfl rfl) (by exact rfl) (by exact rfl) (by exact rfl)) ?_); (refine su (ap_len_m (by exact rfl) (by exact rq_p rfl rfl)) ?_); (refine su (ap_lss (by exact rq_p rfl rfl) (by exact rq_p rfl rfl)) ?_); refine asemC_end ?_) | (refine WP.regionC (id := 26) ?_; (refine su (ap_move (by exact rq_p rfl rfl)) ?_); (refine su (ap_assign (by exact rq_p rfl rfl)) ?_); refine asemC_end ?_) | exact ret_eq (by exact rfl) (by exact rfl) rfl))
    by_cases h3 : kk = 3
    · rw [ht (.inr h3), List.append_nil]
      refine Fn.intro (by exact rfl) (by kernel_rfl) Tryd.func64 rfl rfl Tryd.ntmps64 (by exact Nat.le_of_ble_eq_true rfl) ?_; intro Γ hm
      refine wp_lens 0 rfl fun hl => ?_
      have hl : kids.length ≤ 9223372036854775807 := by have := hl; simp [AV.lens, lensL, exprsA] at this; omega
      (repeat' (first | refine WP.seq ?_ | refine WP.block ?_ | refine go_n ?_ | (refine wp_cond (by exact rfl) (fun hc => ?_) (fun hc => ?_) <;> (try simp only [decide_eq_true_eq, decide_eq_false_iff_not, Decidable.not_not, Bool.and_eq_true, Bool.or_eq_true, Bool.not_eq_true', Bool.not_eq_false', Bool.or_eq_false_iff, Bool.and_eq_false_iff, Int.not_lt, Int.not_le, reduceCtorEq, ne_eq, Bool.not_true, Bool.not_false, Bool.not_eq_true, Bool.not_eq_false] at hc) <;> (try (exfalso; omega))) | (refine WP.regionC (id := 0) ?_; (refine se_box (by exact rfl) (by exact ⟨rfl, rfl⟩) ?_); (refine su (ap_assign (by exact rq_p rfl rfl)) ?_); refine asemC_end ?_) | (refine WP.regionC (id := 1) ?_; (refine su (ap_assign (by exact rq_p rfl rfl)) ?_); refine asemC_end ?_) | (refine WP.regionC (id := 2) ?_; (refine su (ap_field_p (by exact rq_p rfl rfl) (by exact rfl) (by exact rfl)) ?_); (refine su (ap_load_p (by exact rq_p rfl rfl) (by exact rfl) (by exact rfl) (by exact rfl)) ?_); refine asemC_end ?_) | (refine WP.regionC (id := 10) ?_; (refine su (ap_eql (by exact rq_p rfl rfl) (by exact rq_p rfl rfl)) ?_); (refine su (ap_assign (by exact rq_p rfl rfl)) ?_); refine asemC_end ?_) | (refine WP.regionC (id := 12) ?_; (refine su (ap_eql (by exact rq_p rfl rfl) (by exact rq_p rfl rfl)) ?_); (refine su (ap_assign (by exact rq_p rfl rfl)) ?_); refine asemC_end ?_) | (refine WP.regionC (id := 19) ?_; (refine su (ap_eql (by exact rq_p rfl rfl) (by exact rq_p rfl rfl)) ?_); (refine su (ap_assign (by exact rq_p rfl rfl)) ?_); refine asemC_end ?_) | (refine WP.regionC (id := 20) ?_; (refine su (ap_assign (by exact rq_p rfl rfl)) ?_); refine asemC_end ?_)))
      refine wp_loop (fun (i : Nat) => i ≤ kids.length) (fun i => kids.length - i)
        (fun i => (S 120 [(1, .ptr 0 3 0 0), (3, strA (tx (kidsT kk false (kids.take i)))), (5, intA (i : Nat))] 1 [(0, some (.arr 3 [.agg [intA kk, strA nm, exprsA kids]]))])) 0 ⟨[0], ToR.S rfl (by repeat' (first | exact rt_nil | refine rt_t (by exact rfl) (by exact rfl) ?_ | refine rt_e (by exact rfl) (by exact rfl) ?_)) (by repeat' (first | exact ro_nil | refine ro_p (by exact rfl) (by first | exact rfl | fail) (by first | (simp [bdL, bdL_append, AV.bd]; done) | fail) ?_)) (by decide) (by (rw [hm]; exact rfl)) (by exact rfl) (by (simp [bdT, AV.bd, bdL, bdL_append]; done)) (by repeat' (first | exact True.intro | refine And.intro ?_ ?_ | (simp [bdOq, bdL, bdL_append, AV.bd]; done))) (by (rw [hm]; exact Nat.le_of_ble_eq_true rfl))⟩ (Nat.zero_le _) ?_
      rintro i hi
      have hmo := kidsT_mono kk kids hi
      have hs1 : (tx (kidsT kk false (kids.take i))).size = (kidsT kk false (kids.take i)).length := tx_size _
      by_cases hlt : i < kids.length
      · have hmo2 := kidsT_mono kk kids (i := i + 1) (by omega)
        rw [kidsT_take hlt, List.length_append, oneT, List.length_append] at hmo2
        have hen := encT_len (exT (nth kids i)) (reqP kk (nth kids i))
        have hX := hK i hlt (by omega)
        have hen2 : ∀ r, (tx (encT (exT (nth kids i)) r)).size ≤ (exT (nth kids i)).length + 2 := fun r => by rw [tx_size]; cases r <;> simp [encT]
        have hen3 := hen2 true
        have hen4 := hen2 false
        have hen5 := hen2 (decide (((kidsL (nth kids i)).length : Int) = 0))
        (repeat' (first | refine WP.seq ?_ | refine WP.block ?_ | refine go_n ?_ | refine WP.skip ?_ | refine bl_n ?_ | (refine wp_cond (by exact rfl) (fun hc => ?_) (fun hc => ?_) <;> (try simp only [decide_eq_true_eq, decide_eq_false_iff_not, Decidable.not_not, Bool.and_eq_true, Bool.or_eq_true, Bool.not_eq_true', Bool.not_eq_false', Bool.or_eq_false_iff, Bool.and_eq_false_iff, Int.not_lt, Int.not_le, reduceCtorEq, ne_eq, Bool.not_true, Bool.not_false, Bool.not_eq_true, Bool.not_eq_false] at hc) <;> (try (exfalso; omega))) | (refine WP.regionC (id := 21) ?_; (refine su (ap_move (by exact rq_p rfl rfl)) ?_); (refine su (ap_field_p (by exact rq_p rfl rfl) (by exact rfl) (by exact rfl)) ?_); (refine su (ap_load_p (by exact rq_p rfl rfl) (by exact rfl) (by exact rfl) (by exact rfl)) ?_); (refine su (ap_len_m (by exact rfl) (by exact rq_p rfl rfl)) ?_); (refine su (ap_lss (by exact rq_p rfl rfl) (by exact rq_p rfl rfl)) ?_); refine asemC_end ?_) | (refine WP.regionC (id := 23) ?_; (refine su (ap_move (by exact rq_p rfl rfl)) ?_); (refine su (ap_gtr (by exact rq_p rfl rfl) (by exact rq_p rfl rfl)) ?_); refine asemC_end ?_) | (refine WP.regionC (id := 24) ?_; (refine su (ap_move (by exact rq_p rfl rfl)) ?_); (refine su (ap_cat (by exact rq_p rfl rfl) (by exact rq_p rfl rfl) (by (simp only [bsz, List.size_toArray, ByteArray.size_append, List.length_append, List.length_cons, List.length_nil] <;> omega))) ?_); (refine su (ap_assign (by exact rq_p rfl rfl)) ?_); refine asemC_end ?_) | (refine wp_draw (id := 25) 35 mixed (by kernel_rfl) (by kernel_rfl) rfl ?_ <;> (refine rd_u (by exact rfl) (by exact rfl) (ap_move (by exact rq_p rfl rfl)) ?_) <;> (refine rd_u (by exact rfl) (by exact rfl) (ap_field_p (by exact rq_p rfl rfl) (by exact rfl) (by exact rfl)) ?_) <;> (refine rd_u (by exact rfl) (by exact rfl) (ap_load_p (by exact rq_p rfl rfl) (by exact rfl) (by exact rfl) (by exact rfl)) ?_) <;> (refine rd_u (by exact rfl) (by exact rfl) (ap_move (by exact rq_p rfl rfl)) ?_) <;> (refine rd_u (by exact rfl) (by exact rfl) (ap_idx_n (by exact rq_p rfl rfl) (by exact rq_p rfl rfl) (by omega)) ?_) <;> (refine rd_u (by exact rfl) (by exact rfl) (ap_load_w (by exact rq_p rfl rfl) (by exact rfl)) ?_) <;> (refine rd_u (by exact rfl) (by exact rfl) (ap_field_p (by exact rq_p rfl rfl) (by exact rfl) (by exact rfl)) ?_) <;> (refine rd_u (by exact rfl) (by exact rfl) (ap_load_p (by exact rq_p rfl rfl) (by exact rfl) (by exact rfl) (by exact rfl)) ?_) <;> (refine rd_u (by exact rfl) (by exact rfl) (ap_move (by exact rq_p rfl rfl)) ?_) <;> (refine rd_u (by exact rfl) (by exact rfl) (ap_idx_n (by exact rq_p rfl rfl) (by exact rq_p rfl rfl) (by omega)) ?_) <;> (refine rd_u (by exact rfl) (by exact rfl) (ap_field_i (by exact rq_p rfl rfl) (by exact rfl) (by exact rfl)) ?_) <;> (refine rd_u (by exact rfl) (by exact rfl) (ap_load_i (by exact rq_p rfl rfl) (by exact rfl)) ?_) <;> (refine rd_u (by exact rfl) (by exact rfl) (ap_eql (by exact rq_p rfl rfl) (by exact rq_p rfl rfl)) ?_) <;> (refine rd_u (by exact rfl) (by exact rfl) (ap_move (by exact rq_p rfl rfl)) ?_) <;> ((refine rd_split (t := 98) (by exact rfl) (fun hc => ?_) (fun hc => ?_) <;> (try simp only [decide_eq_true_eq, decide_eq_false_iff_not, Decidable.not_not, Bool.and_eq_true, Bool.or_eq_true, Bool.not_eq_true', Bool.not_eq_false', Bool.or_eq_false_iff, Bool.and_eq_false_iff, Int.not_lt, Int.not_le, reduceCtorEq, ne_eq, Bool.not_true, Bool.not_false, Bool.not_eq_true, Bool.not_eq_false] at hc) <;> (try (exfalso; omega)) <;> (first | refine rd_skip rfl rfl ?_ | refine rdg_u rfl rfl (by exact rfl) (by exact rfl) (ap_field_p (by exact rq_p rfl rfl) (by exact rfl) (by exact rfl)) ?_))) <;> (first | refine rd_skip rfl rfl ?_ | refine rdg_u rfl rfl (by exact rfl) (by exact rfl) (ap_load_p (by exact rq_p rfl rfl) (by exact rfl) (by exact rfl) (by exact rfl)) ?_) <;> (first | refine rd_skip rfl rfl ?_ | refine rdg_u rfl rfl (by exact rfl) (by exact rfl) (ap_move (by exact rq_p rfl rfl)) ?_) <;> (first | refine rd_skip rfl rfl ?_ | refine rdg_u rfl rfl (by exact rfl) (by exact rfl) (ap_idx_n (by exact rq_p rfl rfl) (by exact rq_p rfl rfl) (by omega)) ?_) <;> (first | refine rd_skip rfl rfl ?_ | refine rdg_u rfl rfl (by exact rfl) (by exact rfl) (ap_field_i (by exact rq_p rfl rfl) (by exact rfl) (by exact rfl)) ?_) <;> (first | refine rd_skip rfl rfl ?_ | refine rdg_u rfl rfl (by exact rfl) (by exact rfl) (ap_load_i (by exact rq_p rfl rfl) (by exact rfl)) ?_) <;> (first | refine rd_skip rfl rfl ?_ | refine rdg_u rfl rfl (by exact rfl) (by exact rfl) (ap_eql (by exact rq_p rfl rfl) (by exact rq_p rfl rfl)) ?_) <;> (first | refine rd_skip rfl rfl ?_ | refine rdg_u rfl rfl (by exact rfl) (by exact rfl) (ap_move (by exact rq_p rfl rfl)) ?_) <;> (first | refine rd_skip2 rfl rfl ?_ | (refine rd_split (t := 106) (by exact rfl) (fun hc => ?_) (fun hc => ?_) <;> (try simp only [decide_eq_true_eq, decide_eq_false_iff_not, Decidable.not_not, Bool.and_eq_true, Bool.or_eq_true, Bool.not_eq_true', Bool.not_eq_false', Bool.or_eq_false_iff, Bool.and_eq_false_iff, Int.not_lt, Int.not_le, reduceCtorEq, ne_eq, Bool.not_true, Bool.not_false, Bool.not_eq_true, Bool.not_eq_false] at hc) <;> (try (exfalso; omega)) <;> (first | refine rd_skip rfl rfl ?_ | refine rdg_u rfl rfl (by exact rfl) (by exact rfl) (ap_field_p (by exact rq_p rfl rfl) (by exact rfl) (by exact rfl)) ?_))) <;> (first | refine rd_skip rfl rfl ?_ | refine rd_skip2 rfl rfl ?_ | refine rdg_u rfl rfl (by exact rfl) (by exact rfl) (ap_load_p (by exact rq_p rfl rfl) (by exact rfl) (by exact rfl) (by exact rfl)) ?_) <;> (first | refine rd_skip rfl rfl ?_ | refine rd_skip2 rfl rfl ?_ | refine rdg_u rfl rfl (by exact rfl) (by exact rfl) (ap_move (by exact rq_p rfl rfl)) ?_) <;> (first | refine rd_skip rfl rfl ?_ | refine rd_skip2 rfl rfl ?_ | refine rdg_u rfl rfl (by exact rfl) (by exact rfl) (ap_idx_n (by exact rq_p rfl rfl) (by exact rq_p rfl rfl) (by omega)) ?_) <;> (first | refine rd_skip rfl rfl ?_ | refine rd_skip2 rfl rfl ?_ | refine rdg_u rfl rfl (by exact rfl) (by exact rfl) (ap_field_i (by exact rq_p rfl rfl) (by exact rfl) (by exact rfl)) ?_) <;> (first | refine rd_skip rfl rfl ?_ | refine rd_skip2 rfl rfl ?_ | refine rdg_u rfl rfl (by exact rfl) (by exact rfl) (ap_load_i (by exact rq_p rfl rfl) (by exact rfl)) ?_) <;> (first | refine rd_skip rfl rfl ?_ | refine rd_skip2 rfl rfl ?_ | refine rdg_u rfl rfl (by exact rfl) (by exact rfl) (ap_len_s (by exact rfl) (by exact rq_p rfl rfl)) ?_) <;> (first | refine rd_skip rfl rfl ?_ | refine rd_skip2 rfl rfl ?_ | refine rdg_u rfl rfl (by exact rfl) (by exact rfl) (ap_eql (by exact rq_p rfl rfl) (by exact rq_p rfl rfl)) ?_) <;> (first | refine rd_skip rfl rfl ?_ | refine rdg_pick_t rfl (by exact rfl) (by exact rfl) (by exact rfl) ?_ | refine rdg_pick_f rfl (by exact rfl) (by exact rfl) (by exact rfl) ?_) <;> (first | refine rd_pick_t (by exact rfl) (by exact rfl) ?_ | refine rd_pick_f (by exact rfl) (by exact rfl) ?_) <;> (refine rd_call rfl rfl (by first | ((repeat' first | exact SubL.nil | refine SubL.cons ?_ ?_ | exact Sub.refl); done) | fail) (by first | (simp [bdL, bdL_append, AV.bd]; done) | fail) (hX _) ?_) <;> (refine rd_u (by exact rfl) (by exact rfl) (ap_cat (by exact rq_p rfl rfl) (by exact rq_p rfl rfl) (by first | omega | (simp only [bsz, List.size_toArray, ByteArray.size_append, List.length_append, List.length_cons, List.length_nil] <;> omega))) ?_) <;> (refine rd_u (by exact rfl) (by exact rfl) (ap_assign (by exact rq_p rfl rfl)) ?_) <;> (refine rd_end (by kernel_rfl) ?_)) | (refine WP.regionC (id := 22) ?_; (refine su (ap_move (by exact rq_p rfl rfl)) ?_); (refine su (ap_add (by exact rq_p rfl rfl) (by exact rq_p rfl rfl) (by exact inr_i64_of (by omega))) ?_); (refine su (ap_assign (by exact rq_p rfl rfl)) ?_); refine asemC_end ?_)))
        · have e1 : tx (kidsT kk false (kids.take (i + 1))) = tx (kidsT kk false (kids.take i)) ++ (⟨#[32, 124, 32]⟩ : ByteArray) ++ tx (encT (exT (nth kids i)) (true)) := by
            rw [tx3, kidsT_take hlt, oneT, if_neg (by omega), show reqP kk (nth kids i) = (true) from by simp [reqP, h3, hc]]; simp [sepT, bl, h3, hc]
          refine ⟨i + 1, ⟨by omega, by omega⟩, ?_⟩
          rw [e1]
          exact ⟨[0], ToR.S rfl (by repeat' (first | exact rt_nil | refine rt_t (by exact rfl) (by exact rfl) ?_ | refine rt_e (by exact rfl) (by exact rfl) ?_)) (by repeat' (first | exact ro_nil | refine ro_p (by exact rfl) (by first | exact rfl | fail) (by first | (simp [bdL, bdL_append, AV.bd]; done) | fail) ?_)) (by decide) (by (rw [hm]; exact rfl)) (by exact rfl) (by (simp [bdT, AV.bd, bdL, bdL_append]; done)) (by repeat' (first | exact True.intro | refine And.intro ?_ ?_ | (simp [bdOq, bdL, bdL_append, AV.bd]; done))) (by (rw [hm]; exact Nat.le_of_ble_eq_true rfl))⟩
        · have e1 : tx (kidsT kk false (kids.take (i + 1))) = tx (kidsT kk false (kids.take i)) ++ (⟨#[32, 124, 32]⟩ : ByteArray) ++ tx (encT (exT (nth kids i)) (decide (((kidsL (nth kids i)).length : Int) = 0))) := by
            rw [tx3, kidsT_take hlt, oneT, if_neg (by omega), show reqP kk (nth kids i) = (decide (((kidsL (nth kids i)).length : Int) = 0)) from by simp [reqP, h3, hc]]; simp [sepT, bl, h3, hc]
          refine ⟨i + 1, ⟨by omega, by omega⟩, ?_⟩
          rw [e1]
          exact ⟨[0], ToR.S rfl (by repeat' (first | exact rt_nil | refine rt_t (by exact rfl) (by exact rfl) ?_ | refine rt_e (by exact rfl) (by exact rfl) ?_)) (by repeat' (first | exact ro_nil | refine ro_p (by exact rfl) (by first | exact rfl | fail) (by first | (simp [bdL, bdL_append, AV.bd]; done) | fail) ?_)) (by decide) (by (rw [hm]; exact rfl)) (by exact rfl) (by (simp [bdT, AV.bd, bdL, bdL_append]; done)) (by repeat' (first | exact True.intro | refine And.intro ?_ ?_ | (simp [bdOq, bdL, bdL_append, AV.bd]; done))) (by (rw [hm]; exact Nat.le_of_ble_eq_true rfl))⟩
        · rename_i hc3
          have e1 : tx (kidsT kk false (kids.take (i + 1))) = tx (kidsT kk false (kids.take i)) ++ (⟨#[32, 124, 32]⟩ : ByteArray) ++ tx (encT (exT (nth kids i)) (false)) := by
            rw [tx3, kidsT_take hlt, oneT, if_neg (by omega), show reqP kk (nth kids i) = (false) from by simp [reqP, h3, hc, hc3]]; simp [sepT, bl, h3, hc, hc3]
          refine ⟨i + 1, ⟨by omega, by omega⟩, ?_⟩
          rw [e1]
          exact ⟨[0], ToR.S rfl (by repeat' (first | exact rt_nil | refine rt_t (by exact rfl) (by exact rfl) ?_ | refine rt_e (by exact rfl) (by exact rfl) ?_)) (by repeat' (first | exact ro_nil | refine ro_p (by exact rfl) (by first | exact rfl | fail) (by first | (simp [bdL, bdL_append, AV.bd]; done) | fail) ?_)) (by decide) (by (rw [hm]; exact rfl)) (by exact rfl) (by (simp [bdT, AV.bd, bdL, bdL_append]; done)) (by repeat' (first | exact True.intro | refine And.intro ?_ ?_ | (simp [bdOq, bdL, bdL_append, AV.bd]; done))) (by (rw [hm]; exact Nat.le_of_ble_eq_true rfl))⟩
        · have e1 : tx (kidsT kk false (kids.take (i + 1))) = tx (kidsT kk false (kids.take i)) ++ tx (encT (exT (nth kids i)) (true)) := by
            rw [tx_app, kidsT_take hlt, oneT, if_pos (by omega), show reqP kk (nth kids i) = (true) from by simp [reqP, h3, hc], List.nil_append]
          refine ⟨i + 1, ⟨by omega, by omega⟩, ?_⟩
          rw [e1]
          exact ⟨[0], ToR.S rfl (by repeat' (first | exact rt_nil | refine rt_t (by exact rfl) (by exact rfl) ?_ | refine rt_e (by exact rfl) (by exact rfl) ?_)) (by repeat' (first | exact ro_nil | refine ro_p (by exact rfl) (by first | exact rfl | fail) (by first | (simp [bdL, bdL_append, AV.bd]; done) | fail) ?_)) (by decide) (by (rw [hm]; exact rfl)) (by exact rfl) (by (simp [bdT, AV.bd, bdL, bdL_append]; done)) (by repeat' (first | exact True.intro | refine And.intro ?_ ?_ | (simp [bdOq, bdL, bdL_append, AV.bd]; done))) (by (rw [hm]; exact Nat.le_of_ble_eq_true rfl))⟩
        · have e1 : tx (kidsT kk false (kids.take (i + 1))) = tx (kidsT kk false (kids.take i)) ++ tx (encT (exT (nth kids i)) (decide (((kidsL (nth kids i)).length : Int) = 0))) := by
            rw [tx_app, kidsT_take hlt, oneT, if_pos (by omega), show reqP kk (nth kids i) = (decide (((kidsL (nth kids i)).length : Int) = 0)) from by simp [reqP, h3, hc], List.nil_append]
          refine ⟨i + 1, ⟨by omega, by omega⟩, ?_⟩
          rw [e1]
          exact ⟨[0], ToR.S rfl (by repeat' (first | exact rt_nil | refine rt_t (by exact rfl) (by exact rfl) ?_ | refine rt_e (by exact rfl) (by exact rfl) ?_)) (by repeat' (first | exact ro_nil | refine ro_p (by exact rfl) (by first | exact rfl | fail) (by first | (simp [bdL, bdL_append, AV.bd]; done) | fail) ?_)) (by decide) (by (rw [hm]; exact rfl)) (by exact rfl) (by (simp [bdT, AV.bd, bdL, bdL_append]; done)) (by repeat' (first | exact True.intro | refine And.intro ?_ ?_ | (simp [bdOq, bdL, bdL_append, AV.bd]; done))) (by (rw [hm]; exact Nat.le_of_ble_eq_true rfl))⟩
        · rename_i hc3
          have e1 : tx (kidsT kk false (kids.take (i + 1))) = tx (kidsT kk false (kids.take i)) ++ tx (encT (exT (nth kids i)) (false)) := by
            rw [tx_app, kidsT_take hlt, oneT, if_pos (by omega), show reqP kk (nth kids i) = (false) from by simp [reqP, h3, hc, hc3], List.nil_append]
          refine ⟨i + 1, ⟨by omega, by omega⟩, ?_⟩
          rw [e1]
          exact ⟨[0], ToR.S rfl (by repeat' (first | exact rt_nil | refine rt_t (by exact rfl) (by exact rfl) ?_ | refine rt_e (by exact rfl) (by exact rfl) ?_)) (by repeat' (first | exact ro_nil | refine ro_p (by exact rfl) (by first | exact rfl | fail) (by first | (simp [bdL, bdL_append, AV.bd]; done) | fail) ?_)) (by decide) (by (rw [hm]; exact rfl)) (by exact rfl) (by (simp [bdT, AV.bd, bdL, bdL_append]; done)) (by repeat' (first | exact True.intro | refine And.intro ?_ ?_ | (simp [bdOq, bdL, bdL_append, AV.bd]; done))) (by (rw [hm]; exact Nat.le_of_ble_eq_true rfl))⟩
      · obtain rfl : i = kids.length := by omega
        rw [List.take_of_length_le (Nat.le_refl _)]
        (repeat' (first | refine WP.seq ?_ | refine go_n ?_ | refine WP.exit ?_ | refine WP.ret ?_ | refine go_x ?_ | refine bl_n ?_ | refine bl_x ?_ | refine bo_r ?_ | (refine wp_cond (by exact rfl) (fun hc => ?_) (fun hc => ?_) <;> (try simp only [decide_eq_true_eq, decide_eq_false_iff_not, Decidable.not_not, Bool.and_eq_true, Bool.or_eq_true, Bool.not_eq_true', Bool.not_eq_false', Bool.or_eq_false_iff, Bool.and_eq_false_iff, Int.not_lt, Int.not_le, reduceCtorEq, ne_eq, Bool.not_true, Bool.not_false, Bool.not_eq_true, Bool.not_eq_false] at hc) <;> (try (exfalso; omega))) | (refine WP.regionC (id := 21) ?_; (refine su (ap_move (by exact rq_p rfl rfl)) ?_); (refine su (ap_field_p (by exact rq_p rfl rfl) (by exact rfl) (by exact rfl)) ?_); (refine su (ap_load_p (by exact rq_p rfl rfl) (by exact rfl) (by exact rfl) (by exact rfl)) ?_); (refine su (ap_len_m (by exact rfl) (by exact rq_p rfl rfl)) ?_); (refine su (ap_lss (by exact rq_p rfl rfl) (by exact rq_p rfl rfl)) ?_); refine asemC_end ?_) | (refine WP.regionC (id := 26) ?_; (refine su (ap_move (by exact rq_p rfl rfl)) ?_); (refine su (ap_assign (by exact rq_p rfl rfl)) ?_); refine asemC_end ?_) | exact ret_eq (by exact rfl) (by exact rfl) rfl))
    obtain ⟨x, rfl⟩ : ∃ x, kids = [x] := by
      have : kids.length = 1 := by
        simp only [okK, Bool.or_eq_true, Bool.and_eq_true, decide_eq_true_eq] at hk
        omega
      exact List.length_eq_one_iff.1 this
    have e0 : kidsT kk false [x] = encT (exT x) (!decide (x.kind = 1)) := by simp [kidsT, reqP, h2, h3]
    rw [e0] at hb ⊢
    have hen := encT_len (exT x) (!decide (x.kind = 1))
    have hx : ∀ r, Fn Tryd.prog 54 [exprA x, boolA r] (strA (tx (encT (exT x) r))) := hK 0 (by simp) (by show (exT x).length ≤ _; omega)
    have hs1 : (tx (encT (exT x) (!decide (x.kind = 1)))).size = (encT (exT x) (!decide (x.kind = 1))).length := tx_size _
    have hs2 : (tx (encT (exT x) (!decide ((nth [x] 0).kind = 1)))).size = (encT (exT x) (!decide (x.kind = 1))).length := hs1
    by_cases h4 : kk = 4
    · have e1 : tx (encT (exT x) (!decide (x.kind = 1)) ++ tailT kk nm) = tx (encT (exT x) (!decide (x.kind = 1))) ++ ⟨#[63]⟩ := by
        rw [show tailT kk nm = [63] by simp [tailT, h4]]; exact (tx_app _ _).symm
      rw [e1]
      refine Fn.intro (by exact rfl) (by kernel_rfl) Tryd.func64 rfl rfl Tryd.ntmps64 (by exact Nat.le_of_ble_eq_true rfl) ?_; intro Γ hm
      (repeat' (first | refine WP.seq ?_ | refine WP.block ?_ | refine go_n ?_ | refine WP.ret ?_ | refine bl_n ?_ | refine bo_r ?_ | (refine wp_cond (by exact rfl) (fun hc => ?_) (fun hc => ?_) <;> (try simp only [decide_eq_true_eq, decide_eq_false_iff_not, Decidable.not_not, Bool.and_eq_true, Bool.or_eq_true, Bool.not_eq_true', Bool.not_eq_false', Bool.or_eq_false_iff, Bool.and_eq_false_iff, Int.not_lt, Int.not_le, reduceCtorEq, ne_eq, Bool.not_true, Bool.not_false, Bool.not_eq_true, Bool.not_eq_false] at hc) <;> (try (exfalso; omega))) | (refine WP.regionC (id := 0) ?_; (refine se_box (by exact rfl) (by exact ⟨rfl, rfl⟩) ?_); (refine su (ap_assign (by exact rq_p rfl rfl)) ?_); refine asemC_end ?_) | (refine WP.regionC (id := 1) ?_; (refine su (ap_assign (by exact rq_p rfl rfl)) ?_); refine asemC_end ?_) | (refine WP.regionC (id := 2) ?_; (refine su (ap_field_p (by exact rq_p rfl rfl) (by exact rfl) (by exact rfl)) ?_); (refine su (ap_load_p (by exact rq_p rfl rfl) (by exact rfl) (by exact rfl) (by exact rfl)) ?_); refine asemC_end ?_) | (refine WP.regionC (id := 10) ?_; (refine su (ap_eql (by exact rq_p rfl rfl) (by exact rq_p rfl rfl)) ?_); (refine su (ap_assign (by exact rq_p rfl rfl)) ?_); refine asemC_end ?_) | (refine WP.regionC (id := 12) ?_; (refine su (ap_eql (by exact rq_p rfl rfl) (by exact rq_p rfl rfl)) ?_); (refine su (ap_assign (by exact rq_p rfl rfl)) ?_); refine asemC_end ?_) | (refine WP.regionC (id := 19) ?_; (refine su (ap_eql (by exact rq_p rfl rfl) (by exact rq_p rfl rfl)) ?_); (refine su (ap_assign (by exact rq_p rfl rfl)) ?_); refine asemC_end ?_) | (refine wp_draw (id := 3) 12 mixed (by kernel_rfl) (by kernel_rfl) rfl ?_ <;> (refine rd_u (by exact rfl) (by exact rfl) (ap_field_p (by exact rq_p rfl rfl) (by exact rfl) (by exact rfl)) ?_) <;> (refine rd_u (by exact rfl) (by exact rfl) (ap_load_p (by exact rq_p rfl rfl) (by exact rfl) (by exact rfl) (by exact rfl)) ?_) <;> (refine rd_u (by exact rfl) (by exact rfl) (ap_idx_n (by exact rq_p rfl rfl) (by exact rq_p rfl rfl) (by (simp only [List.length_replicate, List.length_set, List.length_append, List.length_map, List.length_cons, List.length_nil, List.length_take, List.length_drop] <;> omega))) ?_) <;> (refine rd_u (by exact rfl) (by exact rfl) (ap_load_w (by exact rq_p rfl rfl) (by exact rfl)) ?_) <;> (refine rd_u (by exact rfl) (by exact rfl) (ap_field_p (by exact rq_p rfl rfl) (by exact rfl) (by exact rfl)) ?_) <;> (refine rd_u (by exact rfl) (by exact rfl) (ap_load_p (by exact rq_p rfl rfl) (by exact rfl) (by exact rfl) (by exact rfl)) ?_) <;> (refine rd_u (by exact rfl) (by exact rfl) (ap_idx_n (by exact rq_p rfl rfl) (by exact rq_p rfl rfl) (by (simp only [List.length_replicate, List.length_set, List.length_append, List.length_map, List.length_cons, List.length_nil, List.length_take, List.length_drop] <;> omega))) ?_) <;> (refine rd_u (by exact rfl) (by exact rfl) (ap_field_i (by exact rq_p rfl rfl) (by exact rfl) (by exact rfl)) ?_) <;> (refine rd_u (by exact rfl) (by exact rfl) (ap_load_i (by exact rq_p rfl rfl) (by exact rfl)) ?_) <;> (refine rd_u (by exact rfl) (by exact rfl) (ap_neq (by exact rq_p rfl rfl) (by exact rq_p rfl rfl)) ?_) <;> (refine rd_call rfl rfl (by first | ((repeat' first | exact SubL.nil | refine SubL.cons ?_ ?_ | exact Sub.refl); done) | fail) (by first | (simp [bdL, bdL_append, AV.bd]; done) | fail) (hx _) ?_) <;> (refine rd_u (by exact rfl) (by exact rfl) (ap_assign (by exact rq_p rfl rfl)) ?_) <;> (refine rd_end (by kernel_rfl) ?_)) | (refine WP.regionC (id := 4) ?_; (refine su (ap_field_p (by exact rq_p rfl rfl) (by exact rfl) (by exact rfl)) ?_); (refine su (ap_load_p (by exact rq_p rfl rfl) (by exact rfl) (by exact rfl) (by exact rfl)) ?_); refine asemC_end ?_) | (refine WP.regionC (id := 6) ?_; (refine su (ap_eql (by exact rq_p rfl rfl) (by exact rq_p rfl rfl)) ?_); (refine su (ap_assign (by exact rq_p rfl rfl)) ?_); refine asemC_end ?_) | (refine WP.regionC (id := 7) ?_; (refine su (ap_move (by exact rq_p rfl rfl)) ?_); (refine su (ap_cat (by exact rq_p rfl rfl) (by exact rq_p rfl rfl) (by (simp only [bsz, List.size_toArray, ByteArray.size_append, List.length_append, List.length_cons, List.length_nil] <;> omega))) ?_); (refine su (ap_assign (by exact rq_p rfl rfl)) ?_); refine asemC_end ?_) | (refine WP.regionC (id := 26) ?_; (refine su (ap_move (by exact rq_p rfl rfl)) ?_); (refine su (ap_assign (by exact rq_p rfl rfl)) ?_); refine asemC_end ?_) | exact ret_eq (by exact rfl) (by exact rfl) rfl))
    by_cases h5 : kk = 5
    · have e1 : tx (encT (exT x) (!decide (x.kind = 1)) ++ tailT kk nm) = tx (encT (exT x) (!decide (x.kind = 1))) ++ ⟨#[42]⟩ := by
        rw [show tailT kk nm = [42] by simp [tailT, h5]]; exact (tx_app _ _).symm
      rw [e1]
      refine Fn.intro (by exact rfl) (by kernel_rfl) Tryd.func64 rfl rfl Tryd.ntmps64 (by exact Nat.le_of_ble_eq_true rfl) ?_; intro Γ hm
      (repeat' (first | refine WP.seq ?_ | refine WP.block ?_ | refine go_n ?_ | refine WP.ret ?_ | refine bl_n ?_ | refine bo_r ?_ | (refine wp_cond (by exact rfl) (fun hc => ?_) (fun hc => ?_) <;> (try simp only [decide_eq_true_eq, decide_eq_false_iff_not, Decidable.not_not, Bool.and_eq_true, Bool.or_eq_true, Bool.not_eq_true', Bool.not_eq_false', Bool.or_eq_false_iff, Bool.and_eq_false_iff, Int.not_lt, Int.not_le, reduceCtorEq, ne_eq, Bool.not_true, Bool.not_false, Bool.not_eq_true, Bool.not_eq_false] at hc) <;> (try (exfalso; omega))) | (refine WP.regionC (id := 0) ?_; (refine se_box (by exact rfl) (by exact ⟨rfl, rfl⟩) ?_); (refine su (ap_assign (by exact rq_p rfl rfl)) ?_); refine asemC_end ?_) | (refine WP.regionC (id := 1) ?_; (refine su (ap_assign (by exact rq_p rfl rfl)) ?_); refine asemC_end ?_) | (refine WP.regionC (id := 2) ?_; (refine su (ap_field_p (by exact rq_p rfl rfl) (by exact rfl) (by exact rfl)) ?_); (refine su (ap_load_p (by exact rq_p rfl rfl) (by exact rfl) (by exact rfl) (by exact rfl)) ?_); refine asemC_end ?_) | (refine WP.regionC (id := 10) ?_; (refine su (ap_eql (by exact rq_p rfl rfl) (by exact rq_p rfl rfl)) ?_); (refine su (ap_assign (by exact rq_p rfl rfl)) ?_); refine asemC_end ?_) | (refine WP.regionC (id := 12) ?_; (refine su (ap_eql (by exact rq_p rfl rfl) (by exact rq_p rfl rfl)) ?_); (refine su (ap_assign (by exact rq_p rfl rfl)) ?_); refine asemC_end ?_) | (refine WP.regionC (id := 19) ?_; (refine su (ap_eql (by exact rq_p rfl rfl) (by exact rq_p rfl rfl)) ?_); (refine su (ap_assign (by exact rq_p rfl rfl)) ?_); refine asemC_end ?_) | (refine wp_draw (id := 3) 12 mixed (by kernel_rfl) (by kernel_rfl) rfl ?_ <;> (refine rd_u (by exact rfl) (by exact rfl) (ap_field_p (by exact rq_p rfl rfl) (by exact rfl) (by exact rfl)) ?_) <;> (refine rd_u (by exact rfl) (by exact rfl) (ap_load_p (by exact rq_p rfl rfl) (by exact rfl) (by exact rfl) (by exact rfl)) ?_) <;> (refine rd_u (by exact rfl) (by exact rfl) (ap_idx_n (by exact rq_p rfl rfl) (by exact rq_p rfl rfl) (by (simp only [List.length_replicate, List.length_set, List.length_append, List.length_map, List.length_cons, List.length_nil, List.length_take, List.length_drop] <;> omega))) ?_) <;> (refine rd_u (by exact rfl) (by exact rfl) (ap_load_w (by exact rq_p rfl rfl) (by exact rfl)) ?_) <;> (refine rd_u (by exact rfl) (by exact rfl) (ap_field_p (by exact rq_p rfl rfl) (by exact rfl) (by exact rfl)) ?_) <;> (refine rd_u (by exact rfl) (by exact rfl) (ap_load_p (by exact rq_p rfl rfl) (by exact rfl) (by exact rfl) (by exact rfl)) ?_) <;> (refine rd_u (by exact rfl) (by exact rfl) (ap_idx_n (by exact rq_p rfl rfl) (by exact rq_p rfl rfl) (by (simp only [List.length_replicate, List.length_set, List.length_append, List.length_map, List.length_cons, List.length_nil, List.length_take, List.length_drop] <;> omega))) ?_) <;> (refine rd_u (by exact rfl) (by exact rfl) (ap_field_i (by exact rq_p rfl rfl) (by exact rfl) (by exact rfl)) ?_) <;> (refine rd_u (by exact rfl) (by exact rfl) (ap_load_i (by exact rq_p rfl rfl) (by exact rfl)) ?_) <;> (refine rd_u (by exact rfl) (by exact rfl) (ap_neq (by exact rq_p rfl rfl) (by exact rq_p rfl rfl)) ?_) <;> (refine rd_call rfl rfl (by first | ((repeat' first | exact SubL.nil | refine SubL.cons ?_ ?_ | exact Sub.refl); done) | fail) (by first | (simp [bdL, bdL_append, AV.bd]; done) | fail) (hx _) ?_) <;> (refine rd_u (by exact rfl) (by exact rfl) (ap_assign (by exact rq_p rfl rfl)) ?_) <;> (refine rd_end (by kernel_rfl) ?_)) | (refine WP.regionC (id := 4) ?_; (refine su (ap_field_p (by exact rq_p rfl rfl) (by exact rfl) (by exact rfl)) ?_); (refine su (ap_load_p (by exact rq_p rfl rfl) (by exact rfl) (by exact rfl) (by exact rfl)) ?_); refine asemC_end ?_) | (refine WP.regionC (id := 6) ?_; (refine su (ap_eql (by exact rq_p rfl rfl) (by exact rq_p rfl rfl)) ?_); (refine su (ap_assign (by exact rq_p rfl rfl)) ?_); refine asemC_end ?_) | (refine WP.regionC (id := 8) ?_; (refine su (ap_eql (by exact rq_p rfl rfl) (by exact rq_p rfl rfl)) ?_); (refine su (ap_assign (by exact rq_p rfl rfl)) ?_); refine asemC_end ?_) | (refine WP.regionC (id := 9) ?_; (refine su (ap_move (by exact rq_p rfl rfl)) ?_); (refine su (ap_cat (by exact rq_p rfl rfl) (by exact rq_p rfl rfl) (by (simp only [bsz, List.size_toArray, ByteArray.size_append, List.length_append, List.length_cons, List.length_nil] <;> omega))) ?_); (refine su (ap_assign (by exact rq_p rfl rfl)) ?_); refine asemC_end ?_) | (refine WP.regionC (id := 26) ?_; (refine su (ap_move (by exact rq_p rfl rfl)) ?_); (refine su (ap_assign (by exact rq_p rfl rfl)) ?_); refine asemC_end ?_) | exact ret_eq (by exact rfl) (by exact rfl) rfl))
    have h6 : kk = 6 := by
      simp only [okK, Bool.or_eq_true, Bool.and_eq_true, decide_eq_true_eq] at hk
      omega
    have e1 : tx (encT (exT x) (!decide (x.kind = 1)) ++ tailT kk nm) = tx (encT (exT x) (!decide (x.kind = 1))) ++ ⟨#[43]⟩ := by
      rw [show tailT kk nm = [43] by simp [tailT, h6]]; exact (tx_app _ _).symm
    rw [e1]
    refine Fn.intro (by exact rfl) (by kernel_rfl) Tryd.func64 rfl rfl Tryd.ntmps64 (by exact Nat.le_of_ble_eq_true rfl) ?_; intro Γ hm
    (repeat' (first | refine WP.seq ?_ | refine WP.block ?_ | refine go_n ?_ | refine WP.ret ?_ | refine bl_n ?_ | refine bo_r ?_ | (refine wp_cond (by exact rfl) (fun hc => ?_) (fun hc => ?_) <;> (try simp only [decide_eq_true_eq, decide_eq_false_iff_not, Decidable.not_not, Bool.and_eq_true, Bool.or_eq_true, Bool.not_eq_true', Bool.not_eq_false', Bool.or_eq_false_iff, Bool.and_eq_false_iff, Int.not_lt, Int.not_le, reduceCtorEq, ne_eq, Bool.not_true, Bool.not_false, Bool.not_eq_true, Bool.not_eq_false] at hc) <;> (try (exfalso; omega))) | (refine WP.regionC (id := 0) ?_; (refine se_box (by exact rfl) (by exact ⟨rfl, rfl⟩) ?_); (refine su (ap_assign (by exact rq_p rfl rfl)) ?_); refine asemC_end ?_) | (refine WP.regionC (id := 1) ?_; (refine su (ap_assign (by exact rq_p rfl rfl)) ?_); refine asemC_end ?_) | (refine WP.regionC (id := 2) ?_; (refine su (ap_field_p (by exact rq_p rfl rfl) (by exact rfl) (by exact rfl)) ?_); (refine su (ap_load_p (by exact rq_p rfl rfl) (by exact rfl) (by exact rfl) (by exact rfl)) ?_); refine asemC_end ?_) | (refine WP.regionC (id := 10) ?_; (refine su (ap_eql (by exact rq_p rfl rfl) (by exact rq_p rfl rfl)) ?_); (refine su (ap_assign (by exact rq_p rfl rfl)) ?_); refine asemC_end ?_) | (refine WP.regionC (id := 12) ?_; (refine su (ap_eql (by exact rq_p rfl rfl) (by exact rq_p rfl rfl)) ?_); (refine su (ap_assign (by exact rq_p rfl rfl)) ?_); refine asemC_end ?_) | (refine WP.regionC (id := 19) ?_; (refine su (ap_eql (by exact rq_p rfl rfl) (by exact rq_p rfl rfl)) ?_); (refine su (ap_assign (by exact rq_p rfl rfl)) ?_); refine asemC_end ?_) | (refine wp_draw (id := 3) 12 mixed (by kernel_rfl) (by kernel_rfl) rfl ?_ <;> (refine rd_u (by exact rfl) (by exact rfl) (ap_field_p (by exact rq_p rfl rfl) (by exact rfl) (by exact rfl)) ?_) <;> (refine rd_u (by exact rfl) (by exact rfl) (ap_load_p (by exact rq_p rfl rfl) (by exact rfl) (by exact rfl) (by exact rfl)) ?_) <;> (refine rd_u (by exact rfl) (by exact rfl) (ap_idx_n (by exact rq_p rfl rfl) (by exact rq_p rfl rfl) (by (simp only [List.length_replicate, List.length_set, List.length_append, List.length_map, List.length_cons, List.length_nil, List.length_take, List.length_drop] <;> omega))) ?_) <;> (refine rd_u (by exact rfl) (by exact rfl) (ap_load_w (by exact rq_p rfl rfl) (by exact rfl)) ?_) <;> (refine rd_u (by exact rfl) (by exact rfl) (ap_field_p (by exact rq_p rfl rfl) (by exact rfl) (by exact rfl)) ?_) <;> (refine rd_u (by exact rfl) (by exact rfl) (ap_load_p (by exact rq_p rfl rfl) (by exact rfl) (by exact rfl) (by exact rfl)) ?_) <;> (refine rd_u (by exact rfl) (by exact rfl) (ap_idx_n (by exact rq_p rfl rfl) (by exact rq_p rfl rfl) (by (simp only [List.length_replicate, List.length_set, List.length_append, List.length_map, List.length_cons, List.length_nil, List.length_take, List.length_drop] <;> omega))) ?_) <;> (refine rd_u (by exact rfl) (by exact rfl) (ap_field_i (by exact rq_p rfl rfl) (by exact rfl) (by exact rfl)) ?_) <;> (refine rd_u (by exact rfl) (by exact rfl) (ap_load_i (by exact rq_p rfl rfl) (by exact rfl)) ?_) <;> (refine rd_u (by exact rfl) (by exact rfl) (ap_neq (by exact rq_p rfl rfl) (by exact rq_p rfl rfl)) ?_) <;> (refine rd_call rfl rfl (by first | ((repeat' first | exact SubL.nil | refine SubL.cons ?_ ?_ | exact Sub.refl); done) | fail) (by first | (simp [bdL, bdL_append, AV.bd]; done) | fail) (hx _) ?_) <;> (refine rd_u (by exact rfl) (by exact rfl) (ap_assign (by exact rq_p rfl rfl)) ?_) <;> (refine rd_end (by kernel_rfl) ?_)) | (refine WP.regionC (id := 4) ?_; (refine su (ap_field_p (by exact rq_p rfl rfl) (by exact rfl) (by exact rfl)) ?_); (refine su (ap_load_p (by exact rq_p rfl rfl) (by exact rfl) (by exact rfl) (by exact rfl)) ?_); refine asemC_end ?_) | (refine WP.regionC (id := 6) ?_; (refine su (ap_eql (by exact rq_p rfl rfl) (by exact rq_p rfl rfl)) ?_); (refine su (ap_assign (by exact rq_p rfl rfl)) ?_); refine asemC_end ?_) | (refine WP.regionC (id := 8) ?_; (refine su (ap_eql (by exact rq_p rfl rfl) (by exact rq_p rfl rfl)) ?_); (refine su (ap_assign (by exact rq_p rfl rfl)) ?_); refine asemC_end ?_) | (refine WP.regionC (id := 5) ?_; (refine su (ap_move (by exact rq_p rfl rfl)) ?_); (refine su (ap_cat (by exact rq_p rfl rfl) (by exact rq_p rfl rfl) (by (simp only [bsz, List.size_toArray, ByteArray.size_append, List.length_append, List.length_cons, List.length_nil] <;> omega))) ?_); (refine su (ap_assign (by exact rq_p rfl rfl)) ?_); refine asemC_end ?_) | (refine WP.regionC (id := 26) ?_; (refine su (ap_move (by exact rq_p rfl rfl)) ?_); (refine su (ap_assign (by exact rq_p rfl rfl)) ?_); refine asemC_end ?_) | exact ret_eq (by exact rfl) (by exact rfl) rfl))
end Go.Lg

/- the reference's alternative, Format -/
namespace Go.Lg
open Go.Proofs
set_option linter.unusedSimpArgs false
set_option linter.unusedVariables false
attribute [local irreducible] Ap Rq asemC WP RunD Ret Gq thenA inBlockA bodyQ noGotoA RqL RqP OpP
set_option maxHeartbeats 8000000
set_option maxRecDepth 20000
attribute [local simp] AV.cells altA

theorem tx_data (l : List UInt8) : (tx l).data.toList = l := rfl
theorem decimalI_fn (p : Int) (h0 : 0 ≤ p) (h1 : p ≤ 1000) : Fn Tryd.prog 55 [intA p] (strA (tx (Lib.itoa p))) := by
  obtain ⟨n, rfl⟩ := Int.eq_ofNat_of_zero_le h0
  exact decimal_fn n (by omega)
theorem ralt_fn (a : GAl) (hv : altOk a = true) (hb : (altT a).length ≤ 1000000000) : Fn Tryd.prog 41 [altA a] (strA (tx (altT a))) := by
  obtain ⟨⟨hp0, hp1⟩, hE⟩ := altOk_iff.1 hv
  have hil := itoa_len hp0 hp1
  have hD := decimalI_fn a.price hp0 hp1
  have hds : (tx (Lib.itoa a.price)).size = (Lib.itoa a.price).length := tx_size _
  rw [altT, List.length_append] at hb
  have hkl : (kidsL a.body).length = a.body.kids.length := kidsL_len _
  by_cases hbod : ¬ a.body.kind = 2 ∨ 0 < (a.body.kids.length : Int)
  · have e1 : bodT a.body = [32] ++ encT (exT a.body) (decide (a.body.kind = 3)) := by rw [bodT, if_pos hbod]
    have hen := encT_len (exT a.body) (decide (a.body.kind = 3))
    rw [e1, List.length_append] at hb
    have hK := kid_fn a.body (decide (a.body.kind = 3)) (fexpr_fn a.body 30 hE (by omega)) (by omega)
    have hks : (tx (encT (exT a.body) (decide (a.body.kind = 3)))).size = (encT (exT a.body) (decide (a.body.kind = 3))).length := tx_size _
    by_cases hpz : a.price = 0
    · have e2 : tx (altT a) = (⟨#[32]⟩ : ByteArray) ++ tx (encT (exT a.body) (decide (a.body.kind = 3))) := by
        rw [altT, prT, if_pos hpz, List.append_nil, e1]; exact (tx_app _ _).symm
      rw [e2]
      unfold altA
      refine Fn.intro (by exact rfl) (by kernel_rfl) Tryd.func41 rfl rfl Tryd.ntmps41 (by exact Nat.le_of_ble_eq_true rfl) ?_; intro Γ hm
      (repeat' (first | refine WP.seq ?_ | refine go_n ?_ | refine WP.skip ?_ | refine WP.ret ?_ | refine bo_r ?_ | (refine wp_cond (by exact rfl) (fun hc => ?_) (fun hc => ?_) <;> (try simp only [decide_eq_true_eq, decide_eq_false_iff_not, Decidable.not_not, Bool.and_eq_true, Bool.or_eq_true, Bool.not_eq_true', Bool.not_eq_false', Bool.or_eq_false_iff, Bool.and_eq_false_iff, Int.not_lt, Int.not_le, reduceCtorEq, ne_eq, Bool.not_true, Bool.not_false, Bool.not_eq_true, Bool.not_eq_false] at hc) <;> (try (exfalso; omega))) | (refine WP.regionC (id := 0) ?_; (refine se_box (by exact rfl) (by exact ⟨rfl, rfl⟩) ?_); (refine su (ap_assign (by exact rq_p rfl rfl)) ?_); refine asemC_end ?_) | (refine WP.regionC (id := 1) ?_; (refine su (ap_assign (by exact rq_p rfl rfl)) ?_); refine asemC_end ?_) | (refine WP.regionC (id := 2) ?_; (refine su (ap_field_p (by exact rq_p rfl rfl) (by exact rfl) (by exact rfl)) ?_); (refine su (ap_field_p (by exact rq_p rfl rfl) (by exact rfl) (by exact rfl)) ?_); (refine su (ap_load_p (by exact rq_p rfl rfl) (by exact rfl) (by exact rfl) (by exact rfl)) ?_); (refine su (ap_neq (by exact rq_p rfl rfl) (by exact rq_p rfl rfl)) ?_); (refine su (ap_move (by exact rq_p rfl rfl)) ?_); (refine sg (by exact gq_vf rfl rfl) (fun he => ap_field_p (by exact rq_p rfl rfl) (by exact rfl) (by exact rfl)) ?_); (refine sg (by exact gq_vf rfl rfl) (fun he => ap_field_p (by exact rq_c rfl rfl) (by exact rfl) (by exact rfl)) ?_); (refine sg (by exact gq_vf rfl rfl) (fun he => ap_load_p (by exact rq_c rfl rfl) (by exact rfl) (by exact rfl) (by exact rfl)) ?_); (refine sg (by exact gq_vf rfl rfl) (fun he => ap_len_s (by exact rfl) (by exact rq_c rfl rfl)) ?_); (refine sg (by exact gq_vf rfl rfl) (fun he => ap_gtr (by exact rq_c rfl rfl) (by exact rq_p rfl rfl)) ?_); (refine su (ap_or (by exact rq_p rfl rfl) (by exact rq_c rfl rfl)) ?_); refine asemC_end ?_) | (refine WP.regionC (id := 3) ?_; (refine su (ap_field_p (by exact rq_p rfl rfl) (by exact rfl) (by exact rfl)) ?_); (refine su (ap_load_p (by exact rq_p rfl rfl) (by exact rfl) (by exact rfl) (by exact rfl)) ?_); (refine su (ap_field_p (by exact rq_p rfl rfl) (by exact rfl) (by exact rfl)) ?_); (refine su (ap_field_p (by exact rq_p rfl rfl) (by exact rfl) (by exact rfl)) ?_); (refine su (ap_load_p (by exact rq_p rfl rfl) (by exact rfl) (by exact rfl) (by exact rfl)) ?_); (refine su (ap_eql (by exact rq_p rfl rfl) (by exact rq_p rfl rfl)) ?_); (refine sc_p rfl rfl (by first | ((repeat' first | exact SubL.nil | refine SubL.cons ?_ ?_ | exact Sub.refl); done) | fail) (by first | (simp [bdL, bdL_append, AV.bd]; done) | fail) (hK) ?_); (refine su (ap_cat (by exact rq_p rfl rfl) (by exact rq_p rfl rfl) (by (simp only [bsz, List.size_toArray, ByteArray.size_append, List.length_append, List.length_cons, List.length_nil] <;> omega))) ?_); (refine su (ap_assign (by exact rq_p rfl rfl)) ?_); refine asemC_end ?_) | (refine WP.regionC (id := 4) ?_; (refine su (ap_field_p (by exact rq_p rfl rfl) (by exact rfl) (by exact rfl)) ?_); (refine su (ap_load_p (by exact rq_p rfl rfl) (by exact rfl) (by exact rfl) (by exact rfl)) ?_); (refine su (ap_neq (by exact rq_p rfl rfl) (by exact rq_p rfl rfl)) ?_); refine asemC_end ?_) | (refine WP.regionC (id := 6) ?_; (refine su (ap_move (by exact rq_p rfl rfl)) ?_); (refine su (ap_assign (by exact rq_p rfl rfl)) ?_); refine asemC_end ?_) | exact ret_eq (by exact rfl) (by exact rfl) rfl))
    · have e2 : tx (altT a) = (⟨#[32]⟩ : ByteArray) ++ tx (encT (exT a.body) (decide (a.body.kind = 3))) ++ ⟨#[32, 112, 114, 105, 99, 101, 32]⟩ ++ tx (Lib.itoa a.price) := by
        rw [altT, prT, if_neg hpz, e1]; apply ba_ext; simp [bl_app, wPrice, bl, tx_data]
      rw [e2]
      unfold altA
      refine Fn.intro (by exact rfl) (by kernel_rfl) Tryd.func41 rfl rfl Tryd.ntmps41 (by exact Nat.le_of_ble_eq_true rfl) ?_; intro Γ hm
      (repeat' (first | refine WP.seq ?_ | refine go_n ?_ | refine WP.ret ?_ | refine bo_r ?_ | (refine wp_cond (by exact rfl) (fun hc => ?_) (fun hc => ?_) <;> (try simp only [decide_eq_true_eq, decide_eq_false_iff_not, Decidable.not_not, Bool.and_eq_true, Bool.or_eq_true, Bool.not_eq_true', Bool.not_eq_false', Bool.or_eq_false_iff, Bool.and_eq_false_iff, Int.not_lt, Int.not_le, reduceCtorEq, ne_eq, Bool.not_true, Bool.not_false, Bool.not_eq_true, Bool.not_eq_false] at hc) <;> (try (exfalso; omega))) | (refine WP.regionC (id := 0) ?_; (refine se_box (by exact rfl) (by exact ⟨rfl, rfl⟩) ?_); (refine su (ap_assign (by exact rq_p rfl rfl)) ?_); refine asemC_end ?_) | (refine WP.regionC (id := 1) ?_; (refine su (ap_assign (by exact rq_p rfl rfl)) ?_); refine asemC_end ?_) | (refine WP.regionC (id := 2) ?_; (refine su (ap_field_p (by exact rq_p rfl rfl) (by exact rfl) (by exact rfl)) ?_); (refine su (ap_field_p (by exact rq_p rfl rfl) (by exact rfl) (by exact rfl)) ?_); (refine su (ap_load_p (by exact rq_p rfl rfl) (by exact rfl) (by exact rfl) (by exact rfl)) ?_); (refine su (ap_neq (by exact rq_p rfl rfl) (by exact rq_p rfl rfl)) ?_); (refine su (ap_move (by exact rq_p rfl rfl)) ?_); (refine sg (by exact gq_vf rfl rfl) (fun he => ap_field_p (by exact rq_p rfl rfl) (by exact rfl) (by exact rfl)) ?_); (refine sg (by exact gq_vf rfl rfl) (fun he => ap_field_p (by exact rq_c rfl rfl) (by exact rfl) (by exact rfl)) ?_); (refine sg (by exact gq_vf rfl rfl) (fun he => ap_load_p (by exact rq_c rfl rfl) (by exact rfl) (by exact rfl) (by exact rfl)) ?_); (refine sg (by exact gq_vf rfl rfl) (fun he => ap_len_s (by exact rfl) (by exact rq_c rfl rfl)) ?_); (refine sg (by exact gq_vf rfl rfl) (fun he => ap_gtr (by exact rq_c rfl rfl) (by exact rq_p rfl rfl)) ?_); (refine su (ap_or (by exact rq_p rfl rfl) (by exact rq_c rfl rfl)) ?_); refine asemC_end ?_) | (refine WP.regionC (id := 3) ?_; (refine su (ap_field_p (by exact rq_p rfl rfl) (by exact rfl) (by exact rfl)) ?_); (refine su (ap_load_p (by exact rq_p rfl rfl) (by exact rfl) (by exact rfl) (by exact rfl)) ?_); (refine su (ap_field_p (by exact rq_p rfl rfl) (by exact rfl) (by exact rfl)) ?_); (refine su (ap_field_p (by exact rq_p rfl rfl) (by exact rfl) (by exact rfl)) ?_); (refine su (ap_load_p (by exact rq_p rfl rfl) (by exact rfl) (by exact rfl) (by exact rfl)) ?_); (refine su (ap_eql (by exact rq_p rfl rfl) (by exact rq_p rfl rfl)) ?_); (refine sc_p rfl rfl (by first | ((repeat' first | exact SubL.nil | refine SubL.cons ?_ ?_ | exact Sub.refl); done) | fail) (by first | (simp [bdL, bdL_append, AV.bd]; done) | fail) (hK) ?_); (refine su (ap_cat (by exact rq_p rfl rfl) (by exact rq_p rfl rfl) (by (simp only [bsz, List.size_toArray, ByteArray.size_append, List.length_append, List.length_cons, List.length_nil] <;> omega))) ?_); (refine su (ap_assign (by exact rq_p rfl rfl)) ?_); refine asemC_end ?_) | (refine WP.regionC (id := 4) ?_; (refine su (ap_field_p (by exact rq_p rfl rfl) (by exact rfl) (by exact rfl)) ?_); (refine su (ap_load_p (by exact rq_p rfl rfl) (by exact rfl) (by exact rfl) (by exact rfl)) ?_); (refine su (ap_neq (by exact rq_p rfl rfl) (by exact rq_p rfl rfl)) ?_); refine asemC_end ?_) | (refine WP.regionC (id := 5) ?_; (refine su (ap_move (by exact rq_p rfl rfl)) ?_); (refine su (ap_cat (by exact rq_p rfl rfl) (by exact rq_p rfl rfl) (by (simp only [bsz, List.size_toArray, ByteArray.size_append, List.length_append, List.length_cons, List.length_nil] <;> omega))) ?_); (refine su (ap_field_p (by exact rq_p rfl rfl) (by exact rfl) (by exact rfl)) ?_); (refine su (ap_load_p (by exact rq_p rfl rfl) (by exact rfl) (by exact rfl) (by exact rfl)) ?_); (refine sc_p rfl rfl (by first | ((repeat' first | exact SubL.nil | refine SubL.cons ?_ ?_ | exact Sub.refl); done) | fail) (by first | (simp [bdL, bdL_append, AV.bd]; done) | fail) (hD) ?_); (refine su (ap_cat (by exact rq_p rfl rfl) (by exact rq_p rfl rfl) (by (simp only [bsz, List.size_toArray, ByteArray.size_append, List.length_append, List.length_cons, List.length_nil] <;> omega))) ?_); (refine su (ap_assign (by exact rq_p rfl rfl)) ?_); refine asemC_end ?_) | (refine WP.regionC (id := 6) ?_; (refine su (ap_move (by exact rq_p rfl rfl)) ?_); (refine su (ap_assign (by exact rq_p rfl rfl)) ?_); refine asemC_end ?_) | exact ret_eq (by exact rfl) (by exact rfl) rfl))
  · have e1 : bodT a.body = [] := by rw [bodT, if_neg hbod]
    have hk0 : a.body.kind = 2 ∧ (a.body.kids.length : Int) ≤ 0 := by omega
    by_cases hpz : a.price = 0
    · have e2 : tx (altT a) = ⟨#[]⟩ := by rw [altT, prT, if_pos hpz, e1]; rfl
      rw [e2]
      unfold altA
      refine Fn.intro (by exact rfl) (by kernel_rfl) Tryd.func41 rfl rfl Tryd.ntmps41 (by exact Nat.le_of_ble_eq_true rfl) ?_; intro Γ hm
      (repeat' (first | refine WP.seq ?_ | refine go_n ?_ | refine WP.skip ?_ | refine WP.ret ?_ | refine bo_r ?_ | (refine wp_cond (by exact rfl) (fun hc => ?_) (fun hc => ?_) <;> (try simp only [decide_eq_true_eq, decide_eq_false_iff_not, Decidable.not_not, Bool.and_eq_true, Bool.or_eq_true, Bool.not_eq_true', Bool.not_eq_false', Bool.or_eq_false_iff, Bool.and_eq_false_iff, Int.not_lt, Int.not_le, reduceCtorEq, ne_eq, Bool.not_true, Bool.not_false, Bool.not_eq_true, Bool.not_eq_false] at hc) <;> (try (exfalso; omega))) | (refine WP.regionC (id := 0) ?_; (refine se_box (by exact rfl) (by exact ⟨rfl, rfl⟩) ?_); (refine su (ap_assign (by exact rq_p rfl rfl)) ?_); refine asemC_end ?_) | (refine WP.regionC (id := 1) ?_; (refine su (ap_assign (by exact rq_p rfl rfl)) ?_); refine asemC_end ?_) | (refine WP.regionC (id := 2) ?_; (refine su (ap_field_p (by exact rq_p rfl rfl) (by exact rfl) (by exact rfl)) ?_); (refine su (ap_field_p (by exact rq_p rfl rfl) (by exact rfl) (by exact rfl)) ?_); (refine su (ap_load_p (by exact rq_p rfl rfl) (by exact rfl) (by exact rfl) (by exact rfl)) ?_); (refine su (ap_neq (by exact rq_p rfl rfl) (by exact rq_p rfl rfl)) ?_); (refine su (ap_move (by exact rq_p rfl rfl)) ?_); (refine sg (by exact gq_vf rfl rfl) (fun he => ap_field_p (by exact rq_p rfl rfl) (by exact rfl) (by exact rfl)) ?_); (refine sg (by exact gq_vf rfl rfl) (fun he => ap_field_p (by exact rq_c rfl rfl) (by exact rfl) (by exact rfl)) ?_); (refine sg (by exact gq_vf rfl rfl) (fun he => ap_load_p (by exact rq_c rfl rfl) (by exact rfl) (by exact rfl) (by exact rfl)) ?_); (refine sg (by exact gq_vf rfl rfl) (fun he => ap_len_s (by exact rfl) (by exact rq_c rfl rfl)) ?_); (refine sg (by exact gq_vf rfl rfl) (fun he => ap_gtr (by exact rq_c rfl rfl) (by exact rq_p rfl rfl)) ?_); (refine su (ap_or (by exact rq_p rfl rfl) (by exact rq_c rfl rfl)) ?_); refine asemC_end ?_) | (refine WP.regionC (id := 4) ?_; (refine su (ap_field_p (by exact rq_p rfl rfl) (by exact rfl) (by exact rfl)) ?_); (refine su (ap_load_p (by exact rq_p rfl rfl) (by exact rfl) (by exact rfl) (by exact rfl)) ?_); (refine su (ap_neq (by exact rq_p rfl rfl) (by exact rq_p rfl rfl)) ?_); refine asemC_end ?_) | (refine WP.regionC (id := 6) ?_; (refine su (ap_move (by exact rq_p rfl rfl)) ?_); (refine su (ap_assign (by exact rq_p rfl rfl)) ?_); refine asemC_end ?_) | exact ret_eq (by exact rfl) (by exact rfl) rfl))
    · have e2 : tx (altT a) = (⟨#[]⟩ : ByteArray) ++ ⟨#[32, 112, 114, 105, 99, 101, 32]⟩ ++ tx (Lib.itoa a.price) := by
        rw [altT, prT, if_neg hpz, e1]; apply ba_ext; simp [bl_app, wPrice, bl, tx_data]
      rw [e2]
      unfold altA
      refine Fn.intro (by exact rfl) (by kernel_rfl) Tryd.func41 rfl rfl Tryd.ntmps41 (by exact Nat.le_of_ble_eq_true rfl) ?_; intro Γ hm
      (repeat' (first | refine WP.seq ?_ | refine go_n ?_ | refine WP.skip ?_ | refine WP.ret ?_ | refine bo_r ?_ | (refine wp_cond (by exact rfl) (fun hc => ?_) (fun hc => ?_) <;> (try simp only [decide_eq_true_eq, decide_eq_false_iff_not, Decidable.not_not, Bool.and_eq_true, Bool.or_eq_true, Bool.not_eq_true', Bool.not_eq_false', Bool.or_eq_false_iff, Bool.and_eq_false_iff, Int.not_lt, Int.not_le, reduceCtorEq, ne_eq, Bool.not_true, Bool.not_false, Bool.not_eq_true, Bool.not_eq_false] at hc) <;> (try (exfalso; omega))) | (refine WP.regionC (id := 0) ?_; (refine se_box (by exact rfl) (by exact ⟨rfl, rfl⟩) ?_); (refine su (ap_assign (by exact rq_p rfl rfl)) ?_); refine asemC_end ?_) | (refine WP.regionC (id := 1) ?_; (refine su (ap_assign (by exact rq_p rfl rfl)) ?_); refine asemC_end ?_) | (refine WP.regionC (id := 2) ?_; (refine su (ap_field_p (by exact rq_p rfl rfl) (by exact rfl) (by exact rfl)) ?_); (refine su (ap_field_p (by exact rq_p rfl rfl) (by exact rfl) (by exact rfl)) ?_); (refine su (ap_load_p (by exact rq_p rfl rfl) (by exact rfl) (by exact rfl) (by exact rfl)) ?_); (refine su (ap_neq (by exact rq_p rfl rfl) (by exact rq_p rfl rfl)) ?_); (refine su (ap_move (by exact rq_p rfl rfl)) ?_); (refine sg (by exact gq_vf rfl rfl) (fun he => ap_field_p (by exact rq_p rfl rfl) (by exact rfl) (by exact rfl)) ?_); (refine sg (by exact gq_vf rfl rfl) (fun he => ap_field_p (by exact rq_c rfl rfl) (by exact rfl) (by exact rfl)) ?_); (refine sg (by exact gq_vf rfl rfl) (fun he => ap_load_p (by exact rq_c rfl rfl) (by exact rfl) (by exact rfl) (by exact rfl)) ?_); (refine sg (by exact gq_vf rfl rfl) (fun he => ap_len_s (by exact rfl) (by exact rq_c rfl rfl)) ?_); (refine sg (by exact gq_vf rfl rfl) (fun he => ap_gtr (by exact rq_c rfl rfl) (by exact rq_p rfl rfl)) ?_); (refine su (ap_or (by exact rq_p rfl rfl) (by exact rq_c rfl rfl)) ?_); refine asemC_end ?_) | (refine WP.regionC (id := 4) ?_; (refine su (ap_field_p (by exact rq_p rfl rfl) (by exact rfl) (by exact rfl)) ?_); (refine su (ap_load_p (by exact rq_p rfl rfl) (by exact rfl) (by exact rfl) (by exact rfl)) ?_); (refine su (ap_neq (by exact rq_p rfl rfl) (by exact rq_p rfl rfl)) ?_); refine asemC_end ?_) | (refine WP.regionC (id := 5) ?_; (refine su (ap_move (by exact rq_p rfl rfl)) ?_); (refine su (ap_cat (by exact rq_p rfl rfl) (by exact rq_p rfl rfl) (by (simp only [bsz, List.size_toArray, ByteArray.size_append, List.length_append, List.length_cons, List.length_nil] <;> omega))) ?_); (refine su (ap_field_p (by exact rq_p rfl rfl) (by exact rfl) (by exact rfl)) ?_); (refine su (ap_load_p (by exact rq_p rfl rfl) (by exact rfl) (by exact rfl) (by exact rfl)) ?_); (refine sc_p rfl rfl (by first | ((repeat' first | exact SubL.nil | refine SubL.cons ?_ ?_ | exact Sub.refl); done) | fail) (by first | (simp [bdL, bdL_append, AV.bd]; done) | fail) (hD) ?_); (refine su (ap_cat (by exact rq_p rfl rfl) (by exact rq_p rfl rfl) (by (simp only [bsz, List.size_toArray, ByteArray.size_append, List.length_append, List.length_cons, List.length_nil] <;> omega))) ?_); (refine su (ap_assign (by exact rq_p rfl rfl)) ?_); refine asemC_end ?_) | (refine WP.regionC (id := 6) ?_; (refine su (ap_move (by exact rq_p rfl rfl)) ?_); (refine su (ap_assign (by exact rq_p rfl rfl)) ?_); refine asemC_end ?_) | exact ret_eq (by exact rfl) (by exact rfl) rfl))

theorem join_spaced {l : List ByteArray} (h : l ≠ []) : [32] ++ Lib.join (l.map bl) [32] = spaced l := by
  cases l with
  | nil => exact absurd rfl h
  | cons x l =>
    have h1 := lineT_cons x l
    have h2 : Lib.join ((x :: l).map bl) [32] = bl x ++ spaced l := by
      have := List.append_cancel_right (show Lib.join ((x :: l).map bl) [32] ++ [10] = (bl x ++ spaced l) ++ [10] from h1)
      exact this
    rw [h2]
    simp [spaced]
theorem lvT_eq {l : GLe} (h : l.tokens ≠ []) : lvT l = bl (wordT l.assoc) ++ spaced l.tokens ++ endT := by
  rw [← join_spaced h, lvT]; simp only [List.append_assoc]
theorem spaced_take {l : List ByteArray} {k : Nat} (hk : k < l.length) : spaced (l.take (k + 1)) = spaced (l.take k) ++ (32 :: bl (nth l k)) := by
  rw [take_succ_nth hk, spaced_app]; simp [spaced]
theorem spaced_mono (l : List ByteArray) {k : Nat} (hk : k ≤ l.length) : (spaced (l.take k)).length ≤ (spaced l).length := by
  have h := congrArg List.length (spaced_app (l.take k) (l.drop k))
  rw [List.take_append_drop, List.length_append] at h
  omega
theorem rformat_fn (f : GFi) (hv : validF f = true) (hB : (fmtF f).length ≤ 100000000) : Fn Tryd.prog 16 [fileA f] (strA (tx (fmtF f))) := by
  have hv1 : (∀ r, r ∈ f.rules → gruleOk r = true) ∧ ∀ l, l ∈ f.levels → glevelOk l = true := by
    simp only [validF, Bool.and_eq_true, List.all_eq_true] at hv
    exact ⟨hv.1.1.1.1.2, hv.1.1.1.2⟩
  have hl0 := fmL0_le f
  have hl1 := fmL_mono f (Nat.zero_le _)
  have hz : (fm0 f).length = 8 + f.start.size := by simp [fm0, wStartT, endT, bl_len]; omega
  have hl2 : (fmL f 0).length = 8 + f.start.size := by rw [← hz]; simp [fmL]
  refine Fn.intro (by exact rfl) (by kernel_rfl) Tryd.func16 rfl rfl Tryd.ntmps16 (by exact Nat.le_of_ble_eq_true rfl) ?_; intro Γ hm
  refine wp_lens 0 rfl fun hl => ?_
  have hln : f.rules.length ≤ 9223372036854775807 ∧ f.levels.length ≤ 9223372036854775807 := by have := hl; simp [AV.lens, lensL, fileA, levelsA, grulesA] at this; omega
  (repeat' (first | refine WP.seq ?_ | refine WP.block ?_ | refine go_n ?_ | (refine WP.regionC (id := 0) ?_; (refine se_box (by exact rfl) (by exact ⟨rfl, rfl⟩) ?_); (refine su (ap_assign (by exact rq_p rfl rfl)) ?_); refine asemC_end ?_) | (refine WP.regionC (id := 1) ?_; (refine su (ap_field_p (by exact rq_p rfl rfl) (by exact rfl) (by exact rfl)) ?_); (refine su (ap_load_p (by exact rq_p rfl rfl) (by exact rfl) (by exact rfl) (by exact rfl)) ?_); (refine su (ap_cat (by exact rq_p rfl rfl) (by exact rq_p rfl rfl) (by (simp only [bsz, List.size_toArray, ByteArray.size_append, List.length_append, List.length_cons, List.length_nil] <;> omega))) ?_); (refine su (ap_cat (by exact rq_p rfl rfl) (by exact rq_p rfl rfl) (by (simp only [bsz, List.size_toArray, ByteArray.size_append, List.length_append, List.length_cons, List.length_nil] <;> omega))) ?_); (refine su (ap_assign (by exact rq_p rfl rfl)) ?_); refine asemC_end ?_) | (refine WP.regionC (id := 2) ?_; (refine su (ap_assign (by exact rq_p rfl rfl)) ?_); refine asemC_end ?_)))
  have e0 : ({ data := #[115, 116, 97, 114, 116, 32] } : ByteArray) ++ f.start ++ { data := #[59, 10] } = tx (fmL f 0) := by
    apply ba_ext; simp [fmL, fm0, wStartT, endT, bl, tx_data]
  rw [e0]
  refine wp_loop (fun (j : Nat) => j ≤ f.levels.length) (fun j => f.levels.length - j)
    (fun j => (S 106 [(1, .ptr 0 3 0 0), (3, strA (tx (fmL f j))), (4, intA (j : Nat))] 1 [(0, some (.arr 3 [fileA f]))])) 0 ⟨[0], ToR.S rfl (by repeat' (first | exact rt_nil | refine rt_t (by exact rfl) (by exact rfl) ?_ | refine rt_e (by exact rfl) (by exact rfl) ?_)) (by repeat' (first | exact ro_nil | refine ro_p (by exact rfl) (by first | exact rfl | fail) (by first | (simp [bdL, bdL_append, AV.bd]; done) | fail) ?_)) (by decide) (by (rw [hm]; exact rfl)) (by exact rfl) (by (simp [bdT, AV.bd, bdL, bdL_append]; done)) (by repeat' (first | exact True.intro | refine And.intro ?_ ?_ | (simp [bdOq, bdL, bdL_append, AV.bd]; done))) (by (rw [hm]; exact Nat.le_of_ble_eq_true rfl))⟩ (Nat.zero_le _) ?_
  rintro j hj
  have hm1 := fmL_mono f hj
  have hs1 : (tx (fmL f j)).size = (fmL f j).length := tx_size _
  by_cases hlt : j < f.levels.length
  · have hm2 := fmL_mono f (k := j + 1) (by omega)
    have hne : (nth f.levels j).tokens ≠ [] := by
      have := (glevel_iff.1 (hv1.2 _ (nth_mem hlt))).2
      intro h; rw [h] at this; exact this rfl
    rw [fmL_succ hlt, lvT_eq hne, List.length_append, List.length_append, List.length_append, bl_len] at hm2
    have hsg := spaced_ge (nth f.levels j).tokens
    have hw := word_size (nth f.levels j).assoc
    have hend : endT.length = 2 := rfl
    have hw1 : (nth f.levels j).assoc = 1 → tx (fmL f j) ++ ({ data := #[108, 101, 102, 116] } : ByteArray) = tx (fmL f j ++ bl (wordT (nth f.levels j).assoc) ++ spaced ((nth f.levels j).tokens.take 0)) := fun h => by
      rw [wordT, if_pos h]; apply ba_ext; simp [bl_app, spaced, bl, tx_data, kw1]
    have hw2 : (nth f.levels j).assoc = 2 → tx (fmL f j) ++ ({ data := #[114, 105, 103, 104, 116] } : ByteArray) = tx (fmL f j ++ bl (wordT (nth f.levels j).assoc) ++ spaced ((nth f.levels j).tokens.take 0)) := fun h => by
      rw [wordT, if_neg (by omega), if_pos h]; apply ba_ext; simp [bl_app, spaced, bl, tx_data, kw2]
    have hw3 : ¬ (nth f.levels j).assoc = 1 → ¬ (nth f.levels j).assoc = 2 → tx (fmL f j) ++ ({ data := #[110, 111, 110, 101] } : ByteArray) = tx (fmL f j ++ bl (wordT (nth f.levels j).assoc) ++ spaced ((nth f.levels j).tokens.take 0)) := fun h h2 => by
      rw [wordT, if_neg h, if_neg h2]; apply ba_ext; simp [bl_app, spaced, bl, tx_data, kw3]
    (repeat' (first | refine WP.seq ?_ | refine WP.block ?_ | refine go_n ?_ | refine WP.skip ?_ | refine bl_n ?_ | (refine wp_cond (by exact rfl) (fun hc => ?_) (fun hc => ?_) <;> (try simp only [decide_eq_true_eq, decide_eq_false_iff_not, Decidable.not_not, Bool.and_eq_true, Bool.or_eq_true, Bool.not_eq_true', Bool.not_eq_false', Bool.or_eq_false_iff, Bool.and_eq_false_iff, Int.not_lt, Int.not_le, reduceCtorEq, ne_eq, Bool.not_true, Bool.not_false, Bool.not_eq_true, Bool.not_eq_false] at hc) <;> (try (exfalso; omega))) | (refine WP.regionC (id := 3) ?_; (refine su (ap_move (by exact rq_p rfl rfl)) ?_); (refine su (ap_field_p (by exact rq_p rfl rfl) (by exact rfl) (by exact rfl)) ?_); (refine su (ap_load_p (by exact rq_p rfl rfl) (by exact rfl) (by exact rfl) (by exact rfl)) ?_); (refine su (ap_len_m (by exact rfl) (by exact rq_p rfl rfl)) ?_); (refine su (ap_lss (by exact rq_p rfl rfl) (by exact rq_p rfl rfl)) ?_); refine asemC_end ?_) | (refine WP.regionC (id := 5) ?_; (refine su (ap_field_p (by exact rq_p rfl rfl) (by exact rfl) (by exact rfl)) ?_); (refine su (ap_load_p (by exact rq_p rfl rfl) (by exact rfl) (by exact rfl) (by exact rfl)) ?_); (refine su (ap_move (by exact rq_p rfl rfl)) ?_); (refine su (ap_idx_n (by exact rq_p rfl rfl) (by exact rq_p rfl rfl) (by omega)) ?_); (refine su (ap_field_i (by exact rq_p rfl rfl) (by exact rfl) (by exact rfl)) ?_); (refine su (ap_load_i (by exact rq_p rfl rfl) (by exact rfl)) ?_); refine asemC_end ?_) | (refine WP.regionC (id := 7) ?_; (refine su (ap_eql (by exact rq_p rfl rfl) (by exact rq_p rfl rfl)) ?_); (refine su (ap_assign (by exact rq_p rfl rfl)) ?_); refine asemC_end ?_) | (refine WP.regionC (id := 8) ?_; (refine su (ap_move (by exact rq_p rfl rfl)) ?_); (refine su (ap_cat (by exact rq_p rfl rfl) (by exact rq_p rfl rfl) (by (simp only [bsz, List.size_toArray, ByteArray.size_append, List.length_append, List.length_cons, List.length_nil] <;> omega))) ?_); (refine su (ap_assign (by exact rq_p rfl rfl)) ?_); refine asemC_end ?_) | (refine WP.regionC (id := 9) ?_; (refine su (ap_eql (by exact rq_p rfl rfl) (by exact rq_p rfl rfl)) ?_); (refine su (ap_assign (by exact rq_p rfl rfl)) ?_); refine asemC_end ?_) | (refine WP.regionC (id := 10) ?_; (refine su (ap_move (by exact rq_p rfl rfl)) ?_); (refine su (ap_cat (by exact rq_p rfl rfl) (by exact rq_p rfl rfl) (by (simp only [bsz, List.size_toArray, ByteArray.size_append, List.length_append, List.length_cons, List.length_nil] <;> omega))) ?_); (refine su (ap_assign (by exact rq_p rfl rfl)) ?_); refine asemC_end ?_) | (refine WP.regionC (id := 6) ?_; (refine su (ap_move (by exact rq_p rfl rfl)) ?_); (refine su (ap_cat (by exact rq_p rfl rfl) (by exact rq_p rfl rfl) (by (simp only [bsz, List.size_toArray, ByteArray.size_append, List.length_append, List.length_cons, List.length_nil] <;> omega))) ?_); (refine su (ap_assign (by exact rq_p rfl rfl)) ?_); refine asemC_end ?_) | (refine WP.regionC (id := 11) ?_; (refine su (ap_assign (by exact rq_p rfl rfl)) ?_); refine asemC_end ?_)))
    rw [hw1 hc]
    rotate_left 1
    rw [hw2 hc]
    rotate_left 1
    rw [hw3 (by assumption) hc]
    rotate_left 1
    all_goals
      refine wp_loop (fun (k : Nat) => k ≤ (nth f.levels j).tokens.length) (fun k => (nth f.levels j).tokens.length - k)
        (fun k => (S 106 [(1, .ptr 0 3 0 0), (3, strA (tx (fmL f j ++ bl (wordT (nth f.levels j).assoc) ++ spaced ((nth f.levels j).tokens.take k)))), (4, intA (j : Nat)), (5, intA (k : Nat))] 1 [(0, some (.arr 3 [fileA f]))])) 0 ⟨[0], ToR.S rfl (by repeat' (first | exact rt_nil | refine rt_t (by exact rfl) (by exact rfl) ?_ | refine rt_e (by exact rfl) (by exact rfl) ?_)) (by repeat' (first | exact ro_nil | refine ro_p (by exact rfl) (by first | exact rfl | fail) (by first | (simp [bdL, bdL_append, AV.bd]; done) | fail) ?_)) (by decide) (by (rw [hm]; exact rfl)) (by exact rfl) (by (simp [bdT, AV.bd, bdL, bdL_append]; done)) (by repeat' (first | exact True.intro | refine And.intro ?_ ?_ | (simp [bdOq, bdL, bdL_append, AV.bd]; done))) (by (rw [hm]; exact Nat.le_of_ble_eq_true rfl))⟩ (Nat.zero_le _) ?_
      rintro k hk
      have hsp := spaced_mono (nth f.levels j).tokens hk
      have hs2 : (tx (fmL f j ++ bl (wordT (nth f.levels j).assoc) ++ spaced ((nth f.levels j).tokens.take k))).size = (fmL f j).length + (wordT (nth f.levels j).assoc).size + (spaced ((nth f.levels j).tokens.take k)).length := by rw [tx_size]; simp [bl_len]; omega
      by_cases hkl : k < (nth f.levels j).tokens.length
      · have hsp2 := spaced_mono (nth f.levels j).tokens (k := k + 1) (by omega)
        rw [spaced_take hkl, List.length_append, List.length_cons, bl_len] at hsp2
        have e1 : tx (fmL f j ++ bl (wordT (nth f.levels j).assoc) ++ spaced ((nth f.levels j).tokens.take (k + 1))) = tx (fmL f j ++ bl (wordT (nth f.levels j).assoc) ++ spaced ((nth f.levels j).tokens.take k)) ++ ({ data := #[32] } : ByteArray) ++ nth (nth f.levels j).tokens k := by
          rw [spaced_take hkl]; apply ba_ext; simp [bl_app, bl, tx_data]
        (repeat' (first | refine WP.seq ?_ | refine WP.block ?_ | refine go_n ?_ | refine WP.skip ?_ | refine bl_n ?_ | (refine wp_cond (by exact rfl) (fun hc => ?_) (fun hc => ?_) <;> (try simp only [decide_eq_true_eq, decide_eq_false_iff_not, Decidable.not_not, Bool.and_eq_true, Bool.or_eq_true, Bool.not_eq_true', Bool.not_eq_false', Bool.or_eq_false_iff, Bool.and_eq_false_iff, Int.not_lt, Int.not_le, reduceCtorEq, ne_eq, Bool.not_true, Bool.not_false, Bool.not_eq_true, Bool.not_eq_false] at hc) <;> (try (exfalso; omega))) | (refine WP.regionC (id := 12) ?_; (refine su (ap_move (by exact rq_p rfl rfl)) ?_); (refine su (ap_field_p (by exact rq_p rfl rfl) (by exact rfl) (by exact rfl)) ?_); (refine su (ap_load_p (by exact rq_p rfl rfl) (by exact rfl) (by exact rfl) (by exact rfl)) ?_); (refine su (ap_move (by exact rq_p rfl rfl)) ?_); (refine su (ap_idx_n (by exact rq_p rfl rfl) (by exact rq_p rfl rfl) (by omega)) ?_); (refine su (ap_field_i (by exact rq_p rfl rfl) (by exact rfl) (by exact rfl)) ?_); (refine su (ap_load_i (by exact rq_p rfl rfl) (by exact rfl)) ?_); (refine su (ap_len_m (by exact rfl) (by exact rq_p rfl rfl)) ?_); (refine su (ap_lss (by exact rq_p rfl rfl) (by exact rq_p rfl rfl)) ?_); refine asemC_end ?_) | (refine WP.regionC (id := 14) ?_; (refine su (ap_move (by exact rq_p rfl rfl)) ?_); (refine su (ap_cat (by exact rq_p rfl rfl) (by exact rq_p rfl rfl) (by (simp only [bsz, List.size_toArray, ByteArray.size_append, List.length_append, List.length_cons, List.length_nil] <;> omega))) ?_); (refine su (ap_field_p (by exact rq_p rfl rfl) (by exact rfl) (by exact rfl)) ?_); (refine su (ap_load_p (by exact rq_p rfl rfl) (by exact rfl) (by exact rfl) (by exact rfl)) ?_); (refine su (ap_move (by exact rq_p rfl rfl)) ?_); (refine su (ap_idx_n (by exact rq_p rfl rfl) (by exact rq_p rfl rfl) (by omega)) ?_); (refine su (ap_field_i (by exact rq_p rfl rfl) (by exact rfl) (by exact rfl)) ?_); (refine su (ap_load_i (by exact rq_p rfl rfl) (by exact rfl)) ?_); (refine su (ap_move (by exact rq_p rfl rfl)) ?_); (refine su (ap_idx_n (by exact rq_p rfl rfl) (by exact rq_p rfl rfl) (by omega)) ?_); (refine su (ap_load_w (by exact rq_p rfl rfl) (by exact rfl)) ?_); (refine su (ap_cat (by exact rq_p rfl rfl) (by exact rq_p rfl rfl) (by (simp only [bsz, List.size_toArray, ByteArray.size_append, List.length_append, List.length_cons, List.length_nil] <;> omega))) ?_); (refine su (ap_assign (by exact rq_p rfl rfl)) ?_); refine asemC_end ?_) | (refine WP.regionC (id := 13) ?_; (refine su (ap_move (by exact rq_p rfl rfl)) ?_); (refine su (ap_add (by exact rq_p rfl rfl) (by exact rq_p rfl rfl) (by exact inr_i64_of (by omega))) ?_); (refine su (ap_assign (by exact rq_p rfl rfl)) ?_); refine asemC_end ?_)))
        refine ⟨k + 1, ⟨by omega, by omega⟩, ?_⟩
        rw [e1]
        exact ⟨[0], ToR.S rfl (by repeat' (first | exact rt_nil | refine rt_t (by exact rfl) (by exact rfl) ?_ | refine rt_e (by exact rfl) (by exact rfl) ?_)) (by repeat' (first | exact ro_nil | refine ro_p (by exact rfl) (by first | exact rfl | fail) (by first | (simp [bdL, bdL_append, AV.bd]; done) | fail) ?_)) (by decide) (by (rw [hm]; exact rfl)) (by exact rfl) (by (simp [bdT, AV.bd, bdL, bdL_append]; done)) (by repeat' (first | exact True.intro | refine And.intro ?_ ?_ | (simp [bdOq, bdL, bdL_append, AV.bd]; done))) (by (rw [hm]; exact Nat.le_of_ble_eq_true rfl))⟩
      have hkk : k = (nth f.levels j).tokens.length := by omega
      subst hkk
      have e2 : tx (fmL f (j + 1)) = tx (fmL f j ++ bl (wordT (nth f.levels j).assoc) ++ spaced ((nth f.levels j).tokens.take (nth f.levels j).tokens.length)) ++ ({ data := #[59, 10] } : ByteArray) := by
        rw [fmL_succ hlt, lvT_eq hne, List.take_of_length_le (Nat.le_refl _)]; apply ba_ext; simp [bl_app, bl, tx_data, endT]
      (repeat' (first | refine WP.seq ?_ | refine go_n ?_ | refine WP.exit ?_ | refine go_x ?_ | refine bl_n ?_ | refine bl_x ?_ | (refine wp_cond (by exact rfl) (fun hc => ?_) (fun hc => ?_) <;> (try simp only [decide_eq_true_eq, decide_eq_false_iff_not, Decidable.not_not, Bool.and_eq_true, Bool.or_eq_true, Bool.not_eq_true', Bool.not_eq_false', Bool.or_eq_false_iff, Bool.and_eq_false_iff, Int.not_lt, Int.not_le, reduceCtorEq, ne_eq, Bool.not_true, Bool.not_false, Bool.not_eq_true, Bool.not_eq_false] at hc) <;> (try (exfalso; omega))) | (refine WP.regionC (id := 12) ?_; (refine su (ap_move (by exact rq_p rfl rfl)) ?_); (refine su (ap_field_p (by exact rq_p rfl rfl) (by exact rfl) (by exact rfl)) ?_); (refine su (ap_load_p (by exact rq_p rfl rfl) (by exact rfl) (by exact rfl) (by exact rfl)) ?_); (refine su (ap_move (by exact rq_p rfl rfl)) ?_); (refine su (ap_idx_n (by exact rq_p rfl rfl) (by exact rq_p rfl rfl) (by omega)) ?_); (refine su (ap_field_i (by exact rq_p rfl rfl) (by exact rfl) (by exact rfl)) ?_); (refine su (ap_load_i (by exact rq_p rfl rfl) (by exact rfl)) ?_); (refine su (ap_len_m (by exact rfl) (by exact rq_p rfl rfl)) ?_); (refine su (ap_lss (by exact rq_p rfl rfl) (by exact rq_p rfl rfl)) ?_); refine asemC_end ?_) | (refine WP.regionC (id := 15) ?_; (refine su (ap_move (by exact rq_p rfl rfl)) ?_); (refine su (ap_cat (by exact rq_p rfl rfl) (by exact rq_p rfl rfl) (by (simp only [bsz, List.size_toArray, ByteArray.size_append, List.length_append, List.length_cons, List.length_nil] <;> omega))) ?_); (refine su (ap_assign (by exact rq_p rfl rfl)) ?_); refine asemC_end ?_) | (refine WP.regionC (id := 4) ?_; (refine su (ap_move (by exact rq_p rfl rfl)) ?_); (refine su (ap_add (by exact rq_p rfl rfl) (by exact rq_p rfl rfl) (by exact inr_i64_of (by omega))) ?_); (refine su (ap_assign (by exact rq_p rfl rfl)) ?_); refine asemC_end ?_)))
      refine ⟨j + 1, ⟨by omega, by omega⟩, ?_⟩
      rw [e2]
      exact ⟨[0], ToR.S rfl (by repeat' (first | exact rt_nil | refine rt_t (by exact rfl) (by exact rfl) ?_ | refine rt_e (by exact rfl) (by exact rfl) ?_)) (by repeat' (first | exact ro_nil | refine ro_p (by exact rfl) (by first | exact rfl | fail) (by first | (simp [bdL, bdL_append, AV.bd]; done) | fail) ?_)) (by decide) (by (rw [hm]; exact rfl)) (by exact rfl) (by (simp [bdT, AV.bd, bdL, bdL_append]; done)) (by repeat' (first | exact True.intro | refine And.intro ?_ ?_ | (simp [bdOq, bdL, bdL_append, AV.bd]; done))) (by (rw [hm]; exact Nat.le_of_ble_eq_true rfl))⟩
  obtain rfl : j = f.levels.length := by omega
  (repeat' (first | refine WP.seq ?_ | refine WP.block ?_ | refine go_n ?_ | refine WP.exit ?_ | refine go_x ?_ | refine bl_x ?_ | (refine wp_cond (by exact rfl) (fun hc => ?_) (fun hc => ?_) <;> (try simp only [decide_eq_true_eq, decide_eq_false_iff_not, Decidable.not_not, Bool.and_eq_true, Bool.or_eq_true, Bool.not_eq_true', Bool.not_eq_false', Bool.or_eq_false_iff, Bool.and_eq_false_iff, Int.not_lt, Int.not_le, reduceCtorEq, ne_eq, Bool.not_true, Bool.not_false, Bool.not_eq_true, Bool.not_eq_false] at hc) <;> (try (exfalso; omega))) | (refine WP.regionC (id := 3) ?_; (refine su (ap_move (by exact rq_p rfl rfl)) ?_); (refine su (ap_field_p (by exact rq_p rfl rfl) (by exact rfl) (by exact rfl)) ?_); (refine su (ap_load_p (by exact rq_p rfl rfl) (by exact rfl) (by exact rfl) (by exact rfl)) ?_); (refine su (ap_len_m (by exact rfl) (by exact rq_p rfl rfl)) ?_); (refine su (ap_lss (by exact rq_p rfl rfl) (by exact rq_p rfl rfl)) ?_); refine asemC_end ?_) | (refine WP.regionC (id := 16) ?_; (refine su (ap_assign (by exact rq_p rfl rfl)) ?_); refine asemC_end ?_)))
  have e3 : fmL f f.levels.length = fmR f 0 := by simp [fmR]
  rw [e3]
  refine wp_loop (fun (k : Nat) => k ≤ f.rules.length) (fun k => f.rules.length - k)
    (fun k => (S 106 [(1, .ptr 0 3 0 0), (3, strA (tx (fmR f k))), (6, intA (k : Nat))] 1 [(0, some (.arr 3 [fileA f]))])) 0 ⟨[0], ToR.S rfl (by repeat' (first | exact rt_nil | refine rt_t (by exact rfl) (by exact rfl) ?_ | refine rt_e (by exact rfl) (by exact rfl) ?_)) (by repeat' (first | exact ro_nil | refine ro_p (by exact rfl) (by first | exact rfl | fail) (by first | (simp [bdL, bdL_append, AV.bd]; done) | fail) ?_)) (by decide) (by (rw [hm]; exact rfl)) (by exact rfl) (by (simp [bdT, AV.bd, bdL, bdL_append]; done)) (by repeat' (first | exact True.intro | refine And.intro ?_ ?_ | (simp [bdOq, bdL, bdL_append, AV.bd]; done))) (by (rw [hm]; exact Nat.le_of_ble_eq_true rfl))⟩ (Nat.zero_le _) ?_
  rintro k hk
  have hr1 := fmR_mono f hk
  have hs3 : (tx (fmR f k)).size = (fmR f k).length := tx_size _
  by_cases hlt2 : k < f.rules.length
  · have hr2 := fmR_mono f (k := k + 1) (by omega)
    rw [fmR_succ hlt2, List.length_append] at hr2
    have hgr := hv1.1 _ (nth_mem hlt2)
    have hao : ∀ a, a ∈ (nth f.rules k).alts → altOk a = true := by
      simp only [gruleOk, Bool.and_eq_true, List.all_eq_true] at hgr
      exact hgr.2
    have hrt : (ruT (nth f.rules k)).length = (nth f.rules k).name.size + 2 + ((altsT (nth f.rules k).alts (nth f.rules k).alts.length).length + 2) := by
      simp [ruT, endT, bl_len]; omega
    have hal : (nth f.rules k).alts.length ≤ 9223372036854775807 := by
      have := hl; simp [AV.lens, lensL, fileA, levelsA, grulesA, lensL_map] at this
      have := this.2.2.2 _ (nth_mem hlt2)
      simp [gruleA, AV.lens, lensL, altsA] at this
      omega
    (repeat' (first | refine WP.seq ?_ | refine WP.block ?_ | refine go_n ?_ | refine WP.skip ?_ | (refine wp_cond (by exact rfl) (fun hc => ?_) (fun hc => ?_) <;> (try simp only [decide_eq_true_eq, decide_eq_false_iff_not, Decidable.not_not, Bool.and_eq_true, Bool.or_eq_true, Bool.not_eq_true', Bool.not_eq_false', Bool.or_eq_false_iff, Bool.and_eq_false_iff, Int.not_lt, Int.not_le, reduceCtorEq, ne_eq, Bool.not_true, Bool.not_false, Bool.not_eq_true, Bool.not_eq_false] at hc) <;> (try (exfalso; omega))) | (refine WP.regionC (id := 17) ?_; (refine su (ap_move (by exact rq_p rfl rfl)) ?_); (refine su (ap_field_p (by exact rq_p rfl rfl) (by exact rfl) (by exact rfl)) ?_); (refine su (ap_load_p (by exact rq_p rfl rfl) (by exact rfl) (by exact rfl) (by exact rfl)) ?_); (refine su (ap_len_m (by exact rfl) (by exact rq_p rfl rfl)) ?_); (refine su (ap_lss (by exact rq_p rfl rfl) (by exact rq_p rfl rfl)) ?_); refine asemC_end ?_) | (refine WP.regionC (id := 19) ?_; (refine su (ap_move (by exact rq_p rfl rfl)) ?_); (refine su (ap_field_p (by exact rq_p rfl rfl) (by exact rfl) (by exact rfl)) ?_); (refine su (ap_load_p (by exact rq_p rfl rfl) (by exact rfl) (by exact rfl) (by exact rfl)) ?_); (refine su (ap_move (by exact rq_p rfl rfl)) ?_); (refine su (ap_idx_n (by exact rq_p rfl rfl) (by exact rq_p rfl rfl) (by omega)) ?_); (refine su (ap_field_i (by exact rq_p rfl rfl) (by exact rfl) (by exact rfl)) ?_); (refine su (ap_load_i (by exact rq_p rfl rfl) (by exact rfl)) ?_); (refine su (ap_cat (by exact rq_p rfl rfl) (by exact rq_p rfl rfl) (by omega)) ?_); (refine su (ap_cat (by exact rq_p rfl rfl) (by exact rq_p rfl rfl) (by (simp only [bsz, List.size_toArray, ByteArray.size_append, List.length_append, List.length_cons, List.length_nil] <;> omega))) ?_); (refine su (ap_assign (by exact rq_p rfl rfl)) ?_); refine asemC_end ?_) | (refine WP.regionC (id := 20) ?_; (refine su (ap_assign (by exact rq_p rfl rfl)) ?_); refine asemC_end ?_)))
    have e4 : tx (fmR f k) ++ (nth f.rules k).name ++ ({ data := #[32, 61] } : ByteArray) = tx (fmR f k ++ (bl (nth f.rules k).name ++ [32, 61]) ++ altsT (nth f.rules k).alts 0) := by
      apply ba_ext; simp [bl_app, bl, tx_data, altsT]
    rw [e4]
    refine wp_loop (fun (i : Nat) => i ≤ (nth f.rules k).alts.length) (fun i => (nth f.rules k).alts.length - i)
      (fun i => (S 106 [(1, .ptr 0 3 0 0), (3, strA (tx (fmR f k ++ (bl (nth f.rules k).name ++ [32, 61]) ++ altsT (nth f.rules k).alts i))), (6, intA (k : Nat)), (7, intA (i : Nat))] 1 [(0, some (.arr 3 [fileA f]))])) 0 ⟨[0], ToR.S rfl (by repeat' (first | exact rt_nil | refine rt_t (by exact rfl) (by exact rfl) ?_ | refine rt_e (by exact rfl) (by exact rfl) ?_)) (by repeat' (first | exact ro_nil | refine ro_p (by exact rfl) (by first | exact rfl | fail) (by first | (simp [bdL, bdL_append, AV.bd]; done) | fail) ?_)) (by decide) (by (rw [hm]; exact rfl)) (by exact rfl) (by (simp [bdT, AV.bd, bdL, bdL_append]; done)) (by repeat' (first | exact True.intro | refine And.intro ?_ ?_ | (simp [bdOq, bdL, bdL_append, AV.bd]; done))) (by (rw [hm]; exact Nat.le_of_ble_eq_true rfl))⟩ (Nat.zero_le _) ?_
    rintro i hi
    have ha1 := altsT_mono (nth f.rules k).alts hi
    have hs4 : (tx (fmR f k ++ (bl (nth f.rules k).name ++ [32, 61]) ++ altsT (nth f.rules k).alts i)).size = (fmR f k).length + (nth f.rules k).name.size + 2 + (altsT (nth f.rules k).alts i).length := by rw [tx_size]; simp [bl_len]; omega
    by_cases hlt3 : i < (nth f.rules k).alts.length
    · have ha2 := altsT_mono (nth f.rules k).alts (k := i + 1) (by omega)
      rw [altsT, List.length_append, List.length_append] at ha2
      have hX := ralt_fn (nth (nth f.rules k).alts i) (hao _ (nth_mem hlt3)) (by omega)
      have hs5 : (tx (altT (nth (nth f.rules k).alts i))).size = (altT (nth (nth f.rules k).alts i)).length := tx_size _
      (repeat' (first | refine WP.seq ?_ | refine WP.block ?_ | refine go_n ?_ | refine WP.skip ?_ | refine bl_n ?_ | (refine wp_cond (by exact rfl) (fun hc => ?_) (fun hc => ?_) <;> (try simp only [decide_eq_true_eq, decide_eq_false_iff_not, Decidable.not_not, Bool.and_eq_true, Bool.or_eq_true, Bool.not_eq_true', Bool.not_eq_false', Bool.or_eq_false_iff, Bool.and_eq_false_iff, Int.not_lt, Int.not_le, reduceCtorEq, ne_eq, Bool.not_true, Bool.not_false, Bool.not_eq_true, Bool.not_eq_false] at hc) <;> (try (exfalso; omega))) | (refine WP.regionC (id := 21) ?_; (refine su (ap_move (by exact rq_p rfl rfl)) ?_); (refine su (ap_field_p (by exact rq_p rfl rfl) (by exact rfl) (by exact rfl)) ?_); (refine su (ap_load_p (by exact rq_p rfl rfl) (by exact rfl) (by exact rfl) (by exact rfl)) ?_); (refine su (ap_move (by exact rq_p rfl rfl)) ?_); (refine su (ap_idx_n (by exact rq_p rfl rfl) (by exact rq_p rfl rfl) (by omega)) ?_); (refine su (ap_field_i (by exact rq_p rfl rfl) (by exact rfl) (by exact rfl)) ?_); (refine su (ap_load_i (by exact rq_p rfl rfl) (by exact rfl)) ?_); (refine su (ap_len_m (by exact rfl) (by exact rq_p rfl rfl)) ?_); (refine su (ap_lss (by exact rq_p rfl rfl) (by exact rq_p rfl rfl)) ?_); refine asemC_end ?_) | (refine WP.regionC (id := 23) ?_; (refine su (ap_move (by exact rq_p rfl rfl)) ?_); (refine su (ap_gtr (by exact rq_p rfl rfl) (by exact rq_p rfl rfl)) ?_); refine asemC_end ?_) | (refine WP.regionC (id := 24) ?_; (refine su (ap_move (by exact rq_p rfl rfl)) ?_); (refine su (ap_cat (by exact rq_p rfl rfl) (by exact rq_p rfl rfl) (by (simp only [bsz, List.size_toArray, ByteArray.size_append, List.length_append, List.length_cons, List.length_nil] <;> omega))) ?_); (refine su (ap_assign (by exact rq_p rfl rfl)) ?_); refine asemC_end ?_) | (refine WP.regionC (id := 25) ?_; (refine su (ap_move (by exact rq_p rfl rfl)) ?_); (refine su (ap_field_p (by exact rq_p rfl rfl) (by exact rfl) (by exact rfl)) ?_); (refine su (ap_load_p (by exact rq_p rfl rfl) (by exact rfl) (by exact rfl) (by exact rfl)) ?_); (refine su (ap_move (by exact rq_p rfl rfl)) ?_); (refine su (ap_idx_n (by exact rq_p rfl rfl) (by exact rq_p rfl rfl) (by omega)) ?_); (refine su (ap_field_i (by exact rq_p rfl rfl) (by exact rfl) (by exact rfl)) ?_); (refine su (ap_load_i (by exact rq_p rfl rfl) (by exact rfl)) ?_); (refine su (ap_move (by exact rq_p rfl rfl)) ?_); (refine su (ap_idx_n (by exact rq_p rfl rfl) (by exact rq_p rfl rfl) (by omega)) ?_); (refine su (ap_load_w (by exact rq_p rfl rfl) (by exact rfl)) ?_); (refine sc_p rfl rfl (by first | ((repeat' first | exact SubL.nil | refine SubL.cons ?_ ?_ | exact Sub.refl); done) | fail) (by first | (simp [bdL, bdL_append, AV.bd]; done) | fail) (hX) ?_); (refine su (ap_cat (by exact rq_p rfl rfl) (by exact rq_p rfl rfl) (by first | omega | (simp only [bsz, List.size_toArray, ByteArray.size_append, List.length_append, List.length_cons, List.length_nil] <;> omega))) ?_); (refine su (ap_assign (by exact rq_p rfl rfl)) ?_); refine asemC_end ?_) | (refine WP.regionC (id := 22) ?_; (refine su (ap_move (by exact rq_p rfl rfl)) ?_); (refine su (ap_add (by exact rq_p rfl rfl) (by exact rq_p rfl rfl) (by exact inr_i64_of (by omega))) ?_); (refine su (ap_assign (by exact rq_p rfl rfl)) ?_); refine asemC_end ?_)))
      · have e6 : tx (fmR f k ++ (bl (nth f.rules k).name ++ [32, 61]) ++ altsT (nth f.rules k).alts (i + 1)) = tx (fmR f k ++ (bl (nth f.rules k).name ++ [32, 61]) ++ altsT (nth f.rules k).alts i) ++ ({ data := #[32, 124] } : ByteArray) ++ tx (altT (nth (nth f.rules k).alts i)) := by
          rw [altsT, if_neg (by omega)]; apply ba_ext; simp [bl_app, bl, tx_data]
        refine ⟨i + 1, ⟨by omega, by omega⟩, ?_⟩
        rw [e6]
        exact ⟨[0], ToR.S rfl (by repeat' (first | exact rt_nil | refine rt_t (by exact rfl) (by exact rfl) ?_ | refine rt_e (by exact rfl) (by exact rfl) ?_)) (by repeat' (first | exact ro_nil | refine ro_p (by exact rfl) (by first | exact rfl | fail) (by first | (simp [bdL, bdL_append, AV.bd]; done) | fail) ?_)) (by decide) (by (rw [hm]; exact rfl)) (by exact rfl) (by (simp [bdT, AV.bd, bdL, bdL_append]; done)) (by repeat' (first | exact True.intro | refine And.intro ?_ ?_ | (simp [bdOq, bdL, bdL_append, AV.bd]; done))) (by (rw [hm]; exact Nat.le_of_ble_eq_true rfl))⟩
      · have e6 : tx (fmR f k ++ (bl (nth f.rules k).name ++ [32, 61]) ++ altsT (nth f.rules k).alts (i + 1)) = tx (fmR f k ++ (bl (nth f.rules k).name ++ [32, 61]) ++ altsT (nth f.rules k).alts i) ++ tx (altT (nth (nth f.rules k).alts i)) := by
          rw [altsT, if_pos (by omega)]; apply ba_ext; simp [bl_app, bl, tx_data]
        refine ⟨i + 1, ⟨by omega, by omega⟩, ?_⟩
        rw [e6]
        exact ⟨[0], ToR.S rfl (by repeat' (first | exact rt_nil | refine rt_t (by exact rfl) (by exact rfl) ?_ | refine rt_e (by exact rfl) (by exact rfl) ?_)) (by repeat' (first | exact ro_nil | refine ro_p (by exact rfl) (by first | exact rfl | fail) (by first | (simp [bdL, bdL_append, AV.bd]; done) | fail) ?_)) (by decide) (by (rw [hm]; exact rfl)) (by exact rfl) (by (simp [bdT, AV.bd, bdL, bdL_append]; done)) (by repeat' (first | exact True.intro | refine And.intro ?_ ?_ | (simp [bdOq, bdL, bdL_append, AV.bd]; done))) (by (rw [hm]; exact Nat.le_of_ble_eq_true rfl))⟩
    obtain rfl : i = (nth f.rules k).alts.length := by omega
    (repeat' (first | refine WP.seq ?_ | refine go_n ?_ | refine WP.exit ?_ | refine go_x ?_ | refine bl_n ?_ | refine bl_x ?_ | (refine wp_cond (by exact rfl) (fun hc => ?_) (fun hc => ?_) <;> (try simp only [decide_eq_true_eq, decide_eq_false_iff_not, Decidable.not_not, Bool.and_eq_true, Bool.or_eq_true, Bool.not_eq_true', Bool.not_eq_false', Bool.or_eq_false_iff, Bool.and_eq_false_iff, Int.not_lt, Int.not_le, reduceCtorEq, ne_eq, Bool.not_true, Bool.not_false, Bool.not_eq_true, Bool.not_eq_false] at hc) <;> (try (exfalso; omega))) | (refine WP.regionC (id := 21) ?_; (refine su (ap_move (by exact rq_p rfl rfl)) ?_); (refine su (ap_field_p (by exact rq_p rfl rfl) (by exact rfl) (by exact rfl)) ?_); (refine su (ap_load_p (by exact rq_p rfl rfl) (by exact rfl) (by exact rfl) (by exact rfl)) ?_); (refine su (ap_move (by exact rq_p rfl rfl)) ?_); (refine su (ap_idx_n (by exact rq_p rfl rfl) (by exact rq_p rfl rfl) (by omega)) ?_); (refine su (ap_field_i (by exact rq_p rfl rfl) (by exact rfl) (by exact rfl)) ?_); (refine su (ap_load_i (by exact rq_p rfl rfl) (by exact rfl)) ?_); (refine su (ap_len_m (by exact rfl) (by exact rq_p rfl rfl)) ?_); (refine su (ap_lss (by exact rq_p rfl rfl) (by exact rq_p rfl rfl)) ?_); refine asemC_end ?_) | (refine WP.regionC (id := 26) ?_; (refine su (ap_move (by exact rq_p rfl rfl)) ?_); (refine su (ap_cat (by exact rq_p rfl rfl) (by exact rq_p rfl rfl) (by (simp only [bsz, List.size_toArray, ByteArray.size_append, List.length_append, List.length_cons, List.length_nil] <;> omega))) ?_); (refine su (ap_assign (by exact rq_p rfl rfl)) ?_); refine asemC_end ?_) | (refine WP.regionC (id := 18) ?_; (refine su (ap_move (by exact rq_p rfl rfl)) ?_); (refine su (ap_add (by exact rq_p rfl rfl) (by exact rq_p rfl rfl) (by exact inr_i64_of (by omega))) ?_); (refine su (ap_assign (by exact rq_p rfl rfl)) ?_); refine asemC_end ?_)))
    have e7 : tx (fmR f (k + 1)) = tx (fmR f k ++ (bl (nth f.rules k).name ++ [32, 61]) ++ altsT (nth f.rules k).alts (nth f.rules k).alts.length) ++ ({ data := #[59, 10] } : ByteArray) := by
      rw [fmR_succ hlt2, ruT]; apply ba_ext; simp [bl_app, bl, tx_data, endT]
    refine ⟨k + 1, ⟨by omega, by omega⟩, ?_⟩
    rw [e7]
    exact ⟨[0], ToR.S rfl (by repeat' (first | exact rt_nil | refine rt_t (by exact rfl) (by exact rfl) ?_ | refine rt_e (by exact rfl) (by exact rfl) ?_)) (by repeat' (first | exact ro_nil | refine ro_p (by exact rfl) (by first | exact rfl | fail) (by first | (simp [bdL, bdL_append, AV.bd]; done) | fail) ?_)) (by decide) (by (rw [hm]; exact rfl)) (by exact rfl) (by (simp [bdT, AV.bd, bdL, bdL_append]; done)) (by repeat' (first | exact True.intro | refine And.intro ?_ ?_ | (simp [bdOq, bdL, bdL_append, AV.bd]; done))) (by (rw [hm]; exact Nat.le_of_ble_eq_true rfl))⟩
  obtain rfl : k = f.rules.length := by omega
  (repeat' (first | refine WP.seq ?_ | refine go_n ?_ | refine WP.exit ?_ | refine WP.ret ?_ | refine go_x ?_ | refine bl_x ?_ | refine bo_r ?_ | (refine wp_cond (by exact rfl) (fun hc => ?_) (fun hc => ?_) <;> (try simp only [decide_eq_true_eq, decide_eq_false_iff_not, Decidable.not_not, Bool.and_eq_true, Bool.or_eq_true, Bool.not_eq_true', Bool.not_eq_false', Bool.or_eq_false_iff, Bool.and_eq_false_iff, Int.not_lt, Int.not_le, reduceCtorEq, ne_eq, Bool.not_true, Bool.not_false, Bool.not_eq_true, Bool.not_eq_false] at hc) <;> (try (exfalso; omega))) | (refine WP.regionC (id := 17) ?_; (refine su (ap_move (by exact rq_p rfl rfl)) ?_); (refine su (ap_field_p (by exact rq_p rfl rfl) (by exact rfl) (by exact rfl)) ?_); (refine su (ap_load_p (by exact rq_p rfl rfl) (by exact rfl) (by exact rfl) (by exact rfl)) ?_); (refine su (ap_len_m (by exact rfl) (by exact rq_p rfl rfl)) ?_); (refine su (ap_lss (by exact rq_p rfl rfl) (by exact rq_p rfl rfl)) ?_); refine asemC_end ?_) | (refine WP.regionC (id := 27) ?_; (refine su (ap_move (by exact rq_p rfl rfl)) ?_); (refine su (ap_assign (by exact rq_p rfl rfl)) ?_); refine asemC_end ?_) | exact ret_eq (by exact rfl) (by exact rfl) rfl))
end Go.Lg

/- Plain: a small valid file has a short text. -/
namespace Go.Lg

mutual
def cntE : GEx → Nat
  | .mk _ _ l => 1 + cntL l
def cntL : List GEx → Nat
  | [] => 0
  | e :: l => cntE e + cntL l
end
theorem cntE_eq (e : GEx) : cntE e = 1 + cntL e.kids := by cases e; rw [cntE]; rfl
theorem gnOk_size {s : ByteArray} (h : gnOk s = true) : s.size ≤ 24 := by
  simp only [gnOk, Bool.and_eq_true, decide_eq_true_eq] at h; exact h.1.1.2
theorem tail_len {k : Int} {n : ByteArray} {m : Nat} (h : okK k n m = true) : (tailT k n).length ≤ 24 := by
  unfold tailT
  split
  · rename_i h1
    subst h1
    simp [okK] at h
    rw [bl_len]; exact gnOk_size h.1
  · split
    · simp
    · split
      · simp
      · split <;> simp
theorem encT_le (t : List UInt8) (r : Bool) : (encT t r).length ≤ t.length + 2 := by cases r <;> simp [encT]
theorem sep_le (k : Int) : (sepT k).length ≤ 3 := by unfold sepT; split; · simp
                                                     split <;> simp
theorem kids_len (k : Int) : ∀ (l : List GEx) (m : Bool), (∀ x, x ∈ l → (exT x).length + 16 ≤ 40 * cntE x) → (kidsT k m l).length ≤ 40 * cntL l
  | [], m, _ => by simp [kidsT]
  | e :: l, m, h => by
    have h1 := h e (by simp)
    have h2 := kids_len k l true fun x hx => h x (by simp [hx])
    have h3 := encT_le (exT e) (reqP k e)
    have h4 := sep_le k
    rw [kidsT, cntL, List.length_append, List.length_append]
    have h5 : (if m = true then sepT k else []).length ≤ 3 := by split; · exact h4
                                                                 · simp
    omega
theorem exT_len (e : GEx) : ∀ d : Int, okE e d = true → (exT e).length + 16 ≤ 40 * cntE e := by
  induction e using GEx.ind with
  | h e ih =>
    intro d h
    obtain ⟨h1, h2⟩ := okE_iff h
    have h3 := kids_len e.kind e.kids false fun x hx => ih x hx _ (h2 x hx)
    have h4 := tail_len h1
    rw [exT_eq, List.length_append, cntE_eq]
    omega
theorem nodesG_ge (m : Int) : ∀ (l : List GEx) (n : Int), n ≤ nodesG l m n
  | [], n => by rw [nodesG]; exact Int.le_refl _
  | e :: l, n => by
    rw [nodesG]
    split
    · have h1 := nodesG_ge m l (n + nodesR e (m - n))
      have h2 := nodesR_bd e (m - n) (by omega)
      omega
    · exact Int.le_refl _
theorem nodesG_cnt (m : Int) : ∀ (l : List GEx) (n : Int), (∀ x, x ∈ l → ∀ m' : Int, nodesR x m' ≤ m' → (cntE x : Int) ≤ nodesR x m') → nodesG l m n ≤ m → (cntL l : Int) + n ≤ nodesG l m n
  | [], n, _, _ => by rw [nodesG, cntL]; omega
  | e :: l, n, hc, h => by
    rw [nodesG] at h ⊢
    split
    · rename_i hn
      rw [if_pos hn] at h
      have h1 := nodesG_ge m l (n + nodesR e (m - n))
      have h2 := hc e (by simp) (m - n) (by omega)
      have h3 := nodesG_cnt m l (n + nodesR e (m - n)) (fun x hx => hc x (by simp [hx])) h
      rw [cntL]; omega
    · rename_i hn; rw [if_neg hn] at h; exact absurd h hn
theorem nodesR_cnt (e : GEx) : ∀ m : Int, nodesR e m ≤ m → (cntE e : Int) ≤ nodesR e m := by
  induction e using GEx.ind with
  | h e ih =>
    intro m h
    rw [nodesR_eq] at h ⊢
    have := nodesG_cnt m e.kids 1 ih h
    rw [cntE_eq]; omega
/-- the text of the first k alternatives -/
theorem altT_len {a : GAl} (h : altOk a = true) : (altT a).length ≤ 40 * (cntE a.body + 1) := by
  obtain ⟨⟨hp0, hp1⟩, hE⟩ := altOk_iff.1 h
  have h1 := exT_len _ _ hE
  have h2 := itoa_len hp0 hp1
  have h3 := encT_le (exT a.body) (decide (a.body.kind = 3))
  rw [altT, List.length_append]
  have h4 : (bodT a.body).length ≤ (exT a.body).length + 3 := by
    unfold bodT; split
    · simp; omega
    · simp
  have h5 : (prT a.price).length ≤ 28 := by
    unfold prT; split
    · simp
    · simp [wPrice]; omega
  omega
theorem szA_ge (r : GRu) (m n : Int) (k : Nat) : n ≤ szA r m n k := (szA_bd r m n k).1
theorem alts_len {r : GRu} (hr : ∀ a, a ∈ r.alts → altOk a = true) {m n : Int} : ∀ k, k ≤ r.alts.length → szA r m n k ≤ m → ((altsT r.alts k).length : Int) ≤ 50 * (szA r m n k - n)
  | 0, _, _ => by simp [altsT, szA]
  | k + 1, hk, h => by
    rw [szA] at h ⊢
    split
    · rename_i hle
      rw [if_pos hle] at h
      have h1 := alts_len hr (m := m) (n := n) k (by omega) hle
      have h2 := altT_len (hr _ (nth_mem (l := r.alts) (k := k) (by omega)))
      have h3 := nodesR_cnt (nth r.alts k).body (m - szA r m n k) (by omega)
      have h4 := nodesR_bd (nth r.alts k).body (m - szA r m n k) (by omega)
      rw [altsT, List.length_append, List.length_append]
      have h5 : (if k = 0 then ([] : List UInt8) else [32, 124]).length ≤ 2 := by split <;> simp
      omega
    · rename_i hle; rw [if_neg hle] at h; exact absurd h hle

/-- what the text needs of a valid file -/
structure FVal (f : GFi) : Prop where
  rule : ∀ r, r ∈ f.rules → gruleOk r = true
  level : ∀ l, l ∈ f.levels → glevelOk l = true
  rn : ∀ x, x ∈ rnames f f.rules.length → gnOk x = true
  rd : (rnames f f.rules.length).Nodup
  tk : ∀ x, x ∈ toks f f.levels.length → gnOk x = true
  td : (toks f f.levels.length).Nodup
  st : gnOk f.start = true
theorem FVal.of {f : GFi} (h : validF f = true) : FVal f := by
  simp only [validF, Bool.and_eq_true, List.all_eq_true, decide_eq_true_eq] at h
  have h1 := distOk_iff.1 h.1.1.2
  have h2 := distOk_iff.1 h.1.2
  refine ⟨h.1.1.1.1.2, h.1.1.1.2, h1.1, h1.2, h2.1, h2.2, ?_⟩
  have h3 := h.2
  rw [List.any_eq_true] at h3
  obtain ⟨x, hx, he⟩ := h3
  rw [decide_eq_true_eq] at he
  rw [he]; exact h1.1 x hx
theorem FVal.alt {f : GFi} (h : FVal f) : ∀ r, r ∈ f.rules → ∀ a, a ∈ r.alts → altOk a = true := by
  intro r hr a ha
  have := h.rule r hr
  simp only [gruleOk, Bool.and_eq_true, List.all_eq_true] at this
  exact this.2 a ha
theorem FVal.name {f : GFi} (h : FVal f) : ∀ r, r ∈ f.rules → r.name.size ≤ 24 := by
  intro r hr
  refine gnOk_size (h.rn _ ?_)
  rw [rnames_all]; exact List.mem_map.2 ⟨r, hr, rfl⟩
theorem FVal.tok {f : GFi} (h : FVal f) : ∀ l, l ∈ f.levels → ∀ t, t ∈ l.tokens → t.size ≤ 24 := by
  intro l hl t ht
  refine gnOk_size (h.tk _ ?_)
  simp only [toks, List.take_of_length_le (Nat.le_refl _), List.mem_flatten, List.mem_map]
  exact ⟨_, ⟨l, hl, rfl⟩, ht⟩
theorem lv_len {f : GFi} (h : FVal f) {l : GLe} (hl : l ∈ f.levels) : (lvT l).length ≤ 50 * (1 + l.tokens.length) := by
  have hne : l.tokens ≠ [] := by
    have := (glevel_iff.1 (h.level l hl)).2
    intro e; rw [e] at this; exact this rfl
  have h1 := spaced_len (l := l.tokens) (c := 24) (h.tok l hl)
  have h2 := word_size l.assoc
  rw [lvT_eq hne, List.length_append, List.length_append, bl_len]
  have h3 : endT.length = 2 := rfl
  omega
theorem levels_len {f : GFi} (h : FVal f) {m : Int} : ∀ j, j ≤ f.levels.length → szL f m j ≤ m → ((fmL f j).length : Int) ≤ 32 + 50 * szL f m j
  | 0, _, _ => by
    have := gnOk_size h.st
    have hz : (fm0 f).length = 8 + f.start.size := by simp [fm0, wStartT, endT, bl_len]; omega
    simp only [fmL, szL, List.take_zero, List.map_nil, List.flatten_nil, List.append_nil, hz]
    omega
  | j + 1, hj, hs => by
    rw [szL] at hs ⊢
    split
    · rename_i hle
      rw [if_pos hle] at hs
      have h1 := levels_len h (m := m) j (by omega) hle
      have h2 := lv_len h (nth_mem (l := f.levels) (k := j) (by omega))
      rw [fmL_succ (by omega), List.length_append]
      omega
    · rename_i hle; rw [if_neg hle] at hs; exact absurd hs hle
theorem rules_len {f : GFi} (h : FVal f) (hT : TokB f) {m : Int} (h0 : 0 ≤ m) : ∀ i, i ≤ f.rules.length → szR f m i ≤ m → ((fmR f i).length : Int) ≤ 32 + 50 * szR f m i
  | 0, _, hs => by
    rw [szR] at hs ⊢
    have := levels_len h f.levels.length (Nat.le_refl _) hs
    simpa [fmR] using this
  | i + 1, hi, hs => by
    rw [szR] at hs ⊢
    split
    · rename_i hle
      rw [if_pos hle] at hs
      have h1 := rules_len h hT h0 i (by omega) hle
      have hm := nth_mem (l := f.rules) (k := i) (by omega)
      have h2 := alts_len (r := nth f.rules i) (h.alt _ hm) (m := m) (n := szR f m i + 1) (nth f.rules i).alts.length (Nat.le_refl _) hs
      have h3 := h.name _ hm
      have hrt : (ruT (nth f.rules i)).length = (nth f.rules i).name.size + 2 + ((altsT (nth f.rules i).alts (nth f.rules i).alts.length).length + 2) := by
        simp [ruT, endT, bl_len]; omega
      rw [fmR_succ (by omega), List.length_append, hrt]
      omega
    · rename_i hle; rw [if_neg hle] at hs; exact absurd hs hle
theorem fmt_len {f : GFi} (hv : validF f = true) (hT : TokB f) (hs : sizeF f 200 ≤ 200) : (fmtF f).length ≤ 20000 := by
  have := rules_len (FVal.of hv) hT (m := 200) (by decide) f.rules.length (Nat.le_refl _) hs
  unfold sizeF at hs
  unfold fmtF
  omega
theorem prices {f : GFi} (hv : validF f = true) : ∀ r, r ∈ f.rules → ∀ a, a ∈ r.alts → 0 ≤ a.price ∧ a.price ≤ 1000 :=
  fun r hr a ha => (altOk_iff.1 ((FVal.of hv).alt r hr a ha)).1
end Go.Lg

/- the law about grammar files: Format -/
namespace Go.Lg
open Go.Proofs
set_option linter.unusedSimpArgs false
set_option linter.unusedVariables false
attribute [local irreducible] Ap Rq asemC WP RunD Ret Gq thenA inBlockA bodyQ noGotoA RqL RqP OpP
set_option maxHeartbeats 8000000
set_option maxRecDepth 20000

theorem law_fformat (f : GFi) (hf : f.fit ∧ TokB f) : Fn Tryd.prog 5 [fileA f] (boolA true) := by
  have hs := small_fn f hf.2 200 (by decide) (by decide)
  by_cases hz : sizeF f 200 ≤ 200
  · have ht := toks_small hf.2 (by decide) hz
    have h2 := rvalid_fn f hf.1 (by omega)
    by_cases hv : validF f = true
    · have hl := fmt_len hv hf.2 hz
      have h3 := format_fn f (prices hv) (by omega)
      have h4 := rformat_fn f hv (by omega)
      refine Fn.intro (by exact rfl) (by kernel_rfl) Tryd.func5 rfl rfl Tryd.ntmps5 (by exact Nat.le_of_ble_eq_true rfl) ?_; intro Γ hm
      (repeat' (first | refine WP.seq ?_ | refine go_n ?_ | refine WP.skip ?_ | refine WP.ret ?_ | refine go_r ?_ | refine bo_r ?_ | (refine wp_cond (by exact rfl) (fun hc => ?_) (fun hc => ?_) <;> (try simp only [decide_eq_true_eq, decide_eq_false_iff_not, Decidable.not_not, Bool.and_eq_true, Bool.or_eq_true, Bool.not_eq_true', Bool.not_eq_false', Bool.or_eq_false_iff, Bool.and_eq_false_iff, Int.not_lt, Int.not_le, reduceCtorEq, ne_eq, Bool.not_true, Bool.not_false, Bool.not_eq_true, Bool.not_eq_false] at hc) <;> (try (exfalso; omega))) | (refine WP.regionC (id := 0) ?_; (refine se_box (by exact rfl) (by exact ⟨rfl, rfl⟩) ?_); (refine su (ap_assign (by exact rq_p rfl rfl)) ?_); refine asemC_end ?_) | (refine WP.regionC (id := 1) ?_; (refine su (ap_load_pw (by exact rq_p rfl rfl) (by exact rfl) (by exact rfl) (by exact rfl)) ?_); (refine sc_p rfl rfl (by first | ((repeat' first | exact SubL.nil | refine SubL.cons ?_ ?_ | exact Sub.refl); done) | fail) (by first | (simp [bdL, bdL_append, AV.bd]; done) | fail) (hs) ?_); (refine su (ap_not (by exact rq_p rfl rfl)) ?_); (refine su (ap_move (by exact rq_p rfl rfl)) ?_); (refine sg (by exact gq_vf rfl rfl) (fun he => ap_load_pw (by exact rq_p rfl rfl) (by exact rfl) (by exact rfl) (by exact rfl)) ?_); (refine sg_p (by exact gq_vf rfl rfl) (fun he => ⟨(by exact rq_p rfl rfl), (RqL.cons (by exact rq_c rfl rfl) (RqL.nil)), (by first | ((repeat' first | exact SubL.nil | refine SubL.cons ?_ ?_ | exact Sub.refl); done) | fail), (by first | (simp [bdL, bdL_append, AV.bd]; done) | fail), h2⟩) ?_); (refine sg (by exact gq_vf rfl rfl) (fun he => ap_not (by exact rq_c rfl rfl)) ?_); (refine su (ap_or (by exact rq_p rfl rfl) (by exact rq_c rfl rfl)) ?_); refine asemC_end ?_) | (refine WP.regionC (id := 2) ?_; (refine sc_p rfl rfl (by first | ((repeat' (exact SubL.nil)); done) | fail) (by first | (simp [bdL, bdL_append, AV.bd]; done) | fail) (awake16_fn) ?_); (refine su (ap_assign (by exact rq_p rfl rfl)) ?_); refine asemC_end ?_) | (refine wp_draw (id := 3) 9 mixed (by kernel_rfl) (by kernel_rfl) rfl ?_ <;> (refine rd_call rfl rfl (by first | ((repeat' (exact SubL.nil)); done) | fail) (by first | (simp [bdL, bdL_append, AV.bd]; done) | fail) (awake16_fn) ?_) <;> (refine rd_u (by exact rfl) (by exact rfl) (ap_move (by exact rq_p rfl rfl)) ?_) <;> (refine rdg_u rfl rfl (by exact rfl) (by exact rfl) (ap_load_pw (by exact rq_p rfl rfl) (by exact rfl) (by exact rfl) (by exact rfl)) ?_) <;> (refine rdg_call rfl (by exact rfl) rfl rfl (by first | ((repeat' first | exact SubL.nil | refine SubL.cons ?_ ?_ | exact Sub.refl); done) | fail) (by first | (simp [bdL, bdL_append, AV.bd]; done) | fail) (h3) ?_) <;> (refine rdg_u rfl rfl (by exact rfl) (by exact rfl) (ap_load_pw (by exact rq_p rfl rfl) (by exact rfl) (by exact rfl) (by exact rfl)) ?_) <;> (refine rdg_call rfl (by exact rfl) rfl rfl (by first | ((repeat' first | exact SubL.nil | refine SubL.cons ?_ ?_ | exact Sub.refl); done) | fail) (by first | (simp [bdL, bdL_append, AV.bd]; done) | fail) (h4) ?_) <;> (refine rdg_u rfl rfl (by exact rfl) (by exact rfl) (ap_eqs (by exact rq_p rfl rfl) (by exact rq_p rfl rfl)) ?_) <;> (refine rd_pick_t (by exact rfl) (by exact rfl) ?_) <;> (refine rd_u (by exact rfl) (by exact rfl) (ap_assign (by exact rq_p rfl rfl)) ?_) <;> (refine rd_end (by kernel_rfl) ?_)) | exact ret_eq (by exact rfl) (by exact rfl) rfl | refine ret_b (by exact rfl) ?_))
      simp
    · refine Fn.intro (by exact rfl) (by kernel_rfl) Tryd.func5 rfl rfl Tryd.ntmps5 (by exact Nat.le_of_ble_eq_true rfl) ?_; intro Γ hm
      (repeat' (first | refine WP.seq ?_ | refine go_n ?_ | refine WP.skip ?_ | refine WP.ret ?_ | refine go_r ?_ | refine bo_r ?_ | (refine wp_cond (by exact rfl) (fun hc => ?_) (fun hc => ?_) <;> (try simp only [decide_eq_true_eq, decide_eq_false_iff_not, Decidable.not_not, Bool.and_eq_true, Bool.or_eq_true, Bool.not_eq_true', Bool.not_eq_false', Bool.or_eq_false_iff, Bool.and_eq_false_iff, Int.not_lt, Int.not_le, reduceCtorEq, ne_eq, Bool.not_true, Bool.not_false, Bool.not_eq_true, Bool.not_eq_false] at hc) <;> (try (exfalso; omega))) | (refine WP.regionC (id := 0) ?_; (refine se_box (by exact rfl) (by exact ⟨rfl, rfl⟩) ?_); (refine su (ap_assign (by exact rq_p rfl rfl)) ?_); refine asemC_end ?_) | (refine WP.regionC (id := 1) ?_; (refine su (ap_load_pw (by exact rq_p rfl rfl) (by exact rfl) (by exact rfl) (by exact rfl)) ?_); (refine sc_p rfl rfl (by first | ((repeat' first | exact SubL.nil | refine SubL.cons ?_ ?_ | exact Sub.refl); done) | fail) (by first | (simp [bdL, bdL_append, AV.bd]; done) | fail) (hs) ?_); (refine su (ap_not (by exact rq_p rfl rfl)) ?_); (refine su (ap_move (by exact rq_p rfl rfl)) ?_); (refine sg (by exact gq_vf rfl rfl) (fun he => ap_load_pw (by exact rq_p rfl rfl) (by exact rfl) (by exact rfl) (by exact rfl)) ?_); (refine sg_p (by exact gq_vf rfl rfl) (fun he => ⟨(by exact rq_p rfl rfl), (RqL.cons (by exact rq_c rfl rfl) (RqL.nil)), (by first | ((repeat' first | exact SubL.nil | refine SubL.cons ?_ ?_ | exact Sub.refl); done) | fail), (by first | (simp [bdL, bdL_append, AV.bd]; done) | fail), h2⟩) ?_); (refine sg (by exact gq_vf rfl rfl) (fun he => ap_not (by exact rq_c rfl rfl)) ?_); (refine su (ap_or (by exact rq_p rfl rfl) (by exact rq_c rfl rfl)) ?_); refine asemC_end ?_) | (refine WP.regionC (id := 2) ?_; (refine sc_p rfl rfl (by first | ((repeat' (exact SubL.nil)); done) | fail) (by first | (simp [bdL, bdL_append, AV.bd]; done) | fail) (awake16_fn) ?_); (refine su (ap_assign (by exact rq_p rfl rfl)) ?_); refine asemC_end ?_) | exact ret_eq (by exact rfl) (by exact rfl) rfl))
      exact absurd hc.2 hv
  · refine Fn.intro (by exact rfl) (by kernel_rfl) Tryd.func5 rfl rfl Tryd.ntmps5 (by exact Nat.le_of_ble_eq_true rfl) ?_; intro Γ hm
    (repeat' (first | refine WP.seq ?_ | refine go_n ?_ | refine WP.ret ?_ | refine go_r ?_ | refine bo_r ?_ | (refine wp_cond (by exact rfl) (fun hc => ?_) (fun hc => ?_) <;> (try simp only [decide_eq_true_eq, decide_eq_false_iff_not, Decidable.not_not, Bool.and_eq_true, Bool.or_eq_true, Bool.not_eq_true', Bool.not_eq_false', Bool.or_eq_false_iff, Bool.and_eq_false_iff, Int.not_lt, Int.not_le, reduceCtorEq, ne_eq, Bool.not_true, Bool.not_false, Bool.not_eq_true, Bool.not_eq_false] at hc) <;> (try (exfalso; omega))) | (refine WP.regionC (id := 0) ?_; (refine se_box (by exact rfl) (by exact ⟨rfl, rfl⟩) ?_); (refine su (ap_assign (by exact rq_p rfl rfl)) ?_); refine asemC_end ?_) | (refine WP.regionC (id := 1) ?_; (refine su (ap_load_pw (by exact rq_p rfl rfl) (by exact rfl) (by exact rfl) (by exact rfl)) ?_); (refine sc_p rfl rfl (by first | ((repeat' first | exact SubL.nil | refine SubL.cons ?_ ?_ | exact Sub.refl); done) | fail) (by first | (simp [bdL, bdL_append, AV.bd]; done) | fail) (hs) ?_); (refine su (ap_not (by exact rq_p rfl rfl)) ?_); (refine su (ap_move (by exact rq_p rfl rfl)) ?_); (refine sg (by exact gq_vf rfl rfl) (fun he => ap_load_pw (by exact rq_p rfl rfl) (by exact rfl) (by exact rfl) (by exact rfl)) ?_); (refine sg_p (by exact gq_vf rfl rfl) (fun he => ⟨(by exact rq_p rfl rfl), (RqL.cons (by exact rq_c rfl rfl) (RqL.nil)), (by first | ((repeat' first | exact SubL.nil | refine SubL.cons ?_ ?_ | exact Sub.refl); done) | fail), (by first | (simp [bdL, bdL_append, AV.bd]; done) | fail), rvalid_fn f hf.1 (by simp at he; have := toks_small hf.2 (by decide) he; omega)⟩) ?_); (refine sg (by exact gq_vf rfl rfl) (fun he => ap_not (by exact rq_c rfl rfl)) ?_); (refine su (ap_or (by exact rq_p rfl rfl) (by exact rq_c rfl rfl)) ?_); refine asemC_end ?_) | (refine WP.regionC (id := 2) ?_; (refine sc_p rfl rfl (by first | ((repeat' (exact SubL.nil)); done) | fail) (by first | (simp [bdL, bdL_append, AV.bd]; done) | fail) (awake16_fn) ?_); (refine su (ap_assign (by exact rq_p rfl rfl)) ?_); refine asemC_end ?_) | exact ret_eq (by exact rfl) (by exact rfl) rfl))
end Go.Lg

/- Plain: the lines of a text. -/
namespace Go.Lg

/-- each newline stands behind a semicolon -/
def SemiNl (l : List UInt8) : Prop := ∀ i : Nat, l[i]? = some 10 → ∃ j : Nat, i = j + 1 ∧ l[j]? = some 59
def noNl (l : List UInt8) : Prop := (10 : UInt8) ∉ l
theorem SemiNl.app {a b : List UInt8} (ha : SemiNl a) (hb : SemiNl b) : SemiNl (a ++ b) := by
  intro i hi
  by_cases h : i < a.length
  · rw [List.getElem?_append_left h] at hi
    obtain ⟨j, rfl, hj⟩ := ha i hi
    exact ⟨j, rfl, by rw [List.getElem?_append_left (by omega)]; exact hj⟩
  · rw [List.getElem?_append_right (by omega)] at hi
    obtain ⟨j, hij, hj⟩ := hb _ hi
    exact ⟨a.length + j, by omega, by rw [List.getElem?_append_right (by omega), Nat.add_sub_cancel_left]; exact hj⟩
theorem SemiNl.line {b : List UInt8} (h : noNl b) : SemiNl (b ++ endT) := by
  intro i hi
  by_cases hlt : i < b.length
  · rw [List.getElem?_append_left hlt] at hi
    exact absurd (List.mem_of_getElem? hi) h
  · rw [List.getElem?_append_right (by omega)] at hi
    have : i - b.length = 1 := by
      match hq : i - b.length, hi with
      | 0, hi => simp [endT] at hi
      | 1, _ => rfl
      | k + 2, hi => simp [endT] at hi
    exact ⟨b.length, by omega, by rw [List.getElem?_append_right (Nat.le_refl _), Nat.sub_self]; rfl⟩
theorem noNl_app {a b : List UInt8} : noNl (a ++ b) ↔ noNl a ∧ noNl b := by simp [noNl, not_or]
theorem count_line {b : List UInt8} (h : noNl b) : (b ++ endT).count 10 = 1 := by
  rw [List.count_append, List.count_eq_zero.2 h]; rfl
theorem noNl_name {s : ByteArray} (h : gnOk s = true) : noNl (bl s) := by
  intro hm
  simp only [gnOk, Bool.and_eq_true, List.all_eq_true, List.mem_range] at h
  obtain ⟨i, hi, he⟩ := List.getElem_of_mem hm
  have hsz : i < s.size := by rw [← bl_len]; exact hi
  have h1 := h.1.2 i hsz
  have hb : bAt s i = 10 := by
    have : s.data.toList.getD i 0 = 10 := by
      have h2 : s.data.toList[i]? = some 10 := by
        show (bl s)[i]? = some 10
        rw [List.getElem?_eq_getElem hi, he]
      simp [List.getD, h2]
    simp only [bAt, this]; rfl
  simp [gnCh, letB, digB, hb] at h1
theorem noNl_dec (u : Nat) : noNl (Lib.decDigits u) := by
  induction u using Nat.strongRecOn with
  | _ u ih =>
    rw [Lib.decDigits]
    have key : ∀ k, k < 10 → UInt8.ofNat (48 + k) ≠ 10 := by decide
    split
    · rename_i h
      intro hm
      exact key u h (List.mem_singleton.1 hm).symm
    · rename_i h
      refine noNl_app.2 ⟨ih _ (by omega), fun hm => key (u % 10) (by omega) (List.mem_singleton.1 hm).symm⟩
end Go.Lg

/- Plain: the text of a valid file has one line more than levels and rules; each ends with a semicolon. -/
namespace Go.Lg

theorem noNl_enc {t : List UInt8} (h : noNl t) (r : Bool) : noNl (encT t r) := by
  cases r
  · exact h
  · simp only [encT, if_true]
    exact noNl_app.2 ⟨noNl_app.2 ⟨by simp [noNl], h⟩, by simp [noNl]⟩
theorem noNl_sep (k : Int) : noNl (sepT k) := by
  unfold sepT; split
  · simp [noNl]
  · split <;> simp [noNl]
theorem noNl_kids (k : Int) : ∀ (l : List GEx) (m : Bool), (∀ x, x ∈ l → noNl (exT x)) → noNl (kidsT k m l)
  | [], m, _ => by rw [kidsT]; simp [noNl]
  | e :: l, m, h => by
    rw [kidsT]
    refine noNl_app.2 ⟨noNl_app.2 ⟨?_, noNl_enc (h e (by simp)) _⟩, noNl_kids k l true fun x hx => h x (by simp [hx])⟩
    split
    · exact noNl_sep k
    · simp [noNl]
theorem noNl_ex (e : GEx) : ∀ d : Int, okE e d = true → noNl (exT e) := by
  induction e using GEx.ind with
  | h e ih =>
    intro d h
    obtain ⟨h1, h2⟩ := okE_iff h
    rw [exT_eq]
    refine noNl_app.2 ⟨noNl_kids _ _ _ fun x hx => ih x hx _ (h2 x hx), ?_⟩
    unfold tailT
    split
    · rename_i hk
      rw [hk] at h1
      simp [okK] at h1
      exact noNl_name h1.1
    · split
      · simp [noNl]
      · split
        · simp [noNl]
        · split <;> simp [noNl]
theorem noNl_alt {a : GAl} (h : altOk a = true) : noNl (altT a) := by
  obtain ⟨⟨hp0, hp1⟩, hE⟩ := altOk_iff.1 h
  refine noNl_app.2 ⟨?_, ?_⟩
  · unfold bodT; split
    · exact noNl_app.2 ⟨by simp [noNl], noNl_enc (noNl_ex _ _ hE) _⟩
    · simp [noNl]
  · unfold prT; split
    · simp [noNl]
    · refine noNl_app.2 ⟨by simp [noNl, wPrice], ?_⟩
      obtain ⟨n, hn⟩ := Int.eq_ofNat_of_zero_le hp0
      rw [hn, Lib.itoa_nonneg]; exact noNl_dec n
theorem noNl_alts {l : List GAl} (h : ∀ a, a ∈ l → altOk a = true) : ∀ k, k ≤ l.length → noNl (altsT l k)
  | 0, _ => by simp [altsT, noNl]
  | k + 1, hk => by
    rw [altsT]
    refine noNl_app.2 ⟨noNl_alts h k (by omega), noNl_app.2 ⟨?_, noNl_alt (h _ (nth_mem (by omega)))⟩⟩
    split <;> simp [noNl]
theorem noNl_spaced {l : List ByteArray} (h : ∀ x, x ∈ l → gnOk x = true) : noNl (spaced l) := by
  intro hm
  simp only [spaced, List.mem_flatten, List.mem_map] at hm
  obtain ⟨y, ⟨x, hx, rfl⟩, hy⟩ := hm
  rcases List.mem_cons.1 hy with he | he
  · cases he
  · exact noNl_name (h x hx) he
theorem noNl_word (a : Int) : noNl (bl (wordT a)) := by
  unfold wordT; split
  · simp [noNl, bl, kw1]
  · split <;> simp [noNl, bl, kw2, kw3]
theorem FVal.toks {f : GFi} (h : FVal f) {l : GLe} (hl : l ∈ f.levels) : ∀ t, t ∈ l.tokens → gnOk t = true := by
  intro t ht
  refine h.tk _ ?_
  simp only [Lg.toks, List.take_of_length_le (Nat.le_refl _), List.mem_flatten, List.mem_map]
  exact ⟨_, ⟨l, hl, rfl⟩, ht⟩
theorem fm0_line (f : GFi) : fm0 f = (wStartT ++ bl f.start) ++ endT := by simp [fm0]
theorem lv_line {f : GFi} (h : FVal f) {l : GLe} (hl : l ∈ f.levels) : ∃ b, lvT l = b ++ endT ∧ noNl b := by
  have hne : l.tokens ≠ [] := by
    have := (glevel_iff.1 (h.level l hl)).2
    intro e; rw [e] at this; exact this rfl
  exact ⟨_, lvT_eq hne, noNl_app.2 ⟨noNl_word _, noNl_spaced (h.toks hl)⟩⟩
theorem ru_line {f : GFi} (h : FVal f) {r : GRu} (hr : r ∈ f.rules) : ∃ b, ruT r = b ++ endT ∧ noNl b := by
  refine ⟨(bl r.name ++ [32, 61]) ++ altsT r.alts r.alts.length, by simp [ruT], noNl_app.2 ⟨noNl_app.2 ⟨noNl_name (h.rn _ ?_), by simp [noNl]⟩, noNl_alts (h.alt r hr) _ (Nat.le_refl _)⟩⟩
  rw [rnames_all]; exact List.mem_map.2 ⟨r, hr, rfl⟩
/-- lines, and how many -/
structure Lines (l : List UInt8) (n : Nat) : Prop where
  semi : SemiNl l
  count : l.count 10 = n
  last : ∃ b, l = b ++ endT
theorem Lines.one {b : List UInt8} (h : noNl b) : Lines (b ++ endT) 1 := ⟨SemiNl.line h, count_line h, _, rfl⟩
theorem Lines.add {l : List UInt8} {n : Nat} (h : Lines l n) {b : List UInt8} (hb : noNl b) : Lines (l ++ (b ++ endT)) (n + 1) :=
  ⟨h.semi.app (SemiNl.line hb), by rw [List.count_append, h.count, count_line hb], l ++ b, by rw [List.append_assoc]⟩
theorem lines_levels {f : GFi} (h : FVal f) : ∀ j, j ≤ f.levels.length → Lines (fmL f j) (1 + j)
  | 0, _ => by
    have e : fmL f 0 = (wStartT ++ bl f.start) ++ endT := by simp [fmL, fm0_line]
    rw [e]
    exact Lines.one (noNl_app.2 ⟨by simp [noNl, wStartT], noNl_name h.st⟩)
  | j + 1, hj => by
    obtain ⟨b, hb, hn⟩ := lv_line h (nth_mem (l := f.levels) (k := j) (by omega))
    rw [fmL_succ (by omega), hb]
    exact (lines_levels h j (by omega)).add hn
theorem lines_rules {f : GFi} (h : FVal f) : ∀ i, i ≤ f.rules.length → Lines (fmR f i) (1 + f.levels.length + i)
  | 0, _ => by
    have e : fmR f 0 = fmL f f.levels.length := by simp [fmR]
    rw [e]; exact lines_levels h _ (Nat.le_refl _)
  | i + 1, hi => by
    obtain ⟨b, hb, hn⟩ := ru_line h (nth_mem (l := f.rules) (k := i) (by omega))
    rw [fmR_succ (by omega), hb]
    exact (lines_rules h i (by omega)).add hn
end Go.Lg

/-
  Functions that hand back objects of their own: contracts, calls, ends.
-/
namespace Go.Lg
open Go.RowKit

/-- THE CONTRACT OF A FUNCTION that is lent the objects os (numbers 0, 1, ..) and hands back the objects os': the lent ones first, as they are then, its new ones behind them. -/
structure FnO (P : Program) (g : FuncId) (ys : List AV) (os : List AObj) (X : AV) (os' : List (Option AObj)) : Prop where
  spec : Spec P g ys (os.map some) fun r o' => r = X ∧ o' = os'
  len : os.length ≤ os'.length
  bd : X.bd os'.length = true

/-- the new objects with the caller -/
def newO (π : Nat → Nat) (M : Nat) : List (Option AObj) → List (Nat × Option AObj) → List (Nat × Option AObj)
  | [], os => os
  | o :: r, os => newO π (M + 1) r ((M, o.map (AObj.ren π)) :: os)
def updN (π : Nat → Nat) (M : Nat) : List Nat → List (Option AObj) → List (Nat × Option AObj) → List (Nat × Option AObj)
  | i :: is, o :: os', os => updN π M is os' ((i, o.map (AObj.ren π)) :: os)
  | _, os', os => newO π M os' os
theorem ol_newO {π : Nat → Nat} : ∀ (os' : List (Option AObj)) (M : Nat) (os : List (Nat × Option AObj)), ol M os ++ os'.map (Option.map (AObj.ren π)) = ol (M + os'.length) (newO π M os' os)
  | [], M, os => by simp [newO]
  | o :: r, M, os => by
    rw [List.map_cons, ← List.singleton_append, ← List.append_assoc, ol_push, ol_newO r (M + 1), newO]
    congr 1; simp; omega
theorem updN_ol {π : Nat → Nat} {M : Nat} : ∀ (is : List Nat) (os' : List (Option AObj)) (os : List (Nat × Option AObj)), is.length ≤ os'.length → updO π (ol M os) is os' = ol (M + (os'.length - is.length)) (updN π M is os' os)
  | [], os', os, _ => by
    have e : updN π M [] os' os = newO π M os' os := by unfold updN; rfl
    have e2 : updO π (ol M os) [] os' = ol M os ++ os'.map (Option.map (AObj.ren π)) := by unfold updO; rfl
    rw [e, e2, ol_newO]; simp
  | i :: is, o :: os', os, h => by
    simp only [updO, ol_set, updN]
    rw [updN_ol is os' _ (by simpa using h)]
    simp
  | _ :: _, [], _, h => by simp at h

section
variable {P : Program} {Γ : Cx} {n M : Nat} {l : List (Nat × AV)} {os : List (Nat × Option AObj)} {x X : AV} {d t : Tmp} {ty : TypeId} {pos : String} {af : Array Edge} {ops : Array Oper} {rest : List Oper} {K : St → Prop} {g : FuncId} {first cap xa ys : List AV} {f : Operand} {args : Array Operand} {tys : Array TypeId}

/-- A call of such a function: its i-th object is the caller's number is[i], its new ones come behind the caller's. -/
theorem sc_o {aos : List AObj} {os' : List (Option AObj)} (is : List Nat) (hf : opq n l f = some (.clo (.func g) first cap)) (has : opqL n l args.toList = some xa) (hspec : FnO P g ys aos X os')
    (hL : Lend is (S n l M os) (first ++ xa ++ cap) ys aos)
    (hk : asemC P ops rest (S n ((d, X.ren (apx M is)) :: l) (M + (os'.length - is.length)) (updN (apx M is) M is os' os)) K) :
    asemC P ops (⟨some d, .call ⟨.value f, args, tys⟩, ty, pos, af, none⟩ :: rest) (S n l M os) K := by
  simp only [asemC]
  refine .inl ?_
  have hM : (S n l M os).objs.length = M := ol_length M os
  simp only [execA, opq_op hf, opqL_op has]
  refine Call.via is hspec.spec hL ?_
  rintro r o' ⟨rfl, rfl⟩
  have hil : is.length = aos.length := by have := wkRO_len hL.2.1; simpa using this.symm
  have := hspec.len
  refine ⟨hspec.len, hspec.bd, ?_⟩
  rw [hM]
  have e : (⟨(S n l M os).tmps, updO (apx M is) (S n l M os).objs is o'⟩ : St) = S n l (M + (o'.length - is.length)) (updN (apx M is) M is o' os) := by
    simp only [S]; rw [updN_ol is o' os (by omega)]
  rw [e, S_put]
  exact hk
theorem sc_o0 {aos : List AObj} {os' : List (Option AObj)} (is : List Nat) (hf : opq n l f = some (.clo (.func g) first cap)) (has : opqL n l args.toList = some xa) (hspec : FnO P g ys aos X os')
    (hL : Lend is (S n l M os) (first ++ xa ++ cap) ys aos)
    (hk : asemC P ops rest (S n l (M + (os'.length - is.length)) (updN (apx M is) M is os' os)) K) :
    asemC P ops (⟨none, .call ⟨.value f, args, tys⟩, ty, pos, af, none⟩ :: rest) (S n l M os) K := by
  simp only [asemC]
  refine .inl ?_
  have hM : (S n l M os).objs.length = M := ol_length M os
  simp only [execA, opq_op hf, opqL_op has]
  refine Call.via is hspec.spec hL ?_
  rintro r o' ⟨rfl, rfl⟩
  have hil : is.length = aos.length := by have := wkRO_len hL.2.1; simpa using this.symm
  have := hspec.len
  refine ⟨hspec.len, hspec.bd, ?_⟩
  rw [hM]
  have e : (⟨(S n l M os).tmps, updO (apx M is) (S n l M os).objs is o'⟩ : St) = S n l (M + (o'.length - is.length)) (updN (apx M is) M is o' os) := by
    simp only [S]; rw [updN_ol is o' os (by omega)]
  rw [e]
  exact hk

/-- The end of a function that hands back objects: m lent ones, os' behind it. -/
def RetO (P : Program) (rs : List ResultVar) (m : Nat) (X : AV) (os' : List (Option AObj)) (s : St) : Prop :=
  ∃ x is, resN P s rs = some x ∧ ToR m is ⟨[x], s.objs⟩ ⟨[X], os'⟩

theorem FnO.intro {fn : Func} {c : Code} {aos : List AObj} {os' : List (Option AObj)} {rs : List ResultVar} (hlen : aos.length ≤ os'.length) (hbd : X.bd os'.length = true) (he : enterable P g = true) (hf : P.funcs[g]? = some fn) (hb : fn.body = some c) (hrs : fn.results = rs.toArray) (hn : fn.ntmps = n) (hl : ys.length ≤ n)
    (h : ∀ Γ : Cx, Γ.m = aos.length → WP P Γ c (bodyQ (RetO P rs aos.length X os')) (S n (enumA 0 ys) aos.length (enumO 0 aos))) : FnO P g ys aos X os' := by
  refine ⟨Spec.introR he hf hb (rs := rs) (by rw [hrs]) fun Γ hm => ?_, hlen, hbd⟩
  subst hn
  rw [List.length_map] at hm
  rw [tl_start _ _ hl]
  have hw := h Γ hm
  simp only [S, ← ol_enum] at hw
  refine WP.mono hw ?_
  have key : ∀ s, RetO P rs aos.length X os' s → ∃ x y l t, resN P s rs = some x ∧ ToR (aos.map some).length l ⟨[x], s.objs⟩ ⟨[y], t⟩ ∧ (y = X ∧ t = os') := by
    rintro s ⟨x, is, h1, h2⟩
    exact ⟨x, X, is, os', h1, by rw [List.length_map]; exact h2, rfl, rfl⟩
  intro e s hq
  cases e with
  | normal => exact key s hq
  | ret => exact key s hq
  | _ => exact hq

theorem retO_1 {m : Nat} {os' : List (Option AObj)} {os1 : List (Nat × Option AObj)} {k : Nat} (h : opq n l (.tmp t) = some x) (hT : ∃ is, ToR m is (S 1 [(0, x)] M os) (S 1 [(0, X)] k os1)) (he : ol k os1 = os') : RetO P [.tmp t] m X os' (S n l M os) := by
  obtain ⟨is, hT⟩ := hT
  have := opq_op (M := M) (os := os) h
  simp only [St.op, S] at this
  refine ⟨x, is, ?_, ?_⟩
  · simp only [resN, resL, resA, tupA, S, this, Option.bind_some, Option.map_some]
  · subst he
    have e1 : ∀ y : AV, tl 1 [(0, y)] = [y] := fun y => rfl
    simp only [S, e1] at hT
    exact hT
theorem retO_0 {m : Nat} {os' : List (Option AObj)} {os1 : List (Nat × Option AObj)} {k : Nat} (hT : ∃ is, ToR m is (S 1 [(0, .tup [])] M os) (S 1 [(0, .tup [])] k os1)) (he : ol k os1 = os') : RetO P [] m (.tup []) os' (S n l M os) := by
  obtain ⟨is, hT⟩ := hT
  refine ⟨.tup [], is, ?_, ?_⟩
  · simp [resN, resL, tupA]
  · subst he
    have e1 : ∀ y : AV, tl 1 [(0, y)] = [y] := fun y => rfl
    simp only [S, e1] at hT
    exact hT
theorem retO_L {m : Nat} {rs : List ResultVar} {xs : List AV} {os' : List (Option AObj)} {os1 : List (Nat × Option AObj)} {k : Nat} (hr : ResL P n l M os rs xs) (hx : tupA xs = x) (hT : ∃ is, ToR m is (S 1 [(0, x)] M os) (S 1 [(0, X)] k os1)) (he : ol k os1 = os') : RetO P rs m X os' (S n l M os) := by
  obtain ⟨is, hT⟩ := hT
  refine ⟨x, is, ?_, ?_⟩
  · simp only [resN, hr.ok, Option.map_some, hx]
  · subst he
    have e1 : ∀ y : AV, tl 1 [(0, y)] = [y] := fun y => rfl
    simp only [S, e1] at hT
    exact hT
end
end Go.Lg
