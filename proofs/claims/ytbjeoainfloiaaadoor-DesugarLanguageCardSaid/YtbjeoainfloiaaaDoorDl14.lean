/-
  Part 14 of the proof of DesugarLanguageCard: the logic over the model, the functions' contracts and the plain laws.
-/
import Derived.Test.YtbjeoainfloiaaaDoorDl13

set_option linter.unusedSimpArgs false
set_option linter.unusedVariables false
set_option linter.unusedSectionVars false
set_option linter.defProp false

namespace Go.Lg
open Go.Proofs
set_option linter.unusedSimpArgs false
set_option linter.unusedVariables false
attribute [local irreducible] Ap Rq asemC WP RunD Ret Gq thenA inBlockA bodyQ noGotoA RqL RqP OpP
set_option maxHeartbeats 8000000
set_option maxRecDepth 20000
attribute [local simp] bd_tabA
def dM (n m : Nat) : Nat := n * (10 * m + 1)
def dO (b : AObj) (n m : Nat) (t : List Bool) : List (Nat × Option AObj) := (0, some b) :: osF (dM n m + 2) (tabO 1 n m t (tabM n m))
theorem dO_at {b : AObj} {n m : Nat} {t : List Bool} {id : Nat} (h0 : 1 ≤ id) (h : id < dM n m + 2) : lkO id (dO b n m t) = tabO 1 n m t (tabM n m) id := by
  unfold dO; rw [lkO_ne (by omega), lkO_osF h]
theorem dO_look {b : AObj} {n m : Nat} {t : List Bool} {id : Nat} (h0 : 1 ≤ id) (h : id < dM n m + 2) : lookq (dM n m + 2) (dO b n m t) id = tabO 1 n m t (tabM n m) id := by rw [lookq_lt h, dO_at h0 h]
theorem dO_0 {b : AObj} {n m : Nat} {t : List Bool} : lookq (dM n m + 2) (dO b n m t) 1 = some (.arr 1 ((List.range n).map fun a => rfB 1 (tabM n m) (rid m a) m)) := by
  rw [dO_look (Nat.le_refl _) (by omega)]; exact tabO_0
theorem dO_r {b : AObj} {n m : Nat} {t : List Bool} {a : Nat} (ha : a < n) : lookq (dM n m + 2) (dO b n m t) (1 + rid m a) = some (.arr 1 ((List.range m).map fun b => rfB 1 (tabM n m) (cid m a b) m)) := by
  rw [dO_look (by omega) (by have := rid_lt (m := m) ha; unfold tabM at this; unfold dM; omega)]; exact tabO_r
theorem dO_c {b : AObj} {n m : Nat} {t : List Bool} {a c : Nat} (ha : a < n) (hc : c < m) : lookq (dM n m + 2) (dO b n m t) (1 + cid m a c) = some (.arr 1 ((List.range m).map fun d => boolA (tb m t a c d))) := by
  rw [dO_look (by omega) (by have := cid_lt ha hc; unfold tabM at this; unfold dM; omega)]; exact tabO_c hc
theorem dO_fz {b : AObj} {n m : Nat} {t : List Bool} : Fz (lookq (dM n m + 2) (dO b n m t)) (.ref 1 1 0 n) (tabA n m t) :=
  fz_tab (dO_look (Nat.le_refl _) (by omega)) fun id h => dO_look (by omega) (by unfold tabM at h; unfold dM; omega)
theorem dO_bdo {b : AObj} {n m : Nat} {t : List Bool} (hb : bdo (dM n m + 2) b) : ∀ i o, i < dM n m + 2 → lkO i (dO b n m t) = some o → bdo (dM n m + 2) o := fun i o hi ho => by
  by_cases h : i = 0
  · subst h; unfold dO at ho; rw [lkO_eq] at ho; injection ho with ho; subst ho; exact hb
  · rw [dO_at (by omega) hi] at ho; exact tabO_bd (by unfold tabM dM; omega) ho
theorem S_made {k : Nat} {l : List (Nat × AV)} {b : AObj} {n m : Nat} {t : List Bool} : S k l (1 + ((List.range (tabM n m)).map (tabO 0 n m t (tabM n m))).length) (newO (apx 1 []) 1 ((List.range (tabM n m)).map (tabO 0 n m t (tabM n m))) [(0, some b)]) = S k l (dM n m + 2) (dO b n m t) := by
  have hM : 1 + ((List.range (tabM n m)).map (tabO 0 n m t (tabM n m))).length = dM n m + 2 := by simp [tabM, dM]; omega
  rw [hM]
  unfold S
  rw [ol_congr fun i hi => ?_]
  rw [lkO_newO]
  have ea : apx 1 [] = fun j => 1 + j := by funext j; simp [apx]
  by_cases h0 : i = 0
  · subst h0; rw [if_neg (by omega)]; unfold dO; rw [lkO_eq, lkO_eq]
  · have h1 : i - 1 < tabM n m := by unfold tabM; unfold dM at hi; omega
    rw [if_pos (by rw [hM]; omega), dO_at (by omega) hi, ea]
    have : ((List.range (tabM n m)).map (tabO 0 n m t (tabM n m)))[i - 1]? = some (tabO 0 n m t (tabM n m) (i - 1)) := by simp [h1]
    rw [this, Option.getD_some, tabO_shift, show 1 + (i - 1) = i by omega]
theorem S_cell {k : Nat} {l : List (Nat × AV)} {bx : AObj} {n m : Nat} {t : List Bool} {a b c : Nat} (ht : t.length = n * m * m) (ha : a < n) (hb : b < m) (hc : c < m) :
    S k l (dM n m + 2) ((1 + cid m a b, some (.arr 1 (((List.range m).map fun c => boolA (tb m t a b c)).set c (boolA true)))) :: dO bx n m t) = S k l (dM n m + 2) (dO bx n m (t.set (tix m a b c) true)) := by
  unfold S
  rw [ol_congr fun i hi => ?_]
  by_cases h0 : i = 0
  · subst h0; rw [lkO_ne (by omega)]; unfold dO; rw [lkO_eq, lkO_eq]
  · rw [dO_at (by omega) hi]
    exact tabO_set ht ha hb hc (fun id h1 h2 => dO_at h1 (by unfold tabM at h2; unfold dM; omega)) i (by omega) (by unfold tabM; unfold dM at hi; omega)
theorem dO_to {k : Nat} {l l' : List (Nat × AV)} {b : AObj} {n m : Nat} {t : List Bool} (hb : bdo (dM n m + 2) b) (ht : toT l l') (hd : bdT (dM n m + 2) l' = true) : ∃ is, ToR 0 is (S k l (dM n m + 2) (dO b n m t)) (S k l' (dM n m + 2) (dO b n m t)) :=
  toR_same ht (fun _ _ => rfl) hd (dO_bdo hb) (Nat.zero_le _)
theorem bdyT_congr {n m : Nat} {T U : Nat → Nat → Nat → Bool} {s : List Int} (h : ∀ a b c, a < n → b < m → c < m → T a b c = U a b c) : ∀ {l : List Int} {i k : Nat}, (∀ x, x ∈ l → -(n : Int) ≤ x) → i ≤ k → k < m → bdyT T s l i k = bdyT U s l i k
  | [], _, _, _, _, _ => rfl
  | x :: xs, i, k, hl, hi, hk => by
    simp only [bdyT]
    split
    · by_cases hik : i < k
      · rw [bdyT_congr h (l := xs) (fun y hy => hl y (by simp [hy])) (by omega) hk]
      · simp [hik]
    · have hx := hl x (by simp)
      rw [Bool.eq_iff_iff, List.any_eq_true, List.any_eq_true]
      constructor <;> rintro ⟨d, hd, h2⟩ <;> refine ⟨d, hd, ?_⟩ <;> have hd := List.mem_range.1 hd <;> simp only [Bool.and_eq_true] at h2 ⊢
      · rw [← h _ _ _ (by omega) (by omega) (by omega), ← bdyT_congr h (l := xs) (fun y hy => hl y (by simp [hy])) (by omega) hk]; exact h2
      · rw [h _ _ _ (by omega) (by omega) (by omega), bdyT_congr h (l := xs) (fun y hy => hl y (by simp [hy])) (by omega) hk]; exact h2
def rowsT (n m : Nat) (t : List Bool) : List (List (List Bool)) := (List.range n).map fun a => (List.range m).map fun b => (List.range m).map fun c => tb m t a b c
theorem rowsT_at {n m : Nat} {t : List Bool} {a b c : Nat} (ha : a < n) (hb : b < m) (hc : c < m) : tbL (rowsT n m t) a b c = tb m t a b c := by
  unfold tbL rowsT; rw [nth_range ha, nth_range hb, nth_range hc]
theorem rowsT_A (n m : Nat) (t : List Bool) : tabLA (rowsT n m t) = tabA n m t := by
  simp only [tabLA, rowsT, tabA, List.map_map]
  congr 1
  refine List.map_congr_left fun a _ => ?_
  simp only [Function.comp, rowTA, List.map_map]
  congr 1
  refine List.map_congr_left fun b _ => ?_
  simp only [Function.comp, boolsA, List.map_map]
  rfl
theorem body_tb (n : Nat) (t : List Bool) (s l : List Int) (i k : Nat) (hs : s.length ≤ 1000000) (hn0 : n ≤ 1000000) (hl : ∀ x, x ∈ l → -(n : Int) ≤ x) (hi : i ≤ k) (hk : k ≤ s.length) :
    Fn Tryd.prog 39 [tabA n (s.length + 1) t, intsA s, intsA l, intA (i : Nat), intA (k : Nat)] (boolA (bdyT (tb (s.length + 1) t) s l i k)) := by
  rw [← rowsT_A, ← bdyT_congr (T := tbL (rowsT n (s.length + 1) t)) (fun a b c => rowsT_at) hl hi (by omega)]
  exact body19_fn _ n s ⟨by simp [rowsT], fun a ha => by rw [rowsT, nth_range ha]; simp, fun a b ha hb => by rw [rowsT, nth_range ha, nth_range hb]; simp⟩ hs hn0 l.length l i k rfl hl hi hk
structure MidD (g : Gram) (s : List Int) (t u : List Bool) (mo : Bool) (P : Prop) : Prop where
  un : UnderD g s u
  le : falses u ≤ falses t
  t1 : mo = true → falses u < falses t
  t0 : mo = false → u = t ∧ P
theorem MidD.mono {g : Gram} {s : List Int} {t u : List Bool} {mo : Bool} {P Q : Prop} (h : MidD g s t u mo P) (hp : P → Q) : MidD g s t u mo Q := ⟨h.un, h.le, h.t1, fun e => ⟨(h.t0 e).1, hp (h.t0 e).2⟩⟩
theorem MidD.set {g : Gram} {s : List Int} {t u : List Bool} {mo : Bool} {P Q : Prop} (h : MidD g s t u mo P) (hv : GVal g) {r : Rul} (hr : r ∈ g.rules) {i k : Nat} (hi : i ≤ k) (hk : k ≤ s.length) (hb : bdyT (tb (s.length + 1) u) s r.body i k = true) (hn : tb (s.length + 1) u r.head.toNat i k = false) :
    MidD g s t (u.set (tix (s.length + 1) r.head.toNat i k) true) true Q := by
  have hh : r.head.toNat < g.nonterms.length := by have h1 := (hv.rule r hr).h0; have h2 := (hv.rule r hr).hn; omega
  have hf := falses_set (l := u) (i := tix (s.length + 1) r.head.toNat i k) (by rw [h.un.1]; exact tix_lt hh (by omega) (by omega)) hn
  have := h.le
  exact ⟨h.un.set hv hr hi hk hb, by omega, fun _ => by omega, fun e => by cases e⟩
theorem derives_fn (g : Gram) (s : List Int) (hv : GVal g) (hs : s.length ≤ 100) : Fn Tryd.prog 17 [gramA g, intsA s] (tabA g.nonterms.length (s.length + 1) (derL g s)) := by
  have hn2 := hv.n2
  have hr2 := hv.r2
  refine Fn.intro (by simp [AV.bd, bdL, bdL_append]) (by kernel_rfl) Tryd.func17 rfl rfl Tryd.ntmps17 (by exact Nat.le_of_ble_eq_true rfl) ?_; intro Γ hm
  have ht := table19_fn g.nonterms.length s.length (by omega) (by omega)
  (repeat' (first | apply jA | apply jF | apply jH | (refine WP.regionC (id := 0) ?_; (refine se_box rfl (by exact ⟨rfl, rfl⟩) ?_); (refine sassign rfl ?_); apply jW) | (refine WP.regionC (id := 1) ?_; (refine sfieldp rfl rfl rfl ?_); (refine sloadp rfl rfl rfl rfl ?_); (refine slenm rfl rfl ?_); (refine smove rfl ?_); (refine slenm rfl rfl ?_); (refine sc_o [] rfl rfl (ht) (Lend.S (by first | ((repeat' first | exact RenL.nil | refine RenL.cons rfl ?_); done) | fail) (by first | ((repeat' (exact LendO.nil)); done) | fail) (by decide) rfl (by simp [AV.bd, bdL, bdL_append]) (by repeat' (exact True.intro))) ?_; simp only [updN, newO, AObj.ren, renL, AV.ren, apx, ap, if_true, if_false, Nat.reduceLT, Nat.reduceAdd, Nat.reduceSub, sO, intA, boolA, strA]); (refine sassign rfl ?_); apply jW) | (refine WP.regionC (id := 2) ?_; (refine sassign rfl ?_); apply jW)))
  rw [S_made]
  clear ht
  have hbx : bdo (dM g.nonterms.length (s.length + 1) + 2) (.arr 4 [gramA g]) := by simp [bdo, bdL]
  refine wp_loop (fun (x : List Bool × Bool) => UnderD g s x.1 ∧ (x.2 = false → ∀ r, r ∈ g.rules → CloT g s x.1 r)) (fun x => 2 * falses x.1 + if x.2 then 1 else 0)
    (fun x => S 78 [(1, intsA s), (2, .ptr 0 4 0 0), (5, .ref 1 1 0 g.nonterms.length), (6, boolA x.2)] (dM g.nonterms.length (s.length + 1) + 2) (dO (.arr 4 [gramA g]) g.nonterms.length (s.length + 1) x.1)) (noT g.nonterms.length (s.length + 1), true) ?_ ⟨UnderD.init g s, fun h => by cases h⟩ ?_
  · rw [hm]; exact dO_to hbx (by exact ⟨rfl, rfl, rfl, rfl, trivial⟩) (by simp [bdT, AV.bd])
  rintro ⟨t, mo⟩ ⟨hu, hcl⟩
  dsimp only at hu hcl ⊢
  cases mo with
  | false =>
    (repeat' (first | apply jA | apply jH | apply jJ | apply jK | apply jL | apply jP | apply jS | (refine wp_cond rfl (fun hc => ?_) (fun hc => ?_) <;> (try simp only [sB, ne_eq, reduceCtorEq] at hc) <;> (try (exfalso; omega))) | (refine WP.regionC (id := 3) ?_; (refine smove rfl ?_); apply jW) | (refine WP.regionC (id := 17) ?_; (refine smove rfl ?_); (refine sassign rfl ?_); apply jW)))
    rw [← UnderD.eq hv hu (hcl rfl)]
    exact ret_1 rfl dO_fz
  | true =>
    (repeat' (first | apply jA | apply jF | apply jH | apply jI | (refine wp_cond rfl (fun hc => ?_) (fun hc => ?_) <;> (try simp only [sB, ne_eq, reduceCtorEq] at hc) <;> (try (exfalso; omega))) | (refine WP.regionC (id := 3) ?_; (refine smove rfl ?_); apply jW) | (refine WP.regionC ?_; (refine sassign rfl ?_); apply jW)))
    refine wp_loop (fun (x : List Bool × Bool × Nat) => x.2.2 ≤ g.rules.length ∧ MidD g s t x.1 x.2.1 (∀ j, j < x.2.2 → CloT g s t (nth g.rules j))) (fun x => g.rules.length - x.2.2)
      (fun x => S 78 [(1, intsA s), (2, .ptr 0 4 0 0), (5, .ref 1 1 0 g.nonterms.length), (6, boolA x.2.1), (7, intA (x.2.2 : Nat))] (dM g.nonterms.length (s.length + 1) + 2) (dO (.arr 4 [gramA g]) g.nonterms.length (s.length + 1) x.1)) (t, false, 0) ?_ ⟨Nat.zero_le _, ⟨hu, Nat.le_refl _, fun e => (by cases e), fun _ => ⟨rfl, fun j hj => absurd hj (Nat.not_lt_zero j)⟩⟩⟩ ?_
    · rw [hm]; exact dO_to hbx (by exact ⟨rfl, rfl, rfl, rfl, rfl, trivial⟩) (by simp [bdT, AV.bd])
    rintro ⟨u, mo, r⟩ ⟨hr, hM⟩
    dsimp only at hr hM ⊢
    by_cases hrl : r < g.rules.length
    rotate_left
    · (repeat' (first | apply jA | apply jH | apply jJ | apply jL | apply jN | apply jP | (refine wp_cond rfl (fun hc => ?_) (fun hc => ?_) <;> (try simp only [sB, ne_eq, reduceCtorEq] at hc) <;> (try (exfalso; omega))) | (refine WP.regionC (id := 6) ?_; (refine smove rfl ?_); (refine sfieldp rfl rfl rfl ?_); (refine sloadp rfl rfl rfl rfl ?_); (refine slenm rfl rfl ?_); (refine slss rfl rfl ?_); apply jW)))
      refine ⟨(u, mo), ⟨?_, hM.un, fun e q hq => ?_⟩, ?_⟩
      · have h1 := hM.le
        cases mo with
        | true => have h2 := hM.t1 rfl; simp only [if_true]; omega
        | false => simp; omega
      · obtain ⟨e1, e2⟩ := hM.t0 e
        obtain ⟨j, hj, rfl⟩ := List.getElem_of_mem hq
        rw [e1, ← nth_eq hj]; exact e2 j (by omega)
      · rw [hm]; exact dO_to hbx (by exact ⟨rfl, rfl, rfl, rfl, trivial⟩) (by simp [bdT, AV.bd])
    have hR := nth_mem hrl
    have hf := hv.rule _ hR
    have hh0 := hf.h0
    have hhn := hf.hn
    (repeat' (first | apply jA | apply jF | apply jH | apply jI | (refine wp_cond rfl (fun hc => ?_) (fun hc => ?_) <;> (try simp only [sB, ne_eq, reduceCtorEq] at hc) <;> (try (exfalso; omega))) | (refine WP.regionC (id := 6) ?_; (refine smove rfl ?_); (refine sfieldp rfl rfl rfl ?_); (refine sloadp rfl rfl rfl rfl ?_); (refine slenm rfl rfl ?_); (refine slss rfl rfl ?_); apply jW) | (refine WP.regionC (id := 8) ?_; (refine sfieldp rfl rfl rfl ?_); (refine sloadp rfl rfl rfl rfl ?_); (refine smove rfl ?_); (refine sidxn rfl rfl (by omega) ?_); (refine su (afieldi rfl rfl rfl) ?_); (refine su (aloadi rfl rfl) ?_); (refine sassign rfl ?_); apply jW) | (refine WP.regionC (id := 9) ?_; (refine sassign rfl ?_); apply jW)))
    generalize hq : nth g.rules r = q at *
    generalize hhd : q.head = h at *
    have hh : h.toNat < g.nonterms.length := by omega
    refine wp_loop (fun (x : List Bool × Bool × Nat) => x.2.2 ≤ s.length + 1 ∧ MidD g s t x.1 x.2.1 ((∀ j, j < r → CloT g s t (nth g.rules j)) ∧ ∀ i k, i < x.2.2 → i ≤ k → k ≤ s.length → bdyT (tb (s.length + 1) t) s q.body i k = true → tb (s.length + 1) t h.toNat i k = true)) (fun x => s.length + 1 - x.2.2)
      (fun x => S 78 [(1, intsA s), (2, .ptr 0 4 0 0), (5, .ref 1 1 0 g.nonterms.length), (6, boolA x.2.1), (7, intA (r : Nat)), (8, intA h), (9, intA (x.2.2 : Nat))] (dM g.nonterms.length (s.length + 1) + 2) (dO (.arr 4 [gramA g]) g.nonterms.length (s.length + 1) x.1)) (u, mo, 0) ?_ ⟨Nat.zero_le _, hM.mono fun p => ⟨p, fun i k hi => absurd hi (Nat.not_lt_zero i)⟩⟩ ?_
    · rw [hm]; exact dO_to hbx (by exact ⟨rfl, rfl, rfl, rfl, rfl, rfl, rfl, trivial⟩) (by simp [bdT, AV.bd])
    clear hM
    rintro ⟨u, mo, i⟩ ⟨hi, hM⟩
    dsimp only at hi hM ⊢
    by_cases hil : i < s.length + 1
    rotate_left
    · (repeat' (first | apply jA | apply jH | apply jJ | apply jL | apply jN | apply jP | (refine wp_cond rfl (fun hc => ?_) (fun hc => ?_) <;> (try simp only [sB, ne_eq, reduceCtorEq] at hc) <;> (try (exfalso; omega))) | (refine WP.regionC (id := 10) ?_; (refine smove rfl ?_); (refine smove rfl ?_); (refine slenm rfl rfl ?_); (refine su (aleq rfl rfl) ?_); apply jW) | (refine WP.regionC (id := 7) ?_; (refine smove rfl ?_); (refine sadd rfl rfl (by exact inr_i64_of (by omega)) ?_); (refine sassign rfl ?_); apply jW)))
      refine ⟨(u, mo, r + 1), ⟨by dsimp only; omega, by dsimp only; omega, hM.mono fun p j hj => ?_⟩, ?_⟩
      · have hj : j < r + 1 := hj
        by_cases e : j = r
        · subst e; rw [hq]; intro i' k hi' hk hb
          rw [hhd]; exact p.2 i' k (by omega) hi' hk hb
        · exact p.1 j (by omega)
      · rw [hm]; exact dO_to hbx (by exact ⟨rfl, rfl, rfl, rfl, rfl, trivial⟩) (by simp [bdT, AV.bd])
    (repeat' (first | apply jA | apply jF | apply jH | apply jI | (refine wp_cond rfl (fun hc => ?_) (fun hc => ?_) <;> (try simp only [sB, ne_eq, reduceCtorEq] at hc) <;> (try (exfalso; omega))) | (refine WP.regionC (id := 10) ?_; (refine smove rfl ?_); (refine smove rfl ?_); (refine slenm rfl rfl ?_); (refine su (aleq rfl rfl) ?_); apply jW) | (refine WP.regionC (id := 12) ?_; (refine smove rfl ?_); (refine sassign rfl ?_); apply jW)))
    refine wp_loop (fun (x : List Bool × Bool × Nat) => (i ≤ x.2.2 ∧ x.2.2 ≤ s.length + 1) ∧ MidD g s t x.1 x.2.1 (((∀ j, j < r → CloT g s t (nth g.rules j)) ∧ ∀ i' k, i' < i → i' ≤ k → k ≤ s.length → bdyT (tb (s.length + 1) t) s q.body i' k = true → tb (s.length + 1) t h.toNat i' k = true) ∧ ∀ k, i ≤ k → k < x.2.2 → bdyT (tb (s.length + 1) t) s q.body i k = true → tb (s.length + 1) t h.toNat i k = true)) (fun x => s.length + 1 - x.2.2)
      (fun x => S 78 [(1, intsA s), (2, .ptr 0 4 0 0), (5, .ref 1 1 0 g.nonterms.length), (6, boolA x.2.1), (7, intA (r : Nat)), (8, intA h), (9, intA (i : Nat)), (10, intA (x.2.2 : Nat))] (dM g.nonterms.length (s.length + 1) + 2) (dO (.arr 4 [gramA g]) g.nonterms.length (s.length + 1) x.1)) (u, mo, i) ?_ ⟨⟨Nat.le_refl _, hi⟩, hM.mono fun p => ⟨p, fun k h1 h2 => absurd h2 (Nat.not_lt.2 h1)⟩⟩ ?_
    · rw [hm]; exact dO_to hbx (by exact ⟨rfl, rfl, rfl, rfl, rfl, rfl, rfl, rfl, trivial⟩) (by simp [bdT, AV.bd])
    clear hM
    rintro ⟨u, mo, k⟩ ⟨⟨hik, hk⟩, hM⟩
    dsimp only at hik hk hM ⊢
    by_cases hkl : k < s.length + 1
    rotate_left
    · (repeat' (first | apply jA | apply jH | apply jJ | apply jL | apply jN | apply jP | (refine wp_cond rfl (fun hc => ?_) (fun hc => ?_) <;> (try simp only [sB, ne_eq, reduceCtorEq] at hc) <;> (try (exfalso; omega))) | (refine WP.regionC (id := 13) ?_; (refine smove rfl ?_); (refine smove rfl ?_); (refine slenm rfl rfl ?_); (refine su (aleq rfl rfl) ?_); apply jW) | (refine WP.regionC (id := 11) ?_; (refine smove rfl ?_); (refine sadd rfl rfl (by exact inr_i64_of (by omega)) ?_); (refine sassign rfl ?_); apply jW)))
      refine ⟨(u, mo, i + 1), ⟨by dsimp only; omega, by dsimp only; omega, hM.mono fun p => ⟨p.1.1, fun i' k' hi' h1 h2 hb => ?_⟩⟩, ?_⟩
      · have hi' : i' < i + 1 := hi'
        by_cases e : i' = i
        · subst e; exact p.2 k' h1 (by omega) hb
        · exact p.1.2 i' k' (by omega) h1 h2 hb
      · rw [hm]; exact dO_to hbx (by exact ⟨rfl, rfl, rfl, rfl, rfl, rfl, rfl, trivial⟩) (by simp [bdT, AV.bd])
    · (repeat' (first | apply jA | apply jF | apply jH | apply jI | (refine wp_cond rfl (fun hc => ?_) (fun hc => ?_) <;> (try simp only [sB, ne_eq, reduceCtorEq] at hc) <;> (try (exfalso; omega))) | (refine WP.regionC (id := 13) ?_; (refine smove rfl ?_); (refine smove rfl ?_); (refine slenm rfl rfl ?_); (refine su (aleq rfl rfl) ?_); apply jW)))
      refine WP.regionC (id := 15) ?_
      refine smove rfl ?_
      refine smove rfl ?_
      refine su (aidxrz rfl rfl (by omega)) ?_
      refine sloadp (y := .ref (1 + rid (s.length + 1) h.toNat) 1 0 (s.length + 1)) rfl dO_0 (by rw [← rf_r hh]; simp [hh]) rfl ?_
      refine smove rfl ?_
      refine su (aidxrn rfl rfl (by omega)) ?_
      refine sloadp (y := .ref (1 + cid (s.length + 1) h.toNat i) 1 0 (s.length + 1)) rfl (dO_r hh) (by rw [← rf_c hh (by omega : i < s.length + 1)]; simp [show i < s.length + 1 by omega]) rfl ?_
      refine smove rfl ?_
      refine su (aidxrn rfl rfl (by omega)) ?_
      refine sloadp (y := boolA (tb (s.length + 1) u h.toNat i k)) rfl (dO_c hh (by omega)) (by simp [hkl]) rfl ?_
      refine su (anot rfl) ?_
      refine smove rfl ?_
      refine sg (gq_vt rfl rfl) (fun he => ap_move (rq_p rfl rfl)) ?_
      refine sg (gq_vt rfl rfl) (fun he => ap_move (rq_p rfl rfl)) ?_
      refine sg (gq_vt rfl rfl) (fun he => ap_field_p (rq_p rfl rfl) rfl rfl) ?_
      refine sg (gq_vt rfl rfl) (fun he => ap_load_p (y := gramA g) (rq_c rfl rfl) rfl rfl rfl) ?_
      refine sg (gq_vt rfl rfl) (fun he => ap_move (rq_p rfl rfl)) ?_
      refine sg (gq_vt rfl rfl) (fun he => ap_idx_n (rq_c rfl rfl) (rq_c rfl rfl) (by omega)) ?_
      refine sg (gq_vt rfl rfl) (fun he => ap_field_i (rq_c rfl rfl) rfl rfl) ?_
      refine sg (x := intsA (nth g.rules r).body) (gq_vt rfl rfl) (fun he => ap_load_i (rq_c rfl rfl) rfl) ?_
      refine sg (gq_vt rfl rfl) (fun he => ap_move (rq_p rfl rfl)) ?_
      refine sg (gq_vt rfl rfl) (fun he => ap_move (rq_p rfl rfl)) ?_
      refine sg_b (gq_vt rfl rfl) (fun he => ⟨(rq_p rfl rfl), RqL.cons (rq_c rfl rfl) (RqL.cons (rq_c rfl rfl) (RqL.cons (rq_c rfl rfl) (RqL.cons (rq_c rfl rfl) (RqL.cons (rq_c rfl rfl) RqL.nil)))), FzL.cons dO_fz (FzL.cons (.reflp (bd_intsA 0 s)) (FzL.cons (.reflp (bd_intsA 0 (nth g.rules r).body)) (FzL.cons (.reflp rfl) (FzL.cons (.reflp rfl) .nil)))), body_tb g.nonterms.length u s (nth g.rules r).body i k (by omega) (by omega) (fun x hx => (hv.rule _ (nth_mem hrl)).lo x hx) hik (by omega), by exact rfl⟩) ?_
      refine su (ap_and (rq_p rfl rfl) (rq_c rfl rfl)) ?_
      refine asemC_end ?_
      (repeat' (first | apply jH | apply jI | apply jN | (refine wp_cond rfl (fun hc => ?_) (fun hc => ?_) <;> (try simp only [sB, ne_eq, reduceCtorEq] at hc) <;> (try (exfalso; omega))) | (refine WP.regionC (id := 14) ?_; (refine smove rfl ?_); (refine sadd rfl rfl (by exact inr_i64_of (by omega)) ?_); (refine sassign rfl ?_); apply jW)))
      · obtain ⟨hc1, hc2⟩ : tb (s.length + 1) u h.toNat i k = false ∧ bdyT (tb (s.length + 1) u) s (nth g.rules r).body i k = true := hc
        refine WP.regionC (id := 16) ?_
        refine smove rfl ?_
        refine smove rfl ?_
        refine su (aidxrz rfl rfl (by omega)) ?_
        refine sloadp (y := .ref (1 + rid (s.length + 1) h.toNat) 1 0 (s.length + 1)) rfl dO_0 (by rw [← rf_r hh]; simp [hh]) rfl ?_
        refine smove rfl ?_
        refine su (aidxrn rfl rfl (by omega)) ?_
        refine sloadp (y := .ref (1 + cid (s.length + 1) h.toNat i) 1 0 (s.length + 1)) rfl (dO_r hh) (by rw [← rf_c hh (by omega : i < s.length + 1)]; simp [show i < s.length + 1 by omega]) rfl ?_
        refine smove rfl ?_
        refine su (aidxrn rfl rfl (by omega)) ?_
        refine se_store (es := (List.range (s.length + 1)).map fun d => boolA (tb (s.length + 1) u h.toNat i d)) (ed := boolA (tb (s.length + 1) u h.toNat i k)) (ed' := boolA true) rfl (dO_c hh (by omega)) (by simp [hkl]) rfl rfl ?_
        refine sassign rfl ?_
        refine asemC_end ?_
        rw [S_cell hM.un.1 hh (by omega) hkl]
        (repeat' (first | apply jH | apply jN | (refine WP.regionC (id := 14) ?_; (refine smove rfl ?_); (refine sadd rfl rfl (by exact inr_i64_of (by omega)) ?_); (refine sassign rfl ?_); apply jW)))
        refine ⟨(u.set (tix (s.length + 1) h.toNat i k) true, true, k + 1), ⟨by dsimp only; omega, by dsimp only; omega, ?_⟩, ?_⟩
        · have := hM.set (Q := (((∀ j, j < r → CloT g s t (nth g.rules j)) ∧ ∀ i' k, i' < i → i' ≤ k → k ≤ s.length → bdyT (tb (s.length + 1) t) s q.body i' k = true → tb (s.length + 1) t h.toNat i' k = true) ∧ ∀ k', i ≤ k' → k' < k + 1 → bdyT (tb (s.length + 1) t) s q.body i k' = true → tb (s.length + 1) t h.toNat i k' = true)) hv hR hik (by omega) (by rw [← hq]; exact hc2) (by rw [hhd]; exact hc1)
          rw [hhd] at this; exact this
        · rw [hm]; exact dO_to hbx (by exact ⟨rfl, rfl, rfl, rfl, rfl, rfl, rfl, rfl, trivial⟩) (by simp [bdT, AV.bd])
      · refine ⟨(u, mo, k + 1), ⟨by dsimp only; omega, by dsimp only; omega, ?_⟩, ?_⟩
        · refine ⟨hM.un, hM.le, hM.t1, fun e => ⟨(hM.t0 e).1, (hM.t0 e).2.1, fun k' h1 h2 hb => ?_⟩⟩
          have h2 : k' < k + 1 := h2
          by_cases ek : k' = k
          · subst ek
            have hc' : tb (s.length + 1) u h.toNat i k' = true ∨ bdyT (tb (s.length + 1) u) s (nth g.rules r).body i k' = false := hc
            rw [(hM.t0 e).1, hq] at hc'
            rcases hc' with h | h
            · exact h
            · rw [h] at hb; cases hb
          · exact (hM.t0 e).2.2 k' h1 (by omega) hb
        · rw [hm]; exact dO_to hbx (by exact ⟨rfl, rfl, rfl, rfl, rfl, rfl, rfl, rfl, trivial⟩) (by simp [bdT, AV.bd])
end Go.Lg

namespace Go.Lg
structure DSt where
  count : Int
  extra : List (ByteArray × List (List Int))
  ok : Bool
structure DEn where
  terms : List ByteArray
  names : List ByteArray
  rule : ByteArray
def DEn.sym (d : DEn) (n : ByteArray) (s : DSt) : Int × DSt :=
  if 0 ≤ idx d.names n then (-1 - idx d.names n, s) else (max (idx d.terms n) 0, ⟨s.count, s.extra, s.ok && decide (0 ≤ idx d.terms n)⟩)
def finB (k self : Int) (bs : List (List Int)) : List (List Int) :=
  if k = 4 then [[], bs.headD []] else if k = 5 then [[], self :: bs.headD []] else if k = 6 then [bs.headD [], self :: bs.headD []] else bs
def DEn.newName (d : DEn) (c : Int) : ByteArray := d.rule ++ ⟨#[46]⟩ ++ ⟨(Lib.itoa c).toArray⟩
def DEn.self (d : DEn) (s : DSt) : Int := -1 - d.names.length - s.extra.length
def DEn.start (d : DEn) (s : DSt) : DSt := ⟨s.count + 1, s.extra ++ [(d.newName (s.count + 1), [])], s.ok⟩
mutual
def DEn.symE (d : DEn) : GEx → DSt → List Int × DSt
  | .mk k n l, s =>
    if k = 1 then ([(d.sym n s).1], (d.sym n s).2)
    else if k = 2 then ((d.symL l s).1.flatten, (d.symL l s).2)
    else ([d.self s], ⟨(d.symL l (d.start s)).2.count, (d.symL l (d.start s)).2.extra.set s.extra.length (d.newName (s.count + 1), finB k (d.self s) (d.symL l (d.start s)).1), (d.symL l (d.start s)).2.ok⟩)
def DEn.symL (d : DEn) : List GEx → DSt → List (List Int) × DSt
  | [], s => ([], s)
  | e :: l, s => ((d.symE e s).1 :: (d.symL l (d.symE e s).2).1, (d.symL l (d.symE e s).2).2)
end
theorem DEn.symE_eq (d : DEn) (e : GEx) (s : DSt) : d.symE e s = if e.kind = 1 then ([(d.sym e.name s).1], (d.sym e.name s).2)
    else if e.kind = 2 then ((d.symL e.kids s).1.flatten, (d.symL e.kids s).2)
    else ([d.self s], ⟨(d.symL e.kids (d.start s)).2.count, (d.symL e.kids (d.start s)).2.extra.set s.extra.length (d.newName (s.count + 1), finB e.kind (d.self s) (d.symL e.kids (d.start s)).1), (d.symL e.kids (d.start s)).2.ok⟩) := by
  cases e; rw [DEn.symE]; rfl
theorem DEn.symL_len (d : DEn) : ∀ (l : List GEx) (s : DSt), (d.symL l s).1.length = l.length
  | [], s => by rw [DEn.symL]; rfl
  | e :: l, s => by rw [DEn.symL, List.length_cons, DEn.symL_len d l, List.length_cons]
theorem DEn.symL_snoc (d : DEn) : ∀ (l : List GEx) (e : GEx) (s : DSt), d.symL (l ++ [e]) s = ((d.symL l s).1 ++ [(d.symE e (d.symL l s).2).1], (d.symE e (d.symL l s).2).2)
  | [], e, s => by rw [List.nil_append, DEn.symL, DEn.symL, DEn.symL]; rfl
  | x :: l, e, s => by rw [List.cons_append, DEn.symL, DEn.symL_snoc d l e, DEn.symL]; rfl
theorem DEn.sym_len (d : DEn) (n : ByteArray) (s : DSt) : (d.sym n s).2.extra = s.extra ∧ (d.sym n s).2.count = s.count := by
  unfold DEn.sym; split <;> exact ⟨rfl, rfl⟩
theorem DEn.sym_ext (d : DEn) (e : GEx) : ∀ s : DSt, s.extra.length ≤ (d.symE e s).2.extra.length ∧ s.count ≤ (d.symE e s).2.count ∧ (d.symE e s).2.count - s.count ≤ (d.symE e s).2.extra.length - s.extra.length := by
  induction e using GEx.ind with
  | h e ih =>
    have hL : ∀ l : List GEx, (∀ x, x ∈ l → x ∈ e.kids) → ∀ s : DSt, s.extra.length ≤ (d.symL l s).2.extra.length ∧ s.count ≤ (d.symL l s).2.count ∧ (d.symL l s).2.count - s.count ≤ (d.symL l s).2.extra.length - s.extra.length := by
      intro l
      induction l with
      | nil => intro _ s; rw [DEn.symL]; refine ⟨Nat.le_refl _, Int.le_refl _, ?_⟩; simp
      | cons x l ihl =>
        intro hl s
        have h1 := ih x (hl x (by simp)) s
        have h2 := ihl (fun y hy => hl y (by simp [hy])) (d.symE x s).2
        rw [DEn.symL]
        simp only
        omega
    intro s
    rw [DEn.symE_eq]
    split
    · have := d.sym_len e.name s
      simp only [this.1, this.2]
      omega
    · split
      · exact hL _ (fun _ h => h) s
      · have := hL e.kids (fun _ h => h) (d.start s)
        simp only [DEn.start, List.length_append, List.length_cons, List.length_nil] at this
        simp only [List.length_set, DEn.start]
        omega
end Go.Lg

namespace Go.Lg
theorem exprA_mkJ (k : Int) (n : ByteArray) (l : List GEx) : exprA (.mk k n l) = .agg [intA k, strA n, .sl 3 (l.map exprA)] := by
  unfold exprA
  rw [kidsL_map]
  rfl
mutual
def nodE : GEx → Nat
  | .mk _ _ l => 1 + nodL l
def nodL : List GEx → Nat
  | [] => 0
  | e :: l => nodE e + nodL l
end
theorem nodE_eq (e : GEx) : nodE e = 1 + nodL e.kids := by cases e; rw [nodE]; rfl
theorem nodL_snoc : ∀ (l : List GEx) (e : GEx), nodL (l ++ [e]) = nodL l + nodE e
  | [], e => by rw [List.nil_append, nodL, nodL, nodL]; omega
  | x :: l, e => by rw [List.cons_append, nodL, nodL_snoc l e, nodL]; omega
theorem nodL_app : ∀ (l r : List GEx), nodL (l ++ r) = nodL l + nodL r
  | [], r => by rw [List.nil_append, nodL]; omega
  | x :: l, r => by rw [List.cons_append, nodL, nodL_app l r, nodL]; omega
theorem nodL_take (l : List GEx) (k : Nat) : nodL (l.take k) ≤ nodL l := by
  have := nodL_app (l.take k) (l.drop k)
  rw [List.take_append_drop] at this
  omega
theorem nodE_pos (e : GEx) : 1 ≤ nodE e := by rw [nodE_eq]; omega
theorem len_nodL : ∀ l : List GEx, l.length ≤ nodL l
  | [] => Nat.zero_le _
  | e :: l => by have := len_nodL l; have := nodE_pos e; rw [nodL, List.length_cons]; omega
def wellE : GEx → Bool
  | .mk k _ l => (decide (k = 1) || decide (k = 2) || !l.isEmpty) && wellL l
where wellL : List GEx → Bool
  | [] => true
  | e :: l => wellE e && wellL l
theorem wellE_eq (e : GEx) : wellE e = ((decide (e.kind = 1) || decide (e.kind = 2) || !e.kids.isEmpty) && wellE.wellL e.kids) := by cases e; rw [wellE]; rfl
theorem wellL_all : ∀ l : List GEx, wellE.wellL l = l.all wellE
  | [] => by rw [wellE.wellL]; rfl
  | e :: l => by rw [wellE.wellL, wellL_all l]; rfl
theorem DEn.symE_cnt (d : DEn) (e : GEx) : ∀ s : DSt, (d.symE e s).1.length ≤ nodE e ∧ (d.symE e s).2.extra.length ≤ s.extra.length + nodE e := by
  induction e using GEx.ind with
  | h e ih =>
    have hL : ∀ l : List GEx, (∀ x, x ∈ l → x ∈ e.kids) → ∀ s : DSt, (d.symL l s).1.flatten.length ≤ nodL l ∧ (d.symL l s).2.extra.length ≤ s.extra.length + nodL l := by
      intro l
      induction l with
      | nil => intro _ s; rw [DEn.symL]; simp
      | cons x l ihl =>
        intro hl s
        have h1 := ih x (hl x (by simp)) s
        have h2 := ihl (fun y hy => hl y (by simp [hy])) (d.symE x s).2
        rw [DEn.symL, nodL]
        simp only [List.flatten_cons, List.length_append]
        omega
    intro s
    rw [DEn.symE_eq, nodE_eq]
    split
    · have := d.sym_len e.name s
      simp only [this.1, List.length_cons, List.length_nil]
      omega
    · split
      · have := hL _ (fun _ h => h) s
        simp only
        omega
      · have := hL e.kids (fun _ h => h) (d.start s)
        simp only [DEn.start, List.length_append, List.length_cons, List.length_nil] at this
        simp only [List.length_set, DEn.start, List.length_cons, List.length_nil]
        omega
theorem DEn.symL_cnt (d : DEn) : ∀ (l : List GEx) (s : DSt), (d.symL l s).1.flatten.length ≤ nodL l ∧ (d.symL l s).2.extra.length ≤ s.extra.length + nodL l
  | [], s => by rw [DEn.symL]; simp
  | x :: l, s => by
    have h1 := d.symE_cnt x s
    have h2 := DEn.symL_cnt d l (d.symE x s).2
    rw [DEn.symL, nodL]
    simp only [List.flatten_cons, List.length_append]
    omega
theorem DEn.symL_ext (d : DEn) : ∀ (l : List GEx) (s : DSt), s.extra.length ≤ (d.symL l s).2.extra.length ∧ s.count ≤ (d.symL l s).2.count ∧ (d.symL l s).2.count - s.count ≤ (d.symL l s).2.extra.length - s.extra.length
  | [], s => by rw [DEn.symL]; refine ⟨Nat.le_refl _, Int.le_refl _, ?_⟩; simp
  | x :: l, s => by
    have h1 := d.sym_ext x s
    have h2 := DEn.symL_ext d l (d.symE x s).2
    rw [DEn.symL]
    simp only
    omega
theorem DEn.symE_old (d : DEn) (e : GEx) : ∀ (s : DSt) (i : Nat), i < s.extra.length → (d.symE e s).2.extra[i]? = s.extra[i]? := by
  induction e using GEx.ind with
  | h e ih =>
    have hL : ∀ l : List GEx, (∀ x, x ∈ l → x ∈ e.kids) → ∀ (s : DSt) (i : Nat), i < s.extra.length → (d.symL l s).2.extra[i]? = s.extra[i]? := by
      intro l
      induction l with
      | nil => intro _ s i _; rw [DEn.symL]
      | cons x l ihl =>
        intro hl s i hi
        rw [DEn.symL]
        simp only
        rw [ihl (fun y hy => hl y (by simp [hy])) _ i (Nat.lt_of_lt_of_le hi (d.sym_ext x s).1), ih x (hl x (by simp)) s i hi]
    intro s i hi
    rw [DEn.symE_eq]
    split
    · rw [(d.sym_len e.name s).1]
    · split
      · exact hL _ (fun _ h => h) s i hi
      · have := hL e.kids (fun _ h => h) (d.start s) i (by simp [DEn.start]; omega)
        simp only
        rw [List.getElem?_set_ne (by omega), this]
        simp only [DEn.start]
        rw [List.getElem?_append_left hi]
theorem DEn.symL_old (d : DEn) : ∀ (l : List GEx) (s : DSt) (i : Nat), i < s.extra.length → (d.symL l s).2.extra[i]? = s.extra[i]?
  | [], s, i, _ => by rw [DEn.symL]
  | x :: l, s, i, hi => by
    rw [DEn.symL]
    simp only
    rw [DEn.symL_old d l _ i (Nat.lt_of_lt_of_le hi (d.sym_ext x s).1), d.symE_old x s i hi]
end Go.Lg

namespace Go.Lg
inductive StarR (M : Nat → Nat → Prop) : Nat → Nat → Prop
  | refl (i : Nat) : StarR M i i
  | step {i m k : Nat} (h : i < m) (hM : M i m) (hs : StarR M m k) : StarR M i k
theorem StarR.le {M : Nat → Nat → Prop} {i k : Nat} (h : StarR M i k) : i ≤ k := by
  induction h with
  | refl => exact Nat.le_refl _
  | step h _ _ ih => omega
theorem StarR.mono {M M' : Nat → Nat → Prop} (h : ∀ i k, M i k → M' i k) {i k : Nat} (hs : StarR M i k) : StarR M' i k := by
  induction hs with
  | refl => exact .refl _
  | step h1 h2 _ ih => exact .step h1 (h _ _ h2) ih
theorem StarR.snoc {M : Nat → Nat → Prop} {i m k : Nat} (h : StarR M i m) (hM : M m k) (hk : m ≤ k) : StarR M i k := by
  induction h with
  | refl j =>
    by_cases e : j = k
    · subst e; exact .refl _
    · exact .step (by omega) hM (.refl _)
  | step h1 h2 _ ih => exact .step h1 h2 (ih hM hk)
mutual
def matE (R : Nat → Nat → Nat → Prop) (nm terms : List ByteArray) (s : List Int) : GEx → Nat → Nat → Prop
  | .mk kd n l, i, k =>
    if kd = 1 then (if 0 ≤ idx nm n then R (idx nm n).toNat i k else k = i + 1 ∧ nth s i = idx terms n)
    else if kd = 2 then matS R nm terms s l i k
    else if kd = 3 then matA R nm terms s l i k
    else if kd = 4 then i = k ∨ matH R nm terms s l i k
    else if kd = 5 then StarR (matH R nm terms s l) i k
    else ∃ m, i ≤ m ∧ m ≤ k ∧ matH R nm terms s l i m ∧ StarR (matH R nm terms s l) m k
def matS (R : Nat → Nat → Nat → Prop) (nm terms : List ByteArray) (s : List Int) : List GEx → Nat → Nat → Prop
  | [], i, k => i = k
  | e :: l, i, k => ∃ m, i ≤ m ∧ m ≤ k ∧ matE R nm terms s e i m ∧ matS R nm terms s l m k
def matA (R : Nat → Nat → Nat → Prop) (nm terms : List ByteArray) (s : List Int) : List GEx → Nat → Nat → Prop
  | [], _, _ => False
  | e :: l, i, k => matE R nm terms s e i k ∨ matA R nm terms s l i k
def matH (R : Nat → Nat → Nat → Prop) (nm terms : List ByteArray) (s : List Int) : List GEx → Nat → Nat → Prop
  | [], _, _ => False
  | e :: _, i, k => matE R nm terms s e i k
end
section
variable {R R' : Nat → Nat → Nat → Prop} {nm terms : List ByteArray} {s : List Int}
theorem matE_eq (e : GEx) (i k : Nat) : matE R nm terms s e i k = (if e.kind = 1 then (if 0 ≤ idx nm e.name then R (idx nm e.name).toNat i k else k = i + 1 ∧ nth s i = idx terms e.name)
    else if e.kind = 2 then matS R nm terms s e.kids i k
    else if e.kind = 3 then matA R nm terms s e.kids i k
    else if e.kind = 4 then i = k ∨ matH R nm terms s e.kids i k
    else if e.kind = 5 then StarR (matH R nm terms s e.kids) i k
    else ∃ m, i ≤ m ∧ m ≤ k ∧ matH R nm terms s e.kids i m ∧ StarR (matH R nm terms s e.kids) m k) := by
  cases e; rw [matE]; rfl
theorem matA_iff {l : List GEx} {i k : Nat} : matA R nm terms s l i k ↔ ∃ e, e ∈ l ∧ matE R nm terms s e i k := by
  induction l with
  | nil => rw [matA]; simp
  | cons e l ih => rw [matA, ih]; simp
theorem matE_mono (hR : ∀ a i k, R a i k → R' a i k) (e : GEx) : ∀ i k, matE R nm terms s e i k → matE R' nm terms s e i k := by
  induction e using GEx.ind with
  | h e ih =>
    have hS : ∀ l : List GEx, (∀ x, x ∈ l → x ∈ e.kids) → ∀ i k, matS R nm terms s l i k → matS R' nm terms s l i k := by
      intro l
      induction l with
      | nil => intro _ i k h; rw [matS] at h ⊢; exact h
      | cons x l ihl =>
        intro hl i k h
        rw [matS] at h ⊢
        obtain ⟨m, h1, h2, h3, h4⟩ := h
        exact ⟨m, h1, h2, ih x (hl x (by simp)) _ _ h3, ihl (fun y hy => hl y (by simp [hy])) _ _ h4⟩
    have hH : ∀ i k, matH R nm terms s e.kids i k → matH R' nm terms s e.kids i k := by
      intro i k h
      cases hk : e.kids with
      | nil => rw [hk, matH] at h; exact h.elim
      | cons x l => rw [hk, matH] at h; rw [matH]; exact ih x (by rw [hk]; simp) _ _ h
    intro i k h
    rw [matE_eq] at h ⊢
    split at h
    · rw [if_pos (by assumption)]
      split at h
      · rw [if_pos (by assumption)]; exact hR _ _ _ h
      · rw [if_neg (by assumption)]; exact h
    · rw [if_neg (by assumption)]
      split at h
      · rw [if_pos (by assumption)]; exact hS _ (fun _ h => h) _ _ h
      · rw [if_neg (by assumption)]
        split at h
        · rw [if_pos (by assumption)]
          obtain ⟨x, hx, h⟩ := matA_iff.1 h
          exact matA_iff.2 ⟨x, hx, ih x hx _ _ h⟩
        · rw [if_neg (by assumption)]
          split at h
          · rw [if_pos (by assumption)]; exact h.imp id (hH _ _)
          · rw [if_neg (by assumption)]
            split at h
            · rw [if_pos (by assumption)]; exact h.mono hH
            · rw [if_neg (by assumption)]
              obtain ⟨m, h1, h2, h3, h4⟩ := h
              exact ⟨m, h1, h2, hH _ _ h3, h4.mono hH⟩
end
def starF (M : Nat → Nat → Bool) : Nat → Nat → Nat → Bool
  | 0, i, k => decide (i = k)
  | n + 1, i, k => decide (i = k) || (List.range (k - i)).any fun d => M i (i + 1 + d) && starF M n (i + 1 + d) k
def starT (M : Nat → Nat → Bool) (i k : Nat) : Bool := starF M (k - i) i k
theorem starF_iff {M : Nat → Nat → Bool} : ∀ {n i k : Nat}, i ≤ k → k - i ≤ n → (starF M n i k = true ↔ StarR (fun a b => M a b = true) i k)
  | 0, i, k, h, hn => by
    have : i = k := by omega
    subst this
    simp [starF, StarR.refl]
  | n + 1, i, k, h, hn => by
    simp only [starF, Bool.or_eq_true, decide_eq_true_eq, List.any_eq_true, List.mem_range, Bool.and_eq_true]
    constructor
    · rintro (rfl | ⟨d, h1, h2, h3⟩)
      · exact .refl _
      · exact .step (by omega) h2 ((starF_iff (by omega) (by omega)).1 h3)
    · intro hs
      cases hs with
      | refl => exact .inl rfl
      | @step _ m _ h1 h2 h3 =>
        have := h3.le
        obtain ⟨d, rfl⟩ : ∃ d, m = i + 1 + d := ⟨m - (i + 1), by omega⟩
        exact .inr ⟨d, by omega, h2, (starF_iff (by omega) (by omega)).2 h3⟩
theorem starT_iff {M : Nat → Nat → Bool} {i k : Nat} (h : i ≤ k) : starT M i k = true ↔ StarR (fun a b => M a b = true) i k := starF_iff h (Nat.le_refl _)
theorem starT_eq {M : Nat → Nat → Bool} {i k : Nat} (h : i < k) : starT M i k = (List.range (k - i)).any fun d => M i (i + 1 + d) && starT M (i + 1 + d) k := by
  rw [Bool.eq_iff_iff, starT_iff (by omega)]
  simp only [List.any_eq_true, List.mem_range, Bool.and_eq_true]
  constructor
  · intro hs
    cases hs with
    | refl => omega
    | @step _ m _ h1 h2 h3 =>
      have := h3.le
      obtain ⟨d, rfl⟩ : ∃ d, m = i + 1 + d := ⟨m - (i + 1), by omega⟩
      exact ⟨d, by omega, h2, (starT_iff (by omega)).2 h3⟩
  · rintro ⟨d, h1, h2, h3⟩
    exact .step (by omega) h2 ((starT_iff (by omega)).1 h3)
theorem starT_refl {M : Nat → Nat → Bool} (i : Nat) : starT M i i = true := (starT_iff (Nat.le_refl _)).2 (.refl _)
mutual
def mtE (T : Nat → Nat → Nat → Bool) (nm terms : List ByteArray) (s : List Int) : GEx → Nat → Nat → Bool
  | .mk kd n l, i, k =>
    if kd = 1 then (if 0 ≤ idx nm n then T (idx nm n).toNat i k else decide (k = i + 1) && decide (nth s i = idx terms n))
    else if kd = 2 then mtS T nm terms s l i k
    else if kd = 3 then mtA T nm terms s l i k
    else if kd = 4 then decide (i = k) || mtH T nm terms s l i k
    else if kd = 5 then starT (mtH T nm terms s l) i k
    else (List.range (k + 1 - i)).any fun d => mtH T nm terms s l i (i + d) && starT (mtH T nm terms s l) (i + d) k
def mtS (T : Nat → Nat → Nat → Bool) (nm terms : List ByteArray) (s : List Int) : List GEx → Nat → Nat → Bool
  | [], i, k => decide (i = k)
  | e :: l, i, k => (List.range (k + 1 - i)).any fun d => mtE T nm terms s e i (i + d) && mtS T nm terms s l (i + d) k
def mtA (T : Nat → Nat → Nat → Bool) (nm terms : List ByteArray) (s : List Int) : List GEx → Nat → Nat → Bool
  | [], _, _ => false
  | e :: l, i, k => mtE T nm terms s e i k || mtA T nm terms s l i k
def mtH (T : Nat → Nat → Nat → Bool) (nm terms : List ByteArray) (s : List Int) : List GEx → Nat → Nat → Bool
  | [], _, _ => false
  | e :: _, i, k => mtE T nm terms s e i k
end
section
variable {T : Nat → Nat → Nat → Bool} {nm terms : List ByteArray} {s : List Int}
theorem mtE_eq (e : GEx) (i k : Nat) : mtE T nm terms s e i k = (if e.kind = 1 then (if 0 ≤ idx nm e.name then T (idx nm e.name).toNat i k else decide (k = i + 1) && decide (nth s i = idx terms e.name))
    else if e.kind = 2 then mtS T nm terms s e.kids i k
    else if e.kind = 3 then mtA T nm terms s e.kids i k
    else if e.kind = 4 then decide (i = k) || mtH T nm terms s e.kids i k
    else if e.kind = 5 then starT (mtH T nm terms s e.kids) i k
    else (List.range (k + 1 - i)).any fun d => mtH T nm terms s e.kids i (i + d) && starT (mtH T nm terms s e.kids) (i + d) k) := by
  cases e; rw [mtE]; rfl
theorem mtA_any (l : List GEx) (i k : Nat) : mtA T nm terms s l i k = l.any fun e => mtE T nm terms s e i k := by
  induction l with
  | nil => rw [mtA]; rfl
  | cons e l ih => rw [mtA, ih, List.any_cons]
theorem mtH_eq {l : List GEx} (h : 0 < l.length) (i k : Nat) : mtH T nm terms s l i k = mtE T nm terms s (nth l 0) i k := by
  cases l with
  | nil => cases h
  | cons e l => rw [mtH]; rfl
theorem mtE_iff (e : GEx) : ∀ i k, i ≤ k → (mtE T nm terms s e i k = true ↔ matE (fun a b c => T a b c = true) nm terms s e i k) := by
  induction e using GEx.ind with
  | h e ih =>
    have hS : ∀ l : List GEx, (∀ x, x ∈ l → x ∈ e.kids) → ∀ i k, i ≤ k → (mtS T nm terms s l i k = true ↔ matS (fun a b c => T a b c = true) nm terms s l i k) := by
      intro l
      induction l with
      | nil => intro _ i k _; rw [mtS, matS]; simp
      | cons x l ihl =>
        intro hl i k hik
        rw [mtS, matS]
        simp only [List.any_eq_true, List.mem_range, Bool.and_eq_true]
        constructor
        · rintro ⟨d, h1, h2, h3⟩
          exact ⟨i + d, by omega, by omega, (ih x (hl x (by simp)) _ _ (by omega)).1 h2, (ihl (fun y hy => hl y (by simp [hy])) _ _ (by omega)).1 h3⟩
        · rintro ⟨m, h1, h2, h3, h4⟩
          obtain ⟨d, rfl⟩ : ∃ d, m = i + d := ⟨m - i, by omega⟩
          exact ⟨d, by omega, (ih x (hl x (by simp)) _ _ (by omega)).2 h3, (ihl (fun y hy => hl y (by simp [hy])) _ _ (by omega)).2 h4⟩
    have hH : ∀ i k, i ≤ k → (mtH T nm terms s e.kids i k = true ↔ matH (fun a b c => T a b c = true) nm terms s e.kids i k) := by
      intro i k hik
      cases hk : e.kids with
      | nil => rw [mtH, matH]; simp
      | cons x l => rw [mtH, matH]; exact ih x (by rw [hk]; simp) _ _ hik
    have hSt : ∀ i k, i ≤ k → (starT (mtH T nm terms s e.kids) i k = true ↔ StarR (matH (fun a b c => T a b c = true) nm terms s e.kids) i k) := by
      intro i k hik
      rw [starT_iff hik]
      constructor
      · intro h
        induction h with
        | refl => exact .refl _
        | step h1 h2 h3 ih' => exact .step h1 ((hH _ _ (by omega)).1 h2) (ih' h3.le)
      · intro h
        induction h with
        | refl => exact .refl _
        | step h1 h2 h3 ih' => exact .step h1 ((hH _ _ (by omega)).2 h2) (ih' h3.le)
    intro i k hik
    rw [mtE_eq, matE_eq]
    split
    · split
      · exact Iff.rfl
      · simp
    · split
      · exact hS _ (fun _ h => h) i k hik
      · split
        · rw [mtA_any, matA_iff, List.any_eq_true]
          exact ⟨fun ⟨x, hx, h⟩ => ⟨x, hx, (ih x hx _ _ hik).1 h⟩, fun ⟨x, hx, h⟩ => ⟨x, hx, (ih x hx _ _ hik).2 h⟩⟩
        · split
          · simp [hH i k hik]
          · split
            · exact hSt i k hik
            · simp only [List.any_eq_true, List.mem_range, Bool.and_eq_true]
              constructor
              · rintro ⟨d, h1, h2, h3⟩
                exact ⟨i + d, by omega, by omega, (hH _ _ (by omega)).1 h2, (hSt _ _ (by omega)).1 h3⟩
              · rintro ⟨m, h1, h2, h3, h4⟩
                obtain ⟨d, rfl⟩ : ∃ d, m = i + d := ⟨m - i, by omega⟩
                exact ⟨d, by omega, (hH _ _ (by omega)).2 h3, (hSt _ _ (by omega)).2 h4⟩
end
end Go.Lg

namespace Go.Lg
open Go.RowKit
def WPL (P : Program) (Γ : Cx) (ops : Array Oper) (l : List Oper) (Q : Exit → St → Prop) (s : St) : Prop :=
  ∀ a w, SR Γ s a w → wpList P ops (fun e a' w' => ∃ s', Q e s' ∧ SR Γ s' a' w') l a w
section
variable {P : Program} {Γ : Cx} {ops : Array Oper} {Q : Exit → St → Prop} {s : St} {rest : List Oper} {o : Oper}
theorem wpl_region {id : Nat} {l : List Oper} (h : WPL P Γ l.toArray l Q s) : WP P Γ (.region id l.toArray false) Q s := fun a w hs => wp_region_lit (h a w hs)
theorem wpl_step (hg : o.guard = none) (h : asemC P ops [o] s fun s' => WPL P Γ ops rest Q s') : WPL P Γ ops (o :: rest) Q s := fun a w hs =>
  wpList_plain hg fun K hK => Oper.wp_mono (fun a' w' ⟨s', h1, h2⟩ => hK a' w' (h1 a' w' h2)) (asemC_one hg hs h)
theorem wpl_end (h : Q .normal s) : WPL P Γ ops [] Q s := fun a w hs => ⟨s, h, hs⟩
variable {n M : Nat} {l : List (Nat × AV)} {os : List (Nat × Option AObj)}
theorem wpl_frz {id k len : Nat} {vs : List AV} (j : Nat) (hm : Γ.m = 0) (h : opq n l (.tmp j) = some (.ref id k 0 len)) (ho : lookq M os id = some (.arr k vs)) (hl : vs.length = len) (hb : bdL 0 vs = true) (hk : (vs.all fun x => Nat.beq x.cells.length k) = true)
    (hw : WPL P Γ ops rest Q (S n ((j, .sl k vs) :: l) M ((id, none) :: os))) : WPL P Γ ops rest Q (S n l M os) := fun a w hs => by
  refine hw a w ?_
  obtain ⟨ρ, hs⟩ := hs
  have hj : j < n := by
    simp only [opq] at h
    cases hb : Nat.blt j n with
    | false => rw [hb] at h; simp at h
    | true => exact blt_of hb
  have hx := opq_op (M := M) (os := os) h
  simp only [St.op, S] at hx
  rw [tl_getD l hj] at hx
  have hlen : a.tmps.size = n := by rw [hs.len]; simp [S, tl_length]
  have hv : a.tmps[j]? = some (a.tmps[j]'(by omega)) := Array.getElem?_eq_getElem (by omega)
  have hrv := hs.tmp j (.ref id k 0 len) _ (by simp only [S, tl_get l hj, hx]) hv
  have h1 := hs.kill id
  have hmap : vs.attach.map (fun x => x.1) = vs := List.attach_map_subtype_val vs
  have hlist := hs.list (α := {x // x ∈ vs}) (f := fun x => x.1) (L := vs.attach) hm (by rw [S_look, hmap]; exact ho) (by simpa using hl) (fun x => bdL_iff.1 hb x.1 x.2) (fun x => Nat.eq_of_beq_eq_true (List.all_eq_true.1 hk x.1 x.2)) hrv
  rw [hmap] at hlist
  have h2 := h1.put (some j) hlist
  rw [act_same hv] at h2
  refine ⟨ρ, ?_⟩
  have e : ((S n l M os).set id none).put (some j) (.sl k vs) = S n ((j, .sl k vs) :: l) M ((id, none) :: os) := by simp [S, St.set, St.put, ol_set, tl_set]
  rw [e] at h2
  simpa [S, ol_length] using h2
end
end Go.Lg

namespace Go.Lg
open Go.RowKit
def CallX (P : Program) (fv : AV) (args : List AV) (s : St) (v : Value) (s' : St) : Prop :=
  ∀ (Γ : Cx) (a : Act) (w : World) (f : Value) (vs : List Value), SR Γ s a w → (∀ ρ, SRa Γ (fun id => id < s.objs.length) ρ s a w → RV (fun id => id < s.objs.length) ρ (Im Γ ρ s w) w fv f ∧ vs.length = args.length ∧
      ∀ (i : Nat) x v, args[i]? = some x → vs[i]? = some v → RV (fun id => id < s.objs.length) ρ (Im Γ ρ s w) w x v) →
    ∃ g us, (∀ w : World, (do let d ← Deferred.ofValue f vs.toArray; invoke d.target d.args : Sem Next).run P w = .ok (.enter g us) w) ∧
      Calls P g us w fun e w' => e = .panicked [{ v, recovered := false }] ∧ SR Γ s' a w'
structure FnX (P : Program) (g : FuncId) (ys : List AV) (os : List AObj) (v : Value) : Prop where
  en : enterable P g = true
  spec : ∀ (Γ : Cx) (vs : Array Value), Γ.m = (os.map some).length → SR Γ ⟨ys, os.map some⟩ ⟨vs, []⟩ Γ.w0 →
    Calls P g vs Γ.w0 fun e w' => e = .panicked [{ v, recovered := false }] ∧ SR Γ ⟨[.any], os.map fun _ => none⟩ ⟨#[undef], []⟩ w'
section
variable {P : Program} {Γ : Cx} {A : Nat → Prop} {ρ : Nat → Option Nat} {s : St} {a : Act} {w : World}
theorem SRa.view {g : FuncId} {first cap args ys : List AV} {os : List AObj} (l : List Nat) {f : Value} {vs : List Value} (he : enterable P g = true) (h : SRa Γ (fun id => id < s.objs.length) ρ s a w)
    (hf : RV (fun id => id < s.objs.length) ρ (Im Γ ρ s w) w (.clo (.func g) first cap) f) (hl : vs.length = args.length) (hv : ∀ (i : Nat) x v, args[i]? = some x → vs[i]? = some v → RV (fun id => id < s.objs.length) ρ (Im Γ ρ s w) w x v) (hL : Lend l s (first ++ args ++ cap) ys os) :
    ∃ us, (∀ w : World, (do let d ← Deferred.ofValue f vs.toArray; invoke d.target d.args : Sem Next).run P w = .ok (.enter g us) w) ∧ ∃ Γ' : Cx, Γ'.m = os.length ∧ Γ'.w0 = w ∧ Γ'.ds = [] ∧ SR Γ' ⟨ys, os.map some⟩ ⟨us, []⟩ w ∧
      ∀ (objs' : List (Option AObj)) w' (r : AV) (v : Value), os.length ≤ objs'.length → SR Γ' ⟨[r], objs'⟩ ⟨#[v], []⟩ w' → SR Γ ⟨s.tmps, updO (apx s.objs.length l) s.objs l objs'⟩ a w' := by
  obtain ⟨us, hrun, hsz, hrv⟩ := call_args he hf hl hv
  obtain ⟨h1, h2, h3, h5, h6⟩ := hL
  have hm : os.length = l.length := by simpa using wkRO_len h2
  have hlive : ∀ j o, os[j]? = some o → s.live (ap l j) (o.ren (ap l)) := fun j o ho => wkRO_get h2 j o (by simp [ho])
  have hlive' : ∀ j, j < l.length → ∃ o, s.live (ap l j) o := fun j hj => ⟨_, hlive j _ (List.getElem?_eq_getElem (by omega))⟩
  have hlt : ∀ j, j < l.length → ap l j < s.objs.length := fun j hj => wkRO_lt h2 j hj
  have happ : ∀ j, j < l.length → ap l j ∈ l := fun j hj => by simp [ap, List.getD, List.getElem?_eq_getElem hj]
  let Γ' : Cx := ⟨w, fun b => Im Γ ρ s w b ∨ ∃ j, j < l.length ∧ ρ (ap l j) = some b, os.length, fun j => ρ (ap l j), h.fr.next.1, h.fr.next.2, fun j hj b hb => by
    obtain ⟨o, ho⟩ := hlive' j (by omega)
    rcases h.own _ o b ho hb with q | ⟨i, hi, q⟩
    · exact Nat.le_trans Γ.hgl q
    · exact Γ.hext i hi b q, [], fun j hj b hb => .inl (.inr ⟨j, by omega, hb⟩)⟩
  have hst : ∀ id o, St.live ⟨ys, os.map some⟩ id o → os[id]? = some o := fun id o hl => by
    unfold St.live at hl
    simp only [List.getElem?_map, Option.map_eq_some_iff] at hl
    obtain ⟨x, hx, hxo⟩ := hl
    injection hxo with hxo; subst hxo; exact hx
  have hI0 : ∀ b, Im Γ ρ s w b → Im Γ' (fun j => ρ (ap l j)) ⟨ys, os.map some⟩ w b ∧ w.heap[b]? = w.heap[b]? := fun b hb => ⟨⟨.inl (.inl hb), hb.2.1, fun id o hl => hb.2.2 _ _ (hlive id o (hst id o hl))⟩, rfl⟩
  have h0 : SR Γ' ⟨ys, os.map some⟩ ⟨us, []⟩ w := by
    refine ⟨fun j => ρ (ap l j), fun i hi => ⟨by simpa using hi, rfl⟩, by simp only; rw [hsz, wkR_len h1], ?_, fun id o hl => ?_, fun id o hl => (List.getElem?_eq_some_iff.1 hl).1, fun _ hid => hid, fun id o b hl hb => .inr ⟨id, (List.getElem?_eq_some_iff.1 (hst id o hl)).1, hb⟩, fun i j o o' b g1 g2 g3 g4 => ?_, rfl, ⟨Nat.le_refl _, rfl, rfl, rfl, fun _ _ _ => rfl, fun _ _ hn => hn⟩⟩
    · intro i y v hy hu
      simp only at hy hu
      have hi : i < (first ++ args ++ cap).length := by rw [← wkR_len h1]; exact (List.getElem?_eq_some_iff.1 hy).1
      have hx := List.getElem?_eq_getElem hi
      rcases wkR_get h1 i _ y hx hy with rfl | hxy
      · exact .any
      · have := (hrv i _ v hx hu).unren (π := ap l) (n := os.length) (ρ' := fun j => ρ (ap l j)) (fun _ _ => rfl) hI0 (fun _ _ hn => hn) hxy (bdL_iff.1 h5 _ (List.mem_of_getElem? hy))
        simpa using this
    · have := (h.obj _ _ (hlive id o (hst id o hl))).unren (π := ap l) (n := os.length) (ρ' := fun j => ρ (ap l j)) (fun _ _ => rfl) hI0 (fun _ _ hn => hn) (fun _ _ => rfl) (by have := bdO_get h6 id o (by simp [hst id o hl]); cases o <;> exact this)
      simpa using this
    · have e := h.inj _ _ _ _ b (hlive i o (hst i o g1)) (hlive j o' (hst j o' g2)) g3 g4
      have hi := (List.getElem?_eq_some_iff.1 (hst i o g1)).1
      have hj := (List.getElem?_eq_some_iff.1 (hst j o' g2)).1
      rw [hm] at hi hj
      simp only [ap, List.getD, List.getElem?_eq_getElem hi, List.getElem?_eq_getElem hj, Option.getD_some] at e
      exact (List.getElem_inj h3).1 e
  refine ⟨us, hrun, Γ', rfl, rfl, rfl, h0, ?_⟩
  rintro objs' w' r rv hle ⟨ρ'', hs'⟩
  have hfr := hs'.fr
  have hext : ∀ j, j < l.length → ρ'' j = ρ (ap l j) := fun j hj => (hs'.ext j (by simp only [Γ']; omega)).2
  generalize hs2 : (⟨s.tmps, updO (apx s.objs.length l) s.objs l objs'⟩ : St) = s2
  let ρn : Nat → Option Nat := fun id => if id < s.objs.length then ρ id else ρ'' (id - s.objs.length + l.length)
  have hρold : ∀ id, id < s.objs.length → ρn id = ρ id := fun id hid => if_pos hid
  have hρnew : ∀ j, ρn (apx s.objs.length l j) = ρ'' j := fun j => by
    unfold apx
    split
    · rename_i hj; rw [hρold _ (hlt j hj)]; exact (hext j hj).symm
    · rename_i hj
      simp only [ρn]
      rw [if_neg (by omega)]
      congr 1; omega
  have hn2 : s2.objs.length = s.objs.length + (objs'.length - l.length) := by rw [← hs2]; exact updO_len (by omega)
  have hapx : ∀ j, j < objs'.length → apx s.objs.length l j < s2.objs.length := fun j hj => by
    rw [hn2]; unfold apx
    split
    · rename_i h; have := hlt j h; omega
    · omega
  have cases2 : ∀ id o, s2.live id o → (id < s.objs.length ∧ s.live id o ∧ id ∉ l) ∨ ∃ j o0, St.live ⟨[r], objs'⟩ j o0 ∧ o = o0.ren (apx s.objs.length l) ∧ id = apx s.objs.length l j := by
    intro id o ho
    rw [← hs2] at ho
    exact updO_get (os := objs') (show l.length ≤ objs'.length by omega) (fun j i hi => by
      have hj := (List.getElem?_eq_some_iff.1 hi).1
      have := hlt j hj
      simpa [ap, List.getD, hi] using this) h3 ho
  have hblk : ∀ b, b < w.heap.size → (∀ j, j < l.length → ρ (ap l j) ≠ some b) → w'.heap[b]? = w.heap[b]? := fun b hb hne => hfr.block b hb (fun i hi => hne i (by simp only [Γ'] at hi; omega))
  have hIold : ∀ b, Im Γ ρ s w b → Im Γ ρn s2 w' b ∧ w'.heap[b]? = w.heap[b]? := by
    rintro b ⟨g1, g2, g3⟩
    refine ⟨⟨g1, Nat.lt_of_lt_of_le g2 hfr.size, fun id o ho => ?_⟩, hblk b g2 fun j hj => ?_⟩
    · rcases cases2 id o ho with ⟨c1, c2, _⟩ | ⟨j, o0, c1, _, rfl⟩
      · rw [hρold id c1]; exact g3 id o c2
      · rw [hρnew]
        intro hb
        rcases hs'.own j o0 b c1 hb with q | ⟨i, hi, q⟩
        · simp only [Γ'] at q; omega
        · simp only [Γ'] at hi q
          obtain ⟨o', ho'⟩ := hlive' i (by omega)
          exact g3 _ _ ho' q
    · obtain ⟨o', ho'⟩ := hlive' j hj
      exact g3 _ _ ho'
  have hInew : ∀ b, Im Γ' ρ'' ⟨[r], objs'⟩ w' b → Im Γ ρn s2 w' b ∧ w'.heap[b]? = w'.heap[b]? := by
    rintro b ⟨g1, g2, g3⟩
    refine ⟨⟨?_, g2, fun id o ho => ?_⟩, rfl⟩
    · rcases g1 with (g1 | ⟨j1, q1, q2⟩) | g1
      · exact g1.1
      · obtain ⟨o', ho'⟩ := hlive' j1 q1
        rcases h.own _ o' b ho' q2 with q | ⟨i, hi, q⟩
        · exact .inr q
        · exact Γ.hin i hi b q
      · exact .inr (Nat.le_trans h.fr.size g1)
    · rcases cases2 id o ho with ⟨c1, c2, c3⟩ | ⟨j, o0, c1, _, rfl⟩
      · rw [hρold id c1]
        intro hb
        have := live_block h c2 hb
        rcases g1 with (g1 | ⟨j1, q1, q2⟩) | g1
        · exact g1.2.2 id o c2 hb
        · obtain ⟨o', ho'⟩ := hlive' j1 q1
          have := h.inj _ _ _ _ b c2 ho' hb q2
          exact c3 (this ▸ happ j1 q1)
        · simp only [Γ'] at g1; omega
      · rw [hρnew]; exact g3 j o0 c1
  have hown : ∀ j o0 b, St.live ⟨[r], objs'⟩ j o0 → ρ'' j = some b → w.heap.size ≤ b ∨ ∃ i, i < l.length ∧ ρ (ap l i) = some b := fun j o0 b c1 hb => by
    rcases hs'.own j o0 b c1 hb with q | ⟨i, hi, q⟩
    · exact .inl q
    · exact .inr ⟨i, by simp only [Γ'] at hi; omega, q⟩
  have hw' : SRa Γ (fun id => id < s2.objs.length) ρn s2 a w' := by
    refine ⟨fun i hi => ?_, by rw [← hs2]; exact h.len, ?_, ?_, fun id o ho => (List.getElem?_eq_some_iff.1 ho).1, fun _ hid => hid, ?_, ?_, h.defers, h.fr.turn hfr.size hfr.os hfr.tape hfr.output ?_ hfr.csize⟩
    · have g := h.ext i hi
      exact ⟨by have := g.1; omega, (hρold i g.1).trans g.2⟩
    · intro i x u hx hu
      exact (h.tmp i x u (by rw [← hs2] at hx; exact hx) hu).mono (fun id hid => ⟨by omega, hρold id hid⟩) hIold hfr.csize
    · intro id o ho
      rcases cases2 id o ho with ⟨c1, c2, c3⟩ | ⟨j, o0, c1, rfl, rfl⟩
      · rw [hρold id c1]
        refine (h.obj id o c2).mono (fun id hid => ⟨by omega, hρold id hid⟩) hIold hfr.csize fun c hc => hblk c (live_block h c2 hc) fun j hj hj' => ?_
        obtain ⟨o', ho'⟩ := hlive' j hj
        have := h.inj _ _ _ _ c c2 ho' hc hj'
        exact c3 (this ▸ happ j hj)
      · rw [hρnew]
        exact (hs'.obj j o0 c1).reren (fun id hid => ⟨hapx id hid, hρnew id⟩) hInew (fun _ _ hn => hn) (fun _ _ => rfl)
    · intro id o b ho hb
      rcases cases2 id o ho with ⟨c1, c2, c3⟩ | ⟨j, o0, c1, rfl, rfl⟩
      · rw [hρold id c1] at hb; exact h.own id o b c2 hb
      · rw [hρnew] at hb
        rcases hown j o0 b c1 hb with q | ⟨i, hi, q⟩
        · exact .inl (Nat.le_trans h.fr.size q)
        · obtain ⟨o', ho'⟩ := hlive' i hi
          exact h.own _ _ b ho' q
    · have mix : ∀ id o b j o0, s.live id o → id ∉ l → ρ id = some b → St.live ⟨[r], objs'⟩ j o0 → ρ'' j = some b → False := by
        intro id o b j o0 c2 c3 hb c1 hb'
        rcases hown j o0 b c1 hb' with q | ⟨i, hi, q⟩
        · have := live_block h c2 hb; omega
        · obtain ⟨o', ho'⟩ := hlive' i hi
          have := h.inj _ _ _ _ b c2 ho' hb q
          exact c3 (this ▸ happ i hi)
      intro id id' o o' b ho ho' hb hb'
      rcases cases2 id o ho with ⟨c1, c2, c3⟩ | ⟨j, o0, c1, rfl, rfl⟩ <;> rcases cases2 id' o' ho' with ⟨d1, d2, d3⟩ | ⟨j', o0', d1, rfl, rfl⟩
      · rw [hρold id c1] at hb; rw [hρold id' d1] at hb'
        exact h.inj _ _ _ _ b c2 d2 hb hb'
      · rw [hρold id c1] at hb; rw [hρnew] at hb'
        exact (mix _ _ _ _ _ c2 c3 hb d1 hb').elim
      · rw [hρnew] at hb; rw [hρold id' d1] at hb'
        exact (mix _ _ _ _ _ d2 d3 hb' c1 hb).elim
      · rw [hρnew] at hb hb'
        rw [hs'.inj _ _ _ _ b c1 d1 hb hb']
    · intro b hb
      by_cases hj : ∃ j, j < l.length ∧ ρ (ap l j) = some b
      · obtain ⟨j, hj, hjb⟩ := hj
        obtain ⟨o', ho'⟩ := hlive' j hj
        exact .inr (h.own _ _ b ho' hjb)
      · exact .inl (hblk b hb fun j hj' he => hj ⟨j, hj', he⟩)
  exact ⟨ρn, hw'⟩
theorem CallX.via {g : FuncId} {first cap args ys : List AV} {os : List AObj} (l : List Nat) {pv : Value} (hspec : FnX P g ys os pv) (hL : Lend l s (first ++ args ++ cap) ys os) :
    CallX P (.clo (.func g) first cap) args s pv ⟨s.tmps, updO (apx s.objs.length l) s.objs l (os.map fun _ => none)⟩ := by
  intro Γ a w f vs hs hfv
  obtain ⟨ρ, h⟩ := hs
  obtain ⟨hf, hl, hv⟩ := hfv ρ h
  obtain ⟨us, hrun, Γ', hm, hw, hd, h0, hback⟩ := h.view l hspec.en hf hl hv hL
  refine ⟨g, us, hrun, ?_⟩
  subst hw
  refine (hspec.spec Γ' us (by simp [hm]) h0).mono ?_
  rintro e w' ⟨rfl, hs'⟩
  exact ⟨rfl, hback _ _ _ _ (by simp) hs'⟩
theorem SR.dead (h : SR Γ s a w) (hd : Γ.ds = []) {m : Nat} (hm : Γ.m = m) : SR Γ ⟨[.any], List.replicate m none⟩ ⟨#[undef], []⟩ w := by
  obtain ⟨ρ, h⟩ := h
  have hl : ∀ id o, ¬ St.live ⟨[.any], List.replicate m none⟩ id o := fun id o hl => by
    unfold St.live at hl
    simp only [List.getElem?_replicate] at hl
    split at hl <;> simp at hl
  refine ⟨ρ, fun i hi => ⟨by simp; omega, (h.ext i hi).2⟩, rfl, fun i x v hx hv => ?_, fun id o h => absurd h (hl id o), fun id o h => absurd h (hl id o), fun _ hid => hid, fun id o b h => absurd h (hl id o), fun i j o o' b h => absurd h (hl i o), hd.symm, h.fr⟩
  cases i with
  | zero => simp at hx; subst hx; exact .any
  | succ i => simp at hx
end
def bodyX (v : Value) : Exit → St → Prop
  | .panic ch, _ => ch = [{ v, recovered := false }]
  | _, _ => False
section
variable {P : Program} {Γ : Cx} {n M : Nat} {l : List (Nat × AV)} {os : List (Nat × Option AObj)} {x X : AV} {d t : Tmp} {ty : TypeId} {pos : String} {af : Array Edge} {ops : Array Oper} {rest : List Oper} {K : St → Prop} {g : FuncId} {first cap xa ys : List AV} {f : Operand} {args : Array Operand} {tys : Array TypeId} {Q : Exit → St → Prop} {s : St} {next : St → Prop}
theorem FnX.intro {fn : Func} {c : Code} {aos : List AObj} {v : Value} (he : enterable P g = true) (hf : P.funcs[g]? = some fn) (hb : fn.body = some c) (hn : fn.ntmps = n) (hl : ys.length ≤ n)
    (h : ∀ Γ : Cx, Γ.m = aos.length → WP P Γ c (bodyX v) (S n (enumA 0 ys) aos.length (enumO 0 aos))) : FnX P g ys aos v := by
  refine ⟨he, fun Γ vs hm hs => calls_of_wp hf hb ?_⟩
  obtain ⟨ρ, hs⟩ := hs
  have hlen : vs.size = ys.length := hs.len
  have h0 : SR Γ ⟨ys ++ List.replicate (fn.ntmps - ys.length) .any, aos.map some⟩ ⟨vs ++ Array.replicate (fn.ntmps - vs.size) undef, []⟩ Γ.w0 := by
    refine ⟨ρ, hs.ext, by simp [hlen], ?_, hs.obj, hs.made, hs.bound, hs.own, hs.inj, hs.defers, hs.fr⟩
    intro i x v hx hv
    simp only at hx hv
    by_cases hi : i < ys.length
    · rw [List.getElem?_append_left hi] at hx
      rw [Array.getElem?_append_left (by omega)] at hv
      exact hs.tmp i x v hx hv
    · rw [List.getElem?_append_right (by omega)] at hx
      have hm := List.mem_of_getElem? hx
      rw [(List.mem_replicate.1 hm).2]
      exact .any
  subst hn
  rw [tl_start _ _ hl] at h0
  rw [List.length_map] at hm
  have hw := h Γ hm
  simp only [S, ← ol_enum] at hw
  refine wp_mono (hw _ _ h0) ?_
  rintro e a' w' ⟨s', hq, hs'⟩
  cases e with
  | panic ch =>
    have hd : Γ.ds = [] := hs.defers.symm
    have e1 : (aos.map fun _ => (none : Option AObj)) = List.replicate aos.length none := by
      rw [List.map_const']
    obtain ⟨ρ', hs''⟩ := hs'
    refine ⟨hs''.defers.trans hd, ?_⟩
    simp only [bodyX] at hq
    exact ⟨by rw [hq], by rw [e1]; exact SR.dead ⟨ρ', hs''⟩ hd hm⟩
  | _ => exact hq.elim
def kill : List Nat → List (Nat × Option AObj) → List (Nat × Option AObj)
  | [], os => os
  | i :: is, os => kill is ((i, none) :: os)
end
end Go.Lg

namespace Go.Lg
open Go.RowKit
set_option linter.unusedVariables false
inductive Res where
  | ok (X : AV) (os : List (Option AObj))
  | die (v : Value)
def FnP (P : Program) (g : FuncId) (ys : List AV) (os : List AObj) : Res → Prop
  | .ok X os' => FnO P g ys os X os'
  | .die v => FnX P g ys os v
def bodyP (P : Program) (rs : List ResultVar) (m : Nat) (r : Res) : Exit → St → Prop
  | .normal, s | .ret, s => ∃ X os', r = .ok X os' ∧ RetO P rs m X os' s
  | .panic ch, _ => ∃ v, r = .die v ∧ ch = [{ v, recovered := false }]
  | _, _ => False
def Res.fine (m : Nat) : Res → Prop
  | .ok X os' => m ≤ os'.length ∧ X.bd os'.length = true
  | .die _ => True
section
variable {P : Program} {Γ : Cx} {n M : Nat} {l : List (Nat × AV)} {os : List (Nat × Option AObj)} {x X : AV} {d t : Tmp} {ty : TypeId} {pos : String} {af : Array Edge} {ops : Array Oper} {rest : List Oper} {K : St → Prop} {g : FuncId} {first cap xa ys : List AV} {f : Operand} {args : Array Operand} {tys : Array TypeId} {Q : Exit → St → Prop} {s : St} {next : St → Prop}
theorem FnP.intro {fn : Func} {c : Code} {aos : List AObj} {rs : List ResultVar} {r : Res} (hr : r.fine aos.length) (he : enterable P g = true) (hf : P.funcs[g]? = some fn) (hb : fn.body = some c) (hrs : fn.results = rs.toArray) (hn : fn.ntmps = n) (hl : ys.length ≤ n)
    (h : ∀ Γ : Cx, Γ.m = aos.length → WP P Γ c (bodyP P rs aos.length r) (S n (enumA 0 ys) aos.length (enumO 0 aos))) : FnP P g ys aos r := by
  cases r with
  | ok X os' =>
    refine FnO.intro hr.1 hr.2 he hf hb hrs hn hl fun Γ hm => WP.mono (h Γ hm) ?_
    intro e s hq
    cases e with
    | normal => obtain ⟨X', o', e, h⟩ := hq; injection e with e1 e2; subst e1 e2; exact h
    | ret => obtain ⟨X', o', e, h⟩ := hq; injection e with e1 e2; subst e1 e2; exact h
    | panic ch => obtain ⟨v, e, _⟩ := hq; cases e
    | _ => exact hq
  | die v =>
    refine FnX.intro he hf hb hn hl fun Γ hm => WP.mono (h Γ hm) ?_
    intro e s hq
    cases e with
    | normal => obtain ⟨X', o', e, h⟩ := hq; cases e
    | ret => obtain ⟨X', o', e, h⟩ := hq; cases e
    | panic ch => obtain ⟨v', e, h⟩ := hq; injection e with e; subst e; exact h
    | _ => exact hq
def PInd (Q : Exit → St → Prop) : Prop := ∀ ch s t x, Q (.panic ch) s → Q (.panic ch) (s.put t x)
theorem pind_then (h : PInd Q) : PInd (thenA next Q) := fun ch s t x hq => h ch s t x hq
theorem pind_block {id : Nat} (h : PInd Q) : PInd (inBlockA id Q) := fun ch s t x hq => h ch s t x hq
theorem pind_q {R : St → Prop} : PInd (bodyQ R) := fun ch s t x hq => hq
def liftQ (Γ : Cx) (Q : Exit → St → Prop) : Exit → Act → World → Prop := fun e a' w' => ∃ s', Q e s' ∧ SR Γ s' a' w'
def WPT (P : Program) (Γ : Cx) (ops : Array Oper) (Q : Exit → St → Prop) (fuel : Nat) (listed : Array Bool) (s : St) : Prop :=
  ∀ a w, SR Γ s a w → wpAny P .any ops (liftQ Γ Q) fuel listed a w
def WPO (P : Program) (Γ : Cx) (ops : Array Oper) (Q : Exit → St → Prop) (i : Nat) (K : St → Prop) (s : St) : Prop :=
  ∀ a w, SR Γ s a w → wpOp P ops (liftQ Γ Q) i (fun a' w' => ∃ s', K s' ∧ SR Γ s' a' w') a w
def AllO (P : Program) (Γ : Cx) (ops : Array Oper) (Q : Exit → St → Prop) (fuel : Nat) (listed : Array Bool) (s : St) : List Nat → Prop
  | [] => True
  | i :: r => WPO P Γ ops Q i (WPT P Γ ops Q fuel (listed.setIfInBounds i true)) s ∧ AllO P Γ ops Q fuel listed s r
theorem wp_tree {id : Nat} {L : List Oper} (k : Nat) (hm : P.follows .mixedOrders = true) (hk : L.length = k) (h : WPT P Γ L.toArray Q k (Array.replicate k false) s) : WP P Γ (.region id L.toArray true) Q s := by
  intro a w hs
  have hsz : L.toArray.size = k := by simpa using hk
  refine wp_region_any hm ?_
  rw [hsz]
  exact h a _ (hs.drawn _)
variable {fuel i : Nat} {listed : Array Bool}
theorem wpt_all {rs : List Nat} (hr : Region.ready .any ops listed = rs) (hne : rs.isEmpty = false) (h : AllO P Γ ops Q fuel listed s rs) : WPT P Γ ops Q (fuel + 1) listed s := by
  intro a w hs
  refine wpAny_all hr (by cases rs <;> simp_all) fun i hi => ?_
  have key : ∀ rs, AllO P Γ ops Q fuel listed s rs → ∀ i, i ∈ rs → WPO P Γ ops Q i (WPT P Γ ops Q fuel (listed.setIfInBounds i true)) s := by
    intro rs
    induction rs with
    | nil => intro _ i hi; cases hi
    | cons j r ih =>
      intro h i hi
      rcases List.mem_cons.1 hi with rfl | hi
      · exact h.1
      · exact ih h.2 i hi
  exact wpOp_mono (fun a' w' ⟨s', h1, h2⟩ => h1 a' w' h2) (key rs h i hi a w hs)
theorem wpt_end (hr : Region.ready .any ops listed = []) (h : Q .normal s) : WPT P Γ ops Q fuel listed s := fun a w hs => wpAny_done hr ⟨s, h, hs⟩ fuel
theorem wpo_do {o : Oper} (ho : ops[i]? = some o) (hg : o.guard = none) (h : asemC P ops [o] s K) : WPO P Γ ops Q i K s := by
  intro a w hs
  unfold wpOp
  rw [ho]
  simp only
  rw [if_pos (by simp [Region.wanted, hg])]
  exact .inl (asemC_one hg hs h)
def Still (P : Program) (op : Op) : Prop := ∀ (ρ : Operand → Value) (dst : Option Tmp) (ty : TypeId) (pos : String) (af : Array Edge) (v : Value) (w w' w1 : World), (execOp ρ ⟨dst, op, ty, pos, af, none⟩).run P w = .ok (.value v) w1 → (execOp ρ ⟨dst, op, ty, pos, af, none⟩).run P w' = .ok (.value v) w'
theorem still_move {a : Operand} : Still P (.move a) := by
  intro ρ dst ty pos af v w w' w1 h
  simp only [execOp, Sem.run_pure] at h ⊢
  injection h with h1 h2
  rw [h1]
theorem wpt_take {op : Op} (i : Nat) (ho : ops[i]? = some ⟨some d, op, ty, pos, af, none⟩) (hst : Still P op) (hap : Ap P n l M os [] op x) (hs : Region.noSelect ops = true) (hf : Region.free .any ops listed i = true) (hr : (Region.ready .any ops listed).contains i = true) (hQ : PInd Q)
    (hk : WPT P Γ ops Q fuel (listed.setIfInBounds i true) (S n ((d, x) :: l) M os)) : WPT P Γ ops Q (fuel + 1) listed (S n l M os) := by
  intro a w hs'
  obtain ⟨ρ, hρ⟩ := hs'
  obtain ⟨v, hrun, hrv⟩ := pure_sound (P := P) hρ (o := ⟨some d, op, ty, pos, af, none⟩) (e := []) rfl hap
  refine wpAny_take (v := v) ho hs hf hr ?_ (.inl ⟨by simp [Region.wanted], fun w' => hst _ _ _ _ _ _ _ _ _ hrun⟩) ?_
  · rintro c a1 w1 ⟨s', hq, ρ', h'⟩
    by_cases hd : d < a1.tmps.size
    · have hv : a1.tmps[d]? = some a1.tmps[d] := Array.getElem?_eq_getElem hd
      refine ⟨s'.put (some d) .any, hQ _ _ _ _ hq, ρ', ?_⟩
      have h2 := h'.put (some d) (x := .any) (v := a1.tmps[d]) .any
      have e : (a1.put (some d) v).put (some d) a1.tmps[d] = a1 := by
        have e1 : (a1.put (some d) v).put (some d) a1.tmps[d] = a1.put (some d) a1.tmps[d] := by simp [Act.put]
        rw [e1]; exact act_same hv
      rw [e] at h2
      simpa [St.put] using h2
    · refine ⟨s', hq, ρ', ?_⟩
      have e : a1.put (some d) v = a1 := by
        cases a1 with | mk tm df => simp only [Act.put, Act.mk.injEq, and_true]; exact Array.setIfInBounds_eq_of_size_le (by simpa using hd)
      rwa [e] at h'
  · refine hk _ _ ⟨ρ, ?_⟩
    have h2 := hρ.put (some d) hrv
    rw [S_put] at h2
    simpa [S, ol_length] using h2
end
end Go.Lg

namespace Go.Lg
open Go.RowKit
set_option linter.unusedVariables false
def frzq (_m _id _M : Nat) (_os : List (Nat × Option AObj)) : Bool := true
section
variable {P : Program} {Γ : Cx} {A : Nat → Prop} {ρ : Nat → Option Nat} {s : St} {a : Act} {w : World}
theorem SRa.list1 (h : SRa Γ A ρ s a w) {id k len : Nat} {α : Type} {f : α → AV} {L : List α} (ho : s.look id = some (.arr k (L.map f))) (hl : L.length = len) (hb : ∀ x, (f x).bd 0 = true) (hk : ∀ x, (f x).cells.length = k)
    (hnb : ∀ b, ρ id = some b → Γ.I0 b ∨ Γ.w0.heap.size ≤ b) {I : Nat → Prop} {v : Value} (hv : RV A ρ I w (.ref id k 0 len) v) : RV A ρ (Im Γ ρ (s.set id none) w) w (.sl k (L.map f)) v := by
  have hlive := St.look_some.1 ho
  have hI : ∀ b, Im Γ ρ s w b → Im Γ ρ (s.set id none) w b ∧ w.heap[b]? = w.heap[b]? := fun b ⟨h1, h2, h3⟩ => ⟨⟨h1, h2, fun i o hl => h3 i o (St.live_kill hl).2⟩, rfl⟩
  cases hv with
  | @ref _ _ _ _ cap b hA hbk hlc hcs hmx =>
    obtain ⟨cs, t, hblk, hrow⟩ := h.row ho hbk
    have hflat : (flat (L.map f)).length = (L.map f).length * k := flat_length hrow.wide
    have hIb : Im Γ ρ (s.set id none) w b := by
      refine ⟨?_, World.lt_of_block hblk, fun i o hl hr => ?_⟩
      · exact hnb b hbk
      · obtain ⟨h1, h2⟩ := St.live_kill hl
        exact h1 (h.inj i id o _ b h2 hlive hr hbk)
    have key : RV A ρ (Im Γ ρ (s.set id none) w) w (.sl k (L.map f)) (.slice (some ⟨b, 0 * k, none⟩) (L.map f).length cap) := by
      refine .sl (fun j => cs.getD j undef) ⟨by simp; omega, hmx⟩ hIb (fun e he => by obtain ⟨x, _, rfl⟩ := List.mem_map.1 he; exact hk x) (fun j hj => ?_) (fun j hj => ?_) (fun j x hx => ?_)
      · have : j < cs.size := Nat.lt_of_lt_of_le hj hrow.len
        rw [cell_of_block hblk]; simp [Array.getD, this]
      · have : j < cs.size := Nat.lt_of_lt_of_le hj hrow.len
        exact hrow.atoms j _ hj (by simp [Array.getD, this])
      · have hj := (List.getElem?_eq_some_iff.1 hx).1
        have : j < cs.size := Nat.lt_of_lt_of_le hj hrow.len
        exact (hrow.vals j x _ hx (by simp [Array.getD, this])).pure (flat_bd (bdL_map hb L) x (List.mem_of_getElem? hx)) hI (fun _ _ hn => hn)
    rw [List.length_map, hl] at key
    exact key
  | refn hA hbk =>
    have : L = [] := List.eq_nil_of_length_eq_zero hl
    subst this
    exact .nils
theorem SRa.newb {n M : Nat} {l : List (Nat × AV)} {os : List (Nat × Option AObj)} {id mm : Nat} {o : AObj} (h : SRa Γ A ρ (S n l M os) a w) (_hm : Γ.m = mm) (_hfq : frzq mm id M os = true) (hl : (S n l M os).live id o) : ∀ b, ρ id = some b → Γ.I0 b ∨ Γ.w0.heap.size ≤ b := by
  intro b hb
  rcases h.own id o b hl hb with h1 | ⟨i, hi, h1⟩
  · exact .inr h1
  · exact Γ.hin i hi b h1
end
section
variable {P : Program} {Γ : Cx} {n M : Nat} {l : List (Nat × AV)} {os : List (Nat × Option AObj)} {c : Code} {Q : Exit → St → Prop} {ops : Array Oper} {rest : List Oper}
theorem wp_frzm {id k len : Nat} {α : Type} {f : α → AV} {L : List α} (j : Nat) {mm : Nat} (hm : Γ.m = mm) (h : opq n l (.tmp j) = some (.ref id k 0 len)) (ho : lookq M os id = some (.arr k (L.map f))) (hl : L.length = len) (hb : ∀ x, (f x).bd 0 = true) (hk : ∀ x, (f x).cells.length = k) (hfq : frzq mm id M os = true)
    (hw : WP P Γ c Q (S n ((j, .sl k (L.map f)) :: l) M ((id, none) :: os))) : WP P Γ c Q (S n l M os) := fun a w hs => by
  refine hw a w ?_
  obtain ⟨ρ, hs⟩ := hs
  have hj : j < n := by
    simp only [opq] at h
    cases hb : Nat.blt j n with
    | false => rw [hb] at h; simp at h
    | true => exact blt_of hb
  have hx := opq_op (M := M) (os := os) h
  simp only [St.op, S] at hx
  rw [tl_getD l hj] at hx
  have hlen : a.tmps.size = n := by rw [hs.len]; simp [S, tl_length]
  have hv : a.tmps[j]? = some (a.tmps[j]'(by omega)) := Array.getElem?_eq_getElem (by omega)
  have hrv := hs.tmp j (.ref id k 0 len) _ (by simp only [S, tl_get l hj, hx]) hv
  have h1 := hs.kill id
  have h2 := h1.put (some j) (hs.list1 (by rw [S_look]; exact ho) hl hb hk (hs.newb hm hfq (St.look_some.1 (by rw [S_look]; exact ho))) hrv)
  rw [act_same hv] at h2
  refine ⟨ρ, ?_⟩
  have e : ((S n l M os).set id none).put (some j) (.sl k (L.map f)) = S n ((j, .sl k (L.map f)) :: l) M ((id, none) :: os) := by simp [S, St.set, St.put, ol_set, tl_set]
  rw [e] at h2
  simpa [S, ol_length] using h2
theorem wp_frzom {id k len : Nat} {α : Type} {f : α → AV} {L : List α} (ido m : Nat) {k' : Nat} {cs : List AV} {mm : Nat} (hm : Γ.m = mm) (hid : Nat.beq id ido = false) (hob : lookq M os ido = some (.arr k' [.agg cs])) (h : cs[m]? = some (.ref id k 0 len)) (ho : lookq M os id = some (.arr k (L.map f))) (hl : L.length = len) (hb : ∀ x, (f x).bd 0 = true) (hk : ∀ x, (f x).cells.length = k) (hfq : frzq mm id M os = true)
    (hw : WP P Γ c Q (S n l M ((ido, some (.arr k' [.agg (cs.set m (.sl k (L.map f)))])) :: (id, none) :: os))) : WP P Γ c Q (S n l M os) := fun a w hs => by
  refine hw a w ?_
  obtain ⟨ρ, hs⟩ := hs
  have h1 := hs.kill id
  have hne : id ≠ ido := Nat.ne_of_beq_eq_false hid
  have hob' : ((S n l M os).set id none).live ido (.arr k' [.agg cs]) := by
    have := St.look_some.1 (by rw [S_look]; exact hob : (S n l M os).look ido = some (.arr k' [.agg cs]))
    simp only [St.live, St.set_objs] at this ⊢
    rw [List.getElem?_set_ne hne]; exact this
  have hwide : cs.length = k' := by
    have := hs.obj ido _ (St.look_some.1 (by rw [S_look]; exact hob))
    cases hr : ρ ido with
    | none => rw [hr] at this; obtain ⟨_, h2⟩ := this.resolve_left (by simp); cases h2
    | some b => rw [hr] at this; obtain ⟨_, _, _, _, h3, _⟩ := this; exact h3 (.agg cs) (by simp)
  have h2 := h1.recell hob' (es' := [.agg (cs.set m (.sl k (L.map f)))]) (by simp [flat, AV.cells]) (by simp [AV.cells, hwide]) (by simp) (fun j x y hx hy v hv => by
    simp only [flat, AV.cells, List.flatMap_cons, List.flatMap_nil, List.append_nil] at hx hy
    rw [List.getElem?_set] at hy
    by_cases e : m = j
    · subst e
      rw [h] at hx; injection hx with hx; subst hx
      simp only [if_true] at hy
      split at hy
      · injection hy with hy; subst hy
        exact hs.list1 (by rw [S_look]; exact ho) hl hb hk (hs.newb hm hfq (St.look_some.1 (by rw [S_look]; exact ho))) hv
      · cases hy
    · rw [if_neg e, hx] at hy; injection hy with hy; subst hy; exact hv)
  refine ⟨ρ, ?_⟩
  have e : (((S n l M os).set id none).set ido (some (.arr k' [.agg (cs.set m (.sl k (L.map f)))]))) = S n l M ((ido, some (.arr k' [.agg (cs.set m (.sl k (L.map f)))])) :: (id, none) :: os) := by simp [S, St.set, ol_set]
  rw [e] at h2
  simpa [S, ol_length] using h2
theorem wp_frzxm {id k len : Nat} {α : Type} {f : α → AV} {L : List α} (ido m : Nat) {k' : Nat} (pre post : List AV) {cs : List AV} {mm : Nat} (hm : Γ.m = mm) (hid : Nat.beq id ido = false) (hob : lookq M os ido = some (.arr k' (pre ++ .agg cs :: post))) (h : cs[m]? = some (.ref id k 0 len)) (ho : lookq M os id = some (.arr k (L.map f))) (hl : L.length = len) (hb : ∀ x, (f x).bd 0 = true) (hk : ∀ x, (f x).cells.length = k) (hfq : frzq mm id M os = true)
    (hw : WP P Γ c Q (S n l M ((ido, some (.arr k' (pre ++ .agg (cs.set m (.sl k (L.map f))) :: post))) :: (id, none) :: os))) : WP P Γ c Q (S n l M os) := fun a w hs => by
  refine hw a w ?_
  obtain ⟨ρ, hs⟩ := hs
  have h1 := hs.kill id
  have hne : id ≠ ido := Nat.ne_of_beq_eq_false hid
  have hob' : ((S n l M os).set id none).live ido (.arr k' (pre ++ .agg cs :: post)) := by
    have := St.look_some.1 (by rw [S_look]; exact hob : (S n l M os).look ido = some (.arr k' (pre ++ .agg cs :: post)))
    simp only [St.live, St.set_objs] at this ⊢
    rw [List.getElem?_set_ne hne]; exact this
  have hwide : ∀ e, e ∈ pre ++ .agg cs :: post → e.cells.length = k' := by
    have := hs.obj ido _ (St.look_some.1 (by rw [S_look]; exact hob))
    cases hr : ρ ido with
    | none => rw [hr] at this; obtain ⟨_, h2⟩ := this.resolve_left (by simp); simp at h2
    | some b => rw [hr] at this; obtain ⟨_, _, _, _, h3, _⟩ := this; exact h3
  have hm1 : m < cs.length := (List.getElem?_eq_some_iff.1 h).1
  have hfl : flat (pre ++ .agg (cs.set m (.sl k (L.map f))) :: post) = (flat (pre ++ .agg cs :: post)).set ((flat pre).length + m) (.sl k (L.map f)) := by
    simp only [flat, List.flatMap_append, List.flatMap_cons, AV.cells]
    rw [List.set_append_right _ _ (by omega), Nat.add_sub_cancel_left, List.set_append_left _ _ hm1]
  have hat : (flat (pre ++ .agg cs :: post))[(flat pre).length + m]? = some (.ref id k 0 len) := by
    simp only [flat, List.flatMap_append, List.flatMap_cons, AV.cells]
    rw [List.getElem?_append_right (by omega), Nat.add_sub_cancel_left, List.getElem?_append_left hm1]; exact h
  have h2 := h1.recell hob' (es' := pre ++ .agg (cs.set m (.sl k (L.map f))) :: post) (by rw [hfl]; simp) (fun e he => by
      rcases List.mem_append.1 he with he | he
      · exact hwide e (by simp [he])
      · rcases List.mem_cons.1 he with rfl | he
        · have := hwide (.agg cs) (by simp)
          simpa [AV.cells] using this
        · exact hwide e (by simp [he])) (by simp) (fun j x y hx hy v hv => by
    rw [hfl, List.getElem?_set] at hy
    by_cases e : (flat pre).length + m = j
    · subst e
      rw [hat] at hx; injection hx with hx; subst hx
      simp only [if_true] at hy
      split at hy
      · injection hy with hy; subst hy
        exact hs.list1 (by rw [S_look]; exact ho) hl hb hk (hs.newb hm hfq (St.look_some.1 (by rw [S_look]; exact ho))) hv
      · cases hy
    · rw [if_neg e, hx] at hy; injection hy with hy; subst hy; exact hv)
  refine ⟨ρ, ?_⟩
  have e : (((S n l M os).set id none).set ido (some (.arr k' (pre ++ .agg (cs.set m (.sl k (L.map f))) :: post)))) = S n l M ((ido, some (.arr k' (pre ++ .agg (cs.set m (.sl k (L.map f))) :: post))) :: (id, none) :: os) := by simp [S, St.set, ol_set]
  rw [e] at h2
  simpa [S, ol_length] using h2
theorem still_fieldAddr {a : Operand} {ty : TypeId} {f off sz : Nat} {ti : TI} [h : TIc P ty ti] (hf : ti.fields[f]? = some (off, sz)) (hz : Nat.beq sz 0 = false) : Still P (.fieldAddr ty a f) := by
  obtain ⟨fs, fd, i, h1, h2, h3, h4, h5⟩ := fields_spec h.h hf (Nat.ne_of_beq_eq_false hz)
  have hz' : ¬ sz = 0 := Nat.ne_of_beq_eq_false hz
  subst h5
  intro ρ dst ty' pos af v w w' w1 h
  have hs : ∀ x : Value, (∃ ad, x = .pointer (some ad)) ∨ (∀ w : World, (Instr.fieldAt ty x f).run P w = (stuck "an address expected (no nilCheck in front?)" : Sem Value).run P w) := by
    intro x
    cases x with
    | pointer o => cases o with
      | some ad => exact .inl ⟨ad, rfl⟩
      | none => exact .inr fun w => by simp [Instr.fieldAt, run_underlying h1, h2, Instr.sureAddr]
    | _ => exact .inr fun w => by simp [Instr.fieldAt, run_underlying h1, h2, Instr.sureAddr]
  rcases hs (ρ a) with ⟨ad, had⟩ | hst
  · simp [execOp, had, Instr.fieldAt, run_underlying h1, h2, Instr.sureAddr, fieldPlace, sizeOf, typeInfo, h4, hz'] at h ⊢
    exact h.1
  · simp only [execOp, Sem.run_bind, hst w] at h
    simp [stuck] at h
end
end Go.Lg
