/-
  Part 16 of the proof of TreeLiftStratifiedCard: the logic over the model, the functions' contracts and the plain laws.
-/
import Derived.Test.YtfaoljcgigkonabDoorTs15
import Derived.Lib.ItoaNum
set_option linter.unusedSimpArgs false
set_option linter.unusedVariables false
set_option linter.unusedSectionVars false
set_option linter.defProp false
namespace Go.Lg
theorem dgt_ge (u : Nat) : ∀ c, c ∈ Lib.decDigits u -> 48 <= c.toNat := by
 induction u using Nat.strongRecOn with
 | _ u ih =>
  intro c hc
  rw [Lib.decDigits] at hc
  split at hc
  ·rename_i h; rw [List.mem_singleton] at hc; subst hc; rw [UInt8.toNat_ofNat']; omega
  ·rename_i h
   rcases List.mem_append.1 hc with hc | hc
   ·exact ih (u / 10) (by omega) c hc
   ·rw [List.mem_singleton] at hc; subst hc
    have := Nat.mod_lt u (show 0 < 10 by decide)
    rw [UInt8.toNat_ofNat']; omega
theorem dgt_pos (u : Nat) : Lib.decDigits u ≠ [] := by
 rw [Lib.decDigits]; split <;> simp
theorem dgt_inj : ∀ u v : Nat, Lib.decDigits u = Lib.decDigits v -> u = v := by
 intro u
 induction u using Nat.strongRecOn with
 | _ u ih =>
  intro v h
  have dg : ∀ a b : Nat, a < 10 -> b < 10 -> UInt8.ofNat (48 + a) = UInt8.ofNat (48 + b) -> a = b := fun a b ha hb e => by
   have := congrArg UInt8.toNat e
   rw [UInt8.toNat_ofNat', UInt8.toNat_ofNat'] at this; omega
  rw [Lib.decDigits] at h
  rw [Lib.decDigits.eq_def v] at h
  split at h <;> split at h
  ·rename_i h1 h2
   simp only [List.cons.injEq, and_true] at h
   exact dg u v h1 h2 h
  ·have := congrArg List.length h
   have hp := List.length_pos_iff.2 (dgt_pos (v / 10))
   simp only [List.length_append, List.length_cons, List.length_nil] at this; omega
  ·have := congrArg List.length h
   have hp := List.length_pos_iff.2 (dgt_pos (u / 10))
   simp only [List.length_append, List.length_cons, List.length_nil] at this; omega
  ·obtain ⟨q1, q2⟩ := List.append_inj' h rfl
   simp only [List.cons.injEq, and_true] at q2
   have e1 := ih (u / 10) (by omega) (v / 10) q1
   have e2 := dg (u % 10) (v % 10) (Nat.mod_lt _ (by decide)) (Nat.mod_lt _ (by decide)) q2
   omega
theorem itoa_nat (k : Nat) : Lib.itoa (k : Int) = Lib.decDigits k := by unfold Lib.itoa; rw [if_neg (by omega)]; simp
structure NVal (g : Gram) : Prop where
 nm : ∀ s, s ∈ g.terms ++ g.nonterms -> nameOk s = true
 nd : (g.terms ++ g.nonterms).Nodup
 hd : ∀ r, r ∈ g.rules -> 0 <= r.head /\ r.head < g.nonterms.length
theorem NVal.of {g : Gram} (h : validG g = true) : NVal g := by
 have hv := validG_iff.1 h
 simp only [validG, Bool.and_eq_true, decide_eq_true_eq, List.all_eq_true, namesOk] at h
 obtain ⟨⟨⟨⟨⟨⟨⟨⟨h1, h2⟩, h3⟩, h4⟩, h5⟩, h6⟩, h7⟩, h8⟩, h9⟩ := h
 exact ⟨h8.1, h8.2, fun r hr => ⟨(hv.rule r hr).h0, (hv.rule r hr).hn⟩⟩
theorem bAt_nth {s : ByteArray} {i : Nat} (hi : i < (bl s).length) : bAt s i = (((bl s)[i]).toNat : Int) := by
 show ((nth (bl s) i).toNat : Int) = _
 rw [nth_eq hi]
theorem name_by {s : ByteArray} (h : nameOk s = true) : ∀ c, c ∈ bl s -> c ≠ 58 /\ c ≠ 40 /\ c ≠ 41 /\ c ≠ 32 := by
 simp only [nameOk, Bool.and_eq_true, decide_eq_true_eq, List.all_eq_true, List.mem_range] at h
 intro c hc
 obtain ⟨i, hi, rfl⟩ := List.getElem_of_mem hc
 have h1 := h.2 i (by rw [<- bl_len]; exact hi)
 simp only [nameCh, letB, digB, bAt_nth hi, Bool.or_eq_true, Bool.and_eq_true, decide_eq_true_eq, Bool.not_eq_true'] at h1
 refine ⟨?_, ?_, ?_, ?_⟩
 all_goals (intro e; rw [e] at h1; simp at h1)
theorem name_pos {s : ByteArray} (h : nameOk s = true) : bl s ≠ [] := by
 simp only [nameOk, Bool.and_eq_true, decide_eq_true_eq] at h
 intro e
 have := bl_len s
 rw [e] at this
 simp only [List.length_nil] at this
 omega
theorem sep_uniq {P : UInt8 -> Bool} {c c' : UInt8} (hc : P c = false) (hc' : P c' = false) : ∀ {u v x y r : Tx}, (∀ b, b ∈ u -> P b = true) -> (∀ b, b ∈ v -> P b = true) -> (u ++ c :: x) <+: r -> (v ++ c' :: y) <+: r -> u = v /\ c = c' /\ ∃ r', x <+: r' /\ y <+: r'
  | [], [], x, y, [], _, _, h, _ => by simp at h
  | [], [], x, y, d :: r, _, _, h, h' => by
    simp only [List.nil_append, List.cons_prefix_cons] at h h'
    exact ⟨rfl, h.1.trans h'.1.symm, r, h.2, h'.2⟩
  | [], b :: v, x, y, [], _, _, h, _ => by simp at h
  | [], b :: v, x, y, d :: r, _, hv, h, h' => by
    simp only [List.nil_append, List.cons_append, List.cons_prefix_cons] at h h'
    have := hv b (by simp)
    rw [h'.1, <- h.1, hc] at this; cases this
  | a :: u, [], x, y, [], _, _, h, _ => by simp at h
  | a :: u, [], x, y, d :: r, hu, _, h, h' => by
    simp only [List.nil_append, List.cons_append, List.cons_prefix_cons] at h h'
    have := hu a (by simp)
    rw [h.1, <- h'.1, hc'] at this; cases this
  | a :: u, b :: v, x, y, [], _, _, h, _ => by simp at h
  | a :: u, b :: v, x, y, d :: r, hu, hv, h, h' => by
    simp only [List.cons_append, List.cons_prefix_cons] at h h'
    obtain ⟨e, e1, r', e2, e3⟩ := sep_uniq hc hc' (fun z hz => hu z (by simp [hz])) (fun z hz => hv z (by simp [hz])) h.2 h'.2
    exact ⟨by rw [h.1, h'.1, e], e1, r', e2, e3⟩
theorem bl_injY {a b : ByteArray} (h : bl a = bl b) : a = b := by rw [<- tx_bl a, h, tx_bl]
section
variable {g : Gram}
theorem cnt_lt {i j : Nat} (h : i < j) (hh : (nth g.rules i).head = (nth g.rules j).head) : cntT g i < cntT g j := by
 unfold cntT
 rw [hh]
 have e : List.range j = List.range i ++ (i :: (List.range (j - i - 1)).map (fun k => i + 1 + k)) := by
  rw [show j = i + ((j - i - 1) + 1) by omega, List.range_add, List.range_succ_eq_map]
  simp [Function.comp_def, Nat.add_comm, Nat.add_left_comm]
 rw [e, List.filter_append, List.length_append, List.filter_cons]
 simp only [hh, decide_true, if_true, List.length_cons]
 omega
theorem ch_uniq (hv : NVal g) {i j : Nat} (hi : i < g.rules.length) (hj : j < g.rules.length) {r : Tx} (h1 : (chT g i).1 <+: r) (h2 : (chT g j).1 <+: r) : i = j := by
 have hd1 := hv.hd _ (nth_mem hi)
 have hd2 := hv.hd _ (nth_mem hj)
 have n1 : (nth g.rules i).head.toNat < g.nonterms.length := by omega
 have n2 : (nth g.rules j).head.toNat < g.nonterms.length := by omega
 have m1 := name_by (hv.nm _ (List.mem_append_right _ (nth_mem n1)))
 have m2 := name_by (hv.nm _ (List.mem_append_right _ (nth_mem n2)))
 cases r with
 | nil => simp [chT] at h1
 | cons d r =>
  simp only [chT, List.cons_prefix_cons, labelT, List.append_assoc, List.cons_append] at h1 h2
  obtain ⟨e1, _, r', q1, q2⟩ := sep_uniq (P := fun c => !decide (c = 58)) (c := 58) (c' := 58) (by simp) (by simp) (fun b hb => by simpa using (m1 b hb).1) (fun b hb => by simpa using (m2 b hb).1) h1.2 h2.2
  rw [folT_is, itoa_nat] at q1 q2
  have hge : ∀ (b : Bool), (decide (48 <= (fol1 b).toNat)) = false := fun b => by cases b <;> rfl
  obtain ⟨e2, _, _⟩ := sep_uniq (P := fun c => decide (48 <= c.toNat)) (c := fol1 _) (c' := fol1 _) (hge _) (hge _) (fun b hb => by simpa using dgt_ge _ b hb) (fun b hb => by simpa using dgt_ge _ b hb) q1 q2
  have e3 := dgt_inj _ _ e2
  have e4 := bl_injY e1
  have hnd := (List.nodup_append.1 hv.nd).2.1
  rw [nth_eq n1, nth_eq n2] at e4
  have e5 := (List.getElem_inj hnd).1 e4
  have hh : (nth g.rules i).head = (nth g.rules j).head := by omega
  rcases Nat.lt_trichotomy i j with h | h | h
  ·have := cnt_lt h hh; omega
  ·exact h
  ·have := cnt_lt h hh.symm; omega
end
section
variable {g : Gram} {pr : List Bool}
theorem ch_eq (g : Gram) (i : Nat) : (chT g i).1 = (40 :: labelT g i) ++ folT (nth g.rules i).body.isEmpty := rfl
theorem mem_chR {head : Int} {k : Nat} {c : Tx × Tre} : c ∈ chR g pr head k ↔ ∃ i, i < k /\ (head = -1 \/ (nth g.rules i).head = head) /\ useT g pr i = true /\ c = chT g i := by
 simp only [chR, List.mem_map, List.mem_filter, List.mem_range, Bool.and_eq_true, Bool.or_eq_true, decide_eq_true_eq]
 constructor
 ·rintro ⟨i, ⟨h1, h2, h3⟩, rfl⟩; exact ⟨i, h1, h2, h3, rfl⟩
 ·rintro ⟨i, h1, h2, h3, rfl⟩; exact ⟨i, ⟨h1, h2, h3⟩, rfl⟩
end
def rparL (f : Int -> RT) (n : Nat) : List Int -> Nat -> Tre × Int × Int
 | [], most => (zT, (most : Int), 3)
 | x :: l, most => if (f x).2.2 = true /\ n <= (f x).2.1 then (if 30 < depT (f x).1 then (zT, 0, 11) else ((f x).1, 0, 0)) else rparL f n l (max most (f x).2.1)
def parT (g : Gram) (pr : List Bool) (s : Tx) : Tre × Int × Int := match treeT g pr s with
 | .ok t _ => if 30 < depT t then (zT, 0, 11) else (t, 0, 0)
 | .err e => (zT, (e : Int), 3)
section
variable {g : Gram} {pr : List Bool}
theorem term_some {s : Tx} : ∀ {l : List ByteArray} {i b j : Nat}, termT s l i b = .inl j -> i <= j /\ j - i < l.length /\ lcp (bl (nth l (j - i))) s = (bl (nth l (j - i))).length /\ lcp (bl (nth l (j - i))) s = s.length
  | [], i, b, j, h => by simp [termT] at h
  | t :: l, i, b, j, h => by
    rw [termT] at h
    split at h
    · rename_i hc
      injection h with h
      subst h
      rw [Nat.sub_self]
      exact ⟨Nat.le_refl _, by simp, hc.1, hc.2⟩
    · obtain ⟨h1, h2, h3, h4⟩ := term_some (l := l) h
      have e : nth (t :: l) (j - i) = nth l (j - (i + 1)) := by
        rw [show j - i = (j - (i + 1)) + 1 by omega]; rfl
      rw [e]
      exact ⟨by omega, by simp only [List.length_cons]; omega, h3, h4⟩
theorem term_none {s : Tx} : ∀ {l : List ByteArray} {i b M : Nat}, termT s l i b = .inr M -> b <= M /\ (∀ t, t ∈ l -> lcp (bl t) s <= M /\ ¬ (lcp (bl t) s = (bl t).length /\ lcp (bl t) s = s.length)) /\ (M = b \/ ∃ t, t ∈ l /\ M = lcp (bl t) s)
  | [], i, b, M, h => by
    simp only [termT] at h
    injection h with h
    subst h
    exact ⟨Nat.le_refl _, by simp, .inl rfl⟩
  | t :: l, i, b, M, h => by
    rw [termT] at h
    split at h
    · cases h
    · rename_i hc
      obtain ⟨h1, h2, h3⟩ := term_none (l := l) h
      refine ⟨by omega, fun u hu => ?_, ?_⟩
      · rcases List.mem_cons.1 hu with rfl | hu
        · exact ⟨by omega, hc⟩
        · exact h2 u hu
      · rcases h3 with h3 | ⟨u, q1, q2⟩
        · rcases Nat.le_total b (lcp (bl t) s) with h5 | h5
          · exact .inr ⟨t, by simp, by omega⟩
          · exact .inl (by omega)
        · exact .inr ⟨u, by simp [q1], q2⟩
theorem lcp_ne {a b : UInt8} {l m : Tx} (h : a ≠ b) : lcp (a :: l) (b :: m) = 0 := by rw [lcp, if_neg h]
end
section
variable {g : Gram}
structure Unr (g : Gram) (i k : Nat) (p : Prs) (l : List Prs) : Prop where
 len : l.length = (nth g.rules i).body.length - k
 ok : ∀ j, j < l.length -> okP (nrmOf g) (symN g (nth (nth g.rules i).body (k + j))) (nth l j) = true
 back : chainP ((posN g.rules i + k : Nat) : Int) l = p
 sz : ∀ x, x ∈ l -> szP x < szP p
end
theorem leavesT_eq (t : Tre) : leavesT t = if t.rule = -1 then [t.term] else leavesTL t.kids := by cases t; rw [leavesT]; rfl
theorem priceT_eq (g : Gram) (t : Tre) : priceT g t = if t.rule < 0 then 0 else (nth g.rules t.rule.toNat).price + priceTL g t.kids := by cases t; rw [priceT]; rfl
section
variable {g : Gram}
structure From (g : Gram) (x : Int) (k : Nat) (t : Tre) : Prop where
 ok : okP (nrmOf g) (-1 - x) (fromTF g k t) = true
 yl : yieldP (nrmOf g) (fromTF g k t) = leavesT t
 pr : priceP (nrmOf g) (fromTF g k t) = priceT g t
 back : toTF g k (fromTF g k t) = t
end
theorem lcp_is {u s r : Tx} (h : s = u ++ r) : lcp u s = u.length := by
 rw [h]; exact (lcp_full _ _).2 (List.prefix_append _ _)
theorem nth_zero {α : Type} [Inhabited α] (a : α) (l : List α) : nth (a :: l) 0 = a := rfl
theorem fmtT_in (g : Gram) (t : Tre) (h : t.rule ≠ -1) : fmtT g t = 40 :: (labelT g t.rule.toNat ++ fmtTL g t.kids ++ [41]) := by
 obtain ⟨r, tm, l⟩ := t
 rw [fmtT, if_neg (show ¬ r = -1 from h)]; rfl
theorem fmtT_leaf (g : Gram) (x : Int) : fmtT g (leafT x) = bl (nth g.terms x.toNat) := by rw [leafT, fmtT, if_pos rfl]
section
variable {g : Gram} {pr : List Bool}
theorem okT_prod (hpr : ∀ r, r ∈ g.rules -> r.body.all (okSym pr) = true -> nth pr r.head.toNat = true) (t : Tre) : ∀ x, okT g x t = true -> okSym pr x = true := by
 induction t using Tre.ind with
 | h t ih =>
  intro x h
  unfold okSym
  by_cases hx : 0 <= x
  ·simp [hx]
  ·have hT := (okT_in (by omega)).1 h
   have := hpr _ (nth_mem hT.rn) (by
    rw [List.all_eq_true]
    intro y hy
    obtain ⟨j, hj, e⟩ := List.getElem_of_mem hy
    have h1 := hT.kid j (by rw [hT.len]; exact hj)
    rw [nth_eq hj, e] at h1
    exact ih _ (nth_mem (by rw [hT.len]; exact hj)) y h1)
   rw [hT.hd] at this
   simp [this]
theorem ok_use (hpr : ∀ r, r ∈ g.rules -> r.body.all (okSym pr) = true -> nth pr r.head.toNat = true) {x : Int} {t : Tre} (hx : x < 0) (h : okT g x t = true) : useT g pr t.rule.toNat = true := by
 have hT := (okT_in hx).1 h
 unfold useT
 rw [List.all_eq_true]
 intro y hy
 obtain ⟨j, hj, e⟩ := List.getElem_of_mem hy
 have h1 := hT.kid j (by rw [hT.len]; exact hj)
 rw [nth_eq hj, e] at h1
 exact okT_prod hpr _ _ h1
theorem node_text {x : Int} {t : Tre} (hx : x < 0) (h : okT g x t = true) (rest : Tx) : ∃ r, fmtT g t ++ rest = (chT g t.rule.toNat).1 ++ r /\ (t.kids = [] -> r = rest) /\ (∀ k ks, t.kids = k :: ks -> r = fmtT g k ++ (fmtTL g ks ++ 41 :: rest)) := by
 have hT := (okT_in hx).1 h
 have hr := hT.r0
 have hl := hT.len
 rw [fmtT_in g t (by omega), ch_eq]
 cases hk : t.kids with
 | nil =>
  rw [hk] at hl
  have : (nth g.rules t.rule.toNat).body = [] := List.eq_nil_of_length_eq_zero hl.symm
  rw [this]
  exact ⟨rest, by simp [fmtTL, folT], fun _ => rfl, by intro k ks e; cases e⟩
 | cons k ks =>
  rw [hk] at hl
  have : (nth g.rules t.rule.toNat).body.isEmpty = false := by
   cases hq : (nth g.rules t.rule.toNat).body with
   | nil => rw [hq] at hl; simp at hl
   | cons _ _ => rfl
  rw [this]
  exact ⟨fmtT g k ++ (fmtTL g ks ++ 41 :: rest), by simp [fmtTL, folT], (by intro e; cases e), by intro k' ks' e; injection e with e1 e2; subst e1 e2; rfl⟩
theorem body_read {rec : Nat -> Nat -> PT Tre} {s : Tx} {a0 : Nat} : ∀ (xs : List Int) (ts : List Tre) (a : Nat) (ks : List Tre) (rest : Tx), xs.length = ts.length -> ts ≠ [] ->
    (∀ i, i < ts.length -> ∀ a f rest, a0 <= a -> s.drop a = fmtT g (nth ts i) ++ f :: rest -> symT rec g pr s (nth xs i) [f] a = .ok (nth ts i) (a + (fmtT g (nth ts i)).length + 1)) -> a0 <= a ->
    (∀ k ks', ts = k :: ks' -> s.drop a = fmtT g k ++ (fmtTL g ks' ++ 41 :: rest)) -> bodyT rec g pr s xs a ks = .ok (ks ++ ts) (a + (fmtTL g ts).length)
  | [], [], _, _, _, _, h, _, _, _ => absurd rfl h
  | [], _ :: _, _, _, _, h, _, _, _, _ => by simp at h
  | _ :: _, [], _, _, _, h, _, _, _, _ => by simp at h
  | x :: xs, t :: ts, a, ks, rest, hl, _, hs, ha, hd => by
    have hl' : xs.length = ts.length := by simpa using hl
    have hd := hd t ts rfl
    rw [bodyT, folT_is]
    cases ts with
    | nil =>
      have : xs = [] := List.eq_nil_of_length_eq_zero hl'
      subst this
      have h1 := hs 0 (by simp) a 41 rest ha (by rw [nth_zero]; simpa [fmtTL] using hd)
      simp only [nth_zero] at h1
      simp only [List.isEmpty_nil, fol1, if_true]
      rw [h1]
      simp only [bodyT, fmtTL, List.append_nil, List.length_cons]
      congr 1
    | cons u us =>
      cases xs with
      | nil => simp at hl'
      | cons y ys =>
        have h1 := hs 0 (by simp) a 32 (fmtT g u ++ (fmtTL g us ++ 41 :: rest)) ha (by rw [nth_zero]; simpa [fmtTL] using hd)
        simp only [nth_zero] at h1
        simp only [List.isEmpty_cons, fol1, Bool.false_eq_true, if_false]
        rw [h1]
        have h2 := body_read (rec := rec) (s := s) (y :: ys) (u :: us) (a + (fmtT g t).length + 1) (ks ++ [t]) rest hl' (by simp) (fun i hi => hs (i + 1) (by simpa using hi)) (by omega) (fun k ks' e => by
          injection e with e1 e2
          subst e1 e2
          have : s.drop (a + (fmtT g t).length + 1) = (s.drop a).drop ((fmtT g t).length + 1) := by rw [List.drop_drop]; congr 1
          rw [this, hd]
          simp [fmtTL, List.drop_append])
        simp only
        rw [h2]
        simp only [fmtTL, List.append_assoc, List.singleton_append, List.length_cons, List.length_append]
        congr 1
        omega
theorem sym_read (hv : NVal g) (hpr : ∀ r, r ∈ g.rules -> r.body.all (okSym pr) = true -> nth pr r.head.toNat = true) (s : Tx) (t : Tre) : ∀ (k a : Nat) (x : Int) (f : UInt8) (rest : Tx), okT g x t = true -> s.length - a < k -> s.drop a = fmtT g t ++ f :: rest ->
  symT (kidsT g pr s k) g pr s x [f] a = .ok t (a + (fmtT g t).length + 1) := by
 induction t using Tre.ind with
 | h t ih =>
  intro k a x f rest hok hk hd
  unfold symT
  by_cases hx : 0 <= x
  ·rw [if_pos hx]
   obtain rfl := (okT_leaf hx).1 hok
   rw [fmtT_leaf] at hd ⊢
   simp only [chooseT]
   rw [if_pos (lcp_is (r := rest) (by rw [hd]; simp))]
   simp [leafT]; omega
  ·rw [if_neg hx]
   have hT := (okT_in (by omega)).1 hok
   obtain ⟨r, h1, h2, h3⟩ := node_text (by omega) hok (f :: rest)
   have hl := lcp_is (hd.trans h1)
   have hu := ok_use hpr (by omega) hok
   have hc : chT g t.rule.toNat ∈ chR g pr (-1 - x) g.rules.length := mem_chR.2 ⟨_, hT.rn, .inr hT.hd, hu, rfl⟩
   rw [choose_one (s.drop a) a hl _ 0 hc fun c' hc' hl' => by
    obtain ⟨j, hj, _, _, rfl⟩ := mem_chR.1 hc'
    rw [ch_uniq hv hT.rn hj ((lcp_full _ _).1 hl) ((lcp_full _ _).1 hl')]]
   have hpos : 0 < (chT g t.rule.toNat).1.length := by rw [ch_eq]; simp
   have hle := (lcp_le (chT g t.rule.toNat).1 (s.drop a)).2
   rw [List.length_drop, hl] at hle
   cases k with
   | zero => omega
   | succ k =>
    have e : (chT g t.rule.toNat).2.rule.toNat = t.rule.toNat := Int.toNat_natCast _
    have ht : t = .mk t.rule.toNat 0 t.kids := Tre.ext' (Int.toNat_of_nonneg hT.r0).symm hT.tm rfl
    have hd2 : s.drop (a + (chT g t.rule.toNat).1.length) = r := by rw [<- List.drop_drop, hd, h1]; simp
    have hlen : (fmtT g t).length = (chT g t.rule.toNat).1.length + (fmtTL g t.kids).length := by
     have := congrArg List.length h1
     cases hk' : t.kids with
     | nil => rw [h2 hk'] at this; simp only [List.length_append] at this; simp [fmtTL]; omega
     | cons u us => rw [h3 u us hk'] at this; simp only [List.length_append, List.length_cons] at this; simp only [fmtTL, List.length_cons, List.length_append]; omega
    simp only [e]
    rw [kidsT]
    have hbody : bodyT (kidsT g pr s k) g pr s (nth g.rules t.rule.toNat).body (a + (chT g t.rule.toNat).1.length) [] = .ok t.kids (a + (chT g t.rule.toNat).1.length + (fmtTL g t.kids).length) := by
     by_cases hk' : t.kids = []
     ·have : (nth g.rules t.rule.toNat).body = [] := List.eq_nil_of_length_eq_zero (by rw [<- hT.len, hk']; rfl)
      rw [this, hk']
      simp [bodyT, fmtTL]
     ·have := body_read (rec := kidsT g pr s k) (g := g) (pr := pr) (s := s) (a0 := a + 1) (nth g.rules t.rule.toNat).body t.kids (a + (chT g t.rule.toNat).1.length) [] (f :: rest) hT.len.symm hk' (fun i hi a' f' rest' ha' hd' => ih _ (nth_mem hi) k a' _ f' rest' (hT.kid i hi) (by omega) hd') (by omega) (fun u us e => by rw [hd2, h3 u us e])
      simpa using this
    rw [hbody]
    simp only
    have hd3 : s.drop (a + (chT g t.rule.toNat).1.length + (fmtTL g t.kids).length) = f :: rest := by
     rw [Nat.add_assoc, <- hlen, <- List.drop_drop, hd]; simp
    simp only [chooseT]
    rw [if_pos (lcp_is (r := rest) (by rw [hd3]; rfl))]
    rw [hlen]
    simp only [List.length_cons, List.length_nil]
    rw [<- ht]
    congr 1
    omega
end
section
variable {g : Gram} {pr : List Bool}
theorem kids_read (hv : NVal g) (hpr : ∀ r, r ∈ g.rules -> r.body.all (okSym pr) = true -> nth pr r.head.toNat = true) (s : Tx) (k a : Nat) {x : Int} {t : Tre} (hx : x < 0) (hok : okT g x t = true) (hk : s.length - a <= k) (rest : Tx) (hd : s.drop a = fmtT g t ++ rest) :
  lcp (chT g t.rule.toNat).1 (s.drop a) = (chT g t.rule.toNat).1.length /\ kidsT g pr s (k + 1) t.rule.toNat (a + (chT g t.rule.toNat).1.length) = .ok t (a + (fmtT g t).length) := by
 have hT := (okT_in (by omega)).1 hok
 obtain ⟨r, h1, h2, h3⟩ := node_text (by omega) hok rest
 have hl := lcp_is (hd.trans h1)
 have hpos : 0 < (chT g t.rule.toNat).1.length := by rw [ch_eq]; simp
 have hle := (lcp_le (chT g t.rule.toNat).1 (s.drop a)).2
 rw [List.length_drop, hl] at hle
 refine ⟨hl, ?_⟩
 have ht : t = .mk t.rule.toNat 0 t.kids := Tre.ext' (Int.toNat_of_nonneg hT.r0).symm hT.tm rfl
 have hd2 : s.drop (a + (chT g t.rule.toNat).1.length) = r := by rw [<- List.drop_drop, hd, h1]; simp
 have hlen : (fmtT g t).length = (chT g t.rule.toNat).1.length + (fmtTL g t.kids).length := by
  have := congrArg List.length h1
  cases hk' : t.kids with
  | nil => rw [h2 hk'] at this; simp only [List.length_append] at this; simp [fmtTL]; omega
  | cons u us => rw [h3 u us hk'] at this; simp only [List.length_append, List.length_cons] at this; simp only [fmtTL, List.length_cons, List.length_append]; omega
 rw [kidsT]
 have hbody : bodyT (kidsT g pr s k) g pr s (nth g.rules t.rule.toNat).body (a + (chT g t.rule.toNat).1.length) [] = .ok t.kids (a + (chT g t.rule.toNat).1.length + (fmtTL g t.kids).length) := by
  by_cases hk' : t.kids = []
  ·have : (nth g.rules t.rule.toNat).body = [] := List.eq_nil_of_length_eq_zero (by rw [<- hT.len, hk']; rfl)
   rw [this, hk']
   simp [bodyT, fmtTL]
  ·have := body_read (rec := kidsT g pr s k) (g := g) (pr := pr) (s := s) (a0 := a + 1) (nth g.rules t.rule.toNat).body t.kids (a + (chT g t.rule.toNat).1.length) [] rest hT.len.symm hk' (fun i hi a' f' rest' ha' hd' => sym_read hv hpr s _ k a' _ f' rest' (hT.kid i hi) (by omega) hd') (by omega) (fun u us e => by rw [hd2, h3 u us e])
   simpa using this
 rw [hbody]
 simp only
 rw [hlen, <- ht]
 congr 1
 omega
def tokT (g : Gram) (t : Tre) : Prop := (t.rule = -1 /\ 0 <= t.term /\ t.term < g.terms.length /\ t.kids = []) \/ (0 <= t.rule /\ t.rule < g.rules.length /\ okT g (-1 - (nth g.rules t.rule.toNat).head) t = true)
theorem tree_read (hv : NVal g) (hpr : ∀ r, r ∈ g.rules -> r.body.all (okSym pr) = true -> nth pr r.head.toNat = true) {t : Tre} (h : tokT g t) : treeT g pr (fmtT g t) = .ok t (fmtT g t).length := by
 have hname : ∀ t, t ∈ g.terms -> nameOk t = true := fun t ht => hv.nm t (List.mem_append_left _ ht)
 have htd : g.terms.Nodup := (List.nodup_append.1 hv.nd).1
 unfold treeT
 rcases h with ⟨h1, h2, h3, h4⟩ | ⟨h1, h2, h3⟩
 ·have ht : t = leafT t.term := Tre.ext' h1 rfl h4
  have hf : fmtT g t = bl (nth g.terms t.term.toNat) := by rw [ht, fmtT_leaf]; rfl
  have hl : t.term.toNat < g.terms.length := by omega
  have hfull : lcp (bl (nth g.terms t.term.toNat)) (fmtT g t) = (bl (nth g.terms t.term.toNat)).length := lcp_is (r := []) (by rw [hf]; simp)
  cases hT : termT (fmtT g t) g.terms 0 0 with
  | inl j =>
   obtain ⟨_, q2, q3, q4⟩ := term_some hT
   rw [Nat.sub_zero] at q2 q3 q4
   have e1 : bl (nth g.terms j) = fmtT g t := List.IsPrefix.eq_of_length ((lcp_full _ _).1 q3) (by omega)
   have e2 := bl_injY (e1.trans hf)
   rw [nth_eq q2, nth_eq hl] at e2
   have := (List.getElem_inj htd).1 e2
   have ej : t.term = (j : Int) := by omega
   have e3 : t = .mk (-1) (j : Int) [] := by rw [<- ej]; exact ht
   simp only
   rw [<- e3]
  | inr M =>
   obtain ⟨_, q2, _⟩ := term_none hT
   exact absurd ⟨hfull, by rw [hfull, hf]⟩ (q2 _ (nth_mem hl)).2
 ·have hd := hv.hd _ (nth_mem (show t.rule.toNat < g.rules.length by omega))
  have hs : fmtT g t = 40 :: (labelT g t.rule.toNat ++ fmtTL g t.kids ++ [41]) := fmtT_in g t (by omega)
  have ht0 : ∀ u, u ∈ g.terms -> lcp (bl u) (fmtT g t) = 0 /\ (bl u).length ≠ 0 := fun u hu => by
   have hn := name_pos (hname _ hu)
   have hb := name_by (hname _ hu)
   cases hq : bl u with
   | nil => exact absurd hq hn
   | cons c w =>
    rw [hq] at hb
    rw [hs]
    exact ⟨lcp_ne (hb c (by simp)).2.1, by simp⟩
  cases hT : termT (fmtT g t) g.terms 0 0 with
  | inl j =>
   obtain ⟨_, q2, q3, q4⟩ := term_some hT
   rw [Nat.sub_zero] at q2 q3 q4
   have := ht0 _ (nth_mem q2)
   omega
  | inr M =>
   obtain ⟨_, _, q3⟩ := term_none hT
   have hM : M = 0 := by
    rcases q3 with q3 | ⟨u, r1, r2⟩
    ·exact q3
    ·rw [r2, (ht0 u r1).1]
   subst hM
   obtain ⟨r1, r2⟩ := kids_read (g := g) (pr := pr) hv hpr (fmtT g t) (fmtT g t).length 0 (by omega) h3 (by omega) [] (by simp)
   rw [List.drop_zero] at r1
   rw [Nat.zero_add, Nat.zero_add] at r2
   have hu := ok_use hpr (by omega) h3
   have hrn : t.rule.toNat < g.rules.length := by omega
   have hc : chT g t.rule.toNat ∈ chR g pr (-1) g.rules.length := mem_chR.2 ⟨_, hrn, .inl rfl, hu, rfl⟩
   simp only
   rw [if_neg (by omega), choose_one (fmtT g t) 0 r1 _ 0 hc fun c' hc' hl' => by
    obtain ⟨j, hj, _, _, rfl⟩ := mem_chR.1 hc'
    rw [ch_uniq hv hrn hj ((lcp_full _ _).1 r1) ((lcp_full _ _).1 hl')]]
   have e : (chT g t.rule.toNat).2.rule.toNat = t.rule.toNat := Int.toNat_natCast _
   simp only [e, Nat.zero_add]
   rw [r2]
   simp
theorem par_read (hv : NVal g) (hpr : ∀ r, r ∈ g.rules -> r.body.all (okSym pr) = true -> nth pr r.head.toNat = true) {t : Tre} (h : tokT g t) : parT g pr (fmtT g t) = if 30 < depT t then (zT, 0, 11) else (t, 0, 0) := by
 unfold parT
 rw [tree_read hv hpr h]
end
open Go.RowKit
def WPL (P : Program) (Γ : Cx) (ops : Array Oper) (l : List Oper) (Q : Exit -> St -> Prop) (s : St) : Prop :=
 ∀ a w, SR Γ s a w -> wpList P ops (fun e a' w' => ∃ s', Q e s' /\ SR Γ s' a' w') l a w
section
variable {P : Program} {Γ : Cx} {ops : Array Oper} {Q : Exit -> St -> Prop} {s : St} {rest : List Oper} {o : Oper}
theorem wpl_region {id : Nat} {l : List Oper} (h : WPL P Γ l.toArray l Q s) : WP P Γ (.region id l.toArray false) Q s := fun a w hs => wp_region_lit (h a w hs)
theorem wpl_step (hg : o.guard = none) (h : asemC P ops [o] s fun s' => WPL P Γ ops rest Q s') : WPL P Γ ops (o :: rest) Q s := fun a w hs =>
 wpList_plain hg fun K hK => Oper.wp_mono (fun a' w' ⟨s', h1, h2⟩ => hK a' w' (h1 a' w' h2)) (asemC_one hg hs h)
theorem wpl_end (h : Q .normal s) : WPL P Γ ops [] Q s := fun a w hs => ⟨s, h, hs⟩
variable {n M : Nat} {l : List (Nat × AV)} {os : List (Nat × Option AObj)}
theorem wpl_frz {id k len : Nat} {vs : List AV} (j : Nat) (hm : Γ.m = 0) (h : opq n l (.tmp j) = some (.ref id k 0 len)) (ho : lookq M os id = some (.arr k vs)) (hl : vs.length = len) (hb : bdL 0 vs = true) (hk : (vs.all fun x => Nat.beq x.cells.length k) = true)
  (hw : WPL P Γ ops rest Q (S n ((j, .sl k vs) :: l) M ((id, none) :: os))) : WPL P Γ ops rest Q (S n l M os) := fun a w hs => by
 refine hw a w ?_
 obtain ⟨ρ, hs⟩ := hs
 have hj : j < n := by
  simp only [opq] at h
  cases hb : Nat.blt j n with
  | false => rw [hb] at h; simp at h
  | true => exact blt_of hb
 have hx := opq_op (M := M) (os := os) h
 simp only [St.op, S] at hx
 rw [tl_getD l hj] at hx
 have hlen : a.tmps.size = n := by rw [hs.len]; simp [S, tl_length]
 have hv : a.tmps[j]? = some (a.tmps[j]'(by omega)) := Array.getElem?_eq_getElem (by omega)
 have hrv := hs.tmp j (.ref id k 0 len) _ (by simp only [S, tl_get l hj, hx]) hv
 have h1 := hs.kill id
 have hmap : vs.attach.map (fun x => x.1) = vs := List.attach_map_subtype_val vs
 have hlist := hs.list (α := {x // x ∈ vs}) (f := fun x => x.1) (L := vs.attach) hm (by rw [S_look, hmap]; exact ho) (by simpa using hl) (fun x => bdL_iff.1 hb x.1 x.2) (fun x => Nat.eq_of_beq_eq_true (List.all_eq_true.1 hk x.1 x.2)) hrv
 rw [hmap] at hlist
 have h2 := h1.put (some j) hlist
 rw [act_same hv] at h2
 refine ⟨ρ, ?_⟩
 have e : ((S n l M os).set id none).put (some j) (.sl k vs) = S n ((j, .sl k vs) :: l) M ((id, none) :: os) := by simp [S, St.set, St.put, ol_set, tl_set]
 rw [e] at h2
 simpa [S, ol_length] using h2
end
def CallX (P : Program) (fv : AV) (args : List AV) (s : St) (v : Value) (s' : St) : Prop :=
 ∀ (Γ : Cx) (a : Act) (w : World) (f : Value) (vs : List Value), SR Γ s a w -> (∀ ρ, SRa Γ (fun id => id < s.objs.length) ρ s a w -> RV (fun id => id < s.objs.length) ρ (Im Γ ρ s w) w fv f /\ vs.length = args.length /\
   ∀ (i : Nat) x v, args[i]? = some x -> vs[i]? = some v -> RV (fun id => id < s.objs.length) ρ (Im Γ ρ s w) w x v) ->
  ∃ g us, (∀ w : World, (do let d <- Deferred.ofValue f vs.toArray; invoke d.target d.args : Sem Next).run P w = .ok (.enter g us) w) /\
   Calls P g us w fun e w' => e = .panicked [{ v, recovered := false }] /\ SR Γ s' a w'
structure FnX (P : Program) (g : FuncId) (ys : List AV) (os : List AObj) (v : Value) : Prop where
 en : enterable P g = true
 spec : ∀ (Γ : Cx) (vs : Array Value), Γ.m = (os.map some).length /\ Γ.mrk = false -> SR Γ ⟨ys, os.map some⟩ ⟨vs, []⟩ Γ.w0 ->
  Calls P g vs Γ.w0 fun e w' => e = .panicked [{ v, recovered := false }] /\ SR Γ ⟨[.any], os.map fun _ => none⟩ ⟨#[undef], []⟩ w'
section
variable {P : Program} {Γ : Cx} {A : Nat -> Prop} {ρ : Nat -> Option Nat} {s : St} {a : Act} {w : World}
theorem SRa.view {g : FuncId} {first cap args ys : List AV} {os : List AObj} (l : List Nat) {f : Value} {vs : List Value} (he : enterable P g = true) (h : SRa Γ (fun id => id < s.objs.length) ρ s a w)
  (hf : RV (fun id => id < s.objs.length) ρ (Im Γ ρ s w) w (.clo (.func g) first cap) f) (hl : vs.length = args.length) (hv : ∀ (i : Nat) x v, args[i]? = some x -> vs[i]? = some v -> RV (fun id => id < s.objs.length) ρ (Im Γ ρ s w) w x v) (hL : Lend l s (first ++ args ++ cap) ys os) :
  ∃ us, (∀ w : World, (do let d <- Deferred.ofValue f vs.toArray; invoke d.target d.args : Sem Next).run P w = .ok (.enter g us) w) /\ ∃ Γ' : Cx, Γ'.m = os.length /\ Γ'.w0 = w /\ Γ'.ds = [] /\ Γ'.mrk = false /\ SR Γ' ⟨ys, os.map some⟩ ⟨us, []⟩ w /\
   ∀ (objs' : List (Option AObj)) w' (r : AV) (v : Value), os.length <= objs'.length -> SR Γ' ⟨[r], objs'⟩ ⟨#[v], []⟩ w' -> SR Γ ⟨s.tmps, updO (apx s.objs.length l) s.objs l objs'⟩ a w' := by
 obtain ⟨us, hrun, hsz, hrv⟩ := call_args he hf hl hv
 obtain ⟨h1, h2, h3, h5, h6⟩ := hL
 have hm : os.length = l.length := by simpa using wkRO_len h2
 have hlive : ∀ j o, os[j]? = some o -> s.live (ap l j) (o.ren (ap l)) := fun j o ho => wkRO_get h2 j o (by simp [ho])
 have hlive' : ∀ j, j < l.length -> ∃ o, s.live (ap l j) o := fun j hj => ⟨_, hlive j _ (List.getElem?_eq_getElem (by omega))⟩
 have hlt : ∀ j, j < l.length -> ap l j < s.objs.length := fun j hj => wkRO_lt h2 j hj
 have happ : ∀ j, j < l.length -> ap l j ∈ l := fun j hj => by simp [ap, List.getD, List.getElem?_eq_getElem hj]
 let Γ' : Cx := ⟨w, fun b => Im Γ ρ s w b \/ ∃ j, j < l.length /\ ρ (ap l j) = some b, os.length, fun j => ρ (ap l j), h.fr.next.1, h.fr.next.2, fun j hj b hb => by
  obtain ⟨o, ho⟩ := hlive' j (by omega)
  rcases h.own _ o b ho hb with q | ⟨i, hi, q⟩
  ·exact Nat.le_trans Γ.hgl q
  ·exact Γ.hext i hi b q, [], fun j hj b hb => .inl (.inr ⟨j, by omega, hb⟩), false⟩
 have hst : ∀ id o, St.live ⟨ys, os.map some⟩ id o -> os[id]? = some o := fun id o hl => by
  unfold St.live at hl
  simp only [List.getElem?_map, Option.map_eq_some_iff] at hl
  obtain ⟨x, hx, hxo⟩ := hl
  injection hxo with hxo; subst hxo; exact hx
 have hI0 : ∀ b, Im Γ ρ s w b -> Im Γ' (fun j => ρ (ap l j)) ⟨ys, os.map some⟩ w b /\ w.heap[b]? = w.heap[b]? := fun b hb => ⟨⟨.inl (.inl hb), hb.2.1, fun id o hl => hb.2.2 _ _ (hlive id o (hst id o hl))⟩, rfl⟩
 have h0 : SR Γ' ⟨ys, os.map some⟩ ⟨us, []⟩ w := by
  refine ⟨fun j => ρ (ap l j), fun i hi => ⟨by simpa using hi, rfl⟩, by simp only; rw [hsz, wkR_len h1], ?_, fun id o hl => ?_, fun id o hl => (List.getElem?_eq_some_iff.1 hl).1, fun _ hid => hid, fun id o b hl hb => .inr ⟨id, (List.getElem?_eq_some_iff.1 (hst id o hl)).1, hb⟩, fun i j o o' b g1 g2 g3 g4 => ?_, .nil rfl, ⟨Nat.le_refl _, rfl, rfl, rfl, fun _ _ _ => rfl, fun _ _ hn => hn⟩⟩
  ·intro i y v hy hu
   simp only at hy hu
   have hi : i < (first ++ args ++ cap).length := by rw [<- wkR_len h1]; exact (List.getElem?_eq_some_iff.1 hy).1
   have hx := List.getElem?_eq_getElem hi
   rcases wkR_get h1 i _ y hx hy with rfl | hxy
   ·exact .any
   ·have := (hrv i _ v hx hu).unren (π := ap l) (n := os.length) (ρ' := fun j => ρ (ap l j)) (fun _ _ => rfl) hI0 (fun _ _ hn => hn) hxy (bdL_iff.1 h5 _ (List.mem_of_getElem? hy))
    simpa using this
  ·have := (h.obj _ _ (hlive id o (hst id o hl))).unren (π := ap l) (n := os.length) (ρ' := fun j => ρ (ap l j)) (fun _ _ => rfl) hI0 (fun _ _ hn => hn) (fun _ _ => rfl) (by have := bdO_get h6 id o (by simp [hst id o hl]); cases o <;> exact this)
   simpa using this
  ·have e := h.inj _ _ _ _ b (hlive i o (hst i o g1)) (hlive j o' (hst j o' g2)) g3 g4
   have hi := (List.getElem?_eq_some_iff.1 (hst i o g1)).1
   have hj := (List.getElem?_eq_some_iff.1 (hst j o' g2)).1
   rw [hm] at hi hj
   simp only [ap, List.getD, List.getElem?_eq_getElem hi, List.getElem?_eq_getElem hj, Option.getD_some] at e
   exact (List.getElem_inj h3).1 e
 refine ⟨us, hrun, Γ', rfl, rfl, rfl, rfl, h0, ?_⟩
 rintro objs' w' r rv hle ⟨ρ'', hs'⟩
 have hfr := hs'.fr
 have hext : ∀ j, j < l.length -> ρ'' j = ρ (ap l j) := fun j hj => (hs'.ext j (by simp only [Γ']; omega)).2
 generalize hs2 : (⟨s.tmps, updO (apx s.objs.length l) s.objs l objs'⟩ : St) = s2
 let ρn : Nat -> Option Nat := fun id => if id < s.objs.length then ρ id else ρ'' (id - s.objs.length + l.length)
 have hρold : ∀ id, id < s.objs.length -> ρn id = ρ id := fun id hid => if_pos hid
 have hρnew : ∀ j, ρn (apx s.objs.length l j) = ρ'' j := fun j => by
  unfold apx
  split
  ·rename_i hj; rw [hρold _ (hlt j hj)]; exact (hext j hj).symm
  ·rename_i hj
   simp only [ρn]
   rw [if_neg (by omega)]
   congr 1; omega
 have hn2 : s2.objs.length = s.objs.length + (objs'.length - l.length) := by rw [<- hs2]; exact updO_len (by omega)
 have hapx : ∀ j, j < objs'.length -> apx s.objs.length l j < s2.objs.length := fun j hj => by
  rw [hn2]; unfold apx
  split
  ·rename_i h; have := hlt j h; omega
  ·omega
 have cases2 : ∀ id o, s2.live id o -> (id < s.objs.length /\ s.live id o /\ id ∉ l) \/ ∃ j o0, St.live ⟨[r], objs'⟩ j o0 /\ o = o0.ren (apx s.objs.length l) /\ id = apx s.objs.length l j := by
  intro id o ho
  rw [<- hs2] at ho
  exact updO_get (os := objs') (show l.length <= objs'.length by omega) (fun j i hi => by
   have hj := (List.getElem?_eq_some_iff.1 hi).1
   have := hlt j hj
   simpa [ap, List.getD, hi] using this) h3 ho
 have hblk : ∀ b, b < w.heap.size -> (∀ j, j < l.length -> ρ (ap l j) ≠ some b) -> w'.heap[b]? = w.heap[b]? := fun b hb hne => hfr.block b hb (fun i hi => hne i (by simp only [Γ'] at hi; omega))
 have hIold : ∀ b, Im Γ ρ s w b -> Im Γ ρn s2 w' b /\ w'.heap[b]? = w.heap[b]? := by
  rintro b ⟨g1, g2, g3⟩
  refine ⟨⟨g1, Nat.lt_of_lt_of_le g2 hfr.size, fun id o ho => ?_⟩, hblk b g2 fun j hj => ?_⟩
  ·rcases cases2 id o ho with ⟨c1, c2, _⟩ | ⟨j, o0, c1, _, rfl⟩
   ·rw [hρold id c1]; exact g3 id o c2
   ·rw [hρnew]
    intro hb
    rcases hs'.own j o0 b c1 hb with q | ⟨i, hi, q⟩
    ·simp only [Γ'] at q; omega
    ·simp only [Γ'] at hi q
     obtain ⟨o', ho'⟩ := hlive' i (by omega)
     exact g3 _ _ ho' q
  ·obtain ⟨o', ho'⟩ := hlive' j hj
   exact g3 _ _ ho'
 have hInew : ∀ b, Im Γ' ρ'' ⟨[r], objs'⟩ w' b -> Im Γ ρn s2 w' b /\ w'.heap[b]? = w'.heap[b]? := by
  rintro b ⟨g1, g2, g3⟩
  refine ⟨⟨?_, g2, fun id o ho => ?_⟩, rfl⟩
  ·rcases g1 with (g1 | ⟨j1, q1, q2⟩) | g1
   ·exact g1.1
   ·obtain ⟨o', ho'⟩ := hlive' j1 q1
    rcases h.own _ o' b ho' q2 with q | ⟨i, hi, q⟩
    ·exact .inr q
    ·exact Γ.hin i hi b q
   ·exact .inr (Nat.le_trans h.fr.size g1)
  ·rcases cases2 id o ho with ⟨c1, c2, c3⟩ | ⟨j, o0, c1, _, rfl⟩
   ·rw [hρold id c1]
    intro hb
    have := live_block h c2 hb
    rcases g1 with (g1 | ⟨j1, q1, q2⟩) | g1
    ·exact g1.2.2 id o c2 hb
    ·obtain ⟨o', ho'⟩ := hlive' j1 q1
     have := h.inj _ _ _ _ b c2 ho' hb q2
     exact c3 (this ▸ happ j1 q1)
    ·simp only [Γ'] at g1; omega
   ·rw [hρnew]; exact g3 j o0 c1
 have hown : ∀ j o0 b, St.live ⟨[r], objs'⟩ j o0 -> ρ'' j = some b -> w.heap.size <= b \/ ∃ i, i < l.length /\ ρ (ap l i) = some b := fun j o0 b c1 hb => by
  rcases hs'.own j o0 b c1 hb with q | ⟨i, hi, q⟩
  ·exact .inl q
  ·exact .inr ⟨i, by simp only [Γ'] at hi; omega, q⟩
 have hw' : SRa Γ (fun id => id < s2.objs.length) ρn s2 a w' := by
  refine ⟨fun i hi => ?_, by rw [<- hs2]; exact h.len, ?_, ?_, fun id o ho => (List.getElem?_eq_some_iff.1 ho).1, fun _ hid => hid, ?_, ?_, h.defers.mono hIold, h.fr.turn hfr.size hfr.os hfr.tape hfr.output ?_ hfr.csize⟩
  ·have g := h.ext i hi
   exact ⟨by have := g.1; omega, (hρold i g.1).trans g.2⟩
  ·intro i x u hx hu
   exact (h.tmp i x u (by rw [<- hs2] at hx; exact hx) hu).mono (fun id hid => ⟨by omega, hρold id hid⟩) hIold hfr.csize
  ·intro id o ho
   rcases cases2 id o ho with ⟨c1, c2, c3⟩ | ⟨j, o0, c1, rfl, rfl⟩
   ·rw [hρold id c1]
    refine (h.obj id o c2).mono (fun id hid => ⟨by omega, hρold id hid⟩) hIold hfr.csize fun c hc => hblk c (live_block h c2 hc) fun j hj hj' => ?_
    obtain ⟨o', ho'⟩ := hlive' j hj
    have := h.inj _ _ _ _ c c2 ho' hc hj'
    exact c3 (this ▸ happ j hj)
   ·rw [hρnew]
    exact (hs'.obj j o0 c1).reren (fun id hid => ⟨hapx id hid, hρnew id⟩) hInew (fun _ _ hn => hn) (fun _ _ => rfl)
  ·intro id o b ho hb
   rcases cases2 id o ho with ⟨c1, c2, c3⟩ | ⟨j, o0, c1, rfl, rfl⟩
   ·rw [hρold id c1] at hb; exact h.own id o b c2 hb
   ·rw [hρnew] at hb
    rcases hown j o0 b c1 hb with q | ⟨i, hi, q⟩
    ·exact .inl (Nat.le_trans h.fr.size q)
    ·obtain ⟨o', ho'⟩ := hlive' i hi
     exact h.own _ _ b ho' q
  ·have mix : ∀ id o b j o0, s.live id o -> id ∉ l -> ρ id = some b -> St.live ⟨[r], objs'⟩ j o0 -> ρ'' j = some b -> False := by
    intro id o b j o0 c2 c3 hb c1 hb'
    rcases hown j o0 b c1 hb' with q | ⟨i, hi, q⟩
    ·have := live_block h c2 hb; omega
    ·obtain ⟨o', ho'⟩ := hlive' i hi
     have := h.inj _ _ _ _ b c2 ho' hb q
     exact c3 (this ▸ happ i hi)
   intro id id' o o' b ho ho' hb hb'
   rcases cases2 id o ho with ⟨c1, c2, c3⟩ | ⟨j, o0, c1, rfl, rfl⟩ <;> rcases cases2 id' o' ho' with ⟨d1, d2, d3⟩ | ⟨j', o0', d1, rfl, rfl⟩
   ·rw [hρold id c1] at hb; rw [hρold id' d1] at hb'
    exact h.inj _ _ _ _ b c2 d2 hb hb'
   ·rw [hρold id c1] at hb; rw [hρnew] at hb'
    exact (mix _ _ _ _ _ c2 c3 hb d1 hb').elim
   ·rw [hρnew] at hb; rw [hρold id' d1] at hb'
    exact (mix _ _ _ _ _ d2 d3 hb' c1 hb).elim
   ·rw [hρnew] at hb hb'
    rw [hs'.inj _ _ _ _ b c1 d1 hb hb']
  ·intro b hb
   by_cases hj : ∃ j, j < l.length /\ ρ (ap l j) = some b
   ·obtain ⟨j, hj, hjb⟩ := hj
    obtain ⟨o', ho'⟩ := hlive' j hj
    exact .inr (h.own _ _ b ho' hjb)
   ·exact .inl (hblk b hb fun j hj' he => hj ⟨j, hj', he⟩)
 exact ⟨ρn, hw'⟩
theorem CallX.via {g : FuncId} {first cap args ys : List AV} {os : List AObj} (l : List Nat) {pv : Value} (hspec : FnX P g ys os pv) (hL : Lend l s (first ++ args ++ cap) ys os) :
  CallX P (.clo (.func g) first cap) args s pv ⟨s.tmps, updO (apx s.objs.length l) s.objs l (os.map fun _ => none)⟩ := by
 intro Γ a w f vs hs hfv
 obtain ⟨ρ, h⟩ := hs
 obtain ⟨hf, hl, hv⟩ := hfv ρ h
 obtain ⟨us, hrun, Γ', hm, hw, hd, hk, h0, hback⟩ := h.view l hspec.en hf hl hv hL
 refine ⟨g, us, hrun, ?_⟩
 subst hw
 refine (hspec.spec Γ' us ⟨by simp [hm], hk⟩ h0).mono ?_
 rintro e w' ⟨rfl, hs'⟩
 exact ⟨rfl, hback _ _ _ _ (by simp) hs'⟩
theorem SR.dead (h : SR Γ s a w) (hd : Γ.ds = []) {m : Nat} (hm : Γ.m = m) : SR Γ ⟨[.any], List.replicate m none⟩ ⟨#[undef], []⟩ w := by
 obtain ⟨ρ, h⟩ := h
 have hl : ∀ id o, ¬ St.live ⟨[.any], List.replicate m none⟩ id o := fun id o hl => by
  unfold St.live at hl
  simp only [List.getElem?_replicate] at hl
  split at hl <;> simp at hl
 refine ⟨ρ, fun i hi => ⟨by simp; omega, (h.ext i hi).2⟩, rfl, fun i x v hx hv => ?_, fun id o h => absurd h (hl id o), fun id o h => absurd h (hl id o), fun _ hid => hid, fun id o b h => absurd h (hl id o), fun i j o o' b h => absurd h (hl i o), .nil hd.symm, h.fr⟩
 cases i with
 | zero => simp at hx; subst hx; exact .any
 | succ i => simp at hx
end
def bodyX (v : Value) : Exit -> St -> Prop
 | .panic ch, _ => ch = [{ v, recovered := false }]
 | _, _ => False
section
variable {P : Program} {Γ : Cx} {n M : Nat} {l : List (Nat × AV)} {os : List (Nat × Option AObj)} {x X : AV} {d t : Tmp} {ty : TypeId} {pos : String} {af : Array Edge} {ops : Array Oper} {rest : List Oper} {K : St -> Prop} {g : FuncId} {first cap xa ys : List AV} {f : Operand} {args : Array Operand} {tys : Array TypeId} {Q : Exit -> St -> Prop} {s : St} {next : St -> Prop}
theorem FnX.intro {fn : Func} {c : Code} {aos : List AObj} {v : Value} (he : enterable P g = true) (hf : P.funcs[g]? = some fn) (hb : fn.body = some c) (hn : fn.ntmps = n) (hl : ys.length <= n)
  (h : ∀ Γ : Cx, Γ.m = aos.length -> WP P Γ c (bodyX v) (S n (enumA 0 ys) aos.length (enumO 0 aos))) : FnX P g ys aos v := by
 refine ⟨he, fun Γ vs hm hs => calls_of_wp hf hb ?_⟩
 obtain ⟨ρ, hs⟩ := hs
 have hlen : vs.size = ys.length := hs.len
 have h0 : SR Γ ⟨ys ++ List.replicate (fn.ntmps - ys.length) .any, aos.map some⟩ ⟨vs ++ Array.replicate (fn.ntmps - vs.size) undef, []⟩ Γ.w0 := by
  refine ⟨ρ, hs.ext, by simp [hlen], ?_, hs.obj, hs.made, hs.bound, hs.own, hs.inj, hs.defers, hs.fr⟩
  intro i x v hx hv
  simp only at hx hv
  by_cases hi : i < ys.length
  ·rw [List.getElem?_append_left hi] at hx
   rw [Array.getElem?_append_left (by omega)] at hv
   exact hs.tmp i x v hx hv
  ·rw [List.getElem?_append_right (by omega)] at hx
   have hm := List.mem_of_getElem? hx
   rw [(List.mem_replicate.1 hm).2]
   exact .any
 subst hn
 rw [tl_start _ _ hl] at h0
 rw [List.length_map] at hm
 have hw := h Γ hm.1
 simp only [S, <- ol_enum] at hw
 refine wp_mono (hw _ _ h0) ?_
 rintro e a' w' ⟨s', hq, hs'⟩
 cases e with
 | panic ch =>
  have hd : Γ.ds = [] := (hs.defers.eq hm.2).symm
  have e1 : (aos.map fun _ => (none : Option AObj)) = List.replicate aos.length none := by
   rw [List.map_const']
  obtain ⟨ρ', hs''⟩ := hs'
  refine ⟨(hs''.defers.eq hm.2).trans hd, ?_⟩
  simp only [bodyX] at hq
  exact ⟨by rw [hq], by rw [e1]; exact SR.dead ⟨ρ', hs''⟩ hd hm.1⟩
 | _ => exact hq.elim
theorem wpl_callx {v : Value} {s' : St} (hc : CallX P (s.op f) (args.toList.map s.op) s v s') (hq : Q (.panic [{ v, recovered := false }]) s') {dst : Option Tmp} : WPL P Γ ops (⟨dst, .call ⟨.value f, args, tys⟩, ty, pos, af, none⟩ :: rest) Q s := fun a w hs =>
 wpList_plain rfl fun K hK => by
  obtain ⟨ρ, hρ⟩ := hs
  obtain ⟨g, us, hrun, hcall⟩ := hc Γ a w (a.eval f) (args.toList.map a.eval) ⟨ρ, hρ⟩ (fun ρ' h' => ⟨h'.eval f, by simp, fun i x v hx hv => by
   simp only [List.getElem?_map, Option.map_eq_some_iff] at hx hv
   obtain ⟨p, hp, rfl⟩ := hx
   obtain ⟨q, hq, rfl⟩ := hv
   rw [hp] at hq; injection hq with hq; subst hq
   exact h'.eval p⟩)
  unfold Oper.wp
  have hex : (execOp a.eval ⟨dst, .call ⟨.value f, args, tys⟩, ty, pos, af, none⟩).run P w = .ok (.enter g us) w := by
   have e1 : (args.map a.eval) = (args.toList.map a.eval).toArray := by apply Array.ext'; simp
   rw [<- hrun w]
   simp only [execOp, resolve, e1]
  rw [hex]
  simp only [Oper.upon]
  refine hcall.mono ?_
  rintro e w' ⟨rfl, hs'⟩
  exact ⟨s', hq, hs'⟩
def kill : List Nat -> List (Nat × Option AObj) -> List (Nat × Option AObj)
 | [], os => os
 | i :: is, os => kill is ((i, none) :: os)
theorem kill_ol {π : Nat -> Nat} : ∀ (is : List Nat) (k : List AObj) (os : List (Nat × Option AObj)), is.length = k.length -> updO π (ol M os) is (k.map fun _ => none) = ol M (kill is os)
  | [], [], os, _ => by simp [updO, kill]
  | i :: is, o :: k, os, h => by
    simp only [List.map_cons, updO, Option.map_none, ol_set, kill]
    exact kill_ol is k _ (by simpa using h)
  | [], _ :: _, _, h => by simp at h
  | _ :: _, [], _, h => by simp at h
theorem wpl_x {aos : List AObj} {v : Value} (is : List Nat) (hf : opq n l f = some (.clo (.func g) first cap)) (has : opqL n l args.toList = some xa) (hspec : FnX P g ys aos v)
  (hL : Lend is (S n l M os) (first ++ xa ++ cap) ys aos) (hq : Q (.panic [{ v, recovered := false }]) (S n l M (kill is os))) {dst : Option Tmp} : WPL P Γ ops (⟨dst, .call ⟨.value f, args, tys⟩, ty, pos, af, none⟩ :: rest) Q (S n l M os) := by
 have hM : (S n l M os).objs.length = M := ol_length M os
 have hil : is.length = aos.length := by have := wkRO_len hL.2.1; simpa using this.symm
 refine wpl_callx (s' := S n l M (kill is os)) ?_ hq
 rw [opq_op hf, opqL_op has]
 have h := CallX.via is hspec hL
 have e : (⟨(S n l M os).tmps, updO (apx (S n l M os).objs.length is) (S n l M os).objs is (aos.map fun _ => none)⟩ : St) = S n l M (kill is os) := by
  simp only [S]; rw [kill_ol is aos os hil]
 rw [e] at h
 exact h
theorem wpl_panic {T : TypeId} {u : Value} {a : Operand} (h : opq n l a = some (.val (.iface T u))) (hq : Q (.panic [{ v := .iface T u, recovered := false }]) (S n l M os)) {dst : Option Tmp} : WPL P Γ ops (⟨dst, .panic a, ty, pos, af, none⟩ :: rest) Q (S n l M os) := fun ac w hs =>
 wpList_plain rfl fun K hK => by
  obtain ⟨ρ, hρ⟩ := hs
  have hv : ac.eval a = .iface T u := by
   have := hρ.eval a
   rw [opq_op h] at this
   exact this.val_eq
  unfold Oper.wp
  have hex : (execOp ac.eval ⟨dst, .panic a, ty, pos, af, none⟩).run P w = .halt (.panic (.iface T u)) w := by
   simp [execOp, Instr.panic, hv, goPanic]
  rw [hex]
  exact ⟨_, hq, ρ, hρ⟩
theorem go_p {ch : List PanicEntry} (h : Q (.panic ch) s) : thenA next Q (.panic ch) s := h
theorem bl_p {id : Nat} {ch : List PanicEntry} (h : Q (.panic ch) s) : inBlockA id Q (.panic ch) s := h
theorem se_iface {u : Value} {tx : TypeId} {a : Operand} {ti : TI} [ht : TIc P tx ti] (h : opq n l a = some (.val u)) (hat : atom (.iface tx u) = true) (hni : (match P.underlying tx with | some (.interface _) => false | some _ => true | none => false) = true) (hk : asemC P ops rest (S n ((d, .val (.iface tx u)) :: l) M os) K) :
  asemC P ops (⟨some d, .makeInterface tx a, ty, pos, af, none⟩ :: rest) (S n l M os) K := by
 simp only [asemC]
 refine .inr (.inr ⟨_, hk, fun Γ ac w hs => ?_⟩)
 obtain ⟨ρ, hs⟩ := hs
 have hv : ac.eval a = u := by
  have := hs.eval a
  rw [opq_op h] at this
  exact this.val_eq
 refine ⟨.iface tx u, w, ?_, ρ, ?_⟩
 ·cases hu : P.underlying tx with
  | none => rw [hu] at hni; cases hni
  | some D =>
   rw [hu] at hni
   cases D <;> first
    | (simp at hni; done)
    | simp [execOp, Instr.makeInterface, hv, run_underlying hu]
 ·have := hs.put (some d) (x := .val (.iface tx u)) (v := .iface tx u) (.val hat)
  rw [S_put] at this
  exact this
end
inductive Res where
 | ok (X : AV) (os : List (Option AObj))
 | die (v : Value)
def FnP (P : Program) (g : FuncId) (ys : List AV) (os : List AObj) : Res -> Prop
 | .ok X os' => FnO P g ys os X os'
 | .die v => FnX P g ys os v
def bodyP (P : Program) (rs : List ResultVar) (m : Nat) (r : Res) : Exit -> St -> Prop
 | .normal, s | .ret, s => ∃ X os', r = .ok X os' /\ RetO P rs m X os' s
 | .panic ch, _ => ∃ v, r = .die v /\ ch = [{ v, recovered := false }]
 | _, _ => False
def Res.fine (m : Nat) : Res -> Prop
 | .ok X os' => m <= os'.length /\ X.bd os'.length = true
 | .die _ => True
section
variable {P : Program} {Γ : Cx} {n M : Nat} {l : List (Nat × AV)} {os : List (Nat × Option AObj)} {x X : AV} {d t : Tmp} {ty : TypeId} {pos : String} {af : Array Edge} {ops : Array Oper} {rest : List Oper} {K : St -> Prop} {g : FuncId} {first cap xa ys : List AV} {f : Operand} {args : Array Operand} {tys : Array TypeId} {Q : Exit -> St -> Prop} {s : St} {next : St -> Prop}
theorem FnP.intro {fn : Func} {c : Code} {aos : List AObj} {rs : List ResultVar} {r : Res} (hr : r.fine aos.length) (he : enterable P g = true) (hf : P.funcs[g]? = some fn) (hb : fn.body = some c) (hrs : fn.results = rs.toArray) (hn : fn.ntmps = n) (hl : ys.length <= n)
  (h : ∀ Γ : Cx, Γ.m = aos.length -> WP P Γ c (bodyP P rs aos.length r) (S n (enumA 0 ys) aos.length (enumO 0 aos))) : FnP P g ys aos r := by
 cases r with
 | ok X os' =>
  refine FnO.intro hr.1 hr.2 he hf hb hrs hn hl fun Γ hm => WP.mono (h Γ hm) ?_
  intro e s hq
  cases e with
  | normal => obtain ⟨X', o', e, h⟩ := hq; injection e with e1 e2; subst e1 e2; exact h
  | ret => obtain ⟨X', o', e, h⟩ := hq; injection e with e1 e2; subst e1 e2; exact h
  | panic ch => obtain ⟨v, e, _⟩ := hq; cases e
  | _ => exact hq
 | die v =>
  refine FnX.intro he hf hb hn hl fun Γ hm => WP.mono (h Γ hm) ?_
  intro e s hq
  cases e with
  | normal => obtain ⟨X', o', e, h⟩ := hq; cases e
  | ret => obtain ⟨X', o', e, h⟩ := hq; cases e
  | panic ch => obtain ⟨v', e, h⟩ := hq; injection e with e; subst e; exact h
  | _ => exact hq
theorem bp_r {rs : List ResultVar} {m : Nat} {r : Res} {os' : List (Option AObj)} (hr : r = .ok X os') (h : RetO P rs m X os' s) : bodyP P rs m r .ret s := ⟨_, _, hr, h⟩
theorem bp_p {rs : List ResultVar} {m : Nat} {r : Res} {v : Value} (hr : r = .die v) : bodyP P rs m r (.panic [{ v, recovered := false }]) s := ⟨_, hr, rfl⟩
def PInd (Q : Exit -> St -> Prop) : Prop := ∀ ch s t x, Q (.panic ch) s -> Q (.panic ch) (s.put t x)
theorem pind_then (h : PInd Q) : PInd (thenA next Q) := fun ch s t x hq => h ch s t x hq
theorem pind_block {id : Nat} (h : PInd Q) : PInd (inBlockA id Q) := fun ch s t x hq => h ch s t x hq
theorem pind_p {rs : List ResultVar} {m : Nat} {r : Res} : PInd (bodyP P rs m r) := fun ch s t x hq => hq
theorem pind_q {R : St -> Prop} : PInd (bodyQ R) := fun ch s t x hq => hq
def liftQ (Γ : Cx) (Q : Exit -> St -> Prop) : Exit -> Act -> World -> Prop := fun e a' w' => ∃ s', Q e s' /\ SR Γ s' a' w'
def WPT (P : Program) (Γ : Cx) (ops : Array Oper) (Q : Exit -> St -> Prop) (fuel : Nat) (listed : Array Bool) (s : St) : Prop :=
 ∀ a w, SR Γ s a w -> wpAny P .any ops (liftQ Γ Q) fuel listed a w
def WPO (P : Program) (Γ : Cx) (ops : Array Oper) (Q : Exit -> St -> Prop) (i : Nat) (K : St -> Prop) (s : St) : Prop :=
 ∀ a w, SR Γ s a w -> wpOp P ops (liftQ Γ Q) i (fun a' w' => ∃ s', K s' /\ SR Γ s' a' w') a w
def AllO (P : Program) (Γ : Cx) (ops : Array Oper) (Q : Exit -> St -> Prop) (fuel : Nat) (listed : Array Bool) (s : St) : List Nat -> Prop
 | [] => True
 | i :: r => WPO P Γ ops Q i (WPT P Γ ops Q fuel (listed.setIfInBounds i true)) s /\ AllO P Γ ops Q fuel listed s r
theorem wp_tree {id : Nat} {L : List Oper} (k : Nat) (hm : P.follows .mixedOrders = true) (hk : L.length = k) (h : WPT P Γ L.toArray Q k (Array.replicate k false) s) : WP P Γ (.region id L.toArray true) Q s := by
 intro a w hs
 have hsz : L.toArray.size = k := by simpa using hk
 refine wp_region_any hm ?_
 rw [hsz]
 exact h a _ (hs.drawn _)
variable {fuel i : Nat} {listed : Array Bool}
theorem wpt_all {rs : List Nat} (hr : Region.ready .any ops listed = rs) (hne : rs.isEmpty = false) (h : AllO P Γ ops Q fuel listed s rs) : WPT P Γ ops Q (fuel + 1) listed s := by
 intro a w hs
 refine wpAny_all hr (by cases rs <;> simp_all) fun i hi => ?_
 have key : ∀ rs, AllO P Γ ops Q fuel listed s rs -> ∀ i, i ∈ rs -> WPO P Γ ops Q i (WPT P Γ ops Q fuel (listed.setIfInBounds i true)) s := by
  intro rs
  induction rs with
  | nil => intro _ i hi; cases hi
  | cons j r ih =>
   intro h i hi
   rcases List.mem_cons.1 hi with rfl | hi
   ·exact h.1
   ·exact ih h.2 i hi
 exact wpOp_mono (fun a' w' ⟨s', h1, h2⟩ => h1 a' w' h2) (key rs h i hi a w hs)
theorem wpt_end (hr : Region.ready .any ops listed = []) (h : Q .normal s) : WPT P Γ ops Q fuel listed s := fun a w hs => wpAny_done hr ⟨s, h, hs⟩ fuel
theorem wpo_do {o : Oper} (ho : ops[i]? = some o) (hg : o.guard = none) (h : asemC P ops [o] s K) : WPO P Γ ops Q i K s := by
 intro a w hs
 unfold wpOp
 rw [ho]
 simp only
 rw [if_pos (by simp [Region.wanted, hg])]
 exact .inl (asemC_one hg hs h)
theorem wpo_callx {v : Value} {s' : St} {dst : Option Tmp} (ho : ops[i]? = some ⟨dst, .call ⟨.value f, args, tys⟩, ty, pos, af, none⟩) (hc : CallX P (s.op f) (args.toList.map s.op) s v s') (hq : Q (.panic [{ v, recovered := false }]) s') : WPO P Γ ops Q i K s := by
 intro a w hs
 unfold wpOp
 rw [ho]
 simp only
 rw [if_pos (by simp [Region.wanted])]
 refine .inl ?_
 obtain ⟨ρ, hρ⟩ := hs
 obtain ⟨g, us, hrun, hcall⟩ := hc Γ a w (a.eval f) (args.toList.map a.eval) ⟨ρ, hρ⟩ (fun ρ' h' => ⟨h'.eval f, by simp, fun i x v hx hv => by
  simp only [List.getElem?_map, Option.map_eq_some_iff] at hx hv
  obtain ⟨p, hp, rfl⟩ := hx
  obtain ⟨q, hq, rfl⟩ := hv
  rw [hp] at hq; injection hq with hq; subst hq
  exact h'.eval p⟩)
 unfold Oper.wp
 have hex : (execOp a.eval ⟨dst, .call ⟨.value f, args, tys⟩, ty, pos, af, none⟩).run P w = .ok (.enter g us) w := by
  have e1 : (args.map a.eval) = (args.toList.map a.eval).toArray := by apply Array.ext'; simp
  rw [<- hrun w]
  simp only [execOp, resolve, e1]
 rw [hex]
 simp only [Oper.upon]
 refine hcall.mono ?_
 rintro e w' ⟨rfl, hs'⟩
 exact ⟨s', hq, hs'⟩
theorem wpo_x {aos : List AObj} {v : Value} {dst : Option Tmp} (is : List Nat) (ho : ops[i]? = some ⟨dst, .call ⟨.value f, args, tys⟩, ty, pos, af, none⟩) (hf : opq n l f = some (.clo (.func g) first cap)) (has : opqL n l args.toList = some xa) (hspec : FnX P g ys aos v)
  (hL : Lend is (S n l M os) (first ++ xa ++ cap) ys aos) (hq : Q (.panic [{ v, recovered := false }]) (S n l M (kill is os))) : WPO P Γ ops Q i K (S n l M os) := by
 have hM : (S n l M os).objs.length = M := ol_length M os
 have hil : is.length = aos.length := by have := wkRO_len hL.2.1; simpa using this.symm
 refine wpo_callx (s' := S n l M (kill is os)) ho ?_ hq
 rw [opq_op hf, opqL_op has]
 have h := CallX.via is hspec hL
 have e : (⟨(S n l M os).tmps, updO (apx (S n l M os).objs.length is) (S n l M os).objs is (aos.map fun _ => none)⟩ : St) = S n l M (kill is os) := by
  simp only [S]; rw [kill_ol is aos os hil]
 rw [e] at h
 exact h
def Still (P : Program) (op : Op) : Prop := ∀ (ρ : Operand -> Value) (dst : Option Tmp) (ty : TypeId) (pos : String) (af : Array Edge) (v : Value) (w w' w1 : World), (execOp ρ ⟨dst, op, ty, pos, af, none⟩).run P w = .ok (.value v) w1 -> (execOp ρ ⟨dst, op, ty, pos, af, none⟩).run P w' = .ok (.value v) w'
theorem still_move {a : Operand} : Still P (.move a) := by
 intro ρ dst ty pos af v w w' w1 h
 simp only [execOp, Sem.run_pure] at h ⊢
 injection h with h1 h2
 rw [h1]
theorem wpt_take {op : Op} (i : Nat) (ho : ops[i]? = some ⟨some d, op, ty, pos, af, none⟩) (hst : Still P op) (hap : Ap P n l M os [] op x) (hs : Region.noSelect ops = true) (hf : Region.free .any ops listed i = true) (hr : (Region.ready .any ops listed).contains i = true) (hQ : PInd Q)
  (hk : WPT P Γ ops Q fuel (listed.setIfInBounds i true) (S n ((d, x) :: l) M os)) : WPT P Γ ops Q (fuel + 1) listed (S n l M os) := by
 intro a w hs'
 obtain ⟨ρ, hρ⟩ := hs'
 obtain ⟨v, hrun, hrv⟩ := pure_sound (P := P) hρ (o := ⟨some d, op, ty, pos, af, none⟩) (e := []) rfl hap
 refine wpAny_take (v := v) ho hs hf hr ?_ (.inl ⟨by simp [Region.wanted], fun w' => hst _ _ _ _ _ _ _ _ _ hrun⟩) ?_
 ·rintro c a1 w1 ⟨s', hq, ρ', h'⟩
  by_cases hd : d < a1.tmps.size
  ·have hv : a1.tmps[d]? = some a1.tmps[d] := Array.getElem?_eq_getElem hd
   refine ⟨s'.put (some d) .any, hQ _ _ _ _ hq, ρ', ?_⟩
   have h2 := h'.put (some d) (x := .any) (v := a1.tmps[d]) .any
   have e : (a1.put (some d) v).put (some d) a1.tmps[d] = a1 := by
    have e1 : (a1.put (some d) v).put (some d) a1.tmps[d] = a1.put (some d) a1.tmps[d] := by simp [Act.put]
    rw [e1]; exact act_same hv
   rw [e] at h2
   simpa [St.put] using h2
  ·refine ⟨s', hq, ρ', ?_⟩
   have e : a1.put (some d) v = a1 := by
    cases a1 with | mk tm df => simp only [Act.put, Act.mk.injEq, and_true]; exact Array.setIfInBounds_eq_of_size_le (by simpa using hd)
   rwa [e] at h'
 ·refine hk _ _ ⟨ρ, ?_⟩
  have h2 := hρ.put (some d) hrv
  rw [S_put] at h2
  simpa [S, ol_length] using h2
theorem sgt_o {aos : List AObj} {os' : List (Option AObj)} {j : Nat} {want b : Bool} (is : List Nat) (hd : (ops[j]?).bind (·.dst) = some t) (hv : opq n l (.tmp t) = some (.val (.bool b))) (hb : b = want) (hf : opq n ((t, .val (.bool b)) :: l) f = some (.clo (.func g) first cap)) (has : opqL n ((t, .val (.bool b)) :: l) args.toList = some xa) (hspec : FnO P g ys aos X os')
  (hL : Lend is (S n ((t, .val (.bool b)) :: l) M os) (first ++ xa ++ cap) ys aos)
  (hk : asemC P ops rest (S n ((d, X.ren (apx M is)) :: (t, .val (.bool b)) :: l) (M + (os'.length - is.length)) (updN (apx M is) M is os' os)) K) :
  asemC P ops (⟨some d, .call ⟨.value f, args, tys⟩, ty, pos, af, some (j, want)⟩ :: rest) (S n l M os) K := by
 subst hb
 simp only [asemC]
 refine .inl ⟨b, yielded_q hd hv, fun _ => ?_, fun h => by cases b <;> cases h⟩
 rw [hd, S_put]
 generalize hl : ((t, AV.val (.bool b)) :: l) = l2 at *
 have hM : (S n l2 M os).objs.length = M := ol_length M os
 simp only [execA, opq_op hf, opqL_op has]
 refine Call.via is hspec.spec hL ?_
 rintro r o' ⟨rfl, rfl⟩
 have hil : is.length = aos.length := by have := wkRO_len hL.2.1; simpa using this.symm
 have := hspec.len
 refine ⟨hspec.len, hspec.bd, ?_⟩
 rw [hM]
 have e : (⟨(S n l2 M os).tmps, updO (apx M is) (S n l2 M os).objs is o'⟩ : St) = S n l2 (M + (o'.length - is.length)) (updN (apx M is) M is o' os) := by
  simp only [S]; rw [updN_ol is o' os (by omega)]
 rw [e, S_put]
 exact hk
end
inductive FzB (id : Nat) (cells : List AV) : AV -> AV -> Prop
 | same {x : AV} : FzB id cells x x
 | ptr {k f : Nat} : FzB id cells (.ptr id k 0 f) (.iptr cells f)
 | clo {fn : Go.Fn} {xs ys xs' ys' : List AV} (h1 : xs'.length = xs.length) (h2 : ys'.length = ys.length) (h3 : ∀ (i : Nat) x y, xs[i]? = some x -> xs'[i]? = some y -> FzB id cells x y) (h4 : ∀ (i : Nat) x y, ys[i]? = some x -> ys'[i]? = some y -> FzB id cells x y) : FzB id cells (.clo fn xs ys) (.clo fn xs' ys')
inductive FzBL (id : Nat) (cells : List AV) : List AV -> List AV -> Prop
 | nil : FzBL id cells [] []
 | cons {x y : AV} {xs ys : List AV} (h : FzB id cells x y) (t : FzBL id cells xs ys) : FzBL id cells (x :: xs) (y :: ys)
theorem FzBL.get {id : Nat} {cells xs ys : List AV} (h : FzBL id cells xs ys) : ys.length = xs.length /\ ∀ (i : Nat) x y, xs[i]? = some x -> ys[i]? = some y -> FzB id cells x y := by
 induction h with
 | nil => exact ⟨rfl, fun i x y hx => by simp at hx⟩
 | cons h _ ih =>
  refine ⟨by simp [ih.1], fun i x y hx hy => ?_⟩
  cases i with
  | zero => simp at hx hy; subst hx hy; exact h
  | succ i => exact ih.2 i x y (by simpa using hx) (by simpa using hy)
theorem FzB.cloL {id : Nat} {cells : List AV} {fn : Go.Fn} {xs ys xs' ys' : List AV} (h1 : FzBL id cells xs xs') (h2 : FzBL id cells ys ys') : FzB id cells (.clo fn xs ys) (.clo fn xs' ys') := .clo h1.get.1 h2.get.1 h1.get.2 h2.get.2
section
variable {P : Program} {Γ : Cx} {A : Nat -> Prop} {ρ : Nat -> Option Nat} {s : St} {a : Act} {w : World}
end
section
variable {P : Program} {Γ : Cx} {n M : Nat} {l : List (Nat × AV)} {os : List (Nat × Option AObj)} {Q : Exit -> St -> Prop}
end
section
variable {P : Program} {Γ : Cx} {A : Nat -> Prop} {ρ : Nat -> Option Nat} {s : St} {a : Act} {w : World}
end
def St.kills (s : St) : List Nat -> St
 | [] => s
 | i :: is => St.kills (s.set i none) is
section
variable {P : Program} {Γ : Cx} {A : Nat -> Prop} {ρ : Nat -> Option Nat} {s : St} {a : Act} {w : World}
theorem SRa.kills (h : SRa Γ A ρ s a w) : ∀ is : List Nat, SRa Γ A ρ (s.kills is) a w := by
 intro is
 induction is generalizing s with
 | nil => exact h
 | cons i is ih => exact ih (h.kill i)
end
section
variable {P : Program} {Γ : Cx} {n M : Nat} {l : List (Nat × AV)} {os : List (Nat × Option AObj)} {Q : Exit -> St -> Prop}
end
section
variable {P : Program} {Γ : Cx} {ops : Array Oper}
end
section
variable {P : Program} {Γ : Cx} {n M : Nat} {l : List (Nat × AV)} {os : List (Nat × Option AObj)} {Q : Exit -> St -> Prop} {ops : Array Oper} {K : St -> Prop}
end
def frzq (_m _id _M : Nat) (_os : List (Nat × Option AObj)) : Bool := true
section
variable {P : Program} {Γ : Cx} {A : Nat -> Prop} {ρ : Nat -> Option Nat} {s : St} {a : Act} {w : World}
theorem SRa.list1 (h : SRa Γ A ρ s a w) {id k len : Nat} {α : Type} {f : α -> AV} {L : List α} (ho : s.look id = some (.arr k (L.map f))) (hl : L.length = len) (hb : ∀ x, (f x).bd 0 = true) (hk : ∀ x, (f x).cells.length = k)
  (hnb : ∀ b, ρ id = some b -> Γ.I0 b \/ Γ.w0.heap.size <= b) {I : Nat -> Prop} {v : Value} (hv : RV A ρ I w (.ref id k 0 len) v) : RV A ρ (Im Γ ρ (s.set id none) w) w (.sl k (L.map f)) v := by
 have hlive := St.look_some.1 ho
 have hI : ∀ b, Im Γ ρ s w b -> Im Γ ρ (s.set id none) w b /\ w.heap[b]? = w.heap[b]? := fun b ⟨h1, h2, h3⟩ => ⟨⟨h1, h2, fun i o hl => h3 i o (St.live_kill hl).2⟩, rfl⟩
 cases hv with
 | @ref _ _ _ _ cap b hA hbk hlc hcs hmx =>
  obtain ⟨cs, t, hblk, hrow⟩ := h.row ho hbk
  have hflat : (flat (L.map f)).length = (L.map f).length * k := flat_length hrow.wide
  have hIb : Im Γ ρ (s.set id none) w b := by
   refine ⟨?_, World.lt_of_block hblk, fun i o hl hr => ?_⟩
   ·exact hnb b hbk
   ·obtain ⟨h1, h2⟩ := St.live_kill hl
    exact h1 (h.inj i id o _ b h2 hlive hr hbk)
  have key : RV A ρ (Im Γ ρ (s.set id none) w) w (.sl k (L.map f)) (.slice (some ⟨b, 0 * k, none⟩) (L.map f).length cap) := by
   refine .sl (fun j => cs.getD j undef) ⟨by simp; omega, hmx⟩ hIb (fun e he => by obtain ⟨x, _, rfl⟩ := List.mem_map.1 he; exact hk x) (fun j hj => ?_) (fun j hj => ?_) (fun j x hx => ?_)
   ·have : j < cs.size := Nat.lt_of_lt_of_le hj hrow.len
    rw [cell_of_block hblk]; simp [Array.getD, this]
   ·have : j < cs.size := Nat.lt_of_lt_of_le hj hrow.len
    exact hrow.atoms j _ hj (by simp [Array.getD, this])
   ·have hj := (List.getElem?_eq_some_iff.1 hx).1
    have : j < cs.size := Nat.lt_of_lt_of_le hj hrow.len
    exact (hrow.vals j x _ hx (by simp [Array.getD, this])).pure (flat_bd (bdL_map hb L) x (List.mem_of_getElem? hx)) hI (fun _ _ hn => hn)
  rw [List.length_map, hl] at key
  exact key
 | refn hA hbk =>
  have : L = [] := List.eq_nil_of_length_eq_zero hl
  subst this
  exact .nils
theorem SRa.newb {n M : Nat} {l : List (Nat × AV)} {os : List (Nat × Option AObj)} {id mm : Nat} {o : AObj} (h : SRa Γ A ρ (S n l M os) a w) (_hm : Γ.m = mm) (_hfq : frzq mm id M os = true) (hl : (S n l M os).live id o) : ∀ b, ρ id = some b -> Γ.I0 b \/ Γ.w0.heap.size <= b := by
 intro b hb
 rcases h.own id o b hl hb with h1 | ⟨i, hi, h1⟩
 ·exact .inr h1
 ·exact Γ.hin i hi b h1
end
section
variable {P : Program} {Γ : Cx} {n M : Nat} {l : List (Nat × AV)} {os : List (Nat × Option AObj)} {c : Code} {Q : Exit -> St -> Prop} {ops : Array Oper} {rest : List Oper}
theorem wp_frzm {id k len : Nat} {α : Type} {f : α -> AV} {L : List α} (j : Nat) {mm : Nat} (hm : Γ.m = mm) (h : opq n l (.tmp j) = some (.ref id k 0 len)) (ho : lookq M os id = some (.arr k (L.map f))) (hl : L.length = len) (hb : ∀ x, (f x).bd 0 = true) (hk : ∀ x, (f x).cells.length = k) (hfq : frzq mm id M os = true)
  (hw : WP P Γ c Q (S n ((j, .sl k (L.map f)) :: l) M ((id, none) :: os))) : WP P Γ c Q (S n l M os) := fun a w hs => by
 refine hw a w ?_
 obtain ⟨ρ, hs⟩ := hs
 have hj : j < n := by
  simp only [opq] at h
  cases hb : Nat.blt j n with
  | false => rw [hb] at h; simp at h
  | true => exact blt_of hb
 have hx := opq_op (M := M) (os := os) h
 simp only [St.op, S] at hx
 rw [tl_getD l hj] at hx
 have hlen : a.tmps.size = n := by rw [hs.len]; simp [S, tl_length]
 have hv : a.tmps[j]? = some (a.tmps[j]'(by omega)) := Array.getElem?_eq_getElem (by omega)
 have hrv := hs.tmp j (.ref id k 0 len) _ (by simp only [S, tl_get l hj, hx]) hv
 have h1 := hs.kill id
 have h2 := h1.put (some j) (hs.list1 (by rw [S_look]; exact ho) hl hb hk (hs.newb hm hfq (St.look_some.1 (by rw [S_look]; exact ho))) hrv)
 rw [act_same hv] at h2
 refine ⟨ρ, ?_⟩
 have e : ((S n l M os).set id none).put (some j) (.sl k (L.map f)) = S n ((j, .sl k (L.map f)) :: l) M ((id, none) :: os) := by simp [S, St.set, St.put, ol_set, tl_set]
 rw [e] at h2
 simpa [S, ol_length] using h2
theorem wp_frzom {id k len : Nat} {α : Type} {f : α -> AV} {L : List α} (ido m : Nat) {k' : Nat} {cs : List AV} {mm : Nat} (hm : Γ.m = mm) (hid : Nat.beq id ido = false) (hob : lookq M os ido = some (.arr k' [.agg cs])) (h : cs[m]? = some (.ref id k 0 len)) (ho : lookq M os id = some (.arr k (L.map f))) (hl : L.length = len) (hb : ∀ x, (f x).bd 0 = true) (hk : ∀ x, (f x).cells.length = k) (hfq : frzq mm id M os = true)
  (hw : WP P Γ c Q (S n l M ((ido, some (.arr k' [.agg (cs.set m (.sl k (L.map f)))])) :: (id, none) :: os))) : WP P Γ c Q (S n l M os) := fun a w hs => by
 refine hw a w ?_
 obtain ⟨ρ, hs⟩ := hs
 have h1 := hs.kill id
 have hne : id ≠ ido := Nat.ne_of_beq_eq_false hid
 have hob' : ((S n l M os).set id none).live ido (.arr k' [.agg cs]) := by
  have := St.look_some.1 (by rw [S_look]; exact hob : (S n l M os).look ido = some (.arr k' [.agg cs]))
  simp only [St.live, St.set_objs] at this ⊢
  rw [List.getElem?_set_ne hne]; exact this
 have hwide : cs.length = k' := by
  have := hs.obj ido _ (St.look_some.1 (by rw [S_look]; exact hob))
  cases hr : ρ ido with
  | none => rw [hr] at this; obtain ⟨_, h2⟩ := this.resolve_left (by simp); cases h2
  | some b => rw [hr] at this; obtain ⟨_, _, _, _, h3, _⟩ := this; exact h3 (.agg cs) (by simp)
 have h2 := h1.recell hob' (es' := [.agg (cs.set m (.sl k (L.map f)))]) (by simp [flat, AV.cells]) (by simp [AV.cells, hwide]) (by simp) (fun j x y hx hy v hv => by
  simp only [flat, AV.cells, List.flatMap_cons, List.flatMap_nil, List.append_nil] at hx hy
  rw [List.getElem?_set] at hy
  by_cases e : m = j
  ·subst e
   rw [h] at hx; injection hx with hx; subst hx
   simp only [if_true] at hy
   split at hy
   ·injection hy with hy; subst hy
    exact hs.list1 (by rw [S_look]; exact ho) hl hb hk (hs.newb hm hfq (St.look_some.1 (by rw [S_look]; exact ho))) hv
   ·cases hy
  ·rw [if_neg e, hx] at hy; injection hy with hy; subst hy; exact hv)
 refine ⟨ρ, ?_⟩
 have e : (((S n l M os).set id none).set ido (some (.arr k' [.agg (cs.set m (.sl k (L.map f)))]))) = S n l M ((ido, some (.arr k' [.agg (cs.set m (.sl k (L.map f)))])) :: (id, none) :: os) := by simp [S, St.set, ol_set]
 rw [e] at h2
 simpa [S, ol_length] using h2
theorem wpl_frzm {id k len : Nat} {vs : List AV} (j : Nat) {mm : Nat} (hm : Γ.m = mm) (h : opq n l (.tmp j) = some (.ref id k 0 len)) (ho : lookq M os id = some (.arr k vs)) (hl : vs.length = len) (hb : bdL 0 vs = true) (hk : (vs.all fun x => Nat.beq x.cells.length k) = true) (hfq : frzq mm id M os = true)
  (hw : WPL P Γ ops rest Q (S n ((j, .sl k vs) :: l) M ((id, none) :: os))) : WPL P Γ ops rest Q (S n l M os) := fun a w hs => by
 refine hw a w ?_
 obtain ⟨ρ, hs⟩ := hs
 have hj : j < n := by
  simp only [opq] at h
  cases hb : Nat.blt j n with
  | false => rw [hb] at h; simp at h
  | true => exact blt_of hb
 have hx := opq_op (M := M) (os := os) h
 simp only [St.op, S] at hx
 rw [tl_getD l hj] at hx
 have hlen : a.tmps.size = n := by rw [hs.len]; simp [S, tl_length]
 have hv : a.tmps[j]? = some (a.tmps[j]'(by omega)) := Array.getElem?_eq_getElem (by omega)
 have hrv := hs.tmp j (.ref id k 0 len) _ (by simp only [S, tl_get l hj, hx]) hv
 have h1 := hs.kill id
 have hmap : vs.attach.map (fun x => x.1) = vs := List.attach_map_subtype_val vs
 have hlist := hs.list1 (α := {x // x ∈ vs}) (f := fun x => x.1) (L := vs.attach) (by rw [S_look, hmap]; exact ho) (by simpa using hl) (fun x => bdL_iff.1 hb x.1 x.2) (fun x => Nat.eq_of_beq_eq_true (List.all_eq_true.1 hk x.1 x.2)) (hs.newb hm hfq (St.look_some.1 (by rw [S_look]; exact ho))) hrv
 rw [hmap] at hlist
 have h2 := h1.put (some j) hlist
 rw [act_same hv] at h2
 refine ⟨ρ, ?_⟩
 have e : ((S n l M os).set id none).put (some j) (.sl k vs) = S n ((j, .sl k vs) :: l) M ((id, none) :: os) := by simp [S, St.set, St.put, ol_set, tl_set]
 rw [e] at h2
 simpa [S, ol_length] using h2
theorem sgt_u {K : St -> Prop} {d t : Tmp} {ty : TypeId} {pos : String} {af : Array Edge} {op : Op} {x : AV} {j : Nat} {want b : Bool} (hd : (ops[j]?).bind (·.dst) = some t) (hv : opq n l (.tmp t) = some (.val (.bool b))) (hb : b = want) (hp : plainq n l op.operands.toList = true) (hpk : (match op with | .pick _ _ _ => false | .call _ => false | _ => true) = true) (h : Ap P n l M os [] op x)
  (hk : asemC P ops rest (S n ((d, x) :: l) M os) K) : asemC P ops (⟨some d, op, ty, pos, af, some (j, want)⟩ :: rest) (S n l M os) K := by
 subst hb
 simp only [asemC]
 refine .inl ⟨b, yielded_q hd hv, fun _ => ?_, fun h => by cases b <;> cases h⟩
 rw [hd, S_put, S_lit hv]
 have hl : (S n l M os).objs.length = M := ol_length M os
 have ha := apure_aop (P := P) (look := (S n l M os).look) (nid := M) (plainq_res hp) (by rintro c a b rfl; cases hpk) h
 have hs : (S n l M os).after (some d) (x, .none) = S n ((d, x) :: l) M os := by simp only [St.after, S_put]
 unfold execA
 split
 ·rename_i c hop
  simp only at hop
  subst hop
  cases hpk
 ·exact ⟨_, by rw [hl]; exact ha, by rw [hs]; exact hk⟩
theorem still_fieldAddr {a : Operand} {ty : TypeId} {f off sz : Nat} {ti : TI} [h : TIc P ty ti] (hf : ti.fields[f]? = some (off, sz)) (hz : Nat.beq sz 0 = false) : Still P (.fieldAddr ty a f) := by
  obtain ⟨fs, fd, i, h1, h2, h3, h4, h5⟩ := fields_spec h.h hf (Nat.ne_of_beq_eq_false hz)
  have hz' : ¬ sz = 0 := Nat.ne_of_beq_eq_false hz
  subst h5
  intro ρ dst ty' pos af v w w' w1 h
  have hs : ∀ x : Value, (∃ ad, x = .pointer (some ad)) ∨ (∀ w : World, (Instr.fieldAt ty x f).run P w = (stuck "an address expected (no nilCheck in front?)" : Sem Value).run P w) := by
    intro x
    cases x with
    | pointer o => cases o with
      | some ad => exact .inl ⟨ad, rfl⟩
      | none => exact .inr fun w => by simp [Instr.fieldAt, run_underlying h1, h2, Instr.sureAddr]
    | _ => exact .inr fun w => by simp [Instr.fieldAt, run_underlying h1, h2, Instr.sureAddr]
  rcases hs (ρ a) with ⟨ad, had⟩ | hst
  · simp [execOp, had, Instr.fieldAt, run_underlying h1, h2, Instr.sureAddr, fieldPlace, sizeOf, typeInfo, h4, hz'] at h ⊢
    exact h.1
  · simp only [execOp, Sem.run_bind, hst w] at h
    simp [stuck] at h
end
end Go.Lg
