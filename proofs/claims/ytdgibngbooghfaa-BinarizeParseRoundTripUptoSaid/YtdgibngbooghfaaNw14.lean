/-
  Part 14 of the proof of BinarizeParseRoundTripUpto: the logic over the model, the functions' contracts and the plain laws.
-/
import Derived.Test.YtdgibngbooghfaaNw13
import Derived.Test.YtdgibngbooghfaaChecked
import Derived.Shelf.Vars
import Derived.HandedShaped

set_option linter.unusedSimpArgs false
set_option linter.unusedVariables false
set_option linter.unusedSectionVars false
set_option linter.defProp false

namespace Go.Lg
open Go.Proofs
theorem gw_open {w : World} (h : w.ShapedOpen Try.prog) : GW w ∧ GL ≤ w.heap.size := by
  refine ⟨⟨?_, fun p hp => by cases hp⟩, ?_⟩
  · intro p hp
    simp only [gints, List.mem_cons, List.mem_nil_iff, or_false] at hp
    rcases hp with rfl
    · exact cell_of_shapedOpen_int (zero := #[.int .i64 0]) (t := 3) h (of_decide_eq_true (by kernel_rfl)) (by kernel_rfl) rfl (by kernel_rfl) (by kernel_rfl) (by kernel_rfl)
  · have hs : ((((begin Try.prog (fun _ _ => 0) default).world.heap[0]?).bind Obj.row?).isSome) = true := by kernel_rfl
    obtain ⟨⟨zero, t⟩, hr⟩ := Option.isSome_iff_exists.1 hs
    obtain ⟨cs, hh, _⟩ := h.1 0 zero t (of_decide_eq_true (by kernel_rfl)) hr
    exact (Array.getElem?_eq_some_iff.1 hh).1
end Go.Lg

namespace Go.Lg
section
variable {g : Gram}
theorem len2 {α : Type} {l : List α} (h : l.length = 2) : ∃ a b, l = [a, b] := by
  match l, h with
  | [a, b], _ => exact ⟨a, b, rfl⟩
theorem chain_rule {i k : Nat} (hi : i < g.rules.length) (h2 : 2 ≤ (nth g.rules i).body.length) (hk : k ≤ (nth g.rules i).body.length - 2) :
    nth (nrmOf g).rules (posN g.rules i + k) = ⟨4, if k = 0 then (nth g.rules i).head else nxG g i + k - 1, symN g (nth (nth g.rules i).body k),
      if k = (nth g.rules i).body.length - 2 then symN g (nth (nth g.rules i).body (k + 1)) else nxG g i + k, if k = 0 then (nth g.rules i).price else 0, if k = 0 then (i : Int) else -1⟩ := by
  rw [(chain_at g hi (k := k) (by unfold extraN; omega)).2, chn_nth g _ _ _ _ _ k h2 hk]
theorem chain_lt {i k : Nat} (hi : i < g.rules.length) (hk : k < extraN (nth g.rules i) + 1) : posN g.rules i + k < (nrmOf g).rules.length := by
  have := (chain_at g hi hk).1
  rw [nrm_rules, List.length_append]; omega
structure Unr (g : Gram) (i k : Nat) (p : Prs) (l : List Prs) : Prop where
  len : l.length = (nth g.rules i).body.length - k
  ok : ∀ j, j < l.length → okP (nrmOf g) (symN g (nth (nth g.rules i).body (k + j))) (nth l j) = true
  back : chainP ((posN g.rules i + k : Nat) : Int) l = p
  sz : ∀ x, x ∈ l → szP x < szP p
theorem unr_of (hv : GVal g) {i : Nat} (hi : i < g.rules.length) (h2 : 2 ≤ (nth g.rules i).body.length) : ∀ (d k : Nat) (p : Prs) (h : Int), d = (nth g.rules i).body.length - 2 - k → k ≤ (nth g.rules i).body.length - 2 →
    p.rule = ((posN g.rules i + k : Nat) : Int) → PIn (nrmOf g) h p → Unr g i k p (unroll ((nth g.rules i).body.length - k) p) := by
  intro d
  induction d with
  | zero =>
    intro k p h hd hk hr hp
    have hk2 : k = (nth g.rules i).body.length - 2 := by omega
    have hR := chain_rule hi h2 hk
    rw [if_pos hk2] at hR
    have hn : p.rule.toNat = posN g.rules i + k := by omega
    have h3 := hp.len
    have h4 := hp.kid
    rw [hn, hR] at h3 h4
    simp only [kidsN, show (4 : Int) ≠ 3 by decide, if_false, if_true] at h3 h4
    obtain ⟨a, b, hab⟩ := len2 (l := p.kids) (by rw [← h3]; rfl)
    have hu : unroll ((nth g.rules i).body.length - k) p = [a, b] := by
      rw [show (nth g.rules i).body.length - k = 2 by omega]
      show p.kids = _
      exact hab
    rw [hu]
    rw [hab] at h4
    refine ⟨by simp only [List.length_cons, List.length_nil]; omega, fun j hj => ?_, ?_, fun x hx => szP_kid (by rw [hab]; exact hx)⟩
    · match j, hj with
      | 0, _ => exact h4 0 (by simp)
      | 1, _ => exact h4 1 (by simp)
    · exact Prs.ext' hr.symm hab.symm
  | succ d ih =>
    intro k p h hd hk hr hp
    have hk2 : ¬ k = (nth g.rules i).body.length - 2 := by omega
    have hR := chain_rule hi h2 hk
    rw [if_neg hk2] at hR
    have hn : p.rule.toNat = posN g.rules i + k := by omega
    have h3 := hp.len
    have h4 := hp.kid
    rw [hn, hR] at h3 h4
    simp only [kidsN, show (4 : Int) ≠ 3 by decide, if_false, if_true] at h3 h4
    obtain ⟨a, b, hab⟩ := len2 (l := p.kids) (by rw [← h3]; rfl)
    rw [hab] at h4
    have ha : okP (nrmOf g) (symN g (nth (nth g.rules i).body k)) a = true := h4 0 (by simp)
    have hb : okP (nrmOf g) (nxG g i + k) b = true := h4 1 (by simp)
    have hb' := okP_in.1 hb
    have hbr := uniq_chain hv hb'.rn hi (by unfold extraN; omega) hb'.hd
    have hu := ih (k + 1) b _ (by omega) (by omega) (by have := hb'.r0; omega) hb'
    obtain ⟨m, hm⟩ : ∃ m, (nth g.rules i).body.length - k = m + 3 := ⟨(nth g.rules i).body.length - k - 3, by omega⟩
    have e1 : (nth g.rules i).body.length - (k + 1) = m + 2 := by omega
    rw [e1] at hu
    have e2 : unroll ((nth g.rules i).body.length - k) p = a :: unroll (m + 2) b := by
      rw [hm, unroll, hab]
    rw [e2]
    have hul := hu.len
    refine ⟨by rw [List.length_cons, hul]; omega, fun j hj => ?_, ?_, fun x hx => ?_⟩
    · cases j with
      | zero => exact ha
      | succ j =>
        have := hu.ok j (by simpa using hj)
        have e : nth (a :: unroll (m + 2) b) (j + 1) = nth (unroll (m + 2) b) j := by simp [nth]
        rw [e, show k + (j + 1) = k + 1 + j by omega]
        exact this
    · obtain ⟨c, c2, l', hl'⟩ : ∃ c c2 l', unroll (m + 2) b = c :: c2 :: l' := by
        match hq : unroll (m + 2) b with
        | [] => rw [hq] at hul; simp at hul; omega
        | [c] => rw [hq] at hul; simp at hul; omega
        | c :: c2 :: l' => exact ⟨c, c2, l', rfl⟩
      have hbk := hu.back
      rw [hl'] at hbk ⊢
      rw [chainP, show ((posN g.rules i + k : Nat) : Int) + 1 = ((posN g.rules i + (k + 1) : Nat) : Int) by push_cast; omega, hbk]
      exact Prs.ext' hr.symm hab.symm
    · rcases List.mem_cons.1 hx with rfl | hx
      · exact szP_kid (by rw [hab]; simp)
      · exact Nat.lt_trans (hu.sz x hx) (szP_kid (by rw [hab]; simp))
theorem chain_mk (hv : GVal g) {i : Nat} (hi : i < g.rules.length) (h2 : 2 ≤ (nth g.rules i).body.length) : ∀ (l : List Prs) (k : Nat), k ≤ (nth g.rules i).body.length - 2 → l.length = (nth g.rules i).body.length - k →
    (∀ j, j < l.length → okP (nrmOf g) (symN g (nth (nth g.rules i).body (k + j))) (nth l j) = true) →
    (chainP ((posN g.rules i + k : Nat) : Int) l).rule = ((posN g.rules i + k : Nat) : Int) ∧ PIn (nrmOf g) (if k = 0 then (nth g.rules i).head else nxG g i + k - 1) (chainP ((posN g.rules i + k : Nat) : Int) l) ∧
    unroll ((nth g.rules i).body.length - k) (chainP ((posN g.rules i + k : Nat) : Int) l) = l ∧
    yieldP (nrmOf g) (chainP ((posN g.rules i + k : Nat) : Int) l) = yieldPL (nrmOf g) l ∧
    priceP (nrmOf g) (chainP ((posN g.rules i + k : Nat) : Int) l) = (if k = 0 then (nth g.rules i).price else 0) + pricePL (nrmOf g) l
  | [], k, hk, hl, _ => by simp at hl; omega
  | [_], k, hk, hl, _ => by simp at hl; omega
  | [a, b], k, hk, hl, hok => by
    have hk2 : k = (nth g.rules i).body.length - 2 := by simp at hl; omega
    have hR := chain_rule hi h2 hk
    rw [if_pos hk2] at hR
    have hlt := chain_lt hi (k := k) (by unfold extraN; omega)
    have h0 := hok 0 (by simp)
    have h1 := hok 1 (by simp)
    have ec : chainP ((posN g.rules i + k : Nat) : Int) [a, b] = .mk ((posN g.rules i + k : Nat) : Int) [a, b] := rfl
    rw [ec]
    refine ⟨rfl, ⟨by simp only [Prs.rule]; omega, by simp only [Prs.rule, Int.toNat_natCast]; exact hlt, ?_, ?_, ?_⟩, ?_, ?_, ?_⟩
    · simp only [Prs.rule, Int.toNat_natCast, hR]
    · simp only [Prs.rule, Prs.kids, Int.toNat_natCast, hR, kidsN]; rfl
    · intro j hj
      simp only [Prs.rule, Prs.kids, Int.toNat_natCast, hR, kidsN, show (4 : Int) ≠ 3 by decide, if_false, if_true] at hj ⊢
      match j, hj with
      | 0, _ => exact h0
      | 1, _ => exact h1
    · rw [show (nth g.rules i).body.length - k = 2 by omega]; rfl
    · rw [yieldP_eq]
      simp only [nruleAt, Prs.rule, Prs.kids, Int.toNat_natCast, hR, show (4 : Int) ≠ 2 by decide, if_false]
    · rw [priceP_eq]
      simp only [nruleAt, Prs.rule, Prs.kids, Int.toNat_natCast, hR]
  | a :: b :: c :: l, k, hk, hl, hok => by
    have hk2 : ¬ k = (nth g.rules i).body.length - 2 := by simp at hl; omega
    have hR := chain_rule hi h2 hk
    rw [if_neg hk2] at hR
    have hlt := chain_lt hi (k := k) (by unfold extraN; omega)
    have h0 := hok 0 (by simp)
    obtain ⟨q1, q2, q3, q4, q5⟩ := chain_mk hv hi h2 (b :: c :: l) (k + 1) (by omega) (by simp at hl ⊢; omega) (fun j hj => by
      have := hok (j + 1) (by simpa using hj)
      have e : nth (a :: b :: c :: l) (j + 1) = nth (b :: c :: l) j := by simp [nth]
      rw [e, show k + (j + 1) = k + 1 + j by omega] at this
      exact this)
    rw [if_neg (by omega)] at q2 q5
    rw [show nxG g i + ((k + 1 : Nat) : Int) - 1 = nxG g i + k by push_cast; omega] at q2
    rw [chainP, show ((posN g.rules i + k : Nat) : Int) + 1 = ((posN g.rules i + (k + 1) : Nat) : Int) by push_cast; omega]
    generalize chainP ((posN g.rules i + (k + 1) : Nat) : Int) (b :: c :: l) = P at *
    refine ⟨rfl, ⟨by simp only [Prs.rule]; omega, by simp only [Prs.rule, Int.toNat_natCast]; exact hlt, ?_, ?_, ?_⟩, ?_, ?_, ?_⟩
    · simp only [Prs.rule, Int.toNat_natCast, hR]
    · simp only [Prs.rule, Prs.kids, Int.toNat_natCast, hR, kidsN]; rfl
    · intro j hj
      simp only [Prs.rule, Prs.kids, Int.toNat_natCast, hR, kidsN, show (4 : Int) ≠ 3 by decide, if_false, if_true] at hj ⊢
      match j, hj with
      | 0, _ => exact h0
      | 1, _ => exact okP_in.2 q2
    · obtain ⟨m, hm⟩ : ∃ m, (nth g.rules i).body.length - k = m + 3 := ⟨(nth g.rules i).body.length - k - 3, by omega⟩
      rw [show (nth g.rules i).body.length - (k + 1) = m + 2 by omega] at q3
      rw [hm, unroll]
      simp only [Prs.kids]
      rw [q3]
    · rw [yieldP_eq]
      simp only [nruleAt, Prs.rule, Prs.kids, Int.toNat_natCast, hR, show (4 : Int) ≠ 2 by decide, if_false, yieldPL, q4, List.append_nil]
    · rw [priceP_eq]
      simp only [nruleAt, Prs.rule, Prs.kids, Int.toNat_natCast, hR, pricePL, q5]
      omega
theorem termP_rule {x : Int} (h0 : 0 ≤ x) (ht : x.toNat < g.terms.length) (hn : needT g x.toNat = true) : (termP g x).rule.toNat < (nrmOf g).rules.length ∧ nth (nrmOf g).rules (termP g x).rule.toNat = termN g x.toNat := by
  have h1 := term_at g ht hn
  simp only [termP, Prs.rule, Int.toNat_natCast]
  exact h1
theorem termP_ok {x : Int} (h0 : 0 ≤ x) (ht : x.toNat < g.terms.length) (hn : needT g x.toNat = true) : okP (nrmOf g) (symN g x) (termP g x) = true := by
  obtain ⟨h1, h2⟩ := termP_rule h0 ht hn
  refine okP_in.2 ⟨by simp only [termP, Prs.rule]; omega, h1, ?_, ?_, ?_⟩
  · rw [h2, symN, if_neg (by omega)]; rfl
  · rw [h2]; rfl
  · intro i hi; simp [termP, Prs.kids] at hi
theorem termP_only (hv : GVal g) {x : Int} (h0 : 0 ≤ x) (ht : x.toNat < g.terms.length) (hn : needT g x.toNat = true) {p : Prs} (h : okP (nrmOf g) (symN g x) p = true) : p = termP g x := by
  have hp := okP_in.1 h
  have h1 := hp.hd
  rw [symN, if_neg (by omega)] at h1
  have h2 := uniq_term hv hp.rn ht hn h1
  have h3 := hp.len
  rw [h2, (term_at g ht hn).2] at h3
  have h4 : p.kids = [] := List.eq_nil_of_length_eq_zero h3.symm
  exact Prs.ext' (show p.rule = (((chainsN g).length + (tlist g x.toNat).length : Nat) : Int) by have := hp.r0; omega) h4
theorem termP_yield {x : Int} (h0 : 0 ≤ x) (ht : x.toNat < g.terms.length) (hn : needT g x.toNat = true) : yieldP (nrmOf g) (termP g x) = [x] ∧ priceP (nrmOf g) (termP g x) = 0 := by
  obtain ⟨h1, h2⟩ := termP_rule h0 ht hn
  rw [yieldP_eq, priceP_eq]
  simp only [nruleAt, h2, termN, if_true]
  exact ⟨by rw [Int.toNat_of_nonneg h0], rfl⟩
end
end Go.Lg

namespace Go.Lg
theorem yieldPL_eq (n : Nrm) : ∀ (l : List Prs) (ts : List Tre), l.length = ts.length → (∀ i, i < l.length → yieldP n (nth l i) = leavesT (nth ts i)) → yieldPL n l = leavesTL ts
  | [], [], _, _ => by rw [yieldPL, leavesTL]
  | p :: l, t :: ts, h, hi => by
    rw [yieldPL, leavesTL, yieldPL_eq n l ts (by simpa using h) fun i h2 => hi (i + 1) (by simpa using h2)]
    rw [show yieldP n p = leavesT t from hi 0 (by simp)]
theorem pricePL_eq (n : Nrm) (g : Gram) : ∀ (l : List Prs) (ts : List Tre), l.length = ts.length → (∀ i, i < l.length → priceP n (nth l i) = priceT g (nth ts i)) → pricePL n l = priceTL g ts
  | [], [], _, _ => by rw [pricePL, priceTL]
  | p :: l, t :: ts, h, hi => by
    rw [pricePL, priceTL, pricePL_eq n g l ts (by simpa using h) fun i h2 => hi (i + 1) (by simpa using h2)]
    rw [show priceP n p = priceT g t from hi 0 (by simp)]
theorem leavesT_eq (t : Tre) : leavesT t = if t.rule = -1 then [t.term] else leavesTL t.kids := by cases t; rw [leavesT]; rfl
theorem priceT_eq (g : Gram) (t : Tre) : priceT g t = if t.rule < 0 then 0 else (nth g.rules t.rule.toNat).price + priceTL g t.kids := by cases t; rw [priceT]; rfl
theorem nth_map_range {α : Type} [Inhabited α] (f : Nat → α) {m i : Nat} (h : i < m) : nth ((List.range m).map f) i = f i := by
  have h2 : i < ((List.range m).map f).length := by simpa using h
  rw [nth_eq h2]; simp
theorem list_range {α : Type} [Inhabited α] {l : List α} {m : Nat} {f : Nat → α} (h : l.length = m) (hf : ∀ i, i < m → f i = nth l i) : (List.range m).map f = l := by
  apply List.ext_getElem
  · simpa using h.symm
  · intro i h1 h2
    simp only [List.getElem_map, List.getElem_range]
    rw [hf i (by omega), nth_eq h2]
section
variable {g : Gram}
theorem sym_need (hv : GVal g) {i j : Nat} (hi : i < g.rules.length) (h2 : 2 ≤ (nth g.rules i).body.length) (hj : j < (nth g.rules i).body.length) (h0 : 0 ≤ nth (nth g.rules i).body j) :
    (nth (nth g.rules i).body j).toNat < g.terms.length ∧ needT g (nth (nth g.rules i).body j).toNat = true := by
  have hm := nth_mem hi
  have hx := nth_mem hj
  have := (hv.rule _ hm).hi _ hx
  exact ⟨by omega, need_of hm h2 hx h0⟩
theorem origin_pos {i : Nat} (hi : i < g.rules.length) : (nth (nrmOf g).rules (posN g.rules i)).origin = i := by
  have := (chain_head g hi (k := 0) (by omega)).2
  simpa using this
theorem head_pos {i : Nat} (hi : i < g.rules.length) : (nth (nrmOf g).rules (posN g.rules i)).head = (nth g.rules i).head := by
  have := (chain_head g hi (k := 0) (by omega)).1
  simpa using this
theorem one_pos {i : Nat} (hi : i < g.rules.length) (h2 : (nth g.rules i).body.length < 2) : ∃ kd a, nth (nrmOf g).rules (posN g.rules i) = ⟨kd, (nth g.rules i).head, a, 0, (nth g.rules i).price, i⟩ ∧
    (((nth g.rules i).body = [] ∧ kd = 1 ∧ a = 0) ∨ (∃ x, (nth g.rules i).body = [x] ∧ 0 ≤ x ∧ kd = 2 ∧ a = x) ∨ (∃ x, (nth g.rules i).body = [x] ∧ x < 0 ∧ kd = 3 ∧ a = -1 - x)) := by
  obtain ⟨kd, a, q1, q2⟩ := chn_one g (h := (nth g.rules i).head) (p := (nth g.rules i).price) (o := i) (nx := nxG g i) h2
  have := (chain_at g hi (k := 0) (by omega)).2
  rw [Nat.add_zero, q1] at this
  exact ⟨kd, a, this, q2⟩
theorem toTF_at {i k : Nat} {p : Prs} (hi : i < g.rules.length) (hp : p.rule = posN g.rules i) : toTF g (k + 1) p = .mk i 0 ((List.range (nth g.rules i).body.length).map fun j =>
    if 0 ≤ nth (nth g.rules i).body j then leafT (nth (nth g.rules i).body j) else toTF g k (nth (unroll (nth g.rules i).body.length p) j)) := by
  have ho : (nruleAt (nrmOf g) p.rule).origin = i := by rw [hp]; simp only [nruleAt, Int.toNat_natCast]; exact origin_pos hi
  have hb : bodyAt g (i : Int) = (nth g.rules i).body := by simp only [bodyAt, Int.toNat_natCast]
  rw [toTF, ho, hb]
theorem fromTF_chain {k : Nat} {t : Tre} (h2 : 2 ≤ (nth g.rules t.rule.toNat).body.length) : fromTF g (k + 1) t = chainP (posN g.rules t.rule.toNat) ((List.range (nth g.rules t.rule.toNat).body.length).map fun i =>
    if 0 ≤ nth (nth g.rules t.rule.toNat).body i then termP g (nth (nth g.rules t.rule.toNat).body i) else fromTF g k (nth t.kids i)) := by
  rw [fromTF]
  unfold bodyAt
  generalize (nth g.rules t.rule.toNat).body = b at *
  match b, h2 with
  | x :: y :: l, _ => rfl
structure From (g : Gram) (x : Int) (k : Nat) (t : Tre) : Prop where
  ok : okP (nrmOf g) (-1 - x) (fromTF g k t) = true
  yl : yieldP (nrmOf g) (fromTF g k t) = leavesT t
  pr : priceP (nrmOf g) (fromTF g k t) = priceT g t
  back : toTF g k (fromTF g k t) = t
theorem from_all (hv : GVal g) : ∀ (k : Nat) (t : Tre) (x : Int), szT t ≤ k → x < 0 → okT g x t = true → From g x k t := by
  intro k
  induction k with
  | zero => intro t x h; rw [szT_eq] at h; omega
  | succ k ih =>
    intro t x hk hx hok
    have hT := (okT_in hx).1 hok
    have hr0 := hT.r0
    have hi := hT.rn
    have hkids : ∀ j, j < t.kids.length → nth (nth g.rules t.rule.toNat).body j < 0 → From g (nth (nth g.rules t.rule.toNat).body j) k (nth t.kids j) := fun j hj hn =>
      ih _ _ (by have := szT_kid (nth_mem hj); omega) hn (hT.kid j hj)
    have hleaf : ∀ j, j < t.kids.length → 0 ≤ nth (nth g.rules t.rule.toNat).body j → nth t.kids j = leafT (nth (nth g.rules t.rule.toNat).body j) := fun j hj hn =>
      (okT_leaf hn).1 (hT.kid j hj)
    have hlen := hT.len
    have hrn : ¬ t.rule = -1 := by omega
    have hrl : ¬ t.rule < 0 := by omega
    have hti : (t.rule.toNat : Int) = t.rule := by omega
    have hhd := hT.hd
    have hlv : leavesT t = leavesTL t.kids := by rw [leavesT_eq, if_neg hrn]
    have hpr : priceT g t = (nth g.rules t.rule.toNat).price + priceTL g t.kids := by rw [priceT_eq, if_neg hrl]
    by_cases h2 : 2 ≤ (nth g.rules t.rule.toNat).body.length
    · have hft := fromTF_chain (g := g) (k := k) (t := t) h2
      have hcm := chain_mk hv hi h2 ((List.range (nth g.rules t.rule.toNat).body.length).map fun i =>
        if 0 ≤ nth (nth g.rules t.rule.toNat).body i then termP g (nth (nth g.rules t.rule.toNat).body i) else fromTF g k (nth t.kids i)) 0 (by omega) (by simp) (fun j hj => by
          rw [List.length_map, List.length_range] at hj
          rw [nth_map_range _ hj, Nat.zero_add]
          by_cases h0 : 0 ≤ nth (nth g.rules t.rule.toNat).body j
          · rw [if_pos h0]
            have := sym_need hv hi h2 hj h0
            exact termP_ok h0 this.1 this.2
          · rw [if_neg h0, symN, if_pos (by omega)]
            exact (hkids j (by omega) (by omega)).ok)
      simp only [Nat.add_zero, if_true, Nat.sub_zero] at hcm
      rw [← hft] at hcm
      obtain ⟨c1, c2, c3, c4, c5⟩ := hcm
      refine ⟨?_, ?_, ?_, ?_⟩
      · rw [← hhd]; exact okP_in.2 c2
      · rw [c4, hlv]
        refine yieldPL_eq _ _ _ (by simp [hlen]) fun j hj => ?_
        rw [List.length_map, List.length_range] at hj
        rw [nth_map_range _ hj]
        by_cases h0 : 0 ≤ nth (nth g.rules t.rule.toNat).body j
        · rw [if_pos h0, hleaf j (by omega) h0]
          have := sym_need hv hi h2 hj h0
          rw [(termP_yield h0 this.1 this.2).1]
          rfl
        · rw [if_neg h0]; exact (hkids j (by omega) (by omega)).yl
      · rw [c5, hpr]
        congr 1
        refine pricePL_eq _ _ _ _ (by simp [hlen]) fun j hj => ?_
        rw [List.length_map, List.length_range] at hj
        rw [nth_map_range _ hj]
        by_cases h0 : 0 ≤ nth (nth g.rules t.rule.toNat).body j
        · rw [if_pos h0, hleaf j (by omega) h0]
          have := sym_need hv hi h2 hj h0
          rw [(termP_yield h0 this.1 this.2).2]
          rfl
        · rw [if_neg h0]; exact (hkids j (by omega) (by omega)).pr
      · rw [toTF_at hi c1, c3]
        refine Tre.ext' hti hT.tm.symm ?_
        refine list_range hlen fun j hj => ?_
        by_cases h0 : 0 ≤ nth (nth g.rules t.rule.toNat).body j
        · rw [if_pos h0]; exact (hleaf j (by omega) h0).symm
        · rw [if_neg h0, nth_map_range _ hj, if_neg h0]
          exact (hkids j (by omega) (by omega)).back
    · obtain ⟨kd, a, q1, q2⟩ := one_pos hi (by omega)
      have hlt := chain_lt hi (k := 0) (by omega)
      rw [Nat.add_zero] at hlt
      rcases q2 with ⟨hb, rfl, rfl⟩ | ⟨y, hb, hy, ek, ea⟩ | ⟨y, hb, hy, ek, ea⟩
      · have hft : fromTF g (k + 1) t = .mk (posN g.rules t.rule.toNat) [] := by
          rw [fromTF]; unfold bodyAt; rw [hb]; rfl
        have hkz : t.kids = [] := List.eq_nil_of_length_eq_zero (by rw [hlen, hb]; rfl)
        rw [hkz] at hlv hpr
        refine ⟨?_, ?_, ?_, ?_⟩
        · rw [hft, ← hhd]
          refine okP_in.2 ⟨by simp only [Prs.rule]; omega, by simp only [Prs.rule, Int.toNat_natCast]; exact hlt, by simp only [Prs.rule, Int.toNat_natCast, q1], by simp only [Prs.rule, Prs.kids, Int.toNat_natCast, q1]; rfl, fun j hj => by simp [Prs.kids] at hj⟩
        · rw [hft, yieldP_eq, hlv]
          simp only [nruleAt, Prs.rule, Prs.kids, Int.toNat_natCast, q1, show (1 : Int) ≠ 2 by decide, if_false, yieldPL, leavesTL]
        · rw [hft, priceP_eq, hpr]
          simp only [nruleAt, Prs.rule, Prs.kids, Int.toNat_natCast, q1, pricePL, priceTL]
        · rw [toTF_at hi (by rw [hft]; rfl), hb]
          exact Tre.ext' hti hT.tm.symm hkz.symm
      · have hft : fromTF g (k + 1) t = .mk (posN g.rules t.rule.toNat) [] := by
          rw [fromTF]; unfold bodyAt; rw [hb]; simp only; rw [if_pos hy]
        have hk1 : t.kids.length = 1 := by rw [hlen, hb]; rfl
        have hb0 : nth (nth g.rules t.rule.toNat).body 0 = y := by rw [hb]; rfl
        have hkz : t.kids = [leafT y] := by
          obtain ⟨c, hc⟩ : ∃ c, t.kids = [c] := by
            match hq : t.kids with
            | [c] => exact ⟨c, rfl⟩
            | [] => rw [hq] at hk1; simp at hk1
            | _ :: _ :: _ => rw [hq] at hk1; simp at hk1
          have := hleaf 0 (by omega) (by rw [hb0]; exact hy)
          rw [hb0, hc] at this
          rw [hc, show c = leafT y from this]
        rw [hkz] at hlv hpr
        refine ⟨?_, ?_, ?_, ?_⟩
        · rw [hft, ← hhd]
          refine okP_in.2 ⟨by simp only [Prs.rule]; omega, by simp only [Prs.rule, Int.toNat_natCast]; exact hlt, by simp only [Prs.rule, Int.toNat_natCast, q1], by simp only [Prs.rule, Prs.kids, Int.toNat_natCast, q1, ek]; rfl, fun j hj => by simp [Prs.kids] at hj⟩
        · rw [hft, yieldP_eq, hlv]
          simp only [nruleAt, Prs.rule, Prs.kids, Int.toNat_natCast, q1, ek, ea, if_true, leavesTL, leafT, leavesT, List.append_nil]
        · rw [hft, priceP_eq, hpr]
          simp only [nruleAt, Prs.rule, Prs.kids, Int.toNat_natCast, q1, pricePL, priceTL, leafT, priceT, show (-1 : Int) < 0 by decide, if_true, Int.add_zero]
        · rw [toTF_at hi (by rw [hft]; rfl)]
          refine Tre.ext' hti hT.tm.symm ?_
          refine list_range hlen fun j hj => ?_
          have hj0 : j = 0 := by rw [hb] at hj; simp at hj; omega
          subst hj0
          rw [if_pos (by rw [hb0]; exact hy), hb0, hkz]; rfl
      · have hft : fromTF g (k + 1) t = .mk (posN g.rules t.rule.toNat) [fromTF g k (nth t.kids 0)] := by
          rw [fromTF]; unfold bodyAt; rw [hb]; simp only; rw [if_neg (by omega)]
        have hk1 : t.kids.length = 1 := by rw [hlen, hb]; rfl
        have hb0 : nth (nth g.rules t.rule.toNat).body 0 = y := by rw [hb]; rfl
        have hF := hkids 0 (by omega) (by rw [hb0]; exact hy)
        rw [hb0] at hF
        obtain ⟨c, hc⟩ : ∃ c, t.kids = [c] := by
          match hq : t.kids with
          | [c] => exact ⟨c, rfl⟩
          | [] => rw [hq] at hk1; simp at hk1
          | _ :: _ :: _ => rw [hq] at hk1; simp at hk1
        rw [hc] at hlv hpr hF hft
        have hc0 : nth [c] 0 = c := rfl
        rw [hc0] at hF hft
        refine ⟨?_, ?_, ?_, ?_⟩
        · rw [hft, ← hhd]
          refine okP_in.2 ⟨by simp only [Prs.rule]; omega, by simp only [Prs.rule, Int.toNat_natCast]; exact hlt, by simp only [Prs.rule, Int.toNat_natCast, q1], by simp only [Prs.rule, Prs.kids, Int.toNat_natCast, q1, ek]; rfl, fun j hj => ?_⟩
          simp only [Prs.kids, List.length_cons, List.length_nil] at hj
          obtain rfl : j = 0 := by omega
          simp only [Prs.rule, Prs.kids, Int.toNat_natCast, q1, ek, ea, kidsN, if_true]
          exact hF.ok
        · rw [hft, yieldP_eq, hlv]
          simp only [nruleAt, Prs.rule, Prs.kids, Int.toNat_natCast, q1, ek, show (3 : Int) ≠ 2 by decide, if_false, yieldPL, leavesTL, List.append_nil]
          exact hF.yl
        · rw [hft, priceP_eq, hpr]
          simp only [nruleAt, Prs.rule, Prs.kids, Int.toNat_natCast, q1, pricePL, priceTL]
          rw [hF.pr]
        · rw [toTF_at hi (by rw [hft]; rfl)]
          refine Tre.ext' hti hT.tm.symm ?_
          refine list_range hlen fun j hj => ?_
          have hj0 : j = 0 := by rw [hb] at hj; simp at hj; omega
          subst hj0
          rw [if_neg (by rw [hb0]; omega), hc, hb, hft]
          exact hF.back
end
end Go.Lg

namespace Go.Lg
section
variable {g : Gram}
theorem low_pos (hv : GVal g) {h : Int} (hl : h < g.nonterms.length) {p : Prs} (hp : PIn (nrmOf g) h p) : ∃ i, i < g.rules.length ∧ p.rule = posN g.rules i ∧ (nth g.rules i).head = h := by
  obtain ⟨i, h1, h2⟩ := uniq_low hv hp.rn (by rw [hp.hd]; exact hl)
  have h3 := hp.hd
  rw [h2, head_pos h1] at h3
  exact ⟨i, h1, by have := hp.r0; omega, h3⟩
theorem to_all (hv : GVal g) : ∀ (k : Nat) (p : Prs) (h : Int), szP p ≤ k → h < g.nonterms.length → okP (nrmOf g) h p = true → okT g (-1 - h) (toTF g k p) = true ∧ fromTF g k (toTF g k p) = p := by
  intro k
  induction k with
  | zero => intro p h hk; rw [szP_eq] at hk; omega
  | succ k ih =>
    intro p h hk hl hok
    have hp := okP_in.1 hok
    obtain ⟨i, hi, hpr, hhd⟩ := low_pos hv hl hp
    have hrf := hv.rule _ (nth_mem hi)
    have hh0 := hrf.h0
    have hpn : p.rule.toNat = posN g.rules i := by omega
    have hlow : ∀ {x : Int}, x ∈ (nth g.rules i).body → x < 0 → -1 - x < g.nonterms.length := fun hx _ => by have := hrf.lo _ hx; omega
    rw [toTF_at hi hpr]
    have hti : ((i : Nat) : Int).toNat = i := Int.toNat_natCast i
    by_cases h2 : 2 ≤ (nth g.rules i).body.length
    · have hu := unr_of hv hi h2 _ 0 p h rfl (Nat.zero_le _) (by simpa using hpr) hp
      rw [Nat.sub_zero] at hu
      have hul := hu.len
      rw [Nat.sub_zero] at hul
      have hkid : ∀ j, j < (nth g.rules i).body.length → nth (nth g.rules i).body j < 0 → okT g (nth (nth g.rules i).body j) (toTF g k (nth (unroll (nth g.rules i).body.length p) j)) = true ∧
          fromTF g k (toTF g k (nth (unroll (nth g.rules i).body.length p) j)) = nth (unroll (nth g.rules i).body.length p) j := fun j hj hn => by
        have h3 := hu.ok j (by omega)
        rw [Nat.zero_add, symN, if_pos hn] at h3
        have h4 := ih _ _ (by have := hu.sz _ (nth_mem (k := j) (by omega)); omega) (hlow (nth_mem hj) hn) h3
        rw [show -1 - (-1 - nth (nth g.rules i).body j) = nth (nth g.rules i).body j by omega] at h4
        exact h4
      constructor
      · refine (okT_in (by omega)).2 ⟨by simp only [Tre.rule]; omega, by simp only [Tre.rule, hti]; exact hi, rfl, by simp only [Tre.rule, hti]; omega, by simp only [Tre.rule, Tre.kids, hti]; simp, fun j hj => ?_⟩
        simp only [Tre.rule, Tre.kids, hti, List.length_map, List.length_range] at hj ⊢
        rw [nth_map_range _ hj]
        by_cases h0 : 0 ≤ nth (nth g.rules i).body j
        · rw [if_pos h0]; exact (okT_leaf h0).2 rfl
        · rw [if_neg h0]; exact (hkid j hj (by omega)).1
      · rw [fromTF_chain (by simp only [Tre.rule, hti]; exact h2)]
        simp only [Tre.rule, Tre.kids, hti]
        have hb := hu.back
        rw [Nat.add_zero] at hb
        have e : ((List.range (nth g.rules i).body.length).map fun j => if 0 ≤ nth (nth g.rules i).body j then termP g (nth (nth g.rules i).body j) else
            fromTF g k (nth ((List.range (nth g.rules i).body.length).map fun j => if 0 ≤ nth (nth g.rules i).body j then leafT (nth (nth g.rules i).body j) else toTF g k (nth (unroll (nth g.rules i).body.length p) j)) j)) = unroll (nth g.rules i).body.length p := by
          refine list_range hul fun j hj => ?_
          by_cases h0 : 0 ≤ nth (nth g.rules i).body j
          · rw [if_pos h0]
            have h3 := hu.ok j (by omega)
            rw [Nat.zero_add] at h3
            have h4 := sym_need hv hi h2 hj h0
            exact (termP_only hv h0 h4.1 h4.2 h3).symm
          · rw [if_neg h0, nth_map_range _ hj, if_neg h0]
            exact (hkid j hj (by omega)).2
        rw [e]; exact hb
    · obtain ⟨kd, a, q1, q2⟩ := one_pos hi (by omega)
      have h3 := hp.len
      have h4 := hp.kid
      rw [hpn, q1] at h3 h4
      rcases q2 with ⟨hb, ek, ea⟩ | ⟨y, hb, hy, ek, ea⟩ | ⟨y, hb, hy, ek, ea⟩
      · rw [ek] at h3
        have hkz : p.kids = [] := List.eq_nil_of_length_eq_zero h3.symm
        rw [hb]
        constructor
        · refine (okT_in (by omega)).2 ⟨by simp only [Tre.rule]; omega, by simp only [Tre.rule, hti]; exact hi, rfl, by simp only [Tre.rule, hti]; omega, by simp only [Tre.rule, Tre.kids, hti, hb]; rfl, fun j hj => ?_⟩
          simp [Tre.kids] at hj
        · rw [fromTF]
          have : bodyAt g (Tre.mk i 0 ((List.range ([] : List Int).length).map fun j => if 0 ≤ nth ([] : List Int) j then leafT (nth ([] : List Int) j) else toTF g k (nth (unroll ([] : List Int).length p) j))).rule = [] := by
            simp only [bodyAt, Tre.rule, hti, hb]
          rw [this]
          simp only [Tre.rule, hti]
          exact Prs.ext' hpr.symm hkz.symm
      · rw [ek] at h3
        have hkz : p.kids = [] := List.eq_nil_of_length_eq_zero h3.symm
        have hb0 : nth (nth g.rules i).body 0 = y := by rw [hb]; rfl
        constructor
        · refine (okT_in (by omega)).2 ⟨by simp only [Tre.rule]; omega, by simp only [Tre.rule, hti]; exact hi, rfl, by simp only [Tre.rule, hti]; omega, by simp only [Tre.rule, Tre.kids, hti]; simp, fun j hj => ?_⟩
          simp only [Tre.rule, Tre.kids, hti, List.length_map, List.length_range] at hj ⊢
          rw [nth_map_range _ hj]
          have hj0 : j = 0 := by rw [hb] at hj; simp at hj; omega
          subst hj0
          rw [hb0, if_pos hy]; exact (okT_leaf hy).2 rfl
        · rw [fromTF]
          simp only [bodyAt, Tre.rule, hti, hb]
          rw [if_pos hy]
          exact Prs.ext' hpr.symm hkz.symm
      · rw [ek, ea] at h3 h4
        have hb0 : nth (nth g.rules i).body 0 = y := by rw [hb]; rfl
        obtain ⟨c, hc⟩ : ∃ c, p.kids = [c] := by
          have h5 : p.kids.length = 1 := h3.symm
          match hq : p.kids with
          | [c] => exact ⟨c, rfl⟩
          | [] => rw [hq] at h5; simp at h5
          | _ :: _ :: _ => rw [hq] at h5; simp at h5
        rw [hc] at h4
        have hco : okP (nrmOf g) (-1 - y) c = true := h4 0 (by simp)
        have hI := ih c (-1 - y) (by have := szP_kid (t := p) (k := c) (by rw [hc]; simp); omega) (hlow (by rw [hb]; simp) hy) hco
        rw [show -1 - (-1 - y) = y by omega] at hI
        have hun : unroll (nth g.rules i).body.length p = [c] := by rw [hb]; exact hc
        constructor
        · refine (okT_in (by omega)).2 ⟨by simp only [Tre.rule]; omega, by simp only [Tre.rule, hti]; exact hi, rfl, by simp only [Tre.rule, hti]; omega, by simp only [Tre.rule, Tre.kids, hti]; simp, fun j hj => ?_⟩
          simp only [Tre.rule, Tre.kids, hti, List.length_map, List.length_range] at hj ⊢
          rw [nth_map_range _ hj]
          have hj0 : j = 0 := by rw [hb] at hj; simp at hj; omega
          subst hj0
          rw [hb0, if_neg (by omega), hun]; exact hI.1
        · rw [fromTF]
          have hbd : bodyAt g (i : Int) = [y] := by simp only [bodyAt, hti, hb]
          simp only [Tre.rule, Tre.kids, hti, hbd]
          rw [if_neg (by omega)]
          refine Prs.ext' hpr.symm ?_
          rw [hc]
          show [fromTF g k _] = [c]
          rw [nth_map_range _ (by rw [hb]; simp), hb0, if_neg (by omega), hun]
          exact congrArg (fun z => [z]) hI.2
end
end Go.Lg

namespace Go.Lg
section
variable {g : Gram}
structure Stp (g : Gram) (i m : Nat) (q a b : Prs) : Prop where
  kids : q.kids = [a, b]
  ok : okP (nrmOf g) (symN g (nth (nth g.rules i).body m)) a = true
  last : m = (nth g.rules i).body.length - 2 → okP (nrmOf g) (symN g (nth (nth g.rules i).body (m + 1))) b = true ∧ unroll ((nth g.rules i).body.length - m) q = [a, b]
  next : m ≠ (nth g.rules i).body.length - 2 → b.rule = ((posN g.rules i + (m + 1) : Nat) : Int) ∧ PIn (nrmOf g) (nxG g i + m) b ∧ unroll ((nth g.rules i).body.length - m) q = a :: unroll ((nth g.rules i).body.length - (m + 1)) b
theorem stp_of (hv : GVal g) {i : Nat} (hi : i < g.rules.length) (h2 : 2 ≤ (nth g.rules i).body.length) {m : Nat} {q : Prs} {h : Int} (hm : m ≤ (nth g.rules i).body.length - 2) (hr : q.rule = ((posN g.rules i + m : Nat) : Int)) (hp : PIn (nrmOf g) h q) : ∃ a b, Stp g i m q a b := by
  have hR := chain_rule hi h2 hm
  have hn : q.rule.toNat = posN g.rules i + m := by omega
  have h3 := hp.len
  have h4 := hp.kid
  rw [hn, hR] at h3 h4
  simp only [kidsN, show (4 : Int) ≠ 3 by decide, if_false, if_true] at h3 h4
  obtain ⟨a, b, hab⟩ := len2 (l := q.kids) (by rw [← h3]; rfl)
  rw [hab] at h4
  refine ⟨a, b, hab, h4 0 (by simp), fun he => ?_, fun hne => ?_⟩
  · rw [if_pos he] at h4
    refine ⟨h4 1 (by simp), ?_⟩
    rw [show (nth g.rules i).body.length - m = 2 by omega]
    show q.kids = _
    exact hab
  · rw [if_neg hne] at h4
    have hb : okP (nrmOf g) (nxG g i + m) b = true := h4 1 (by simp)
    have hb' := okP_in.1 hb
    have hbr := uniq_chain hv hb'.rn hi (by unfold extraN; omega) hb'.hd
    refine ⟨by have := hb'.r0; omega, hb', ?_⟩
    obtain ⟨d, hd⟩ : ∃ d, (nth g.rules i).body.length - m = d + 3 := ⟨(nth g.rules i).body.length - m - 3, by omega⟩
    rw [hd, show (nth g.rules i).body.length - (m + 1) = d + 2 by omega, unroll, hab]
def kidT (g : Gram) (k : Nat) (body : List Int) (U : List Prs) (j : Nat) : Tre := if 0 ≤ nth body j then leafT (nth body j) else toTF g k (nth U j)
theorem toTF_kid {i k : Nat} {p : Prs} (hi : i < g.rules.length) (hp : p.rule = posN g.rules i) : toTF g (k + 1) p = .mk i 0 ((List.range (nth g.rules i).body.length).map (kidT g k (nth g.rules i).body (unroll (nth g.rules i).body.length p))) := toTF_at hi hp
theorem range_succ_map {α : Type} (f : Nat → α) (j : Nat) : (List.range (j + 1)).map f = (List.range j).map f ++ [f j] := by rw [List.range_succ, List.map_append]; rfl
theorem unr_kids (hv : GVal g) {i : Nat} (hi : i < g.rules.length) {p : Prs} {h : Int} (hpr : p.rule = posN g.rules i) (hp : PIn (nrmOf g) h p) (h1 : ¬ ((nth g.rules i).body.length = 1 ∧ 0 ≤ nth (nth g.rules i).body 0)) :
    (unroll (nth g.rules i).body.length p).length = (nth g.rules i).body.length ∧ (∀ j, j < (nth g.rules i).body.length → okP (nrmOf g) (symN g (nth (nth g.rules i).body j)) (nth (unroll (nth g.rules i).body.length p) j) = true) ∧
    (∀ x, x ∈ unroll (nth g.rules i).body.length p → szP x < szP p) ∧ (2 ≤ (nth g.rules i).body.length ∨ unroll (nth g.rules i).body.length p = p.kids) := by
  by_cases h2 : 2 ≤ (nth g.rules i).body.length
  · have := unr_of hv hi h2 _ 0 p h rfl (by omega) hpr hp
    rw [Nat.sub_zero] at this
    have hl := this.len
    refine ⟨hl, fun j hj => ?_, this.sz, .inl h2⟩
    have := this.ok j (by omega)
    rwa [Nat.zero_add] at this
  · have hu : unroll (nth g.rules i).body.length p = p.kids := by
      have hm : ∀ m, ¬ 2 ≤ m → unroll m p = p.kids := fun m hm => by
        match m, hm with
        | 0, _ => rfl
        | 1, _ => rfl
        | m + 2, hm => omega
      exact hm _ h2
    obtain ⟨kd, a, q1, q2⟩ := one_pos hi (by omega)
    have hn : p.rule.toNat = posN g.rules i := by omega
    have h3 := hp.len
    have h4 := hp.kid
    rw [hn, q1] at h3 h4
    rw [hu]
    refine ⟨?_, ?_, fun x hx => szP_kid hx, .inr rfl⟩
    · rcases q2 with ⟨hb, rfl, rfl⟩ | ⟨x, hb, hx, rfl, rfl⟩ | ⟨x, hb, hx, rfl, rfl⟩
      · rw [← h3, hb]; rfl
      · exact absurd ⟨by rw [hb]; rfl, by rw [hb]; exact hx⟩ h1
      · rw [← h3, hb]; rfl
    · intro j hj
      rcases q2 with ⟨hb, rfl, rfl⟩ | ⟨x, hb, hx, rfl, rfl⟩ | ⟨x, hb, hx, rfl, ha⟩
      · rw [hb] at hj; simp at hj
      · exact absurd ⟨by rw [hb]; rfl, by rw [hb]; exact hx⟩ h1
      · rw [hb] at hj ⊢
        simp only [List.length_cons, List.length_nil] at hj
        obtain rfl : j = 0 := by omega
        have := h4 0 (by rw [← h3]; simp [kidsN])
        simp only [kidsN, if_true] at this
        have e : symN g (nth [x] 0) = a := by rw [ha]; show symN g x = _; rw [symN, if_pos hx]
        rw [e]; exact this
theorem chain_round (hv : GVal g) {i : Nat} (hi : i < g.rules.length) {p q : Prs} {L U : List Prs} {m : Nat} (hU : unroll (nth g.rules i).body.length p = U) (hk : 2 ≤ (nth g.rules i).body.length ∨ U = p.kids) (hUl : U.length = (nth g.rules i).body.length) (hpr : p.rule = posN g.rules i) {h : Int} (hp : PIn (nrmOf g) h p)
    (hq1 : L ++ unroll ((nth g.rules i).body.length - m) q = U) (hq2 : L.length = m) (hq3 : (m = 0 ∧ q = p) ∨ (2 ≤ (nth g.rules i).body.length ∧ m ≤ (nth g.rules i).body.length - 2 ∧ q.rule = ((posN g.rules i + m : Nat) : Int) ∧ ∃ h', PIn (nrmOf g) h' q)) :
    (q.kids.length = 2 ∧ m + 2 < (nth g.rules i).body.length ∧ (L ++ [nth q.kids 0]) ++ unroll ((nth g.rules i).body.length - (m + 1)) (nth q.kids 1) = U ∧ (nth q.kids 1).rule = ((posN g.rules i + (m + 1) : Nat) : Int) ∧ ∃ h', PIn (nrmOf g) h' (nth q.kids 1)) ∨
    (L ++ q.kids = U ∧ ¬ (q.kids.length = 2 ∧ m + 2 < (nth g.rules i).body.length) ∧ (2 ≤ (nth g.rules i).body.length → m + 2 = (nth g.rules i).body.length)) := by
  by_cases h2 : 2 ≤ (nth g.rules i).body.length
  · obtain ⟨q4, q5, h', q6⟩ : m ≤ (nth g.rules i).body.length - 2 ∧ q.rule = ((posN g.rules i + m : Nat) : Int) ∧ ∃ h', PIn (nrmOf g) h' q := by
      rcases hq3 with ⟨rfl, rfl⟩ | ⟨_, a, b, c⟩
      · exact ⟨by omega, by rw [hpr]; simp, h, hp⟩
      · exact ⟨a, b, c⟩
    obtain ⟨a, b, hs⟩ := stp_of hv hi h2 q4 q5 q6
    have hkl : q.kids.length = 2 := by rw [hs.kids]; rfl
    have e0 : nth q.kids 0 = a := by rw [hs.kids]; rfl
    have e1 : nth q.kids 1 = b := by rw [hs.kids]; rfl
    by_cases hm : m = (nth g.rules i).body.length - 2
    · refine .inr ⟨?_, by omega, fun _ => by omega⟩
      rw [hs.kids, ← (hs.last hm).2]; exact hq1
    · obtain ⟨c1, c2, c3⟩ := hs.next hm
      refine .inl ⟨hkl, by omega, ?_, by rw [e1]; exact c1, _, by rw [e1]; exact c2⟩
      rw [e0, e1, List.append_assoc, ← hq1, c3]; rfl
  · rcases hq3 with ⟨rfl, rfl⟩ | ⟨q, _⟩
    · have hL : L = [] := List.eq_nil_of_length_eq_zero hq2
      subst hL
      have := hk.resolve_left h2
      exact .inr ⟨by rw [this]; rfl, by rw [← this]; omega, fun h => absurd h h2⟩
    · exact absurd q h2
end
end Go.Lg

namespace Go.Lg
open Go.Proofs
set_option linter.unusedSimpArgs false
set_option linter.unusedVariables false
attribute [local irreducible] Ap Rq asemC WP RunD Ret Gq thenA inBlockA bodyQ noGotoA RqL RqP OpP
set_option maxHeartbeats 1000000
theorem letter18_fn (c : Int) : Fn Try.prog 83 [.val (.int .u8 c)] (boolA (letB c)) := by
  refine Fn.intro rfl (by kernel_rfl) Try.func83 rfl rfl Try.ntmps83 (by exact Nat.le_of_ble_eq_true rfl) ?_; intro Γ hm
  (repeat' (first | apply jA | apply jH | apply jK | apply jS | (refine WP.regionC (id := 0) ?_; (refine sassign rfl ?_); apply jW) | (refine WP.regionC (id := 1) ?_; (refine smove rfl ?_); (refine su (ageq rfl rfl) ?_); (refine smove rfl ?_); (refine sg (gq_vt rfl rfl) (fun he => ap_move (rq_p rfl rfl)) ?_); (refine sg (gq_vt rfl rfl) (fun he => ap_leq (rq_c rfl rfl) (rq_p rfl rfl)) ?_); (refine su (ap_and (rq_p rfl rfl) (rq_c rfl rfl)) ?_); (refine smove rfl ?_); (refine sg (gq_vf rfl rfl) (fun he => ap_move (rq_p rfl rfl)) ?_); (refine sg (gq_vf rfl rfl) (fun he => ap_geq (rq_c rfl rfl) (rq_p rfl rfl)) ?_); (refine sg (gq_vf rfl rfl) (fun he => ap_move (rq_c rfl rfl)) ?_); (refine sg (gq_ct rfl rfl) (fun he => ap_move (rq_p rfl rfl)) ?_); (refine sg (gq_ct rfl rfl) (fun he => ap_leq (rq_c rfl rfl) (rq_p rfl rfl)) ?_); (refine sg (gq_vf rfl rfl) (fun he => ap_and (rq_c rfl rfl) (rq_c rfl rfl)) ?_); (refine su (ap_or (rq_p rfl rfl) (rq_c rfl rfl)) ?_); (refine sassign rfl ?_); apply jW) | exact ret_eq rfl rfl rfl))
theorem indexFunc_fn (l : List Int) (g : FuncId) (cap : List AV) (p : Int → Bool) (hcap : ∀ n, bdL n cap = true) (h : ∀ x, x ∈ l → Fn Try.prog g (intA x :: cap) (boolA (p x))) :
    Fn Try.prog 76 [intsA l, .clo (.func g) [] cap] (intA (indexP p l)) := by
  refine Fn.intro rfl (by kernel_rfl) Try.func76 rfl rfl Try.ntmps76 (by exact Nat.le_of_ble_eq_true rfl) ?_; intro Γ hm
  refine wp_lens 0 rfl fun h0 => ?_
  rw [lens_intsA] at h0
  (repeat' (first | apply jA | apply jF | apply jH | (refine WP.regionC (id := 0) ?_; (refine sassign rfl ?_); apply jW) | (refine WP.regionC (id := 1) ?_; (refine smove rfl ?_); (refine slenm rfl rfl ?_); (refine smove rfl ?_); apply jW)))
  refine wp_loop (fun k => k ≤ l.length ∧ (l.take k).any p = false) (fun k => l.length - k) (fun k => (S 19 [(0, intsA l), (1, .clo (.func g) [] cap), (7, intA (l.length : Nat)), (8, intA (k : Nat))] 0 [])) 0 ⟨[], ToR.S rfl (by repeat' (first | exact rt_nil | refine rt_e rfl rfl ?_ | refine rt_p rfl rfl (by first | (simp [AV.bd, bdL, bdL_append]; done) | (simp [AV.bd, bdL, bdL_append, *]; done) | fail) ?_)) (by repeat' (exact ro_nil)) rfl (by (rw [hm]; exact rfl)) rfl (by simp [bdT, AV.bd, bdL, bdL_append, *]) (by repeat' (exact True.intro)) (by (rw [hm]; exact Nat.le_of_ble_eq_true rfl))⟩ ⟨Nat.zero_le _, rfl⟩ ?_
  rintro k ⟨hk, hall⟩
  (repeat' (first | apply jA | apply jF | apply jH | apply jI | apply jJ | apply jK | apply jL | apply jM | apply jN | apply jO | apply jP | apply jS | (refine wp_cond rfl (fun hc => ?_) (fun hc => ?_) <;> (try simp only [sB, ne_eq, reduceCtorEq] at hc) <;> (try (exfalso; omega))) | (refine WP.regionC (id := 2) ?_; (refine slss rfl rfl ?_); apply jW) | (refine WP.regionC ?_; (refine smove rfl ?_); (refine sassign rfl ?_); apply jW) | (refine WP.regionC (id := 4) ?_; (refine smove rfl ?_); (refine smove rfl ?_); (refine smove rfl ?_); (refine sidxn rfl rfl (by omega) ?_); (refine sloadw rfl rfl ?_); (refine sc_p rfl rfl (by first | ((repeat' first | refine SubL.cons ?_ ?_ | exact SubL.rfl | exact Sub.refl); done) | fail) (by first | (simp [bdL, bdL_append, AV.bd, *]; done) | fail) (h _ (nth_mem (by omega))) ?_); apply jW) | (refine WP.regionC (id := 6) ?_; (refine sadd rfl rfl (by exact inr_i64_of (by omega)) ?_); (refine smove rfl ?_); apply jW) | (refine WP.regionC (id := 7) ?_; (refine sassign rfl ?_); apply jW) | refine ret_i rfl ?_))
  · exact (indexP_at (by omega) hall hc).symm
  · exact ⟨k + 1, ⟨by omega, by omega, take_any_succ (by omega) hall hc⟩, ⟨[], ToR.S rfl (by repeat' (first | exact rt_nil | refine rt_e rfl rfl ?_ | refine rt_p rfl rfl (by first | (simp [AV.bd, bdL, bdL_append]; done) | (simp [AV.bd, bdL, bdL_append, *]; done) | fail) ?_)) (by repeat' (exact ro_nil)) rfl (by (rw [hm]; exact rfl)) rfl (by simp [bdT, AV.bd, bdL, bdL_append, *]) (by repeat' (exact True.intro)) (by (rw [hm]; exact Nat.le_of_ble_eq_true rfl))⟩⟩
  · exact (indexP_no (by omega) hall).symm
theorem containsFunc_fn (l : List Int) (g : FuncId) (cap : List AV) (p : Int → Bool) (hcap : ∀ n, bdL n cap = true) (h : ∀ x, x ∈ l → Fn Try.prog g (intA x :: cap) (boolA (p x))) :
    Fn Try.prog 59 [intsA l, .clo (.func g) [] cap] (boolA (l.any p)) := by
  refine Fn.intro rfl (by kernel_rfl) Try.func59 rfl rfl Try.ntmps59 (by exact Nat.le_of_ble_eq_true rfl) ?_; intro Γ hm
  (repeat' (first | apply jA | apply jH | apply jK | apply jS | (refine WP.regionC (id := 0) ?_; (refine sassign rfl ?_); apply jW) | (refine WP.regionC (id := 1) ?_; (refine smove rfl ?_); (refine smove rfl ?_); (refine sc_p rfl rfl (by first | ((repeat' first | exact SubL.nil | refine SubL.cons ?_ ?_ | exact Sub.refl); done) | fail) (by first | (simp [bdL, bdL_append, AV.bd, *]; done) | fail) (indexFunc_fn _ _ _ p hcap h) ?_); (refine su (ageq rfl rfl) ?_); (refine sassign rfl ?_); apply jW) | refine ret_b rfl ?_))
  exact indexP_any
end Go.Lg

namespace Go.Lg
open Go.RowKit
structure FnO (P : Program) (g : FuncId) (ys : List AV) (os : List AObj) (X : AV) (os' : List (Option AObj)) : Prop where
  spec : Spec P g ys (os.map some) fun r o' => r = X ∧ o' = os'
  len : os.length ≤ os'.length
  bd : X.bd os'.length = true
def newO (π : Nat → Nat) (M : Nat) : List (Option AObj) → List (Nat × Option AObj) → List (Nat × Option AObj)
  | [], os => os
  | o :: r, os => newO π (M + 1) r ((M, o.map (AObj.ren π)) :: os)
def updN (π : Nat → Nat) (M : Nat) : List Nat → List (Option AObj) → List (Nat × Option AObj) → List (Nat × Option AObj)
  | i :: is, o :: os', os => updN π M is os' ((i, o.map (AObj.ren π)) :: os)
  | _, os', os => newO π M os' os
theorem ol_newO {π : Nat → Nat} : ∀ (os' : List (Option AObj)) (M : Nat) (os : List (Nat × Option AObj)), ol M os ++ os'.map (Option.map (AObj.ren π)) = ol (M + os'.length) (newO π M os' os)
  | [], M, os => by simp [newO]
  | o :: r, M, os => by
    rw [List.map_cons, ← List.singleton_append, ← List.append_assoc, ol_push, ol_newO r (M + 1), newO]
    congr 1; simp; omega
theorem updN_ol {π : Nat → Nat} {M : Nat} : ∀ (is : List Nat) (os' : List (Option AObj)) (os : List (Nat × Option AObj)), is.length ≤ os'.length → updO π (ol M os) is os' = ol (M + (os'.length - is.length)) (updN π M is os' os)
  | [], os', os, _ => by
    have e : updN π M [] os' os = newO π M os' os := by unfold updN; rfl
    have e2 : updO π (ol M os) [] os' = ol M os ++ os'.map (Option.map (AObj.ren π)) := by unfold updO; rfl
    rw [e, e2, ol_newO]; simp
  | i :: is, o :: os', os, h => by
    simp only [updO, ol_set, updN]
    rw [updN_ol is os' _ (by simpa using h)]
    simp
  | _ :: _, [], _, h => by simp at h
section
variable {P : Program} {Γ : Cx} {n M : Nat} {l : List (Nat × AV)} {os : List (Nat × Option AObj)} {x X : AV} {d t : Tmp} {ty : TypeId} {pos : String} {af : Array Edge} {ops : Array Oper} {rest : List Oper} {K : St → Prop} {g : FuncId} {first cap xa ys : List AV} {f : Operand} {args : Array Operand} {tys : Array TypeId}
theorem sc_o {aos : List AObj} {os' : List (Option AObj)} (is : List Nat) (hf : opq n l f = some (.clo (.func g) first cap)) (has : opqL n l args.toList = some xa) (hspec : FnO P g ys aos X os')
    (hL : Lend is (S n l M os) (first ++ xa ++ cap) ys aos)
    (hk : asemC P ops rest (S n ((d, X.ren (apx M is)) :: l) (M + (os'.length - is.length)) (updN (apx M is) M is os' os)) K) :
    asemC P ops (⟨some d, .call ⟨.value f, args, tys⟩, ty, pos, af, none⟩ :: rest) (S n l M os) K := by
  simp only [asemC]
  refine .inl ?_
  have hM : (S n l M os).objs.length = M := ol_length M os
  simp only [execA, opq_op hf, opqL_op has]
  refine Call.via is hspec.spec hL ?_
  rintro r o' ⟨rfl, rfl⟩
  have hil : is.length = aos.length := by have := wkRO_len hL.2.1; simpa using this.symm
  have := hspec.len
  refine ⟨hspec.len, hspec.bd, ?_⟩
  rw [hM]
  have e : (⟨(S n l M os).tmps, updO (apx M is) (S n l M os).objs is o'⟩ : St) = S n l (M + (o'.length - is.length)) (updN (apx M is) M is o' os) := by
    simp only [S]; rw [updN_ol is o' os (by omega)]
  rw [e, S_put]
  exact hk
def RetO (P : Program) (rs : List ResultVar) (m : Nat) (X : AV) (os' : List (Option AObj)) (s : St) : Prop :=
  ∃ x is, resN P s rs = some x ∧ ToR m is ⟨[x], s.objs⟩ ⟨[X], os'⟩
theorem FnO.intro {fn : Func} {c : Code} {aos : List AObj} {os' : List (Option AObj)} {rs : List ResultVar} (hlen : aos.length ≤ os'.length) (hbd : X.bd os'.length = true) (he : enterable P g = true) (hf : P.funcs[g]? = some fn) (hb : fn.body = some c) (hrs : fn.results = rs.toArray) (hn : fn.ntmps = n) (hl : ys.length ≤ n)
    (h : ∀ Γ : Cx, Γ.m = aos.length → WP P Γ c (bodyQ (RetO P rs aos.length X os')) (S n (enumA 0 ys) aos.length (enumO 0 aos))) : FnO P g ys aos X os' := by
  refine ⟨Spec.introR he hf hb (rs := rs) (by rw [hrs]) fun Γ hm => ?_, hlen, hbd⟩
  subst hn
  rw [List.length_map] at hm
  rw [tl_start _ _ hl]
  have hw := h Γ hm
  simp only [S, ← ol_enum] at hw
  refine WP.mono hw ?_
  have key : ∀ s, RetO P rs aos.length X os' s → ∃ x y l t, resN P s rs = some x ∧ ToR (aos.map some).length l ⟨[x], s.objs⟩ ⟨[y], t⟩ ∧ (y = X ∧ t = os') := by
    rintro s ⟨x, is, h1, h2⟩
    exact ⟨x, X, is, os', h1, by rw [List.length_map]; exact h2, rfl, rfl⟩
  intro e s hq
  cases e with
  | normal => exact key s hq
  | ret => exact key s hq
  | _ => exact hq
theorem retO_L {m : Nat} {rs : List ResultVar} {xs : List AV} {os' : List (Option AObj)} {os1 : List (Nat × Option AObj)} {k : Nat} (hr : ResL P n l M os rs xs) (hx : tupA xs = x) (hT : ∃ is, ToR m is (S 1 [(0, x)] M os) (S 1 [(0, X)] k os1)) (he : ol k os1 = os') : RetO P rs m X os' (S n l M os) := by
  obtain ⟨is, hT⟩ := hT
  refine ⟨x, is, ?_, ?_⟩
  · simp only [resN, hr.ok, Option.map_some, hx]
  · subst he
    have e1 : ∀ y : AV, tl 1 [(0, y)] = [y] := fun y => rfl
    simp only [S, e1] at hT
    exact hT
end
end Go.Lg

namespace Go.Lg
open Go.RowKit
section
variable {P : Program} {Γ : Cx} {a : Act} {w : World}
theorem asemC_one {ops : Array Oper} {s : St} {o : Oper} {K : St → Prop} {QQ : Exit → Act → World → Prop} (hg : o.guard = none) (h : SR Γ s a w) (hk : asemC P ops [o] s K) : o.wp P a w (fun a' w' => ∃ s', K s' ∧ SR Γ s' a' w') QQ := by
  simp only [asemC, hg] at hk
  rcases hk with hk | ⟨x, hx, hk⟩ | ⟨s1, hk, hs1⟩
  · exact exec_sound h hk fun s' a' w' hk' hs' => ⟨s', hk', hs'⟩
  · obtain ⟨ρ, hρ⟩ := h
    obtain ⟨v, hrun, hrv⟩ := pure_sound (P := P) hρ (e := []) rfl hx
    unfold Oper.wp
    rw [hrun]
    exact ⟨_, hk, ρ, by simpa using hρ.put o.dst hrv⟩
  · obtain ⟨v, w', hrun, hsr⟩ := hs1 Γ a w h
    unfold Oper.wp
    rw [hrun]
    exact ⟨_, hk, hsr⟩
end
section
variable {P : Program} {Γ : Cx} {ops : Array Oper}
end
end Go.Lg

namespace Go.Lg
section
variable {P : Program} {n M N i : Nat} {l : List (Nat × AV)} {os : List (Nat × Option AObj)} {a b : Operand} {d : Tmp} {ty : TypeId} {pos : String} {af : Array Edge} {ops : Array Oper} {rest : List Oper} {KK : List Rec → St → Prop} {K : St → Prop} {rs : List Rec}
end
section
variable {P : Program} {Γ : Cx} {c : Code} {Q : Exit → St → Prop} {n M : Nat} {l : List (Nat × AV)} {os : List (Nat × Option AObj)}
theorem wp_st (t : St) {s : St} (h0 : ∃ is, ToR Γ.m is s t) (h : WP P Γ c Q t) : WP P Γ c Q s := by
  obtain ⟨is, h0⟩ := h0; exact .toR is t h0 h
end
section
variable {P : Program} {n M : Nat} {l : List (Nat × AV)} {os : List (Nat × Option AObj)} {d t : Tmp} {ty : TypeId} {pos : String} {af : Array Edge} {ops : Array Oper} {rest : List Oper} {K : St → Prop} {j : Nat} {want b : Bool} {x : AV} {op : Op}
end
theorem ret_c {P : Program} {n : Nat} {l : List (Nat × AV)} {M : Nat} {os : List (Nat × Option AObj)} {a : Tmp} {ty : TypeId} {ti : TI} [hti : TIc P ty ti] {id k i j : Nat} {es : List AV} {y x X : AV} (h : opq n l (.tmp a) = some (.ptr id k i j)) (ho : lookq M os id = some (.arr k es)) (hi : es[i]? = some y) (hp : part ti y.cells j = some x)
    (hz : Fz (lookq M os) x X) : Ret P [.cell a ty] X (S n l M os) := by
  refine ⟨x, ?_, by rw [S_look']; exact hz⟩
  have := (ResL.cellT h ho hi hp .nil : ResL P n l M os [.cell a ty] [x]).ok
  simp only [resN, this, Option.map_some, tupA]
theorem Fz.rowL {look : Nat → Option AObj} {id k n : Nat} {es ys : List AV} (hlook : look id = some (.arr k es)) (hn : es.length = n) (hk : (ys.all fun e => Nat.beq e.cells.length k) = true) (h : FzL look es ys) : Fz look (.ref id k 0 n) (.sl k ys) := by
  have hz := h.fzs
  have hl := Fzs_len hz
  have e : (es.drop 0).take n = es := by rw [List.drop_zero, List.take_of_length_le (by omega)]
  refine Fz.ref' hlook (by omega) (by omega) (fun y hy => Nat.eq_of_beq_eq_true (List.all_eq_true.1 hk y hy)) fun i x y hx hy => ?_
  rw [e] at hx
  exact Fzs_get hz i x y hx hy
end Go.Lg

namespace Go.Lg
open Go.RowKit
section
variable {P : Program} {Γ : Cx} {n M : Nat} {l : List (Nat × AV)} {os : List (Nat × Option AObj)} {Q : Exit → St → Prop}
end
section
variable {P : Program} {n M : Nat} {l : List (Nat × AV)} {os : List (Nat × Option AObj)} {d t : Tmp} {ty : TypeId} {pos : String} {af : Array Edge} {ops : Array Oper} {rest : List Oper} {K : St → Prop} {j : Nat} {want p : Bool} {x : AV} {op : Op} {a b c : Operand}
end
end Go.Lg

namespace Go.Lg
open Go.RowKit
def WPL (P : Program) (Γ : Cx) (ops : Array Oper) (l : List Oper) (Q : Exit → St → Prop) (s : St) : Prop :=
  ∀ a w, SR Γ s a w → wpList P ops (fun e a' w' => ∃ s', Q e s' ∧ SR Γ s' a' w') l a w
section
variable {P : Program} {Γ : Cx} {ops : Array Oper} {Q : Exit → St → Prop} {s : St} {rest : List Oper} {o : Oper}
variable {n M : Nat} {l : List (Nat × AV)} {os : List (Nat × Option AObj)}
end
end Go.Lg

namespace Go.Lg
open Go.RowKit
def CallX (P : Program) (fv : AV) (args : List AV) (s : St) (v : Value) (s' : St) : Prop :=
  ∀ (Γ : Cx) (a : Act) (w : World) (f : Value) (vs : List Value), SR Γ s a w → (∀ ρ, SRa Γ (fun id => id < s.objs.length) ρ s a w → RV (fun id => id < s.objs.length) ρ (Im Γ ρ s w) w fv f ∧ vs.length = args.length ∧
      ∀ (i : Nat) x v, args[i]? = some x → vs[i]? = some v → RV (fun id => id < s.objs.length) ρ (Im Γ ρ s w) w x v) →
    ∃ g us, (∀ w : World, (do let d ← Deferred.ofValue f vs.toArray; invoke d.target d.args : Sem Next).run P w = .ok (.enter g us) w) ∧
      Calls P g us w fun e w' => e = .panicked [{ v, recovered := false }] ∧ SR Γ s' a w'
structure FnX (P : Program) (g : FuncId) (ys : List AV) (os : List AObj) (v : Value) : Prop where
  en : enterable P g = true
  spec : ∀ (Γ : Cx) (vs : Array Value), Γ.m = (os.map some).length ∧ Γ.mrk = false → SR Γ ⟨ys, os.map some⟩ ⟨vs, []⟩ Γ.w0 →
    Calls P g vs Γ.w0 fun e w' => e = .panicked [{ v, recovered := false }] ∧ SR Γ ⟨[.any], os.map fun _ => none⟩ ⟨#[undef], []⟩ w'
section
variable {P : Program} {Γ : Cx} {A : Nat → Prop} {ρ : Nat → Option Nat} {s : St} {a : Act} {w : World}
theorem SRa.view {g : FuncId} {first cap args ys : List AV} {os : List AObj} (l : List Nat) {f : Value} {vs : List Value} (he : enterable P g = true) (h : SRa Γ (fun id => id < s.objs.length) ρ s a w)
    (hf : RV (fun id => id < s.objs.length) ρ (Im Γ ρ s w) w (.clo (.func g) first cap) f) (hl : vs.length = args.length) (hv : ∀ (i : Nat) x v, args[i]? = some x → vs[i]? = some v → RV (fun id => id < s.objs.length) ρ (Im Γ ρ s w) w x v) (hL : Lend l s (first ++ args ++ cap) ys os) :
    ∃ us, (∀ w : World, (do let d ← Deferred.ofValue f vs.toArray; invoke d.target d.args : Sem Next).run P w = .ok (.enter g us) w) ∧ ∃ Γ' : Cx, Γ'.m = os.length ∧ Γ'.w0 = w ∧ Γ'.ds = [] ∧ Γ'.mrk = false ∧ SR Γ' ⟨ys, os.map some⟩ ⟨us, []⟩ w ∧
      ∀ (objs' : List (Option AObj)) w' (r : AV) (v : Value), os.length ≤ objs'.length → SR Γ' ⟨[r], objs'⟩ ⟨#[v], []⟩ w' → SR Γ ⟨s.tmps, updO (apx s.objs.length l) s.objs l objs'⟩ a w' := by
  obtain ⟨us, hrun, hsz, hrv⟩ := call_args he hf hl hv
  obtain ⟨h1, h2, h3, h5, h6⟩ := hL
  have hm : os.length = l.length := by simpa using wkRO_len h2
  have hlive : ∀ j o, os[j]? = some o → s.live (ap l j) (o.ren (ap l)) := fun j o ho => wkRO_get h2 j o (by simp [ho])
  have hlive' : ∀ j, j < l.length → ∃ o, s.live (ap l j) o := fun j hj => ⟨_, hlive j _ (List.getElem?_eq_getElem (by omega))⟩
  have hlt : ∀ j, j < l.length → ap l j < s.objs.length := fun j hj => wkRO_lt h2 j hj
  have happ : ∀ j, j < l.length → ap l j ∈ l := fun j hj => by simp [ap, List.getD, List.getElem?_eq_getElem hj]
  let Γ' : Cx := ⟨w, fun b => Im Γ ρ s w b ∨ ∃ j, j < l.length ∧ ρ (ap l j) = some b, os.length, fun j => ρ (ap l j), h.fr.next.1, h.fr.next.2, fun j hj b hb => by
    obtain ⟨o, ho⟩ := hlive' j (by omega)
    rcases h.own _ o b ho hb with q | ⟨i, hi, q⟩
    · exact Nat.le_trans Γ.hgl q
    · exact Γ.hext i hi b q, [], fun j hj b hb => .inl (.inr ⟨j, by omega, hb⟩), false⟩
  have hst : ∀ id o, St.live ⟨ys, os.map some⟩ id o → os[id]? = some o := fun id o hl => by
    unfold St.live at hl
    simp only [List.getElem?_map, Option.map_eq_some_iff] at hl
    obtain ⟨x, hx, hxo⟩ := hl
    injection hxo with hxo; subst hxo; exact hx
  have hI0 : ∀ b, Im Γ ρ s w b → Im Γ' (fun j => ρ (ap l j)) ⟨ys, os.map some⟩ w b ∧ w.heap[b]? = w.heap[b]? := fun b hb => ⟨⟨.inl (.inl hb), hb.2.1, fun id o hl => hb.2.2 _ _ (hlive id o (hst id o hl))⟩, rfl⟩
  have h0 : SR Γ' ⟨ys, os.map some⟩ ⟨us, []⟩ w := by
    refine ⟨fun j => ρ (ap l j), fun i hi => ⟨by simpa using hi, rfl⟩, by simp only; rw [hsz, wkR_len h1], ?_, fun id o hl => ?_, fun id o hl => (List.getElem?_eq_some_iff.1 hl).1, fun _ hid => hid, fun id o b hl hb => .inr ⟨id, (List.getElem?_eq_some_iff.1 (hst id o hl)).1, hb⟩, fun i j o o' b g1 g2 g3 g4 => ?_, .nil rfl, ⟨Nat.le_refl _, rfl, rfl, rfl, fun _ _ _ => rfl, fun _ _ hn => hn⟩⟩
    · intro i y v hy hu
      simp only at hy hu
      have hi : i < (first ++ args ++ cap).length := by rw [← wkR_len h1]; exact (List.getElem?_eq_some_iff.1 hy).1
      have hx := List.getElem?_eq_getElem hi
      rcases wkR_get h1 i _ y hx hy with rfl | hxy
      · exact .any
      · have := (hrv i _ v hx hu).unren (π := ap l) (n := os.length) (ρ' := fun j => ρ (ap l j)) (fun _ _ => rfl) hI0 (fun _ _ hn => hn) hxy (bdL_iff.1 h5 _ (List.mem_of_getElem? hy))
        simpa using this
    · have := (h.obj _ _ (hlive id o (hst id o hl))).unren (π := ap l) (n := os.length) (ρ' := fun j => ρ (ap l j)) (fun _ _ => rfl) hI0 (fun _ _ hn => hn) (fun _ _ => rfl) (by have := bdO_get h6 id o (by simp [hst id o hl]); cases o <;> exact this)
      simpa using this
    · have e := h.inj _ _ _ _ b (hlive i o (hst i o g1)) (hlive j o' (hst j o' g2)) g3 g4
      have hi := (List.getElem?_eq_some_iff.1 (hst i o g1)).1
      have hj := (List.getElem?_eq_some_iff.1 (hst j o' g2)).1
      rw [hm] at hi hj
      simp only [ap, List.getD, List.getElem?_eq_getElem hi, List.getElem?_eq_getElem hj, Option.getD_some] at e
      exact (List.getElem_inj h3).1 e
  refine ⟨us, hrun, Γ', rfl, rfl, rfl, rfl, h0, ?_⟩
  rintro objs' w' r rv hle ⟨ρ'', hs'⟩
  have hfr := hs'.fr
  have hext : ∀ j, j < l.length → ρ'' j = ρ (ap l j) := fun j hj => (hs'.ext j (by simp only [Γ']; omega)).2
  generalize hs2 : (⟨s.tmps, updO (apx s.objs.length l) s.objs l objs'⟩ : St) = s2
  let ρn : Nat → Option Nat := fun id => if id < s.objs.length then ρ id else ρ'' (id - s.objs.length + l.length)
  have hρold : ∀ id, id < s.objs.length → ρn id = ρ id := fun id hid => if_pos hid
  have hρnew : ∀ j, ρn (apx s.objs.length l j) = ρ'' j := fun j => by
    unfold apx
    split
    · rename_i hj; rw [hρold _ (hlt j hj)]; exact (hext j hj).symm
    · rename_i hj
      simp only [ρn]
      rw [if_neg (by omega)]
      congr 1; omega
  have hn2 : s2.objs.length = s.objs.length + (objs'.length - l.length) := by rw [← hs2]; exact updO_len (by omega)
  have hapx : ∀ j, j < objs'.length → apx s.objs.length l j < s2.objs.length := fun j hj => by
    rw [hn2]; unfold apx
    split
    · rename_i h; have := hlt j h; omega
    · omega
  have cases2 : ∀ id o, s2.live id o → (id < s.objs.length ∧ s.live id o ∧ id ∉ l) ∨ ∃ j o0, St.live ⟨[r], objs'⟩ j o0 ∧ o = o0.ren (apx s.objs.length l) ∧ id = apx s.objs.length l j := by
    intro id o ho
    rw [← hs2] at ho
    exact updO_get (os := objs') (show l.length ≤ objs'.length by omega) (fun j i hi => by
      have hj := (List.getElem?_eq_some_iff.1 hi).1
      have := hlt j hj
      simpa [ap, List.getD, hi] using this) h3 ho
  have hblk : ∀ b, b < w.heap.size → (∀ j, j < l.length → ρ (ap l j) ≠ some b) → w'.heap[b]? = w.heap[b]? := fun b hb hne => hfr.block b hb (fun i hi => hne i (by simp only [Γ'] at hi; omega))
  have hIold : ∀ b, Im Γ ρ s w b → Im Γ ρn s2 w' b ∧ w'.heap[b]? = w.heap[b]? := by
    rintro b ⟨g1, g2, g3⟩
    refine ⟨⟨g1, Nat.lt_of_lt_of_le g2 hfr.size, fun id o ho => ?_⟩, hblk b g2 fun j hj => ?_⟩
    · rcases cases2 id o ho with ⟨c1, c2, _⟩ | ⟨j, o0, c1, _, rfl⟩
      · rw [hρold id c1]; exact g3 id o c2
      · rw [hρnew]
        intro hb
        rcases hs'.own j o0 b c1 hb with q | ⟨i, hi, q⟩
        · simp only [Γ'] at q; omega
        · simp only [Γ'] at hi q
          obtain ⟨o', ho'⟩ := hlive' i (by omega)
          exact g3 _ _ ho' q
    · obtain ⟨o', ho'⟩ := hlive' j hj
      exact g3 _ _ ho'
  have hInew : ∀ b, Im Γ' ρ'' ⟨[r], objs'⟩ w' b → Im Γ ρn s2 w' b ∧ w'.heap[b]? = w'.heap[b]? := by
    rintro b ⟨g1, g2, g3⟩
    refine ⟨⟨?_, g2, fun id o ho => ?_⟩, rfl⟩
    · rcases g1 with (g1 | ⟨j1, q1, q2⟩) | g1
      · exact g1.1
      · obtain ⟨o', ho'⟩ := hlive' j1 q1
        rcases h.own _ o' b ho' q2 with q | ⟨i, hi, q⟩
        · exact .inr q
        · exact Γ.hin i hi b q
      · exact .inr (Nat.le_trans h.fr.size g1)
    · rcases cases2 id o ho with ⟨c1, c2, c3⟩ | ⟨j, o0, c1, _, rfl⟩
      · rw [hρold id c1]
        intro hb
        have := live_block h c2 hb
        rcases g1 with (g1 | ⟨j1, q1, q2⟩) | g1
        · exact g1.2.2 id o c2 hb
        · obtain ⟨o', ho'⟩ := hlive' j1 q1
          have := h.inj _ _ _ _ b c2 ho' hb q2
          exact c3 (this ▸ happ j1 q1)
        · simp only [Γ'] at g1; omega
      · rw [hρnew]; exact g3 j o0 c1
  have hown : ∀ j o0 b, St.live ⟨[r], objs'⟩ j o0 → ρ'' j = some b → w.heap.size ≤ b ∨ ∃ i, i < l.length ∧ ρ (ap l i) = some b := fun j o0 b c1 hb => by
    rcases hs'.own j o0 b c1 hb with q | ⟨i, hi, q⟩
    · exact .inl q
    · exact .inr ⟨i, by simp only [Γ'] at hi; omega, q⟩
  have hw' : SRa Γ (fun id => id < s2.objs.length) ρn s2 a w' := by
    refine ⟨fun i hi => ?_, by rw [← hs2]; exact h.len, ?_, ?_, fun id o ho => (List.getElem?_eq_some_iff.1 ho).1, fun _ hid => hid, ?_, ?_, h.defers.mono hIold, h.fr.turn hfr.size hfr.os hfr.tape hfr.output ?_ hfr.csize⟩
    · have g := h.ext i hi
      exact ⟨by have := g.1; omega, (hρold i g.1).trans g.2⟩
    · intro i x u hx hu
      exact (h.tmp i x u (by rw [← hs2] at hx; exact hx) hu).mono (fun id hid => ⟨by omega, hρold id hid⟩) hIold hfr.csize
    · intro id o ho
      rcases cases2 id o ho with ⟨c1, c2, c3⟩ | ⟨j, o0, c1, rfl, rfl⟩
      · rw [hρold id c1]
        refine (h.obj id o c2).mono (fun id hid => ⟨by omega, hρold id hid⟩) hIold hfr.csize fun c hc => hblk c (live_block h c2 hc) fun j hj hj' => ?_
        obtain ⟨o', ho'⟩ := hlive' j hj
        have := h.inj _ _ _ _ c c2 ho' hc hj'
        exact c3 (this ▸ happ j hj)
      · rw [hρnew]
        exact (hs'.obj j o0 c1).reren (fun id hid => ⟨hapx id hid, hρnew id⟩) hInew (fun _ _ hn => hn) (fun _ _ => rfl)
    · intro id o b ho hb
      rcases cases2 id o ho with ⟨c1, c2, c3⟩ | ⟨j, o0, c1, rfl, rfl⟩
      · rw [hρold id c1] at hb; exact h.own id o b c2 hb
      · rw [hρnew] at hb
        rcases hown j o0 b c1 hb with q | ⟨i, hi, q⟩
        · exact .inl (Nat.le_trans h.fr.size q)
        · obtain ⟨o', ho'⟩ := hlive' i hi
          exact h.own _ _ b ho' q
    · have mix : ∀ id o b j o0, s.live id o → id ∉ l → ρ id = some b → St.live ⟨[r], objs'⟩ j o0 → ρ'' j = some b → False := by
        intro id o b j o0 c2 c3 hb c1 hb'
        rcases hown j o0 b c1 hb' with q | ⟨i, hi, q⟩
        · have := live_block h c2 hb; omega
        · obtain ⟨o', ho'⟩ := hlive' i hi
          have := h.inj _ _ _ _ b c2 ho' hb q
          exact c3 (this ▸ happ i hi)
      intro id id' o o' b ho ho' hb hb'
      rcases cases2 id o ho with ⟨c1, c2, c3⟩ | ⟨j, o0, c1, rfl, rfl⟩ <;> rcases cases2 id' o' ho' with ⟨d1, d2, d3⟩ | ⟨j', o0', d1, rfl, rfl⟩
      · rw [hρold id c1] at hb; rw [hρold id' d1] at hb'
        exact h.inj _ _ _ _ b c2 d2 hb hb'
      · rw [hρold id c1] at hb; rw [hρnew] at hb'
        exact (mix _ _ _ _ _ c2 c3 hb d1 hb').elim
      · rw [hρnew] at hb; rw [hρold id' d1] at hb'
        exact (mix _ _ _ _ _ d2 d3 hb' c1 hb).elim
      · rw [hρnew] at hb hb'
        rw [hs'.inj _ _ _ _ b c1 d1 hb hb']
    · intro b hb
      by_cases hj : ∃ j, j < l.length ∧ ρ (ap l j) = some b
      · obtain ⟨j, hj, hjb⟩ := hj
        obtain ⟨o', ho'⟩ := hlive' j hj
        exact .inr (h.own _ _ b ho' hjb)
      · exact .inl (hblk b hb fun j hj' he => hj ⟨j, hj', he⟩)
  exact ⟨ρn, hw'⟩
theorem CallX.via {g : FuncId} {first cap args ys : List AV} {os : List AObj} (l : List Nat) {pv : Value} (hspec : FnX P g ys os pv) (hL : Lend l s (first ++ args ++ cap) ys os) :
    CallX P (.clo (.func g) first cap) args s pv ⟨s.tmps, updO (apx s.objs.length l) s.objs l (os.map fun _ => none)⟩ := by
  intro Γ a w f vs hs hfv
  obtain ⟨ρ, h⟩ := hs
  obtain ⟨hf, hl, hv⟩ := hfv ρ h
  obtain ⟨us, hrun, Γ', hm, hw, hd, hk, h0, hback⟩ := h.view l hspec.en hf hl hv hL
  refine ⟨g, us, hrun, ?_⟩
  subst hw
  refine (hspec.spec Γ' us ⟨by simp [hm], hk⟩ h0).mono ?_
  rintro e w' ⟨rfl, hs'⟩
  exact ⟨rfl, hback _ _ _ _ (by simp) hs'⟩
theorem SR.dead (h : SR Γ s a w) (hd : Γ.ds = []) {m : Nat} (hm : Γ.m = m) : SR Γ ⟨[.any], List.replicate m none⟩ ⟨#[undef], []⟩ w := by
  obtain ⟨ρ, h⟩ := h
  have hl : ∀ id o, ¬ St.live ⟨[.any], List.replicate m none⟩ id o := fun id o hl => by
    unfold St.live at hl
    simp only [List.getElem?_replicate] at hl
    split at hl <;> simp at hl
  refine ⟨ρ, fun i hi => ⟨by simp; omega, (h.ext i hi).2⟩, rfl, fun i x v hx hv => ?_, fun id o h => absurd h (hl id o), fun id o h => absurd h (hl id o), fun _ hid => hid, fun id o b h => absurd h (hl id o), fun i j o o' b h => absurd h (hl i o), .nil hd.symm, h.fr⟩
  cases i with
  | zero => simp at hx; subst hx; exact .any
  | succ i => simp at hx
end
def bodyX (v : Value) : Exit → St → Prop
  | .panic ch, _ => ch = [{ v, recovered := false }]
  | _, _ => False
section
variable {P : Program} {Γ : Cx} {n M : Nat} {l : List (Nat × AV)} {os : List (Nat × Option AObj)} {x X : AV} {d t : Tmp} {ty : TypeId} {pos : String} {af : Array Edge} {ops : Array Oper} {rest : List Oper} {K : St → Prop} {g : FuncId} {first cap xa ys : List AV} {f : Operand} {args : Array Operand} {tys : Array TypeId} {Q : Exit → St → Prop} {s : St} {next : St → Prop}
theorem FnX.intro {fn : Func} {c : Code} {aos : List AObj} {v : Value} (he : enterable P g = true) (hf : P.funcs[g]? = some fn) (hb : fn.body = some c) (hn : fn.ntmps = n) (hl : ys.length ≤ n)
    (h : ∀ Γ : Cx, Γ.m = aos.length → WP P Γ c (bodyX v) (S n (enumA 0 ys) aos.length (enumO 0 aos))) : FnX P g ys aos v := by
  refine ⟨he, fun Γ vs hm hs => calls_of_wp hf hb ?_⟩
  obtain ⟨ρ, hs⟩ := hs
  have hlen : vs.size = ys.length := hs.len
  have h0 : SR Γ ⟨ys ++ List.replicate (fn.ntmps - ys.length) .any, aos.map some⟩ ⟨vs ++ Array.replicate (fn.ntmps - vs.size) undef, []⟩ Γ.w0 := by
    refine ⟨ρ, hs.ext, by simp [hlen], ?_, hs.obj, hs.made, hs.bound, hs.own, hs.inj, hs.defers, hs.fr⟩
    intro i x v hx hv
    simp only at hx hv
    by_cases hi : i < ys.length
    · rw [List.getElem?_append_left hi] at hx
      rw [Array.getElem?_append_left (by omega)] at hv
      exact hs.tmp i x v hx hv
    · rw [List.getElem?_append_right (by omega)] at hx
      have hm := List.mem_of_getElem? hx
      rw [(List.mem_replicate.1 hm).2]
      exact .any
  subst hn
  rw [tl_start _ _ hl] at h0
  rw [List.length_map] at hm
  have hw := h Γ hm.1
  simp only [S, ← ol_enum] at hw
  refine wp_mono (hw _ _ h0) ?_
  rintro e a' w' ⟨s', hq, hs'⟩
  cases e with
  | panic ch =>
    have hd : Γ.ds = [] := (hs.defers.eq hm.2).symm
    have e1 : (aos.map fun _ => (none : Option AObj)) = List.replicate aos.length none := by
      rw [List.map_const']
    obtain ⟨ρ', hs''⟩ := hs'
    refine ⟨(hs''.defers.eq hm.2).trans hd, ?_⟩
    simp only [bodyX] at hq
    exact ⟨by rw [hq], by rw [e1]; exact SR.dead ⟨ρ', hs''⟩ hd hm.1⟩
  | _ => exact hq.elim
def kill : List Nat → List (Nat × Option AObj) → List (Nat × Option AObj)
  | [], os => os
  | i :: is, os => kill is ((i, none) :: os)
end
end Go.Lg

namespace Go.Lg
open Go.RowKit
set_option linter.unusedVariables false
inductive Res where
  | ok (X : AV) (os : List (Option AObj))
  | die (v : Value)
def FnP (P : Program) (g : FuncId) (ys : List AV) (os : List AObj) : Res → Prop
  | .ok X os' => FnO P g ys os X os'
  | .die v => FnX P g ys os v
def bodyP (P : Program) (rs : List ResultVar) (m : Nat) (r : Res) : Exit → St → Prop
  | .normal, s | .ret, s => ∃ X os', r = .ok X os' ∧ RetO P rs m X os' s
  | .panic ch, _ => ∃ v, r = .die v ∧ ch = [{ v, recovered := false }]
  | _, _ => False
def Res.fine (m : Nat) : Res → Prop
  | .ok X os' => m ≤ os'.length ∧ X.bd os'.length = true
  | .die _ => True
section
variable {P : Program} {Γ : Cx} {n M : Nat} {l : List (Nat × AV)} {os : List (Nat × Option AObj)} {x X : AV} {d t : Tmp} {ty : TypeId} {pos : String} {af : Array Edge} {ops : Array Oper} {rest : List Oper} {K : St → Prop} {g : FuncId} {first cap xa ys : List AV} {f : Operand} {args : Array Operand} {tys : Array TypeId} {Q : Exit → St → Prop} {s : St} {next : St → Prop}
theorem FnP.intro {fn : Func} {c : Code} {aos : List AObj} {rs : List ResultVar} {r : Res} (hr : r.fine aos.length) (he : enterable P g = true) (hf : P.funcs[g]? = some fn) (hb : fn.body = some c) (hrs : fn.results = rs.toArray) (hn : fn.ntmps = n) (hl : ys.length ≤ n)
    (h : ∀ Γ : Cx, Γ.m = aos.length → WP P Γ c (bodyP P rs aos.length r) (S n (enumA 0 ys) aos.length (enumO 0 aos))) : FnP P g ys aos r := by
  cases r with
  | ok X os' =>
    refine FnO.intro hr.1 hr.2 he hf hb hrs hn hl fun Γ hm => WP.mono (h Γ hm) ?_
    intro e s hq
    cases e with
    | normal => obtain ⟨X', o', e, h⟩ := hq; injection e with e1 e2; subst e1 e2; exact h
    | ret => obtain ⟨X', o', e, h⟩ := hq; injection e with e1 e2; subst e1 e2; exact h
    | panic ch => obtain ⟨v, e, _⟩ := hq; cases e
    | _ => exact hq
  | die v =>
    refine FnX.intro he hf hb hn hl fun Γ hm => WP.mono (h Γ hm) ?_
    intro e s hq
    cases e with
    | normal => obtain ⟨X', o', e, h⟩ := hq; cases e
    | ret => obtain ⟨X', o', e, h⟩ := hq; cases e
    | panic ch => obtain ⟨v', e, h⟩ := hq; injection e with e; subst e; exact h
    | _ => exact hq
def PInd (Q : Exit → St → Prop) : Prop := ∀ ch s t x, Q (.panic ch) s → Q (.panic ch) (s.put t x)
theorem pind_then (h : PInd Q) : PInd (thenA next Q) := fun ch s t x hq => h ch s t x hq
theorem pind_block {id : Nat} (h : PInd Q) : PInd (inBlockA id Q) := fun ch s t x hq => h ch s t x hq
theorem pind_q {R : St → Prop} : PInd (bodyQ R) := fun ch s t x hq => hq
def liftQ (Γ : Cx) (Q : Exit → St → Prop) : Exit → Act → World → Prop := fun e a' w' => ∃ s', Q e s' ∧ SR Γ s' a' w'
def WPT (P : Program) (Γ : Cx) (ops : Array Oper) (Q : Exit → St → Prop) (fuel : Nat) (listed : Array Bool) (s : St) : Prop :=
  ∀ a w, SR Γ s a w → wpAny P .any ops (liftQ Γ Q) fuel listed a w
def WPO (P : Program) (Γ : Cx) (ops : Array Oper) (Q : Exit → St → Prop) (i : Nat) (K : St → Prop) (s : St) : Prop :=
  ∀ a w, SR Γ s a w → wpOp P ops (liftQ Γ Q) i (fun a' w' => ∃ s', K s' ∧ SR Γ s' a' w') a w
def AllO (P : Program) (Γ : Cx) (ops : Array Oper) (Q : Exit → St → Prop) (fuel : Nat) (listed : Array Bool) (s : St) : List Nat → Prop
  | [] => True
  | i :: r => WPO P Γ ops Q i (WPT P Γ ops Q fuel (listed.setIfInBounds i true)) s ∧ AllO P Γ ops Q fuel listed s r
theorem wp_tree {id : Nat} {L : List Oper} (k : Nat) (hm : P.follows .mixedOrders = true) (hk : L.length = k) (h : WPT P Γ L.toArray Q k (Array.replicate k false) s) : WP P Γ (.region id L.toArray true) Q s := by
  intro a w hs
  have hsz : L.toArray.size = k := by simpa using hk
  refine wp_region_any hm ?_
  rw [hsz]
  exact h a _ (hs.drawn _)
variable {fuel i : Nat} {listed : Array Bool}
theorem wpt_all {rs : List Nat} (hr : Region.ready .any ops listed = rs) (hne : rs.isEmpty = false) (h : AllO P Γ ops Q fuel listed s rs) : WPT P Γ ops Q (fuel + 1) listed s := by
  intro a w hs
  refine wpAny_all hr (by cases rs <;> simp_all) fun i hi => ?_
  have key : ∀ rs, AllO P Γ ops Q fuel listed s rs → ∀ i, i ∈ rs → WPO P Γ ops Q i (WPT P Γ ops Q fuel (listed.setIfInBounds i true)) s := by
    intro rs
    induction rs with
    | nil => intro _ i hi; cases hi
    | cons j r ih =>
      intro h i hi
      rcases List.mem_cons.1 hi with rfl | hi
      · exact h.1
      · exact ih h.2 i hi
  exact wpOp_mono (fun a' w' ⟨s', h1, h2⟩ => h1 a' w' h2) (key rs h i hi a w hs)
theorem wpt_end (hr : Region.ready .any ops listed = []) (h : Q .normal s) : WPT P Γ ops Q fuel listed s := fun a w hs => wpAny_done hr ⟨s, h, hs⟩ fuel
theorem wpo_do {o : Oper} (ho : ops[i]? = some o) (hg : o.guard = none) (h : asemC P ops [o] s K) : WPO P Γ ops Q i K s := by
  intro a w hs
  unfold wpOp
  rw [ho]
  simp only
  rw [if_pos (by simp [Region.wanted, hg])]
  exact .inl (asemC_one hg hs h)
def Still (P : Program) (op : Op) : Prop := ∀ (ρ : Operand → Value) (dst : Option Tmp) (ty : TypeId) (pos : String) (af : Array Edge) (v : Value) (w w' w1 : World), (execOp ρ ⟨dst, op, ty, pos, af, none⟩).run P w = .ok (.value v) w1 → (execOp ρ ⟨dst, op, ty, pos, af, none⟩).run P w' = .ok (.value v) w'
theorem still_move {a : Operand} : Still P (.move a) := by
  intro ρ dst ty pos af v w w' w1 h
  simp only [execOp, Sem.run_pure] at h ⊢
  injection h with h1 h2
  rw [h1]
theorem wpt_take {op : Op} (i : Nat) (ho : ops[i]? = some ⟨some d, op, ty, pos, af, none⟩) (hst : Still P op) (hap : Ap P n l M os [] op x) (hs : Region.noSelect ops = true) (hf : Region.free .any ops listed i = true) (hr : (Region.ready .any ops listed).contains i = true) (hQ : PInd Q)
    (hk : WPT P Γ ops Q fuel (listed.setIfInBounds i true) (S n ((d, x) :: l) M os)) : WPT P Γ ops Q (fuel + 1) listed (S n l M os) := by
  intro a w hs'
  obtain ⟨ρ, hρ⟩ := hs'
  obtain ⟨v, hrun, hrv⟩ := pure_sound (P := P) hρ (o := ⟨some d, op, ty, pos, af, none⟩) (e := []) rfl hap
  refine wpAny_take (v := v) ho hs hf hr ?_ (.inl ⟨by simp [Region.wanted], fun w' => hst _ _ _ _ _ _ _ _ _ hrun⟩) ?_
  · rintro c a1 w1 ⟨s', hq, ρ', h'⟩
    by_cases hd : d < a1.tmps.size
    · have hv : a1.tmps[d]? = some a1.tmps[d] := Array.getElem?_eq_getElem hd
      refine ⟨s'.put (some d) .any, hQ _ _ _ _ hq, ρ', ?_⟩
      have h2 := h'.put (some d) (x := .any) (v := a1.tmps[d]) .any
      have e : (a1.put (some d) v).put (some d) a1.tmps[d] = a1 := by
        have e1 : (a1.put (some d) v).put (some d) a1.tmps[d] = a1.put (some d) a1.tmps[d] := by simp [Act.put]
        rw [e1]; exact act_same hv
      rw [e] at h2
      simpa [St.put] using h2
    · refine ⟨s', hq, ρ', ?_⟩
      have e : a1.put (some d) v = a1 := by
        cases a1 with | mk tm df => simp only [Act.put, Act.mk.injEq, and_true]; exact Array.setIfInBounds_eq_of_size_le (by simpa using hd)
      rwa [e] at h'
  · refine hk _ _ ⟨ρ, ?_⟩
    have h2 := hρ.put (some d) hrv
    rw [S_put] at h2
    simpa [S, ol_length] using h2
end
end Go.Lg

namespace Go.Lg
open Go.RowKit
set_option linter.unusedVariables false
section
variable {P : Program} {Γ : Cx} {A : Nat → Prop} {ρ : Nat → Option Nat} {s : St} {a : Act} {w : World}
end
section
variable {P : Program} {Γ : Cx} {n M : Nat} {l : List (Nat × AV)} {os : List (Nat × Option AObj)} {c : Code} {Q : Exit → St → Prop} {ops : Array Oper} {rest : List Oper}
theorem still_fieldAddr {a : Operand} {ty : TypeId} {f off sz : Nat} {ti : TI} [h : TIc P ty ti] (hf : ti.fields[f]? = some (off, sz)) (hz : Nat.beq sz 0 = false) : Still P (.fieldAddr ty a f) := by
  obtain ⟨fs, fd, i, h1, h2, h3, h4, h5⟩ := fields_spec h.h hf (Nat.ne_of_beq_eq_false hz)
  have hz' : ¬ sz = 0 := Nat.ne_of_beq_eq_false hz
  subst h5
  intro ρ dst ty' pos af v w w' w1 h
  have hs : ∀ x : Value, (∃ ad, x = .pointer (some ad)) ∨ (∀ w : World, (Instr.fieldAt ty x f).run P w = (stuck "an address expected (no nilCheck in front?)" : Sem Value).run P w) := by
    intro x
    cases x with
    | pointer o => cases o with
      | some ad => exact .inl ⟨ad, rfl⟩
      | none => exact .inr fun w => by simp [Instr.fieldAt, run_underlying h1, h2, Instr.sureAddr]
    | _ => exact .inr fun w => by simp [Instr.fieldAt, run_underlying h1, h2, Instr.sureAddr]
  rcases hs (ρ a) with ⟨ad, had⟩ | hst
  · simp [execOp, had, Instr.fieldAt, run_underlying h1, h2, Instr.sureAddr, fieldPlace, sizeOf, typeInfo, h4, hz'] at h ⊢
    exact h.1
  · simp only [execOp, Sem.run_bind, hst w] at h
    simp [stuck] at h
end
end Go.Lg

namespace Go.Lg
open Go.Proofs
set_option linter.unusedSimpArgs false
set_option linter.unusedVariables false
attribute [local irreducible] Ap Rq asemC WP RunD Ret Gq thenA inBlockA bodyQ noGotoA RqL RqP OpP
set_option maxHeartbeats 4000000
set_option maxRecDepth 20000
theorem eqT_nrule (a b c d e f a' b' c' d' e' f' : Int) : eqT Try.prog 65 [intA a, intA b, intA c, intA d, intA e, intA f] [intA a', intA b', intA c', intA d', intA e', intA f'] =
    some (decide (a = a') && (decide (b = b') && (decide (c = c') && (decide (d = d') && (decide (e = e') && (decide (f = f') && true)))))) := by
  kernel_rfl
theorem nrul_ext {r s : NRul} (h1 : r.kind = s.kind) (h2 : r.head = s.head) (h3 : r.a = s.a) (h4 : r.b = s.b) (h5 : r.price = s.price) (h6 : r.origin = s.origin) : r = s := by
  cases r; cases s; simp only at h1 h2 h3 h4 h5 h6; subst h1 h2 h3 h4 h5 h6; rfl
theorem eqT_nrul (r s : NRul) : eqT Try.prog 65 [intA r.kind, intA r.head, intA r.a, intA r.b, intA r.price, intA r.origin] [intA s.kind, intA s.head, intA s.a, intA s.b, intA s.price, intA s.origin] = some (decide (r = s)) := by
  rw [eqT_nrule]
  congr 1
  rw [Bool.eq_iff_iff]
  simp only [Bool.and_eq_true, decide_eq_true_eq, and_true]
  exact ⟨fun ⟨h1, h2, h3, h4, h5, h6⟩ => nrul_ext h1 h2 h3 h4 h5 h6, by rintro rfl; simp⟩
section
variable {n M : Nat} {l : List (Nat × AV)} {os : List (Nat × Option AObj)} {e : List (Bool × Nat)} {a b : Operand} {ty2 : TypeId} {r s : NRul}
theorem ap_neqN {e} (ha : Rq n l e a (nruleA r)) (hb : Rq n l e b (nruleA s)) : Ap Try.prog n l M os e (.binOp .neq 65 a b ty2) (boolA (!decide (r = s))) := ap_agg_neq (eqT_nrul r s) ha hb
end
theorem lens_nrm {n : Nrm} (h : (nrmA n).lens) : n.rules.length ≤ 9223372036854775807 := by simp [AV.lens, lensL, nrmA, nrulesA] at h; omega
theorem lens_nruls {l : List NRul} (h : (nrulesA l).lens) : l.length ≤ 9223372036854775807 := by simp [AV.lens, nrulesA] at h; omega
theorem equalN_fn (a b : List NRul) : Fn Try.prog 80 [nrulesA a, nrulesA b] (boolA (decide (a = b))) := by
  refine Fn.intro rfl (by kernel_rfl) Try.func80 rfl rfl Try.ntmps80 (by exact Nat.le_of_ble_eq_true rfl) ?_; intro Γ hm
  refine wp_lens 0 rfl fun h0 => wp_lens 1 rfl fun h1 => ?_
  have h0 := lens_nruls h0
  have h1 := lens_nruls h1
  (repeat' (first | apply jA | apply jF | apply jH | apply jI | apply jK | apply jM | apply jS | (refine wp_cond rfl (fun hc => ?_) (fun hc => ?_) <;> (try simp only [sB, ne_eq, reduceCtorEq] at hc) <;> (try (exfalso; omega))) | (refine WP.regionC ?_; (refine sassign rfl ?_); apply jW) | (refine WP.regionC (id := 1) ?_; (refine smove rfl ?_); (refine slenm rfl rfl ?_); (refine smove rfl ?_); (refine slenm rfl rfl ?_); (refine su (aneq rfl rfl) ?_); apply jW) | (refine WP.regionC (id := 3) ?_; (refine smove rfl ?_); (refine slenm rfl rfl ?_); (refine smove rfl ?_); apply jW) | refine ret_b rfl ?_))
  · have : a ≠ b := by rintro rfl; exact hc rfl
    simp [this]
  refine wp_loop (fun k => k ≤ a.length ∧ a.take k = b.take k) (fun k => a.length - k) (fun k => (S 26 [(0, nrulesA a), (1, nrulesA b), (12, intA (a.length : Nat)), (13, intA (k : Nat))] 0 [])) 0 ⟨[], ToR.S rfl (by repeat' (first | exact rt_nil | refine rt_e rfl rfl ?_ | refine rt_p rfl rfl (by first | (simp [AV.bd, bdL, bdL_append]; done) | fail) ?_)) (by repeat' (exact ro_nil)) rfl (by (rw [hm]; exact rfl)) rfl (by (simp [bdT, AV.bd, bdL, bdL_append]; done)) (by repeat' (exact True.intro)) (by (rw [hm]; exact Nat.le_of_ble_eq_true rfl))⟩ ⟨Nat.zero_le _, rfl⟩ ?_
  rintro k ⟨hk, hall⟩
  have hab : a.length = b.length := by omega
  (repeat' (first | apply jA | apply jF | apply jH | apply jI | apply jJ | apply jK | apply jL | apply jM | apply jN | apply jO | apply jP | apply jS | (refine wp_cond rfl (fun hc => ?_) (fun hc => ?_) <;> (try simp only [sB, ne_eq, reduceCtorEq] at hc) <;> (try (exfalso; omega))) | (refine WP.regionC (id := 4) ?_; (refine slss rfl rfl ?_); apply jW) | (refine WP.regionC (id := 5) ?_; (refine smove rfl ?_); (refine sassign rfl ?_); apply jW) | (refine wp_draw (id := 6) 9 mixed (by kernel_rfl) (by kernel_rfl) rfl ?_ <;> (refine rmove rfl ?_) <;> (refine rmove rfl ?_) <;> (refine rd_u rfl rfl (aidxn rfl rfl (by omega)) ?_) <;> (refine rd_u rfl rfl (aloadw rfl rfl) ?_) <;> (refine rmove rfl ?_) <;> (refine rmove rfl ?_) <;> (refine rd_u rfl rfl (aidxn rfl rfl (by omega)) ?_) <;> (refine rd_u rfl rfl (aloadw rfl rfl) ?_) <;> (refine rd_u rfl rfl (ap_neqN (rq_p rfl rfl) (rq_p rfl rfl)) ?_) <;> (refine rd_end (by kernel_rfl) ?_)) | (refine WP.regionC ?_; (refine sassign rfl ?_); apply jW) | (refine WP.regionC (id := 8) ?_; (refine sadd rfl rfl (by exact inr_i64_of (by omega)) ?_); (refine smove rfl ?_); apply jW) | refine ret_b rfl ?_))
  · have : a ≠ b := by rintro rfl; exact hc rfl
    simp [this]
  · exact ⟨k + 1, ⟨by omega, by omega, take_eq_succ (by omega) (by omega) hall hc⟩, ⟨[], ToR.S rfl (by repeat' (first | exact rt_nil | refine rt_e rfl rfl ?_ | refine rt_p rfl rfl (by first | (simp [AV.bd, bdL, bdL_append]; done) | fail) ?_)) (by repeat' (exact ro_nil)) rfl (by (rw [hm]; exact rfl)) rfl (by (simp [bdT, AV.bd, bdL, bdL_append]; done)) (by repeat' (exact True.intro)) (by (rw [hm]; exact Nat.le_of_ble_eq_true rfl))⟩⟩
  simp [eq_of_takes hab (by omega) hall]
theorem nrm_iff {a b : Nrm} : a = b ↔ (a.terms = b.terms ∧ a.nonterms = b.nonterms) ∧ a.start = b.start ∧ a.rules = b.rules := by
  cases a; cases b; simp only [Nrm.mk.injEq]; constructor
  · rintro ⟨h1, h2, h3, h4⟩; exact ⟨⟨h1, h2⟩, h3, h4⟩
  · rintro ⟨⟨h1, h2⟩, h3, h4⟩; exact ⟨h1, h2, h3, h4⟩
theorem bequal_fn (a b : Nrm) : Fn Try.prog 69 [nrmA a, nrmA b] (boolA (decide (a = b))) := by
  refine Fn.intro rfl (by kernel_rfl) Try.func69 rfl rfl Try.ntmps69 (by exact Nat.le_of_ble_eq_true rfl) ?_; intro Γ hm
  (repeat' (first | apply jA | apply jH | apply jK | apply jS | (refine WP.regionC (id := 0) ?_; (refine se_box rfl (by exact ⟨rfl, rfl⟩) ?_); (refine se_box rfl (by exact ⟨rfl, rfl⟩) ?_); (refine sassign rfl ?_); apply jW) | (refine WP.regionC (id := 1) ?_; (refine sfieldp rfl rfl rfl ?_); (refine sloadp rfl rfl rfl rfl ?_); (refine sfieldp rfl rfl rfl ?_); (refine sloadp rfl rfl rfl rfl ?_); (refine seql rfl rfl ?_); (refine smove rfl ?_); (refine sg (gq_vt rfl rfl) (fun he => ap_field_p (rq_p rfl rfl) rfl rfl) ?_); (refine sg (gq_vt rfl rfl) (fun he => ap_load_p (rq_c rfl rfl) rfl rfl rfl) ?_); (refine sg (gq_vt rfl rfl) (fun he => ap_field_p (rq_p rfl rfl) rfl rfl) ?_); (refine sg (gq_vt rfl rfl) (fun he => ap_load_p (rq_c rfl rfl) rfl rfl rfl) ?_); (refine sg (gq_vt rfl rfl) (fun he => ap_eql (rq_c rfl rfl) (rq_c rfl rfl)) ?_); (refine su (ap_and (rq_p rfl rfl) (rq_c rfl rfl)) ?_); (refine smove rfl ?_); (refine sg (gq_vt rfl rfl) (fun he => ap_field_p (rq_p rfl rfl) rfl rfl) ?_); (refine sg (gq_vt rfl rfl) (fun he => ap_load_p (rq_c rfl rfl) rfl rfl rfl) ?_); (refine sg (gq_vt rfl rfl) (fun he => ap_field_p (rq_p rfl rfl) rfl rfl) ?_); (refine sg (gq_vt rfl rfl) (fun he => ap_load_p (rq_c rfl rfl) rfl rfl rfl) ?_); (refine sg (gq_vt rfl rfl) (fun he => ap_eql (rq_c rfl rfl) (rq_c rfl rfl)) ?_); (refine su (ap_and (rq_p rfl rfl) (rq_c rfl rfl)) ?_); (refine smove rfl ?_); (refine sg (gq_vt rfl rfl) (fun he => ap_field_p (rq_p rfl rfl) rfl rfl) ?_); (refine sg (gq_vt rfl rfl) (fun he => ap_load_p (rq_c rfl rfl) rfl rfl rfl) ?_); (refine sg (gq_vt rfl rfl) (fun he => ap_field_p (rq_p rfl rfl) rfl rfl) ?_); (refine sg (gq_vt rfl rfl) (fun he => ap_load_p (rq_c rfl rfl) rfl rfl rfl) ?_); (refine sg_p (gq_vt rfl rfl) (fun he => ⟨(rq_p rfl rfl), (RqL.cons (rq_c rfl rfl) (RqL.cons (rq_c rfl rfl) (RqL.nil))), (by first | ((repeat' first | exact SubL.nil | refine SubL.cons ?_ ?_ | exact Sub.refl); done) | fail), (by first | (simp [bdL, bdL_append, AV.bd]; done) | fail), equalN_fn a.rules b.rules⟩) ?_); (refine su (ap_and (rq_p rfl rfl) (rq_c rfl rfl)) ?_); (refine sassign rfl ?_); apply jW) | refine ret_b rfl ?_))
  all_goals
    rw [Bool.eq_iff_iff]
    simp only [Bool.and_eq_true, decide_eq_true_eq, nrm_iff, and_assoc]
theorem requal24_fn (a b : Nrm) : Fn Try.prog 15 [nrmA a, nrmA b] (boolA (decide (a = b))) := by
  refine Fn.intro rfl (by kernel_rfl) Try.func15 rfl rfl Try.ntmps15 (by exact Nat.le_of_ble_eq_true rfl) ?_; intro Γ hm
  refine wp_lens 0 rfl fun h0 => wp_lens 1 rfl fun h1 => ?_
  have h0 := lens_nrm h0
  have h1 := lens_nrm h1
  (repeat' (first | apply jA | apply jF | apply jH | apply jI | apply jK | apply jM | apply jS | (refine wp_cond rfl (fun hc => ?_) (fun hc => ?_) <;> (try simp only [sB, ne_eq, reduceCtorEq] at hc) <;> (try (exfalso; omega))) | (refine WP.regionC (id := 0) ?_; (refine se_box rfl (by exact ⟨rfl, rfl⟩) ?_); (refine se_box rfl (by exact ⟨rfl, rfl⟩) ?_); (refine sassign rfl ?_); apply jW) | (refine WP.regionC (id := 1) ?_; (refine sfieldp rfl rfl rfl ?_); (refine sloadp rfl rfl rfl rfl ?_); (refine sfieldp rfl rfl rfl ?_); (refine sloadp rfl rfl rfl rfl ?_); (refine su (aneq rfl rfl) ?_); (refine smove rfl ?_); (refine sg (gq_vf rfl rfl) (fun he => ap_field_p (rq_p rfl rfl) rfl rfl) ?_); (refine sg (gq_vf rfl rfl) (fun he => ap_load_p (rq_c rfl rfl) rfl rfl rfl) ?_); (refine sg (gq_vf rfl rfl) (fun he => ap_field_p (rq_p rfl rfl) rfl rfl) ?_); (refine sg (gq_vf rfl rfl) (fun he => ap_load_p (rq_c rfl rfl) rfl rfl rfl) ?_); (refine sg (gq_vf rfl rfl) (fun he => ap_neq (rq_c rfl rfl) (rq_c rfl rfl)) ?_); (refine su (ap_or (rq_p rfl rfl) (rq_c rfl rfl)) ?_); (refine smove rfl ?_); (refine sg (gq_vf rfl rfl) (fun he => ap_field_p (rq_p rfl rfl) rfl rfl) ?_); (refine sg (gq_vf rfl rfl) (fun he => ap_load_p (rq_c rfl rfl) rfl rfl rfl) ?_); (refine sg (gq_vf rfl rfl) (fun he => ap_field_p (rq_p rfl rfl) rfl rfl) ?_); (refine sg (gq_vf rfl rfl) (fun he => ap_load_p (rq_c rfl rfl) rfl rfl rfl) ?_); (refine sg (gq_vf rfl rfl) (fun he => ap_neq (rq_c rfl rfl) (rq_c rfl rfl)) ?_); (refine su (ap_or (rq_p rfl rfl) (rq_c rfl rfl)) ?_); (refine smove rfl ?_); (refine sg (gq_vf rfl rfl) (fun he => ap_field_p (rq_p rfl rfl) rfl rfl) ?_); (refine sg (gq_vf rfl rfl) (fun he => ap_load_p (rq_c rfl rfl) rfl rfl rfl) ?_); (refine sg (gq_vf rfl rfl) (fun he => ap_len_m rfl (rq_c rfl rfl)) ?_); (refine sg (gq_vf rfl rfl) (fun he => ap_field_p (rq_p rfl rfl) rfl rfl) ?_); (refine sg (gq_vf rfl rfl) (fun he => ap_load_p (rq_c rfl rfl) rfl rfl rfl) ?_); (refine sg (gq_vf rfl rfl) (fun he => ap_len_m rfl (rq_c rfl rfl)) ?_); (refine sg (gq_vf rfl rfl) (fun he => ap_neq (rq_c rfl rfl) (rq_c rfl rfl)) ?_); (refine su (ap_or (rq_p rfl rfl) (rq_c rfl rfl)) ?_); apply jW) | (refine WP.regionC ?_; (refine sassign rfl ?_); apply jW) | refine ret_b rfl ?_))
  · rw [decide_eq_false]
    rintro rfl
    simp at hc
  have hc0 := hc
  refine wp_loop (fun k => k ≤ a.rules.length ∧ a.rules.take k = b.rules.take k) (fun k => a.rules.length - k) (fun k => (S 52 [(2, .ptr 0 4 0 0), (3, .ptr 1 4 0 0), (5, intA (k : Nat))] 2 [(0, some (.arr 4 [nrmA a])), (1, some (.arr 4 [nrmA b]))])) 0 ⟨[0, 1], ToR.S rfl (by repeat' (first | exact rt_nil | refine rt_t rfl rfl ?_ | refine rt_e rfl rfl ?_)) (by repeat' (first | exact ro_nil | refine ro_p rfl (by first | exact rfl | fail) (by first | (simp [bdL, bdL_append, AV.bd]; done) | fail) ?_)) rfl (by (rw [hm]; exact rfl)) rfl (by (simp [bdT, AV.bd, bdL, bdL_append]; done)) (by repeat' (first | exact True.intro | refine And.intro ?_ ?_ | (simp [bdOq, bdL, bdL_append, AV.bd]; done))) (by (rw [hm]; exact Nat.le_of_ble_eq_true rfl))⟩ ⟨Nat.zero_le _, rfl⟩ ?_
  rintro k ⟨hk, hall⟩
  have hab : a.rules.length = b.rules.length := by omega
  (repeat' (first | apply jA | apply jF | apply jH | apply jI | apply jJ | apply jK | apply jL | apply jM | apply jN | apply jO | apply jP | apply jS | (refine wp_cond rfl (fun hc => ?_) (fun hc => ?_) <;> (try simp only [sB, ne_eq, reduceCtorEq] at hc) <;> (try (exfalso; omega))) | (refine WP.regionC (id := 4) ?_; (refine smove rfl ?_); (refine sfieldp rfl rfl rfl ?_); (refine sloadp rfl rfl rfl rfl ?_); (refine slenm rfl rfl ?_); (refine slss rfl rfl ?_); apply jW) | (refine wp_draw (id := 6) 11 mixed (by kernel_rfl) (by kernel_rfl) rfl ?_ <;> (refine rfieldp rfl rfl rfl ?_) <;> (refine rloadp rfl rfl rfl rfl ?_) <;> (refine rmove rfl ?_) <;> (refine rd_u rfl rfl (aidxn rfl rfl (by omega)) ?_) <;> (refine rd_u rfl rfl (aloadw rfl rfl) ?_) <;> (refine rfieldp rfl rfl rfl ?_) <;> (refine rloadp rfl rfl rfl rfl ?_) <;> (refine rmove rfl ?_) <;> (refine rd_u rfl rfl (aidxn rfl rfl (by omega)) ?_) <;> (refine rd_u rfl rfl (aloadw rfl rfl) ?_) <;> (refine rd_u rfl rfl (ap_neqN (rq_p rfl rfl) (rq_p rfl rfl)) ?_) <;> (refine rd_end (by kernel_rfl) ?_)) | (refine WP.regionC ?_; (refine sassign rfl ?_); apply jW) | (refine WP.regionC (id := 5) ?_; (refine smove rfl ?_); (refine sadd rfl rfl (by exact inr_i64_of (by omega)) ?_); (refine sassign rfl ?_); apply jW) | refine ret_b rfl ?_))
  · rw [decide_eq_false]
    rintro rfl
    exact hc rfl
  · exact ⟨k + 1, ⟨by omega, by omega, take_eq_succ (by omega) (by omega) hall hc⟩, ⟨[0, 1], ToR.S rfl (by repeat' (first | exact rt_nil | refine rt_t rfl rfl ?_ | refine rt_e rfl rfl ?_)) (by repeat' (first | exact ro_nil | refine ro_p rfl (by first | exact rfl | fail) (by first | (simp [bdL, bdL_append, AV.bd]; done) | fail) ?_)) rfl (by (rw [hm]; exact rfl)) rfl (by (simp [bdT, AV.bd, bdL, bdL_append]; done)) (by repeat' (first | exact True.intro | refine And.intro ?_ ?_ | (simp [bdOq, bdL, bdL_append, AV.bd]; done))) (by (rw [hm]; exact Nat.le_of_ble_eq_true rfl))⟩⟩
  rw [decide_eq_true]
  exact nrm_iff.2 ⟨⟨by omega, by omega⟩, by omega, eq_of_takes hab (by omega) hall⟩
theorem indexFuncN_fn (l : List NRul) (g : FuncId) (cap : List AV) (p : NRul → Bool) (hcap : ∀ n, bdL n cap = true) (h : ∀ x, x ∈ l → Fn Try.prog g (nruleA x :: cap) (boolA (p x))) :
    Fn Try.prog 56 [nrulesA l, .clo (.func g) [] cap] (intA (indexP p l)) := by
  refine Fn.intro rfl (by kernel_rfl) Try.func56 rfl rfl Try.ntmps56 (by exact Nat.le_of_ble_eq_true rfl) ?_; intro Γ hm
  refine wp_lens 0 rfl fun h0 => ?_
  have hl := lens_nruls h0
  (repeat' (first | apply jA | apply jF | apply jH | (refine WP.regionC (id := 0) ?_; (refine sassign rfl ?_); apply jW) | (refine WP.regionC (id := 1) ?_; (refine smove rfl ?_); (refine slenm rfl rfl ?_); (refine smove rfl ?_); apply jW)))
  refine wp_loop (fun k => k ≤ l.length ∧ (l.take k).any p = false) (fun k => l.length - k) (fun k => (S 19 [(0, nrulesA l), (1, .clo (.func g) [] cap), (7, intA (l.length : Nat)), (8, intA (k : Nat))] 0 [])) 0 ⟨[], ToR.S rfl (by repeat' (first | exact rt_nil | refine rt_e rfl rfl ?_ | refine rt_p rfl rfl (by first | (simp [AV.bd, bdL, bdL_append]; done) | (simp [AV.bd, bdL, bdL_append, *]; done) | fail) ?_)) (by repeat' (exact ro_nil)) rfl (by (rw [hm]; exact rfl)) rfl (by simp [bdT, AV.bd, bdL, bdL_append, *]) (by repeat' (exact True.intro)) (by (rw [hm]; exact Nat.le_of_ble_eq_true rfl))⟩ ⟨Nat.zero_le _, rfl⟩ ?_
  rintro k ⟨hk, hall⟩
  (repeat' (first | apply jA | apply jF | apply jH | apply jI | apply jJ | apply jK | apply jL | apply jM | apply jN | apply jO | apply jP | apply jS | (refine wp_cond rfl (fun hc => ?_) (fun hc => ?_) <;> (try simp only [sB, ne_eq, reduceCtorEq] at hc) <;> (try (exfalso; omega))) | (refine WP.regionC (id := 2) ?_; (refine slss rfl rfl ?_); apply jW) | (refine WP.regionC ?_; (refine smove rfl ?_); (refine sassign rfl ?_); apply jW) | (refine WP.regionC (id := 4) ?_; (refine smove rfl ?_); (refine smove rfl ?_); (refine smove rfl ?_); (refine sidxn rfl rfl (by omega) ?_); (refine sloadw rfl rfl ?_); (refine sc_p rfl rfl (by first | ((repeat' first | refine SubL.cons ?_ ?_ | exact SubL.rfl | exact Sub.refl); done) | fail) (by first | (simp [bdL, bdL_append, AV.bd, *]; done) | fail) (h _ (nth_mem (by omega))) ?_); apply jW) | (refine WP.regionC (id := 6) ?_; (refine sadd rfl rfl (by exact inr_i64_of (by omega)) ?_); (refine smove rfl ?_); apply jW) | (refine WP.regionC (id := 7) ?_; (refine sassign rfl ?_); apply jW) | refine ret_i rfl ?_))
  · exact (indexP_at (by omega) hall hc).symm
  · exact ⟨k + 1, ⟨by omega, by omega, take_any_succ (by omega) hall hc⟩, ⟨[], ToR.S rfl (by repeat' (first | exact rt_nil | refine rt_e rfl rfl ?_ | refine rt_p rfl rfl (by first | (simp [AV.bd, bdL, bdL_append]; done) | (simp [AV.bd, bdL, bdL_append, *]; done) | fail) ?_)) (by repeat' (exact ro_nil)) rfl (by (rw [hm]; exact rfl)) rfl (by simp [bdT, AV.bd, bdL, bdL_append, *]) (by repeat' (exact True.intro)) (by (rw [hm]; exact Nat.le_of_ble_eq_true rfl))⟩⟩
  · exact (indexP_no (by omega) hall).symm
theorem containsFuncN_fn (l : List NRul) (g : FuncId) (cap : List AV) (p : NRul → Bool) (hcap : ∀ n, bdL n cap = true) (h : ∀ x, x ∈ l → Fn Try.prog g (nruleA x :: cap) (boolA (p x))) :
    Fn Try.prog 36 [nrulesA l, .clo (.func g) [] cap] (boolA (l.any p)) := by
  refine Fn.intro rfl (by kernel_rfl) Try.func36 rfl rfl Try.ntmps36 (by exact Nat.le_of_ble_eq_true rfl) ?_; intro Γ hm
  (repeat' (first | apply jA | apply jH | apply jK | apply jS | (refine WP.regionC (id := 0) ?_; (refine sassign rfl ?_); apply jW) | (refine WP.regionC (id := 1) ?_; (refine smove rfl ?_); (refine smove rfl ?_); (refine sc_p rfl rfl (by first | ((repeat' first | exact SubL.nil | refine SubL.cons ?_ ?_ | exact Sub.refl); done) | fail) (by first | (simp [bdL, bdL_append, AV.bd, *]; done) | fail) (indexFuncN_fn _ _ _ p hcap h) ?_); (refine su (ageq rfl rfl) ?_); (refine sassign rfl ?_); apply jW) | refine ret_b rfl ?_))
  exact indexP_any
theorem valid1_fn (n : Nrm) (x : Int) : Fn Try.prog 57 [intA x, .iptr (nrmA n).cells 0] (boolA (inN n x)) := by
  refine Fn.intro rfl (by kernel_rfl) Try.func57 rfl rfl Try.ntmps57 (by exact Nat.le_of_ble_eq_true rfl) ?_; intro Γ hm
  (repeat' (first | apply jA | apply jH | apply jK | apply jS | (refine WP.regionC (id := 0) ?_; (refine sassign rfl ?_); apply jW) | (refine WP.regionC (id := 1) ?_; (refine smove rfl ?_); (refine su (ageq rfl rfl) ?_); (refine smove rfl ?_); (refine sg (gq_vt rfl rfl) (fun he => ap_move (rq_p rfl rfl)) ?_); (refine sg (gq_vt rfl rfl) (fun he => ap_field_i (rq_p rfl rfl) rfl rfl) ?_); (refine sg (gq_vt rfl rfl) (fun he => ap_load_i (rq_c rfl rfl) rfl) ?_); (refine sg (gq_vt rfl rfl) (fun he => ap_lss (rq_c rfl rfl) (rq_c rfl rfl)) ?_); (refine su (ap_and (rq_p rfl rfl) (rq_c rfl rfl)) ?_); (refine sassign rfl ?_); apply jW) | exact ret_eq rfl rfl rfl))
theorem valid_fn (n : Nrm) (r : NRul) : Fn Try.prog 38 [nrmA n, nruleA r] (boolA (nruleOk n r)) := by
  refine Fn.intro rfl (by kernel_rfl) Try.func38 rfl rfl Try.ntmps38 (by exact Nat.le_of_ble_eq_true rfl) ?_; intro Γ hm
  (repeat' (first | apply jA | apply jF | apply jH | apply jI | apply jK | apply jM | apply jN | apply jO | apply jS | (refine wp_cond rfl (fun hc => ?_) (fun hc => ?_) <;> (try simp only [sB, ne_eq, reduceCtorEq] at hc) <;> (try (exfalso; omega))) | (refine WP.regionC (id := 0) ?_; (refine se_box rfl (by exact ⟨rfl, rfl⟩) ?_); (refine se_box rfl (by exact ⟨rfl, rfl⟩) ?_); (refine sassign rfl ?_); apply jW) | (refine WP.regionC (id := 1) ?_; (refine su (ap_clo (RqL.nil) (RqL.cons (rq_p rfl rfl) (RqL.nil))) ?_); (refine sassign rfl ?_); apply jW) | (refine WP.regionC (id := 2) ?_; (refine smove rfl ?_); (refine sfieldp rfl rfl rfl ?_); (refine sloadp rfl rfl rfl rfl ?_); (refine sc_b rfl rfl (by first | ((repeat' first | exact FzL.nil | refine FzL.cons ?_ ?_ | (exact Fz.reflp (by simp [AV.bd, bdL, bdL_append])) | refine Fz.ptrL rfl rfl ?_); done) | fail) (valid1_fn n _) rfl ?_); (refine su (anot rfl) ?_); (refine smove rfl ?_); (refine sg (gq_vf rfl rfl) (fun he => ap_field_p (rq_p rfl rfl) rfl rfl) ?_); (refine sg (gq_vf rfl rfl) (fun he => ap_load_p (rq_c rfl rfl) rfl rfl rfl) ?_); (refine sg (gq_vf rfl rfl) (fun he => ap_lss (rq_c rfl rfl) (rq_p rfl rfl)) ?_); (refine su (ap_or (rq_p rfl rfl) (rq_c rfl rfl)) ?_); (refine smove rfl ?_); (refine sg (gq_vf rfl rfl) (fun he => ap_field_p (rq_p rfl rfl) rfl rfl) ?_); (refine sg (gq_vf rfl rfl) (fun he => ap_load_p (rq_c rfl rfl) rfl rfl rfl) ?_); (refine sg (gq_vf rfl rfl) (fun he => ap_gtr (rq_c rfl rfl) (rq_p rfl rfl)) ?_); (refine su (ap_or (rq_p rfl rfl) (rq_c rfl rfl)) ?_); (refine smove rfl ?_); (refine sg (gq_vf rfl rfl) (fun he => ap_field_p (rq_p rfl rfl) rfl rfl) ?_); (refine sg (gq_vf rfl rfl) (fun he => ap_load_p (rq_c rfl rfl) rfl rfl rfl) ?_); (refine sg (gq_vf rfl rfl) (fun he => ap_lss (rq_c rfl rfl) (rq_p rfl rfl)) ?_); (refine su (ap_or (rq_p rfl rfl) (rq_c rfl rfl)) ?_); apply jW) | (refine WP.regionC ?_; (refine sassign rfl ?_); apply jW) | (refine WP.regionC (id := 4) ?_; (refine sfieldp rfl rfl rfl ?_); (refine sloadp rfl rfl rfl rfl ?_); apply jW) | (refine WP.regionC ?_; (refine seql rfl rfl ?_); (refine sassign rfl ?_); apply jW) | (refine WP.regionC (id := 6) ?_; (refine sfieldp rfl rfl rfl ?_); (refine sloadp rfl rfl rfl rfl ?_); (refine seql rfl rfl ?_); (refine smove rfl ?_); (refine sg (gq_vt rfl rfl) (fun he => ap_field_p (rq_p rfl rfl) rfl rfl) ?_); (refine sg (gq_vt rfl rfl) (fun he => ap_load_p (rq_c rfl rfl) rfl rfl rfl) ?_); (refine sg (gq_vt rfl rfl) (fun he => ap_eql (rq_c rfl rfl) (rq_p rfl rfl)) ?_); (refine su (ap_and (rq_p rfl rfl) (rq_c rfl rfl)) ?_); (refine sassign rfl ?_); apply jW) | (refine WP.regionC (id := 8) ?_; (refine sfieldp rfl rfl rfl ?_); (refine sloadp rfl rfl rfl rfl ?_); (refine su (ageq rfl rfl) ?_); (refine smove rfl ?_); (refine sg (gq_vt rfl rfl) (fun he => ap_field_p (rq_p rfl rfl) rfl rfl) ?_); (refine sg (gq_vt rfl rfl) (fun he => ap_load_p (rq_c rfl rfl) rfl rfl rfl) ?_); (refine sg (gq_vt rfl rfl) (fun he => ap_field_p (rq_p rfl rfl) rfl rfl) ?_); (refine sg (gq_vt rfl rfl) (fun he => ap_load_p (rq_c rfl rfl) rfl rfl rfl) ?_); (refine sg (gq_vt rfl rfl) (fun he => ap_lss (rq_c rfl rfl) (rq_c rfl rfl)) ?_); (refine su (ap_and (rq_p rfl rfl) (rq_c rfl rfl)) ?_); (refine smove rfl ?_); (refine sg (gq_vt rfl rfl) (fun he => ap_field_p (rq_p rfl rfl) rfl rfl) ?_); (refine sg (gq_vt rfl rfl) (fun he => ap_load_p (rq_c rfl rfl) rfl rfl rfl) ?_); (refine sg (gq_vt rfl rfl) (fun he => ap_eql (rq_c rfl rfl) (rq_p rfl rfl)) ?_); (refine su (ap_and (rq_p rfl rfl) (rq_c rfl rfl)) ?_); (refine sassign rfl ?_); apply jW) | (refine WP.regionC (id := 10) ?_; (refine smove rfl ?_); (refine sfieldp rfl rfl rfl ?_); (refine sloadp rfl rfl rfl rfl ?_); (refine sc_b rfl rfl (by first | ((repeat' first | exact FzL.nil | refine FzL.cons ?_ ?_ | (exact Fz.reflp (by simp [AV.bd, bdL, bdL_append])) | refine Fz.ptrL rfl rfl ?_); done) | fail) (valid1_fn n _) rfl ?_); (refine smove rfl ?_); (refine sg (gq_vt rfl rfl) (fun he => ap_field_p (rq_p rfl rfl) rfl rfl) ?_); (refine sg (gq_vt rfl rfl) (fun he => ap_load_p (rq_c rfl rfl) rfl rfl rfl) ?_); (refine sg (gq_vt rfl rfl) (fun he => ap_eql (rq_c rfl rfl) (rq_p rfl rfl)) ?_); (refine su (ap_and (rq_p rfl rfl) (rq_c rfl rfl)) ?_); (refine sassign rfl ?_); apply jW) | (refine WP.regionC (id := 12) ?_; (refine smove rfl ?_); (refine sfieldp rfl rfl rfl ?_); (refine sloadp rfl rfl rfl rfl ?_); (refine sc_b rfl rfl (by first | ((repeat' first | exact FzL.nil | refine FzL.cons ?_ ?_ | (exact Fz.reflp (by simp [AV.bd, bdL, bdL_append])) | refine Fz.ptrL rfl rfl ?_); done) | fail) (valid1_fn n _) rfl ?_); (refine smove rfl ?_); (refine sg (gq_vt rfl rfl) (fun he => ap_move (rq_p rfl rfl)) ?_); (refine sg (gq_vt rfl rfl) (fun he => ap_field_p (rq_p rfl rfl) rfl rfl) ?_); (refine sg (gq_vt rfl rfl) (fun he => ap_load_p (rq_c rfl rfl) rfl rfl rfl) ?_); (refine sg_b (gq_vt rfl rfl) (fun he => ⟨(rq_c rfl rfl), (RqL.cons (rq_c rfl rfl) (RqL.nil)), (by first | ((repeat' first | exact FzL.nil | refine FzL.cons ?_ ?_ | (exact Fz.reflp (by simp [AV.bd, bdL, bdL_append])) | refine Fz.ptrL rfl rfl ?_); done) | fail), valid1_fn n _, rfl⟩) ?_); (refine su (ap_and (rq_p rfl rfl) (rq_c rfl rfl)) ?_); (refine sassign rfl ?_); apply jW) | refine ret_b rfl ?_))
  all_goals unfold nruleOk kindOk
  all_goals grind
theorem bvalid1_fn (n : Nrm) (r : NRul) : Fn Try.prog 37 [nruleA r, .iptr (nrmA n).cells 0] (boolA (!nruleOk n r)) := by
  refine Fn.intro rfl (by kernel_rfl) Try.func37 rfl rfl Try.ntmps37 (by exact Nat.le_of_ble_eq_true rfl) ?_; intro Γ hm
  (repeat' (first | apply jA | apply jH | apply jK | apply jS | (refine WP.regionC (id := 0) ?_; (refine se_box rfl (by exact ⟨rfl, rfl⟩) ?_); (refine sassign rfl ?_); apply jW) | (refine WP.regionC (id := 1) ?_; (refine sloadw rfl rfl ?_); (refine sloadpw rfl rfl rfl rfl ?_); (refine sc_p rfl rfl (by first | ((repeat' first | exact SubL.nil | refine SubL.cons ?_ ?_ | exact Sub.refl); done) | fail) (by first | (simp [bdL, bdL_append, AV.bd]; done) | fail) (valid_fn n r) ?_); (refine su (anot rfl) ?_); (refine sassign rfl ?_); apply jW) | exact ret_eq rfl rfl rfl))
theorem bvalid_fn (n : Nrm) : Fn Try.prog 11 [nrmA n] (boolA (validN n)) := by
  refine Fn.intro rfl (by kernel_rfl) Try.func11 rfl rfl Try.ntmps11 (by exact Nat.le_of_ble_eq_true rfl) ?_; intro Γ hm
  refine wp_lens 0 rfl fun h0 => ?_
  have h0 := lens_nrm h0
  (repeat' (first | apply jA | apply jH | apply jI | apply jK | apply jM | apply jS | (refine wp_cond rfl (fun hc => ?_) (fun hc => ?_) <;> (try simp only [sB, ne_eq, reduceCtorEq] at hc) <;> (try (exfalso; omega))) | (refine WP.regionC (id := 0) ?_; (refine se_box rfl (by exact ⟨rfl, rfl⟩) ?_); (refine sassign rfl ?_); apply jW) | (refine WP.regionC (id := 1) ?_; (refine sfieldp rfl rfl rfl ?_); (refine sloadp rfl rfl rfl rfl ?_); (refine slss rfl rfl ?_); (refine smove rfl ?_); (refine sg (gq_vf rfl rfl) (fun he => ap_field_p (rq_p rfl rfl) rfl rfl) ?_); (refine sg (gq_vf rfl rfl) (fun he => ap_load_p (rq_c rfl rfl) rfl rfl rfl) ?_); (refine sg (gq_vf rfl rfl) (fun he => ap_gtr (rq_c rfl rfl) (rq_p rfl rfl)) ?_); (refine su (ap_or (rq_p rfl rfl) (rq_c rfl rfl)) ?_); (refine smove rfl ?_); (refine sg (gq_vf rfl rfl) (fun he => ap_field_p (rq_p rfl rfl) rfl rfl) ?_); (refine sg (gq_vf rfl rfl) (fun he => ap_load_p (rq_c rfl rfl) rfl rfl rfl) ?_); (refine sg (gq_vf rfl rfl) (fun he => ap_lss (rq_c rfl rfl) (rq_p rfl rfl)) ?_); (refine su (ap_or (rq_p rfl rfl) (rq_c rfl rfl)) ?_); (refine smove rfl ?_); (refine sg (gq_vf rfl rfl) (fun he => ap_field_p (rq_p rfl rfl) rfl rfl) ?_); (refine sg (gq_vf rfl rfl) (fun he => ap_load_p (rq_c rfl rfl) rfl rfl rfl) ?_); (refine sg (gq_vf rfl rfl) (fun he => ap_gtr (rq_c rfl rfl) (rq_p rfl rfl)) ?_); (refine su (ap_or (rq_p rfl rfl) (rq_c rfl rfl)) ?_); (refine smove rfl ?_); (refine sg (gq_vf rfl rfl) (fun he => ap_field_p (rq_p rfl rfl) rfl rfl) ?_); (refine sg (gq_vf rfl rfl) (fun he => ap_load_p (rq_c rfl rfl) rfl rfl rfl) ?_); (refine sg (gq_vf rfl rfl) (fun he => ap_lss (rq_c rfl rfl) (rq_p rfl rfl)) ?_); (refine su (ap_or (rq_p rfl rfl) (rq_c rfl rfl)) ?_); (refine smove rfl ?_); (refine sg (gq_vf rfl rfl) (fun he => ap_field_p (rq_p rfl rfl) rfl rfl) ?_); (refine sg (gq_vf rfl rfl) (fun he => ap_load_p (rq_c rfl rfl) rfl rfl rfl) ?_); (refine sg (gq_vf rfl rfl) (fun he => ap_field_p (rq_p rfl rfl) rfl rfl) ?_); (refine sg (gq_vf rfl rfl) (fun he => ap_load_p (rq_c rfl rfl) rfl rfl rfl) ?_); (refine sg (gq_vf rfl rfl) (fun he => ap_geq (rq_c rfl rfl) (rq_c rfl rfl)) ?_); (refine su (ap_or (rq_p rfl rfl) (rq_c rfl rfl)) ?_); (refine smove rfl ?_); (refine sg (gq_vf rfl rfl) (fun he => ap_field_p (rq_p rfl rfl) rfl rfl) ?_); (refine sg (gq_vf rfl rfl) (fun he => ap_load_p (rq_c rfl rfl) rfl rfl rfl) ?_); (refine sg (gq_vf rfl rfl) (fun he => ap_len_m rfl (rq_c rfl rfl)) ?_); (refine sg (gq_vf rfl rfl) (fun he => ap_gtr (rq_c rfl rfl) (rq_p rfl rfl)) ?_); (refine su (ap_or (rq_p rfl rfl) (rq_c rfl rfl)) ?_); apply jW) | (refine WP.regionC (id := 2) ?_; (refine sassign rfl ?_); apply jW) | (refine WP.regionC (id := 3) ?_; (refine sfieldp rfl rfl rfl ?_); (refine sloadp rfl rfl rfl rfl ?_); (refine su (ap_clo (RqL.nil) (RqL.cons (rq_p rfl rfl) (RqL.nil))) ?_); (refine sc_b rfl rfl (by first | ((repeat' first | exact FzL.nil | refine FzL.cons ?_ ?_ | (exact Fz.reflp (by simp [AV.bd, bdL, bdL_append])) | refine Fz.ptrL rfl rfl ?_ | refine Fz.cloL ?_ ?_); done) | fail) (containsFuncN_fn n.rules _ _ (fun r => !nruleOk n r) (fun n => by simp [bdL, AV.bd, AV.cells, nrmA]) (fun x _ => bvalid1_fn n x)) rfl ?_); (refine su (anot rfl) ?_); (refine sassign rfl ?_); apply jW) | refine ret_b rfl ?_))
  · unfold validN; grind
  · rw [List.not_any_eq_all_not]
    simp only [Bool.not_not]
    unfold validN
    have d1 : decide (n.rules.length ≤ 600) = true := decide_eq_true (by omega)
    simp [hc, d1]
theorem kids24_fn (r : NRul) : Fn Try.prog 45 [nruleA r] (intsA (kidsN r)) := by
  refine Fn.intro (by simp [AV.bd, bdL, bdL_append]) (by kernel_rfl) Try.func45 rfl rfl Try.ntmps45 (by exact Nat.le_of_ble_eq_true rfl) ?_; intro Γ hm
  (repeat' (first | apply jA | apply jF | apply jH | apply jI | apply jK | apply jM | apply jN | apply jO | apply jS | (refine wp_cond rfl (fun hc => ?_) (fun hc => ?_) <;> (try simp only [sB, ne_eq, reduceCtorEq] at hc) <;> (try (exfalso; omega))) | (refine WP.regionC (id := 0) ?_; (refine se_box rfl (by exact ⟨rfl, rfl⟩) ?_); (refine sassign rfl ?_); apply jW) | (refine WP.regionC (id := 1) ?_; (refine sfieldp rfl rfl rfl ?_); (refine sloadp rfl rfl rfl rfl ?_); apply jW) | (refine WP.regionC ?_; (refine seql rfl rfl ?_); (refine sassign rfl ?_); apply jW) | (refine WP.regionC (id := 3) ?_; (refine sfieldp rfl rfl rfl ?_); (refine sloadp rfl rfl rfl rfl ?_); (refine se_lit (OpP.cons rfl (OpP.nil)) rfl rfl rfl rfl rfl rfl ?_); (refine sassign rfl ?_); apply jW) | (refine WP.regionC (id := 5) ?_; (refine sfieldp rfl rfl rfl ?_); (refine sloadp rfl rfl rfl rfl ?_); (refine sfieldp rfl rfl rfl ?_); (refine sloadp rfl rfl rfl rfl ?_); (refine se_lit (OpP.cons rfl (OpP.cons rfl (OpP.nil))) rfl rfl rfl rfl rfl rfl ?_); (refine sassign rfl ?_); apply jW) | (refine WP.regionC (id := 6) ?_; (refine sassign rfl ?_); apply jW)))
  · rw [kidsN, if_pos hc]; exact ret_sl (f := intA) (L := [r.a]) rfl rfl rfl (fun _ => rfl) (fun _ => rfl) rfl
  · rename_i h3
    rw [kidsN, if_neg h3, if_pos hc]; exact ret_sl (f := intA) (L := [r.a, r.b]) rfl rfl rfl (fun _ => rfl) (fun _ => rfl) rfl
  · rename_i h3
    rw [kidsN, if_neg h3, if_neg hc]; exact ret_1 rfl Fz.nil
theorem rkids24_fn (r : NRul) : Fn Try.prog 44 [nruleA r] (intsA (kidsN r)) := by
  refine Fn.intro (by simp [AV.bd, bdL, bdL_append]) (by kernel_rfl) Try.func44 rfl rfl Try.ntmps44 (by exact Nat.le_of_ble_eq_true rfl) ?_; intro Γ hm
  (repeat' (first | apply jA | apply jF | apply jH | apply jI | apply jK | apply jM | apply jN | apply jO | apply jS | (refine wp_cond rfl (fun hc => ?_) (fun hc => ?_) <;> (try simp only [sB, ne_eq, reduceCtorEq] at hc) <;> (try (exfalso; omega))) | (refine WP.regionC (id := 0) ?_; (refine se_box rfl (by exact ⟨rfl, rfl⟩) ?_); (refine sassign rfl ?_); apply jW) | (refine WP.regionC (id := 1) ?_; (refine sfieldp rfl rfl rfl ?_); (refine sloadp rfl rfl rfl rfl ?_); apply jW) | (refine WP.regionC ?_; (refine seql rfl rfl ?_); (refine sassign rfl ?_); apply jW) | (refine WP.regionC (id := 3) ?_; (refine sfieldp rfl rfl rfl ?_); (refine sloadp rfl rfl rfl rfl ?_); (refine se_lit (OpP.cons rfl (OpP.nil)) rfl rfl rfl rfl rfl rfl ?_); (refine sassign rfl ?_); apply jW) | (refine WP.regionC (id := 5) ?_; (refine sfieldp rfl rfl rfl ?_); (refine sloadp rfl rfl rfl rfl ?_); (refine sfieldp rfl rfl rfl ?_); (refine sloadp rfl rfl rfl rfl ?_); (refine se_lit (OpP.cons rfl (OpP.cons rfl (OpP.nil))) rfl rfl rfl rfl rfl rfl ?_); (refine sassign rfl ?_); apply jW) | (refine WP.regionC (id := 6) ?_; (refine sassign rfl ?_); apply jW)))
  · rw [kidsN, if_pos hc]; exact ret_sl (f := intA) (L := [r.a]) rfl rfl rfl (fun _ => rfl) (fun _ => rfl) rfl
  · rename_i h3
    rw [kidsN, if_neg h3, if_pos hc]; exact ret_sl (f := intA) (L := [r.a, r.b]) rfl rfl rfl (fun _ => rfl) (fun _ => rfl) rfl
  · rename_i h3
    rw [kidsN, if_neg h3, if_neg hc]; exact ret_1 rfl Fz.nil
end Go.Lg

namespace Go.Lg
open Go.Proofs
noncomputable instance : DecidableEq Prs := fun _ _ => Classical.propDecidable _
set_option linter.unusedSimpArgs false
set_option linter.unusedVariables false
attribute [local irreducible] Ap Rq asemC WP RunD Ret Gq thenA inBlockA bodyQ noGotoA RqL RqP OpP
set_option maxHeartbeats 8000000
set_option maxRecDepth 20000
attribute [local simp] AV.cells
mutual
def sizeW : Prs → Int
  | .mk _ l => sizeWL l 1
def sizeWL : List Prs → Int → Int
  | [], n => n
  | p :: l, n => sizeWL l (IntKind.wrap .i64 (n + sizeW p))
end
theorem sizeW_eq (p : Prs) : sizeW p = sizeWL p.kids 1 := by cases p; rw [sizeW]; rfl
theorem sizeWL_snoc (p : Prs) : ∀ (l : List Prs) (n : Int), sizeWL (l ++ [p]) n = IntKind.wrap .i64 (sizeWL l n + sizeW p)
  | [], n => by simp only [List.nil_append, sizeWL]
  | q :: l, n => by simp only [List.cons_append, sizeWL]; exact sizeWL_snoc p l _
theorem size24_fn (p : Prs) : Fn Try.prog 17 [prsA p] (intA (sizeW p)) := by
  induction p using Prs.ind with
  | h p ih =>
    rw [sizeW_eq, prsA_kids]
    generalize p.kids = kids at *
    generalize p.rule = rule
    clear p
    refine Fn.intro rfl (by kernel_rfl) Try.func17 rfl rfl Try.ntmps17 (by exact Nat.le_of_ble_eq_true rfl) ?_; intro Γ hm
    refine wp_lens 0 rfl fun hl => ?_
    have hl : kids.length ≤ 9223372036854775807 := by have := hl; simp [AV.lens, lensL, prssA] at this; omega
    (repeat' (first | apply jA | apply jF | apply jH | (refine WP.regionC (id := 0) ?_; (refine se_box rfl (by exact ⟨rfl, rfl⟩) ?_); (refine sassign rfl ?_); apply jW) | (refine WP.regionC ?_; (refine sassign rfl ?_); apply jW)))
    refine wp_loop (fun (i : Nat) => i ≤ kids.length) (fun i => kids.length - i)
      (fun i => (S 21 [(1, .ptr 0 2 0 0), (3, intA (sizeWL (kids.take i) 1)), (4, intA (i : Nat))] 1 [(0, some (.arr 2 [.agg [intA rule, prssA kids]]))])) 0 ?_ (Nat.zero_le _) ?_
    · rw [show sizeWL (kids.take 0) 1 = 1 by simp [sizeWL]]
      exact ⟨[0], ToR.S rfl (by repeat' (first | exact rt_nil | refine rt_t rfl rfl ?_ | refine rt_e rfl rfl ?_)) (by repeat' (first | exact ro_nil | refine ro_p rfl (by first | exact rfl | fail) (by first | (simp [bdL, bdL_append, AV.bd]; done) | fail) ?_)) rfl (by (rw [hm]; exact rfl)) rfl (by (simp [bdT, AV.bd, bdL, bdL_append]; done)) (by repeat' (first | exact True.intro | refine And.intro ?_ ?_ | (simp [bdOq, bdL, bdL_append, AV.bd]; done))) (by (rw [hm]; exact Nat.le_of_ble_eq_true rfl))⟩
    intro i hi
    by_cases hlt : i < kids.length
    · have hx := ih _ (nth_mem hlt)
      (repeat' (first | apply jA | apply jF | apply jH | apply jI | apply jN | (refine wp_cond rfl (fun hc => ?_) (fun hc => ?_) <;> (try simp only [sB, ne_eq, reduceCtorEq] at hc) <;> (try (exfalso; omega))) | (refine WP.regionC (id := 3) ?_; (refine smove rfl ?_); (refine sfieldp rfl rfl rfl ?_); (refine sloadp rfl rfl rfl rfl ?_); (refine slenm rfl rfl ?_); (refine slss rfl rfl ?_); apply jW) | (refine WP.regionC (id := 5) ?_; (refine smove rfl ?_); (refine sfieldp rfl rfl rfl ?_); (refine sloadp rfl rfl rfl rfl ?_); (refine smove rfl ?_); (refine sidxn rfl rfl (by omega) ?_); (refine sloadw rfl rfl ?_); (refine sc_p rfl rfl (by first | ((repeat' first | exact SubL.nil | refine SubL.cons ?_ ?_ | exact Sub.refl); done) | fail) (by first | (simp [bdL, bdL_append, AV.bd]; done) | fail) (hx) ?_); (refine su (ap_addw (rq_p rfl rfl) (rq_p rfl rfl)) ?_); (refine sassign rfl ?_); apply jW) | (refine WP.regionC (id := 4) ?_; (refine smove rfl ?_); (refine sadd rfl rfl (by exact inr_i64_of (by omega)) ?_); (refine sassign rfl ?_); apply jW)))
      refine ⟨i + 1, ⟨by omega, by omega⟩, ?_⟩
      rw [take_succ_nth hlt, sizeWL_snoc]
      exact ⟨[0], ToR.S rfl (by repeat' (first | exact rt_nil | refine rt_t rfl rfl ?_ | refine rt_e rfl rfl ?_)) (by repeat' (first | exact ro_nil | refine ro_p rfl (by first | exact rfl | fail) (by first | (simp [bdL, bdL_append, AV.bd]; done) | fail) ?_)) rfl (by (rw [hm]; exact rfl)) rfl (by (simp [bdT, AV.bd, bdL, bdL_append]; done)) (by repeat' (first | exact True.intro | refine And.intro ?_ ?_ | (simp [bdOq, bdL, bdL_append, AV.bd]; done))) (by (rw [hm]; exact Nat.le_of_ble_eq_true rfl))⟩
    · have e1 : sizeWL kids 1 = sizeWL (kids.take i) 1 := by rw [List.take_of_length_le (by omega)]
      rw [e1]
      (repeat' (first | apply jA | apply jH | apply jJ | apply jK | apply jL | apply jP | apply jS | (refine wp_cond rfl (fun hc => ?_) (fun hc => ?_) <;> (try simp only [sB, ne_eq, reduceCtorEq] at hc) <;> (try (exfalso; omega))) | (refine WP.regionC (id := 3) ?_; (refine smove rfl ?_); (refine sfieldp rfl rfl rfl ?_); (refine sloadp rfl rfl rfl rfl ?_); (refine slenm rfl rfl ?_); (refine slss rfl rfl ?_); apply jW) | (refine WP.regionC (id := 6) ?_; (refine smove rfl ?_); (refine sassign rfl ?_); apply jW) | exact ret_eq rfl rfl rfl))
theorem okPL_no (n : Nrm) {xs : List Int} {l : List Prs} (hl : xs.length = l.length) {i : Nat} (hi : i < l.length) (h : okP n (nth xs i) (nth l i) = false) : okPL n xs l = false := by
  cases hc : okPL n xs l with
  | false => rfl
  | true => have := (okPL_iff n xs l hl).1 hc i hi; rw [h] at this; cases this
theorem validParse_fn (n : Nrm) (p : Prs) : ∀ head : Int, Fn Try.prog 19 [nrmA n, intA head, prsA p] (boolA (okP n head p)) := by
  induction p using Prs.ind with
  | h p ih =>
    intro head
    rw [okP_eq, prsA_kids]
    generalize p.kids = kids at *
    generalize p.rule = rule
    clear p
    unfold nruleAt
    refine Fn.intro rfl (by kernel_rfl) Try.func19 rfl rfl Try.ntmps19 (by exact Nat.le_of_ble_eq_true rfl) ?_; intro Γ hm
    refine wp_lens 0 rfl fun h0 => wp_lens 2 rfl fun hl => ?_
    have h0 := lens_nrm h0
    have hl : kids.length ≤ 9223372036854775807 := by have := hl; simp [AV.lens, lensL, prssA] at this; omega
    (repeat' (first | apply jA | apply jF | apply jH | apply jI | apply jK | apply jM | apply jS | (refine wp_cond rfl (fun hc => ?_) (fun hc => ?_) <;> (try simp only [sB, ne_eq, reduceCtorEq] at hc) <;> (try (exfalso; omega))) | (refine WP.regionC (id := 0) ?_; (refine se_box rfl (by exact ⟨rfl, rfl⟩) ?_); (refine se_box rfl (by exact ⟨rfl, rfl⟩) ?_); (refine sassign rfl ?_); apply jW) | (refine WP.regionC (id := 1) ?_; (refine sfieldp rfl rfl rfl ?_); (refine sloadp rfl rfl rfl rfl ?_); (refine slss rfl rfl ?_); (refine smove rfl ?_); (refine sg (gq_vf rfl rfl) (fun he => ap_field_p (rq_p rfl rfl) rfl rfl) ?_); (refine sg (gq_vf rfl rfl) (fun he => ap_load_p (rq_c rfl rfl) rfl rfl rfl) ?_); (refine sg (gq_vf rfl rfl) (fun he => ap_field_p (rq_p rfl rfl) rfl rfl) ?_); (refine sg (gq_vf rfl rfl) (fun he => ap_load_p (rq_c rfl rfl) rfl rfl rfl) ?_); (refine sg (gq_vf rfl rfl) (fun he => ap_len_m rfl (rq_c rfl rfl)) ?_); (refine sg (gq_vf rfl rfl) (fun he => ap_geq (rq_c rfl rfl) (rq_c rfl rfl)) ?_); (refine su (ap_or (rq_p rfl rfl) (rq_c rfl rfl)) ?_); (refine smove rfl ?_); (refine sg (gq_vf rfl rfl) (fun he => ap_field_p (rq_p rfl rfl) rfl rfl) ?_); (refine sg (gq_vf rfl rfl) (fun he => ap_load_p (rq_c rfl rfl) rfl rfl rfl) ?_); (refine sg (gq_vf rfl rfl) (fun he => ap_field_p (rq_p rfl rfl) rfl rfl) ?_); (refine sg (gq_vf rfl rfl) (fun he => ap_load_p (rq_c rfl rfl) rfl rfl rfl) ?_); (refine sg (gq_vf rfl rfl) (fun he => ap_idx_z (rq_c rfl rfl) (rq_c rfl rfl) (by (try simp only [sH, id, sB, ne_eq, reduceCtorEq] at he); omega)) ?_); (refine sg (gq_vf rfl rfl) (fun he => ap_field_i (rq_c rfl rfl) rfl rfl) ?_); (refine sg (gq_vf rfl rfl) (fun he => ap_load_i (rq_c rfl rfl) rfl) ?_); (refine sg (gq_vf rfl rfl) (fun he => ap_move (rq_p rfl rfl)) ?_); (refine sg (gq_vf rfl rfl) (fun he => ap_neq (rq_c rfl rfl) (rq_c rfl rfl)) ?_); (refine su (ap_or (rq_p rfl rfl) (rq_c rfl rfl)) ?_); apply jW) | (refine WP.regionC ?_; (refine sassign rfl ?_); apply jW) | (refine WP.regionC (id := 3) ?_; (refine sfieldp rfl rfl rfl ?_); (refine sloadp rfl rfl rfl rfl ?_); (refine sfieldp rfl rfl rfl ?_); (refine sloadp rfl rfl rfl rfl ?_); (refine su (aidxz rfl rfl (by omega)) ?_); (refine sloadw rfl rfl ?_); (refine sc_p rfl rfl (by first | ((repeat' first | exact SubL.nil | refine SubL.cons ?_ ?_ | exact Sub.refl); done) | fail) (by first | (simp [bdL, bdL_append, AV.bd]; done) | fail) (kids24_fn _) ?_); (refine sassign rfl ?_); apply jW) | (refine WP.regionC (id := 4) ?_; (refine smove rfl ?_); (refine slenm rfl rfl ?_); (refine sfieldp rfl rfl rfl ?_); (refine sloadp rfl rfl rfl rfl ?_); (refine slenm rfl rfl ?_); (refine su (aneq rfl rfl) ?_); apply jW) | (refine WP.regionC (id := 6) ?_; (refine sfieldp rfl rfl rfl ?_); (refine sloadp rfl rfl rfl rfl ?_); (refine slenm rfl rfl ?_); (refine smove rfl ?_); apply jW) | refine ret_b rfl ?_))
    · grind
    · grind
    have hrule := hc
    rename_i hru
    have d1 : decide (0 ≤ rule) = true := decide_eq_true hru.1.1
    have d2 : decide (rule < n.rules.length) = true := decide_eq_true hru.1.2
    have d3 : decide ((nth n.rules rule.toNat).head = head) = true := decide_eq_true hru.2
    have hkl : (kidsN (nth n.rules rule.toNat)).length = kids.length := by omega
    have d4 : decide ((kidsN (nth n.rules rule.toNat)).length = kids.length) = true := decide_eq_true hkl
    rw [d1, d2, d3, d4]
    simp only [Bool.true_and]
    generalize hxs : kidsN (nth n.rules rule.toNat) = xs at *
    refine wp_loop (fun (i : Nat) => i ≤ kids.length ∧ ∀ j, j < i → okP n (nth xs j) (nth kids j) = true) (fun i => kids.length - i)
      (fun i => (S 62 [(3, .ptr 0 4 0 0), (7, intsA xs), (46, prssA kids), (47, intA (kids.length : Nat)), (48, intA (i : Nat))] 1 [(0, some (.arr 4 [nrmA n]))])) 0 ⟨[0], ToR.S rfl (by repeat' (first | exact rt_nil | refine rt_t rfl rfl ?_ | refine rt_e rfl rfl ?_ | refine rt_p rfl rfl (by first | (simp [AV.bd, bdL, bdL_append]; done) | fail) ?_)) (by repeat' (first | exact ro_nil | refine ro_p rfl (by first | exact rfl | fail) (by first | (simp [bdL, bdL_append, AV.bd]; done) | fail) ?_)) rfl (by (rw [hm]; exact rfl)) rfl (by (simp [bdT, AV.bd, bdL, bdL_append]; done)) (by repeat' (first | exact True.intro | refine And.intro ?_ ?_ | (simp [bdOq, bdL, bdL_append, AV.bd]; done))) (by (rw [hm]; exact Nat.le_of_ble_eq_true rfl))⟩ ⟨Nat.zero_le _, fun j hj => by omega⟩ ?_
    rintro i ⟨hi, hall⟩
    by_cases hlt : i < kids.length
    · have hx := ih _ (nth_mem hlt) (nth xs i)
      (repeat' (first | apply jA | apply jF | apply jH | apply jI | apply jK | apply jM | apply jN | apply jO | apply jS | (refine wp_cond rfl (fun hc => ?_) (fun hc => ?_) <;> (try simp only [sB, ne_eq, reduceCtorEq] at hc) <;> (try (exfalso; omega))) | (refine WP.regionC (id := 7) ?_; (refine slss rfl rfl ?_); apply jW) | (refine WP.regionC (id := 8) ?_; (refine smove rfl ?_); (refine sidxn rfl rfl (by omega) ?_); (refine sloadw rfl rfl ?_); (refine se_alloc rfl ?_); (refine sassign rfl ?_); (refine se_store_b rfl rfl rfl rfl ?_); apply jW) | (refine wp_draw (id := 9) 8 mixed (by kernel_rfl) (by kernel_rfl) rfl ?_ <;> (refine rd_u rfl rfl (aloadpw rfl rfl rfl rfl) ?_) <;> (refine rmove rfl ?_) <;> (refine rmove rfl ?_) <;> (refine rd_u rfl rfl (aidxn rfl rfl (by omega)) ?_) <;> (refine rd_u rfl rfl (aloadw rfl rfl) ?_) <;> (refine rd_u rfl rfl (aloadpw rfl rfl rfl rfl) ?_) <;> (refine rd_call rfl rfl (by first | ((repeat' first | exact SubL.nil | refine SubL.cons ?_ ?_ | exact Sub.refl); done) | fail) (by first | (simp [bdL, bdL_append, AV.bd]; done) | fail) (hx) ?_) <;> (refine rd_u rfl rfl (anot rfl) ?_) <;> (refine rd_end (by kernel_rfl) ?_)) | (refine WP.regionC (id := 10) ?_; (refine sassign rfl ?_); apply jW) | (refine WP.regionC (id := 11) ?_; (refine sadd rfl rfl (by exact inr_i64_of (by omega)) ?_); (refine smove rfl ?_); apply jW) | refine ret_b rfl ?_))
      · rw [okPL_no n hkl hlt hc]
      · exact ⟨i + 1, ⟨by omega, by omega, fun j hj => by
          by_cases e : j = i
          · subst e; exact hc
          · exact hall j (by omega)⟩, ⟨[0], ToR.S rfl (by repeat' (first | exact rt_nil | refine rt_t rfl rfl ?_ | refine rt_e rfl rfl ?_ | refine rt_p rfl rfl (by first | (simp [AV.bd, bdL, bdL_append]; done) | fail) ?_)) (by repeat' (first | exact ro_nil | refine ro_p rfl (by first | exact rfl | fail) (by first | (simp [bdL, bdL_append, AV.bd]; done) | fail) ?_)) rfl (by (rw [hm]; exact rfl)) rfl (by (simp [bdT, AV.bd, bdL, bdL_append]; done)) (by repeat' (first | exact True.intro | refine And.intro ?_ ?_ | (simp [bdOq, bdL, bdL_append, AV.bd]; done))) (by (rw [hm]; exact Nat.le_of_ble_eq_true rfl))⟩⟩
    · have e1 : okPL n xs kids = true := (okPL_iff n xs kids hkl).2 fun j hj => hall j (by omega)
      rw [e1]
      (repeat' (first | apply jA | apply jH | apply jJ | apply jK | apply jL | apply jP | apply jS | (refine wp_cond rfl (fun hc => ?_) (fun hc => ?_) <;> (try simp only [sB, ne_eq, reduceCtorEq] at hc) <;> (try (exfalso; omega))) | (refine WP.regionC (id := 7) ?_; (refine slss rfl rfl ?_); apply jW) | (refine WP.regionC (id := 12) ?_; (refine sassign rfl ?_); apply jW) | exact ret_eq rfl rfl rfl))
theorem rvalidParse_fn (n : Nrm) (p : Prs) : ∀ head : Int, Fn Try.prog 18 [nrmA n, intA head, prsA p] (boolA (okP n head p)) := by
  induction p using Prs.ind with
  | h p ih =>
    intro head
    rw [okP_eq, prsA_kids]
    generalize p.kids = kids at *
    generalize p.rule = rule
    clear p
    unfold nruleAt
    refine Fn.intro rfl (by kernel_rfl) Try.func18 rfl rfl Try.ntmps18 (by exact Nat.le_of_ble_eq_true rfl) ?_; intro Γ hm
    refine wp_lens 0 rfl fun h0 => wp_lens 2 rfl fun hl => ?_
    have h0 := lens_nrm h0
    have hl : kids.length ≤ 9223372036854775807 := by have := hl; simp [AV.lens, lensL, prssA] at this; omega
    (repeat' (first | apply jA | apply jF | apply jH | apply jI | apply jK | apply jM | apply jS | (refine wp_cond rfl (fun hc => ?_) (fun hc => ?_) <;> (try simp only [sB, ne_eq, reduceCtorEq] at hc) <;> (try (exfalso; omega))) | (refine WP.regionC (id := 0) ?_; (refine se_box rfl (by exact ⟨rfl, rfl⟩) ?_); (refine se_box rfl (by exact ⟨rfl, rfl⟩) ?_); (refine sassign rfl ?_); apply jW) | (refine WP.regionC (id := 1) ?_; (refine sfieldp rfl rfl rfl ?_); (refine sloadp rfl rfl rfl rfl ?_); (refine slss rfl rfl ?_); (refine smove rfl ?_); (refine sg (gq_vf rfl rfl) (fun he => ap_field_p (rq_p rfl rfl) rfl rfl) ?_); (refine sg (gq_vf rfl rfl) (fun he => ap_load_p (rq_c rfl rfl) rfl rfl rfl) ?_); (refine sg (gq_vf rfl rfl) (fun he => ap_field_p (rq_p rfl rfl) rfl rfl) ?_); (refine sg (gq_vf rfl rfl) (fun he => ap_load_p (rq_c rfl rfl) rfl rfl rfl) ?_); (refine sg (gq_vf rfl rfl) (fun he => ap_len_m rfl (rq_c rfl rfl)) ?_); (refine sg (gq_vf rfl rfl) (fun he => ap_geq (rq_c rfl rfl) (rq_c rfl rfl)) ?_); (refine su (ap_or (rq_p rfl rfl) (rq_c rfl rfl)) ?_); (refine smove rfl ?_); (refine sg (gq_vf rfl rfl) (fun he => ap_field_p (rq_p rfl rfl) rfl rfl) ?_); (refine sg (gq_vf rfl rfl) (fun he => ap_load_p (rq_c rfl rfl) rfl rfl rfl) ?_); (refine sg (gq_vf rfl rfl) (fun he => ap_field_p (rq_p rfl rfl) rfl rfl) ?_); (refine sg (gq_vf rfl rfl) (fun he => ap_load_p (rq_c rfl rfl) rfl rfl rfl) ?_); (refine sg (gq_vf rfl rfl) (fun he => ap_idx_z (rq_c rfl rfl) (rq_c rfl rfl) (by (try simp only [sH, id, sB, ne_eq, reduceCtorEq] at he); omega)) ?_); (refine sg (gq_vf rfl rfl) (fun he => ap_field_i (rq_c rfl rfl) rfl rfl) ?_); (refine sg (gq_vf rfl rfl) (fun he => ap_load_i (rq_c rfl rfl) rfl) ?_); (refine sg (gq_vf rfl rfl) (fun he => ap_move (rq_p rfl rfl)) ?_); (refine sg (gq_vf rfl rfl) (fun he => ap_neq (rq_c rfl rfl) (rq_c rfl rfl)) ?_); (refine su (ap_or (rq_p rfl rfl) (rq_c rfl rfl)) ?_); apply jW) | (refine WP.regionC ?_; (refine sassign rfl ?_); apply jW) | (refine WP.regionC (id := 3) ?_; (refine sfieldp rfl rfl rfl ?_); (refine sloadp rfl rfl rfl rfl ?_); (refine sfieldp rfl rfl rfl ?_); (refine sloadp rfl rfl rfl rfl ?_); (refine su (aidxz rfl rfl (by omega)) ?_); (refine sloadw rfl rfl ?_); (refine sc_p rfl rfl (by first | ((repeat' first | exact SubL.nil | refine SubL.cons ?_ ?_ | exact Sub.refl); done) | fail) (by first | (simp [bdL, bdL_append, AV.bd]; done) | fail) (rkids24_fn _) ?_); (refine sassign rfl ?_); apply jW) | (refine WP.regionC (id := 4) ?_; (refine sfieldp rfl rfl rfl ?_); (refine sloadp rfl rfl rfl rfl ?_); (refine slenm rfl rfl ?_); (refine smove rfl ?_); (refine slenm rfl rfl ?_); (refine su (aneq rfl rfl) ?_); apply jW) | refine ret_b rfl ?_))
    · grind
    · grind
    have hrule := hc
    rename_i hru
    have d1 : decide (0 ≤ rule) = true := decide_eq_true hru.1.1
    have d2 : decide (rule < n.rules.length) = true := decide_eq_true hru.1.2
    have d3 : decide ((nth n.rules rule.toNat).head = head) = true := decide_eq_true hru.2
    have hkl : (kidsN (nth n.rules rule.toNat)).length = kids.length := by omega
    have d4 : decide ((kidsN (nth n.rules rule.toNat)).length = kids.length) = true := decide_eq_true hkl
    rw [d1, d2, d3, d4]
    simp only [Bool.true_and]
    generalize hxs : kidsN (nth n.rules rule.toNat) = xs at *
    refine wp_loop (fun (i : Nat) => i ≤ kids.length ∧ ∀ j, j < i → okP n (nth xs j) (nth kids j) = true) (fun i => kids.length - i)
      (fun i => (S 62 [(3, .ptr 0 4 0 0), (5, .ptr 1 2 0 0), (7, intsA xs), (8, intA (i : Nat))] 2 [(0, some (.arr 4 [nrmA n])), (1, some (.arr 2 [.agg [intA rule, prssA kids]]))])) 0 ⟨[0, 1], ToR.S rfl (by repeat' (first | exact rt_nil | refine rt_t rfl rfl ?_ | refine rt_e rfl rfl ?_ | refine rt_p rfl rfl (by first | (simp [AV.bd, bdL, bdL_append]; done) | fail) ?_)) (by repeat' (first | exact ro_nil | refine ro_p rfl (by first | exact rfl | fail) (by first | (simp [bdL, bdL_append, AV.bd]; done) | fail) ?_)) rfl (by (rw [hm]; exact rfl)) rfl (by (simp [bdT, AV.bd, bdL, bdL_append]; done)) (by repeat' (first | exact True.intro | refine And.intro ?_ ?_ | (simp [bdOq, bdL, bdL_append, AV.bd]; done))) (by (rw [hm]; exact Nat.le_of_ble_eq_true rfl))⟩ ⟨Nat.zero_le _, fun j hj => by omega⟩ ?_
    rintro i ⟨hi, hall⟩
    by_cases hlt : i < kids.length
    · have hx := ih _ (nth_mem hlt) (nth xs i)
      (repeat' (first | apply jA | apply jF | apply jH | apply jI | apply jK | apply jM | apply jN | apply jO | apply jS | (refine wp_cond rfl (fun hc => ?_) (fun hc => ?_) <;> (try simp only [sB, ne_eq, reduceCtorEq] at hc) <;> (try (exfalso; omega))) | (refine WP.regionC (id := 7) ?_; (refine smove rfl ?_); (refine smove rfl ?_); (refine slenm rfl rfl ?_); (refine slss rfl rfl ?_); apply jW) | (refine wp_draw (id := 9) 12 mixed (by kernel_rfl) (by kernel_rfl) rfl ?_ <;> (refine rd_u rfl rfl (aloadpw rfl rfl rfl rfl) ?_) <;> (refine rmove rfl ?_) <;> (refine rmove rfl ?_) <;> (refine rd_u rfl rfl (aidxn rfl rfl (by omega)) ?_) <;> (refine rd_u rfl rfl (aloadw rfl rfl) ?_) <;> (refine rfieldp rfl rfl rfl ?_) <;> (refine rloadp rfl rfl rfl rfl ?_) <;> (refine rmove rfl ?_) <;> (refine rd_u rfl rfl (aidxn rfl rfl (by omega)) ?_) <;> (refine rd_u rfl rfl (aloadw rfl rfl) ?_) <;> (refine rd_call rfl rfl (by first | ((repeat' first | exact SubL.nil | refine SubL.cons ?_ ?_ | exact Sub.refl); done) | fail) (by first | (simp [bdL, bdL_append, AV.bd]; done) | fail) (hx) ?_) <;> (refine rd_u rfl rfl (anot rfl) ?_) <;> (refine rd_end (by kernel_rfl) ?_)) | (refine WP.regionC (id := 10) ?_; (refine sassign rfl ?_); apply jW) | (refine WP.regionC (id := 8) ?_; (refine smove rfl ?_); (refine sadd rfl rfl (by exact inr_i64_of (by omega)) ?_); (refine sassign rfl ?_); apply jW) | refine ret_b rfl ?_))
      · rw [okPL_no n hkl hlt hc]
      · exact ⟨i + 1, ⟨by omega, by omega, fun j hj => by
          by_cases e : j = i
          · subst e; exact hc
          · exact hall j (by omega)⟩, ⟨[0, 1], ToR.S rfl (by repeat' (first | exact rt_nil | refine rt_t rfl rfl ?_ | refine rt_e rfl rfl ?_ | refine rt_p rfl rfl (by first | (simp [AV.bd, bdL, bdL_append]; done) | fail) ?_)) (by repeat' (first | exact ro_nil | refine ro_p rfl (by first | exact rfl | fail) (by first | (simp [bdL, bdL_append, AV.bd]; done) | fail) ?_)) rfl (by (rw [hm]; exact rfl)) rfl (by (simp [bdT, AV.bd, bdL, bdL_append]; done)) (by repeat' (first | exact True.intro | refine And.intro ?_ ?_ | (simp [bdOq, bdL, bdL_append, AV.bd]; done))) (by (rw [hm]; exact Nat.le_of_ble_eq_true rfl))⟩⟩
    · have e1 : okPL n xs kids = true := (okPL_iff n xs kids hkl).2 fun j hj => hall j (by omega)
      rw [e1]
      (repeat' (first | apply jA | apply jH | apply jJ | apply jK | apply jL | apply jP | apply jS | (refine wp_cond rfl (fun hc => ?_) (fun hc => ?_) <;> (try simp only [sB, ne_eq, reduceCtorEq] at hc) <;> (try (exfalso; omega))) | (refine WP.regionC (id := 7) ?_; (refine smove rfl ?_); (refine smove rfl ?_); (refine slenm rfl rfl ?_); (refine slss rfl rfl ?_); apply jW) | (refine WP.regionC (id := 11) ?_; (refine sassign rfl ?_); apply jW) | exact ret_eq rfl rfl rfl))
theorem prs_iff {a b : Prs} : a = b ↔ a.rule = b.rule ∧ a.kids = b.kids := ⟨by rintro rfl; exact ⟨rfl, rfl⟩, fun h => Prs.ext' h.1 h.2⟩
theorem equalParse_fn (a : Prs) : ∀ b : Prs, Fn Try.prog 31 [prsA a, prsA b] (boolA (decide (a = b))) := by
  induction a using Prs.ind with
  | h a ih =>
    intro b
    have e1 : decide (a = b) = (decide (a.rule = b.rule) && decide (a.kids = b.kids)) := by
      rw [Bool.eq_iff_iff]; simp only [Bool.and_eq_true, decide_eq_true_eq]; exact prs_iff
    rw [e1, prsA_kids, prsA_kids]
    refine Fn.intro rfl (by kernel_rfl) Try.func31 rfl rfl Try.ntmps31 (by exact Nat.le_of_ble_eq_true rfl) ?_; intro Γ hm
    refine wp_lens 0 rfl fun hl => ?_
    have hl : a.kids.length ≤ 9223372036854775807 := by have := hl; simp [AV.lens, lensL, prssA] at this; omega
    (repeat' (first | apply jA | apply jF | apply jH | apply jI | apply jK | apply jM | apply jS | (refine wp_cond rfl (fun hc => ?_) (fun hc => ?_) <;> (try simp only [sB, ne_eq, reduceCtorEq] at hc) <;> (try (exfalso; omega))) | (refine WP.regionC (id := 0) ?_; (refine se_box rfl (by exact ⟨rfl, rfl⟩) ?_); (refine se_box rfl (by exact ⟨rfl, rfl⟩) ?_); (refine sassign rfl ?_); apply jW) | (refine WP.regionC (id := 1) ?_; (refine sfieldp rfl rfl rfl ?_); (refine sloadp rfl rfl rfl rfl ?_); (refine sfieldp rfl rfl rfl ?_); (refine sloadp rfl rfl rfl rfl ?_); (refine su (aneq rfl rfl) ?_); (refine smove rfl ?_); (refine sg (gq_vf rfl rfl) (fun he => ap_field_p (rq_p rfl rfl) rfl rfl) ?_); (refine sg (gq_vf rfl rfl) (fun he => ap_load_p (rq_c rfl rfl) rfl rfl rfl) ?_); (refine sg (gq_vf rfl rfl) (fun he => ap_len_m rfl (rq_c rfl rfl)) ?_); (refine sg (gq_vf rfl rfl) (fun he => ap_field_p (rq_p rfl rfl) rfl rfl) ?_); (refine sg (gq_vf rfl rfl) (fun he => ap_load_p (rq_c rfl rfl) rfl rfl rfl) ?_); (refine sg (gq_vf rfl rfl) (fun he => ap_len_m rfl (rq_c rfl rfl)) ?_); (refine sg (gq_vf rfl rfl) (fun he => ap_neq (rq_c rfl rfl) (rq_c rfl rfl)) ?_); (refine su (ap_or (rq_p rfl rfl) (rq_c rfl rfl)) ?_); apply jW) | (refine WP.regionC ?_; (refine sassign rfl ?_); apply jW) | refine ret_b rfl ?_))
    · rw [← e1, decide_eq_false]
      rintro rfl
      simp at hc
    have hc0 := hc
    refine wp_loop (fun (i : Nat) => i ≤ a.kids.length ∧ a.kids.take i = b.kids.take i) (fun i => a.kids.length - i)
      (fun i => (S 39 [(2, .ptr 0 2 0 0), (3, .ptr 1 2 0 0), (5, intA (i : Nat))] 2 [(0, some (.arr 2 [.agg [intA a.rule, prssA a.kids]])), (1, some (.arr 2 [.agg [intA b.rule, prssA b.kids]]))])) 0 ⟨[0, 1], ToR.S rfl (by repeat' (first | exact rt_nil | refine rt_t rfl rfl ?_ | refine rt_e rfl rfl ?_)) (by repeat' (first | exact ro_nil | refine ro_p rfl (by first | exact rfl | fail) (by first | (simp [bdL, bdL_append, AV.bd]; done) | fail) ?_)) rfl (by (rw [hm]; exact rfl)) rfl (by (simp [bdT, AV.bd, bdL, bdL_append]; done)) (by repeat' (first | exact True.intro | refine And.intro ?_ ?_ | (simp [bdOq, bdL, bdL_append, AV.bd]; done))) (by (rw [hm]; exact Nat.le_of_ble_eq_true rfl))⟩ ⟨Nat.zero_le _, rfl⟩ ?_
    rintro i ⟨hi, hall⟩
    have hab : a.kids.length = b.kids.length := by omega
    by_cases hlt : i < a.kids.length
    · have hx := ih _ (nth_mem hlt) (nth b.kids i)
      (repeat' (first | apply jA | apply jF | apply jH | apply jI | apply jK | apply jM | apply jN | apply jO | apply jS | (refine wp_cond rfl (fun hc => ?_) (fun hc => ?_) <;> (try simp only [sB, ne_eq, reduceCtorEq] at hc) <;> (try (exfalso; omega))) | (refine WP.regionC (id := 4) ?_; (refine smove rfl ?_); (refine sfieldp rfl rfl rfl ?_); (refine sloadp rfl rfl rfl rfl ?_); (refine slenm rfl rfl ?_); (refine slss rfl rfl ?_); apply jW) | (refine wp_draw (id := 6) 12 mixed (by kernel_rfl) (by kernel_rfl) rfl ?_ <;> (refine rfieldp rfl rfl rfl ?_) <;> (refine rloadp rfl rfl rfl rfl ?_) <;> (refine rmove rfl ?_) <;> (refine rd_u rfl rfl (aidxn rfl rfl (by omega)) ?_) <;> (refine rd_u rfl rfl (aloadw rfl rfl) ?_) <;> (refine rfieldp rfl rfl rfl ?_) <;> (refine rloadp rfl rfl rfl rfl ?_) <;> (refine rmove rfl ?_) <;> (refine rd_u rfl rfl (aidxn rfl rfl (by omega)) ?_) <;> (refine rd_u rfl rfl (aloadw rfl rfl) ?_) <;> (refine rd_call rfl rfl (by first | ((repeat' first | exact SubL.nil | refine SubL.cons ?_ ?_ | exact Sub.refl); done) | fail) (by first | (simp [bdL, bdL_append, AV.bd]; done) | fail) (hx) ?_) <;> (refine rd_u rfl rfl (anot rfl) ?_) <;> (refine rd_end (by kernel_rfl) ?_)) | (refine WP.regionC (id := 7) ?_; (refine sassign rfl ?_); apply jW) | (refine WP.regionC (id := 5) ?_; (refine smove rfl ?_); (refine sadd rfl rfl (by exact inr_i64_of (by omega)) ?_); (refine sassign rfl ?_); apply jW) | refine ret_b rfl ?_))
      · have : a.kids ≠ b.kids := by intro h; rw [h] at hc; exact hc rfl
        simp [this]
      · exact ⟨i + 1, ⟨by omega, by omega, take_eq_succ (by omega) (by omega) hall hc⟩, ⟨[0, 1], ToR.S rfl (by repeat' (first | exact rt_nil | refine rt_t rfl rfl ?_ | refine rt_e rfl rfl ?_)) (by repeat' (first | exact ro_nil | refine ro_p rfl (by first | exact rfl | fail) (by first | (simp [bdL, bdL_append, AV.bd]; done) | fail) ?_)) rfl (by (rw [hm]; exact rfl)) rfl (by (simp [bdT, AV.bd, bdL, bdL_append]; done)) (by repeat' (first | exact True.intro | refine And.intro ?_ ?_ | (simp [bdOq, bdL, bdL_append, AV.bd]; done))) (by (rw [hm]; exact Nat.le_of_ble_eq_true rfl))⟩⟩
    (repeat' (first | apply jA | apply jH | apply jJ | apply jK | apply jL | apply jP | apply jS | (refine wp_cond rfl (fun hc => ?_) (fun hc => ?_) <;> (try simp only [sB, ne_eq, reduceCtorEq] at hc) <;> (try (exfalso; omega))) | (refine WP.regionC (id := 4) ?_; (refine smove rfl ?_); (refine sfieldp rfl rfl rfl ?_); (refine sloadp rfl rfl rfl rfl ?_); (refine slenm rfl rfl ?_); (refine slss rfl rfl ?_); apply jW) | (refine WP.regionC (id := 8) ?_; (refine sassign rfl ?_); apply jW) | refine ret_b rfl ?_))
    simp [eq_of_takes hab (by omega) hall, hc0.1]
end Go.Lg
