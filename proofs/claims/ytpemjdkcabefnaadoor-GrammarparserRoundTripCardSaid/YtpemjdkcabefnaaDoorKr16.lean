/-
  Part 16 of the proof of GrammarparserRoundTripCard: the logic over the model, the functions' contracts and the plain laws.
-/
import Derived.Test.YtpemjdkcabefnaaDoorKr15

set_option linter.unusedSimpArgs false
set_option linter.unusedVariables false
set_option linter.unusedSectionVars false

namespace Go.Lg
theorem numV_snoc (l : Tx) (c : UInt8) : numV (l ++ [c]) = min (10 * numV l + ((c.toNat : Int) - 48)) 1001 := by simp [numV, List.foldl_append]
theorem numV_dec (u : Nat) : u ≤ 1000 → numV (Lib.decDigits u) = u := by
  induction u using Nat.strongRecOn with
  | _ u ih =>
    intro hu
    have key : ∀ k, k < 10 → ((UInt8.ofNat (48 + k)).toNat : Int) - 48 = k := by decide
    rw [Lib.decDigits]
    split
    · rename_i h
      have := key u h
      have e : numV [UInt8.ofNat (48 + u)] = min (10 * 0 + (((UInt8.ofNat (48 + u)).toNat : Int) - 48)) 1001 := rfl
      rw [e, this]; omega
    · rw [numV_snoc, ih (u / 10) (by omega) (by omega), key (u % 10) (by omega)]
      omega
theorem isNum_of {t : Tx} (h : numOk t = true) : isNum t = true := by
  cases t with
  | nil => cases h
  | cons c r => simp only [numOk, Bool.and_eq_true] at h; exact h.1
def Sep (q : List Tx) : Prop := hd q = [124] ∨ hd q = [59]
theorem Sep.nI {q : List Tx} (h : Sep q) : nI q = true := by
  cases q with
  | nil => rfl
  | cons t q =>
    have h : t = [124] ∨ t = [59] := h
    rcases h with rfl | rfl
    · exact nI_124 q
    · simp [Lg.nI, isN, hd]; decide
theorem Sep.nS {q : List Tx} (h : Sep q) : nS q = true := by
  cases q with
  | nil => rfl
  | cons t q =>
    have h : t = [124] ∨ t = [59] := h
    rcases h with rfl | rfl
    · exact nS_124 q
    · simp [Lg.nS, hd]
theorem pPrice_read {p : Int} (h0 : 0 ≤ p) (h1 : p ≤ 1000) {q : List Tx} (hq : Sep q) : pPrice (prK p ++ q) = .ok p q := by
  unfold prK
  split
  · rename_i hp
    subst hp
    cases q with
    | nil => rfl
    | cons t q =>
      have h : t = [124] ∨ t = [59] := hq
      have hne : ¬ t = bl kw4 := by rcases h with rfl | rfl <;> decide
      simp only [List.nil_append, pPrice, if_neg hne]
  · obtain ⟨n, rfl⟩ := Int.eq_ofNat_of_zero_le h0
    have h2 := isNum_of (dec_num n)
    simp only [List.cons_append, List.nil_append, pPrice, if_true, Lib.itoa_nonneg, h2, numV_dec n (by omega)]
theorem prK_nI {p : Int} {q : List Tx} (hq : Sep q) : nI (prK p ++ q) = true ∧ nS (prK p ++ q) = true := by
  unfold prK
  split
  · exact ⟨hq.nI, hq.nS⟩
  · simp only [List.cons_append, nI, nS, isN, hd, List.headD_cons]; exact ⟨rfl, rfl⟩
theorem pAlt_read {a : GAl} (h : altOk a = true) {q : List Tx} (hq : Sep q) : pAlt (tkAl a ++ q) = .ok a q := by
  obtain ⟨⟨hp0, hp1⟩, hE⟩ := altOk_iff.1 h
  have hR := reads _ _ hE
  obtain ⟨h1, h2⟩ := prK_nI (p := a.price) hq
  have hb : ∃ xs, pItems (tkAl a ++ q) = .ok xs (prK a.price ++ q) ∧ seqOf xs = a.body := by
    rw [tkAl, List.append_assoc]
    by_cases h3 : a.body.kind = 3
    · simp only [h3, decide_true]
      exact ⟨_, Item.cons (hR.item true (.inl rfl) _ h2) (pItems_none h1), rfl⟩
    · simp only [h3, decide_false, encK]
      exact hR.items h3 _ h1 h2
  obtain ⟨xs, g1, g2⟩ := hb
  simp only [pAlt, g1, pPrice_read hp0 hp1 hq, g2]
theorem pAltsR_read : ∀ (l : List GAl), l ≠ [] → (∀ a, a ∈ l → altOk a = true) → ∀ q : List Tx, hd q = [59] → pAltsR (tkAs false l ++ q) = .ok l q
  | [], h, _, _, _ => absurd rfl h
  | [a], _, h, q, hq => by
    have e0 : tkAs false [a] ++ q = tkAl a ++ q := by simp [tkAs]
    rw [e0, pAltsR, pAlt_read (h a (by simp)) (.inr hq)]
    cases q with
    | nil => rfl
    | cons t q =>
      have hq : t = [59] := hq
      simp only; rw [if_neg (by rw [hq]; decide)]
  | a :: b :: l, _, h, q, hq => by
    have ih := pAltsR_read (b :: l) (by simp) (fun x hx => h x (by simp [hx])) q hq
    have e0 : tkAs false (a :: b :: l) ++ q = tkAl a ++ ([124] :: (tkAs false (b :: l) ++ q)) := by simp [tkAs]
    rw [e0, pAltsR, pAlt_read (h a (by simp)) (.inl rfl)]
    simp only [if_true]
    rw [dif_pos (by simp; omega), ih]
theorem pName_read {s : ByteArray} (h : gnOk s = true) (q : List Tx) : pName (bl s :: q) = .ok s q := by
  simp only [pName, (gn_word h).2, if_true, tx_bl]
theorem pNames_read : ∀ (l : List ByteArray), (∀ x, x ∈ l → gnOk x = true) → ∀ q : List Tx, isN q = false → pNames (l.map bl ++ q) = (l, q)
  | [], _, q, hq => by
    cases q with
    | nil => rfl
    | cons t q => simp only [isN] at hq; simp [pNames, hq]
  | x :: l, h, q, hq => by
    have ih := pNames_read l (fun y hy => h y (by simp [hy])) q hq
    simp only [List.map_cons, List.cons_append, pNames, (gn_word (h x (by simp))).2, if_true, ih, tx_bl]
theorem assoc_word {a : Int} (h1 : 1 ≤ a) (h3 : a ≤ 3) : assocOf (bl (wordT a)) = some a := by
  have : a = 1 ∨ a = 2 ∨ a = 3 := by omega
  rcases this with rfl | rfl | rfl <;> decide
theorem pLevels_read : ∀ (l : List GLe), (∀ x, x ∈ l → glevelOk x = true ∧ ∀ t, t ∈ x.tokens → gnOk t = true) → ∀ q : List Tx, (∀ t q', q = t :: q' → assocOf t = none) → pLevels ((l.map tkLv).flatten ++ q) = .ok l q
  | [], _, q, hq => by
    cases q with
    | nil => rw [List.map_nil, List.flatten_nil, List.nil_append, pLevels]
    | cons t q => rw [List.map_nil, List.flatten_nil, List.nil_append, pLevels, hq t q rfl]
  | x :: l, h, q, hq => by
    have ih := pLevels_read l (fun y hy => h y (by simp [hy])) q hq
    obtain ⟨h1, h2⟩ := h x (by simp)
    obtain ⟨⟨ha, hb⟩, hne⟩ := glevel_iff.1 h1
    obtain ⟨s, ts, hts⟩ : ∃ s ts, x.tokens = s :: ts := by
      cases hx : x.tokens with
      | nil => rw [hx] at hne; exact absurd rfl hne
      | cons s ts => exact ⟨s, ts, rfl⟩
    have e0 : ((x :: l).map tkLv).flatten ++ q = bl (wordT x.assoc) :: (bl s :: (ts.map bl ++ ([59] :: ((l.map tkLv).flatten ++ q)))) := by
      simp [tkLv, hts]
    rw [e0, pLevels, assoc_word ha hb]
    simp only
    rw [pName_read (h2 s (by simp [hts]))]
    simp only
    rw [pNames_read ts (fun t ht => h2 t (by simp [hts, ht])) _ (by simp [isN]; decide)]
    simp only [pTake, if_true]
    rw [dif_pos (by simp; omega), ih]
    simp only
    congr 2
    rw [← hts]
theorem pRule_read {r : GRu} (hn : gnOk r.name = true) (hne : r.alts ≠ []) (ha : ∀ a, a ∈ r.alts → altOk a = true) (q : List Tx) : pRule (tkRu r ++ q) = .ok r q := by
  have e0 : tkRu r ++ q = bl r.name :: ([61] :: (tkAs false r.alts ++ ([59] :: q))) := by simp [tkRu]
  rw [e0, pRule, pName_read hn]
  simp only [pTake, if_true]
  rw [pAltsR_read _ hne ha _ rfl]
  simp only [if_true]
theorem pRules_read : ∀ (l : List GRu), (∀ r, r ∈ l → gnOk r.name = true ∧ r.alts ≠ [] ∧ ∀ a, a ∈ r.alts → altOk a = true) → pRules (l.map tkRu).flatten = .ok l []
  | [], _ => by rw [List.map_nil, List.flatten_nil, pRules]
  | r :: l, h => by
    have ih := pRules_read l (fun y hy => h y (by simp [hy]))
    obtain ⟨h1, h2, h3⟩ := h r (by simp)
    have e1 := pRule_read h1 h2 h3 (l.map tkRu).flatten
    have e0 : ((r :: l).map tkRu).flatten = bl r.name :: ([61] :: (tkAs false r.alts ++ ([59] :: (l.map tkRu).flatten))) := by simp [tkRu]
    have e2 : tkRu r ++ (l.map tkRu).flatten = bl r.name :: ([61] :: (tkAs false r.alts ++ ([59] :: (l.map tkRu).flatten))) := by simp [tkRu]
    rw [e2] at e1
    rw [e0, pRules, e1]
    simp only
    rw [dif_pos (by simp; omega), ih]
theorem FVal.rname {f : GFi} (h : FVal f) : ∀ r, r ∈ f.rules → gnOk r.name = true := by
  intro r hr
  refine h.rn _ ?_
  rw [rnames_all]; exact List.mem_map.2 ⟨r, hr, rfl⟩
theorem FVal.alts {f : GFi} (h : FVal f) : ∀ r, r ∈ f.rules → r.alts ≠ [] := by
  intro r hr
  have := h.rule r hr
  simp only [gruleOk, Bool.and_eq_true, Bool.not_eq_true', decide_eq_false_iff_not] at this
  exact this.1
theorem FVal.gtok {f : GFi} (h : FVal f) : ∀ l, l ∈ f.levels → ∀ t, t ∈ l.tokens → gnOk t = true := by
  intro l hl t ht
  refine h.tk _ ?_
  simp only [Lg.toks, List.take_of_length_le (Nat.le_refl _), List.mem_flatten, List.mem_map]
  exact ⟨_, ⟨l, hl, rfl⟩, ht⟩
theorem lexT_rules : ∀ (l : List GRu), (∀ r, r ∈ l → gnOk r.name = true ∧ ∀ a, a ∈ r.alts → altOk a = true) → lexT (l.map ruT).flatten = (l.map tkRu).flatten
  | [], _ => lexT_nil
  | r :: l, h => by
    rw [List.map_cons, List.flatten_cons, lexT_ru (h r (by simp)).1 (h r (by simp)).2, lexT_rules l (fun y hy => h y (by simp [hy]))]
    rfl
theorem lexT_levels : ∀ (l : List GLe), (∀ x, x ∈ l → x.tokens ≠ [] ∧ ∀ t, t ∈ x.tokens → gnOk t = true) → ∀ r, lexT ((l.map lvT).flatten ++ r) = (l.map tkLv).flatten ++ lexT r
  | [], _, _ => rfl
  | x :: l, h, r => by
    rw [List.map_cons, List.flatten_cons, List.append_assoc, lexT_lv (h x (by simp)).1 (h x (by simp)).2, lexT_levels l (fun y hy => h y (by simp [hy])), List.map_cons, List.flatten_cons, List.append_assoc]
theorem FVal.lvne {f : GFi} (h : FVal f) : ∀ l, l ∈ f.levels → l.tokens ≠ [] := by
  intro l hl e
  have := (glevel_iff.1 (h.level l hl)).2
  rw [e] at this; exact this rfl
theorem lexT_file {f : GFi} (h : FVal f) : lexT (fmtF f) = tkF f := by
  have e0 : fmtF f = bl kw0 ++ (32 :: (bl f.start ++ (endT ++ ((f.levels.map lvT).flatten ++ (f.rules.map ruT).flatten)))) := by
    simp [fmtF, fmR, fmL, fm0, wStartT, bl, kw0]
  rw [e0, lexT_word (by decide) (nW_blank (c := 32) (by decide) _), lexT_blank (by decide), lexT_word (gn_word h.st).1 (nW_end _), lexT_end,
    lexT_levels _ (fun x hx => ⟨h.lvne x hx, h.gtok x hx⟩), lexT_rules _ (fun r hr => ⟨h.rname r hr, h.alt r hr⟩), tkF]
theorem pFile_read {f : GFi} (h : FVal f) : pFile (tkF f) = .ok f [] := by
  rw [tkF, pFile]
  simp only [pTake, if_true]
  rw [pName_read h.st]
  simp only [if_true]
  rw [pLevels_read _ (fun x hx => ⟨h.level x hx, h.gtok x hx⟩) _ (by
    intro t q' e
    cases hr : f.rules with
    | nil => rw [hr] at e; cases e
    | cons r l =>
      rw [hr] at e
      simp only [List.map_cons, List.flatten_cons, tkRu, List.cons_append, List.cons.injEq] at e
      rw [← e.1]
      have hn := (gn_word (h.rname r (by simp [hr]))).2
      have ne : ∀ k, k ∈ kwT → bl r.name ≠ k := by
        intro k hk e
        rw [e] at hn
        simp only [nmT, Bool.and_eq_true, Bool.not_eq_true', List.any_eq_false, decide_eq_true_eq] at hn
        exact hn.2 k hk rfl
      simp only [assocOf, if_neg (ne (bl kw1) (by decide)), if_neg (ne (bl kw2) (by decide)), if_neg (ne (bl kw3) (by decide))])]
  simp only
  rw [pRules_read _ (fun r hr => ⟨h.rname r hr, h.alts r hr, h.alt r hr⟩)]
end Go.Lg
