/-
  Part 19 of the proof of GrammarfileInjectiveCard: the logic over the model, the functions' contracts and the plain laws.
-/
import Derived.Test.YteipbjbnlleheaaDoorKj18

set_option linter.unusedSimpArgs false
set_option linter.unusedVariables false
set_option linter.unusedSectionVars false

namespace Go.Lg
theorem pPrim_nm {t : Tx} {r : List Tx} (h : nmT t = true) : pPrim (t :: r) = .ok (.mk 1 (tx t) []) r := by rw [pPrim, if_pos h]
theorem nm40 : nmT [40] = false := by decide
theorem pPrim_grp {r q : List Tx} {es : List GEx} (h : pAlts r = .ok es ([41] :: q)) : pPrim ([40] :: r) = .ok (altOf es) q := by
  rw [pPrim, if_neg (by simp [nm40]), if_pos rfl, h]
  simp
def nI (l : List Tx) : Bool := !(isN l || decide (hd l = [40]))
def nS (l : List Tx) : Bool := !(decide (hd l = [42]) || decide (hd l = [43]) || decide (hd l = [63]))
theorem sufT_none {x : GEx} {l : List Tx} (h : nS l = true) : sufT x l = (x, l) := by
  cases l with
  | nil => rfl
  | cons t r =>
    simp only [nS, hd, List.headD_cons, Bool.not_eq_true', Bool.or_eq_false_iff] at h
    rw [sufT, if_neg (of_decide_eq_false h.1.1), if_neg (of_decide_eq_false h.1.2), if_neg (of_decide_eq_false h.2)]
theorem pItems_none {l : List Tx} (h : nI l = true) : pItems l = .ok [] l := by
  simp only [nI, Bool.not_eq_true'] at h
  rw [pItems, if_neg (by simp [h])]
structure Item (l : List Tx) (x : GEx) (r : List Tx) : Prop where
  starts : (isN l || decide (hd l = [40])) = true
  prim : ∃ y q, pPrim l = .ok y q ∧ sufT y q = (x, r)
  less : r.length < l.length
theorem Item.cons {l r q : List Tx} {x : GEx} {xs : List GEx} (h : Item l x r) (hx : pItems r = .ok xs q) : pItems l = .ok (x :: xs) q := by
  obtain ⟨y, q', h1, h2⟩ := h.prim
  have h3 : (sufT y q').2 = r := by rw [h2]
  rw [pItems, if_pos h.starts, h1]
  simp only
  rw [dif_pos (by rw [h3]; exact h.less)]
  simp only [h2, hx]
def encK (t : List Tx) (b : Bool) : List Tx := if b then [40] :: (t ++ [[41]]) else t
def sepK (k : Int) : List Tx := if k = 3 then [[124]] else []
def tailK (k : Int) (n : ByteArray) : List Tx := if k = 1 then [bl n] else if k = 4 then [[63]] else if k = 5 then [[42]] else if k = 6 then [[43]] else []
mutual
def tkE : GEx → List Tx
  | .mk k n l => tkL k false l ++ tailK k n
def tkL (k : Int) (more : Bool) : List GEx → List Tx
  | [] => []
  | e :: l => ((if more then sepK k else []) ++ encK (tkE e) (reqP k e)) ++ tkL k true l
end
theorem tkE_eq (e : GEx) : tkE e = tkL e.kind false e.kids ++ tailK e.kind e.name := by cases e; rw [tkE]; rfl
theorem lexT_enc {t : Tx} {k : List Tx} (h : ∀ r : Tx, nW r = true → lexT (t ++ r) = k ++ lexT r) (b : Bool) {r : Tx} (hr : nW r = true) : lexT (encT t b ++ r) = encK k b ++ lexT r := by
  cases b with
  | false => exact h r hr
  | true =>
    simp only [encT, encK, if_true, List.append_assoc, List.cons_append, List.nil_append]
    rw [lexT_sym (by decide), h _ (nW_sym (c := 41) (by decide) (by decide) r), lexT_sym (by decide)]
theorem nW_sep {k : Int} (h : k = 2 ∨ k = 3) (r : Tx) : nW (sepT k ++ r) = true := by
  rcases h with rfl | rfl
  · exact nW_blank (c := 32) (by decide) _
  · exact nW_blank (c := 32) (by decide) _
theorem lexT_sep (k : Int) (r : Tx) : lexT (sepT k ++ r) = sepK k ++ lexT r := by
  unfold sepT sepK
  split
  · rename_i h; subst h
    rw [if_neg (by decide)]
    exact lexT_blank (c := 32) (by decide) r
  · split
    · simp only [List.cons_append, List.nil_append]
      rw [lexT_blank (c := 32) (by decide), lexT_sym (c := 124) (by decide), lexT_blank (c := 32) (by decide)]
    · rfl
theorem nW_kids {k : Int} (hk : k = 2 ∨ k = 3) (l : List GEx) {r : Tx} (hr : nW r = true) : nW (kidsT k true l ++ r) = true := by
  cases l with
  | nil => rw [kidsT]; exact hr
  | cons e l => rw [kidsT, if_pos rfl, List.append_assoc, List.append_assoc]; exact nW_sep hk _
theorem lexT_kids {k : Int} (hk : k = 2 ∨ k = 3) : ∀ (l : List GEx) (m : Bool), (∀ x, x ∈ l → ∀ r : Tx, nW r = true → lexT (exT x ++ r) = tkE x ++ lexT r) → ∀ r : Tx, nW r = true → lexT (kidsT k m l ++ r) = tkL k m l ++ lexT r
  | [], m, _, r, _ => by rw [kidsT, tkL]; rfl
  | e :: l, m, h, r, hr => by
    rw [kidsT, tkL]
    have ih := lexT_kids hk l true (fun x hx => h x (by simp [hx])) r hr
    have he := lexT_enc (h e (by simp)) (reqP k e) (nW_kids hk l hr)
    rw [List.append_assoc, List.append_assoc]
    cases m with
    | false => simp only [Bool.false_eq_true, if_false, List.nil_append]; rw [he, ih, List.append_assoc]
    | true => simp only [if_true]; rw [lexT_sep, he, ih]; simp only [List.append_assoc]
theorem lexT_ex (e : GEx) : ∀ d : Int, okE e d = true → ∀ r : Tx, nW r = true → lexT (exT e ++ r) = tkE e ++ lexT r := by
  induction e using GEx.ind with
  | h e ih =>
    intro d hd r hr
    obtain ⟨h1, h2⟩ := okE_iff hd
    rw [exT_eq, tkE_eq]
    have hkids : ∀ x, x ∈ e.kids → ∀ r : Tx, nW r = true → lexT (exT x ++ r) = tkE x ++ lexT r := fun x hx => ih x hx _ (h2 x hx)
    by_cases hk : e.kind = 2 ∨ e.kind = 3
    · have t1 : tailT e.kind e.name = [] := by rcases hk with h | h <;> simp [tailT, h]
      have t2 : tailK e.kind e.name = [] := by rcases hk with h | h <;> simp [tailK, h]
      rw [t1, t2, List.append_nil, List.append_nil]
      exact lexT_kids hk _ _ hkids r hr
    · by_cases hk1 : e.kind = 1
      · rw [hk1] at h1
        simp only [okK, decide_true, Bool.true_and, Bool.not_true, Bool.false_and, Bool.or_false, Bool.and_eq_true, decide_eq_true_eq] at h1
        have h0 : e.kids = [] := List.eq_nil_of_length_eq_zero h1.2
        rw [h0, hk1, kidsT, tkL]
        simp only [tailT, tailK, if_true, List.nil_append]
        exact lexT_word (gn_word h1.1).1 hr
      · simp only [okK, hk1, decide_false, Bool.false_and, Bool.not_false, Bool.true_and, Bool.false_or, Bool.and_eq_true, Bool.or_eq_true, decide_eq_true_eq, Bool.not_eq_true', decide_eq_false_iff_not] at h1
        have h3 : e.kids.length = 1 ∧ (e.kind = 4 ∨ e.kind = 5 ∨ e.kind = 6) := by omega
        obtain ⟨x, hx⟩ := List.length_eq_one_iff.1 h3.1
        rw [hx] at hkids ⊢
        rw [kidsT, kidsT, tkL, tkL]
        simp only [Bool.false_eq_true, if_false, List.nil_append, List.append_nil, List.append_assoc]
        have hs : ∀ c : UInt8, isS c = true → c ≠ 95 → lexT (encT (exT x) (reqP e.kind x) ++ ([c] ++ r)) = encK (tkE x) (reqP e.kind x) ++ ([[c]] ++ lexT r) := fun c h1 h2 => by
          rw [show ([c] ++ r : Tx) = c :: r from rfl, lexT_enc (hkids x (by simp)) _ (nW_sym h1 h2 r), lexT_sym h1]; rfl
        rcases h3.2 with hk | hk | hk
        · rw [show tailT e.kind e.name = [63] by simp [tailT, hk], show tailK e.kind e.name = [[63]] by simp [tailK, hk]]; exact hs 63 (by decide) (by decide)
        · rw [show tailT e.kind e.name = [42] by simp [tailT, hk], show tailK e.kind e.name = [[42]] by simp [tailK, hk]]; exact hs 42 (by decide) (by decide)
        · rw [show tailT e.kind e.name = [43] by simp [tailT, hk], show tailK e.kind e.name = [[43]] by simp [tailK, hk]]; exact hs 43 (by decide) (by decide)
theorem nI_41 (r : List Tx) : nI ([41] :: r) = true := by simp [nI, isN, hd]; decide
theorem nI_124 (r : List Tx) : nI ([124] :: r) = true := by simp [nI, isN, hd]; decide
theorem nS_41 (r : List Tx) : nS ([41] :: r) = true := by simp [nS, hd]
theorem nS_124 (r : List Tx) : nS ([124] :: r) = true := by simp [nS, hd]
theorem isN_nS {l : List Tx} (h : (isN l || decide (hd l = [40])) = true) : nS l = true := by
  cases l with
  | nil => rfl
  | cons t r =>
    simp only [nS, hd, List.headD_cons, isN, Bool.or_eq_true, Bool.not_eq_true', Bool.or_eq_false_iff] at h ⊢
    rcases h with h | h
    · refine ⟨⟨?_, ?_⟩, ?_⟩ <;> refine decide_eq_false ?_ <;> rintro rfl <;> exact absurd h (by decide)
    · rw [of_decide_eq_true h]; exact ⟨⟨rfl, rfl⟩, rfl⟩
theorem pAlts_of {l q : List Tx} {xs : List GEx} (h : pItems l = .ok xs q) (hq : hd q ≠ [124]) : pAlts l = .ok [seqOf xs] q := by
  rw [pAlts, h]
  cases q with
  | nil => rfl
  | cons t q => have hq' : ¬ t = [124] := hq; simp only; rw [if_neg hq']
theorem pAlts_bar {l q q' : List Tx} {xs : List GEx} {es : List GEx} (h : pItems l = .ok xs ([124] :: q)) (hl : q.length < l.length) (h2 : pAlts q = .ok es q') : pAlts l = .ok (seqOf xs :: es) q' := by
  rw [pAlts, h]
  simp only [if_true, dif_pos hl, h2]
structure Reads (e : GEx) : Prop where
  items : e.kind ≠ 3 → ∀ r, nI r = true → nS r = true → ∃ xs, pItems (tkE e ++ r) = .ok xs r ∧ seqOf xs = e
  alts : ∀ r, nI r = true → nS r = true → hd r ≠ [124] → ∃ es, pAlts (tkE e ++ r) = .ok es r ∧ altOf es = e
  start : ∀ b : Bool, (b = true ∨ (e.kind ≠ 2 ∧ e.kind ≠ 3)) → ∀ r, (isN (encK (tkE e) b ++ r) || decide (hd (encK (tkE e) b ++ r) = [40])) = true
  prim : ∀ b : Bool, (b = true ∨ e.kind = 1) → ∀ q, pPrim (encK (tkE e) b ++ q) = .ok e q
  item : ∀ b : Bool, (b = true ∨ (e.kind ≠ 2 ∧ e.kind ≠ 3)) → ∀ r, nS r = true → Item (encK (tkE e) b ++ r) e r
theorem req2 (x : GEx) : reqP 2 x = true ∨ (x.kind ≠ 2 ∧ x.kind ≠ 3) := by
  by_cases h2 : x.kind = 2
  · exact .inl (by simp [reqP, h2])
  · by_cases h3 : x.kind = 3
    · exact .inl (by simp [reqP, h3])
    · exact .inr ⟨h2, h3⟩
theorem reads (e : GEx) : ∀ d : Int, okE e d = true → Reads e := by
  induction e using GEx.ind with
  | h e ih =>
    intro d hd'
    obtain ⟨h1, h2⟩ := okE_iff hd'
    have hr : ∀ x, x ∈ e.kids → Reads x := fun x hx => ih x hx _ (h2 x hx)
    have grpP : (∀ r, nI r = true → nS r = true → hd r ≠ [124] → ∃ es, pAlts (tkE e ++ r) = .ok es r ∧ altOf es = e) → ∀ r, pPrim (encK (tkE e) true ++ r) = .ok e r := fun ha r => by
      obtain ⟨es, g1, g2⟩ := ha ([41] :: r) (nI_41 r) (nS_41 r) (by simp [hd])
      have e0 : encK (tkE e) true ++ r = [40] :: (tkE e ++ [41] :: r) := by simp [encK]
      rw [e0, pPrim_grp g1, g2]
    have grp : (∀ r, nI r = true → nS r = true → hd r ≠ [124] → ∃ es, pAlts (tkE e ++ r) = .ok es r ∧ altOf es = e) → ∀ r, nS r = true → Item (encK (tkE e) true ++ r) e r := fun ha r hs =>
      ⟨by simp [encK, hd], ⟨e, r, grpP ha r, sufT_none hs⟩, by simp [encK]; omega⟩
    have seq : ∀ (l : List GEx) (m : Bool), (∀ x, x ∈ l → Reads x) → ∀ r, nI r = true → nS r = true → pItems (tkL 2 m l ++ r) = .ok l r := by
      intro l
      induction l with
      | nil => intro m _ r h1 _; rw [tkL]; exact pItems_none h1
      | cons x l ihl =>
        intro m hx r hI hS
        have e0 : tkL 2 m (x :: l) ++ r = encK (tkE x) (reqP 2 x) ++ (tkL 2 true l ++ r) := by
          rw [tkL]; cases m <;> simp [sepK]
        rw [e0]
        have hreq := req2 x
        have hrest := ihl true (fun y hy => hx y (by simp [hy])) r hI hS
        refine Item.cons ((hx x (by simp)).item _ hreq _ ?_) hrest
        cases l with
        | nil => rw [tkL]; exact hS
        | cons y l =>
          have e1 : tkL 2 true (y :: l) ++ r = encK (tkE y) (reqP 2 y) ++ (tkL 2 true l ++ r) := by
            rw [tkL]; simp [sepK]
          rw [e1]
          exact isN_nS ((hx y (by simp)).start (reqP 2 y) (req2 y) _)
    have alt : ∀ (l : List GEx) (m : Bool), l ≠ [] → (∀ x, x ∈ l → Reads x) → ∀ r, nI r = true → nS r = true → hd r ≠ [124] → pAlts (tkL 3 false l ++ r) = .ok l r := by
      intro l
      induction l with
      | nil => intro m h; exact absurd rfl h
      | cons x l ihl =>
        intro m _ hx r hI hS hB
        have one : ∀ q, nI q = true → nS q = true → ∃ xs, pItems (encK (tkE x) (reqP 3 x) ++ q) = .ok xs q ∧ seqOf xs = x := by
          intro q hI hS
          cases hb : reqP 3 x with
          | true =>
            refine ⟨[x], Item.cons ((hx x (by simp)).item true (.inl rfl) q hS) (pItems_none hI), rfl⟩
          | false =>
            have h3 : x.kind ≠ 3 := by rintro h; simp [reqP, h] at hb
            exact (hx x (by simp)).items h3 q hI hS
        cases l with
        | nil =>
          have e0 : tkL 3 false [x] ++ r = encK (tkE x) (reqP 3 x) ++ r := by rw [tkL, tkL]; simp
          rw [e0]
          obtain ⟨xs, g1, g2⟩ := one r hI hS
          rw [pAlts_of g1 hB, g2]
        | cons y l =>
          have e0 : tkL 3 false (x :: y :: l) ++ r = encK (tkE x) (reqP 3 x) ++ ([124] :: (tkL 3 false (y :: l) ++ r)) := by
            rw [tkL, tkL, tkL]; simp [sepK]
          rw [e0]
          obtain ⟨xs, g1, g2⟩ := one _ (nI_124 (tkL 3 false (y :: l) ++ r)) (nS_124 _)
          rw [pAlts_bar g1 (by simp; omega) (ihl m (by simp) (fun z hz => hx z (by simp [hz])) r hI hS hB), g2]
    by_cases hk2 : e.kind = 2
    · have e0 : tkE e = tkL 2 false e.kids := by rw [tkE_eq, hk2]; simp [tailK]
      have hs : seqOf e.kids = e := by
        have hne : e.kids.length ≠ 1 := by
          rw [hk2] at h1; simp [okK] at h1; exact h1.2
        have hnm : e.name = ⟨#[]⟩ := by rw [hk2] at h1; simp [okK] at h1; exact h1.1
        have : seqOf e.kids = .mk 2 ⟨#[]⟩ e.kids := by
          unfold seqOf; split
          · rename_i x hx; rw [hx] at hne; exact absurd rfl hne
          · rfl
        rw [this]; exact GEx.ext' hk2.symm hnm.symm rfl
      have hi : ∀ r, nI r = true → nS r = true → ∃ xs, pItems (tkE e ++ r) = .ok xs r ∧ seqOf xs = e := fun r a b => ⟨_, by rw [e0]; exact seq _ _ hr r a b, hs⟩
      have ha : ∀ r, nI r = true → nS r = true → hd r ≠ [124] → ∃ es, pAlts (tkE e ++ r) = .ok es r ∧ altOf es = e := fun r a b c => by
        obtain ⟨xs, g1, g2⟩ := hi r a b
        exact ⟨_, pAlts_of g1 c, g2⟩
      refine ⟨fun _ => hi, ha, fun b hb r => ?_, fun b hb q => ?_, fun b hb r hS => ?_⟩
      · rcases hb with rfl | hb
        · simp [encK, hd]
        · exact absurd hk2 hb.1
      · rcases hb with rfl | hb
        · exact grpP ha q
        · omega
      · rcases hb with rfl | hb
        · exact grp ha r hS
        · exact absurd hk2 hb.1
    · by_cases hk3 : e.kind = 3
      · have e0 : tkE e = tkL 3 false e.kids := by rw [tkE_eq, hk3]; simp [tailK]
        have hl2 : 2 ≤ e.kids.length := by rw [hk3] at h1; simp [okK] at h1; exact h1.2
        have hnm : e.name = ⟨#[]⟩ := by rw [hk3] at h1; simp [okK] at h1; exact h1.1
        have hs : altOf e.kids = e := by
          have : altOf e.kids = .mk 3 ⟨#[]⟩ e.kids := by
            unfold altOf; split
            · rename_i x hx; rw [hx] at hl2; simp at hl2
            · rfl
          rw [this]; exact GEx.ext' hk3.symm hnm.symm rfl
        have ha : ∀ r, nI r = true → nS r = true → hd r ≠ [124] → ∃ es, pAlts (tkE e ++ r) = .ok es r ∧ altOf es = e := fun r a b c =>
          ⟨_, by rw [e0]; exact alt _ false (by rintro h; rw [h] at hl2; simp at hl2) hr r a b c, hs⟩
        refine ⟨fun h => absurd hk3 h, ha, fun b hb r => ?_, fun b hb q => ?_, fun b hb r hS => ?_⟩
        · rcases hb with rfl | hb
          · simp [encK, hd]
          · exact absurd hk3 hb.2
        · rcases hb with rfl | hb
          · exact grpP ha q
          · omega
        · rcases hb with rfl | hb
          · exact grp ha r hS
          · exact absurd hk3 hb.2
      · -- one item
        have hst : ∀ r, (isN (tkE e ++ r) || decide (hd (tkE e ++ r) = [40])) = true := by
          intro r
          by_cases hk1 : e.kind = 1
          · rw [hk1] at h1
            simp only [okK, decide_true, Bool.true_and, Bool.not_true, Bool.false_and, Bool.or_false, Bool.and_eq_true, decide_eq_true_eq] at h1
            have h0 : e.kids = [] := List.eq_nil_of_length_eq_zero h1.2
            rw [tkE_eq, h0, hk1, tkL]
            simp [tailK, isN, (gn_word h1.1).2]
          · obtain ⟨x, hx⟩ : ∃ x, e.kids = [x] := by
              simp only [okK, hk1, hk2, hk3, decide_false, Bool.false_and, Bool.not_false, Bool.true_and, Bool.false_or, Bool.and_eq_true, Bool.or_eq_true, decide_eq_true_eq] at h1
              exact List.length_eq_one_iff.1 (by omega)
            rw [tkE_eq, hx, tkL, tkL]
            simp only [Bool.false_eq_true, if_false, List.nil_append, List.append_nil, List.append_assoc]
            refine (hr x (by simp [hx])).start _ ?_ _
            by_cases hx1 : x.kind = 1
            · exact .inr ⟨by omega, by omega⟩
            · exact .inl (by simp [reqP, hk2, hk3, hx1])
        have hpr1 : e.kind = 1 → ∀ q, pPrim (tkE e ++ q) = .ok e q ∧ (tkE e).length = 1 := by
          intro hk1 q
          rw [hk1] at h1
          simp only [okK, decide_true, Bool.true_and, Bool.not_true, Bool.false_and, Bool.or_false, Bool.and_eq_true, decide_eq_true_eq] at h1
          have h0 : e.kids = [] := List.eq_nil_of_length_eq_zero h1.2
          have e0 : tkE e = [bl e.name] := by rw [tkE_eq, h0, hk1, tkL]; simp [tailK]
          refine ⟨?_, by rw [e0]; rfl⟩
          rw [e0, List.singleton_append, pPrim_nm (gn_word h1.1).2, tx_bl]
          congr 1
          exact GEx.ext' hk1.symm rfl h0.symm
        have hit : ∀ r, nS r = true → Item (tkE e ++ r) e r := by
          intro r hS
          by_cases hk1 : e.kind = 1
          · obtain ⟨g1, g2⟩ := hpr1 hk1 r
            exact ⟨hst r, ⟨e, r, g1, sufT_none hS⟩, by rw [List.length_append, g2]; omega⟩
          · obtain ⟨x, hx, hk⟩ : ∃ x, e.kids = [x] ∧ (e.kind = 4 ∨ e.kind = 5 ∨ e.kind = 6) := by
              simp only [okK, hk1, hk2, hk3, decide_false, Bool.false_and, Bool.not_false, Bool.true_and, Bool.false_or, Bool.and_eq_true, Bool.or_eq_true, decide_eq_true_eq] at h1
              obtain ⟨x, hx⟩ := List.length_eq_one_iff.1 (show e.kids.length = 1 by omega)
              exact ⟨x, hx, by omega⟩
            have hnm : e.name = ⟨#[]⟩ := by
              simp only [okK, hk1, decide_false, Bool.false_and, Bool.not_false, Bool.true_and, Bool.false_or, Bool.and_eq_true, decide_eq_true_eq] at h1
              exact h1.1
            have hreq : reqP e.kind x = true ∨ x.kind = 1 := by
              by_cases hx1 : x.kind = 1
              · exact .inr hx1
              · exact .inl (by simp [reqP, hk2, hk3, hx1])
            have he : e = .mk e.kind ⟨#[]⟩ [x] := GEx.ext' rfl hnm hx
            have key : ∀ c : Tx, tailK e.kind e.name = [c] → (∀ y q, sufT y (c :: q) = sufT (.mk e.kind ⟨#[]⟩ [y]) q) → Item (tkE e ++ r) e r := by
              intro c hc hsuf
              have e0 : tkE e ++ r = encK (tkE x) (reqP e.kind x) ++ (c :: r) := by
                rw [tkE_eq, hx, tkL, tkL, hc]; simp
              refine ⟨hst r, ⟨x, c :: r, ?_, ?_⟩, by rw [e0]; simp; omega⟩
              · rw [e0]; exact (hr x (by simp [hx])).prim _ hreq _
              · rw [hsuf, sufT_none hS, ← he]
            rcases hk with hk | hk | hk
            · refine key [63] (by simp [tailK, hk]) fun y q => ?_
              rw [sufT, if_neg (by decide), if_neg (by decide), if_pos rfl, hk]
            · refine key [42] (by simp [tailK, hk]) fun y q => ?_
              rw [sufT, if_pos rfl, hk]
            · refine key [43] (by simp [tailK, hk]) fun y q => ?_
              rw [sufT, if_neg (by decide), if_pos rfl, hk]
        have hi : ∀ r, nI r = true → nS r = true → ∃ xs, pItems (tkE e ++ r) = .ok xs r ∧ seqOf xs = e := fun r a b => ⟨_, Item.cons (hit r b) (pItems_none a), rfl⟩
        have ha : ∀ r, nI r = true → nS r = true → hd r ≠ [124] → ∃ es, pAlts (tkE e ++ r) = .ok es r ∧ altOf es = e := fun r a b c => by
          obtain ⟨xs, g1, g2⟩ := hi r a b
          exact ⟨_, pAlts_of g1 c, g2⟩
        refine ⟨fun _ => hi, ha, fun b hb r => ?_, fun b hb q => ?_, fun b hb r hS => ?_⟩
        · cases b with
          | true => simp [encK, hd]
          | false => exact hst r
        · cases b with
          | true => exact grpP ha q
          | false =>
            rcases hb with hb | hb
            · cases hb
            · exact (hpr1 hb q).1
        · cases b with
          | true => exact grp ha r hS
          | false => exact hit r hS
end Go.Lg

namespace Go.Lg
def tkLv (l : GLe) : List Tx := bl (wordT l.assoc) :: (l.tokens.map bl ++ [[59]])
def prK (p : Int) : List Tx := if p = 0 then [] else [bl kw4, Lib.itoa p]
def tkAl (a : GAl) : List Tx := encK (tkE a.body) (decide (a.body.kind = 3)) ++ prK a.price
def tkAs (m : Bool) : List GAl → List Tx
  | [] => []
  | a :: l => (if m then [[124]] else []) ++ (tkAl a ++ tkAs true l)
def tkRu (r : GRu) : List Tx := bl r.name :: [61] :: (tkAs false r.alts ++ [[59]])
def tkF (f : GFi) : List Tx := bl kw0 :: bl f.start :: [59] :: ((f.levels.map tkLv).flatten ++ (f.rules.map tkRu).flatten)
def altsS (m : Bool) : List GAl → Tx
  | [] => []
  | a :: l => (if m then [32, 124] else []) ++ (altT a ++ altsS true l)
theorem altsS_snoc (a : GAl) : ∀ (m : Bool) (l : List GAl), altsS m (l ++ [a]) = altsS m l ++ ((if m || !l.isEmpty then [32, 124] else []) ++ altT a)
  | m, [] => by cases m <;> simp [altsS]
  | m, x :: l => by
    rw [List.cons_append, altsS, altsS_snoc a true l, altsS]
    simp only [Bool.true_or, List.isEmpty_cons, Bool.not_false, Bool.or_true, if_true, List.append_assoc]
theorem altsT_S (l : List GAl) : ∀ k, k ≤ l.length → altsT l k = altsS false (l.take k)
  | 0, _ => by simp [altsT, altsS]
  | k + 1, hk => by
    rw [altsT, altsT_S l k (by omega), take_succ_nth (by omega), altsS_snoc]
    cases k with
    | zero => simp
    | succ k => cases l with
      | nil => simp at hk
      | cons x l => simp
theorem lexT_bod {a : GAl} (h : altOk a = true) {r : Tx} (hr : nW r = true) : lexT (bodT a.body ++ r) = encK (tkE a.body) (decide (a.body.kind = 3)) ++ lexT r := by
  have hE := (altOk_iff.1 h).2
  unfold bodT
  split
  · rw [List.append_assoc, List.singleton_append, lexT_blank (by decide), lexT_enc (fun q hq => lexT_ex _ _ hE q hq) _ hr]
  · rename_i hn
    have hk : a.body.kind = 2 ∧ a.body.kids = [] := by
      refine ⟨by omega, List.eq_nil_of_length_eq_zero (by omega)⟩
    have : tkE a.body = [] := by rw [tkE_eq, hk.1, hk.2, tkL]; simp [tailK]
    simp [hk.1, encK, this]
theorem lexT_pr {p : Int} (h0 : 0 ≤ p) {r : Tx} (hr : nW r = true) : lexT (prT p ++ r) = prK p ++ lexT r := by
  unfold prT prK
  split
  · rfl
  · obtain ⟨n, rfl⟩ := Int.eq_ofNat_of_zero_le h0
    have e0 : (wPrice ++ Lib.itoa (n : Int)) ++ r = 32 :: (bl kw4 ++ (32 :: (Lib.itoa (n : Int) ++ r))) := by
      simp [wPrice, bl, kw4]
    rw [e0, lexT_blank (by decide), lexT_word (by decide) (nW_blank (c := 32) (by decide) _), lexT_blank (by decide), Lib.itoa_nonneg, lexT_num (dec_num n) hr]
    rfl
theorem nW_pr {p : Int} {r : Tx} (hr : nW r = true) : nW (prT p ++ r) = true := by
  unfold prT; split
  · exact hr
  · exact nW_blank (c := 32) (by decide) _
theorem lexT_alt {a : GAl} (h : altOk a = true) {r : Tx} (hr : nW r = true) : lexT (altT a ++ r) = tkAl a ++ lexT r := by
  rw [altT, List.append_assoc, lexT_bod h (nW_pr hr), lexT_pr (altOk_iff.1 h).1.1 hr, tkAl, List.append_assoc]
theorem nW_alts {l : List GAl} {r : Tx} (hr : nW r = true) : nW (altsS true l ++ r) = true := by
  cases l with
  | nil => exact hr
  | cons a l => rw [altsS]; exact nW_blank (c := 32) (by decide) _
theorem lexT_alts : ∀ (l : List GAl) (m : Bool), (∀ a, a ∈ l → altOk a = true) → ∀ r : Tx, nW r = true → lexT (altsS m l ++ r) = tkAs m l ++ lexT r
  | [], m, _, r, _ => rfl
  | a :: l, m, h, r, hr => by
    have ih := lexT_alts l true (fun x hx => h x (by simp [hx])) r hr
    have h1 := lexT_alt (h a (by simp)) (nW_alts (l := l) hr)
    rw [altsS, tkAs]
    cases m with
    | false => simp only [Bool.false_eq_true, if_false, List.nil_append, List.append_assoc]; rw [h1, ih]
    | true =>
      simp only [if_true, List.append_assoc, List.cons_append, List.nil_append]
      rw [lexT_blank (by decide), lexT_sym (c := 124) (by decide), h1, ih]
theorem lexT_end (r : Tx) : lexT (endT ++ r) = [59] :: lexT r := by
  show lexT (59 :: 10 :: r) = _
  rw [lexT_sym (by decide), lexT_blank (by decide)]
theorem nW_end (r : Tx) : nW (endT ++ r) = true := nW_sym (c := 59) (by decide) (by decide) _
theorem lexT_ru {r : GRu} (hn : gnOk r.name = true) (ha : ∀ a, a ∈ r.alts → altOk a = true) (q : Tx) : lexT (ruT r ++ q) = tkRu r ++ lexT q := by
  rw [ruT, altsT_S _ _ (Nat.le_refl _), List.take_of_length_le (Nat.le_refl _)]
  have e0 : (bl r.name ++ [32, 61]) ++ (altsS false r.alts ++ endT) ++ q = bl r.name ++ (32 :: 61 :: (altsS false r.alts ++ (endT ++ q))) := by simp
  have h61 : nW (61 :: (altsS false r.alts ++ (endT ++ q))) = true := nW_sym (by decide) (by decide) _
  rw [e0, lexT_word (gn_word hn).1 (nW_blank (c := 32) (by decide) _), lexT_blank (by decide), lexT_sym (c := 61) (by decide), lexT_alts _ _ ha _ (nW_end q), lexT_end, tkRu]
  simp
theorem lexT_names : ∀ (l : List ByteArray), (∀ x, x ∈ l → gnOk x = true) → ∀ r : Tx, nW r = true → lexT (spaced l ++ r) = l.map bl ++ lexT r
  | [], _, r, _ => rfl
  | x :: l, h, r, hr => by
    have ih := lexT_names l (fun y hy => h y (by simp [hy])) r hr
    have e0 : spaced (x :: l) ++ r = 32 :: (bl x ++ (spaced l ++ r)) := by simp [spaced]
    have hw : nW (spaced l ++ r) = true := by
      cases l with
      | nil => exact hr
      | cons y l => exact nW_blank (c := 32) (by decide) _
    rw [e0, lexT_blank (by decide), lexT_word (gn_word (h x (by simp))).1 hw, ih]
    rfl
theorem word_ok (a : Int) : wordOk (bl (wordT a)) = true := by
  unfold wordT; split; · decide
  split <;> decide
theorem lexT_lv {l : GLe} (hne : l.tokens ≠ []) (ht : ∀ x, x ∈ l.tokens → gnOk x = true) (q : Tx) : lexT (lvT l ++ q) = tkLv l ++ lexT q := by
  rw [lvT_eq hne]
  simp only [List.append_assoc]
  have hw : nW (spaced l.tokens ++ (endT ++ q)) = true := by
    cases hl : l.tokens with
    | nil => exact nW_end q
    | cons y l => exact nW_blank (c := 32) (by decide) _
  rw [lexT_word (word_ok _) hw, lexT_names _ ht _ (nW_end q), lexT_end, tkLv]
  simp
end Go.Lg

namespace Go.Lg
theorem numV_snoc (l : Tx) (c : UInt8) : numV (l ++ [c]) = min (10 * numV l + ((c.toNat : Int) - 48)) 1001 := by simp [numV, List.foldl_append]
theorem numV_dec (u : Nat) : u ≤ 1000 → numV (Lib.decDigits u) = u := by
  induction u using Nat.strongRecOn with
  | _ u ih =>
    intro hu
    have key : ∀ k, k < 10 → ((UInt8.ofNat (48 + k)).toNat : Int) - 48 = k := by decide
    rw [Lib.decDigits]
    split
    · rename_i h
      have := key u h
      have e : numV [UInt8.ofNat (48 + u)] = min (10 * 0 + (((UInt8.ofNat (48 + u)).toNat : Int) - 48)) 1001 := rfl
      rw [e, this]; omega
    · rw [numV_snoc, ih (u / 10) (by omega) (by omega), key (u % 10) (by omega)]
      omega
theorem isNum_of {t : Tx} (h : numOk t = true) : isNum t = true := by
  cases t with
  | nil => cases h
  | cons c r => simp only [numOk, Bool.and_eq_true] at h; exact h.1
def Sep (q : List Tx) : Prop := hd q = [124] ∨ hd q = [59]
theorem Sep.nI {q : List Tx} (h : Sep q) : nI q = true := by
  cases q with
  | nil => rfl
  | cons t q =>
    have h : t = [124] ∨ t = [59] := h
    rcases h with rfl | rfl
    · exact nI_124 q
    · simp [Lg.nI, isN, hd]; decide
theorem Sep.nS {q : List Tx} (h : Sep q) : nS q = true := by
  cases q with
  | nil => rfl
  | cons t q =>
    have h : t = [124] ∨ t = [59] := h
    rcases h with rfl | rfl
    · exact nS_124 q
    · simp [Lg.nS, hd]
theorem pPrice_read {p : Int} (h0 : 0 ≤ p) (h1 : p ≤ 1000) {q : List Tx} (hq : Sep q) : pPrice (prK p ++ q) = .ok p q := by
  unfold prK
  split
  · rename_i hp
    subst hp
    cases q with
    | nil => rfl
    | cons t q =>
      have h : t = [124] ∨ t = [59] := hq
      have hne : ¬ t = bl kw4 := by rcases h with rfl | rfl <;> decide
      simp only [List.nil_append, pPrice, if_neg hne]
  · obtain ⟨n, rfl⟩ := Int.eq_ofNat_of_zero_le h0
    have h2 := isNum_of (dec_num n)
    simp only [List.cons_append, List.nil_append, pPrice, if_true, Lib.itoa_nonneg, h2, numV_dec n (by omega)]
theorem prK_nI {p : Int} {q : List Tx} (hq : Sep q) : nI (prK p ++ q) = true ∧ nS (prK p ++ q) = true := by
  unfold prK
  split
  · exact ⟨hq.nI, hq.nS⟩
  · simp only [List.cons_append, nI, nS, isN, hd, List.headD_cons]; exact ⟨rfl, rfl⟩
theorem pAlt_read {a : GAl} (h : altOk a = true) {q : List Tx} (hq : Sep q) : pAlt (tkAl a ++ q) = .ok a q := by
  obtain ⟨⟨hp0, hp1⟩, hE⟩ := altOk_iff.1 h
  have hR := reads _ _ hE
  obtain ⟨h1, h2⟩ := prK_nI (p := a.price) hq
  have hb : ∃ xs, pItems (tkAl a ++ q) = .ok xs (prK a.price ++ q) ∧ seqOf xs = a.body := by
    rw [tkAl, List.append_assoc]
    by_cases h3 : a.body.kind = 3
    · simp only [h3, decide_true]
      exact ⟨_, Item.cons (hR.item true (.inl rfl) _ h2) (pItems_none h1), rfl⟩
    · simp only [h3, decide_false, encK]
      exact hR.items h3 _ h1 h2
  obtain ⟨xs, g1, g2⟩ := hb
  simp only [pAlt, g1, pPrice_read hp0 hp1 hq, g2]
theorem tkAl_pos_sep (m : List GAl) (q : List Tx) (hq : hd q = [59]) : Sep (tkAs true m ++ q) := by
  cases m with
  | nil => exact .inr hq
  | cons a m => exact .inl rfl
theorem pAltsR_read : ∀ (l : List GAl), l ≠ [] → (∀ a, a ∈ l → altOk a = true) → ∀ q : List Tx, hd q = [59] → pAltsR (tkAs false l ++ q) = .ok l q
  | [], h, _, _, _ => absurd rfl h
  | [a], _, h, q, hq => by
    have e0 : tkAs false [a] ++ q = tkAl a ++ q := by simp [tkAs]
    rw [e0, pAltsR, pAlt_read (h a (by simp)) (.inr hq)]
    cases q with
    | nil => rfl
    | cons t q =>
      have hq : t = [59] := hq
      simp only; rw [if_neg (by rw [hq]; decide)]
  | a :: b :: l, _, h, q, hq => by
    have ih := pAltsR_read (b :: l) (by simp) (fun x hx => h x (by simp [hx])) q hq
    have e0 : tkAs false (a :: b :: l) ++ q = tkAl a ++ ([124] :: (tkAs false (b :: l) ++ q)) := by simp [tkAs]
    rw [e0, pAltsR, pAlt_read (h a (by simp)) (.inl rfl)]
    simp only [if_true]
    rw [dif_pos (by simp; omega), ih]
theorem pName_read {s : ByteArray} (h : gnOk s = true) (q : List Tx) : pName (bl s :: q) = .ok s q := by
  simp only [pName, (gn_word h).2, if_true, tx_bl]
theorem pNames_read : ∀ (l : List ByteArray), (∀ x, x ∈ l → gnOk x = true) → ∀ q : List Tx, isN q = false → pNames (l.map bl ++ q) = (l, q)
  | [], _, q, hq => by
    cases q with
    | nil => rfl
    | cons t q => simp only [isN] at hq; simp [pNames, hq]
  | x :: l, h, q, hq => by
    have ih := pNames_read l (fun y hy => h y (by simp [hy])) q hq
    simp only [List.map_cons, List.cons_append, pNames, (gn_word (h x (by simp))).2, if_true, ih, tx_bl]
theorem assoc_word {a : Int} (h1 : 1 ≤ a) (h3 : a ≤ 3) : assocOf (bl (wordT a)) = some a := by
  have : a = 1 ∨ a = 2 ∨ a = 3 := by omega
  rcases this with rfl | rfl | rfl <;> decide
theorem pLevels_read : ∀ (l : List GLe), (∀ x, x ∈ l → glevelOk x = true ∧ ∀ t, t ∈ x.tokens → gnOk t = true) → ∀ q : List Tx, (∀ t q', q = t :: q' → assocOf t = none) → pLevels ((l.map tkLv).flatten ++ q) = .ok l q
  | [], _, q, hq => by
    cases q with
    | nil => rw [List.map_nil, List.flatten_nil, List.nil_append, pLevels]
    | cons t q => rw [List.map_nil, List.flatten_nil, List.nil_append, pLevels, hq t q rfl]
  | x :: l, h, q, hq => by
    have ih := pLevels_read l (fun y hy => h y (by simp [hy])) q hq
    obtain ⟨h1, h2⟩ := h x (by simp)
    obtain ⟨⟨ha, hb⟩, hne⟩ := glevel_iff.1 h1
    obtain ⟨s, ts, hts⟩ : ∃ s ts, x.tokens = s :: ts := by
      cases hx : x.tokens with
      | nil => rw [hx] at hne; exact absurd rfl hne
      | cons s ts => exact ⟨s, ts, rfl⟩
    have e0 : ((x :: l).map tkLv).flatten ++ q = bl (wordT x.assoc) :: (bl s :: (ts.map bl ++ ([59] :: ((l.map tkLv).flatten ++ q)))) := by
      simp [tkLv, hts]
    rw [e0, pLevels, assoc_word ha hb]
    simp only
    rw [pName_read (h2 s (by simp [hts]))]
    simp only
    rw [pNames_read ts (fun t ht => h2 t (by simp [hts, ht])) _ (by simp [isN]; decide)]
    simp only [pTake, if_true]
    rw [dif_pos (by simp; omega), ih]
    simp only
    congr 2
    rw [← hts]
theorem pRule_read {r : GRu} (hn : gnOk r.name = true) (hne : r.alts ≠ []) (ha : ∀ a, a ∈ r.alts → altOk a = true) (q : List Tx) : pRule (tkRu r ++ q) = .ok r q := by
  have e0 : tkRu r ++ q = bl r.name :: ([61] :: (tkAs false r.alts ++ ([59] :: q))) := by simp [tkRu]
  rw [e0, pRule, pName_read hn]
  simp only [pTake, if_true]
  rw [pAltsR_read _ hne ha _ rfl]
  simp only [if_true]
theorem pRules_read : ∀ (l : List GRu), (∀ r, r ∈ l → gnOk r.name = true ∧ r.alts ≠ [] ∧ ∀ a, a ∈ r.alts → altOk a = true) → pRules (l.map tkRu).flatten = .ok l []
  | [], _ => by rw [List.map_nil, List.flatten_nil, pRules]
  | r :: l, h => by
    have ih := pRules_read l (fun y hy => h y (by simp [hy]))
    obtain ⟨h1, h2, h3⟩ := h r (by simp)
    have e1 := pRule_read h1 h2 h3 (l.map tkRu).flatten
    have e0 : ((r :: l).map tkRu).flatten = bl r.name :: ([61] :: (tkAs false r.alts ++ ([59] :: (l.map tkRu).flatten))) := by simp [tkRu]
    have e2 : tkRu r ++ (l.map tkRu).flatten = bl r.name :: ([61] :: (tkAs false r.alts ++ ([59] :: (l.map tkRu).flatten))) := by simp [tkRu]
    rw [e2] at e1
    rw [e0, pRules, e1]
    simp only
    rw [dif_pos (by simp; omega), ih]
theorem FVal.rname {f : GFi} (h : FVal f) : ∀ r, r ∈ f.rules → gnOk r.name = true := by
  intro r hr
  refine h.rn _ ?_
  rw [rnames_all]; exact List.mem_map.2 ⟨r, hr, rfl⟩
theorem FVal.alts {f : GFi} (h : FVal f) : ∀ r, r ∈ f.rules → r.alts ≠ [] := by
  intro r hr
  have := h.rule r hr
  simp only [gruleOk, Bool.and_eq_true, Bool.not_eq_true', decide_eq_false_iff_not] at this
  exact this.1
theorem FVal.gtok {f : GFi} (h : FVal f) : ∀ l, l ∈ f.levels → ∀ t, t ∈ l.tokens → gnOk t = true := by
  intro l hl t ht
  refine h.tk _ ?_
  simp only [Lg.toks, List.take_of_length_le (Nat.le_refl _), List.mem_flatten, List.mem_map]
  exact ⟨_, ⟨l, hl, rfl⟩, ht⟩
theorem lexT_rules : ∀ (l : List GRu), (∀ r, r ∈ l → gnOk r.name = true ∧ ∀ a, a ∈ r.alts → altOk a = true) → lexT (l.map ruT).flatten = (l.map tkRu).flatten
  | [], _ => lexT_nil
  | r :: l, h => by
    rw [List.map_cons, List.flatten_cons, lexT_ru (h r (by simp)).1 (h r (by simp)).2, lexT_rules l (fun y hy => h y (by simp [hy]))]
    rfl
theorem lexT_levels : ∀ (l : List GLe), (∀ x, x ∈ l → x.tokens ≠ [] ∧ ∀ t, t ∈ x.tokens → gnOk t = true) → ∀ r, lexT ((l.map lvT).flatten ++ r) = (l.map tkLv).flatten ++ lexT r
  | [], _, _ => rfl
  | x :: l, h, r => by
    rw [List.map_cons, List.flatten_cons, List.append_assoc, lexT_lv (h x (by simp)).1 (h x (by simp)).2, lexT_levels l (fun y hy => h y (by simp [hy])), List.map_cons, List.flatten_cons, List.append_assoc]
theorem FVal.lvne {f : GFi} (h : FVal f) : ∀ l, l ∈ f.levels → l.tokens ≠ [] := by
  intro l hl e
  have := (glevel_iff.1 (h.level l hl)).2
  rw [e] at this; exact this rfl
theorem lexT_file {f : GFi} (h : FVal f) : lexT (fmtF f) = tkF f := by
  have e0 : fmtF f = bl kw0 ++ (32 :: (bl f.start ++ (endT ++ ((f.levels.map lvT).flatten ++ (f.rules.map ruT).flatten)))) := by
    simp [fmtF, fmR, fmL, fm0, wStartT, bl, kw0]
  rw [e0, lexT_word (by decide) (nW_blank (c := 32) (by decide) _), lexT_blank (by decide), lexT_word (gn_word h.st).1 (nW_end _), lexT_end,
    lexT_levels _ (fun x hx => ⟨h.lvne x hx, h.gtok x hx⟩), lexT_rules _ (fun r hr => ⟨h.rname r hr, h.alt r hr⟩), tkF]
theorem pFile_read {f : GFi} (h : FVal f) : pFile (tkF f) = .ok f [] := by
  rw [tkF, pFile]
  simp only [pTake, if_true]
  rw [pName_read h.st]
  simp only [if_true]
  rw [pLevels_read _ (fun x hx => ⟨h.level x hx, h.gtok x hx⟩) _ (by
    intro t q' e
    cases hr : f.rules with
    | nil => rw [hr] at e; cases e
    | cons r l =>
      rw [hr] at e
      simp only [List.map_cons, List.flatten_cons, tkRu, List.cons_append, List.cons.injEq] at e
      rw [← e.1]
      have hn := (gn_word (h.rname r (by simp [hr]))).2
      have ne : ∀ k, k ∈ kwT → bl r.name ≠ k := by
        intro k hk e
        rw [e] at hn
        simp only [nmT, Bool.and_eq_true, Bool.not_eq_true', List.any_eq_false, decide_eq_true_eq] at hn
        exact hn.2 k hk rfl
      simp only [assocOf, if_neg (ne (bl kw1) (by decide)), if_neg (ne (bl kw2) (by decide)), if_neg (ne (bl kw3) (by decide))])]
  simp only
  rw [pRules_read _ (fun r hr => ⟨h.rname r hr, h.alts r hr, h.alt r hr⟩)]
theorem fmt_inj {a b : GFi} (ha : validF a = true) (hb : validF b = true) (h : fmtF a = fmtF b) : a = b := by
  have h1 := pFile_read (FVal.of ha)
  have h2 := pFile_read (FVal.of hb)
  rw [← lexT_file (FVal.of ha), h, lexT_file (FVal.of hb), h2] at h1
  injection h1 with h1
  exact h1.symm
end Go.Lg

namespace Go.Lg
open Go.Proofs
set_option linter.unusedSimpArgs false
set_option linter.unusedVariables false
attribute [local irreducible] Ap Rq asemC WP RunD Ret Gq thenA inBlockA bodyQ noGotoA RqL RqP OpP
set_option maxHeartbeats 8000000
set_option maxRecDepth 20000
theorem law_finj (a : GFi) (ha : a.fit ∧ TokB a) (b : GFi) (hb : b.fit ∧ TokB b) : Fn Tryd.prog 6 [fileA a, fileA b] (boolA true) := by
  have hs := small_fn a ha.2 200 (by decide) (by decide)
  have ht := small_fn b hb.2 200 (by decide) (by decide)
  by_cases hza : sizeF a 200 ≤ 200
  · have hta := toks_small ha.2 (by decide) hza
    have h2 := rvalid_fn a ha.1 (by omega)
    by_cases hzb : sizeF b 200 ≤ 200
    · have htb := toks_small hb.2 (by decide) hzb
      have h3 := rvalid_fn b hb.1 (by omega)
      by_cases hva : validF a = true
      · have hla := fmt_len hva ha.2 hza
        have f1 := format_fn a (prices hva) (by omega)
        by_cases hvb : validF b = true
        · have hlb := fmt_len hvb hb.2 hzb
          have f2 := format_fn b (prices hvb) (by omega)
          have f3 := gequal_fn a b
          have key : decide (tx (fmtF a) = tx (fmtF b)) = decide (a = b) := by
            rw [Bool.eq_iff_iff]
            simp only [decide_eq_true_eq]
            exact ⟨fun e => fmt_inj hva hvb (tx_inj e), fun e => by rw [e]⟩
          refine Fn.intro (by exact rfl) (by kernel_rfl) Tryd.func6 rfl rfl Tryd.ntmps6 (by exact Nat.le_of_ble_eq_true rfl) ?_; intro Γ hm
          (repeat' (first | refine WP.seq ?_ | refine go_n ?_ | refine WP.skip ?_ | refine WP.ret ?_ | refine go_r ?_ | refine bo_r ?_ | (refine wp_cond (by exact rfl) (fun hc => ?_) (fun hc => ?_) <;> (try simp only [decide_eq_true_eq, decide_eq_false_iff_not, Decidable.not_not, Bool.and_eq_true, Bool.or_eq_true, Bool.not_eq_true', Bool.not_eq_false', Bool.or_eq_false_iff, Bool.and_eq_false_iff, Int.not_lt, Int.not_le, reduceCtorEq, ne_eq, Bool.not_true, Bool.not_false, Bool.not_eq_true, Bool.not_eq_false] at hc) <;> (try (exfalso; omega))) | (refine WP.regionC (id := 0) ?_; (refine se_box (by exact rfl) (by exact ⟨rfl, rfl⟩) ?_); (refine se_box (by exact rfl) (by exact ⟨rfl, rfl⟩) ?_); (refine su (ap_assign (by exact rq_p rfl rfl)) ?_); refine asemC_end ?_) | (refine WP.regionC (id := 1) ?_; (refine su (ap_load_pw (by exact rq_p rfl rfl) (by exact rfl) (by exact rfl) (by exact rfl)) ?_); (refine sc_p rfl rfl (by first | ((repeat' first | exact SubL.nil | refine SubL.cons ?_ ?_ | exact Sub.refl); done) | fail) (by first | (simp [bdL, bdL_append, AV.bd]; done) | fail) (hs) ?_); (refine su (ap_not (by exact rq_p rfl rfl)) ?_); (refine su (ap_move (by exact rq_p rfl rfl)) ?_); (refine sg (by exact gq_vf rfl rfl) (fun he => ap_load_pw (by exact rq_p rfl rfl) (by exact rfl) (by exact rfl) (by exact rfl)) ?_); (refine sg_p (by exact gq_vf rfl rfl) (fun he => ⟨(by exact rq_p rfl rfl), (RqL.cons (by exact rq_c rfl rfl) (RqL.cons (by exact rq_p rfl rfl) (RqL.nil))), (by first | ((repeat' first | exact SubL.nil | refine SubL.cons ?_ ?_ | exact Sub.refl); done) | fail), (by first | (simp [bdL, bdL_append, AV.bd]; done) | fail), ht⟩) ?_); (refine sg (by exact gq_vf rfl rfl) (fun he => ap_not (by exact rq_c rfl rfl)) ?_); (refine su (ap_or (by exact rq_p rfl rfl) (by exact rq_c rfl rfl)) ?_); (refine su (ap_move (by exact rq_p rfl rfl)) ?_); (refine sg (by exact gq_vf rfl rfl) (fun he => ap_load_pw (by exact rq_p rfl rfl) (by exact rfl) (by exact rfl) (by exact rfl)) ?_); (refine sg_p (by exact gq_vf rfl rfl) (fun he => ⟨(by exact rq_p rfl rfl), (RqL.cons (by exact rq_c rfl rfl) (RqL.nil)), (by first | ((repeat' first | exact SubL.nil | refine SubL.cons ?_ ?_ | exact Sub.refl); done) | fail), (by first | (simp [bdL, bdL_append, AV.bd]; done) | fail), h2⟩) ?_); (refine sg (by exact gq_vf rfl rfl) (fun he => ap_not (by exact rq_c rfl rfl)) ?_); (refine su (ap_or (by exact rq_p rfl rfl) (by exact rq_c rfl rfl)) ?_); (refine su (ap_move (by exact rq_p rfl rfl)) ?_); (refine sg (by exact gq_vf rfl rfl) (fun he => ap_load_pw (by exact rq_p rfl rfl) (by exact rfl) (by exact rfl) (by exact rfl)) ?_); (refine sg_p (by exact gq_vf rfl rfl) (fun he => ⟨(by exact rq_p rfl rfl), (RqL.cons (by exact rq_c rfl rfl) (RqL.nil)), (by first | ((repeat' first | exact SubL.nil | refine SubL.cons ?_ ?_ | exact Sub.refl); done) | fail), (by first | (simp [bdL, bdL_append, AV.bd]; done) | fail), h3⟩) ?_); (refine sg (by exact gq_vf rfl rfl) (fun he => ap_not (by exact rq_c rfl rfl)) ?_); (refine su (ap_or (by exact rq_p rfl rfl) (by exact rq_c rfl rfl)) ?_); refine asemC_end ?_) | (refine WP.regionC (id := 2) ?_; (refine sc_p rfl rfl (by first | ((repeat' (exact SubL.nil)); done) | fail) (by first | (simp [bdL, bdL_append, AV.bd]; done) | fail) (awake16_fn) ?_); (refine su (ap_assign (by exact rq_p rfl rfl)) ?_); refine asemC_end ?_) | (refine wp_draw (id := 3) 13 mixed (by kernel_rfl) (by kernel_rfl) rfl ?_ <;> (refine rd_call rfl rfl (by first | ((repeat' (exact SubL.nil)); done) | fail) (by first | (simp [bdL, bdL_append, AV.bd]; done) | fail) (awake16_fn) ?_) <;> (refine rd_u (by exact rfl) (by exact rfl) (ap_move (by exact rq_p rfl rfl)) ?_) <;> (refine rdg_u rfl rfl (by exact rfl) (by exact rfl) (ap_load_pw (by exact rq_p rfl rfl) (by exact rfl) (by exact rfl) (by exact rfl)) ?_) <;> (refine rdg_call rfl (by exact rfl) rfl rfl (by first | ((repeat' first | exact SubL.nil | refine SubL.cons ?_ ?_ | exact Sub.refl); done) | fail) (by first | (simp [bdL, bdL_append, AV.bd]; done) | fail) (f1) ?_) <;> (refine rdg_u rfl rfl (by exact rfl) (by exact rfl) (ap_load_pw (by exact rq_p rfl rfl) (by exact rfl) (by exact rfl) (by exact rfl)) ?_) <;> (refine rdg_call rfl (by exact rfl) rfl rfl (by first | ((repeat' first | exact SubL.nil | refine SubL.cons ?_ ?_ | exact Sub.refl); done) | fail) (by first | (simp [bdL, bdL_append, AV.bd]; done) | fail) (f2) ?_) <;> (refine rdg_u rfl rfl (by exact rfl) (by exact rfl) (ap_eqs (by exact rq_p rfl rfl) (by exact rq_p rfl rfl)) ?_) <;> (refine rdg_u rfl rfl (by exact rfl) (by exact rfl) (ap_load_pw (by exact rq_p rfl rfl) (by exact rfl) (by exact rfl) (by exact rfl)) ?_) <;> (refine rdg_u rfl rfl (by exact rfl) (by exact rfl) (ap_load_pw (by exact rq_p rfl rfl) (by exact rfl) (by exact rfl) (by exact rfl)) ?_) <;> (refine rdg_call rfl (by exact rfl) rfl rfl (by first | ((repeat' first | exact SubL.nil | refine SubL.cons ?_ ?_ | exact Sub.refl); done) | fail) (by first | (simp [bdL, bdL_append, AV.bd]; done) | fail) (f3) ?_) <;> (refine rdg_u rfl rfl (by exact rfl) (by exact rfl) (ap_eqb (by kernel_rfl) (by exact rq_p rfl rfl) (by exact rq_p rfl rfl)) ?_) <;> (refine rd_pick_t (by exact rfl) (by exact rfl) ?_) <;> (refine rd_u (by exact rfl) (by exact rfl) (ap_assign (by exact rq_p rfl rfl)) ?_) <;> (refine rd_end (by kernel_rfl) ?_)) | exact ret_eq (by exact rfl) (by exact rfl) rfl | refine ret_b (by exact rfl) ?_))
          rw [key]; simp
        · refine Fn.intro (by exact rfl) (by kernel_rfl) Tryd.func6 rfl rfl Tryd.ntmps6 (by exact Nat.le_of_ble_eq_true rfl) ?_; intro Γ hm
          (repeat' (first | refine WP.seq ?_ | refine go_n ?_ | refine WP.skip ?_ | refine WP.ret ?_ | refine go_r ?_ | refine bo_r ?_ | (refine wp_cond (by exact rfl) (fun hc => ?_) (fun hc => ?_) <;> (try simp only [decide_eq_true_eq, decide_eq_false_iff_not, Decidable.not_not, Bool.and_eq_true, Bool.or_eq_true, Bool.not_eq_true', Bool.not_eq_false', Bool.or_eq_false_iff, Bool.and_eq_false_iff, Int.not_lt, Int.not_le, reduceCtorEq, ne_eq, Bool.not_true, Bool.not_false, Bool.not_eq_true, Bool.not_eq_false] at hc) <;> (try (exfalso; omega))) | (refine WP.regionC (id := 0) ?_; (refine se_box (by exact rfl) (by exact ⟨rfl, rfl⟩) ?_); (refine se_box (by exact rfl) (by exact ⟨rfl, rfl⟩) ?_); (refine su (ap_assign (by exact rq_p rfl rfl)) ?_); refine asemC_end ?_) | (refine WP.regionC (id := 1) ?_; (refine su (ap_load_pw (by exact rq_p rfl rfl) (by exact rfl) (by exact rfl) (by exact rfl)) ?_); (refine sc_p rfl rfl (by first | ((repeat' first | exact SubL.nil | refine SubL.cons ?_ ?_ | exact Sub.refl); done) | fail) (by first | (simp [bdL, bdL_append, AV.bd]; done) | fail) (hs) ?_); (refine su (ap_not (by exact rq_p rfl rfl)) ?_); (refine su (ap_move (by exact rq_p rfl rfl)) ?_); (refine sg (by exact gq_vf rfl rfl) (fun he => ap_load_pw (by exact rq_p rfl rfl) (by exact rfl) (by exact rfl) (by exact rfl)) ?_); (refine sg_p (by exact gq_vf rfl rfl) (fun he => ⟨(by exact rq_p rfl rfl), (RqL.cons (by exact rq_c rfl rfl) (RqL.cons (by exact rq_p rfl rfl) (RqL.nil))), (by first | ((repeat' first | exact SubL.nil | refine SubL.cons ?_ ?_ | exact Sub.refl); done) | fail), (by first | (simp [bdL, bdL_append, AV.bd]; done) | fail), ht⟩) ?_); (refine sg (by exact gq_vf rfl rfl) (fun he => ap_not (by exact rq_c rfl rfl)) ?_); (refine su (ap_or (by exact rq_p rfl rfl) (by exact rq_c rfl rfl)) ?_); (refine su (ap_move (by exact rq_p rfl rfl)) ?_); (refine sg (by exact gq_vf rfl rfl) (fun he => ap_load_pw (by exact rq_p rfl rfl) (by exact rfl) (by exact rfl) (by exact rfl)) ?_); (refine sg_p (by exact gq_vf rfl rfl) (fun he => ⟨(by exact rq_p rfl rfl), (RqL.cons (by exact rq_c rfl rfl) (RqL.nil)), (by first | ((repeat' first | exact SubL.nil | refine SubL.cons ?_ ?_ | exact Sub.refl); done) | fail), (by first | (simp [bdL, bdL_append, AV.bd]; done) | fail), h2⟩) ?_); (refine sg (by exact gq_vf rfl rfl) (fun he => ap_not (by exact rq_c rfl rfl)) ?_); (refine su (ap_or (by exact rq_p rfl rfl) (by exact rq_c rfl rfl)) ?_); (refine su (ap_move (by exact rq_p rfl rfl)) ?_); (refine sg (by exact gq_vf rfl rfl) (fun he => ap_load_pw (by exact rq_p rfl rfl) (by exact rfl) (by exact rfl) (by exact rfl)) ?_); (refine sg_p (by exact gq_vf rfl rfl) (fun he => ⟨(by exact rq_p rfl rfl), (RqL.cons (by exact rq_c rfl rfl) (RqL.nil)), (by first | ((repeat' first | exact SubL.nil | refine SubL.cons ?_ ?_ | exact Sub.refl); done) | fail), (by first | (simp [bdL, bdL_append, AV.bd]; done) | fail), h3⟩) ?_); (refine sg (by exact gq_vf rfl rfl) (fun he => ap_not (by exact rq_c rfl rfl)) ?_); (refine su (ap_or (by exact rq_p rfl rfl) (by exact rq_c rfl rfl)) ?_); refine asemC_end ?_) | (refine WP.regionC (id := 2) ?_; (refine sc_p rfl rfl (by first | ((repeat' (exact SubL.nil)); done) | fail) (by first | (simp [bdL, bdL_append, AV.bd]; done) | fail) (awake16_fn) ?_); (refine su (ap_assign (by exact rq_p rfl rfl)) ?_); refine asemC_end ?_) | exact ret_eq (by exact rfl) (by exact rfl) rfl))
          exact absurd hc.2 hvb
      · refine Fn.intro (by exact rfl) (by kernel_rfl) Tryd.func6 rfl rfl Tryd.ntmps6 (by exact Nat.le_of_ble_eq_true rfl) ?_; intro Γ hm
        (repeat' (first | refine WP.seq ?_ | refine go_n ?_ | refine WP.skip ?_ | refine WP.ret ?_ | refine go_r ?_ | refine bo_r ?_ | (refine wp_cond (by exact rfl) (fun hc => ?_) (fun hc => ?_) <;> (try simp only [decide_eq_true_eq, decide_eq_false_iff_not, Decidable.not_not, Bool.and_eq_true, Bool.or_eq_true, Bool.not_eq_true', Bool.not_eq_false', Bool.or_eq_false_iff, Bool.and_eq_false_iff, Int.not_lt, Int.not_le, reduceCtorEq, ne_eq, Bool.not_true, Bool.not_false, Bool.not_eq_true, Bool.not_eq_false] at hc) <;> (try (exfalso; omega))) | (refine WP.regionC (id := 0) ?_; (refine se_box (by exact rfl) (by exact ⟨rfl, rfl⟩) ?_); (refine se_box (by exact rfl) (by exact ⟨rfl, rfl⟩) ?_); (refine su (ap_assign (by exact rq_p rfl rfl)) ?_); refine asemC_end ?_) | (refine WP.regionC (id := 1) ?_; (refine su (ap_load_pw (by exact rq_p rfl rfl) (by exact rfl) (by exact rfl) (by exact rfl)) ?_); (refine sc_p rfl rfl (by first | ((repeat' first | exact SubL.nil | refine SubL.cons ?_ ?_ | exact Sub.refl); done) | fail) (by first | (simp [bdL, bdL_append, AV.bd]; done) | fail) (hs) ?_); (refine su (ap_not (by exact rq_p rfl rfl)) ?_); (refine su (ap_move (by exact rq_p rfl rfl)) ?_); (refine sg (by exact gq_vf rfl rfl) (fun he => ap_load_pw (by exact rq_p rfl rfl) (by exact rfl) (by exact rfl) (by exact rfl)) ?_); (refine sg_p (by exact gq_vf rfl rfl) (fun he => ⟨(by exact rq_p rfl rfl), (RqL.cons (by exact rq_c rfl rfl) (RqL.cons (by exact rq_p rfl rfl) (RqL.nil))), (by first | ((repeat' first | exact SubL.nil | refine SubL.cons ?_ ?_ | exact Sub.refl); done) | fail), (by first | (simp [bdL, bdL_append, AV.bd]; done) | fail), ht⟩) ?_); (refine sg (by exact gq_vf rfl rfl) (fun he => ap_not (by exact rq_c rfl rfl)) ?_); (refine su (ap_or (by exact rq_p rfl rfl) (by exact rq_c rfl rfl)) ?_); (refine su (ap_move (by exact rq_p rfl rfl)) ?_); (refine sg (by exact gq_vf rfl rfl) (fun he => ap_load_pw (by exact rq_p rfl rfl) (by exact rfl) (by exact rfl) (by exact rfl)) ?_); (refine sg_p (by exact gq_vf rfl rfl) (fun he => ⟨(by exact rq_p rfl rfl), (RqL.cons (by exact rq_c rfl rfl) (RqL.nil)), (by first | ((repeat' first | exact SubL.nil | refine SubL.cons ?_ ?_ | exact Sub.refl); done) | fail), (by first | (simp [bdL, bdL_append, AV.bd]; done) | fail), h2⟩) ?_); (refine sg (by exact gq_vf rfl rfl) (fun he => ap_not (by exact rq_c rfl rfl)) ?_); (refine su (ap_or (by exact rq_p rfl rfl) (by exact rq_c rfl rfl)) ?_); (refine su (ap_move (by exact rq_p rfl rfl)) ?_); (refine sg (by exact gq_vf rfl rfl) (fun he => ap_load_pw (by exact rq_p rfl rfl) (by exact rfl) (by exact rfl) (by exact rfl)) ?_); (refine sg_p (by exact gq_vf rfl rfl) (fun he => ⟨(by exact rq_p rfl rfl), (RqL.cons (by exact rq_c rfl rfl) (RqL.nil)), (by first | ((repeat' first | exact SubL.nil | refine SubL.cons ?_ ?_ | exact Sub.refl); done) | fail), (by first | (simp [bdL, bdL_append, AV.bd]; done) | fail), h3⟩) ?_); (refine sg (by exact gq_vf rfl rfl) (fun he => ap_not (by exact rq_c rfl rfl)) ?_); (refine su (ap_or (by exact rq_p rfl rfl) (by exact rq_c rfl rfl)) ?_); refine asemC_end ?_) | (refine WP.regionC (id := 2) ?_; (refine sc_p rfl rfl (by first | ((repeat' (exact SubL.nil)); done) | fail) (by first | (simp [bdL, bdL_append, AV.bd]; done) | fail) (awake16_fn) ?_); (refine su (ap_assign (by exact rq_p rfl rfl)) ?_); refine asemC_end ?_) | exact ret_eq (by exact rfl) (by exact rfl) rfl))
        exact absurd hc.1.2 hva
    · refine Fn.intro (by exact rfl) (by kernel_rfl) Tryd.func6 rfl rfl Tryd.ntmps6 (by exact Nat.le_of_ble_eq_true rfl) ?_; intro Γ hm
      (repeat' (first | refine WP.seq ?_ | refine go_n ?_ | refine WP.ret ?_ | refine go_r ?_ | refine bo_r ?_ | (refine wp_cond (by exact rfl) (fun hc => ?_) (fun hc => ?_) <;> (try simp only [decide_eq_true_eq, decide_eq_false_iff_not, Decidable.not_not, Bool.and_eq_true, Bool.or_eq_true, Bool.not_eq_true', Bool.not_eq_false', Bool.or_eq_false_iff, Bool.and_eq_false_iff, Int.not_lt, Int.not_le, reduceCtorEq, ne_eq, Bool.not_true, Bool.not_false, Bool.not_eq_true, Bool.not_eq_false] at hc) <;> (try (exfalso; omega))) | (refine WP.regionC (id := 0) ?_; (refine se_box (by exact rfl) (by exact ⟨rfl, rfl⟩) ?_); (refine se_box (by exact rfl) (by exact ⟨rfl, rfl⟩) ?_); (refine su (ap_assign (by exact rq_p rfl rfl)) ?_); refine asemC_end ?_) | (refine WP.regionC (id := 1) ?_; (refine su (ap_load_pw (by exact rq_p rfl rfl) (by exact rfl) (by exact rfl) (by exact rfl)) ?_); (refine sc_p rfl rfl (by first | ((repeat' first | exact SubL.nil | refine SubL.cons ?_ ?_ | exact Sub.refl); done) | fail) (by first | (simp [bdL, bdL_append, AV.bd]; done) | fail) (hs) ?_); (refine su (ap_not (by exact rq_p rfl rfl)) ?_); (refine su (ap_move (by exact rq_p rfl rfl)) ?_); (refine sg (by exact gq_vf rfl rfl) (fun he => ap_load_pw (by exact rq_p rfl rfl) (by exact rfl) (by exact rfl) (by exact rfl)) ?_); (refine sg_p (by exact gq_vf rfl rfl) (fun he => ⟨(by exact rq_p rfl rfl), (RqL.cons (by exact rq_c rfl rfl) (RqL.cons (by exact rq_p rfl rfl) (RqL.nil))), (by first | ((repeat' first | exact SubL.nil | refine SubL.cons ?_ ?_ | exact Sub.refl); done) | fail), (by first | (simp [bdL, bdL_append, AV.bd]; done) | fail), ht⟩) ?_); (refine sg (by exact gq_vf rfl rfl) (fun he => ap_not (by exact rq_c rfl rfl)) ?_); (refine su (ap_or (by exact rq_p rfl rfl) (by exact rq_c rfl rfl)) ?_); (refine su (ap_move (by exact rq_p rfl rfl)) ?_); (refine sg (by exact gq_vf rfl rfl) (fun he => ap_load_pw (by exact rq_p rfl rfl) (by exact rfl) (by exact rfl) (by exact rfl)) ?_); (refine sg_p (by exact gq_vf rfl rfl) (fun he => ⟨(by exact rq_p rfl rfl), (RqL.cons (by exact rq_c rfl rfl) (RqL.nil)), (by first | ((repeat' first | exact SubL.nil | refine SubL.cons ?_ ?_ | exact Sub.refl); done) | fail), (by first | (simp [bdL, bdL_append, AV.bd]; done) | fail), h2⟩) ?_); (refine sg (by exact gq_vf rfl rfl) (fun he => ap_not (by exact rq_c rfl rfl)) ?_); (refine su (ap_or (by exact rq_p rfl rfl) (by exact rq_c rfl rfl)) ?_); (refine su (ap_move (by exact rq_p rfl rfl)) ?_); (refine sg (by exact gq_vf rfl rfl) (fun he => ap_load_pw (by exact rq_p rfl rfl) (by exact rfl) (by exact rfl) (by exact rfl)) ?_); (refine sg_p (by exact gq_vf rfl rfl) (fun he => ⟨(by exact rq_p rfl rfl), (RqL.cons (by exact rq_c rfl rfl) (RqL.nil)), (by first | ((repeat' first | exact SubL.nil | refine SubL.cons ?_ ?_ | exact Sub.refl); done) | fail), (by first | (simp [bdL, bdL_append, AV.bd]; done) | fail), rvalid_fn b hb.1 (by exfalso; simp at he; omega)⟩) ?_); (refine sg (by exact gq_vf rfl rfl) (fun he => ap_not (by exact rq_c rfl rfl)) ?_); (refine su (ap_or (by exact rq_p rfl rfl) (by exact rq_c rfl rfl)) ?_); refine asemC_end ?_) | (refine WP.regionC (id := 2) ?_; (refine sc_p rfl rfl (by first | ((repeat' (exact SubL.nil)); done) | fail) (by first | (simp [bdL, bdL_append, AV.bd]; done) | fail) (awake16_fn) ?_); (refine su (ap_assign (by exact rq_p rfl rfl)) ?_); refine asemC_end ?_) | exact ret_eq (by exact rfl) (by exact rfl) rfl))
  · refine Fn.intro (by exact rfl) (by kernel_rfl) Tryd.func6 rfl rfl Tryd.ntmps6 (by exact Nat.le_of_ble_eq_true rfl) ?_; intro Γ hm
    (repeat' (first | refine WP.seq ?_ | refine go_n ?_ | refine WP.ret ?_ | refine go_r ?_ | refine bo_r ?_ | (refine wp_cond (by exact rfl) (fun hc => ?_) (fun hc => ?_) <;> (try simp only [decide_eq_true_eq, decide_eq_false_iff_not, Decidable.not_not, Bool.and_eq_true, Bool.or_eq_true, Bool.not_eq_true', Bool.not_eq_false', Bool.or_eq_false_iff, Bool.and_eq_false_iff, Int.not_lt, Int.not_le, reduceCtorEq, ne_eq, Bool.not_true, Bool.not_false, Bool.not_eq_true, Bool.not_eq_false] at hc) <;> (try (exfalso; omega))) | (refine WP.regionC (id := 0) ?_; (refine se_box (by exact rfl) (by exact ⟨rfl, rfl⟩) ?_); (refine se_box (by exact rfl) (by exact ⟨rfl, rfl⟩) ?_); (refine su (ap_assign (by exact rq_p rfl rfl)) ?_); refine asemC_end ?_) | (refine WP.regionC (id := 1) ?_; (refine su (ap_load_pw (by exact rq_p rfl rfl) (by exact rfl) (by exact rfl) (by exact rfl)) ?_); (refine sc_p rfl rfl (by first | ((repeat' first | exact SubL.nil | refine SubL.cons ?_ ?_ | exact Sub.refl); done) | fail) (by first | (simp [bdL, bdL_append, AV.bd]; done) | fail) (hs) ?_); (refine su (ap_not (by exact rq_p rfl rfl)) ?_); (refine su (ap_move (by exact rq_p rfl rfl)) ?_); (refine sg (by exact gq_vf rfl rfl) (fun he => ap_load_pw (by exact rq_p rfl rfl) (by exact rfl) (by exact rfl) (by exact rfl)) ?_); (refine sg_p (by exact gq_vf rfl rfl) (fun he => ⟨(by exact rq_p rfl rfl), (RqL.cons (by exact rq_c rfl rfl) (RqL.cons (by exact rq_p rfl rfl) (RqL.nil))), (by first | ((repeat' first | exact SubL.nil | refine SubL.cons ?_ ?_ | exact Sub.refl); done) | fail), (by first | (simp [bdL, bdL_append, AV.bd]; done) | fail), ht⟩) ?_); (refine sg (by exact gq_vf rfl rfl) (fun he => ap_not (by exact rq_c rfl rfl)) ?_); (refine su (ap_or (by exact rq_p rfl rfl) (by exact rq_c rfl rfl)) ?_); (refine su (ap_move (by exact rq_p rfl rfl)) ?_); (refine sg (by exact gq_vf rfl rfl) (fun he => ap_load_pw (by exact rq_p rfl rfl) (by exact rfl) (by exact rfl) (by exact rfl)) ?_); (refine sg_p (by exact gq_vf rfl rfl) (fun he => ⟨(by exact rq_p rfl rfl), (RqL.cons (by exact rq_c rfl rfl) (RqL.nil)), (by first | ((repeat' first | exact SubL.nil | refine SubL.cons ?_ ?_ | exact Sub.refl); done) | fail), (by first | (simp [bdL, bdL_append, AV.bd]; done) | fail), rvalid_fn a ha.1 (by exfalso; simp at he; omega)⟩) ?_); (refine sg (by exact gq_vf rfl rfl) (fun he => ap_not (by exact rq_c rfl rfl)) ?_); (refine su (ap_or (by exact rq_p rfl rfl) (by exact rq_c rfl rfl)) ?_); (refine su (ap_move (by exact rq_p rfl rfl)) ?_); (refine sg (by exact gq_vf rfl rfl) (fun he => ap_load_pw (by exact rq_p rfl rfl) (by exact rfl) (by exact rfl) (by exact rfl)) ?_); (refine sg_p (by exact gq_vf rfl rfl) (fun he => ⟨(by exact rq_p rfl rfl), (RqL.cons (by exact rq_c rfl rfl) (RqL.nil)), (by first | ((repeat' first | exact SubL.nil | refine SubL.cons ?_ ?_ | exact Sub.refl); done) | fail), (by first | (simp [bdL, bdL_append, AV.bd]; done) | fail), rvalid_fn b hb.1 (by exfalso; simp at he; omega)⟩) ?_); (refine sg (by exact gq_vf rfl rfl) (fun he => ap_not (by exact rq_c rfl rfl)) ?_); (refine su (ap_or (by exact rq_p rfl rfl) (by exact rq_c rfl rfl)) ?_); refine asemC_end ?_) | (refine WP.regionC (id := 2) ?_; (refine sc_p rfl rfl (by first | ((repeat' (exact SubL.nil)); done) | fail) (by first | (simp [bdL, bdL_append, AV.bd]; done) | fail) (awake16_fn) ?_); (refine su (ap_assign (by exact rq_p rfl rfl)) ?_); refine asemC_end ?_) | exact ret_eq (by exact rfl) (by exact rfl) rfl))
end Go.Lg
