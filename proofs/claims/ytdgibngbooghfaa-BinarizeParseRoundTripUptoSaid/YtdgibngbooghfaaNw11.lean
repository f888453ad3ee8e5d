/-
  Part 11 of the proof of BinarizeParseRoundTripUpto: the logic over the model, the functions' contracts and the plain laws.
-/
import Derived.Test.YtdgibngbooghfaaNw10
import Derived.Test.YtdgibngbooghfaaRows

set_option linter.unusedSimpArgs false
set_option linter.unusedVariables false
set_option linter.unusedSectionVars false
set_option linter.defProp false

namespace Go.Lg
open Go.Proofs Go.RowKit Go.ChangeShapes Go.WideShapes
set_option maxRecDepth 20000
instance dat_int_i : Dat Try.prog 3 intA := dat_int (k := .i64) (by kernel_rfl)
instance dat_str_i : Dat Try.prog 9 strA := dat_string (by kernel_rfl)
instance dat_ints_i : Dat Try.prog 42 intsA := dat_slice (e := 3) (k := 1) (f := intA) (by kernel_rfl) (by kernel_rfl) (by decide) (fun _ => rfl)
instance dat_strs_i : Dat Try.prog 27 strsA := dat_slice (e := 9) (k := 1) (f := strA) (by kernel_rfl) (by kernel_rfl) (by decide) (fun _ => rfl)
instance dat_rule_i : Dat Try.prog 61 ruleA := dat_fields (l := [(3, 0), (42, 1), (3, 2)]) (m := 3) (by kernel_rfl) (by kernel_rfl) fun hc ⟨h0, h1, h2, _⟩ => by
  obtain ⟨a0, h0⟩ := field_dat h0 (n := 1) (by kernel_rfl)
  obtain ⟨a1, h1⟩ := field_dat h1 (n := 1) (by kernel_rfl)
  obtain ⟨a2, h2⟩ := field_dat h2 (n := 1) (by kernel_rfl)
  exact ⟨⟨a0, a1, a2⟩, CR.seg h0 (CR.seg h1 (CR.seg h2 (CR.fin (by omega))))⟩
instance dat_rules_i : Dat Try.prog 28 rulesA := dat_slice (e := 61) (k := 3) (f := ruleA) (by kernel_rfl) (by kernel_rfl) (by decide) (fun _ => rfl)
instance dat_gram_i : Dat Try.prog 30 gramA := dat_fields (l := [(27, 0), (27, 1), (3, 2), (28, 3)]) (m := 4) (by kernel_rfl) (by kernel_rfl) fun hc ⟨h0, h1, h2, h3, _⟩ => by
  obtain ⟨a0, h0⟩ := field_dat h0 (n := 1) (by kernel_rfl)
  obtain ⟨a1, h1⟩ := field_dat h1 (n := 1) (by kernel_rfl)
  obtain ⟨a2, h2⟩ := field_dat h2 (n := 1) (by kernel_rfl)
  obtain ⟨a3, h3⟩ := field_dat h3 (n := 1) (by kernel_rfl)
  exact ⟨⟨a0, a1, a2, a3⟩, CR.seg h0 (CR.seg h1 (CR.seg h2 (CR.seg h3 (CR.fin (by omega)))))⟩
theorem ownk : ownKnob Try.prog.godebug = none := by kernel_rfl
theorem laidk : laidOutB Try.prog = true := by kernel_rfl
end Go.Lg

namespace Go.Lg
open Go.RowKit Go.ChangeShapes Go.WideShapes
structure DatB (P : Program) (t : TypeId) {α : Type} (f : α → AV) (m : Nat) : Prop where
  dat : ∀ {H : Type} {enc : TypeId × Value → H} {w : World} {fuel : Nat} {cs : List Value} {x : DataW H × List MemPlace}, fuel < m →
    DataW.trod enc P w 0 (fun _ => true) true fuel t cs = some x → ∃ a : α, CW0 w (f a).cells cs
theorem DatB.zero {P : Program} {t : TypeId} {α : Type} {f : α → AV} : DatB P t f 0 := ⟨fun h => absurd h (Nat.not_lt_zero _)⟩
section
variable {P : Program} {w : World}
theorem fieldn_dat {H : Type} {enc : TypeId × Value → H} {t : TypeId} {o n k : Nat} {α : Type} {f : α → AV} {cs : List Value} [hd : Dat P t f] (h : ∃ x, DataW.trod enc P w 0 (fun _ => true) true n t ((cs.drop o).take (P.cellsOf t)) = some x) (hn : P.cellsOf t = k) : ∃ a : α, CW0 w (f a).cells ((cs.drop o).take k) := by
  obtain ⟨x, hx⟩ := h
  rw [hn] at hx
  exact hd.dat hx
end
end Go.Lg

namespace Go.Lg
structure NRul where
  kind : Int
  head : Int
  a : Int
  b : Int
  price : Int
  origin : Int
  deriving DecidableEq
structure Nrm where
  terms : Int
  nonterms : Int
  start : Int
  rules : List NRul
  deriving DecidableEq
instance : Inhabited NRul := ⟨⟨0, 0, 0, 0, 0, 0⟩⟩
def nruleA (r : NRul) : AV := .agg [intA r.kind, intA r.head, intA r.a, intA r.b, intA r.price, intA r.origin]
def nrulesA (l : List NRul) : AV := .sl 6 (l.map nruleA)
def nrmA (n : Nrm) : AV := .agg [intA n.terms, intA n.nonterms, intA n.start, nrulesA n.rules]
@[simp] theorem bd_nruleA (n : Nat) (r : NRul) : (nruleA r).bd n = true := by simp [nruleA, AV.bd, bdL]
@[simp] theorem bdL_nruleA (n : Nat) (l : List NRul) : bdL n (l.map nruleA) = true := bdL_map (bd_nruleA n) l
@[simp] theorem bd_nrulesA (n : Nat) (l : List NRul) : (nrulesA l).bd n = true := bdL_nruleA n l
@[simp] theorem bd_nrmA (n : Nat) (g : Nrm) : (nrmA g).bd n = true := by simp [nrmA, AV.bd, bdL]
inductive Prs where
  | mk (rule : Int) (kids : List Prs)
namespace Prs
def rule : Prs → Int | .mk r _ => r
def kids : Prs → List Prs | .mk _ l => l
theorem ind {P : Prs → Prop} (h : ∀ e : Prs, (∀ x, x ∈ e.kids → P x) → P e) : ∀ e, P e :=
  fun e => Prs.rec (motive_1 := P) (motive_2 := fun l => ∀ x, x ∈ l → P x) (fun r l ih => h _ ih) (fun x hx => by cases hx) (fun a l ha hl x hx => by
    rcases List.mem_cons.1 hx with rfl | hx
    · exact ha
    · exact hl x hx) e
theorem ext' {a b : Prs} (h1 : a.rule = b.rule) (h2 : a.kids = b.kids) : a = b := by
  cases a; cases b; simp only [rule, kids] at h1 h2; subst h1 h2; rfl
end Prs
instance : Inhabited Prs := ⟨.mk 0 []⟩
mutual
def pkL : Prs → List AV
  | .mk _ l => prssL l
def prssL : List Prs → List AV
  | [] => []
  | e :: l => .agg [intA e.rule, .sl 2 (pkL e)] :: prssL l
end
def prsA (e : Prs) : AV := .agg [intA e.rule, .sl 2 (pkL e)]
theorem prssL_map : ∀ l : List Prs, prssL l = l.map prsA
  | [] => rfl
  | e :: l => by rw [prssL, prssL_map l]; rfl
theorem pkL_map (e : Prs) : pkL e = e.kids.map prsA := by cases e; rw [pkL, prssL_map]; rfl
@[simp] theorem pkL_len (e : Prs) : (pkL e).length = e.kids.length := by rw [pkL_map, List.length_map]
theorem prsA_eq (e : Prs) : prsA e = .agg [intA e.rule, .sl 2 (e.kids.map prsA)] := by rw [prsA, pkL_map]
@[simp] theorem bd_prsA (n : Nat) (e : Prs) : (prsA e).bd n = true := by
  induction e using Prs.ind with
  | h e ih =>
    rw [prsA_eq]
    have : bdL n (e.kids.map prsA) = true := by
      rw [bdL_iff]
      intro x hx
      obtain ⟨y, hy, rfl⟩ := List.mem_map.1 hx
      exact ih y hy
    simp [AV.bd, bdL, this]
def prssA (l : List Prs) : AV := .sl 2 (l.map prsA)
@[simp] theorem bdL_prss (n : Nat) (l : List Prs) : bdL n (l.map prsA) = true := bdL_map (bd_prsA n) l
@[simp] theorem bdL_pkL (n : Nat) (e : Prs) : bdL n (pkL e) = true := by rw [pkL_map]; exact bdL_prss n _
@[simp] theorem bd_prssA (n : Nat) (l : List Prs) : (prssA l).bd n = true := bdL_prss n l
theorem prsA_kids (e : Prs) : prsA e = .agg [intA e.rule, prssA e.kids] := prsA_eq e
inductive Tre where
  | mk (rule term : Int) (kids : List Tre)
namespace Tre
def rule : Tre → Int | .mk r _ _ => r
def term : Tre → Int | .mk _ t _ => t
def kids : Tre → List Tre | .mk _ _ l => l
theorem ind {P : Tre → Prop} (h : ∀ e : Tre, (∀ x, x ∈ e.kids → P x) → P e) : ∀ e, P e :=
  fun e => Tre.rec (motive_1 := P) (motive_2 := fun l => ∀ x, x ∈ l → P x) (fun r t l ih => h _ ih) (fun x hx => by cases hx) (fun a l ha hl x hx => by
    rcases List.mem_cons.1 hx with rfl | hx
    · exact ha
    · exact hl x hx) e
theorem ext' {a b : Tre} (h1 : a.rule = b.rule) (h2 : a.term = b.term) (h3 : a.kids = b.kids) : a = b := by
  cases a; cases b; simp only [rule, term, kids] at h1 h2 h3; subst h1 h2 h3; rfl
end Tre
instance : Inhabited Tre := ⟨.mk 0 0 []⟩
mutual
def tkL' : Tre → List AV
  | .mk _ _ l => tresL l
def tresL : List Tre → List AV
  | [] => []
  | e :: l => .agg [intA e.rule, intA e.term, .sl 3 (tkL' e)] :: tresL l
end
def treA (e : Tre) : AV := .agg [intA e.rule, intA e.term, .sl 3 (tkL' e)]
theorem tresL_map : ∀ l : List Tre, tresL l = l.map treA
  | [] => rfl
  | e :: l => by rw [tresL, tresL_map l]; rfl
theorem tkL'_map (e : Tre) : tkL' e = e.kids.map treA := by cases e; rw [tkL', tresL_map]; rfl
@[simp] theorem tkL'_len (e : Tre) : (tkL' e).length = e.kids.length := by rw [tkL'_map, List.length_map]
theorem treA_eq (e : Tre) : treA e = .agg [intA e.rule, intA e.term, .sl 3 (e.kids.map treA)] := by rw [treA, tkL'_map]
@[simp] theorem bd_treA (n : Nat) (e : Tre) : (treA e).bd n = true := by
  induction e using Tre.ind with
  | h e ih =>
    rw [treA_eq]
    have : bdL n (e.kids.map treA) = true := by
      rw [bdL_iff]
      intro x hx
      obtain ⟨y, hy, rfl⟩ := List.mem_map.1 hx
      exact ih y hy
    simp [AV.bd, bdL, this]
def tresA (l : List Tre) : AV := .sl 3 (l.map treA)
@[simp] theorem bdL_tres (n : Nat) (l : List Tre) : bdL n (l.map treA) = true := bdL_map (bd_treA n) l
@[simp] theorem bdL_tkL' (n : Nat) (e : Tre) : bdL n (tkL' e) = true := by rw [tkL'_map]; exact bdL_tres n _
@[simp] theorem bd_tresA (n : Nat) (l : List Tre) : (tresA l).bd n = true := bdL_tres n l
theorem treA_kids (e : Tre) : treA e = .agg [intA e.rule, intA e.term, tresA e.kids] := treA_eq e
structure Cas where
  g : Gram
  t : Tre
  p : Prs
def casA (x : Cas) : AV := .agg [strsA x.g.terms, strsA x.g.nonterms, intA x.g.start, rulesA x.g.rules, intA x.t.rule, intA x.t.term, .sl 3 (tkL' x.t), intA x.p.rule, .sl 2 (pkL x.p)]
@[simp] theorem bd_casA (n : Nat) (x : Cas) : (casA x).bd n = true := by simp [casA, AV.bd, bdL]
end Go.Lg

namespace Go.Lg
open Go.Proofs Go.RowKit Go.ChangeShapes Go.WideShapes
set_option maxRecDepth 20000
theorem agg_ty {t : TypeId} (h : ((Try.prog.underlying t).map fun d => match d with | .struct _ => true | _ => false) = some true) : ∃ fs, Try.prog.underlying t = some (.struct fs) := by
  cases hu : Try.prog.underlying t with
  | none => rw [hu] at h; cases h
  | some d => rw [hu] at h; cases d <;> first | exact ⟨_, rfl⟩ | cases h
end Go.Lg

namespace Go.Lg
inductive GEx where
  | mk (kind : Int) (name : ByteArray) (kids : List GEx)
namespace GEx
def kind : GEx → Int | .mk k _ _ => k
def name : GEx → ByteArray | .mk _ n _ => n
def kids : GEx → List GEx | .mk _ _ l => l
theorem ind {P : GEx → Prop} (h : ∀ e : GEx, (∀ x, x ∈ e.kids → P x) → P e) : ∀ e, P e :=
  fun e => GEx.rec (motive_1 := P) (motive_2 := fun l => ∀ x, x ∈ l → P x) (fun k n l ih => h _ ih) (fun x hx => by cases hx) (fun a l ha hl x hx => by
    rcases List.mem_cons.1 hx with rfl | hx
    · exact ha
    · exact hl x hx) e
theorem ext' {a b : GEx} (h1 : a.kind = b.kind) (h2 : a.name = b.name) (h3 : a.kids = b.kids) : a = b := by
  cases a; cases b; simp only [kind, name, kids] at h1 h2 h3; subst h1 h2 h3; rfl
end GEx
mutual
def kidsL : GEx → List AV
  | .mk _ _ l => exprsL l
def exprsL : List GEx → List AV
  | [] => []
  | e :: l => .agg [intA e.kind, strA e.name, .sl 3 (kidsL e)] :: exprsL l
end
def exprA (e : GEx) : AV := .agg [intA e.kind, strA e.name, .sl 3 (kidsL e)]
theorem exprsL_map : ∀ l : List GEx, exprsL l = l.map exprA
  | [] => rfl
  | e :: l => by rw [exprsL, exprsL_map l]; rfl
theorem kidsL_map (e : GEx) : kidsL e = e.kids.map exprA := by cases e; rw [kidsL, exprsL_map]; rfl
@[simp] theorem kidsL_len (e : GEx) : (kidsL e).length = e.kids.length := by rw [kidsL_map, List.length_map]
theorem exprA_eq (e : GEx) : exprA e = .agg [intA e.kind, strA e.name, .sl 3 (e.kids.map exprA)] := by rw [exprA, kidsL_map]
@[simp] theorem bd_exprA (n : Nat) (e : GEx) : (exprA e).bd n = true := by
  induction e using GEx.ind with
  | h e ih =>
    rw [exprA_eq]
    have : bdL n (e.kids.map exprA) = true := by
      rw [bdL_iff]
      intro x hx
      obtain ⟨y, hy, rfl⟩ := List.mem_map.1 hx
      exact ih y hy
    simp [AV.bd, bdL, this]
@[simp] theorem bdL_exprs (n : Nat) (l : List GEx) : bdL n (l.map exprA) = true := bdL_map (bd_exprA n) l
@[simp] theorem bdL_kidsL (n : Nat) (e : GEx) : bdL n (kidsL e) = true := by rw [kidsL_map]; exact bdL_exprs n _
structure GAl where
  body : GEx
  price : Int
structure GRu where
  name : ByteArray
  alts : List GAl
structure GLe where
  assoc : Int
  tokens : List ByteArray
structure GFi where
  start : ByteArray
  levels : List GLe
  rules : List GRu
def altA (a : GAl) : AV := .agg [intA a.body.kind, strA a.body.name, .sl 3 (kidsL a.body), intA a.price]
def altsA (l : List GAl) : AV := .sl 4 (l.map altA)
def gruleA (r : GRu) : AV := .agg [strA r.name, altsA r.alts]
def grulesA (l : List GRu) : AV := .sl 2 (l.map gruleA)
def levelA (l : GLe) : AV := .agg [intA l.assoc, strsA l.tokens]
def levelsA (l : List GLe) : AV := .sl 2 (l.map levelA)
def fileA (f : GFi) : AV := .agg [strA f.start, levelsA f.levels, grulesA f.rules]
@[simp] theorem bd_altA (n : Nat) (a : GAl) : (altA a).bd n = true := by simp [altA, AV.bd, bdL]
@[simp] theorem bdL_altA (n : Nat) (l : List GAl) : bdL n (l.map altA) = true := bdL_map (bd_altA n) l
@[simp] theorem bd_altsA (n : Nat) (l : List GAl) : (altsA l).bd n = true := bdL_altA n l
@[simp] theorem bd_gruleA (n : Nat) (r : GRu) : (gruleA r).bd n = true := by simp [gruleA, AV.bd, bdL]
@[simp] theorem bdL_gruleA (n : Nat) (l : List GRu) : bdL n (l.map gruleA) = true := bdL_map (bd_gruleA n) l
@[simp] theorem bd_grulesA (n : Nat) (l : List GRu) : (grulesA l).bd n = true := bdL_gruleA n l
@[simp] theorem bd_levelA (n : Nat) (l : GLe) : (levelA l).bd n = true := by simp [levelA, AV.bd, bdL]
@[simp] theorem bdL_levelA (n : Nat) (l : List GLe) : bdL n (l.map levelA) = true := bdL_map (bd_levelA n) l
@[simp] theorem bd_levelsA (n : Nat) (l : List GLe) : (levelsA l).bd n = true := bdL_levelA n l
@[simp] theorem bd_fileA (n : Nat) (f : GFi) : (fileA f).bd n = true := by simp [fileA, AV.bd, bdL]
end Go.Lg

namespace Go.Lg
open Go.RowKit
def AV.ifree : AV → Bool
  | .any | .val _ | .ref _ _ _ _ | .ptr _ _ _ _ | .map _ | .yld _ => true
  | _ => false
def AObj.ifree : AObj → Bool
  | .arr _ es => es.all AV.ifree
  | .bytes _ => true
  | .bld _ x => x.ifree
  | .map _ => false
  | .lop _ _ => false
section
variable {A A' : Nat → Prop} {ρ ρ' : Nat → Option Nat} {I I' : Nat → Prop} {w : World} {π : Nat → Nat}
end
section
variable {P : Program} {Γ : Cx} {A : Nat → Prop} {ρ : Nat → Option Nat} {s : St} {a : Act} {w : World}
def shown : List AV → List AV → List Nat
  | x :: xs, y :: ys => match x, y with
    | .ref id _ _ _, .sl _ _ => id :: shown xs ys
    | _, _ => shown xs ys
  | _, _ => []
theorem shown_more {id : Nat} {x y : AV} {xs ys : List AV} (h : id ∈ shown xs ys) : id ∈ shown (x :: xs) (y :: ys) := by
  simp only [shown]
  split
  · exact List.mem_cons_of_mem _ h
  · exact h
inductive ArgS (π : Nat → Nat) (m : Nat) (look : Nat → Option AObj) : List AV → List AV → Prop
  | nil : ArgS π m look [] []
  | ren {x y : AV} {xs ys : List AV} (h : x = y.ren π) (hb : y.bd m = true) (t : ArgS π m look xs ys) : ArgS π m look (x :: xs) (y :: ys)
  | row {id k len : Nat} {es : List AV} {xs ys : List AV} (ho : look id = some (.arr k es)) (hl : es.length = len) (hb : bdL 0 es = true) (hk : ∀ e, e ∈ es → e.cells.length = k) (t : ArgS π m look xs ys) : ArgS π m look (.ref id k 0 len :: xs) (.sl k es :: ys)
theorem ArgS.len {π : Nat → Nat} {m : Nat} {look : Nat → Option AObj} {xs ys : List AV} (h : ArgS π m look xs ys) : ys.length = xs.length := by
  induction h with
  | nil => rfl
  | ren _ _ _ ih => simp [ih]
  | row _ _ _ _ _ ih => simp [ih]
theorem ArgS.get {π : Nat → Nat} {m : Nat} {look : Nat → Option AObj} {xs ys : List AV} (h : ArgS π m look xs ys) : ∀ (i : Nat) x y, xs[i]? = some x → ys[i]? = some y → (x = y.ren π ∧ y.bd m = true) ∨ ∃ id k len es, x = .ref id k 0 len ∧ y = .sl k es ∧ look id = some (.arr k es) ∧ es.length = len ∧ bdL 0 es = true ∧ (∀ e, e ∈ es → e.cells.length = k) ∧ id ∈ shown xs ys := by
  induction h with
  | nil => intro i x y hx; simp at hx
  | ren h hb _ ih =>
    intro i x y hx hy
    cases i with
    | zero => simp at hx hy; subst hx hy; exact .inl ⟨h, hb⟩
    | succ i =>
      rcases ih i x y (by simpa using hx) (by simpa using hy) with q | ⟨a, b, c, d, q1, q2, q3, q4, q5, q6, q7⟩
      · exact .inl q
      · exact .inr ⟨a, b, c, d, q1, q2, q3, q4, q5, q6, shown_more q7⟩
  | row ho hl hb hk _ ih =>
    intro i x y hx hy
    cases i with
    | zero => simp at hx hy; subst hx hy; exact .inr ⟨_, _, _, _, rfl, rfl, ho, hl, hb, hk, by simp [shown]⟩
    | succ i =>
      rcases ih i x y (by simpa using hx) (by simpa using hy) with q | ⟨a, b, c, d, q1, q2, q3, q4, q5, q6, q7⟩
      · exact .inl q
      · exact .inr ⟨a, b, c, d, q1, q2, q3, q4, q5, q6, shown_more q7⟩
end
end Go.Lg
