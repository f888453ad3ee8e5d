/-
  Part 11 of the proof of TreeParseCard: the logic over the model, the functions' contracts and the plain laws.
-/
import Derived.Test.YtfaoljcgigkonaaDoorTp10
import Derived.Test.YtfaoljcgigkonaaDoorRows

set_option linter.unusedSimpArgs false
set_option linter.unusedVariables false
set_option linter.unusedSectionVars false
set_option linter.defProp false

namespace Go.Lg
open Go.Proofs Go.RowKit Go.ChangeShapes Go.WideShapes
set_option maxRecDepth 20000
instance dat_int_i : Dat Tryd.prog 3 intA := dat_int (k := .i64) (by kernel_rfl)
instance dat_str_i : Dat Tryd.prog 9 strA := dat_string (by kernel_rfl)
instance dat_ints_i : Dat Tryd.prog 35 intsA := dat_slice (e := 3) (k := 1) (f := intA) (by kernel_rfl) (by kernel_rfl) (by decide) (fun _ => rfl)
instance dat_strs_i : Dat Tryd.prog 22 strsA := dat_slice (e := 9) (k := 1) (f := strA) (by kernel_rfl) (by kernel_rfl) (by decide) (fun _ => rfl)
instance dat_rule_i : Dat Tryd.prog 54 ruleA := dat_fields (l := [(3, 0), (35, 1), (3, 2)]) (m := 3) (by kernel_rfl) (by kernel_rfl) fun hc ⟨h0, h1, h2, _⟩ => by
  obtain ⟨a0, h0⟩ := field_dat h0 (n := 1) (by kernel_rfl)
  obtain ⟨a1, h1⟩ := field_dat h1 (n := 1) (by kernel_rfl)
  obtain ⟨a2, h2⟩ := field_dat h2 (n := 1) (by kernel_rfl)
  exact ⟨⟨a0, a1, a2⟩, CR.seg h0 (CR.seg h1 (CR.seg h2 (CR.fin (by omega))))⟩
instance dat_rules_i : Dat Tryd.prog 23 rulesA := dat_slice (e := 54) (k := 3) (f := ruleA) (by kernel_rfl) (by kernel_rfl) (by decide) (fun _ => rfl)
instance dat_gram_i : Dat Tryd.prog 25 gramA := dat_fields (l := [(22, 0), (22, 1), (3, 2), (23, 3)]) (m := 4) (by kernel_rfl) (by kernel_rfl) fun hc ⟨h0, h1, h2, h3, _⟩ => by
  obtain ⟨a0, h0⟩ := field_dat h0 (n := 1) (by kernel_rfl)
  obtain ⟨a1, h1⟩ := field_dat h1 (n := 1) (by kernel_rfl)
  obtain ⟨a2, h2⟩ := field_dat h2 (n := 1) (by kernel_rfl)
  obtain ⟨a3, h3⟩ := field_dat h3 (n := 1) (by kernel_rfl)
  exact ⟨⟨a0, a1, a2, a3⟩, CR.seg h0 (CR.seg h1 (CR.seg h2 (CR.seg h3 (CR.fin (by omega)))))⟩
theorem ownk : ownKnob Tryd.prog.godebug = none := by kernel_rfl
theorem laidk : laidOutB Tryd.prog = true := by kernel_rfl
theorem agg_gram : ∃ fs, Tryd.prog.underlying 25 = some (.struct fs) := by
  have h : ((Tryd.prog.underlying 25).map fun d => match d with | .struct _ => true | _ => false) = some true := by kernel_rfl
  cases hu : Tryd.prog.underlying 25 with
  | none => rw [hu] at h; cases h
  | some d => rw [hu] at h; cases d <;> first | exact ⟨_, rfl⟩ | cases h
theorem arg_gram {H : Type} {enc : TypeId × Value → H} {w : World} {v : Value} {d : DataW H} {ps : List MemPlace} (h : DataW.Trod enc Tryd.prog w 0 (fun _ => true) true 25 v d ps) {r : Reach} {b0 : Nat} (hval : Value.okWide Tryd.prog w r b0 25 v) : ∃ g : Gram, RW0 w (gramA g) v := by
  obtain ⟨fs, hfs⟩ := agg_gram
  exact arg_dat (f := gramA) h hval fun _ => .inr ⟨_, fs, rfl, hfs⟩
theorem arg_str {H : Type} {enc : TypeId × Value → H} {w : World} {v : Value} {d : DataW H} {ps : List MemPlace} (h : DataW.Trod enc Tryd.prog w 0 (fun _ => true) true 9 v d ps) {r : Reach} {b0 : Nat} (hval : Value.okWide Tryd.prog w r b0 9 v) : ∃ s : ByteArray, RW0 w (strA s) v := by
  have hu : Tryd.prog.underlying 9 = some .string := by kernel_rfl
  exact arg_dat (f := strA) h hval fun _ => .inl ⟨rfl, by rw [hu]; trivial⟩
end Go.Lg

namespace Go.Lg
open Go.RowKit Go.ChangeShapes Go.WideShapes
structure DatB (P : Program) (t : TypeId) {α : Type} (f : α → AV) (m : Nat) : Prop where
  dat : ∀ {H : Type} {enc : TypeId × Value → H} {w : World} {fuel : Nat} {cs : List Value} {x : DataW H × List MemPlace}, fuel < m →
    DataW.trod enc P w 0 (fun _ => true) true fuel t cs = some x → ∃ a : α, CW0 w (f a).cells cs
theorem DatB.zero {P : Program} {t : TypeId} {α : Type} {f : α → AV} : DatB P t f 0 := ⟨fun h => absurd h (Nat.not_lt_zero _)⟩
section
variable {P : Program} {w : World}
end
end Go.Lg

namespace Go.Lg
structure NRul where
  kind : Int
  head : Int
  a : Int
  b : Int
  price : Int
  origin : Int
  deriving DecidableEq
structure Nrm where
  terms : Int
  nonterms : Int
  start : Int
  rules : List NRul
  deriving DecidableEq
instance : Inhabited NRul := ⟨⟨0, 0, 0, 0, 0, 0⟩⟩
def nruleA (r : NRul) : AV := .agg [intA r.kind, intA r.head, intA r.a, intA r.b, intA r.price, intA r.origin]
def nrulesA (l : List NRul) : AV := .sl 6 (l.map nruleA)
def nrmA (n : Nrm) : AV := .agg [intA n.terms, intA n.nonterms, intA n.start, nrulesA n.rules]
@[simp] theorem bd_nruleA (n : Nat) (r : NRul) : (nruleA r).bd n = true := by simp [nruleA, AV.bd, bdL]
@[simp] theorem bdL_nruleA (n : Nat) (l : List NRul) : bdL n (l.map nruleA) = true := bdL_map (bd_nruleA n) l
@[simp] theorem bd_nrulesA (n : Nat) (l : List NRul) : (nrulesA l).bd n = true := bdL_nruleA n l
@[simp] theorem bd_nrmA (n : Nat) (g : Nrm) : (nrmA g).bd n = true := by simp [nrmA, AV.bd, bdL]
inductive Prs where
  | mk (rule : Int) (kids : List Prs)
namespace Prs
def rule : Prs → Int | .mk r _ => r
def kids : Prs → List Prs | .mk _ l => l
theorem ind {P : Prs → Prop} (h : ∀ e : Prs, (∀ x, x ∈ e.kids → P x) → P e) : ∀ e, P e :=
  fun e => Prs.rec (motive_1 := P) (motive_2 := fun l => ∀ x, x ∈ l → P x) (fun r l ih => h _ ih) (fun x hx => by cases hx) (fun a l ha hl x hx => by
    rcases List.mem_cons.1 hx with rfl | hx
    · exact ha
    · exact hl x hx) e
theorem ext' {a b : Prs} (h1 : a.rule = b.rule) (h2 : a.kids = b.kids) : a = b := by
  cases a; cases b; simp only [rule, kids] at h1 h2; subst h1 h2; rfl
end Prs
instance : Inhabited Prs := ⟨.mk 0 []⟩
mutual
def pkL : Prs → List AV
  | .mk _ l => prssL l
def prssL : List Prs → List AV
  | [] => []
  | e :: l => .agg [intA e.rule, .sl 2 (pkL e)] :: prssL l
end
def prsA (e : Prs) : AV := .agg [intA e.rule, .sl 2 (pkL e)]
theorem prssL_map : ∀ l : List Prs, prssL l = l.map prsA
  | [] => rfl
  | e :: l => by rw [prssL, prssL_map l]; rfl
theorem pkL_map (e : Prs) : pkL e = e.kids.map prsA := by cases e; rw [pkL, prssL_map]; rfl
@[simp] theorem pkL_len (e : Prs) : (pkL e).length = e.kids.length := by rw [pkL_map, List.length_map]
theorem prsA_eq (e : Prs) : prsA e = .agg [intA e.rule, .sl 2 (e.kids.map prsA)] := by rw [prsA, pkL_map]
@[simp] theorem bd_prsA (n : Nat) (e : Prs) : (prsA e).bd n = true := by
  induction e using Prs.ind with
  | h e ih =>
    rw [prsA_eq]
    have : bdL n (e.kids.map prsA) = true := by
      rw [bdL_iff]
      intro x hx
      obtain ⟨y, hy, rfl⟩ := List.mem_map.1 hx
      exact ih y hy
    simp [AV.bd, bdL, this]
def prssA (l : List Prs) : AV := .sl 2 (l.map prsA)
@[simp] theorem bdL_prss (n : Nat) (l : List Prs) : bdL n (l.map prsA) = true := bdL_map (bd_prsA n) l
@[simp] theorem bdL_pkL (n : Nat) (e : Prs) : bdL n (pkL e) = true := by rw [pkL_map]; exact bdL_prss n _
@[simp] theorem bd_prssA (n : Nat) (l : List Prs) : (prssA l).bd n = true := bdL_prss n l
inductive Tre where
  | mk (rule term : Int) (kids : List Tre)
namespace Tre
def rule : Tre → Int | .mk r _ _ => r
def term : Tre → Int | .mk _ t _ => t
def kids : Tre → List Tre | .mk _ _ l => l
theorem ind {P : Tre → Prop} (h : ∀ e : Tre, (∀ x, x ∈ e.kids → P x) → P e) : ∀ e, P e :=
  fun e => Tre.rec (motive_1 := P) (motive_2 := fun l => ∀ x, x ∈ l → P x) (fun r t l ih => h _ ih) (fun x hx => by cases hx) (fun a l ha hl x hx => by
    rcases List.mem_cons.1 hx with rfl | hx
    · exact ha
    · exact hl x hx) e
theorem ext' {a b : Tre} (h1 : a.rule = b.rule) (h2 : a.term = b.term) (h3 : a.kids = b.kids) : a = b := by
  cases a; cases b; simp only [rule, term, kids] at h1 h2 h3; subst h1 h2 h3; rfl
end Tre
instance : Inhabited Tre := ⟨.mk 0 0 []⟩
mutual
def tkL' : Tre → List AV
  | .mk _ _ l => tresL l
def tresL : List Tre → List AV
  | [] => []
  | e :: l => .agg [intA e.rule, intA e.term, .sl 3 (tkL' e)] :: tresL l
end
def treA (e : Tre) : AV := .agg [intA e.rule, intA e.term, .sl 3 (tkL' e)]
theorem tresL_map : ∀ l : List Tre, tresL l = l.map treA
  | [] => rfl
  | e :: l => by rw [tresL, tresL_map l]; rfl
theorem tkL'_map (e : Tre) : tkL' e = e.kids.map treA := by cases e; rw [tkL', tresL_map]; rfl
@[simp] theorem tkL'_len (e : Tre) : (tkL' e).length = e.kids.length := by rw [tkL'_map, List.length_map]
theorem treA_eq (e : Tre) : treA e = .agg [intA e.rule, intA e.term, .sl 3 (e.kids.map treA)] := by rw [treA, tkL'_map]
@[simp] theorem bd_treA (n : Nat) (e : Tre) : (treA e).bd n = true := by
  induction e using Tre.ind with
  | h e ih =>
    rw [treA_eq]
    have : bdL n (e.kids.map treA) = true := by
      rw [bdL_iff]
      intro x hx
      obtain ⟨y, hy, rfl⟩ := List.mem_map.1 hx
      exact ih y hy
    simp [AV.bd, bdL, this]
def tresA (l : List Tre) : AV := .sl 3 (l.map treA)
@[simp] theorem bdL_tres (n : Nat) (l : List Tre) : bdL n (l.map treA) = true := bdL_map (bd_treA n) l
@[simp] theorem bdL_tkL' (n : Nat) (e : Tre) : bdL n (tkL' e) = true := by rw [tkL'_map]; exact bdL_tres n _
@[simp] theorem bd_tresA (n : Nat) (l : List Tre) : (tresA l).bd n = true := bdL_tres n l
theorem treA_kids (e : Tre) : treA e = .agg [intA e.rule, intA e.term, tresA e.kids] := treA_eq e
structure Cas where
  g : Gram
  t : Tre
  p : Prs
def casA (x : Cas) : AV := .agg [strsA x.g.terms, strsA x.g.nonterms, intA x.g.start, rulesA x.g.rules, intA x.t.rule, intA x.t.term, .sl 3 (tkL' x.t), intA x.p.rule, .sl 2 (pkL x.p)]
@[simp] theorem bd_casA (n : Nat) (x : Cas) : (casA x).bd n = true := by simp [casA, AV.bd, bdL]
end Go.Lg

namespace Go.Lg
open Go.Proofs Go.RowKit Go.ChangeShapes Go.WideShapes
set_option maxRecDepth 20000
end Go.Lg
