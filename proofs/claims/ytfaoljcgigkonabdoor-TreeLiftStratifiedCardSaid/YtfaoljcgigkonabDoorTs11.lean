/-
  Part 11 of the proof of TreeLiftStratifiedCard: the logic over the model, the functions' contracts and the plain laws.
-/
import Derived.Test.YtfaoljcgigkonabDoorTs10
import Derived.Test.YtfaoljcgigkonabDoorRows
set_option linter.unusedSimpArgs false
set_option linter.unusedVariables false
set_option linter.unusedSectionVars false
set_option linter.defProp false
set_option maxRecDepth 20000
namespace Go.Lg
open Go.Proofs Go.RowKit Go.ChangeShapes Go.WideShapes
instance dat_int_i : Dat Tryd.prog 3 intA := dat_int (k := .i64) (by kernel_rfl)
instance dat_str_i : Dat Tryd.prog 9 strA := dat_string (by kernel_rfl)
instance dat_ints_i : Dat Tryd.prog 33 intsA := dat_slice (e := 3) (k := 1) (f := intA) (by kernel_rfl) (by kernel_rfl) (by decide) (fun _ => rfl)
instance dat_strs_i : Dat Tryd.prog 22 strsA := dat_slice (e := 9) (k := 1) (f := strA) (by kernel_rfl) (by kernel_rfl) (by decide) (fun _ => rfl)
instance dat_rule_i : Dat Tryd.prog 45 ruleA := dat_fields (l := [(3, 0), (33, 1), (3, 2)]) (m := 3) (by kernel_rfl) (by kernel_rfl) fun hc ⟨h0, h1, h2, _⟩ => by
 obtain ⟨a0, h0⟩ := field_dat h0 (n := 1) (by kernel_rfl)
 obtain ⟨a1, h1⟩ := field_dat h1 (n := 1) (by kernel_rfl)
 obtain ⟨a2, h2⟩ := field_dat h2 (n := 1) (by kernel_rfl)
 exact ⟨⟨a0, a1, a2⟩, CR.seg h0 (CR.seg h1 (CR.seg h2 (CR.fin (by omega))))⟩
instance dat_rules_i : Dat Tryd.prog 23 rulesA := dat_slice (e := 45) (k := 3) (f := ruleA) (by kernel_rfl) (by kernel_rfl) (by decide) (fun _ => rfl)
instance dat_gram_i : Dat Tryd.prog 25 gramA := dat_fields (l := [(22, 0), (22, 1), (3, 2), (23, 3)]) (m := 4) (by kernel_rfl) (by kernel_rfl) fun hc ⟨h0, h1, h2, h3, _⟩ => by
 obtain ⟨a0, h0⟩ := field_dat h0 (n := 1) (by kernel_rfl)
 obtain ⟨a1, h1⟩ := field_dat h1 (n := 1) (by kernel_rfl)
 obtain ⟨a2, h2⟩ := field_dat h2 (n := 1) (by kernel_rfl)
 obtain ⟨a3, h3⟩ := field_dat h3 (n := 1) (by kernel_rfl)
 exact ⟨⟨a0, a1, a2, a3⟩, CR.seg h0 (CR.seg h1 (CR.seg h2 (CR.seg h3 (CR.fin (by omega)))))⟩
theorem ownk : ownKnob Tryd.prog.godebug = none := by kernel_rfl
theorem laidk : laidOutB Tryd.prog = true := by kernel_rfl
theorem agg_gram : ∃ fs, Tryd.prog.underlying 25 = some (.struct fs) := by
 have h : ((Tryd.prog.underlying 25).map fun d => match d with | .struct _ => true | _ => false) = some true := by kernel_rfl
 cases hu : Tryd.prog.underlying 25 with
 | none => rw [hu] at h; cases h
 | some d => rw [hu] at h; cases d <;> first | exact ⟨_, rfl⟩ | cases h
theorem arg_gram {H : Type} {enc : TypeId × Value -> H} {w : World} {v : Value} {d : DataW H} {ps : List MemPlace} (h : DataW.Trod enc Tryd.prog w 0 (fun _ => true) true 25 v d ps) {r : Reach} {b0 : Nat} (hval : Value.okWide Tryd.prog w r b0 25 v) : ∃ g : Gram, RW0 w (gramA g) v := by
 obtain ⟨fs, hfs⟩ := agg_gram
 exact arg_dat (f := gramA) h hval fun _ => .inr ⟨_, fs, rfl, hfs⟩
end Go.Lg
namespace Go.Lg
open Go.RowKit Go.ChangeShapes Go.WideShapes
structure DatB (P : Program) (t : TypeId) {α : Type} (f : α -> AV) (m : Nat) : Prop where
 dat : ∀ {H : Type} {enc : TypeId × Value -> H} {w : World} {fuel : Nat} {cs : List Value} {x : DataW H × List MemPlace}, fuel < m ->
  DataW.trod enc P w 0 (fun _ => true) true fuel t cs = some x -> ∃ a : α, CW0 w (f a).cells cs
theorem DatB.zero {P : Program} {t : TypeId} {α : Type} {f : α -> AV} : DatB P t f 0 := ⟨fun h => absurd h (Nat.not_lt_zero _)⟩
theorem Dat.ofB {P : Program} {t : TypeId} {α : Type} {f : α -> AV} (h : ∀ m, DatB P t f m) : Dat P t f := ⟨fun {H} {enc} {w} {fuel} {cs} {x} hx => (h (fuel + 1)).dat (Nat.lt_succ_self _) hx⟩
section
variable {P : Program} {w : World}
theorem datb_slice {t e : TypeId} {α : Type} {f : α -> AV} {k m : Nat} (ht : P.underlying t = some (.slice e)) (hk : P.cellsOf e = k) (hk0 : 0 < k) (hf : ∀ a, (f a).cells.length = k) (he : DatB P e f m) : DatB P t (fun l : List α => AV.sl k (l.map f)) (m + 1) := ⟨fun {H} {enc} {w} {fuel} {cs} {x} hfu h => by
 rcases DataW.trod_slice ht h with ⟨rfl, _⟩ | ⟨a, len, cap, elems, rest, n, hn, rfl, rfl, hb, hl, hm, hlen, hel, _⟩
 ·exact ⟨[], CR.one .nils rfl⟩
 ·have each : ∀ i, i < elems.length -> ∃ y : α, ∃ cs : List Value, CW0 w (f y).cells cs /\ ∀ j, j < k -> w.cell? ((a.add (i * k)).add j) = cs[j]? := fun i hi => by
   have := hel i (by omega)
   rw [List.getElem?_eq_getElem hi, Option.bind_eq_some_iff, hk] at this
   obtain ⟨cs, h1, h2⟩ := this
   obtain ⟨y, hy⟩ := he.dat (by omega) h2
   exact ⟨y, cs, hy, (World.cells?_some h1).2.2⟩
  obtain ⟨zs, h1, h2⟩ := list_of_each each
  refine ⟨zs, ?_⟩
  cases zs with
  | nil =>
   have : len = 0 := by simp at h1; omega
   subst this
   exact CR.one .nils rfl
  | cons y zs =>
   obtain ⟨cs0, c1, c2⟩ := h2 0 y rfl
   have hcs0 : cs0.length = k := by rw [c1.len, hf]
   have hcell0 : w.cell? ((a.add (0 * k)).add 0) = some (cs0[0]'(by omega)) := by rw [c2 0 hk0, List.getElem?_eq_getElem (by omega)]
   have hsp : a.spot = none := by
    have := World.cell?_spot hcell0
    simpa [Addr.add] using this
   obtain ⟨b, o, sp⟩ := a
   simp only at hsp; subst hsp
   have hlt : b < w.heap.size := by
    have : w.cell? ⟨b, o, none⟩ ≠ none := by
     have := hcell0
     simp [Addr.add] at this
     rw [this]; simp
    by_cases hb : b < w.heap.size
    ·exact hb
    ·exfalso; apply this; unfold World.cell?; simp [Array.getElem?_eq_none (Nat.le_of_not_lt hb)]
   obtain ⟨g, hg⟩ := cr_flat (k := k) (cell := fun j => w.cell? ⟨b, j, none⟩) ((y :: zs).map f) o (fun e he => by obtain ⟨z, _, rfl⟩ := List.mem_map.1 he; exact hf z) (fun i e hi => by
    rw [List.getElem?_map, Option.map_eq_some_iff] at hi
    obtain ⟨z, hz, rfl⟩ := hi
    obtain ⟨cs, q1, q2⟩ := h2 i z hz
    refine ⟨cs, q1, fun j hj => ?_⟩
    have := q2 j hj
    rwa [add_lit, add_lit] at this)
   have hlen' : ((y :: zs).map f).length = len := by simp only [List.length_map]; omega
   have key : RW0 w (.sl k ((y :: zs).map f)) (.slice (some ⟨b, o, none⟩) ((y :: zs).map f).length cap) :=
    .sl g ⟨by omega, hm⟩ hlt (fun e he => by obtain ⟨z, _, rfl⟩ := List.mem_map.1 he; exact hf z) (fun j hj => (hg j hj).1) (fun j hj => (hg j hj).2.1) (fun j x hx => (hg j ((List.getElem?_eq_some_iff.1 hx).1)).2.2 x hx)
   rw [hlen'] at key
   exact CR.one key rfl⟩
def eachFieldN {H : Type} (enc : TypeId × Value -> H) (P : Program) (w : World) (n : Nat) (cs : List Value) : List (TypeId × Nat) -> Prop
 | [] => True
 | (t, o) :: r => (∃ x, DataW.trod enc P w 0 (fun _ => true) true n t ((cs.drop o).take (P.cellsOf t)) = some x) /\ eachFieldN enc P w n cs r
theorem datb_fields {t : TypeId} {l : List (TypeId × Nat)} {α : Type} {f : α -> AV} {mm m : Nat} (hl : fieldTO P t = some l) (hm : P.cellsOf t = mm)
  (h : ∀ {H : Type} {enc : TypeId × Value -> H} {w : World} {n : Nat} {cs : List Value}, n < m -> cs.length = mm -> eachFieldN enc P w n cs l -> ∃ a : α, CW0 w (f a).cells (cs.drop 0)) : DatB P t f (m + 1) := ⟨fun {H} {enc} {w} {fuel} {cs} {x} hfu hx => by
 unfold fieldTO at hl
 split at hl
 ·rename_i fs ht
  injection hl with hl
  obtain ⟨xs, n, hn, rfl, hlc, hlen, hf⟩ := DataW.trod_struct ht hx
  rw [hm] at hlc
  have hall : ∀ g, g ∈ fs.toList -> ∃ x, DataW.trod enc P w 0 (fun _ => true) true n g.type ((cs.drop g.offset).take (P.cellsOf g.type)) = some x := fun g hg => by
   obtain ⟨i, hi⟩ := List.getElem?_of_mem hg
   have hi' : fs[i]? = some g := by rw [<- Array.getElem?_toList]; exact hi
   have hil : i < xs.length := by rw [hlen]; exact (Array.getElem?_eq_some_iff.1 hi').1
   exact ⟨xs[i], by rw [hf i g hi', List.getElem?_eq_getElem hil]⟩
  have gen : ∀ gs : List Field, (∀ g, g ∈ gs -> ∃ x, DataW.trod enc P w 0 (fun _ => true) true n g.type ((cs.drop g.offset).take (P.cellsOf g.type)) = some x) -> eachFieldN enc P w n cs (gs.map fun g => (g.type, g.offset)) := by
   intro gs
   induction gs with
   | nil => intro _; trivial
   | cons g gs ih => intro hg; exact ⟨hg g (by simp), ih fun g hg' => hg g (by simp [hg'])⟩
  have := h (enc := enc) (w := w) (n := n) (by omega) hlc (by rw [<- hl]; exact gen _ hall)
  simpa using this
 ·cases hl⟩
theorem fieldn_dat {H : Type} {enc : TypeId × Value -> H} {t : TypeId} {o n k : Nat} {α : Type} {f : α -> AV} {cs : List Value} [hd : Dat P t f] (h : ∃ x, DataW.trod enc P w 0 (fun _ => true) true n t ((cs.drop o).take (P.cellsOf t)) = some x) (hn : P.cellsOf t = k) : ∃ a : α, CW0 w (f a).cells ((cs.drop o).take k) := by
 obtain ⟨x, hx⟩ := h
 rw [hn] at hx
 exact hd.dat hx
theorem fieldb_dat {H : Type} {enc : TypeId × Value -> H} {t : TypeId} {o n k m : Nat} {α : Type} {f : α -> AV} {cs : List Value} (hd : DatB P t f m) (hlt : n < m) (h : ∃ x, DataW.trod enc P w 0 (fun _ => true) true n t ((cs.drop o).take (P.cellsOf t)) = some x) (hn : P.cellsOf t = k) : ∃ a : α, CW0 w (f a).cells ((cs.drop o).take k) := by
 obtain ⟨x, hx⟩ := h
 rw [hn] at hx
 exact hd.dat hlt hx
end
end Go.Lg
namespace Go.Lg
structure NRul where
 kind : Int
 head : Int
 a : Int
 b : Int
 price : Int
 origin : Int
 deriving DecidableEq
structure Nrm where
 terms : Int
 nonterms : Int
 start : Int
 rules : List NRul
 deriving DecidableEq
instance : Inhabited NRul := ⟨⟨0, 0, 0, 0, 0, 0⟩⟩
def nruleA (r : NRul) : AV := .agg [intA r.kind, intA r.head, intA r.a, intA r.b, intA r.price, intA r.origin]
def nrulesA (l : List NRul) : AV := .sl 6 (l.map nruleA)
def nrmA (n : Nrm) : AV := .agg [intA n.terms, intA n.nonterms, intA n.start, nrulesA n.rules]
@[simp] theorem bd_nruleA (n : Nat) (r : NRul) : (nruleA r).bd n = true := by simp [nruleA, AV.bd, bdL]
@[simp] theorem bdL_nruleA (n : Nat) (l : List NRul) : bdL n (l.map nruleA) = true := bdL_map (bd_nruleA n) l
@[simp] theorem bd_nrulesA (n : Nat) (l : List NRul) : (nrulesA l).bd n = true := bdL_nruleA n l
@[simp] theorem bd_nrmA (n : Nat) (g : Nrm) : (nrmA g).bd n = true := by simp [nrmA, AV.bd, bdL]
inductive Prs where
 | mk (rule : Int) (kids : List Prs)
namespace Prs
def rule : Prs -> Int | .mk r _ => r
def kids : Prs -> List Prs | .mk _ l => l
theorem ind {P : Prs -> Prop} (h : ∀ e : Prs, (∀ x, x ∈ e.kids -> P x) -> P e) : ∀ e, P e :=
 fun e => Prs.rec (motive_1 := P) (motive_2 := fun l => ∀ x, x ∈ l -> P x) (fun r l ih => h _ ih) (fun x hx => by cases hx) (fun a l ha hl x hx => by
  rcases List.mem_cons.1 hx with rfl | hx
  ·exact ha
  ·exact hl x hx) e
theorem ext' {a b : Prs} (h1 : a.rule = b.rule) (h2 : a.kids = b.kids) : a = b := by
 cases a; cases b; simp only [rule, kids] at h1 h2; subst h1 h2; rfl
end Prs
instance : Inhabited Prs := ⟨.mk 0 []⟩
mutual
def pkL : Prs -> List AV
 | .mk _ l => prssL l
def prssL : List Prs -> List AV
 | [] => []
 | e :: l => .agg [intA e.rule, .sl 2 (pkL e)] :: prssL l
end
def prsA (e : Prs) : AV := .agg [intA e.rule, .sl 2 (pkL e)]
theorem prssL_map : ∀ l : List Prs, prssL l = l.map prsA
 | [] => rfl
 | e :: l => by rw [prssL, prssL_map l]; rfl
theorem pkL_map (e : Prs) : pkL e = e.kids.map prsA := by cases e; rw [pkL, prssL_map]; rfl
@[simp] theorem pkL_len (e : Prs) : (pkL e).length = e.kids.length := by rw [pkL_map, List.length_map]
theorem prsA_eq (e : Prs) : prsA e = .agg [intA e.rule, .sl 2 (e.kids.map prsA)] := by rw [prsA, pkL_map]
@[simp] theorem bd_prsA (n : Nat) (e : Prs) : (prsA e).bd n = true := by
 induction e using Prs.ind with
 | h e ih =>
  rw [prsA_eq]
  have : bdL n (e.kids.map prsA) = true := by
   rw [bdL_iff]
   intro x hx
   obtain ⟨y, hy, rfl⟩ := List.mem_map.1 hx
   exact ih y hy
  simp [AV.bd, bdL, this]
def prssA (l : List Prs) : AV := .sl 2 (l.map prsA)
@[simp] theorem bdL_prss (n : Nat) (l : List Prs) : bdL n (l.map prsA) = true := bdL_map (bd_prsA n) l
@[simp] theorem bdL_pkL (n : Nat) (e : Prs) : bdL n (pkL e) = true := by rw [pkL_map]; exact bdL_prss n _
@[simp] theorem bd_prssA (n : Nat) (l : List Prs) : (prssA l).bd n = true := bdL_prss n l
inductive Tre where
 | mk (rule term : Int) (kids : List Tre)
namespace Tre
def rule : Tre -> Int | .mk r _ _ => r
def term : Tre -> Int | .mk _ t _ => t
def kids : Tre -> List Tre | .mk _ _ l => l
theorem ind {P : Tre -> Prop} (h : ∀ e : Tre, (∀ x, x ∈ e.kids -> P x) -> P e) : ∀ e, P e :=
 fun e => Tre.rec (motive_1 := P) (motive_2 := fun l => ∀ x, x ∈ l -> P x) (fun r t l ih => h _ ih) (fun x hx => by cases hx) (fun a l ha hl x hx => by
  rcases List.mem_cons.1 hx with rfl | hx
  ·exact ha
  ·exact hl x hx) e
theorem ext' {a b : Tre} (h1 : a.rule = b.rule) (h2 : a.term = b.term) (h3 : a.kids = b.kids) : a = b := by
 cases a; cases b; simp only [rule, term, kids] at h1 h2 h3; subst h1 h2 h3; rfl
end Tre
instance : Inhabited Tre := ⟨.mk 0 0 []⟩
mutual
def tkL' : Tre -> List AV
 | .mk _ _ l => tresL l
def tresL : List Tre -> List AV
 | [] => []
 | e :: l => .agg [intA e.rule, intA e.term, .sl 3 (tkL' e)] :: tresL l
end
def treA (e : Tre) : AV := .agg [intA e.rule, intA e.term, .sl 3 (tkL' e)]
theorem tresL_map : ∀ l : List Tre, tresL l = l.map treA
 | [] => rfl
 | e :: l => by rw [tresL, tresL_map l]; rfl
theorem tkL'_map (e : Tre) : tkL' e = e.kids.map treA := by cases e; rw [tkL', tresL_map]; rfl
@[simp] theorem tkL'_len (e : Tre) : (tkL' e).length = e.kids.length := by rw [tkL'_map, List.length_map]
theorem treA_eq (e : Tre) : treA e = .agg [intA e.rule, intA e.term, .sl 3 (e.kids.map treA)] := by rw [treA, tkL'_map]
@[simp] theorem bd_treA (n : Nat) (e : Tre) : (treA e).bd n = true := by
 induction e using Tre.ind with
 | h e ih =>
  rw [treA_eq]
  have : bdL n (e.kids.map treA) = true := by
   rw [bdL_iff]
   intro x hx
   obtain ⟨y, hy, rfl⟩ := List.mem_map.1 hx
   exact ih y hy
  simp [AV.bd, bdL, this]
def tresA (l : List Tre) : AV := .sl 3 (l.map treA)
@[simp] theorem bdL_tres (n : Nat) (l : List Tre) : bdL n (l.map treA) = true := bdL_map (bd_treA n) l
@[simp] theorem bdL_tkL' (n : Nat) (e : Tre) : bdL n (tkL' e) = true := by rw [tkL'_map]; exact bdL_tres n _
@[simp] theorem bd_tresA (n : Nat) (l : List Tre) : (tresA l).bd n = true := bdL_tres n l
theorem treA_kids (e : Tre) : treA e = .agg [intA e.rule, intA e.term, tresA e.kids] := treA_eq e
structure Cas where
 g : Gram
 t : Tre
 p : Prs
def casA (x : Cas) : AV := .agg [strsA x.g.terms, strsA x.g.nonterms, intA x.g.start, rulesA x.g.rules, intA x.t.rule, intA x.t.term, .sl 3 (tkL' x.t), intA x.p.rule, .sl 2 (pkL x.p)]
@[simp] theorem bd_casA (n : Nat) (x : Cas) : (casA x).bd n = true := by simp [casA, AV.bd, bdL]
end Go.Lg
namespace Go.Lg
open Go.Proofs Go.RowKit Go.ChangeShapes Go.WideShapes
theorem datb_tre : ∀ m, DatB Tryd.prog 29 treA m := by
 intro m
 induction m using Nat.strongRecOn with
 | _ m ih =>
  match m with
  | 0 => exact .zero
  | m + 1 =>
   refine datb_fields (l := [(3, 0), (3, 1), (27, 2)]) (mm := 3) (by kernel_rfl) (by kernel_rfl) fun {H} {enc} {w} {n} {cs} hn hc ⟨h0, h1, h2, _⟩ => ?_
   have hsl : DatB Tryd.prog 27 (fun l : List Tre => AV.sl 3 (l.map treA)) (n + 1) :=
    datb_slice (e := 29) (k := 3) (by kernel_rfl) (by kernel_rfl) (by decide) (fun _ => rfl) (ih n (by omega))
   obtain ⟨a0, h0⟩ := fieldn_dat h0 (k := 1) (by kernel_rfl)
   obtain ⟨a1, h1⟩ := fieldn_dat h1 (k := 1) (by kernel_rfl)
   obtain ⟨a2, h2⟩ := fieldb_dat hsl (Nat.lt_succ_self _) h2 (k := 1) (by kernel_rfl)
   refine ⟨.mk a0 a1 a2, ?_⟩
   rw [treA_eq]
   exact CR.seg h0 (CR.seg h1 (CR.seg h2 (CR.fin (by omega))))
instance dat_tre_i : Dat Tryd.prog 29 treA := Dat.ofB datb_tre
theorem agg_ty {t : TypeId} (h : ((Tryd.prog.underlying t).map fun d => match d with | .struct _ => true | _ => false) = some true) : ∃ fs, Tryd.prog.underlying t = some (.struct fs) := by
 cases hu : Tryd.prog.underlying t with
 | none => rw [hu] at h; cases h
 | some d => rw [hu] at h; cases d <;> first | exact ⟨_, rfl⟩ | cases h
theorem arg_tree {H : Type} {enc : TypeId × Value -> H} {w : World} {v : Value} {d : DataW H} {ps : List MemPlace} (h : DataW.Trod enc Tryd.prog w 0 (fun _ => true) true 29 v d ps) {r : Reach} {b0 : Nat} (hval : Value.okWide Tryd.prog w r b0 29 v) : ∃ g : Tre, RW0 w (treA g) v := by
 obtain ⟨fs, hfs⟩ := agg_ty (t := 29) (by kernel_rfl)
 exact arg_dat (f := treA) h hval fun a => .inr ⟨_, fs, treA_eq a, hfs⟩
end Go.Lg
namespace Go.Lg
inductive GEx where
 | mk (kind : Int) (name : ByteArray) (kids : List GEx)
namespace GEx
def kind : GEx -> Int | .mk k _ _ => k
def name : GEx -> ByteArray | .mk _ n _ => n
def kids : GEx -> List GEx | .mk _ _ l => l
theorem ind {P : GEx -> Prop} (h : ∀ e : GEx, (∀ x, x ∈ e.kids -> P x) -> P e) : ∀ e, P e :=
 fun e => GEx.rec (motive_1 := P) (motive_2 := fun l => ∀ x, x ∈ l -> P x) (fun k n l ih => h _ ih) (fun x hx => by cases hx) (fun a l ha hl x hx => by
  rcases List.mem_cons.1 hx with rfl | hx
  ·exact ha
  ·exact hl x hx) e
theorem ext' {a b : GEx} (h1 : a.kind = b.kind) (h2 : a.name = b.name) (h3 : a.kids = b.kids) : a = b := by
 cases a; cases b; simp only [kind, name, kids] at h1 h2 h3; subst h1 h2 h3; rfl
end GEx
mutual
def kidsL : GEx -> List AV
 | .mk _ _ l => exprsL l
def exprsL : List GEx -> List AV
 | [] => []
 | e :: l => .agg [intA e.kind, strA e.name, .sl 3 (kidsL e)] :: exprsL l
end
def exprA (e : GEx) : AV := .agg [intA e.kind, strA e.name, .sl 3 (kidsL e)]
theorem exprsL_map : ∀ l : List GEx, exprsL l = l.map exprA
 | [] => rfl
 | e :: l => by rw [exprsL, exprsL_map l]; rfl
theorem kidsL_map (e : GEx) : kidsL e = e.kids.map exprA := by cases e; rw [kidsL, exprsL_map]; rfl
@[simp] theorem kidsL_len (e : GEx) : (kidsL e).length = e.kids.length := by rw [kidsL_map, List.length_map]
theorem exprA_eq (e : GEx) : exprA e = .agg [intA e.kind, strA e.name, .sl 3 (e.kids.map exprA)] := by rw [exprA, kidsL_map]
@[simp] theorem bd_exprA (n : Nat) (e : GEx) : (exprA e).bd n = true := by
 induction e using GEx.ind with
 | h e ih =>
  rw [exprA_eq]
  have : bdL n (e.kids.map exprA) = true := by
   rw [bdL_iff]
   intro x hx
   obtain ⟨y, hy, rfl⟩ := List.mem_map.1 hx
   exact ih y hy
  simp [AV.bd, bdL, this]
@[simp] theorem bdL_exprs (n : Nat) (l : List GEx) : bdL n (l.map exprA) = true := bdL_map (bd_exprA n) l
@[simp] theorem bdL_kidsL (n : Nat) (e : GEx) : bdL n (kidsL e) = true := by rw [kidsL_map]; exact bdL_exprs n _
structure GAl where
 body : GEx
 price : Int
structure GRu where
 name : ByteArray
 alts : List GAl
structure GLe where
 assoc : Int
 tokens : List ByteArray
structure GFi where
 start : ByteArray
 levels : List GLe
 rules : List GRu
instance : Inhabited GLe := ⟨⟨0, []⟩⟩
def altA (a : GAl) : AV := .agg [intA a.body.kind, strA a.body.name, .sl 3 (kidsL a.body), intA a.price]
def altsA (l : List GAl) : AV := .sl 4 (l.map altA)
def gruleA (r : GRu) : AV := .agg [strA r.name, altsA r.alts]
def grulesA (l : List GRu) : AV := .sl 2 (l.map gruleA)
def levelA (l : GLe) : AV := .agg [intA l.assoc, strsA l.tokens]
def levelsA (l : List GLe) : AV := .sl 2 (l.map levelA)
def fileA (f : GFi) : AV := .agg [strA f.start, levelsA f.levels, grulesA f.rules]
@[simp] theorem bd_altA (n : Nat) (a : GAl) : (altA a).bd n = true := by simp [altA, AV.bd, bdL]
@[simp] theorem bdL_altA (n : Nat) (l : List GAl) : bdL n (l.map altA) = true := bdL_map (bd_altA n) l
@[simp] theorem bd_altsA (n : Nat) (l : List GAl) : (altsA l).bd n = true := bdL_altA n l
@[simp] theorem bd_gruleA (n : Nat) (r : GRu) : (gruleA r).bd n = true := by simp [gruleA, AV.bd, bdL]
@[simp] theorem bdL_gruleA (n : Nat) (l : List GRu) : bdL n (l.map gruleA) = true := bdL_map (bd_gruleA n) l
@[simp] theorem bd_grulesA (n : Nat) (l : List GRu) : (grulesA l).bd n = true := bdL_gruleA n l
@[simp] theorem bd_levelA (n : Nat) (l : GLe) : (levelA l).bd n = true := by simp [levelA, AV.bd, bdL]
@[simp] theorem bdL_levelA (n : Nat) (l : List GLe) : bdL n (l.map levelA) = true := bdL_map (bd_levelA n) l
@[simp] theorem bd_levelsA (n : Nat) (l : List GLe) : (levelsA l).bd n = true := bdL_levelA n l
@[simp] theorem bd_fileA (n : Nat) (f : GFi) : (fileA f).bd n = true := by simp [fileA, AV.bd, bdL]
end Go.Lg
namespace Go.Lg
open Go.Proofs Go.RowKit Go.ChangeShapes Go.WideShapes
instance dat_level_i : Dat Tryd.prog 47 levelA := dat_fields (l := [(3, 0), (22, 1)]) (m := 2) (by kernel_rfl) (by kernel_rfl) fun hc ⟨h0, h1, _⟩ => by
 obtain ⟨a0, h0⟩ := field_dat h0 (n := 1) (by kernel_rfl)
 obtain ⟨a1, h1⟩ := field_dat h1 (n := 1) (by kernel_rfl)
 exact ⟨⟨a0, a1⟩, CR.seg h0 (CR.seg h1 (CR.fin (by omega)))⟩
instance dat_levels_i : Dat Tryd.prog 26 levelsA := dat_slice (e := 47) (k := 2) (f := levelA) (by kernel_rfl) (by kernel_rfl) (by decide) (fun _ => rfl)
theorem arg_levels {H : Type} {enc : TypeId × Value -> H} {w : World} {v : Value} {d : DataW H} {ps : List MemPlace} (h : DataW.Trod enc Tryd.prog w 0 (fun _ => true) true 26 v d ps) {r : Reach} {b0 : Nat} (hval : Value.okWide Tryd.prog w r b0 26 v) : ∃ s : List GLe, RW0 w (levelsA s) v := by
 have hu : Tryd.prog.underlying 26 = some (.slice 47) := by kernel_rfl
 exact arg_dat (f := levelsA) h hval fun _ => .inl ⟨rfl, by rw [hu]; trivial⟩
end Go.Lg
