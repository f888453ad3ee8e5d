/-
  Part 13 of the proof of PrecedenceUnambiguousCard: the logic over the model, the functions' contracts and the plain laws.
-/
import Derived.Test.YtmgpndmmodkhhaaDoorPu12
import Derived.Test.YtmgpndmmodkhhaaDoorRows
import Derived.Shelf.Vars

set_option linter.unusedSimpArgs false
set_option linter.unusedVariables false
set_option linter.unusedSectionVars false
set_option linter.defProp false

namespace Go.Lg
open Go.Proofs Go.Proofs.YtmgpndmmodkhhaaDoor
def laid0 : List (String × DataW Unit) := [("math/bits.deBruijn32tab", Rows.laid_math_bits_deBruijn32tab), ("math/bits.deBruijn64tab", Rows.laid_math_bits_deBruijn64tab), ("internal/strconv.uint64pow10", Rows.laid_internal_strconv_uint64pow10)]
theorem gw_open {w : World} (h : w.ShapedOpen Tryd.prog) (hl : laidMetH Tryd.prog laid0 w) : GW w /\ GL <= w.heap.size := by
 rw [MakeChecks.laidMetH_plain _ _ _ (by kernel_rfl)] at hl
 obtain ⟨ps, hl, _⟩ := hl
 refine ⟨⟨?_, ?_⟩, ?_⟩
 ·intro p hp
  simp only [gints, List.mem_cons, List.mem_nil_iff, or_false] at hp
  rcases hp with rfl
  ·exact cell_of_shapedOpen_int (zero := #[.int .i64 0]) (t := 3) h (of_decide_eq_true (by kernel_rfl)) (by kernel_rfl) rfl (by kernel_rfl) (by kernel_rfl) (by kernel_rfl)
 ·intro p hp
  simp only [gtabs, List.mem_cons, List.mem_nil_iff, or_false] at hp
  rcases hp with rfl | rfl | rfl
  ·exact laid_tab (name := "math/bits.deBruijn32tab") (t := 128) (e := 5) (n := 32) (by kernel_rfl) (by kernel_rfl) (by kernel_rfl) (by kernel_rfl) (by kernel_rfl) (by kernel_rfl) hl (by simp [laid0, Lib.tabData, Rows.laid_math_bits_deBruijn32tab])
  ·exact laid_tab (name := "math/bits.deBruijn64tab") (t := 129) (e := 5) (n := 64) (by kernel_rfl) (by kernel_rfl) (by kernel_rfl) (by kernel_rfl) (by kernel_rfl) (by kernel_rfl) hl (by simp [laid0, Lib.tabData, Rows.laid_math_bits_deBruijn64tab])
  ·exact laid_tab (name := "internal/strconv.uint64pow10") (t := 122) (e := 107) (n := 20) (by kernel_rfl) (by kernel_rfl) (by kernel_rfl) (by kernel_rfl) (by kernel_rfl) (by kernel_rfl) hl (by simp [laid0, Lib.tabData, Rows.laid_internal_strconv_uint64pow10])
 ·have hs : ((((begin Tryd.prog (fun _ _ => 0) default).world.heap[3]?).bind Obj.row?).isSome) = true := by kernel_rfl
  obtain ⟨⟨zero, t⟩, hr⟩ := Option.isSome_iff_exists.1 hs
  obtain ⟨cs, hh, _⟩ := h.1 3 zero t (of_decide_eq_true (by kernel_rfl)) hr
  exact (Array.getElem?_eq_some_iff.1 hh).1
end Go.Lg
namespace Go.Lg
open Go.Proofs Go.RowKit
theorem door_met (os : Os) (args : Array Value) : laidMetH Tryd.prog laid0 ((World.doorLaid Tryd.prog 400 os).forCall (fun _ _ => 0) ⟨#[], args, []⟩).memory :=
 laidMetH_of_parts3 (fuel := 8) (laidMet_of_run' 8 (by kernel_rfl) (by kernel_rfl)) (by kernel_rfl) (by kernel_rfl)
theorem door_sh (os : Os) (args : Array Value) : ((World.doorLaid Tryd.prog 400 os).forCall (fun _ _ => 0) ⟨#[], args, []⟩).Shaped Tryd.prog :=
 World.shaped_of_RefB (by kernel_rfl) (by kernel_rfl)
end Go.Lg
namespace Go.Lg
theorem ren_strsA (π : Nat -> Nat) (l : List ByteArray) : (strsA l).ren π = strsA l := ren_pure (by simp [strsA, AV.bd])
theorem ren_intsA (π : Nat -> Nat) (l : List Int) : (intsA l).ren π = intsA l := ren_pure (by simp [intsA, AV.bd])
section
variable {P : Program} {n M N i : Nat} {l : List (Nat × AV)} {os : List (Nat × Option AObj)} {a b : Operand} {d : Tmp} {ty : TypeId} {pos : String} {af : Array Edge} {ops : Array Oper} {rest : List Oper} {KK : List Rec -> St -> Prop} {K : St -> Prop} {rs : List Rec}
end
section
variable {P : Program} {Γ : Cx} {c : Code} {Q : Exit -> St -> Prop} {n M : Nat} {l : List (Nat × AV)} {os : List (Nat × Option AObj)}
theorem wp_st (t : St) {s : St} (h0 : ∃ is, ToR Γ.m is s t) (h : WP P Γ c Q t) : WP P Γ c Q s := by
 obtain ⟨is, h0⟩ := h0; exact .toR is t h0 h
end
section
variable {P : Program} {n M : Nat} {l : List (Nat × AV)} {os : List (Nat × Option AObj)} {d t : Tmp} {ty : TypeId} {pos : String} {af : Array Edge} {ops : Array Oper} {rest : List Oper} {K : St -> Prop} {j : Nat} {want b : Bool} {x : AV} {op : Op}
theorem sgt_new {o : AObj} (hd : (ops[j]?).bind (·.dst) = some t) (hv : opq n l (.tmp t) = some (.val (.bool b))) (hb : b = want) (hc : ∀ c f, op = .call c -> c.callee ≠ .value f) (h : aop P (S n ((t, .val (.bool b)) :: l) M os).look M (S n ((t, .val (.bool b)) :: l) M os).op op = some (x, .new o))
  (hk : asemC P ops rest (S n ((d, x) :: (t, .val (.bool b)) :: l) (M + 1) ((M, some o) :: os)) K) : asemC P ops (⟨some d, op, ty, pos, af, some (j, want)⟩ :: rest) (S n l M os) K := by
 subst hb
 simp only [asemC]
 refine .inl ⟨b, ?_, fun _ => ?_, fun h => by cases b <;> cases h⟩
 ·have hop := opq_op (M := M) (os := os) hv
  simp only [St.op] at hop
  simp only [yieldedA, hd, Option.map_some, hop]
 rw [hd, S_put]
 have hl : (S n ((t, .val (.bool b)) :: l) M os).objs.length = M := ol_length M os
 have hs : (S n ((t, .val (.bool b)) :: l) M os).after (some d) (x, .new o) = S n ((d, x) :: (t, .val (.bool b)) :: l) (M + 1) ((M, some o) :: os) := by
  simp only [St.after, S, St.put, ol_push, tl_set]
 unfold execA
 split
 ·rename_i c hop
  simp only at hop
  split
  ·rename_i f hf; exact absurd hf (hc c f hop)
  ·exact ⟨_, by rw [hl, <- hop]; exact h, by rw [hs]; exact hk⟩
 ·exact ⟨_, by rw [hl]; exact h, by rw [hs]; exact hk⟩
theorem sgt_lit {te : TI} {k m bt : Nat} {z : AV} {ps : Array (Nat × Operand)} {xs : List (Nat × AV)} {vs : List AV} (hd : (ops[j]?).bind (·.dst) = some t) (hg : opq n l (.tmp t) = some (.val (.bool b))) (hgb : b = want) [ht : TEl P ty te k bt] (hp : OpP n ((t, .val (.bool b)) :: l) ps.toList xs) (hv : seqv 0 xs = some vs) (hl : xs.length = m) (h0 : Nat.beq m 0 = false) (hbig : Nat.ble (m * k) 16777216 = true) (hzero : zeroA te = some z)
  (hc : (vs.all fun x => Nat.beq x.cells.length k && x.store) = true) {ty2 : TypeId} (hk : asemC P ops rest (S n ((d, .ref M k 0 m) :: (t, .val (.bool b)) :: l) (M + 1) ((M, some (.arr k vs)) :: os)) K) :
  asemC P ops (⟨some d, .buildSlice ty m ps, ty2, pos, af, some (j, want)⟩ :: rest) (S n l M os) K := by
 obtain ⟨ti, el, g1, he, hs, g4, hsz, hbz⟩ := ht.h
 refine sgt_new (x := .ref M k 0 m) hd hg hgb (by rintro c f h; cases h) ?_ hk
 have hp' := hp.get (M := M) (os := os)
 have hb : buildSliceA te m xs = some (.arr k vs) := by
  have hne : m ≠ 0 := Nat.ne_of_beq_eq_false h0
  simp only [buildSliceA, if_neg hne, hzero, Option.bind_some, hsz, if_pos (Nat.le_of_ble_eq_true hbig)]
  have := seqv_fill (k := k) (z := z) xs [] vs hv (fun x hx => by
   have := List.all_eq_true.1 hc x hx
   simp only [Bool.and_eq_true] at this
   exact ⟨Nat.eq_of_beq_eq_true this.1, this.2⟩)
  simp only [List.nil_append, hl] at this
  rw [this]; rfl
 simp only [aop, g1, he, g4, Option.bind_some, hp', hb, Option.map_some, hsz]
end
section
variable {P : Program} {n M N i : Nat} {l : List (Nat × AV)} {os : List (Nat × Option AObj)} {d t : Tmp} {ty : TypeId} {pos : String} {af : Array Edge} {ops : Array Oper} {rest : List Oper} {K : List Rec -> St -> Prop} {rs : List Rec} {j : Nat} {want : Bool} {X : AV}
theorem rdg_call {g : FuncId} {first cap us us' : List AV} {f : Operand} {args : Array Operand} {tys : Array TypeId} (ht : (ops[j]?).bind (·.dst) = some t) (hg : opq n l (.tmp t) = some (.val (.bool want))) (hf : opq n l f = some (.clo (.func g) first cap)) (has : opqL n l args.toList = some us) (hsub : SubL (first ++ us ++ cap) us') (hp : bdL 0 (first ++ us ++ cap) = true) (hspec : Fn P g us' X)
  (hk : RunD P ops N (i + 1) rest (S n ((d, X) :: l) M os) (rs ++ [⟨some d, [], topq n l (Op.operands (.call ⟨.value f, args, tys⟩)).toList⟩]) K) : RunD P ops N i (⟨some d, .call ⟨.value f, args, tys⟩, ty, pos, af, some (j, want)⟩ :: rest) (S n l M os) rs K := by
 have e := opqL_op (M := M) (os := os) has
 refine ⟨.did (X, .none), _, ⟨rfl, .inr (.inl ⟨_, f, g, first, cap, rfl, rfl, opq_op hf, by rw [e]; exact (hspec.sub hsub).spec, by rw [e]; exact hp, rfl⟩), yielded_q ht hg⟩, ?_⟩
 show RunD P ops N (i + 1) rest ((S n l M os).put (some d) X) (rs ++ [⟨some d, [], topIds (S n l M os) _⟩]) K
 rw [topq_ids, S_put]
 exact hk
theorem rdg_pick_t {c a b : Operand} {x : AV} (ht : (ops[j]?).bind (·.dst) = some t) (hg : opq n l (.tmp t) = some (.val (.bool want))) (hc : opq n l c = some (.val (.bool true))) (ha : opq n l a = some x) (hk : RunD P ops N (i + 1) rest (S n ((d, x) :: l) M os) (rs ++ [⟨some d, [], topq n l [c, a, b]⟩]) K) : RunD P ops N i (⟨some d, .pick c a b, ty, pos, af, some (j, want)⟩ :: rest) (S n l M os) rs K := by
 refine rdg (x, .none) ht hg ?_ ?_
 ·simp only [aop, opq_op hc, opq_op ha, pickA, pure']
  split <;> simp_all
 ·simp only [St.eff, S_put, Eff.ids]; exact hk
theorem rdg_pick_f {c a b : Operand} {x : AV} (ht : (ops[j]?).bind (·.dst) = some t) (hg : opq n l (.tmp t) = some (.val (.bool want))) (hc : opq n l c = some (.val (.bool false))) (hb : opq n l b = some x) (hk : RunD P ops N (i + 1) rest (S n ((d, x) :: l) M os) (rs ++ [⟨some d, [], topq n l [c, a, b]⟩]) K) : RunD P ops N i (⟨some d, .pick c a b, ty, pos, af, some (j, want)⟩ :: rest) (S n l M os) rs K := by
 refine rdg (x, .none) ht hg ?_ ?_
 ·simp only [aop, opq_op hc, opq_op hb, pickA, pure']
  split <;> simp_all
 ·simp only [St.eff, S_put, Eff.ids]; exact hk
theorem frz_lit {te : TI} {k m bt : Nat} {z : AV} {ps : Array (Nat × Operand)} {xs : List (Nat × AV)} {vs : List AV} [ht : TEl P ty te k bt] (hp : OpP n l ps.toList xs) (hv : seqv 0 xs = some vs) (hl : xs.length = m) (h0 : Nat.beq m 0 = false) (hbig : Nat.ble (m * k) 16777216 = true) (hzero : zeroA te = some z)
  (hc : (vs.all fun x => Nat.beq x.cells.length k && x.store) = true) (hb : bdL 0 vs = true) : FrzL P (S n l M os).op (.buildSlice ty m ps) (.sl k vs, .none) := by
 obtain ⟨ti, el, g1, he, hs, g4, hsz, hbz⟩ := ht.h
 have hp' := hp.get (M := M) (os := os)
 have hbs : buildSliceA te m xs = some (.arr k vs) := by
  have hne : m ≠ 0 := Nat.ne_of_beq_eq_false h0
  simp only [buildSliceA, if_neg hne, hzero, Option.bind_some, hsz, if_pos (Nat.le_of_ble_eq_true hbig)]
  have := seqv_fill (k := k) (z := z) xs [] vs hv (fun x hx => by
   have := List.all_eq_true.1 hc x hx
   simp only [Bool.and_eq_true] at this
   exact ⟨Nat.eq_of_beq_eq_true this.1, this.2⟩)
  simp only [List.nil_append, hl] at this
  rw [this]; rfl
 exact ⟨ty, m, ps, ti, el, te, k, vs, rfl, g1, he, g4, by rw [hp', hbs], hb, rfl⟩
theorem rd_frzl {te : TI} {k m bt : Nat} {z : AV} {ps : Array (Nat × Operand)} {xs : List (Nat × AV)} {vs : List AV} [ht : TEl P ty te k bt] (hp : OpP n l ps.toList xs) (hv : seqv 0 xs = some vs) (hl : xs.length = m) (h0 : Nat.beq m 0 = false) (hbig : Nat.ble (m * k) 16777216 = true) (hzero : zeroA te = some z)
  (hc : (vs.all fun x => Nat.beq x.cells.length k && x.store) = true) (hb : bdL 0 vs = true) {ty2 : TypeId} (hk : RunD P ops N (i + 1) rest (S n ((d, .sl k vs) :: l) M os) (rs ++ [⟨some d, [], topq n l (Op.operands (.buildSlice ty m ps)).toList⟩]) K) :
  RunD P ops N i (⟨some d, .buildSlice ty m ps, ty2, pos, af, none⟩ :: rest) (S n l M os) rs K := by
 refine ⟨.did (.sl k vs, .none), _, ⟨rfl, .inr (.inr (frz_lit hp hv hl h0 hbig hzero hc hb)), trivial⟩, ?_⟩
 show RunD P ops N (i + 1) rest ((S n l M os).put (some d) _) (rs ++ [⟨some d, [], topIds (S n l M os) _⟩]) K
 rw [topq_ids, S_put]
 exact hk
end
structure NRul where
 kind : Int
 head : Int
 a : Int
 b : Int
 price : Int
 origin : Int
 deriving DecidableEq
structure Nrm where
 terms : Int
 nonterms : Int
 start : Int
 rules : List NRul
 deriving DecidableEq
instance : Inhabited NRul := ⟨⟨0, 0, 0, 0, 0, 0⟩⟩
def nruleA (r : NRul) : AV := .agg [intA r.kind, intA r.head, intA r.a, intA r.b, intA r.price, intA r.origin]
def nrulesA (l : List NRul) : AV := .sl 6 (l.map nruleA)
def nrmA (n : Nrm) : AV := .agg [intA n.terms, intA n.nonterms, intA n.start, nrulesA n.rules]
@[simp] theorem bd_nruleA (n : Nat) (r : NRul) : (nruleA r).bd n = true := by simp [nruleA, AV.bd, bdL]
@[simp] theorem bdL_nruleA (n : Nat) (l : List NRul) : bdL n (l.map nruleA) = true := bdL_map (bd_nruleA n) l
@[simp] theorem bd_nrulesA (n : Nat) (l : List NRul) : (nrulesA l).bd n = true := bdL_nruleA n l
@[simp] theorem bd_nrmA (n : Nat) (g : Nrm) : (nrmA g).bd n = true := by simp [nrmA, AV.bd, bdL]
inductive Prs where
 | mk (rule : Int) (kids : List Prs)
namespace Prs
def rule : Prs -> Int | .mk r _ => r
def kids : Prs -> List Prs | .mk _ l => l
theorem ind {P : Prs -> Prop} (h : ∀ e : Prs, (∀ x, x ∈ e.kids -> P x) -> P e) : ∀ e, P e :=
 fun e => Prs.rec (motive_1 := P) (motive_2 := fun l => ∀ x, x ∈ l -> P x) (fun r l ih => h _ ih) (fun x hx => by cases hx) (fun a l ha hl x hx => by
  rcases List.mem_cons.1 hx with rfl | hx
  ·exact ha
  ·exact hl x hx) e
theorem ext' {a b : Prs} (h1 : a.rule = b.rule) (h2 : a.kids = b.kids) : a = b := by
 cases a; cases b; simp only [rule, kids] at h1 h2; subst h1 h2; rfl
end Prs
instance : Inhabited Prs := ⟨.mk 0 []⟩
mutual
def pkL : Prs -> List AV
 | .mk _ l => prssL l
def prssL : List Prs -> List AV
 | [] => []
 | e :: l => .agg [intA e.rule, .sl 2 (pkL e)] :: prssL l
end
def prsA (e : Prs) : AV := .agg [intA e.rule, .sl 2 (pkL e)]
theorem prssL_map : ∀ l : List Prs, prssL l = l.map prsA
 | [] => rfl
 | e :: l => by rw [prssL, prssL_map l]; rfl
theorem pkL_map (e : Prs) : pkL e = e.kids.map prsA := by cases e; rw [pkL, prssL_map]; rfl
@[simp] theorem pkL_len (e : Prs) : (pkL e).length = e.kids.length := by rw [pkL_map, List.length_map]
theorem prsA_eq (e : Prs) : prsA e = .agg [intA e.rule, .sl 2 (e.kids.map prsA)] := by rw [prsA, pkL_map]
@[simp] theorem bd_prsA (n : Nat) (e : Prs) : (prsA e).bd n = true := by
 induction e using Prs.ind with
 | h e ih =>
  rw [prsA_eq]
  have : bdL n (e.kids.map prsA) = true := by
   rw [bdL_iff]
   intro x hx
   obtain ⟨y, hy, rfl⟩ := List.mem_map.1 hx
   exact ih y hy
  simp [AV.bd, bdL, this]
def prssA (l : List Prs) : AV := .sl 2 (l.map prsA)
@[simp] theorem bdL_prss (n : Nat) (l : List Prs) : bdL n (l.map prsA) = true := bdL_map (bd_prsA n) l
@[simp] theorem bdL_pkL (n : Nat) (e : Prs) : bdL n (pkL e) = true := by rw [pkL_map]; exact bdL_prss n _
@[simp] theorem bd_prssA (n : Nat) (l : List Prs) : (prssA l).bd n = true := bdL_prss n l
inductive Tre where
 | mk (rule term : Int) (kids : List Tre)
namespace Tre
def rule : Tre -> Int | .mk r _ _ => r
def term : Tre -> Int | .mk _ t _ => t
def kids : Tre -> List Tre | .mk _ _ l => l
theorem ind {P : Tre -> Prop} (h : ∀ e : Tre, (∀ x, x ∈ e.kids -> P x) -> P e) : ∀ e, P e :=
 fun e => Tre.rec (motive_1 := P) (motive_2 := fun l => ∀ x, x ∈ l -> P x) (fun r t l ih => h _ ih) (fun x hx => by cases hx) (fun a l ha hl x hx => by
  rcases List.mem_cons.1 hx with rfl | hx
  ·exact ha
  ·exact hl x hx) e
theorem ext' {a b : Tre} (h1 : a.rule = b.rule) (h2 : a.term = b.term) (h3 : a.kids = b.kids) : a = b := by
 cases a; cases b; simp only [rule, term, kids] at h1 h2 h3; subst h1 h2 h3; rfl
end Tre
instance : Inhabited Tre := ⟨.mk 0 0 []⟩
mutual
def tkL' : Tre -> List AV
 | .mk _ _ l => tresL l
def tresL : List Tre -> List AV
 | [] => []
 | e :: l => .agg [intA e.rule, intA e.term, .sl 3 (tkL' e)] :: tresL l
end
def treA (e : Tre) : AV := .agg [intA e.rule, intA e.term, .sl 3 (tkL' e)]
theorem tresL_map : ∀ l : List Tre, tresL l = l.map treA
 | [] => rfl
 | e :: l => by rw [tresL, tresL_map l]; rfl
theorem tkL'_map (e : Tre) : tkL' e = e.kids.map treA := by cases e; rw [tkL', tresL_map]; rfl
@[simp] theorem tkL'_len (e : Tre) : (tkL' e).length = e.kids.length := by rw [tkL'_map, List.length_map]
theorem treA_eq (e : Tre) : treA e = .agg [intA e.rule, intA e.term, .sl 3 (e.kids.map treA)] := by rw [treA, tkL'_map]
@[simp] theorem bd_treA (n : Nat) (e : Tre) : (treA e).bd n = true := by
 induction e using Tre.ind with
 | h e ih =>
  rw [treA_eq]
  have : bdL n (e.kids.map treA) = true := by
   rw [bdL_iff]
   intro x hx
   obtain ⟨y, hy, rfl⟩ := List.mem_map.1 hx
   exact ih y hy
  simp [AV.bd, bdL, this]
def tresA (l : List Tre) : AV := .sl 3 (l.map treA)
@[simp] theorem bdL_tres (n : Nat) (l : List Tre) : bdL n (l.map treA) = true := bdL_map (bd_treA n) l
@[simp] theorem bdL_tkL' (n : Nat) (e : Tre) : bdL n (tkL' e) = true := by rw [tkL'_map]; exact bdL_tres n _
@[simp] theorem bd_tresA (n : Nat) (l : List Tre) : (tresA l).bd n = true := bdL_tres n l
structure Cas where
 g : Gram
 t : Tre
 p : Prs
def casA (x : Cas) : AV := .agg [strsA x.g.terms, strsA x.g.nonterms, intA x.g.start, rulesA x.g.rules, intA x.t.rule, intA x.t.term, .sl 3 (tkL' x.t), intA x.p.rule, .sl 2 (pkL x.p)]
@[simp] theorem bd_casA (n : Nat) (x : Cas) : (casA x).bd n = true := by simp [casA, AV.bd, bdL]
end Go.Lg
namespace Go.Lg
open Go.RowKit
def AV.ifree : AV -> Bool
 | .any | .val _ | .ref _ _ _ _ | .ptr _ _ _ _ | .map _ | .yld _ => true
 | _ => false
def AObj.ifree : AObj -> Bool
 | .arr _ es => es.all AV.ifree
 | .bytes _ => true
 | .bld _ x => x.ifree
 | .map _ => false
 | .lop _ _ => false
 | .itr _ _ _ => false
section
variable {A A' : Nat -> Prop} {ρ ρ' : Nat -> Option Nat} {I I' : Nat -> Prop} {w : World} {π : Nat -> Nat}
end
section
variable {P : Program} {Γ : Cx} {A : Nat -> Prop} {ρ : Nat -> Option Nat} {s : St} {a : Act} {w : World}
def shown : List AV -> List AV -> List Nat
  | x :: xs, y :: ys => match x, y with
    | .ref id _ _ _, .sl _ _ => id :: shown xs ys
    | _, _ => shown xs ys
  | _, _ => []
theorem shown_more {id : Nat} {x y : AV} {xs ys : List AV} (h : id ∈ shown xs ys) : id ∈ shown (x :: xs) (y :: ys) := by
 simp only [shown]
 split
 ·exact List.mem_cons_of_mem _ h
 ·exact h
inductive ArgS (π : Nat -> Nat) (m : Nat) (look : Nat -> Option AObj) : List AV -> List AV -> Prop
 | nil : ArgS π m look [] []
 | ren {x y : AV} {xs ys : List AV} (h : x = y.ren π) (hb : y.bd m = true) (t : ArgS π m look xs ys) : ArgS π m look (x :: xs) (y :: ys)
 | row {id k len : Nat} {es : List AV} {xs ys : List AV} (ho : look id = some (.arr k es)) (hl : es.length = len) (hb : bdL 0 es = true) (hk : ∀ e, e ∈ es -> e.cells.length = k) (t : ArgS π m look xs ys) : ArgS π m look (.ref id k 0 len :: xs) (.sl k es :: ys)
theorem ArgS.len {π : Nat -> Nat} {m : Nat} {look : Nat -> Option AObj} {xs ys : List AV} (h : ArgS π m look xs ys) : ys.length = xs.length := by
 induction h with
 | nil => rfl
 | ren _ _ _ ih => simp [ih]
 | row _ _ _ _ _ ih => simp [ih]
theorem ArgS.get {π : Nat -> Nat} {m : Nat} {look : Nat -> Option AObj} {xs ys : List AV} (h : ArgS π m look xs ys) : ∀ (i : Nat) x y, xs[i]? = some x -> ys[i]? = some y -> (x = y.ren π /\ y.bd m = true) \/ ∃ id k len es, x = .ref id k 0 len /\ y = .sl k es /\ look id = some (.arr k es) /\ es.length = len /\ bdL 0 es = true /\ (∀ e, e ∈ es -> e.cells.length = k) /\ id ∈ shown xs ys := by
 induction h with
 | nil => intro i x y hx; simp at hx
 | ren h hb _ ih =>
  intro i x y hx hy
  cases i with
  | zero => simp at hx hy; subst hx hy; exact .inl ⟨h, hb⟩
  | succ i =>
   rcases ih i x y (by simpa using hx) (by simpa using hy) with q | ⟨a, b, c, d, q1, q2, q3, q4, q5, q6, q7⟩
   ·exact .inl q
   ·exact .inr ⟨a, b, c, d, q1, q2, q3, q4, q5, q6, shown_more q7⟩
 | row ho hl hb hk _ ih =>
  intro i x y hx hy
  cases i with
  | zero => simp at hx hy; subst hx hy; exact .inr ⟨_, _, _, _, rfl, rfl, ho, hl, hb, hk, by simp [shown]⟩
  | succ i =>
   rcases ih i x y (by simpa using hx) (by simpa using hy) with q | ⟨a, b, c, d, q1, q2, q3, q4, q5, q6, q7⟩
   ·exact .inl q
   ·exact .inr ⟨a, b, c, d, q1, q2, q3, q4, q5, q6, shown_more q7⟩
end
end Go.Lg
