/-
  Part 13 of the proof of TreeParseCard: the logic over the model, the functions' contracts and the plain laws.
-/
import Derived.Test.YtfaoljcgigkonaaDoorTp12
import Derived.Test.YtfaoljcgigkonaaDoorRows
import Derived.Shelf.Vars

set_option linter.unusedSimpArgs false
set_option linter.unusedVariables false
set_option linter.unusedSectionVars false
set_option linter.defProp false

namespace Go.Lg
open Go.Proofs Go.Proofs.YtfaoljcgigkonaaDoor
def laid0 : List (String × DataW Unit) := [("math/bits.deBruijn32tab", Rows.laid_math_bits_deBruijn32tab), ("math/bits.deBruijn64tab", Rows.laid_math_bits_deBruijn64tab), ("internal/strconv.uint64pow10", Rows.laid_internal_strconv_uint64pow10)]
theorem gw_open {w : World} (h : w.ShapedOpen Tryd.prog) (hl : laidMetH Tryd.prog laid0 w) : GW w ∧ GL ≤ w.heap.size := by
  rw [MakeChecks.laidMetH_plain _ _ _ (by kernel_rfl)] at hl
  obtain ⟨ps, hl, _⟩ := hl
  refine ⟨⟨?_, ?_⟩, ?_⟩
  · intro p hp
    simp only [gints, List.mem_cons, List.mem_nil_iff, or_false] at hp
    rcases hp with rfl
    · exact cell_of_shapedOpen_int (zero := #[.int .i64 0]) (t := 3) h (of_decide_eq_true (by kernel_rfl)) (by kernel_rfl) rfl (by kernel_rfl) (by kernel_rfl) (by kernel_rfl)
  · intro p hp
    simp only [gtabs, List.mem_cons, List.mem_nil_iff, or_false] at hp
    rcases hp with rfl | rfl | rfl
    · exact laid_tab (name := "math/bits.deBruijn32tab") (t := 120) (e := 5) (n := 32) (by kernel_rfl) (by kernel_rfl) (by kernel_rfl) (by kernel_rfl) (by kernel_rfl) (by kernel_rfl) hl (by simp [laid0, Lib.tabData, Rows.laid_math_bits_deBruijn32tab])
    · exact laid_tab (name := "math/bits.deBruijn64tab") (t := 121) (e := 5) (n := 64) (by kernel_rfl) (by kernel_rfl) (by kernel_rfl) (by kernel_rfl) (by kernel_rfl) (by kernel_rfl) hl (by simp [laid0, Lib.tabData, Rows.laid_math_bits_deBruijn64tab])
    · exact laid_tab (name := "internal/strconv.uint64pow10") (t := 111) (e := 104) (n := 20) (by kernel_rfl) (by kernel_rfl) (by kernel_rfl) (by kernel_rfl) (by kernel_rfl) (by kernel_rfl) hl (by simp [laid0, Lib.tabData, Rows.laid_internal_strconv_uint64pow10])
  · have hs : ((((begin Tryd.prog (fun _ _ => 0) default).world.heap[3]?).bind Obj.row?).isSome) = true := by kernel_rfl
    obtain ⟨⟨zero, t⟩, hr⟩ := Option.isSome_iff_exists.1 hs
    obtain ⟨cs, hh, _⟩ := h.1 3 zero t (of_decide_eq_true (by kernel_rfl)) hr
    exact (Array.getElem?_eq_some_iff.1 hh).1
end Go.Lg

namespace Go.Lg
open Go.Proofs Go.RowKit
theorem door_met (os : Os) (args : Array Value) : laidMetH Tryd.prog laid0 ((World.doorLaid Tryd.prog 400 os).forCall (fun _ _ => 0) ⟨#[], args, []⟩).memory :=
  laidMetH_of_parts3 (fuel := 8) (laidMet_of_run' 8 (by kernel_rfl) (by kernel_rfl)) (by kernel_rfl) (by kernel_rfl)
theorem door_sh (os : Os) (args : Array Value) : ((World.doorLaid Tryd.prog 400 os).forCall (fun _ _ => 0) ⟨#[], args, []⟩).Shaped Tryd.prog :=
  World.shaped_of_RefB (by kernel_rfl) (by kernel_rfl)
end Go.Lg

namespace Go.Lg
section
variable {P : Program} {n M N i : Nat} {l : List (Nat × AV)} {os : List (Nat × Option AObj)} {a b : Operand} {d : Tmp} {ty : TypeId} {pos : String} {af : Array Edge} {ops : Array Oper} {rest : List Oper} {KK : List Rec → St → Prop} {K : St → Prop} {rs : List Rec}
end
section
variable {P : Program} {Γ : Cx} {c : Code} {Q : Exit → St → Prop} {n M : Nat} {l : List (Nat × AV)} {os : List (Nat × Option AObj)}
theorem wp_st (t : St) {s : St} (h0 : ∃ is, ToR Γ.m is s t) (h : WP P Γ c Q t) : WP P Γ c Q s := by
  obtain ⟨is, h0⟩ := h0; exact .toR is t h0 h
end
section
variable {P : Program} {n M : Nat} {l : List (Nat × AV)} {os : List (Nat × Option AObj)} {d t : Tmp} {ty : TypeId} {pos : String} {af : Array Edge} {ops : Array Oper} {rest : List Oper} {K : St → Prop} {j : Nat} {want b : Bool} {x : AV} {op : Op}
end
theorem Fz.rowL {look : Nat → Option AObj} {id k n : Nat} {es ys : List AV} (hlook : look id = some (.arr k es)) (hn : es.length = n) (hk : (ys.all fun e => Nat.beq e.cells.length k) = true) (h : FzL look es ys) : Fz look (.ref id k 0 n) (.sl k ys) := by
  have hz := h.fzs
  have hl := Fzs_len hz
  have e : (es.drop 0).take n = es := by rw [List.drop_zero, List.take_of_length_le (by omega)]
  refine Fz.ref' hlook (by omega) (by omega) (fun y hy => Nat.eq_of_beq_eq_true (List.all_eq_true.1 hk y hy)) fun i x y hx hy => ?_
  rw [e] at hx
  exact Fzs_get hz i x y hx hy
end Go.Lg

namespace Go.Lg
section
variable {P : Program} {n M N i : Nat} {l : List (Nat × AV)} {os : List (Nat × Option AObj)} {d t : Tmp} {ty : TypeId} {pos : String} {af : Array Edge} {ops : Array Oper} {rest : List Oper} {K : List Rec → St → Prop} {rs : List Rec} {j : Nat} {want : Bool} {X : AV}
theorem rdg_call {g : FuncId} {first cap us us' : List AV} {f : Operand} {args : Array Operand} {tys : Array TypeId} (ht : (ops[j]?).bind (·.dst) = some t) (hg : opq n l (.tmp t) = some (.val (.bool want))) (hf : opq n l f = some (.clo (.func g) first cap)) (has : opqL n l args.toList = some us) (hsub : SubL (first ++ us ++ cap) us') (hp : bdL 0 (first ++ us ++ cap) = true) (hspec : Fn P g us' X)
    (hk : RunD P ops N (i + 1) rest (S n ((d, X) :: l) M os) (rs ++ [⟨some d, [], topq n l (Op.operands (.call ⟨.value f, args, tys⟩)).toList⟩]) K) : RunD P ops N i (⟨some d, .call ⟨.value f, args, tys⟩, ty, pos, af, some (j, want)⟩ :: rest) (S n l M os) rs K := by
  have e := opqL_op (M := M) (os := os) has
  refine ⟨.did (X, .none), _, ⟨rfl, .inr (.inl ⟨_, f, g, first, cap, rfl, rfl, opq_op hf, by rw [e]; exact (hspec.sub hsub).spec, by rw [e]; exact hp, rfl⟩), yielded_q ht hg⟩, ?_⟩
  show RunD P ops N (i + 1) rest ((S n l M os).put (some d) X) (rs ++ [⟨some d, [], topIds (S n l M os) _⟩]) K
  rw [topq_ids, S_put]
  exact hk
theorem frz_lit {te : TI} {k m bt : Nat} {z : AV} {ps : Array (Nat × Operand)} {xs : List (Nat × AV)} {vs : List AV} [ht : TEl P ty te k bt] (hp : OpP n l ps.toList xs) (hv : seqv 0 xs = some vs) (hl : xs.length = m) (h0 : Nat.beq m 0 = false) (hbig : Nat.ble (m * k) 16777216 = true) (hzero : zeroA te = some z)
    (hc : (vs.all fun x => Nat.beq x.cells.length k && x.store) = true) (hb : bdL 0 vs = true) : FrzL P (S n l M os).op (.buildSlice ty m ps) (.sl k vs, .none) := by
  obtain ⟨ti, el, g1, he, hs, g4, hsz, hbz⟩ := ht.h
  have hp' := hp.get (M := M) (os := os)
  have hbs : buildSliceA te m xs = some (.arr k vs) := by
    have hne : m ≠ 0 := Nat.ne_of_beq_eq_false h0
    simp only [buildSliceA, if_neg hne, hzero, Option.bind_some, hsz, if_pos (Nat.le_of_ble_eq_true hbig)]
    have := seqv_fill (k := k) (z := z) xs [] vs hv (fun x hx => by
      have := List.all_eq_true.1 hc x hx
      simp only [Bool.and_eq_true] at this
      exact ⟨Nat.eq_of_beq_eq_true this.1, this.2⟩)
    simp only [List.nil_append, hl] at this
    rw [this]; rfl
  exact ⟨ty, m, ps, ti, el, te, k, vs, rfl, g1, he, g4, by rw [hp', hbs], hb, rfl⟩
theorem rdg_frzl {te : TI} {k m bt : Nat} {z : AV} {ps : Array (Nat × Operand)} {xs : List (Nat × AV)} {vs : List AV} [hte : TEl P ty te k bt] (ht : (ops[j]?).bind (·.dst) = some t) (hg : opq n l (.tmp t) = some (.val (.bool want))) (hp : OpP n l ps.toList xs) (hv : seqv 0 xs = some vs) (hl : xs.length = m) (h0 : Nat.beq m 0 = false) (hbig : Nat.ble (m * k) 16777216 = true) (hzero : zeroA te = some z)
    (hc : (vs.all fun x => Nat.beq x.cells.length k && x.store) = true) (hb : bdL 0 vs = true) {ty2 : TypeId} (hk : RunD P ops N (i + 1) rest (S n ((d, .sl k vs) :: l) M os) (rs ++ [⟨some d, [], topq n l (Op.operands (.buildSlice ty m ps)).toList⟩]) K) :
    RunD P ops N i (⟨some d, .buildSlice ty m ps, ty2, pos, af, some (j, want)⟩ :: rest) (S n l M os) rs K := by
  refine ⟨.did (.sl k vs, .none), _, ⟨rfl, .inr (.inr (frz_lit hp hv hl h0 hbig hzero hc hb)), yielded_q ht hg⟩, ?_⟩
  show RunD P ops N (i + 1) rest ((S n l M os).put (some d) _) (rs ++ [⟨some d, [], topIds (S n l M os) _⟩]) K
  rw [topq_ids, S_put]
  exact hk
end
end Go.Lg

namespace Go.Lg
inductive GEx where
  | mk (kind : Int) (name : ByteArray) (kids : List GEx)
namespace GEx
def kind : GEx → Int | .mk k _ _ => k
def name : GEx → ByteArray | .mk _ n _ => n
def kids : GEx → List GEx | .mk _ _ l => l
theorem ind {P : GEx → Prop} (h : ∀ e : GEx, (∀ x, x ∈ e.kids → P x) → P e) : ∀ e, P e :=
  fun e => GEx.rec (motive_1 := P) (motive_2 := fun l => ∀ x, x ∈ l → P x) (fun k n l ih => h _ ih) (fun x hx => by cases hx) (fun a l ha hl x hx => by
    rcases List.mem_cons.1 hx with rfl | hx
    · exact ha
    · exact hl x hx) e
theorem ext' {a b : GEx} (h1 : a.kind = b.kind) (h2 : a.name = b.name) (h3 : a.kids = b.kids) : a = b := by
  cases a; cases b; simp only [kind, name, kids] at h1 h2 h3; subst h1 h2 h3; rfl
end GEx
mutual
def kidsL : GEx → List AV
  | .mk _ _ l => exprsL l
def exprsL : List GEx → List AV
  | [] => []
  | e :: l => .agg [intA e.kind, strA e.name, .sl 3 (kidsL e)] :: exprsL l
end
def exprA (e : GEx) : AV := .agg [intA e.kind, strA e.name, .sl 3 (kidsL e)]
theorem exprsL_map : ∀ l : List GEx, exprsL l = l.map exprA
  | [] => rfl
  | e :: l => by rw [exprsL, exprsL_map l]; rfl
theorem kidsL_map (e : GEx) : kidsL e = e.kids.map exprA := by cases e; rw [kidsL, exprsL_map]; rfl
@[simp] theorem kidsL_len (e : GEx) : (kidsL e).length = e.kids.length := by rw [kidsL_map, List.length_map]
theorem exprA_eq (e : GEx) : exprA e = .agg [intA e.kind, strA e.name, .sl 3 (e.kids.map exprA)] := by rw [exprA, kidsL_map]
@[simp] theorem bd_exprA (n : Nat) (e : GEx) : (exprA e).bd n = true := by
  induction e using GEx.ind with
  | h e ih =>
    rw [exprA_eq]
    have : bdL n (e.kids.map exprA) = true := by
      rw [bdL_iff]
      intro x hx
      obtain ⟨y, hy, rfl⟩ := List.mem_map.1 hx
      exact ih y hy
    simp [AV.bd, bdL, this]
@[simp] theorem bdL_exprs (n : Nat) (l : List GEx) : bdL n (l.map exprA) = true := bdL_map (bd_exprA n) l
@[simp] theorem bdL_kidsL (n : Nat) (e : GEx) : bdL n (kidsL e) = true := by rw [kidsL_map]; exact bdL_exprs n _
structure GAl where
  body : GEx
  price : Int
structure GRu where
  name : ByteArray
  alts : List GAl
structure GLe where
  assoc : Int
  tokens : List ByteArray
structure GFi where
  start : ByteArray
  levels : List GLe
  rules : List GRu
def altA (a : GAl) : AV := .agg [intA a.body.kind, strA a.body.name, .sl 3 (kidsL a.body), intA a.price]
def altsA (l : List GAl) : AV := .sl 4 (l.map altA)
def gruleA (r : GRu) : AV := .agg [strA r.name, altsA r.alts]
def grulesA (l : List GRu) : AV := .sl 2 (l.map gruleA)
def levelA (l : GLe) : AV := .agg [intA l.assoc, strsA l.tokens]
def levelsA (l : List GLe) : AV := .sl 2 (l.map levelA)
def fileA (f : GFi) : AV := .agg [strA f.start, levelsA f.levels, grulesA f.rules]
@[simp] theorem bd_altA (n : Nat) (a : GAl) : (altA a).bd n = true := by simp [altA, AV.bd, bdL]
@[simp] theorem bdL_altA (n : Nat) (l : List GAl) : bdL n (l.map altA) = true := bdL_map (bd_altA n) l
@[simp] theorem bd_altsA (n : Nat) (l : List GAl) : (altsA l).bd n = true := bdL_altA n l
@[simp] theorem bd_gruleA (n : Nat) (r : GRu) : (gruleA r).bd n = true := by simp [gruleA, AV.bd, bdL]
@[simp] theorem bdL_gruleA (n : Nat) (l : List GRu) : bdL n (l.map gruleA) = true := bdL_map (bd_gruleA n) l
@[simp] theorem bd_grulesA (n : Nat) (l : List GRu) : (grulesA l).bd n = true := bdL_gruleA n l
@[simp] theorem bd_levelA (n : Nat) (l : GLe) : (levelA l).bd n = true := by simp [levelA, AV.bd, bdL]
@[simp] theorem bdL_levelA (n : Nat) (l : List GLe) : bdL n (l.map levelA) = true := bdL_map (bd_levelA n) l
@[simp] theorem bd_levelsA (n : Nat) (l : List GLe) : (levelsA l).bd n = true := bdL_levelA n l
@[simp] theorem bd_fileA (n : Nat) (f : GFi) : (fileA f).bd n = true := by simp [fileA, AV.bd, bdL]
end Go.Lg

namespace Go.Lg
open Go.RowKit
def AV.ifree : AV → Bool
  | .any | .val _ | .ref _ _ _ _ | .ptr _ _ _ _ | .map _ | .yld _ => true
  | _ => false
def AObj.ifree : AObj → Bool
  | .arr _ es => es.all AV.ifree
  | .bytes _ => true
  | .bld _ x => x.ifree
  | .map _ => false
  | .lop _ _ => false
section
variable {A A' : Nat → Prop} {ρ ρ' : Nat → Option Nat} {I I' : Nat → Prop} {w : World} {π : Nat → Nat}
end
section
variable {P : Program} {Γ : Cx} {A : Nat → Prop} {ρ : Nat → Option Nat} {s : St} {a : Act} {w : World}
def shown : List AV → List AV → List Nat
  | x :: xs, y :: ys => match x, y with
    | .ref id _ _ _, .sl _ _ => id :: shown xs ys
    | _, _ => shown xs ys
  | _, _ => []
theorem shown_more {id : Nat} {x y : AV} {xs ys : List AV} (h : id ∈ shown xs ys) : id ∈ shown (x :: xs) (y :: ys) := by
  simp only [shown]
  split
  · exact List.mem_cons_of_mem _ h
  · exact h
inductive ArgS (π : Nat → Nat) (m : Nat) (look : Nat → Option AObj) : List AV → List AV → Prop
  | nil : ArgS π m look [] []
  | ren {x y : AV} {xs ys : List AV} (h : x = y.ren π) (hb : y.bd m = true) (t : ArgS π m look xs ys) : ArgS π m look (x :: xs) (y :: ys)
  | row {id k len : Nat} {es : List AV} {xs ys : List AV} (ho : look id = some (.arr k es)) (hl : es.length = len) (hb : bdL 0 es = true) (hk : ∀ e, e ∈ es → e.cells.length = k) (t : ArgS π m look xs ys) : ArgS π m look (.ref id k 0 len :: xs) (.sl k es :: ys)
theorem ArgS.len {π : Nat → Nat} {m : Nat} {look : Nat → Option AObj} {xs ys : List AV} (h : ArgS π m look xs ys) : ys.length = xs.length := by
  induction h with
  | nil => rfl
  | ren _ _ _ ih => simp [ih]
  | row _ _ _ _ _ ih => simp [ih]
theorem ArgS.get {π : Nat → Nat} {m : Nat} {look : Nat → Option AObj} {xs ys : List AV} (h : ArgS π m look xs ys) : ∀ (i : Nat) x y, xs[i]? = some x → ys[i]? = some y → (x = y.ren π ∧ y.bd m = true) ∨ ∃ id k len es, x = .ref id k 0 len ∧ y = .sl k es ∧ look id = some (.arr k es) ∧ es.length = len ∧ bdL 0 es = true ∧ (∀ e, e ∈ es → e.cells.length = k) ∧ id ∈ shown xs ys := by
  induction h with
  | nil => intro i x y hx; simp at hx
  | ren h hb _ ih =>
    intro i x y hx hy
    cases i with
    | zero => simp at hx hy; subst hx hy; exact .inl ⟨h, hb⟩
    | succ i =>
      rcases ih i x y (by simpa using hx) (by simpa using hy) with q | ⟨a, b, c, d, q1, q2, q3, q4, q5, q6, q7⟩
      · exact .inl q
      · exact .inr ⟨a, b, c, d, q1, q2, q3, q4, q5, q6, shown_more q7⟩
  | row ho hl hb hk _ ih =>
    intro i x y hx hy
    cases i with
    | zero => simp at hx hy; subst hx hy; exact .inr ⟨_, _, _, _, rfl, rfl, ho, hl, hb, hk, by simp [shown]⟩
    | succ i =>
      rcases ih i x y (by simpa using hx) (by simpa using hy) with q | ⟨a, b, c, d, q1, q2, q3, q4, q5, q6, q7⟩
      · exact .inl q
      · exact .inr ⟨a, b, c, d, q1, q2, q3, q4, q5, q6, shown_more q7⟩
end
end Go.Lg
