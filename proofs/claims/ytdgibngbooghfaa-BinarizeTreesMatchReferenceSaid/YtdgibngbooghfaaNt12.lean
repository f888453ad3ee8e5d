/-
  Part 12 of the proof of BinarizeTreesMatchReference: the logic over the model, the functions' contracts and the plain laws.
-/
import Derived.Test.YtdgibngbooghfaaNt11
import Derived.Test.YtdgibngbooghfaaChecked
import Derived.Shelf.Vars
import Derived.HandedShaped

set_option linter.unusedSimpArgs false
set_option linter.unusedVariables false
set_option linter.unusedSectionVars false
set_option linter.defProp false

namespace Go.Lg
open Go.Proofs
theorem gw_open {w : World} (h : w.ShapedOpen Try.prog) : GW w ∧ GL ≤ w.heap.size := by
  refine ⟨⟨?_, fun p hp => by cases hp⟩, ?_⟩
  · intro p hp
    simp only [gints, List.mem_cons, List.mem_nil_iff, or_false] at hp
    rcases hp with rfl
    · exact cell_of_shapedOpen_int (zero := #[.int .i64 0]) (t := 3) h (of_decide_eq_true (by kernel_rfl)) (by kernel_rfl) rfl (by kernel_rfl) (by kernel_rfl) (by kernel_rfl)
  · have hs : ((((begin Try.prog (fun _ _ => 0) default).world.heap[0]?).bind Obj.row?).isSome) = true := by kernel_rfl
    obtain ⟨⟨zero, t⟩, hr⟩ := Option.isSome_iff_exists.1 hs
    obtain ⟨cs, hh, _⟩ := h.1 0 zero t (of_decide_eq_true (by kernel_rfl)) hr
    exact (Array.getElem?_eq_some_iff.1 hh).1
end Go.Lg

namespace Go.Lg
inductive GEx where
  | mk (kind : Int) (name : ByteArray) (kids : List GEx)
namespace GEx
def kind : GEx → Int | .mk k _ _ => k
def name : GEx → ByteArray | .mk _ n _ => n
def kids : GEx → List GEx | .mk _ _ l => l
theorem ind {P : GEx → Prop} (h : ∀ e : GEx, (∀ x, x ∈ e.kids → P x) → P e) : ∀ e, P e :=
  fun e => GEx.rec (motive_1 := P) (motive_2 := fun l => ∀ x, x ∈ l → P x) (fun k n l ih => h _ ih) (fun x hx => by cases hx) (fun a l ha hl x hx => by
    rcases List.mem_cons.1 hx with rfl | hx
    · exact ha
    · exact hl x hx) e
theorem ext' {a b : GEx} (h1 : a.kind = b.kind) (h2 : a.name = b.name) (h3 : a.kids = b.kids) : a = b := by
  cases a; cases b; simp only [kind, name, kids] at h1 h2 h3; subst h1 h2 h3; rfl
end GEx
mutual
def kidsL : GEx → List AV
  | .mk _ _ l => exprsL l
def exprsL : List GEx → List AV
  | [] => []
  | e :: l => .agg [intA e.kind, strA e.name, .sl 3 (kidsL e)] :: exprsL l
end
def exprA (e : GEx) : AV := .agg [intA e.kind, strA e.name, .sl 3 (kidsL e)]
theorem exprsL_map : ∀ l : List GEx, exprsL l = l.map exprA
  | [] => rfl
  | e :: l => by rw [exprsL, exprsL_map l]; rfl
theorem kidsL_map (e : GEx) : kidsL e = e.kids.map exprA := by cases e; rw [kidsL, exprsL_map]; rfl
@[simp] theorem kidsL_len (e : GEx) : (kidsL e).length = e.kids.length := by rw [kidsL_map, List.length_map]
theorem exprA_eq (e : GEx) : exprA e = .agg [intA e.kind, strA e.name, .sl 3 (e.kids.map exprA)] := by rw [exprA, kidsL_map]
@[simp] theorem bd_exprA (n : Nat) (e : GEx) : (exprA e).bd n = true := by
  induction e using GEx.ind with
  | h e ih =>
    rw [exprA_eq]
    have : bdL n (e.kids.map exprA) = true := by
      rw [bdL_iff]
      intro x hx
      obtain ⟨y, hy, rfl⟩ := List.mem_map.1 hx
      exact ih y hy
    simp [AV.bd, bdL, this]
@[simp] theorem bdL_exprs (n : Nat) (l : List GEx) : bdL n (l.map exprA) = true := bdL_map (bd_exprA n) l
@[simp] theorem bdL_kidsL (n : Nat) (e : GEx) : bdL n (kidsL e) = true := by rw [kidsL_map]; exact bdL_exprs n _
structure GAl where
  body : GEx
  price : Int
structure GRu where
  name : ByteArray
  alts : List GAl
structure GLe where
  assoc : Int
  tokens : List ByteArray
structure GFi where
  start : ByteArray
  levels : List GLe
  rules : List GRu
def altA (a : GAl) : AV := .agg [intA a.body.kind, strA a.body.name, .sl 3 (kidsL a.body), intA a.price]
def altsA (l : List GAl) : AV := .sl 4 (l.map altA)
def gruleA (r : GRu) : AV := .agg [strA r.name, altsA r.alts]
def grulesA (l : List GRu) : AV := .sl 2 (l.map gruleA)
def levelA (l : GLe) : AV := .agg [intA l.assoc, strsA l.tokens]
def levelsA (l : List GLe) : AV := .sl 2 (l.map levelA)
def fileA (f : GFi) : AV := .agg [strA f.start, levelsA f.levels, grulesA f.rules]
@[simp] theorem bd_altA (n : Nat) (a : GAl) : (altA a).bd n = true := by simp [altA, AV.bd, bdL]
@[simp] theorem bdL_altA (n : Nat) (l : List GAl) : bdL n (l.map altA) = true := bdL_map (bd_altA n) l
@[simp] theorem bd_altsA (n : Nat) (l : List GAl) : (altsA l).bd n = true := bdL_altA n l
@[simp] theorem bd_gruleA (n : Nat) (r : GRu) : (gruleA r).bd n = true := by simp [gruleA, AV.bd, bdL]
@[simp] theorem bdL_gruleA (n : Nat) (l : List GRu) : bdL n (l.map gruleA) = true := bdL_map (bd_gruleA n) l
@[simp] theorem bd_grulesA (n : Nat) (l : List GRu) : (grulesA l).bd n = true := bdL_gruleA n l
@[simp] theorem bd_levelA (n : Nat) (l : GLe) : (levelA l).bd n = true := by simp [levelA, AV.bd, bdL]
@[simp] theorem bdL_levelA (n : Nat) (l : List GLe) : bdL n (l.map levelA) = true := bdL_map (bd_levelA n) l
@[simp] theorem bd_levelsA (n : Nat) (l : List GLe) : (levelsA l).bd n = true := bdL_levelA n l
@[simp] theorem bd_fileA (n : Nat) (f : GFi) : (fileA f).bd n = true := by simp [fileA, AV.bd, bdL]
end Go.Lg

namespace Go.Lg
open Go.RowKit
def AV.ifree : AV → Bool
  | .any | .val _ | .ref _ _ _ _ | .ptr _ _ _ _ | .map _ | .yld _ => true
  | _ => false
def AObj.ifree : AObj → Bool
  | .arr _ es => es.all AV.ifree
  | .bytes _ => true
  | .bld _ x => x.ifree
  | .map _ => false
  | .lop _ _ => false
section
variable {A A' : Nat → Prop} {ρ ρ' : Nat → Option Nat} {I I' : Nat → Prop} {w : World} {π : Nat → Nat}
end
section
variable {P : Program} {Γ : Cx} {A : Nat → Prop} {ρ : Nat → Option Nat} {s : St} {a : Act} {w : World}
def shown : List AV → List AV → List Nat
  | x :: xs, y :: ys => match x, y with
    | .ref id _ _ _, .sl _ _ => id :: shown xs ys
    | _, _ => shown xs ys
  | _, _ => []
theorem shown_more {id : Nat} {x y : AV} {xs ys : List AV} (h : id ∈ shown xs ys) : id ∈ shown (x :: xs) (y :: ys) := by
  simp only [shown]
  split
  · exact List.mem_cons_of_mem _ h
  · exact h
inductive ArgS (π : Nat → Nat) (m : Nat) (look : Nat → Option AObj) : List AV → List AV → Prop
  | nil : ArgS π m look [] []
  | ren {x y : AV} {xs ys : List AV} (h : x = y.ren π) (hb : y.bd m = true) (t : ArgS π m look xs ys) : ArgS π m look (x :: xs) (y :: ys)
  | row {id k len : Nat} {es : List AV} {xs ys : List AV} (ho : look id = some (.arr k es)) (hl : es.length = len) (hb : bdL 0 es = true) (hk : ∀ e, e ∈ es → e.cells.length = k) (t : ArgS π m look xs ys) : ArgS π m look (.ref id k 0 len :: xs) (.sl k es :: ys)
theorem ArgS.len {π : Nat → Nat} {m : Nat} {look : Nat → Option AObj} {xs ys : List AV} (h : ArgS π m look xs ys) : ys.length = xs.length := by
  induction h with
  | nil => rfl
  | ren _ _ _ ih => simp [ih]
  | row _ _ _ _ _ ih => simp [ih]
theorem ArgS.get {π : Nat → Nat} {m : Nat} {look : Nat → Option AObj} {xs ys : List AV} (h : ArgS π m look xs ys) : ∀ (i : Nat) x y, xs[i]? = some x → ys[i]? = some y → (x = y.ren π ∧ y.bd m = true) ∨ ∃ id k len es, x = .ref id k 0 len ∧ y = .sl k es ∧ look id = some (.arr k es) ∧ es.length = len ∧ bdL 0 es = true ∧ (∀ e, e ∈ es → e.cells.length = k) ∧ id ∈ shown xs ys := by
  induction h with
  | nil => intro i x y hx; simp at hx
  | ren h hb _ ih =>
    intro i x y hx hy
    cases i with
    | zero => simp at hx hy; subst hx hy; exact .inl ⟨h, hb⟩
    | succ i =>
      rcases ih i x y (by simpa using hx) (by simpa using hy) with q | ⟨a, b, c, d, q1, q2, q3, q4, q5, q6, q7⟩
      · exact .inl q
      · exact .inr ⟨a, b, c, d, q1, q2, q3, q4, q5, q6, shown_more q7⟩
  | row ho hl hb hk _ ih =>
    intro i x y hx hy
    cases i with
    | zero => simp at hx hy; subst hx hy; exact .inr ⟨_, _, _, _, rfl, rfl, ho, hl, hb, hk, by simp [shown]⟩
    | succ i =>
      rcases ih i x y (by simpa using hx) (by simpa using hy) with q | ⟨a, b, c, d, q1, q2, q3, q4, q5, q6, q7⟩
      · exact .inl q
      · exact .inr ⟨a, b, c, d, q1, q2, q3, q4, q5, q6, shown_more q7⟩
end
end Go.Lg
