/-
  Part 11 of the proof of PrecedenceUnambiguousCard: the logic over the model, the functions' contracts and the plain laws.
-/
import Derived.Test.YtmgpndmmodkhhaaDoorPu10
import Derived.Test.YtmgpndmmodkhhaaDoorRows

set_option linter.unusedSimpArgs false
set_option linter.unusedVariables false
set_option linter.unusedSectionVars false
set_option linter.defProp false
set_option maxRecDepth 20000

namespace Go.Lg
open Go.Proofs Go.RowKit Go.ChangeShapes Go.WideShapes
instance dat_int_i : Dat Tryd.prog 3 intA := dat_int (k := .i64) (by kernel_rfl)
instance dat_str_i : Dat Tryd.prog 9 strA := dat_string (by kernel_rfl)
instance dat_ints_i : Dat Tryd.prog 32 intsA := dat_slice (e := 3) (k := 1) (f := intA) (by kernel_rfl) (by kernel_rfl) (by decide) (fun _ => rfl)
instance dat_strs_i : Dat Tryd.prog 22 strsA := dat_slice (e := 9) (k := 1) (f := strA) (by kernel_rfl) (by kernel_rfl) (by decide) (fun _ => rfl)
instance dat_rule_i : Dat Tryd.prog 39 ruleA := dat_fields (l := [(3, 0), (32, 1), (3, 2)]) (m := 3) (by kernel_rfl) (by kernel_rfl) fun hc ⟨h0, h1, h2, _⟩ => by
 obtain ⟨a0, h0⟩ := field_dat h0 (n := 1) (by kernel_rfl)
 obtain ⟨a1, h1⟩ := field_dat h1 (n := 1) (by kernel_rfl)
 obtain ⟨a2, h2⟩ := field_dat h2 (n := 1) (by kernel_rfl)
 exact ⟨⟨a0, a1, a2⟩, CR.seg h0 (CR.seg h1 (CR.seg h2 (CR.fin (by omega))))⟩
instance dat_rules_i : Dat Tryd.prog 23 rulesA := dat_slice (e := 39) (k := 3) (f := ruleA) (by kernel_rfl) (by kernel_rfl) (by decide) (fun _ => rfl)
instance dat_gram_i : Dat Tryd.prog 25 gramA := dat_fields (l := [(22, 0), (22, 1), (3, 2), (23, 3)]) (m := 4) (by kernel_rfl) (by kernel_rfl) fun hc ⟨h0, h1, h2, h3, _⟩ => by
 obtain ⟨a0, h0⟩ := field_dat h0 (n := 1) (by kernel_rfl)
 obtain ⟨a1, h1⟩ := field_dat h1 (n := 1) (by kernel_rfl)
 obtain ⟨a2, h2⟩ := field_dat h2 (n := 1) (by kernel_rfl)
 obtain ⟨a3, h3⟩ := field_dat h3 (n := 1) (by kernel_rfl)
 exact ⟨⟨a0, a1, a2, a3⟩, CR.seg h0 (CR.seg h1 (CR.seg h2 (CR.seg h3 (CR.fin (by omega)))))⟩
theorem ownk : ownKnob Tryd.prog.godebug = none := by kernel_rfl
theorem laidk : laidOutB Tryd.prog = true := by kernel_rfl
theorem agg_gram : ∃ fs, Tryd.prog.underlying 25 = some (.struct fs) := by
 have h : ((Tryd.prog.underlying 25).map fun d => match d with | .struct _ => true | _ => false) = some true := by kernel_rfl
 cases hu : Tryd.prog.underlying 25 with
 | none => rw [hu] at h; cases h
 | some d => rw [hu] at h; cases d <;> first | exact ⟨_, rfl⟩ | cases h
theorem arg_gram {H : Type} {enc : TypeId × Value -> H} {w : World} {v : Value} {d : DataW H} {ps : List MemPlace} (h : DataW.Trod enc Tryd.prog w 0 (fun _ => true) true 25 v d ps) {r : Reach} {b0 : Nat} (hval : Value.okWide Tryd.prog w r b0 25 v) : ∃ g : Gram, RW0 w (gramA g) v := by
 obtain ⟨fs, hfs⟩ := agg_gram
 exact arg_dat (f := gramA) h hval fun _ => .inr ⟨_, fs, rfl, hfs⟩
end Go.Lg
namespace Go.Lg
inductive GEx where
 | mk (kind : Int) (name : ByteArray) (kids : List GEx)
namespace GEx
def kind : GEx -> Int | .mk k _ _ => k
def name : GEx -> ByteArray | .mk _ n _ => n
def kids : GEx -> List GEx | .mk _ _ l => l
theorem ind {P : GEx -> Prop} (h : ∀ e : GEx, (∀ x, x ∈ e.kids -> P x) -> P e) : ∀ e, P e :=
 fun e => GEx.rec (motive_1 := P) (motive_2 := fun l => ∀ x, x ∈ l -> P x) (fun k n l ih => h _ ih) (fun x hx => by cases hx) (fun a l ha hl x hx => by
  rcases List.mem_cons.1 hx with rfl | hx
  ·exact ha
  ·exact hl x hx) e
theorem ext' {a b : GEx} (h1 : a.kind = b.kind) (h2 : a.name = b.name) (h3 : a.kids = b.kids) : a = b := by
 cases a; cases b; simp only [kind, name, kids] at h1 h2 h3; subst h1 h2 h3; rfl
end GEx
mutual
def kidsL : GEx -> List AV
 | .mk _ _ l => exprsL l
def exprsL : List GEx -> List AV
 | [] => []
 | e :: l => .agg [intA e.kind, strA e.name, .sl 3 (kidsL e)] :: exprsL l
end
def exprA (e : GEx) : AV := .agg [intA e.kind, strA e.name, .sl 3 (kidsL e)]
theorem exprsL_map : ∀ l : List GEx, exprsL l = l.map exprA
 | [] => rfl
 | e :: l => by rw [exprsL, exprsL_map l]; rfl
theorem kidsL_map (e : GEx) : kidsL e = e.kids.map exprA := by cases e; rw [kidsL, exprsL_map]; rfl
@[simp] theorem kidsL_len (e : GEx) : (kidsL e).length = e.kids.length := by rw [kidsL_map, List.length_map]
theorem exprA_eq (e : GEx) : exprA e = .agg [intA e.kind, strA e.name, .sl 3 (e.kids.map exprA)] := by rw [exprA, kidsL_map]
@[simp] theorem bd_exprA (n : Nat) (e : GEx) : (exprA e).bd n = true := by
 induction e using GEx.ind with
 | h e ih =>
  rw [exprA_eq]
  have : bdL n (e.kids.map exprA) = true := by
   rw [bdL_iff]
   intro x hx
   obtain ⟨y, hy, rfl⟩ := List.mem_map.1 hx
   exact ih y hy
  simp [AV.bd, bdL, this]
@[simp] theorem bdL_exprs (n : Nat) (l : List GEx) : bdL n (l.map exprA) = true := bdL_map (bd_exprA n) l
@[simp] theorem bdL_kidsL (n : Nat) (e : GEx) : bdL n (kidsL e) = true := by rw [kidsL_map]; exact bdL_exprs n _
structure GAl where
 body : GEx
 price : Int
structure GRu where
 name : ByteArray
 alts : List GAl
structure GLe where
 assoc : Int
 tokens : List ByteArray
structure GFi where
 start : ByteArray
 levels : List GLe
 rules : List GRu
instance : Inhabited GLe := ⟨⟨0, []⟩⟩
def altA (a : GAl) : AV := .agg [intA a.body.kind, strA a.body.name, .sl 3 (kidsL a.body), intA a.price]
def altsA (l : List GAl) : AV := .sl 4 (l.map altA)
def gruleA (r : GRu) : AV := .agg [strA r.name, altsA r.alts]
def grulesA (l : List GRu) : AV := .sl 2 (l.map gruleA)
def levelA (l : GLe) : AV := .agg [intA l.assoc, strsA l.tokens]
def levelsA (l : List GLe) : AV := .sl 2 (l.map levelA)
def fileA (f : GFi) : AV := .agg [strA f.start, levelsA f.levels, grulesA f.rules]
@[simp] theorem bd_altA (n : Nat) (a : GAl) : (altA a).bd n = true := by simp [altA, AV.bd, bdL]
@[simp] theorem bdL_altA (n : Nat) (l : List GAl) : bdL n (l.map altA) = true := bdL_map (bd_altA n) l
@[simp] theorem bd_altsA (n : Nat) (l : List GAl) : (altsA l).bd n = true := bdL_altA n l
@[simp] theorem bd_gruleA (n : Nat) (r : GRu) : (gruleA r).bd n = true := by simp [gruleA, AV.bd, bdL]
@[simp] theorem bdL_gruleA (n : Nat) (l : List GRu) : bdL n (l.map gruleA) = true := bdL_map (bd_gruleA n) l
@[simp] theorem bd_grulesA (n : Nat) (l : List GRu) : (grulesA l).bd n = true := bdL_gruleA n l
@[simp] theorem bd_levelA (n : Nat) (l : GLe) : (levelA l).bd n = true := by simp [levelA, AV.bd, bdL]
@[simp] theorem bdL_levelA (n : Nat) (l : List GLe) : bdL n (l.map levelA) = true := bdL_map (bd_levelA n) l
@[simp] theorem bd_levelsA (n : Nat) (l : List GLe) : (levelsA l).bd n = true := bdL_levelA n l
@[simp] theorem bd_fileA (n : Nat) (f : GFi) : (fileA f).bd n = true := by simp [fileA, AV.bd, bdL]
end Go.Lg
namespace Go.Lg
open Go.Proofs Go.RowKit Go.ChangeShapes Go.WideShapes
instance dat_level_i : Dat Tryd.prog 42 levelA := dat_fields (l := [(3, 0), (22, 1)]) (m := 2) (by kernel_rfl) (by kernel_rfl) fun hc ⟨h0, h1, _⟩ => by
 obtain ⟨a0, h0⟩ := field_dat h0 (n := 1) (by kernel_rfl)
 obtain ⟨a1, h1⟩ := field_dat h1 (n := 1) (by kernel_rfl)
 exact ⟨⟨a0, a1⟩, CR.seg h0 (CR.seg h1 (CR.fin (by omega)))⟩
instance dat_levels_i : Dat Tryd.prog 26 levelsA := dat_slice (e := 42) (k := 2) (f := levelA) (by kernel_rfl) (by kernel_rfl) (by decide) (fun _ => rfl)
theorem arg_levels {H : Type} {enc : TypeId × Value -> H} {w : World} {v : Value} {d : DataW H} {ps : List MemPlace} (h : DataW.Trod enc Tryd.prog w 0 (fun _ => true) true 26 v d ps) {r : Reach} {b0 : Nat} (hval : Value.okWide Tryd.prog w r b0 26 v) : ∃ s : List GLe, RW0 w (levelsA s) v := by
 have hu : Tryd.prog.underlying 26 = some (.slice 42) := by kernel_rfl
 exact arg_dat (f := levelsA) h hval fun _ => .inl ⟨rfl, by rw [hu]; trivial⟩
end Go.Lg
