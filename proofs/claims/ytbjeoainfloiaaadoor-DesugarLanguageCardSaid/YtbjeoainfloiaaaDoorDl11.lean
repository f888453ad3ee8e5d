/-
  Part 11 of the proof of DesugarLanguageCard: the logic over the model, the functions' contracts and the plain laws.
-/
import Derived.Test.YtbjeoainfloiaaaDoorDl10
import Derived.Test.YtbjeoainfloiaaaDoorRows
import Derived.Shelf.Vars

set_option linter.unusedSimpArgs false
set_option linter.unusedVariables false
set_option linter.unusedSectionVars false
set_option linter.defProp false

namespace Go.Lg
open Go.Proofs Go.Proofs.YtbjeoainfloiaaaDoor
def laid0 : List (String × DataW Unit) := [("math/bits.deBruijn32tab", Rows.laid_math_bits_deBruijn32tab), ("math/bits.deBruijn64tab", Rows.laid_math_bits_deBruijn64tab), ("internal/strconv.uint64pow10", Rows.laid_internal_strconv_uint64pow10)]
theorem gw_open {w : World} (h : w.ShapedOpen Tryd.prog) (hl : laidMetH Tryd.prog laid0 w) : GW w ∧ GL ≤ w.heap.size := by
  rw [MakeChecks.laidMetH_plain _ _ _ (by kernel_rfl)] at hl
  obtain ⟨ps, hl, _⟩ := hl
  refine ⟨⟨?_, ?_⟩, ?_⟩
  · intro p hp
    simp only [gints, List.mem_cons, List.mem_nil_iff, or_false] at hp
    rcases hp with rfl
    · exact cell_of_shapedOpen_int (zero := #[.int .i64 0]) (t := 3) h (of_decide_eq_true (by kernel_rfl)) (by kernel_rfl) rfl (by kernel_rfl) (by kernel_rfl) (by kernel_rfl)
  · intro p hp
    simp only [gtabs, List.mem_cons, List.mem_nil_iff, or_false] at hp
    rcases hp with rfl | rfl | rfl
    · exact laid_tab (name := "math/bits.deBruijn32tab") (t := 131) (e := 5) (n := 32) (by kernel_rfl) (by kernel_rfl) (by kernel_rfl) (by kernel_rfl) (by kernel_rfl) (by kernel_rfl) hl (by simp [laid0, Lib.tabData, Rows.laid_math_bits_deBruijn32tab])
    · exact laid_tab (name := "math/bits.deBruijn64tab") (t := 132) (e := 5) (n := 64) (by kernel_rfl) (by kernel_rfl) (by kernel_rfl) (by kernel_rfl) (by kernel_rfl) (by kernel_rfl) hl (by simp [laid0, Lib.tabData, Rows.laid_math_bits_deBruijn64tab])
    · exact laid_tab (name := "internal/strconv.uint64pow10") (t := 124) (e := 116) (n := 20) (by kernel_rfl) (by kernel_rfl) (by kernel_rfl) (by kernel_rfl) (by kernel_rfl) (by kernel_rfl) hl (by simp [laid0, Lib.tabData, Rows.laid_internal_strconv_uint64pow10])
  · have hs : ((((begin Tryd.prog (fun _ _ => 0) default).world.heap[3]?).bind Obj.row?).isSome) = true := by kernel_rfl
    obtain ⟨⟨zero, t⟩, hr⟩ := Option.isSome_iff_exists.1 hs
    obtain ⟨cs, hh, _⟩ := h.1 3 zero t (of_decide_eq_true (by kernel_rfl)) hr
    exact (Array.getElem?_eq_some_iff.1 hh).1
end Go.Lg

namespace Go.Lg
open Go.Proofs Go.RowKit
theorem door_met (os : Os) (args : Array Value) : laidMetH Tryd.prog laid0 ((World.doorLaid Tryd.prog 400 os).forCall (fun _ _ => 0) ⟨#[], args, []⟩).memory :=
  laidMetH_of_parts3 (fuel := 8) (laidMet_of_run' 8 (by kernel_rfl) (by kernel_rfl)) (by kernel_rfl) (by kernel_rfl)
theorem door_sh (os : Os) (args : Array Value) : ((World.doorLaid Tryd.prog 400 os).forCall (fun _ _ => 0) ⟨#[], args, []⟩).Shaped Tryd.prog :=
  World.shaped_of_RefB (by kernel_rfl) (by kernel_rfl)
end Go.Lg

namespace Go.Lg
open Go.RowKit
def AV.ifree : AV → Bool
  | .any | .val _ | .ref _ _ _ _ | .ptr _ _ _ _ | .map _ => true
  | _ => false
def AObj.ifree : AObj → Bool
  | .arr _ es => es.all AV.ifree
  | .bytes _ => true
  | .bld _ x => x.ifree
  | .map _ => false
section
variable {A A' : Nat → Prop} {ρ ρ' : Nat → Option Nat} {I I' : Nat → Prop} {w : World} {π : Nat → Nat}
end
section
variable {P : Program} {Γ : Cx} {A : Nat → Prop} {ρ : Nat → Option Nat} {s : St} {a : Act} {w : World}
def shown : List AV → List AV → List Nat
  | x :: xs, y :: ys => match x, y with
    | .ref id _ _ _, .sl _ _ => id :: shown xs ys
    | _, _ => shown xs ys
  | _, _ => []
theorem shown_more {id : Nat} {x y : AV} {xs ys : List AV} (h : id ∈ shown xs ys) : id ∈ shown (x :: xs) (y :: ys) := by
  simp only [shown]
  split
  · exact List.mem_cons_of_mem _ h
  · exact h
inductive ArgS (π : Nat → Nat) (m : Nat) (look : Nat → Option AObj) : List AV → List AV → Prop
  | nil : ArgS π m look [] []
  | ren {x y : AV} {xs ys : List AV} (h : x = y.ren π) (hb : y.bd m = true) (t : ArgS π m look xs ys) : ArgS π m look (x :: xs) (y :: ys)
  | row {id k len : Nat} {es : List AV} {xs ys : List AV} (ho : look id = some (.arr k es)) (hl : es.length = len) (hb : bdL 0 es = true) (hk : ∀ e, e ∈ es → e.cells.length = k) (t : ArgS π m look xs ys) : ArgS π m look (.ref id k 0 len :: xs) (.sl k es :: ys)
theorem ArgS.len {π : Nat → Nat} {m : Nat} {look : Nat → Option AObj} {xs ys : List AV} (h : ArgS π m look xs ys) : ys.length = xs.length := by
  induction h with
  | nil => rfl
  | ren _ _ _ ih => simp [ih]
  | row _ _ _ _ _ ih => simp [ih]
theorem ArgS.get {π : Nat → Nat} {m : Nat} {look : Nat → Option AObj} {xs ys : List AV} (h : ArgS π m look xs ys) : ∀ (i : Nat) x y, xs[i]? = some x → ys[i]? = some y → (x = y.ren π ∧ y.bd m = true) ∨ ∃ id k len es, x = .ref id k 0 len ∧ y = .sl k es ∧ look id = some (.arr k es) ∧ es.length = len ∧ bdL 0 es = true ∧ (∀ e, e ∈ es → e.cells.length = k) ∧ id ∈ shown xs ys := by
  induction h with
  | nil => intro i x y hx; simp at hx
  | ren h hb _ ih =>
    intro i x y hx hy
    cases i with
    | zero => simp at hx hy; subst hx hy; exact .inl ⟨h, hb⟩
    | succ i =>
      rcases ih i x y (by simpa using hx) (by simpa using hy) with q | ⟨a, b, c, d, q1, q2, q3, q4, q5, q6, q7⟩
      · exact .inl q
      · exact .inr ⟨a, b, c, d, q1, q2, q3, q4, q5, q6, shown_more q7⟩
  | row ho hl hb hk _ ih =>
    intro i x y hx hy
    cases i with
    | zero => simp at hx hy; subst hx hy; exact .inr ⟨_, _, _, _, rfl, rfl, ho, hl, hb, hk, by simp [shown]⟩
    | succ i =>
      rcases ih i x y (by simpa using hx) (by simpa using hy) with q | ⟨a, b, c, d, q1, q2, q3, q4, q5, q6, q7⟩
      · exact .inl q
      · exact .inr ⟨a, b, c, d, q1, q2, q3, q4, q5, q6, shown_more q7⟩
end
end Go.Lg
