/-
  base
-/
import Derived.Test.YteipbjbnlleheaaDoorKg17
import Derived.Test.YteipbjbnlleheaaDoorRows
import Derived.Shelf.Vars

set_option linter.unusedSimpArgs false
set_option linter.unusedVariables false
set_option linter.unusedSectionVars false

/-
  What a shaped memory holds in the package-level variables; what the listed tables hold. (Printed by a program.)
-/
namespace Go.Lg
open Go.Proofs Go.Proofs.YteipbjbnlleheaaDoor
def laid0 : List (String × DataW Unit) := [("math/bits.deBruijn32tab", Rows.laid_math_bits_deBruijn32tab), ("math/bits.deBruijn64tab", Rows.laid_math_bits_deBruijn64tab), ("internal/strconv.uint64pow10", Rows.laid_internal_strconv_uint64pow10)]
theorem gw_open {w : World} (h : w.ShapedOpen Tryd.prog) (hl : laidMetH Tryd.prog laid0 w) : GW w ∧ GL ≤ w.heap.size := by
  rw [MakeChecks.laidMetH_plain _ _ _ (by kernel_rfl)] at hl
  obtain ⟨ps, hl, _⟩ := hl
  refine ⟨⟨?_, ?_⟩, ?_⟩
  · intro p hp
    simp only [gints, List.mem_cons, List.mem_nil_iff, or_false] at hp
    rcases hp with rfl
    · exact cell_of_shapedOpen_int (zero := #[.int .i64 0]) (t := 3) h (of_decide_eq_true (by kernel_rfl)) (by kernel_rfl) rfl (by kernel_rfl) (by kernel_rfl) (by kernel_rfl)
  · intro p hp
    simp only [gtabs, List.mem_cons, List.mem_nil_iff, or_false] at hp
    rcases hp with rfl | rfl | rfl
    · exact laid_tab (name := "math/bits.deBruijn32tab") (t := 112) (e := 5) (n := 32) (by kernel_rfl) (by kernel_rfl) (by kernel_rfl) (by kernel_rfl) (by kernel_rfl) (by kernel_rfl) hl (by simp [laid0, Lib.tabData, Rows.laid_math_bits_deBruijn32tab])
    · exact laid_tab (name := "math/bits.deBruijn64tab") (t := 113) (e := 5) (n := 64) (by kernel_rfl) (by kernel_rfl) (by kernel_rfl) (by kernel_rfl) (by kernel_rfl) (by kernel_rfl) hl (by simp [laid0, Lib.tabData, Rows.laid_math_bits_deBruijn64tab])
    · exact laid_tab (name := "internal/strconv.uint64pow10") (t := 105) (e := 98) (n := 20) (by kernel_rfl) (by kernel_rfl) (by kernel_rfl) (by kernel_rfl) (by kernel_rfl) (by kernel_rfl) hl (by simp [laid0, Lib.tabData, Rows.laid_internal_strconv_uint64pow10])
  · have hs : ((((begin Tryd.prog (fun _ _ => 0) default).world.heap[3]?).bind Obj.row?).isSome) = true := by kernel_rfl
    obtain ⟨⟨zero, t⟩, hr⟩ := Option.isSome_iff_exists.1 hs
    obtain ⟨cs, hh, _⟩ := h.1 3 zero t (of_decide_eq_true (by kernel_rfl)) hr
    exact (Array.getElem?_eq_some_iff.1 hh).1
end Go.Lg

/- The door's own heap meets what the rows ask of it. -/
namespace Go.Lg
open Go.Proofs Go.RowKit
theorem door_met (os : Os) (args : Array Value) : laidMetH Tryd.prog laid0 ((World.doorLaid Tryd.prog 400 os).forCall (fun _ _ => 0) ⟨#[], args, []⟩).memory :=
  laidMetH_of_parts3 (fuel := 8) (laidMet_of_run' 8 (by kernel_rfl) (by kernel_rfl)) (by kernel_rfl) (by kernel_rfl)
theorem door_sh (os : Os) (args : Array Value) : ((World.doorLaid Tryd.prog 400 os).forCall (fun _ _ => 0) ⟨#[], args, []⟩).Shaped Tryd.prog :=
  World.shaped_of_RefB (by kernel_rfl) (by kernel_rfl)
end Go.Lg
