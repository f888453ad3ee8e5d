/-
  Part 1 of the proof of ReduceFrom: the logic over the model, the functions' contracts and the plain laws.
-/
import Derived.WalkKit

set_option linter.unusedSimpArgs false
set_option linter.unusedVariables false
set_option linter.unusedSectionVars false

/-
  The package-level variables of an integer kind: each holds some number, whatever else the memory holds. (Printed by a program.)
-/
namespace Go.Lg
/-- how many package-level variables there are -/
def GL : Nat := 1
def gints : List (Nat × IntKind) := [(0, .i64)]
/-- What is asked of the memory's lowest blocks. -/
def GW (w : World) : Prop := ∀ p, p ∈ gints → ∃ m, w.cell? ⟨p.1, 0, none⟩ = some (.int p.2 m)
theorem GW_loc {w w' : World} (h : ∀ b, b < GL → w'.heap[b]? = w.heap[b]?) (hw : GW w) : GW w' := by
  intro p hp
  obtain ⟨m, hm⟩ := hw p hp
  have hl : ∀ p, p ∈ gints → p.1 < GL := by decide
  exact ⟨m, (World.cell?_of_block (h p.1 (hl p hp))).trans hm⟩
end Go.Lg
