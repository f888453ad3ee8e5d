/-
  Part 1 of the proof of BinarizeParseRoundTripUpto: the logic over the model, the functions' contracts and the plain laws.
-/
import Derived.WalkKit

set_option linter.unusedSimpArgs false
set_option linter.unusedVariables false
set_option linter.unusedSectionVars false
set_option linter.defProp false

namespace Go.Lg
def GL : Nat := 1
def gints : List (Nat × IntKind) := [(0, .i64)]
def gtabs : List (Nat × IntKind × List Int) := []
def GB : TypeId := 5
def GW (w : World) : Prop := (∀ p, p ∈ gints → ∃ m, w.cell? ⟨p.1, 0, none⟩ = some (.int p.2 m)) ∧ ∀ p, p ∈ gtabs → ∃ t z, w.heap[p.1]? = some (.cells (p.2.2.map (Value.int p.2.1)).toArray t z)
theorem GW_loc {w w' : World} (h : ∀ b, b < GL → w'.heap[b]? = w.heap[b]?) (hw : GW w) : GW w' := by
  refine ⟨fun p hp => ?_, fun p hp => ?_⟩
  · obtain ⟨m, hm⟩ := hw.1 p hp
    have hl : ∀ p, p ∈ gints → p.1 < GL := by decide
    exact ⟨m, (World.cell?_of_block (h p.1 (hl p hp))).trans hm⟩
  · obtain ⟨t, z, hm⟩ := hw.2 p hp
    have hl : ∀ p, p ∈ gtabs.map (·.1) → p < GL := by decide
    exact ⟨t, z, (h p.1 (hl p.1 (List.mem_map_of_mem hp))).trans hm⟩
end Go.Lg
