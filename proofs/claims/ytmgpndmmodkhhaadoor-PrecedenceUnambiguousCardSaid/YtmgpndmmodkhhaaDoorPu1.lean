/-
  Part 1 of the proof of PrecedenceUnambiguousCard: the logic over the model, the functions' contracts and the plain laws.
-/
import Derived.WalkKit

set_option linter.unusedSimpArgs false
set_option linter.unusedVariables false
set_option linter.unusedSectionVars false
set_option linter.defProp false

namespace Go.Lg
def GL : Nat := 4
def gints : List (Nat × IntKind) := [(3, .i64)]
def gtabs : List (Nat × IntKind × List Int) := [(1, .u8, [0, 1, 28, 2, 29, 14, 24, 3, 30, 22, 20, 15, 25, 17, 4, 8, 31, 27, 13, 23, 21, 19, 16, 7, 26, 12, 18, 6, 11, 5, 10, 9]), (2, .u8, [0, 1, 56, 2, 57, 49, 28, 3, 61, 58, 42, 50, 38, 29, 17, 4, 62, 47, 59, 36, 45, 43, 51, 22, 53, 39, 33, 30, 24, 18, 12, 5, 63, 55, 48, 27, 60, 41, 37, 16, 46, 35, 44, 21, 52, 32, 23, 11, 54, 26, 40, 15, 34, 20, 31, 10, 25, 14, 19, 9, 13, 8, 7, 6]), (0, .u64, [1, 10, 100, 1000, 10000, 100000, 1000000, 10000000, 100000000, 1000000000, 10000000000, 100000000000, 1000000000000, 10000000000000, 100000000000000, 1000000000000000, 10000000000000000, 100000000000000000, 1000000000000000000, 10000000000000000000])]
def GB : TypeId := 5
def GW (w : World) : Prop := (∀ p, p ∈ gints -> ∃ m, w.cell? ⟨p.1, 0, none⟩ = some (.int p.2 m)) /\ ∀ p, p ∈ gtabs -> ∃ t z, w.heap[p.1]? = some (.cells (p.2.2.map (Value.int p.2.1)).toArray t z)
theorem GW_loc {w w' : World} (h : ∀ b, b < GL -> w'.heap[b]? = w.heap[b]?) (hw : GW w) : GW w' := by
 refine ⟨fun p hp => ?_, fun p hp => ?_⟩
 ·obtain ⟨m, hm⟩ := hw.1 p hp
  have hl : ∀ p, p ∈ gints -> p.1 < GL := by decide
  exact ⟨m, (World.cell?_of_block (h p.1 (hl p hp))).trans hm⟩
 ·obtain ⟨t, z, hm⟩ := hw.2 p hp
  have hl : ∀ p, p ∈ gtabs.map (·.1) -> p < GL := by decide
  exact ⟨t, z, (h p.1 (hl p.1 (List.mem_map_of_mem hp))).trans hm⟩
end Go.Lg
