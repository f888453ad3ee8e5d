/-
  Part 18 of the proof of PrecedenceUnambiguousCard: the logic over the model, the functions' contracts and the plain laws.
-/
import Derived.Test.YtmgpndmmodkhhaaDoorPu17
import Derived.RangeFuncIn
import Derived.RangeFuncLeaves

set_option linter.unusedSimpArgs false
set_option linter.unusedVariables false
set_option linter.unusedSectionVars false
set_option linter.defProp false

namespace Go.Lg
open Go.RowKit
def FW (r : Option Nat) : Fence := { Fence.wide with round := r }
section
variable {P : Program} {r : Option Nat} {ops : Array Oper} {a : Act} {w : World}
end
def WPI (P : Program) (Γ : Cx) (k : Nat) (c : Code) (Q : Exit -> St -> Prop) (s : St) : Prop :=
 ∀ a w, SR Γ s a w -> c.wpIn (FW (some k)) 0 P (fun e a' w' => ∃ s', Q e s' /\ SR Γ s' a' w') a w
section
variable {P : Program} {Γ : Cx} {r : Option Nat} {k : Nat} {ops : Array Oper} {Q : Exit -> St -> Prop} {s : St} {pre post : List Oper}
theorem WPI.mono {c : Code} {Q' : Exit -> St -> Prop} (h : WPI P Γ k c Q s) (hq : ∀ e s, Q e s -> Q' e s) : WPI P Γ k c Q' s :=
 fun a w hs => wpIn_mono (h a w hs) fun e _ _ ⟨s', h1, h2⟩ => ⟨s', hq e s' h1, h2⟩
end
end Go.Lg
