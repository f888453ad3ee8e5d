/-
  Part 18 of the proof of TreeLiftStratifiedCard: the logic over the model, the functions' contracts and the plain laws.
-/
import Derived.Test.YtfaoljcgigkonabDoorTs17
import Derived.RangeFuncIn
import Derived.RangeFuncLeaves
set_option linter.unusedSimpArgs false
set_option linter.unusedVariables false
set_option linter.unusedSectionVars false
set_option linter.defProp false
namespace Go.Lg
open Go.RowKit
def FW (r : Option Nat) : Fence := { Fence.wide with round := r }
theorem calls_fw {r : Option Nat} {n : Nat} {P : Program} {f : FuncId} {args : Array Value} {w : World} {R : Ending -> World -> Prop} (h : Calls P f args w R) : CallsIn (FW r) n P f args w R := (callsIn_wide (n := n)).2 h
theorem rows_fw {r : Option Nat} {n : Nat} {P : Program} {row : String} {args : Array Value} {w : World} {R : Value -> World -> Prop} (h : Rows P row args w R) : RowsIn (FW r) n P row args w R :=
 fun c cs _ => let ⟨v, w', q, s⟩ := h c cs; ⟨v, w', q, stepsIn_wide.2 s⟩
section
variable {P : Program} {r : Option Nat} {ops : Array Oper} {a : Act} {w : World}
theorem op_fw {o : Oper} (hdef : r = none \/ ∀ c, o.op ≠ .defer c) {next next' : Act -> World -> Prop} {Q Q' : Exit -> Act -> World -> Prop} (h : o.wp P a w next Q) (hn : ∀ a w, next a w -> next' a w)
  (hq : ∀ e a w, e ≠ .normal -> Q e a w -> Q' e a w) : o.wpIn (FW r) 0 P a w next' Q' := by
 refine ⟨fun _ _ => trivial, ?_⟩
 have hs : o.semAt (FW r).round a.eval = execOp a.eval o := by
  rcases hdef with rfl | hd
  ·exact Oper.semAt_none _ _
  ·exact Oper.semAt_eq _ _ _ hd
 rw [hs]
 unfold Oper.wp at h
 revert h
 generalize (execOp a.eval o).run P w = res
 intro h
 have hlo : LetsOut Q -> LetsOut Q' := fun ⟨a0, w0, hh⟩ => ⟨a0, w0, hq _ _ _ (by simp) hh⟩
 match res, h with
 | .ok (.value v) w', h => exact hn _ _ h
 | .ok .skip w', h => exact hn _ _ h
 | .ok (.defer d) w', h => exact hn _ _ h
 | .ok (.enter f args) w', h =>
  refine ⟨fun hh => by simp [FW, Fence.wide] at hh, (calls_fw h).mono ?_⟩
  intro e w'' he
  cases e with
  | returned v => exact hn _ _ he
  | panicked ch => exact hq _ _ _ (by simp) he
  | outgrown => exact hlo he
 | .ok (.row row args) w', h => exact ⟨fun hh => by simp [FW, Fence.wide] at hh, (rows_fw h).mono fun v w'' he => hn _ _ he⟩
 | .halt (.panic v) w', h => exact hq _ _ _ (by simp) h
theorem list_fw {post : List Oper} {Q1 Q : Exit -> Act -> World -> Prop} (hlo : ¬ LetsOut Q1) (hn : ∀ a w, Q1 .normal a w -> wpListIn (FW r) 0 P ops Q post a w) (hq : ∀ e a w, e ≠ .normal -> Q1 e a w -> Q e a w) :
  ∀ (pre : List Oper) (a : Act) (w : World), (r = none \/ ∀ o, o ∈ pre -> ∀ c, o.op ≠ .defer c) -> wpList P ops Q1 pre a w -> wpListIn (FW r) 0 P ops Q (pre ++ post) a w := by
 intro pre
 induction pre with
 | nil => exact fun a w _ h => hn a w h
 | cons o pre ih =>
  intro a w hd h
  have hd' : r = none \/ ∀ o, o ∈ pre -> ∀ c, o.op ≠ .defer c := hd.imp id fun h o ho => h o (List.mem_cons_of_mem _ ho)
  simp only [wpList] at h
  simp only [List.cons_append, wpListIn]
  split
  ·rename_i hw
   rw [if_pos hw] at h
   rcases h with h | ⟨_, h⟩
   ·exact op_fw (hd.imp id fun h => h o (List.mem_cons_self)) h (fun a w h => ih a w hd' h) hq
   ·exact absurd h hlo
  ·rename_i hw
   rw [if_neg hw] at h
   exact ⟨fun _ _ => trivial, ih _ _ hd' h⟩
end
def WPLI (P : Program) (Γ : Cx) (r : Option Nat) (ops : Array Oper) (l : List Oper) (Q : Exit -> St -> Prop) (s : St) : Prop :=
 ∀ a w, SR Γ s a w -> wpListIn (FW r) 0 P ops (fun e a' w' => ∃ s', Q e s' /\ SR Γ s' a' w') l a w
def WPI (P : Program) (Γ : Cx) (k : Nat) (c : Code) (Q : Exit -> St -> Prop) (s : St) : Prop :=
 ∀ a w, SR Γ s a w -> c.wpIn (FW (some k)) 0 P (fun e a' w' => ∃ s', Q e s' /\ SR Γ s' a' w') a w
section
variable {P : Program} {Γ : Cx} {r : Option Nat} {k : Nat} {ops : Array Oper} {Q : Exit -> St -> Prop} {s : St} {pre post : List Oper}
theorem wpli_pre {K : St -> Prop} (hd : r = none \/ ∀ o, o ∈ pre -> ∀ c, o.op ≠ .defer c) (h : WPL P Γ ops pre (fun e s' => e = .normal /\ K s') s) (hn : ∀ s', K s' -> WPLI P Γ r ops post Q s') : WPLI P Γ r ops (pre ++ post) Q s := fun a w hs =>
 list_fw (Q1 := fun e a' w' => ∃ s', (e = .normal /\ K s') /\ SR Γ s' a' w') (by rintro ⟨_, _, _, ⟨h, _⟩, _⟩; cases h) (fun a w ⟨s', h1, h2⟩ => hn s' h1.2 a w h2) (fun e a w he ⟨s', h1, _⟩ => absurd h1.1 he) pre a w hd (h a w hs)
theorem wpli_all (hd : r = none \/ ∀ o, o ∈ pre -> ∀ c, o.op ≠ .defer c) (h : WPL P Γ ops pre (fun e s' => e = .normal /\ Q .normal s') s) : WPLI P Γ r ops pre Q s := by
 have := wpli_pre (post := []) (Q := Q) hd h (fun s' hs' a w hs => ⟨s', hs', hs⟩)
 simpa using this
theorem wpli_region {id : Nat} {l : List Oper} (h : WPLI P Γ none l.toArray l Q s) : WP P Γ (.region id l.toArray false) Q s := fun a w hs => wpIn_wide.1 (wpIn_region_lit (n := 0) (h a w hs))
theorem WPI.mono {c : Code} {Q' : Exit -> St -> Prop} (h : WPI P Γ k c Q s) (hq : ∀ e s, Q e s -> Q' e s) : WPI P Γ k c Q' s :=
 fun a w hs => wpIn_mono (h a w hs) fun e _ _ ⟨s', h1, h2⟩ => ⟨s', hq e s' h1, h2⟩
theorem wpi_skip (h : Q .normal s) : WPI P Γ k .skip Q s := fun _ _ hs => wpIn_skip ⟨s, h, hs⟩
theorem wpi_seq {x y : Code} {K : St -> Prop} (h : WPI P Γ k x (fun e s' => e = .normal /\ K s') s) (hk : ∀ s', K s' -> WPI P Γ k y Q s') : WPI P Γ k (.seq x y) Q s := fun a w hs => by
 refine wpIn_seq (wpIn_mono (h a w hs) ?_)
 rintro e a' w' ⟨s', ⟨rfl, h1⟩, h2⟩
 exact hk s' h1 a' w' h2
theorem wpi_cond {c : Operand} {x y : Code} {b : Bool} (hc : s.op c = .val (.bool b)) (ht : b = true -> WPI P Γ k x Q s) (hf : b = false -> WPI P Γ k y Q s) : WPI P Γ k (.cond c x y) Q s := fun a w hs =>
 wpIn_cond_split (hs.eval_bool hc) (fun hb => ht hb a w hs) (fun hb => hf hb a w hs)
theorem wpi_region {id : Nat} {l : List Oper} (hd : ∀ o, o ∈ l -> ∀ c, o.op ≠ .defer c) (h : WPL P Γ l.toArray l (fun e s' => e = .normal /\ Q .normal s') s) : WPI P Γ k (.region id l.toArray false) Q s := fun a w hs =>
 wpIn_region_lit (wpli_all (.inr hd) h a w hs)
end
end Go.Lg
