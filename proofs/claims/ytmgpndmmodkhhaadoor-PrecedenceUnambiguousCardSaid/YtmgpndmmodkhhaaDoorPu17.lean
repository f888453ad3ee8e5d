/-
  Part 17 of the proof of PrecedenceUnambiguousCard: the logic over the model, the functions' contracts and the plain laws.
-/
import Derived.Test.YtmgpndmmodkhhaaDoorPu16
import Derived.Stop.Looks

set_option linter.unusedSimpArgs false
set_option linter.unusedVariables false
set_option linter.unusedSectionVars false
set_option linter.defProp false
set_option maxRecDepth 20000
set_option maxHeartbeats 4000000

namespace Go.Lg
open Go.RowKit
def OkSame {α : Type} (P : Program) (s : Sem α) : Prop := ∀ w a w', s.run P w = .ok a w' -> w' = w
section
variable {P : Program}
theorem OkSame.bind {α β : Type} {s : Sem α} {f : α -> Sem β} (hs : OkSame P s) (hf : ∀ a, OkSame P (f a)) : OkSame P (s >>= f) := by
 intro w b w' h
 rw [Sem.run_bind] at h
 cases hr : s.run P w with
 | ok a w1 =>
  rw [hr] at h
  have := hs _ _ _ hr
  subst this
  exact hf a _ _ _ h
 | halt x w1 => rw [hr] at h; cases h
theorem OkSame.looks {α : Type} {s : Sem α} (h : s.Looks) : OkSame P s := fun _ _ _ e => h.ok e
theorem okSame_sureAddr (x : Value) : OkSame P (Instr.sureAddr x) := by
 refine .looks ?_
 unfold Instr.sureAddr
 split <;> trivial
theorem okSame_isAgg (t : TypeId) : OkSame P (isAgg t) := by
 refine .looks ?_
 unfold isAgg
 refine (underlying_looks t).bind fun u => ?_
 split <;> trivial
theorem okSame_loadVar (t : TypeId) (a : Addr) : OkSame P (loadVar t a) := by
 unfold loadVar
 refine (okSame_isAgg t).bind fun b => ?_
 split
 ·exact (OkSame.looks (sizeOf_looks t)).bind fun n => (OkSame.looks (loadCells_looks a n)).bind fun _ => .looks trivial
 ·exact .looks (load_looks a _)
theorem okSame_asIntOf (v : Value) : OkSame P (asIntOf v) := by
 refine .looks ?_
 unfold asIntOf
 split <;> trivial
def NoOk {α : Type} (P : Program) (s : Sem α) : Prop := ∀ w a w', s.run P w ≠ .ok a w'
theorem NoOk.same {α : Type} {s : Sem α} (h : NoOk P s) : OkSame P s := fun w a w' e => absurd e (h w a w')
theorem NoOk.bind {α β : Type} {s : Sem α} {f : α -> Sem β} (hf : ∀ a, NoOk P (f a)) : NoOk P (s >>= f) := by
 intro w b w' h
 rw [Sem.run_bind] at h
 cases hr : s.run P w with
 | ok a w1 => rw [hr] at h; exact hf a _ _ _ h
 | halt x w1 => rw [hr] at h; cases h
theorem noOk_goPanic {α : Type} (v : Value) : NoOk P (goPanic v : Sem α) := by
 intro w a w' h
 simp [goPanic] at h
theorem noOk_bounds {α : Type} (k : IntKind) (x y : Int) (c : BoundsCode) : NoOk P (boundsPanic k x y c : Sem α) := by
 have h : ∀ b, NoOk P (runtimePanic (.bounds (IntKind.i64.wrap x) y b c) : Sem α) := fun b => by
  unfold runtimePanic
  exact NoOk.bind fun p => noOk_goPanic _
 unfold boundsPanic
 dsimp only
 split
 ·exact NoOk.bind h
 ·exact NoOk.bind h
theorem okSame_indexAt (t : TypeId) (x ix : Value) : OkSame P (Instr.indexAt t x ix) := by
 unfold Instr.indexAt
 refine (okSame_asIntOf ix).bind fun ki => ?_
 obtain ⟨k, i⟩ := ki
 dsimp only
 refine (OkSame.looks (underlying_looks t)).bind fun u => ?_
 have fin : ∀ z : Option Addr × Nat × TypeId, OkSame P (do
   let u2 <- underlying t
   match z.1 with
   | some a =>
    if 0 <= i /\ i < (z.2.1 : Int) then do
     let n <- sizeOf z.2.2
     pure (Value.pointer (some (a.add (i.toNat * n))))
    else if (decide (z.2.1 ≤ 1) && match u2 with | .array _ _ => true | _ => false) = true then unsupported (.noEntry "op/indexAddr.an index out of range at an array of length 0 or 1 (ledger 616)")
    else boundsPanic k i z.2.1 .index
   | none => boundsPanic k i 0 .index) := by
  intro z
  refine (OkSame.looks (underlying_looks t)).bind fun u2 => ?_
  split
  ·split
   ·exact (OkSame.looks (sizeOf_looks _)).bind fun _ => .looks trivial
   ·split <;> (split; exact .looks (unsupported_looks _); exact (noOk_bounds _ _ _ _).same)
  ·exact (noOk_bounds _ _ _ _).same
 split
 ·exact (okSame_sureAddr _).bind fun a => (OkSame.looks (pure_looks _)).bind fin
 ·exact (OkSame.looks (pure_looks _)).bind fin
 ·exact (OkSame.looks (stuck_looks _)).bind fin
def Neu (P : Program) (op : Op) : Prop := ∀ (ρ : Operand -> Value) (o : Oper), o.op = op -> ∀ w n w', (execOp ρ o).run P w = .ok n w' -> w' = w /\ ∃ u, n = .value u
theorem neu_val {s : Sem Value} (hs : OkSame P s) {w w' : World} {n : Next} (h : (s >>= fun u => pure (Next.value u)).run P w = .ok n w') : w' = w /\ ∃ u, n = .value u := by
 rw [Sem.run_bind] at h
 cases hr : s.run P w with
 | ok u w1 =>
  rw [hr] at h
  have := hs _ _ _ hr
  subst this
  simp at h
  exact ⟨h.2.symm, u, h.1.symm⟩
 | halt x w1 => rw [hr] at h; cases h
theorem neu_load {t : TypeId} {a : Operand} : Neu P (.load t a) := by
 rintro ρ ⟨dst, op, ty, pos, af, g⟩ rfl w n w' h
 refine neu_val (s := Instr.loadAt t (ρ a)) ?_ h
 unfold Instr.loadAt
 exact (okSame_sureAddr _).bind fun x => okSame_loadVar t x
theorem neu_move {a : Operand} : Neu P (.move a) := by
 rintro ρ ⟨dst, op, ty, pos, af, g⟩ rfl w n w' h
 simp only [execOp, Sem.run_pure] at h
 injection h with h1 h2
 exact ⟨h2.symm, _, h1.symm⟩
theorem neu_assign {a : Operand} : Neu P (.assign a) := by
 rintro ρ ⟨dst, op, ty, pos, af, g⟩ rfl w n w' h
 simp only [execOp, Sem.run_pure] at h
 injection h with h1 h2
 exact ⟨h2.symm, _, h1.symm⟩
theorem neu_index {t : TypeId} {a b : Operand} : Neu P (.indexAddr t a b) := by
 rintro ρ ⟨dst, op, ty, pos, af, g⟩ rfl w n w' h
 exact neu_val (s := Instr.indexAt t (ρ a) (ρ b)) (okSame_indexAt _ _ _) h
theorem viewAt_looksL (r : Nat) : (viewAt r).Looks := by
 unfold viewAt
 refine Sem.Looks.bind (x := shape r) (fun _ => trivial) fun o => ?_
 split
 ·trivial
 ·refine Sem.Looks.bind (x := getObj r) (fun _ => trivial) fun o => ?_
  split <;> trivial
theorem okSame_byteOf (a : Addr) : OkSame P (byteOf a) := by
 refine .looks ?_
 unfold byteOf
 split
 ·trivial
 ·refine program_looks.bind fun p => ?_
  refine Sem.Looks.bind (x := noView a) ?_ fun _ => ?_
  ·unfold noView
   refine (viewAt_looksL _).bind fun v => ?_
   split <;> trivial
  ·refine Sem.Looks.bind (x := shape a.block) (fun _ => trivial) fun o => ?_
   split
   ·dsimp only
    split
    ·trivial
    ·split <;> trivial
   ·trivial
theorem okSame_fieldAt (t : TypeId) (x : Value) (f : Nat) : OkSame P (Instr.fieldAt t x f) := by
 unfold Instr.fieldAt
 refine (OkSame.looks (underlying_looks t)).bind fun u => ?_
 split
 ·split
  ·refine (okSame_sureAddr _).bind fun a => ?_
   refine OkSame.bind (s := _) ?_ fun _ => .looks trivial
   unfold fieldPlace
   refine (OkSame.looks (sizeOf_looks _)).bind fun n => ?_
   split
   ·unfold partAt
    refine (okSame_byteOf _).bind fun b => ?_
    dsimp only
    exact (okSame_byteOf _).bind fun b => .looks trivial
   ·exact .looks trivial
  ·exact .looks trivial
 ·exact .looks trivial
theorem neu_field {t : TypeId} {a : Operand} {f : Nat} : Neu P (.fieldAddr t a f) := by
 rintro ρ ⟨dst, op, ty, pos, af, g⟩ rfl w n w' h
 exact neu_val (s := Instr.fieldAt t (ρ a) f) (okSame_fieldAt _ _ _) h
def neuB : Op -> Bool
 | .load _ _ | .move _ | .assign _ | .indexAddr _ _ _ | .fieldAddr _ _ _ => true
 | _ => false
theorem neuB_ok {op : Op} (h : neuB op = true) : Neu P op := by
 unfold neuB at h
 split at h
 ·exact neu_load
 ·exact neu_move
 ·exact neu_assign
 ·exact neu_index
 ·exact neu_field
 ·cases h
end
section
variable {P : Program} {ops : Array Oper} {Q : Exit -> Act -> World -> Prop} {md : Region.Mode}
def YieldsAt (P : Program) (oi : Oper) (v : Value) (a : Act) (w : World) : Prop := (execOp a.eval oi).run P w = .ok (.value v) w
theorem YieldsAt.wpOp {i : Nat} {oi : Oper} {v : Value} {a : Act} {w : World} (hi : ops[i]? = some oi) (hg : oi.guard = none) (hy : YieldsAt P oi v a w) {K : Act -> World -> Prop} (h : K (a.put oi.dst v) w) : wpOp P ops Q i K a w := by
 unfold Go.wpOp
 simp only [hi]
 rw [if_pos (by simp [Region.wanted, hg])]
 refine .inl ?_
 unfold Oper.wp
 rw [show (execOp a.eval oi).run P w = .ok (.value v) w from hy]
 exact h
theorem YieldsAt.same {oi : Oper} {v : Value} {a a' : Act} {w : World} (hy : YieldsAt P oi v a w) (he : execOp a'.eval oi = execOp a.eval oi) : YieldsAt P oi v a' w := by
 unfold YieldsAt at *; rw [he]; exact hy
theorem wpOp_putN {j : Nat} {oi oj : Oper} {v : Value} {w : World} (hj : ops[j]? = some oj) (hap : oi.apart ops oj = true) (hN : Neu P oj.op)
  (hsi : ∀ cs b, oi.op ≠ .select cs b) (hsj : ∀ cs b, oj.op ≠ .select cs b)
  (hQ : ∀ c a w, Q (.panic c) (a.put oi.dst v) w -> Q (.panic c) a w) {K : Act -> World -> Prop} {a : Act}
  (hy : YieldsAt P oi v a w) (h : wpOp P ops Q j K (a.put oi.dst v) w) :
  wpOp P ops Q j (fun a' w' => w' = w /\ YieldsAt P oi v a' w /\ K (a'.put oi.dst v) w') a w := by
 obtain ⟨h1, h2, h3⟩ := Oper.apart_spec hap
 have keep : ∀ (a : Act), YieldsAt P oi v a w -> ∀ u, YieldsAt P oi v (a.put oj.dst u) w := fun a hy u => hy.same (execOp_put oi hsi a oj.dst u h3)
 unfold wpOp at *
 simp only [hj] at *
 rw [wanted_put oj a oi.dst v h1] at h
 split
 ·rename_i hw
  simp only [hw, if_true] at h
  rcases h with h | ⟨hasks, hlets⟩
  case inr => exact .inr ⟨by unfold Oper.asks at *; rw [execOp_put oj hsj a oi.dst v h1] at hasks; exact hasks, hlets⟩
  refine .inl ?_
  unfold Oper.wp at *
  rw [execOp_put oj hsj a oi.dst v h1] at h
  have hn := hN a.eval oj rfl w
  generalize (execOp a.eval oj).run P w = r at *
  cases r with
  | ok n w' =>
   obtain ⟨rfl, u, rfl⟩ := hn n w' rfl
   simp only [Oper.upon] at h ⊢
   exact ⟨trivial, keep a hy u, by rw [<- Act.put_comm a v u h2]; exact h⟩
  | halt x w' =>
   cases x <;> simp only [Oper.upon] at h ⊢
   case panic u => exact hQ _ _ _ h
 ·rename_i hw
  simp only [hw] at h
  exact ⟨trivial, keep a hy _, by rw [<- Act.put_comm a v undef h2]; exact h⟩
theorem wpAny_firstN {i : Nat} {oi : Oper} {v : Value} {U : List Nat} {w : World} (hi : ops[i]? = some oi) (hg : oi.guard = none) (hsel : ∀ (j : Nat) (o : Oper) cs b, ops[j]? = some o -> o.op ≠ .select cs b)
  (hQ : ∀ c a w, Q (.panic c) (a.put oi.dst v) w -> Q (.panic c) a w)
  (hU : ∀ j, j ∈ U -> ∃ oj, ops[j]? = some oj /\ ∃ e ∈ oj.after, Region.binds md e = true /\ (e.on = i \/ e.on ∈ U)) :
  ∀ (fuel : Nat) (listed : Array Bool) (a : Act),
   (∀ j oj, ops[j]? = some oj -> j ≠ i -> listed.getD j true = false -> (∀ e ∈ oj.after, Region.binds md e = true -> e.on ≠ i) -> oi.apart ops oj = true) ->
   (∀ j oj, ops[j]? = some oj -> j ≠ i -> listed.getD j true = false -> j ∉ U -> Neu P oj.op) ->
   (∀ j, j ∈ U -> listed.getD j false = false) -> i ∉ U ->
   i ∈ Region.ready md ops listed -> YieldsAt P oi v a w ->
   wpAny P md ops Q fuel (listed.setIfInBounds i true) (a.put oi.dst v) w -> wpAny P md ops Q (fuel + 1) listed a w := by
 intro fuel
 induction fuel with
 | zero =>
  intro listed a _ _ _ _ hr hy H
  refine ⟨fun h => (by rw [h] at hr; cases hr), fun j hj => ?_⟩
  by_cases hji : j = i
  ·subst hji; exact hy.wpOp hi hg H
  ·have := ready_mono hj hji
   rw [H.1] at this
   cases this
 | succ fuel ih =>
  intro listed a hfree hneu hUl hiU hr hy H
  refine ⟨fun h => (by rw [h] at hr; cases hr), fun j hj => ?_⟩
  by_cases hji : j = i
  ·subst hji; exact hy.wpOp hi hg H
  ·have h1 := H.2 j (ready_mono hj hji)
   obtain ⟨hjun, oj, hoj, hall⟩ := mem_ready.1 hj
   have hi0 : listed.getD i false = false := by
    have h0 := (mem_ready.1 hr).1
    rcases Nat.lt_or_ge i listed.size with h' | h'
    ·simpa [h'] using h0
    ·simp [Array.getElem?_eq_none h']
   have hjU : j ∉ U := fun hjU => by
    obtain ⟨oj', ho', e, he, hb, hon⟩ := hU j hjU
    rw [hoj] at ho'; injection ho' with ho'; subst ho'
    have h2 := hall e he hb
    rcases hon with hon | hon
    ·rw [hon, hi0] at h2; cases h2
    ·rw [hUl _ hon] at h2; cases h2
   have hnot : ∀ e ∈ oj.after, Region.binds md e = true -> e.on ≠ i := fun e he hb heq => by
    have h2 := hall e he hb
    rw [heq, hi0] at h2; cases h2
   have h2 := wpOp_putN hoj (hfree j oj hoj hji hjun hnot) (hneu j oj hoj hji hjun hjU) (fun cs b => hsel i oi cs b hi) (fun cs b => hsel j oj cs b hoj) hQ hy h1
   have hun : ∀ k, (listed.setIfInBounds j true).getD k true = false -> listed.getD k true = false := fun k hk => by
    by_cases hjk : j = k
    ·subst hjk; exact hjun
    ·rw [getD_set_ne true hjk] at hk; exact hk
   refine wpOp_mono (fun a' w' h3 => ?_) h2
   obtain ⟨rfl, h4, h5⟩ := h3
   refine ih (listed.setIfInBounds j true) a' (fun k ok hk hki hkun hno => hfree k ok hk hki (hun k hkun) hno) (fun k ok hk hki hkun hkU => hneu k ok hk hki (hun k hkun) hkU) (fun k hkU => ?_) hiU (ready_mono hr (Ne.symm hji)) h4 ?_
   ·rw [getD_set_ne false (show j ≠ k from fun e => hjU (by rw [e]; exact hkU))]; exact hUl k hkU
   ·rw [Array.setIfInBounds_comm _ _ hji]
    exact h5
def blockedB (md : Region.Mode) (ops : Array Oper) (listed : Array Bool) (i : Nat) (U : List Nat) : Bool :=
 (U.all fun j => !listed.getD j false && ((ops[j]?).map fun o => o.after.any fun e => Region.binds md e && (e.on == i || U.contains e.on)).getD false) && !U.contains i &&
 (List.range ops.size).all fun j => j == i || listed.getD j true || U.contains j || ((ops[j]?).map fun o => neuB o.op).getD true
theorem blocked_spec {listed : Array Bool} {i : Nat} {U : List Nat} (h : blockedB md ops listed i U = true) :
  (∀ j, j ∈ U -> ∃ oj, ops[j]? = some oj /\ ∃ e ∈ oj.after, Region.binds md e = true /\ (e.on = i \/ e.on ∈ U)) /\
  (∀ j oj, ops[j]? = some oj -> j ≠ i -> listed.getD j true = false -> j ∉ U -> Neu P oj.op) /\ (∀ j, j ∈ U -> listed.getD j false = false) /\ i ∉ U := by
 simp only [blockedB, Bool.and_eq_true, List.all_eq_true, List.mem_range, Bool.or_eq_true, Bool.not_eq_true', beq_iff_eq] at h
 obtain ⟨⟨hU, hi⟩, hN⟩ := h
 refine ⟨fun j hj => ?_, fun j oj ho hne hun hjU => ?_, fun j hj => (hU j hj).1, fun hc => by rw [List.contains_iff_mem.2 hc] at hi; cases hi⟩
 ·have h2 := (hU j hj).2
  cases ho : ops[j]? with
  | none => rw [ho] at h2; cases h2
  | some oj =>
   rw [ho] at h2
   simp only [Option.map_some, Option.getD_some] at h2
   obtain ⟨e, he, hb⟩ := Array.any_eq_true'.1 h2
   simp only [Bool.and_eq_true, Bool.or_eq_true, beq_iff_eq] at hb
   exact ⟨oj, rfl, e, he, hb.1, hb.2.imp id (fun h => List.contains_iff_mem.1 h)⟩
 ·have h2 := hN j (Array.getElem?_eq_some_iff.1 ho).1
  rw [ho] at h2
  simp only [hne, hun, Bool.false_eq_true, or_false, false_or, Option.map_some, Option.getD_some] at h2
  rcases h2 with h2 | h2
  ·exact absurd (List.contains_iff_mem.1 h2) hjU
  ·exact neuB_ok h2
end
section
variable {P : Program} {Γ : Cx} {n M : Nat} {l : List (Nat × AV)} {os : List (Nat × Option AObj)} {x : AV} {d : Tmp} {ty : TypeId} {pos : String} {af : Array Edge} {ops : Array Oper} {Q : Exit -> St -> Prop} {fuel : Nat} {listed : Array Bool}
theorem wpt_takeN {op : Op} (i : Nat) (U : List Nat) (ho : ops[i]? = some ⟨some d, op, ty, pos, af, none⟩) (hap : Ap P n l M os [] op x) (hs : Region.noSelect ops = true) (hf : Region.free .any ops listed i = true) (hr : (Region.ready .any ops listed).contains i = true) (hb : blockedB .any ops listed i U = true) (hQ : PInd Q)
  (hk : WPT P Γ ops Q fuel (listed.setIfInBounds i true) (S n ((d, x) :: l) M os)) : WPT P Γ ops Q (fuel + 1) listed (S n l M os) := by
 intro a w hs'
 obtain ⟨ρ, hρ⟩ := hs'
 obtain ⟨v, hrun, hrv⟩ := pure_sound (P := P) hρ (o := ⟨some d, op, ty, pos, af, none⟩) (e := []) rfl hap
 obtain ⟨b1, b2, b3, b4⟩ := blocked_spec (P := P) hb
 refine wpAny_firstN (v := v) ho rfl (Region.noSelect_spec hs) ?_ b1 fuel listed a (Region.free_spec ho hf) b2 b3 b4 (by simpa using hr) hrun ?_
 ·rintro c a1 w1 ⟨s', hq, ρ', h'⟩
  by_cases hd : d < a1.tmps.size
  ·have hv : a1.tmps[d]? = some a1.tmps[d] := Array.getElem?_eq_getElem hd
   refine ⟨s'.put (some d) .any, hQ _ _ _ _ hq, ρ', ?_⟩
   have h2 := h'.put (some d) (x := .any) (v := a1.tmps[d]) .any
   have e : (a1.put (some d) v).put (some d) a1.tmps[d] = a1 := by
    have e1 : (a1.put (some d) v).put (some d) a1.tmps[d] = a1.put (some d) a1.tmps[d] := by simp [Act.put]
    rw [e1]; exact act_same hv
   rw [e] at h2
   simpa [St.put] using h2
  ·refine ⟨s', hq, ρ', ?_⟩
   have e : a1.put (some d) v = a1 := by
    cases a1 with | mk tm df => simp only [Act.put, Act.mk.injEq, and_true]; exact Array.setIfInBounds_eq_of_size_le (by simpa using hd)
   rwa [e] at h'
 ·refine hk _ _ ⟨ρ, ?_⟩
  have h2 := hρ.put (some d) hrv
  rw [S_put] at h2
  simpa [S, ol_length] using h2
end
end Go.Lg
namespace Go.Lg
open Go.Proofs
attribute [local irreducible] Ap Rq asemC WP RunD Ret Gq thenA inBlockA bodyQ noGotoA RqL RqP OpP
def rdT (g : Gram) (s : ByteArray) (a : Int) (pr : List Bool) : AObj := .arr 7 [.agg [strsA g.terms, strsA g.nonterms, intA g.start, rulesA g.rules, strA s, intA a, boolsA pr]]
def choA (c : Tx × Tre) : AV := .agg [strA (tx c.1), intA c.2.rule, intA c.2.term, .val (.slice none 0 0)]
attribute [local simp] AV.cells rdT
end Go.Lg
namespace Go.Lg
open Go.Proofs
attribute [local irreducible] Ap Rq asemC WP RunD Ret Gq thenA inBlockA bodyQ noGotoA RqL RqP OpP
attribute [local simp] AV.cells
theorem choA_bd (n : Nat) (c : Tx × Tre) : (choA c).bd n = true := by simp [choA, AV.bd, bdL]
@[simp] theorem choL_bd (n : Nat) (l : List (Tx × Tre)) : bdL n (l.map choA) = true := bdL_map (choA_bd n) l
def chsA (l : List (Tx × Tre)) : AV := .sl 4 (l.map choA)
@[simp] theorem bd_chsA (n : Nat) (l : List (Tx × Tre)) : (chsA l).bd n = true := choL_bd n l
end Go.Lg
