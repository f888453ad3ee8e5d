/-
  Part 14 of the proof of DesugarErrorsCard: the logic over the model, the functions' contracts and the plain laws.
-/
import Derived.Test.YtbjeoainfloiaaaDoorDe13
import Derived.Stop.Looks

set_option linter.unusedSimpArgs false
set_option linter.unusedVariables false
set_option linter.unusedSectionVars false
set_option linter.defProp false

namespace Go.Lg
open Go.RowKit
set_option linter.unusedVariables false
def OkSame {α : Type} (P : Program) (s : Sem α) : Prop := ∀ w a w', s.run P w = .ok a w' → w' = w
section
variable {P : Program}
theorem OkSame.bind {α β : Type} {s : Sem α} {f : α → Sem β} (hs : OkSame P s) (hf : ∀ a, OkSame P (f a)) : OkSame P (s >>= f) := by
  intro w b w' h
  rw [Sem.run_bind] at h
  cases hr : s.run P w with
  | ok a w1 =>
    rw [hr] at h
    have := hs _ _ _ hr
    subst this
    exact hf a _ _ _ h
  | halt x w1 => rw [hr] at h; cases h
theorem OkSame.looks {α : Type} {s : Sem α} (h : s.Looks) : OkSame P s := fun _ _ _ e => h.ok e
theorem okSame_sureAddr (x : Value) : OkSame P (Instr.sureAddr x) := by
  refine .looks ?_
  unfold Instr.sureAddr
  split <;> trivial
theorem okSame_isAgg (t : TypeId) : OkSame P (isAgg t) := by
  refine .looks ?_
  unfold isAgg
  refine (underlying_looks t).bind fun u => ?_
  split <;> trivial
theorem okSame_loadVar (t : TypeId) (a : Addr) : OkSame P (loadVar t a) := by
  unfold loadVar
  refine (okSame_isAgg t).bind fun b => ?_
  split
  · exact (OkSame.looks (sizeOf_looks t)).bind fun n => (OkSame.looks (loadCells_looks a n)).bind fun _ => .looks trivial
  · exact .looks (load_looks a _)
theorem okSame_asIntOf (v : Value) : OkSame P (asIntOf v) := by
  refine .looks ?_
  unfold asIntOf
  split <;> trivial
def NoOk {α : Type} (P : Program) (s : Sem α) : Prop := ∀ w a w', s.run P w ≠ .ok a w'
theorem NoOk.same {α : Type} {s : Sem α} (h : NoOk P s) : OkSame P s := fun w a w' e => absurd e (h w a w')
theorem NoOk.bind {α β : Type} {s : Sem α} {f : α → Sem β} (hf : ∀ a, NoOk P (f a)) : NoOk P (s >>= f) := by
  intro w b w' h
  rw [Sem.run_bind] at h
  cases hr : s.run P w with
  | ok a w1 => rw [hr] at h; exact hf a _ _ _ h
  | halt x w1 => rw [hr] at h; cases h
theorem noOk_goPanic {α : Type} (v : Value) : NoOk P (goPanic v : Sem α) := by
  intro w a w' h
  simp [goPanic] at h
theorem noOk_bounds {α : Type} (k : IntKind) (x y : Int) (c : BoundsCode) : NoOk P (boundsPanic k x y c : Sem α) := by
  have h : ∀ b, NoOk P (runtimePanic (.bounds (IntKind.i64.wrap x) y b c) : Sem α) := fun b => by
    unfold runtimePanic
    exact NoOk.bind fun p => noOk_goPanic _
  unfold boundsPanic
  dsimp only
  split
  · exact NoOk.bind h
  · exact NoOk.bind h
theorem okSame_indexAt (t : TypeId) (x ix : Value) : OkSame P (Instr.indexAt t x ix) := by
  unfold Instr.indexAt
  refine (okSame_asIntOf ix).bind fun ki => ?_
  obtain ⟨k, i⟩ := ki
  dsimp only
  refine (OkSame.looks (underlying_looks t)).bind fun u => ?_
  have fin : ∀ z : Option Addr × Nat × TypeId, OkSame P (do
      let u2 ← underlying t
      match z.1 with
      | some a =>
        if 0 ≤ i ∧ i < (z.2.1 : Int) then do
          let n ← sizeOf z.2.2
          pure (Value.pointer (some (a.add (i.toNat * n))))
        else if (decide (z.2.1 ≤ 1) && match u2 with | .array _ _ => true | _ => false) = true then unsupported (.noEntry "op/indexAddr.an index out of range at an array of length 0 or 1 (ledger 616)")
        else boundsPanic k i z.2.1 .index
      | none => boundsPanic k i 0 .index) := by
    intro z
    refine (OkSame.looks (underlying_looks t)).bind fun u2 => ?_
    split
    · split
      · exact (OkSame.looks (sizeOf_looks _)).bind fun _ => .looks trivial
      · split <;> (split; exact .looks (unsupported_looks _); exact (noOk_bounds _ _ _ _).same)
    · exact (noOk_bounds _ _ _ _).same
  split
  · exact (okSame_sureAddr _).bind fun a => (OkSame.looks (pure_looks _)).bind fin
  · exact (OkSame.looks (pure_looks _)).bind fin
  · exact (OkSame.looks (stuck_looks _)).bind fin
def Neu (P : Program) (op : Op) : Prop := ∀ (ρ : Operand → Value) (o : Oper), o.op = op → ∀ w n w', (execOp ρ o).run P w = .ok n w' → w' = w ∧ ∃ u, n = .value u
theorem neu_val {s : Sem Value} (hs : OkSame P s) {w w' : World} {n : Next} (h : (s >>= fun u => pure (Next.value u)).run P w = .ok n w') : w' = w ∧ ∃ u, n = .value u := by
  rw [Sem.run_bind] at h
  cases hr : s.run P w with
  | ok u w1 =>
    rw [hr] at h
    have := hs _ _ _ hr
    subst this
    simp at h
    exact ⟨h.2.symm, u, h.1.symm⟩
  | halt x w1 => rw [hr] at h; cases h
theorem neu_load {t : TypeId} {a : Operand} : Neu P (.load t a) := by
  rintro ρ ⟨dst, op, ty, pos, af, g⟩ rfl w n w' h
  refine neu_val (s := Instr.loadAt t (ρ a)) ?_ h
  unfold Instr.loadAt
  exact (okSame_sureAddr _).bind fun x => okSame_loadVar t x
theorem neu_move {a : Operand} : Neu P (.move a) := by
  rintro ρ ⟨dst, op, ty, pos, af, g⟩ rfl w n w' h
  simp only [execOp, Sem.run_pure] at h
  injection h with h1 h2
  exact ⟨h2.symm, _, h1.symm⟩
theorem neu_assign {a : Operand} : Neu P (.assign a) := by
  rintro ρ ⟨dst, op, ty, pos, af, g⟩ rfl w n w' h
  simp only [execOp, Sem.run_pure] at h
  injection h with h1 h2
  exact ⟨h2.symm, _, h1.symm⟩
theorem neu_index {t : TypeId} {a b : Operand} : Neu P (.indexAddr t a b) := by
  rintro ρ ⟨dst, op, ty, pos, af, g⟩ rfl w n w' h
  exact neu_val (s := Instr.indexAt t (ρ a) (ρ b)) (okSame_indexAt _ _ _) h
theorem viewAt_looksL (r : Nat) : (viewAt r).Looks := by
  unfold viewAt
  refine Sem.Looks.bind (x := shape r) (fun _ => trivial) fun o => ?_
  split
  · trivial
  · refine Sem.Looks.bind (x := getObj r) (fun _ => trivial) fun o => ?_
    split <;> trivial
theorem okSame_byteOf (a : Addr) : OkSame P (byteOf a) := by
  refine .looks ?_
  unfold byteOf
  split
  · trivial
  · refine program_looks.bind fun p => ?_
    refine Sem.Looks.bind (x := noView a) ?_ fun _ => ?_
    · unfold noView
      refine (viewAt_looksL _).bind fun v => ?_
      split <;> trivial
    · refine Sem.Looks.bind (x := shape a.block) (fun _ => trivial) fun o => ?_
      split
      · dsimp only
        split
        · trivial
        · split <;> trivial
      · trivial
theorem okSame_fieldAt (t : TypeId) (x : Value) (f : Nat) : OkSame P (Instr.fieldAt t x f) := by
  unfold Instr.fieldAt
  refine (OkSame.looks (underlying_looks t)).bind fun u => ?_
  split
  · split
    · refine (okSame_sureAddr _).bind fun a => ?_
      refine OkSame.bind (s := _) ?_ fun _ => .looks trivial
      unfold fieldPlace
      refine (OkSame.looks (sizeOf_looks _)).bind fun n => ?_
      split
      · unfold partAt
        refine (okSame_byteOf _).bind fun b => ?_
        dsimp only
        exact (okSame_byteOf _).bind fun b => .looks trivial
      · exact .looks trivial
    · exact .looks trivial
  · exact .looks trivial
theorem neu_field {t : TypeId} {a : Operand} {f : Nat} : Neu P (.fieldAddr t a f) := by
  rintro ρ ⟨dst, op, ty, pos, af, g⟩ rfl w n w' h
  exact neu_val (s := Instr.fieldAt t (ρ a) f) (okSame_fieldAt _ _ _) h
def neuB : Op → Bool
  | .load _ _ | .move _ | .assign _ | .indexAddr _ _ _ | .fieldAddr _ _ _ => true
  | _ => false
theorem neuB_ok {op : Op} (h : neuB op = true) : Neu P op := by
  unfold neuB at h
  split at h
  · exact neu_load
  · exact neu_move
  · exact neu_assign
  · exact neu_index
  · exact neu_field
  · cases h
end
section
variable {P : Program} {ops : Array Oper} {Q : Exit → Act → World → Prop} {md : Region.Mode}
def YieldsAt (P : Program) (oi : Oper) (v : Value) (a : Act) (w : World) : Prop := (execOp a.eval oi).run P w = .ok (.value v) w
theorem YieldsAt.wpOp {i : Nat} {oi : Oper} {v : Value} {a : Act} {w : World} (hi : ops[i]? = some oi) (hg : oi.guard = none) (hy : YieldsAt P oi v a w) {K : Act → World → Prop} (h : K (a.put oi.dst v) w) : wpOp P ops Q i K a w := by
  unfold Go.wpOp
  simp only [hi]
  rw [if_pos (by simp [Region.wanted, hg])]
  refine .inl ?_
  unfold Oper.wp
  rw [show (execOp a.eval oi).run P w = .ok (.value v) w from hy]
  exact h
theorem YieldsAt.same {oi : Oper} {v : Value} {a a' : Act} {w : World} (hy : YieldsAt P oi v a w) (he : execOp a'.eval oi = execOp a.eval oi) : YieldsAt P oi v a' w := by
  unfold YieldsAt at *; rw [he]; exact hy
theorem wpOp_putN {j : Nat} {oi oj : Oper} {v : Value} {w : World} (hj : ops[j]? = some oj) (hap : oi.apart ops oj = true) (hN : Neu P oj.op)
    (hsi : ∀ cs b, oi.op ≠ .select cs b) (hsj : ∀ cs b, oj.op ≠ .select cs b)
    (hQ : ∀ c a w, Q (.panic c) (a.put oi.dst v) w → Q (.panic c) a w) {K : Act → World → Prop} {a : Act}
    (hy : YieldsAt P oi v a w) (h : wpOp P ops Q j K (a.put oi.dst v) w) :
    wpOp P ops Q j (fun a' w' => w' = w ∧ YieldsAt P oi v a' w ∧ K (a'.put oi.dst v) w') a w := by
  obtain ⟨h1, h2, h3⟩ := Oper.apart_spec hap
  have keep : ∀ (a : Act), YieldsAt P oi v a w → ∀ u, YieldsAt P oi v (a.put oj.dst u) w := fun a hy u => hy.same (execOp_put oi hsi a oj.dst u h3)
  unfold wpOp at *
  simp only [hj] at *
  rw [wanted_put oj a oi.dst v h1] at h
  split
  · rename_i hw
    simp only [hw, if_true] at h
    rcases h with h | ⟨hasks, hlets⟩
    case inr => exact .inr ⟨by unfold Oper.asks at *; rw [execOp_put oj hsj a oi.dst v h1] at hasks; exact hasks, hlets⟩
    refine .inl ?_
    unfold Oper.wp at *
    rw [execOp_put oj hsj a oi.dst v h1] at h
    have hn := hN a.eval oj rfl w
    generalize (execOp a.eval oj).run P w = r at *
    cases r with
    | ok n w' =>
      obtain ⟨rfl, u, rfl⟩ := hn n w' rfl
      simp only [Oper.upon] at h ⊢
      exact ⟨trivial, keep a hy u, by rw [← Act.put_comm a v u h2]; exact h⟩
    | halt x w' =>
      cases x <;> simp only [Oper.upon] at h ⊢
      case panic u => exact hQ _ _ _ h
  · rename_i hw
    simp only [hw] at h
    exact ⟨trivial, keep a hy _, by rw [← Act.put_comm a v undef h2]; exact h⟩
theorem wpAny_firstN {i : Nat} {oi : Oper} {v : Value} {U : List Nat} {w : World} (hi : ops[i]? = some oi) (hg : oi.guard = none) (hsel : ∀ (j : Nat) (o : Oper) cs b, ops[j]? = some o → o.op ≠ .select cs b)
    (hQ : ∀ c a w, Q (.panic c) (a.put oi.dst v) w → Q (.panic c) a w)
    (hU : ∀ j, j ∈ U → ∃ oj, ops[j]? = some oj ∧ ∃ e ∈ oj.after, Region.binds md e = true ∧ (e.on = i ∨ e.on ∈ U)) :
    ∀ (fuel : Nat) (listed : Array Bool) (a : Act),
      (∀ j oj, ops[j]? = some oj → j ≠ i → listed.getD j true = false → (∀ e ∈ oj.after, Region.binds md e = true → e.on ≠ i) → oi.apart ops oj = true) →
      (∀ j oj, ops[j]? = some oj → j ≠ i → listed.getD j true = false → j ∉ U → Neu P oj.op) →
      (∀ j, j ∈ U → listed.getD j false = false) → i ∉ U →
      i ∈ Region.ready md ops listed → YieldsAt P oi v a w →
      wpAny P md ops Q fuel (listed.setIfInBounds i true) (a.put oi.dst v) w → wpAny P md ops Q (fuel + 1) listed a w := by
  intro fuel
  induction fuel with
  | zero =>
    intro listed a _ _ _ _ hr hy H
    refine ⟨fun h => (by rw [h] at hr; cases hr), fun j hj => ?_⟩
    by_cases hji : j = i
    · subst hji; exact hy.wpOp hi hg H
    · have := ready_mono hj hji
      rw [H.1] at this
      cases this
  | succ fuel ih =>
    intro listed a hfree hneu hUl hiU hr hy H
    refine ⟨fun h => (by rw [h] at hr; cases hr), fun j hj => ?_⟩
    by_cases hji : j = i
    · subst hji; exact hy.wpOp hi hg H
    · have h1 := H.2 j (ready_mono hj hji)
      obtain ⟨hjun, oj, hoj, hall⟩ := mem_ready.1 hj
      have hi0 : listed.getD i false = false := by
        have h0 := (mem_ready.1 hr).1
        rcases Nat.lt_or_ge i listed.size with h' | h'
        · simpa [h'] using h0
        · simp [Array.getElem?_eq_none h']
      have hjU : j ∉ U := fun hjU => by
        obtain ⟨oj', ho', e, he, hb, hon⟩ := hU j hjU
        rw [hoj] at ho'; injection ho' with ho'; subst ho'
        have h2 := hall e he hb
        rcases hon with hon | hon
        · rw [hon, hi0] at h2; cases h2
        · rw [hUl _ hon] at h2; cases h2
      have hnot : ∀ e ∈ oj.after, Region.binds md e = true → e.on ≠ i := fun e he hb heq => by
        have h2 := hall e he hb
        rw [heq, hi0] at h2; cases h2
      have h2 := wpOp_putN hoj (hfree j oj hoj hji hjun hnot) (hneu j oj hoj hji hjun hjU) (fun cs b => hsel i oi cs b hi) (fun cs b => hsel j oj cs b hoj) hQ hy h1
      have hun : ∀ k, (listed.setIfInBounds j true).getD k true = false → listed.getD k true = false := fun k hk => by
        by_cases hjk : j = k
        · subst hjk; exact hjun
        · rw [getD_set_ne true hjk] at hk; exact hk
      refine wpOp_mono (fun a' w' h3 => ?_) h2
      obtain ⟨rfl, h4, h5⟩ := h3
      refine ih (listed.setIfInBounds j true) a' (fun k ok hk hki hkun hno => hfree k ok hk hki (hun k hkun) hno) (fun k ok hk hki hkun hkU => hneu k ok hk hki (hun k hkun) hkU) (fun k hkU => ?_) hiU (ready_mono hr (Ne.symm hji)) h4 ?_
      · rw [getD_set_ne false (show j ≠ k from fun e => hjU (by rw [e]; exact hkU))]; exact hUl k hkU
      · rw [Array.setIfInBounds_comm _ _ hji]
        exact h5
def blockedB (md : Region.Mode) (ops : Array Oper) (listed : Array Bool) (i : Nat) (U : List Nat) : Bool :=
  (U.all fun j => !listed.getD j false && ((ops[j]?).map fun o => o.after.any fun e => Region.binds md e && (e.on == i || U.contains e.on)).getD false) && !U.contains i &&
  (List.range ops.size).all fun j => j == i || listed.getD j true || U.contains j || ((ops[j]?).map fun o => neuB o.op).getD true
theorem blocked_spec {listed : Array Bool} {i : Nat} {U : List Nat} (h : blockedB md ops listed i U = true) :
    (∀ j, j ∈ U → ∃ oj, ops[j]? = some oj ∧ ∃ e ∈ oj.after, Region.binds md e = true ∧ (e.on = i ∨ e.on ∈ U)) ∧
    (∀ j oj, ops[j]? = some oj → j ≠ i → listed.getD j true = false → j ∉ U → Neu P oj.op) ∧ (∀ j, j ∈ U → listed.getD j false = false) ∧ i ∉ U := by
  simp only [blockedB, Bool.and_eq_true, List.all_eq_true, List.mem_range, Bool.or_eq_true, Bool.not_eq_true', beq_iff_eq] at h
  obtain ⟨⟨hU, hi⟩, hN⟩ := h
  refine ⟨fun j hj => ?_, fun j oj ho hne hun hjU => ?_, fun j hj => (hU j hj).1, fun hc => by rw [List.contains_iff_mem.2 hc] at hi; cases hi⟩
  · have h2 := (hU j hj).2
    cases ho : ops[j]? with
    | none => rw [ho] at h2; cases h2
    | some oj =>
      rw [ho] at h2
      simp only [Option.map_some, Option.getD_some] at h2
      obtain ⟨e, he, hb⟩ := Array.any_eq_true'.1 h2
      simp only [Bool.and_eq_true, Bool.or_eq_true, beq_iff_eq] at hb
      exact ⟨oj, rfl, e, he, hb.1, hb.2.imp id (fun h => List.contains_iff_mem.1 h)⟩
  · have h2 := hN j (Array.getElem?_eq_some_iff.1 ho).1
    rw [ho] at h2
    simp only [hne, hun, Bool.false_eq_true, or_false, false_or, Option.map_some, Option.getD_some] at h2
    rcases h2 with h2 | h2
    · exact absurd (List.contains_iff_mem.1 h2) hjU
    · exact neuB_ok h2
end
section
variable {P : Program} {Γ : Cx} {n M : Nat} {l : List (Nat × AV)} {os : List (Nat × Option AObj)} {x : AV} {d : Tmp} {ty : TypeId} {pos : String} {af : Array Edge} {ops : Array Oper} {Q : Exit → St → Prop} {fuel : Nat} {listed : Array Bool}
theorem wpt_takeN {op : Op} (i : Nat) (U : List Nat) (ho : ops[i]? = some ⟨some d, op, ty, pos, af, none⟩) (hap : Ap P n l M os [] op x) (hs : Region.noSelect ops = true) (hf : Region.free .any ops listed i = true) (hr : (Region.ready .any ops listed).contains i = true) (hb : blockedB .any ops listed i U = true) (hQ : PInd Q)
    (hk : WPT P Γ ops Q fuel (listed.setIfInBounds i true) (S n ((d, x) :: l) M os)) : WPT P Γ ops Q (fuel + 1) listed (S n l M os) := by
  intro a w hs'
  obtain ⟨ρ, hρ⟩ := hs'
  obtain ⟨v, hrun, hrv⟩ := pure_sound (P := P) hρ (o := ⟨some d, op, ty, pos, af, none⟩) (e := []) rfl hap
  obtain ⟨b1, b2, b3, b4⟩ := blocked_spec (P := P) hb
  refine wpAny_firstN (v := v) ho rfl (Region.noSelect_spec hs) ?_ b1 fuel listed a (Region.free_spec ho hf) b2 b3 b4 (by simpa using hr) hrun ?_
  · rintro c a1 w1 ⟨s', hq, ρ', h'⟩
    by_cases hd : d < a1.tmps.size
    · have hv : a1.tmps[d]? = some a1.tmps[d] := Array.getElem?_eq_getElem hd
      refine ⟨s'.put (some d) .any, hQ _ _ _ _ hq, ρ', ?_⟩
      have h2 := h'.put (some d) (x := .any) (v := a1.tmps[d]) .any
      have e : (a1.put (some d) v).put (some d) a1.tmps[d] = a1 := by
        have e1 : (a1.put (some d) v).put (some d) a1.tmps[d] = a1.put (some d) a1.tmps[d] := by simp [Act.put]
        rw [e1]; exact act_same hv
      rw [e] at h2
      simpa [St.put] using h2
    · refine ⟨s', hq, ρ', ?_⟩
      have e : a1.put (some d) v = a1 := by
        cases a1 with | mk tm df => simp only [Act.put, Act.mk.injEq, and_true]; exact Array.setIfInBounds_eq_of_size_le (by simpa using hd)
      rwa [e] at h'
  · refine hk _ _ ⟨ρ, ?_⟩
    have h2 := hρ.put (some d) hrv
    rw [S_put] at h2
    simpa [S, ol_length] using h2
end
end Go.Lg

namespace Go.Lg
open Go.RowKit
set_option linter.unusedVariables false
section
variable {P : Program} {Γ : Cx} {A : Nat → Prop} {ρ : Nat → Option Nat} {s : St} {a : Act} {w : World}
set_option maxHeartbeats 1600000 in
theorem append_two (h : SRa Γ A ρ s a w) {t tx ty e : TypeId} {ti te : TI} (ht : tinfo P t = some ti) (he : ti.elem = some e) (hte : tinfo P e = some te) {d : TypeDesc} (hd : P.underlying tx = some d) (hd' : ∀ k, d ≠ .int k) (hz0 : (zeroA te).isSome = true)
    {y : AV} {v u : Value} {id len : Nat} {es ys : List AV} (hlook : s.look id = some (.arr te.size es)) (hel : es.length = len) (hx : RV A ρ (Im Γ ρ s w) w (.ref id te.size 0 len) v) (hy : RV A ρ (Im Γ ρ s w) w y u) (hys : srcA te s.look y = some ys) (hpos : 0 < ys.length) (hroom : room te (es.length + ys.length)) {nid : Nat} (hn : nid < s.objs.length) (hA : ¬ A nid) :
    ∃ z w', (Builtin.append_ #[t, tx] ty #[v, u]).run P w = .ok z w' ∧
      ((SRa Γ A ρ (s.set id (some (.arr te.size (es ++ ys)))) a w' ∧ RV A ρ (Im Γ ρ (s.set id (some (.arr te.size (es ++ ys)))) w') w' (.ref id te.size 0 (es ++ ys).length) z) ∨
       ∃ ρ', SRa Γ (fun i => A i ∨ i = nid) ρ' (s.set nid (some (.arr te.size (es ++ ys)))) a w' ∧ RV (fun i => A i ∨ i = nid) ρ' (Im Γ ρ' (s.set nid (some (.arr te.size (es ++ ys)))) w') w' (.ref nid te.size 0 (es ++ ys).length) z) := by
  have hu := elem_spec ht he
  obtain ⟨z0, hz0⟩ := Option.isSome_iff_exists.1 hz0
  obtain ⟨zv, _, hzc, _, _, hzl, hs0, _, i, hi, hz, hsz, hby⟩ := zeroA_spec hte hz0
  have hzcs : zv.cells.size = te.size := by rw [← Array.length_toList, hzc, hzl]
  have grow : ∀ (olds news : List Value) (es ys : List AV) (old : Nat), old < es.length + ys.length → CR A ρ (Im Γ ρ s w) w (flat es) olds → CR A ρ (Im Γ ρ s w) w (flat ys) news → (∀ e, e ∈ es → e.cells.length = te.size) → (∀ e, e ∈ ys → e.cells.length = te.size) →
      room te (es.length + ys.length) →
      let w' := w.drew.alloc (.cells (olds.toArray ++ news.toArray ++ Builtin.zeroCells zv.cells (grownCap w (es.length + ys.length) old e - (es.length + ys.length))) e)
      let ρ' := fun i => if i = nid then some w.heap.size else ρ i
      SRa Γ (fun i => A i ∨ i = nid) ρ' (s.set nid (some (.arr te.size (es ++ ys)))) a w' ∧
      csize w' w.heap.size = some (grownCap w (es.length + ys.length) old e * te.size) ∧ es.length + ys.length ≤ grownCap w (es.length + ys.length) old e ∧ grownCap w (es.length + ys.length) old e ≤ maxLen := by
    intro olds news es ys old hold ho hnw hke hky hroom w' ρ'
    have hall : ∀ e, e ∈ es ++ ys → e.cells.length = te.size := fun e he => (List.mem_append.1 he).elim (hke e) (hky e)
    have hcr : CR A ρ (Im Γ ρ s w) w (flat (es ++ ys)) (olds ++ news) := by rw [flat_append]; exact ho.append hnw
    have hfl := flat_length hall
    have hl := hcr.len
    have hrow := hcr.row hall (Builtin.zeroCells zv.cells (grownCap w (es.length + ys.length) old e - (es.length + ys.length))).toList
    have heq : (olds ++ news ++ (Builtin.zeroCells zv.cells (grownCap w (es.length + ys.length) old e - (es.length + ys.length))).toList).toArray = olds.toArray ++ news.toArray ++ Builtin.zeroCells zv.cells (grownCap w (es.length + ys.length) old e - (es.length + ys.length)) := by
      apply Array.ext'; simp
    rw [heq] at hrow
    have hge := grownCap_ge w (es.length + ys.length) old e
    have hpos : es.length + ys.length ≤ maxLen := by
      have hb := hroom.1
      have : es.length + ys.length ≤ (es.length + ys.length) * te.bytes := Nat.le_mul_of_pos_right _ (Nat.pos_of_ne_zero hroom.2)
      simp only [maxLen]; omega
    refine ⟨(h.drawn (w.drawn + 1)).newRow hn hA e (hrow.drawn _), ?_, hge, grownCap_le_maxLen w _ old e hpos⟩
    refine (csize_block (heap_alloc_new w.drew _)).trans ?_
    congr 1
    rw [← heq]
    simp only [List.size_toArray, List.length_append, hfl, Array.length_toList, size_zeroCells, hzcs] at hl ⊢
    rw [hl, ← Nat.add_mul]
    congr 1
    omega
  obtain ⟨news, hsrc, hcr, hky⟩ := srcA_sound h hy hys
  have hlive := St.look_some.1 hlook
  cases hx with
  | @ref _ _ _ _ cap b hAi hb hl hcs hm =>
    subst hel
    obtain ⟨cs, t', hblk, hrow⟩ := h.row hlook hb
    have hft := flat_length hrow.wide
    have hcap : cs.size = cap * te.size := by rw [csize_block hblk] at hcs; simpa using hcs
    have hocr := hrow.cr
    have hll := hocr.len
    have hof : ∀ d, (Builtin.firstCells i.size es.length (.slice (some ⟨b, 0 * te.size, none⟩) es.length cap)).run P { w with drawn := d } = .ok (cs.toList.take (flat es).length).toArray { w with drawn := d } := fun d => by
      refine firstCells_some i.size es.length b _ cap _ (by rw [hll, hft, hsz]) (fun j u hu => ?_) d es.length
      rw [cell_of_block hblk]
      rw [List.getElem?_take] at hu
      split at hu
      · simpa using hu
      · cases hu
    have hrun := run_append_gen (P := P) (w := w) (t := t) (tx := tx) (ty := ty) hu hd hd' hi hz hof (by rw [hsz]; exact hsrc) (by rw [hby]; exact hroom.1) (by rw [hby]; exact hroom.2)
    by_cases hle : es.length + ys.length ≤ cap
    · have hnl := hcr.len
      have hyl := flat_length hky
      have hfit : es.length * te.size + news.length ≤ cs.size := by
        rw [hnl, hyl, hcap, ← Nat.add_mul]; exact Nat.mul_le_mul_right _ hle
      have hst := run_storeCells_at P b (es.length * te.size) t' news 0 cs w hblk (by simpa using hfit) hcr.atoms
      simp only [Nat.add_zero] at hst
      have hall : ∀ e, e ∈ es ++ ys → e.cells.length = te.size := fun e he => (List.mem_append.1 he).elim (hrow.wide e) (hky e)
      have hrow2 : Row A ρ (Im Γ ρ s w) w te.size (es ++ ys) (cs.toList.take (es.length * te.size) ++ news ++ cs.toList.drop (es.length * te.size + news.length)).toArray := by
        have := (hocr.append hcr)
        rw [← flat_append, hft] at this
        exact this.row hall _
      have hw1 := h.writeRow (w' := w.setRow b (cs.toList.take (es.length * te.size) ++ news ++ cs.toList.drop (es.length * te.size + news.length)).toArray) hlive hb (by simp) rfl rfl rfl (fun c hc => setRow_grow w b c _ hc) hblk (setRow_heap w b cs _ t' (0, 0) hblk)
        (by simp only [List.size_toArray, List.length_append, List.length_take, List.length_drop, Array.length_toList]; omega) hrow2
      refine ⟨_, _, hrun.1 hle _ ?_, .inl ⟨hw1, ?_⟩⟩
      · simpa [hsz, add_lit] using hst
      · rw [List.length_append]
        have hcz := csize_block (setRow_heap w b cs (cs.toList.take (es.length * te.size) ++ news ++ cs.toList.drop (es.length * te.size + news.length)).toArray t' (0, 0) hblk)
        refine .ref hAi hb hle (hcz.trans ?_) hm
        congr 1
        rw [Nat.zero_add, ← hcap]
        simp only [List.size_toArray, List.length_append, List.length_take, List.length_drop, Array.length_toList]
        omega
    · have hg := grow _ news es ys cap (by omega) hocr hcr hrow.wide hky hroom
      obtain ⟨g1, g2, g3, g4⟩ := hg
      refine ⟨_, _, hrun.2 (by omega), .inr ⟨_, g1, ?_⟩⟩
      rw [List.length_append]
      exact .ref0 (.inr rfl) (by simp) g3 g2 g4
  | refn hAi hb =>
    have hnone := h.obj id _ hlive
    rw [hb] at hnone
    obtain ⟨k0, hk0⟩ := hnone.resolve_left (by simp)
    injection hk0 with _ hes
    subst hes
    have hrun := run_append_gen (P := P) (w := w) (t := t) (tx := tx) (ty := ty) hu hd hd' hi hz (base := none) (sLen := 0) (sCap := 0) (olds := []) (fun d => by simp [Builtin.firstCells]) (by rw [hsz]; exact hsrc) (by rw [hby]; simpa using hroom.1) (by rw [hby]; exact hroom.2)
    have hg := grow [] news [] ys 0 (by simp; omega) ⟨rfl, by simp, by simp [flat]⟩ hcr (by simp) hky (by simpa using hroom)
    simp only [List.length_nil, Nat.zero_add, List.nil_append] at hg hrun
    obtain ⟨g1, g2, g3, g4⟩ := hg
    exact ⟨_, _, hrun.2 (by omega), .inr ⟨_, g1, .ref0 (.inr rfl) (by simp) g3 g2 g4⟩⟩
end
section
variable {P : Program} {Γ : Cx} {n M : Nat} {l : List (Nat × AV)} {os : List (Nat × Option AObj)} {x X : AV} {d t : Tmp} {ty : TypeId} {pos : String} {af : Array Edge} {ops : Array Oper} {rest : List Oper} {K : St → Prop} {Q : Exit → St → Prop} {a b : Operand} {g : FuncId} {first cap xa ys : List AV} {f : Operand} {args : Array Operand} {tys : Array TypeId}
theorem wpo_app2 {i : Nat} {te tj : TI} {tx ty2 : TypeId} {k bt id len : Nat} {es zs : List AV} {y : AV} [ht : TEl P ty te k bt] [h3 : TIc P tx tj] (hop : ops[i]? = some ⟨some d, .call ⟨.builtin .append, #[a, b], #[ty, tx]⟩, ty2, pos, af, none⟩)
    (hsh : (match tj.sh with | .int => false | _ => true) = true) (ha : opq n l a = some (.ref id k 0 len)) (ho : lookq M os id = some (.arr k es)) (hl : es.length = len)
    (hb : opq n l b = some y) (hy : srcA te (lookq M os) y = some zs) (hpos : 0 < zs.length) (hz0 : (zeroA te).isSome = true) (hbt : Nat.beq bt 0 = false) (hr : (es.length + zs.length) * bt ≤ 140737488355328)
    (h1 : K (S n ((d, .ref id k 0 (es ++ zs).length) :: l) (M + 1) ((id, some (.arr k (es ++ zs))) :: (M, none) :: os)))
    (h2 : K (S n ((d, .ref M k 0 (es ++ zs).length) :: l) (M + 1) ((M, some (.arr k (es ++ zs))) :: os))) : WPO P Γ ops Q i K (S n l M os) := by
  obtain ⟨ti, el, g1, he, hs, g4, hsz, hbz⟩ := ht.h
  subst hsz
  intro ac w hs0
  unfold wpOp
  rw [hop]
  simp only
  rw [if_pos (by simp [Region.wanted])]
  refine .inl ?_
  obtain ⟨ρ, hρ⟩ := hs0
  have hM : (S n l M os).objs.length = M := ol_length M os
  have hroom := hρ.room'
  have e0 : ({ S n l M os with objs := (S n l M os).objs ++ [none] } : St) = S n l (M + 1) ((M, none) :: os) := by simp only [S]; rw [ol_push]
  rw [e0, hM] at hroom
  have hsh' : ¬ tj.sh = .int := by intro h; rw [h] at hsh; cases hsh
  obtain ⟨dd, hd, hd'⟩ := sh_not_int h3.h hsh'
  have hb0 : te.bytes ≠ 0 := by rw [hbz]; exact Nat.ne_of_beq_eq_false hbt
  have hrm : room te (es.length + zs.length) := ⟨by rw [hbz]; exact hr, hb0⟩
  have hidM : id < M := by
    unfold lookq at ho
    cases h : Nat.blt id M with
    | true => exact blt_of h
    | false => rw [h] at ho; simp at ho
  have hlk : ∀ j, j < M → lookq (M + 1) ((M, none) :: os) j = lookq M os j := fun j hj => by
    rw [← S_look n l, ← S_look n l]
    simp only [St.look, S]
    rw [← ol_push, List.getElem?_append_left (by rw [ol_length]; exact hj)]
  have hx := hroom.eval a
  have hyv := hroom.eval b
  have hopa : (S n l (M + 1) ((M, none) :: os)).op a = .ref id te.size 0 len := opq_op ha
  have hopb : (S n l (M + 1) ((M, none) :: os)).op b = y := opq_op hb
  rw [hopa] at hx
  rw [hopb] at hyv
  have hlook : (S n l (M + 1) ((M, none) :: os)).look id = some (.arr te.size es) := by rw [S_look, hlk id hidM]; exact ho
  have hys : srcA te (S n l (M + 1) ((M, none) :: os)).look y = some zs := by
    have e1 : ∀ j o, lookq M os j = some o → (S n l (M + 1) ((M, none) :: os)).look j = some o := fun j o hj => by
      have hjM : j < M := by
        unfold lookq at hj
        cases h : Nat.blt j M with
        | true => exact blt_of h
        | false => rw [h] at hj; simp at hj
      rw [S_look, hlk j hjM]; exact hj
    cases y with
    | ref id2 k2 off2 len2 =>
      simp only [srcA] at hy ⊢
      cases hq : lookq M os id2 with
      | none => rw [hq] at hy; cases hy
      | some o => rw [hq] at hy; rw [e1 _ _ hq]; exact hy
    | val v =>
      have e2 : ∀ f g : Nat → Option AObj, srcA te f (.val v) = srcA te g (.val v) := fun f g => by
        cases v with
        | slice a n c => cases a <;> cases n <;> rfl
        | _ => rfl
      rw [e2 _ (lookq M os)]; exact hy
    | _ => exact hy
  obtain ⟨z, w', hrun, hres⟩ := append_two (P := P) (ty := ty2) hroom g1 he g4 hd hd' hz0 hlook hl hx hyv hys hpos hrm (nid := M) (by rw [show (S n l (M + 1) ((M, none) :: os)).objs.length = M + 1 from ol_length _ _]; omega) (by omega)
  unfold Oper.wp
  rw [show (execOp ac.eval ⟨some d, .call ⟨.builtin .append, #[a, b], #[ty, tx]⟩, ty2, pos, af, none⟩).run P w = .ok (.value z) w' by simp_all [execOp, resolve, invoke, builtin]]
  simp only [Oper.upon]
  rcases hres with ⟨hA, hv⟩ | ⟨ρ', hA, hv⟩
  · refine ⟨_, h1, ρ, ?_⟩
    have h5 := hA.put (some d) hv
    have e : ((S n l (M + 1) ((M, none) :: os)).set id (some (.arr te.size (es ++ zs)))).put (some d) (.ref id te.size 0 (es ++ zs).length) = S n ((d, .ref id te.size 0 (es ++ zs).length) :: l) (M + 1) ((id, some (.arr te.size (es ++ zs))) :: (M, none) :: os) := by simp [S, St.set, St.put, ol_set, tl_set]
    rw [e] at h5
    refine h5.more (fun j hj => ?_) (fun j hj => hj)
    rw [show (S n ((d, AV.ref id te.size 0 (es ++ zs).length) :: l) (M + 1) ((id, some (.arr te.size (es ++ zs))) :: (M, none) :: os)).objs.length = M + 1 from ol_length _ _]
    omega
  · refine ⟨_, h2, ρ', ?_⟩
    have h5 := hA.put (some d) hv
    have e : ((S n l (M + 1) ((M, none) :: os)).set M (some (.arr te.size (es ++ zs)))).put (some d) (.ref M te.size 0 (es ++ zs).length) = S n ((d, .ref M te.size 0 (es ++ zs).length) :: l) (M + 1) ((M, some (.arr te.size (es ++ zs))) :: os) := by
      simp only [S, St.set, St.put, tl_set, St.mk.injEq, true_and]
      rw [← ol_push, ← ol_push, List.set_append_right _ _ (by rw [ol_length]; omega), ol_length, Nat.sub_self]
      rfl
    rw [e] at h5
    refine h5.more (fun j hj => ?_) (fun j hj => hj)
    rw [show (S n ((d, AV.ref M te.size 0 (es ++ zs).length) :: l) (M + 1) ((M, some (.arr te.size (es ++ zs))) :: os)).objs.length = M + 1 from ol_length _ _]
    omega
theorem wpo_app2L {i : Nat} {α : Type} {f : α → AV} {L : List α} {v : α} {te tj : TI} {tx ty2 : TypeId} {k bt id id2 len : Nat} [ht : TEl P ty te k bt] [h3 : TIc P tx tj] (hop : ops[i]? = some ⟨some d, .call ⟨.builtin .append, #[a, b], #[ty, tx]⟩, ty2, pos, af, none⟩)
    (hsh : (match tj.sh with | .int => false | _ => true) = true) (ha : opq n l a = some (.ref id k 0 len)) (ho : lookq M os id = some (.arr k (L.map f))) (hl : L.length = len)
    (hb : opq n l b = some (.ref id2 k 0 1)) (ho2 : lookq M os id2 = some (.arr k [f v])) (hz0 : (zeroA te).isSome = true) (hbt : Nat.beq bt 0 = false) (hr : (L.length + 1) * bt ≤ 140737488355328)
    (h1 : K (S n ((d, .ref id k 0 (L ++ [v]).length) :: l) (M + 1) ((id, some (.arr k ((L ++ [v]).map f))) :: (M, none) :: os)))
    (h2 : K (S n ((d, .ref M k 0 (L ++ [v]).length) :: l) (M + 1) ((M, some (.arr k ((L ++ [v]).map f))) :: os))) : WPO P Γ ops Q i K (S n l M os) := by
  obtain ⟨ti, el, g1, he, hs, g4, hsz, hbz⟩ := ht.h
  have e1 : (L ++ [v]).map f = L.map f ++ [f v] := by simp
  have e2 : (L ++ [v]).length = (L.map f ++ [f v]).length := by simp
  rw [e1, e2] at h1 h2
  exact wpo_app2 (es := L.map f) (zs := [f v]) (k := k) (len := len) hop hsh ha ho (by simpa using hl) hb (by simp [srcA, ho2, hsz]) (by simp) hz0 hbt (by simpa using hr) h1 h2
def WPOo (P : Program) (Γ : Cx) (ops : Array Oper) (Q : Exit → St → Prop) (o : Oper) (K : St → Prop) (s : St) : Prop := ∀ i, ops[i]? = some o → WPO P Γ ops Q i K s
theorem wpo_op {i : Nat} {o : Oper} {s : St} (ho : ops[i]? = some o) (h : WPOo P Γ ops Q o K s) : WPO P Γ ops Q i K s := h i ho
theorem wpo_app2M {α : Type} {f : α → AV} {L : List α} {v : α} {te tj : TI} {tx ty2 : TypeId} {k bt id id2 len : Nat} [ht : TEl P ty te k bt] [h3 : TIc P tx tj]
    (hsh : (match tj.sh with | .int => false | _ => true) = true) (ha : opq n l a = some (.ref id k 0 len)) (ho : lookq M os id = some (.arr k (L.map f))) (hl : L.length = len)
    (hb : opq n l b = some (.ref id2 k 0 1)) (ho2 : lookq M os id2 = some (.arr k [f v])) (hz0 : (zeroA te).isSome = true) (hbt : Nat.beq bt 0 = false) (hr : (L.length + 1) * bt ≤ 140737488355328)
    (h1 : K (S n ((d, .ref id k 0 (L ++ [v]).length) :: l) (M + 1) ((id, some (.arr k ((L ++ [v]).map f))) :: (M, none) :: os)))
    (h2 : K (S n ((d, .ref M k 0 (L ++ [v]).length) :: l) (M + 1) ((M, some (.arr k ((L ++ [v]).map f))) :: os))) : WPOo P Γ ops Q ⟨some d, .call ⟨.builtin .append, #[a, b], #[ty, tx]⟩, ty2, pos, af, none⟩ K (S n l M os) :=
  fun i hi => wpo_app2L hi hsh ha ho hl hb ho2 hz0 hbt hr h1 h2
def FnQ (P : Program) (g : FuncId) (ys : List AV) (os : List AObj) (post : AV → List (Option AObj) → Prop) : Prop :=
  Spec P g ys (os.map some) fun r o' => post r o' ∧ os.length ≤ o'.length ∧ r.bd o'.length = true
theorem sc_q {aos : List AObj} {post : AV → List (Option AObj) → Prop} (is : List Nat) (hf : opq n l f = some (.clo (.func g) first cap)) (has : opqL n l args.toList = some xa) (hspec : FnQ P g ys aos post)
    (hL : Lend is (S n l M os) (first ++ xa ++ cap) ys aos)
    (hk : ∀ r o', post r o' → asemC P ops rest (S n ((d, r.ren (apx M is)) :: l) (M + (o'.length - is.length)) (updN (apx M is) M is o' os)) K) :
    asemC P ops (⟨some d, .call ⟨.value f, args, tys⟩, ty, pos, af, none⟩ :: rest) (S n l M os) K := by
  simp only [asemC]
  refine .inl ?_
  have hM : (S n l M os).objs.length = M := ol_length M os
  simp only [execA, opq_op hf, opqL_op has]
  refine Call.via is hspec hL ?_
  rintro r o' ⟨hp, hlen, hbd⟩
  have hil : is.length = aos.length := by have := wkRO_len hL.2.1; simpa using this.symm
  refine ⟨hlen, hbd, ?_⟩
  rw [hM]
  have e : (⟨(S n l M os).tmps, updO (apx M is) (S n l M os).objs is o'⟩ : St) = S n l (M + (o'.length - is.length)) (updN (apx M is) M is o' os) := by
    simp only [S]; rw [updN_ol is o' os (by omega)]
  rw [e, S_put]
  exact hk r o' hp
def RetQ (P : Program) (rs : List ResultVar) (m : Nat) (post : AV → List (Option AObj) → Prop) (s : St) : Prop := ∃ X os', post X os' ∧ m ≤ os'.length ∧ X.bd os'.length = true ∧ RetO P rs m X os' s
theorem FnQ.intro {fn : Func} {c : Code} {aos : List AObj} {post : AV → List (Option AObj) → Prop} {rs : List ResultVar} (he : enterable P g = true) (hf : P.funcs[g]? = some fn) (hb : fn.body = some c) (hrs : fn.results = rs.toArray) (hn : fn.ntmps = n) (hl : ys.length ≤ n)
    (h : ∀ Γ : Cx, Γ.m = aos.length → WP P Γ c (bodyQ (RetQ P rs aos.length post)) (S n (enumA 0 ys) aos.length (enumO 0 aos))) : FnQ P g ys aos post := by
  refine Spec.introR he hf hb (rs := rs) (by rw [hrs]) fun Γ hm => ?_
  subst hn
  rw [List.length_map] at hm
  rw [tl_start _ _ hl]
  have hw := h Γ hm
  simp only [S, ← ol_enum] at hw
  refine WP.mono hw ?_
  have key : ∀ s, RetQ P rs aos.length post s → ∃ x y l t, resN P s rs = some x ∧ ToR (aos.map some).length l ⟨[x], s.objs⟩ ⟨[y], t⟩ ∧ (post y t ∧ aos.length ≤ t.length ∧ y.bd t.length = true) := by
    rintro s ⟨X, os', h1, h2, h3, x, is, h4, h5⟩
    exact ⟨x, X, is, os', h4, by rw [List.length_map]; exact h5, h1, h2, h3⟩
  intro e s hq
  cases e with
  | normal => exact key s hq
  | ret => exact key s hq
  | _ => exact hq
theorem retQ_L {m : Nat} {rs : List ResultVar} {xs : List AV} {post : AV → List (Option AObj) → Prop} {os' : List (Option AObj)} {os1 : List (Nat × Option AObj)} {k : Nat} (hr : ResL P n l M os rs xs) (hx : tupA xs = x) (hT : ∃ is, ToR m is (S 1 [(0, x)] M os) (S 1 [(0, X)] k os1)) (he : ol k os1 = os') (hlen : m ≤ os'.length) (hbd : X.bd os'.length = true) (hp : post X os') : RetQ P rs m post (S n l M os) :=
  ⟨X, os', hp, hlen, hbd, retO_L hr hx hT he⟩
end
section
variable {P : Program} {Γ : Cx} {n M : Nat} {l : List (Nat × AV)} {os : List (Nat × Option AObj)} {x : AV} {d : Tmp} {ty : TypeId} {pos : String} {af : Array Edge} {ops : Array Oper} {Q : Exit → St → Prop} {fuel : Nat} {listed : Array Bool}
theorem wpt_takeG {op : Op} (i : Nat) (ho : ops[i]? = some ⟨some d, op, ty, pos, af, none⟩) (hy : ∀ (ρ : Nat → Option Nat) (a : Act) (w : World), SRa Γ (fun id => id < (S n l M os).objs.length) ρ (S n l M os) a w → ∃ v, RV (fun id => id < (S n l M os).objs.length) ρ (Im Γ ρ (S n l M os) w) w x v ∧ ∀ w', (execOp a.eval ⟨some d, op, ty, pos, af, none⟩).run P w' = .ok (.value v) w')
    (hs : Region.noSelect ops = true) (hf : Region.free .any ops listed i = true) (hr : (Region.ready .any ops listed).contains i = true) (hQ : PInd Q)
    (hk : WPT P Γ ops Q fuel (listed.setIfInBounds i true) (S n ((d, x) :: l) M os)) : WPT P Γ ops Q (fuel + 1) listed (S n l M os) := by
  intro a w hs'
  obtain ⟨ρ, hρ⟩ := hs'
  obtain ⟨v, hrv, hrun⟩ := hy ρ a w hρ
  refine wpAny_take (v := v) ho hs hf hr ?_ (.inl ⟨by simp [Region.wanted], fun w' => hrun w'⟩) ?_
  · rintro c a1 w1 ⟨s', hq, ρ', h'⟩
    by_cases hd : d < a1.tmps.size
    · have hv : a1.tmps[d]? = some a1.tmps[d] := Array.getElem?_eq_getElem hd
      refine ⟨s'.put (some d) .any, hQ _ _ _ _ hq, ρ', ?_⟩
      have h2 := h'.put (some d) (x := .any) (v := a1.tmps[d]) .any
      have e : (a1.put (some d) v).put (some d) a1.tmps[d] = a1 := by
        have e1 : (a1.put (some d) v).put (some d) a1.tmps[d] = a1.put (some d) a1.tmps[d] := by simp [Act.put]
        rw [e1]; exact act_same hv
      rw [e] at h2
      simpa [St.put] using h2
    · refine ⟨s', hq, ρ', ?_⟩
      have e : a1.put (some d) v = a1 := by
        cases a1 with | mk tm df => simp only [Act.put, Act.mk.injEq, and_true]; exact Array.setIfInBounds_eq_of_size_le (by simpa using hd)
      rwa [e] at h'
  · refine hk _ _ ⟨ρ, ?_⟩
    have h2 := hρ.put (some d) hrv
    rw [S_put] at h2
    simpa [S, ol_length] using h2
theorem wpt_takeNil {y : Operand} {id k p q : Nat} (i : Nat) (ho : ops[i]? = some ⟨some d, .nilCheck y, ty, pos, af, none⟩) (hx : opq n l y = some (.ptr id k p q)) (hs : Region.noSelect ops = true) (hf : Region.free .any ops listed i = true) (hr : (Region.ready .any ops listed).contains i = true) (hQ : PInd Q)
    (hk : WPT P Γ ops Q fuel (listed.setIfInBounds i true) (S n ((d, .ptr id k p q) :: l) M os)) : WPT P Γ ops Q (fuel + 1) listed (S n l M os) := by
  refine wpt_takeG i ho (fun ρ a w h => ?_) hs hf hr hQ hk
  have h1 := h.eval y
  rw [opq_op hx] at h1
  generalize hv : a.eval y = v at h1
  refine ⟨v, h1, fun w' => ?_⟩
  cases h1 with
  | ptr h1 h2 => simp [execOp, hv]
theorem wpt_takeCat {y z : Operand} {t t2 : TypeId} {s u : ByteArray} (i : Nat) (ho : ops[i]? = some ⟨some d, .binOp .add t y z t2, ty, pos, af, none⟩) (hx : opq n l y = some (.val (.string s))) (hz : opq n l z = some (.val (.string u))) (hsz : s.size + u.size ≤ 9223372036854775807) (hs : Region.noSelect ops = true) (hf : Region.free .any ops listed i = true) (hr : (Region.ready .any ops listed).contains i = true) (hQ : PInd Q)
    (hk : WPT P Γ ops Q fuel (listed.setIfInBounds i true) (S n ((d, .val (.string (s ++ u))) :: l) M os)) : WPT P Γ ops Q (fuel + 1) listed (S n l M os) := by
  refine wpt_takeG i ho (fun ρ a w h => ?_) hs hf hr hQ hk
  have h1 := h.eval y
  have h2 := h.eval z
  rw [opq_op hx] at h1
  rw [opq_op hz] at h2
  have e1 := h1.val_eq
  have e2 := h2.val_eq
  refine ⟨.string (s ++ u), .val rfl, fun w' => ?_⟩
  obtain ⟨r, hr, hrv⟩ := binA_sound (P := P) (A := fun _ => True) (ρ := fun _ => none) (I := fun _ => True) (w := w') (op := .add) (x := .val (.string s)) (y := .val (.string u)) (z := .val (.string (s ++ u))) (.val rfl) (.val rfl) (by simp [binA, hsz]) t y z
  rw [hrv.val_eq] at hr
  simp only [execOp, e1, e2]
  rw [Sem.run_bind, hr]
  rfl
end
section
variable {P : Program} {Γ : Cx} {A : Nat → Prop} {ρ : Nat → Option Nat} {s : St} {a : Act} {w : World}
theorem SRa.shrink (h : SRa Γ A ρ s a w) {id k : Nat} {es fs : List AV} (hl : s.live id (.arr k (es ++ fs))) : SRa Γ A ρ (s.set id (some (.arr k es))) a w := by
  have hlv : ∀ i o, (s.set id (some (.arr k es))).live i o → ∃ o0, s.live i o0 := fun i o ho => by
    rcases St.live_set ho with ⟨rfl, _⟩ | ⟨_, h2⟩
    · exact ⟨_, hl⟩
    · exact ⟨_, h2⟩
  have hI : ∀ b, Im Γ ρ s w b → Im Γ ρ (s.set id (some (.arr k es))) w b ∧ w.heap[b]? = w.heap[b]? := fun b ⟨h1, h2, h3⟩ => ⟨⟨h1, h2, fun i o ho => by obtain ⟨o0, h0⟩ := hlv i o ho; exact h3 i o0 h0⟩, rfl⟩
  refine h.turn rfl (fun i hi => ⟨hi, rfl⟩) hI (fun _ _ hn => hn) (fun i o ho => ?_) (fun i o ho => by obtain ⟨o0, h0⟩ := hlv i o ho; exact h.made i o0 h0) (fun i hi => by simpa using h.bound i hi) (fun i o b ho hb => by obtain ⟨o0, h0⟩ := hlv i o ho; exact h.own i o0 b h0 hb)
    (fun i j o o' b h1 h2 hb hb' => by obtain ⟨o0, h0⟩ := hlv i o h1; obtain ⟨o1, h3⟩ := hlv j o' h2; exact h.inj i j o0 o1 b h0 h3 hb hb') h.fr
  rcases St.live_set ho with ⟨rfl, rfl⟩ | ⟨_, h2⟩
  · have h0 := h.obj i _ hl
    cases hr : ρ i with
    | none =>
      rw [hr] at h0
      obtain ⟨k0, h0⟩ := h0.resolve_left (by simp)
      injection h0 with h1 h2
      obtain ⟨rfl, rfl⟩ := List.append_eq_nil_iff.1 h2
      exact .inr ⟨k, rfl⟩
    | some b =>
      rw [hr] at h0
      obtain ⟨cs, t, h1, h2, h3, h4, h5⟩ := h0
      rw [flat_append] at h2 h4 h5
      rw [List.length_append] at h2 h4
      refine ⟨cs, t, h1, by omega, fun e he => h3 e (by simp [he]), fun j v hj hv => h4 j v (by omega) hv, fun j x v hx hv => ?_⟩
      have hj := (List.getElem?_eq_some_iff.1 hx).1
      exact (h5 j x v (by rw [List.getElem?_append_left hj]; exact hx) hv).mono (fun i hi => ⟨hi, rfl⟩) hI (fun _ _ hn => hn)
  · exact (h.obj i o h2).mono (fun i hi => ⟨hi, rfl⟩) hI (fun _ _ hn => hn) (fun _ _ => rfl)
end
section
variable {P : Program} {Γ : Cx} {n M : Nat} {l : List (Nat × AV)} {os : List (Nat × Option AObj)} {c : Code} {Q : Exit → St → Prop}
theorem wp_shr {k : Nat} {es fs : List AV} (id : Nat) (ho : lookq M os id = some (.arr k (es ++ fs))) (hw : WP P Γ c Q (S n l M ((id, some (.arr k es)) :: os))) : WP P Γ c Q (S n l M os) := fun a w hs => by
  refine hw a w ?_
  obtain ⟨ρ, hs⟩ := hs
  have h1 := hs.shrink (St.look_some.1 (by rw [S_look]; exact ho : (S n l M os).look id = some (.arr k (es ++ fs))))
  refine ⟨ρ, ?_⟩
  have e : (S n l M os).set id (some (.arr k es)) = S n l M ((id, some (.arr k es)) :: os) := by simp [S, St.set, ol_set]
  rw [e] at h1
  simpa [S, ol_length] using h1
end
theorem ro_no {π : Nat → Nat} {os os1 : List (Nat × Option AObj)} {j : Nat} {is : List Nat} (hr : toRO π os is os1) : toRO π os is ((j, none) :: os1) := ⟨trivial, hr⟩
section
variable {P : Program} {n M : Nat} {l : List (Nat × AV)} {os : List (Nat × Option AObj)} {ty : TypeId} {a b : Operand} {y : AV} {pos : String} {af : Array Edge} {ops : Array Oper} {rest : List Oper} {N i : Nat} 
def oneE : AV → Bool
  | .agg _ => false
  | e => e.one
theorem splice_one {ti : TI} {e y : AV} (hag : ti.agg = false) (hsz : Nat.beq ti.size 1 = true) (hy : y.one = true) (he : oneE e = true) : splice ti e 0 y = some y := by
  have hs : ti.size = 1 := Nat.eq_of_beq_eq_true hsz
  unfold splice
  rw [hag, hy, hs]
  cases e with
  | agg cs => cases he
  | _ => simp_all [oneE]
theorem rd_store_n {rs : List Rec} {K : List Rec → St → Prop} {α : Type} [Inhabited α] {f : α → AV} {L : List α} {ti : TI} {id k e : Nat} [ht : TIc P ty ti] (ha : opq n l a = some (.ptr id k e 0)) (ho : lookq M os id = some (.arr k (L.map f))) (hi : e < L.length) (hb : opq n l b = some y) (hf : ∀ x, oneE (f x) = true) (hag : ti.agg = false) (hsz : Nat.beq ti.size 1 = true) (hy : y.one = true) {ty2 : TypeId}
    (hk : RunD P ops N (i + 1) rest (S n l M ((id, some (.arr k ((L.map f).set e y))) :: os)) (rs ++ [⟨none, [id], topq n l [a, b]⟩]) K) : RunD P ops N i (⟨none, .store ty a b, ty2, pos, af, none⟩ :: rest) (S n l M os) rs K :=
  rd_store ha ho (map_nth hi) hb (splice_one hag hsz hy (hf _)) hk
end
section
variable {P : Program} {Γ : Cx} {n M : Nat} {l : List (Nat × AV)} {os : List (Nat × Option AObj)} {c : Code} {Q : Exit → St → Prop}
theorem wp_nilx (ido k m : Nat) {k' : Nat} (pre post : List AV) {cs : List AV} (hob : lookq M os ido = some (.arr k' (pre ++ .agg cs :: post))) (h : cs[m]? = some (.val (.slice none 0 0)))
    (hw : WP P Γ c Q (S n l M ((ido, some (.arr k' (pre ++ .agg (cs.set m (.sl k [])) :: post))) :: os))) : WP P Γ c Q (S n l M os) := fun a w hs => by
  refine hw a w ?_
  obtain ⟨ρ, hs⟩ := hs
  have hob' := St.look_some.1 (by rw [S_look]; exact hob : (S n l M os).look ido = some (.arr k' (pre ++ .agg cs :: post)))
  have hwide : ∀ e, e ∈ pre ++ .agg cs :: post → e.cells.length = k' := by
    have := hs.obj ido _ hob'
    cases hr : ρ ido with
    | none => rw [hr] at this; obtain ⟨_, h2⟩ := this.resolve_left (by simp); simp at h2
    | some b => rw [hr] at this; obtain ⟨_, _, _, _, h3, _⟩ := this; exact h3
  have hm1 : m < cs.length := (List.getElem?_eq_some_iff.1 h).1
  have hfl : flat (pre ++ .agg (cs.set m (.sl k [])) :: post) = (flat (pre ++ .agg cs :: post)).set ((flat pre).length + m) (.sl k []) := by
    simp only [flat, List.flatMap_append, List.flatMap_cons, AV.cells]
    rw [List.set_append_right _ _ (by omega), Nat.add_sub_cancel_left, List.set_append_left _ _ hm1]
  have hat : (flat (pre ++ .agg cs :: post))[(flat pre).length + m]? = some (.val (.slice none 0 0)) := by
    simp only [flat, List.flatMap_append, List.flatMap_cons, AV.cells]
    rw [List.getElem?_append_right (by omega), Nat.add_sub_cancel_left, List.getElem?_append_left hm1]; exact h
  have h2 := hs.recell hob' (es' := pre ++ .agg (cs.set m (.sl k [])) :: post) (by rw [hfl]; simp) (fun e he => by
      rcases List.mem_append.1 he with he | he
      · exact hwide e (by simp [he])
      · rcases List.mem_cons.1 he with rfl | he
        · have := hwide (.agg cs) (by simp)
          simpa [AV.cells] using this
        · exact hwide e (by simp [he])) (by simp) (fun j x y hx hy v hv => by
    rw [hfl, List.getElem?_set] at hy
    by_cases e : (flat pre).length + m = j
    · subst e
      rw [hat] at hx; injection hx with hx; subst hx
      simp only [if_true] at hy
      split at hy
      · injection hy with hy; subst hy
        rw [hv.val_eq]
        exact .nils
      · cases hy
    · rw [if_neg e, hx] at hy; injection hy with hy; subst hy; exact hv)
  refine ⟨ρ, ?_⟩
  have e : ((S n l M os).set ido (some (.arr k' (pre ++ .agg (cs.set m (.sl k [])) :: post)))) = S n l M ((ido, some (.arr k' (pre ++ .agg (cs.set m (.sl k [])) :: post))) :: os) := by simp [S, St.set, ol_set]
  rw [e] at h2
  simpa [S, ol_length] using h2
end
theorem wp_cut {P : Program} {Γ : Cx} {c : Code} {s : St} {Q' : Exit → St → Prop} (R : St → Prop) (h1 : WP P Γ c (fun e s => e = .normal ∧ R s) s) (h2 : ∀ s, R s → Q' .normal s) : WP P Γ c Q' s :=
  h1.mono fun e s ⟨he, hr⟩ => by subst he; exact h2 s hr
section
variable {P : Program} {n M : Nat} {l : List (Nat × AV)} {os : List (Nat × Option AObj)} {d : Tmp} {ty : TypeId} {pos : String} {af : Array Edge} {ops : Array Oper} {rest : List Oper} {K : St → Prop} {a b : Operand}
theorem se_appER {α : Type} {f : α → AV} {L2 : List α} {te tj : TI} {tx : TypeId} {k bt id id2 len2 : Nat} [ht : TEl P ty te k bt] [h3 : TIc P tx tj] (hsh : (match tj.sh with | .int => false | _ => true) = true) (ha : opq n l a = some (.ref id k 0 0)) (ho : lookq M os id = some (.arr k []))
    (hb : opq n l b = some (.ref id2 k 0 len2)) (ho2 : lookq M os id2 = some (.arr k (L2.map f))) (hl2 : L2.length = len2) (hz0 : (zeroA te).isSome = true) (hbt : Nat.beq bt 0 = false) (hr : L2.length * bt ≤ 140737488355328) {ty2 : TypeId} (hk : asemC P ops rest (S n ((d, .ref M k 0 L2.length) :: l) (M + 1) ((M, some (.arr k (L2.map f))) :: (id, none) :: os)) K) :
    asemC P ops (⟨some d, .call ⟨.builtin .append, #[a, b], #[ty, tx]⟩, ty2, pos, af, none⟩ :: rest) (S n l M os) K := by
  refine se_app (es := []) (ys := L2.map f) hsh ha ho rfl hb ?_ hz0 hbt (by simpa using hr) (by simpa using hk)
  obtain ⟨ti, el, g1, he, hs, g4, hsz, hbz⟩ := ht.h
  subst hl2
  simp [srcA, ho2, hsz]
  exact List.take_of_length_le (by simp)
end
section
variable {P : Program} {Γ : Cx} {n M : Nat} {l : List (Nat × AV)} {os : List (Nat × Option AObj)} {c : Code} {Q : Exit → St → Prop}
theorem wp_frz2 {id k len len1 : Nat} {α : Type} {f : α → AV} {L1 L2 : List α} (j ido m : Nat) {k' : Nat} {cs : List AV} {mm : Nat} (hm : Γ.m = mm) (hid : Nat.beq id ido = false) (hj : opq n l (.tmp j) = some (.ref id k 0 len1)) (hob : lookq M os ido = some (.arr k' [.agg cs])) (h : cs[m]? = some (.ref id k 0 len)) (ho : lookq M os id = some (.arr k ((L1 ++ L2).map f))) (hl1 : L1.length = len1) (hl : (L1 ++ L2).length = len) (hb : ∀ x, (f x).bd 0 = true) (hk : ∀ x, (f x).cells.length = k)
    (hw : WP P Γ c Q (S n ((j, .sl k (L1.map f)) :: l) M ((ido, some (.arr k' [.agg (cs.set m (.sl k ((L1 ++ L2).map f)))])) :: (id, none) :: os))) : WP P Γ c Q (S n l M os) := fun a w hs => by
  refine hw a w ?_
  obtain ⟨ρ, hs⟩ := hs
  have hlook : (S n l M os).look id = some (.arr k ((L1 ++ L2).map f)) := by rw [S_look]; exact ho
  have hlive := St.look_some.1 hlook
  have hnb := hs.newb (mm := mm) hm (by rfl) hlive
  have h1 := hs.kill id
  have hne : id ≠ ido := Nat.ne_of_beq_eq_false hid
  have hob' : ((S n l M os).set id none).live ido (.arr k' [.agg cs]) := by
    have := St.look_some.1 (by rw [S_look]; exact hob : (S n l M os).look ido = some (.arr k' [.agg cs]))
    simp only [St.live, St.set_objs] at this ⊢
    rw [List.getElem?_set_ne hne]; exact this
  have hwide : cs.length = k' := by
    have := hs.obj ido _ (St.look_some.1 (by rw [S_look]; exact hob))
    cases hr : ρ ido with
    | none => rw [hr] at this; obtain ⟨_, h2⟩ := this.resolve_left (by simp); cases h2
    | some b => rw [hr] at this; obtain ⟨_, _, _, _, h3, _⟩ := this; exact h3 (.agg cs) (by simp)
  have h2 := h1.recell hob' (es' := [.agg (cs.set m (.sl k ((L1 ++ L2).map f)))]) (by simp [flat, AV.cells]) (by simp [AV.cells, hwide]) (by simp) (fun j x y hx hy v hv => by
    simp only [flat, AV.cells, List.flatMap_cons, List.flatMap_nil, List.append_nil] at hx hy
    rw [List.getElem?_set] at hy
    by_cases e : m = j
    · subst e
      rw [h] at hx; injection hx with hx; subst hx
      simp only [if_true] at hy
      split at hy
      · injection hy with hy; subst hy
        exact hs.list1 hlook hl hb hk hnb hv
      · cases hy
    · rw [if_neg e, hx] at hy; injection hy with hy; subst hy; exact hv)
  have hjn : j < n := by
    simp only [opq] at hj
    cases hb : Nat.blt j n with
    | false => rw [hb] at hj; simp at hj
    | true => exact blt_of hb
  have hx := opq_op (M := M) (os := os) hj
  simp only [St.op, S] at hx
  rw [tl_getD l hjn] at hx
  have hlen : a.tmps.size = n := by rw [hs.len]; simp [S, tl_length]
  have hv : a.tmps[j]? = some (a.tmps[j]'(by omega)) := Array.getElem?_eq_getElem (by omega)
  have hrv := hs.tmp j (.ref id k 0 len1) _ (by simp only [S, tl_get l hjn, hx]) hv
  have hsh : SRa Γ (fun id => id < (S n l M os).objs.length) ρ ((S n l M os).set id (some (.arr k (L1.map f)))) a w := hs.shrink (es := L1.map f) (fs := L2.map f) (by rw [← List.map_append]; exact hlive)
  have hlt : id < (S n l M os).objs.length := (List.getElem?_eq_some_iff.1 hlive).1
  have hrp : RV (fun id => id < (S n l M os).objs.length) ρ (Im Γ ρ (((S n l M os).set id (some (.arr k (L1.map f)))).set id none) w) w (.sl k (L1.map f)) (a.tmps[j]'(by omega)) := by
    refine hsh.list1 (St.look_some.2 (by simp only [St.live, St.set_objs]; rw [List.getElem?_set_self hlt])) hl1 hb hk hnb hrv
  have e0 : ((S n l M os).set id (some (.arr k (L1.map f)))).set id none = (S n l M os).set id none := by simp [St.set]
  rw [e0] at hrp
  have hrq := hrp.mono (w' := w) (A' := fun id => id < (S n l M os).objs.length) (ρ' := ρ) (I' := Im Γ ρ (((S n l M os).set id none).set ido (some (.arr k' [.agg (cs.set m (.sl k ((L1 ++ L2).map f)))]))) w) (fun _ hA => ⟨hA, rfl⟩) (fun b ⟨q1, q2, q3⟩ => ⟨⟨q1, q2, fun i o hl => by
    rcases St.live_set hl with ⟨rfl, _⟩ | ⟨_, h2⟩
    · exact q3 _ _ hob'
    · exact q3 i o h2⟩, rfl⟩) (fun _ _ hn => hn)
  have h3 := h2.put (some j) hrq
  rw [act_same hv] at h3
  refine ⟨ρ, ?_⟩
  have e : ((((S n l M os).set id none).set ido (some (.arr k' [.agg (cs.set m (.sl k ((L1 ++ L2).map f)))])))).put (some j) (.sl k (L1.map f)) = S n ((j, .sl k (L1.map f)) :: l) M ((ido, some (.arr k' [.agg (cs.set m (.sl k ((L1 ++ L2).map f)))])) :: (id, none) :: os) := by simp [S, St.set, St.put, ol_set, tl_set]
  rw [e] at h3
  simpa [S, ol_length] using h3
end
end Go.Lg

namespace Go.Lg
structure DSt where
  count : Int
  extra : List (ByteArray × List (List Int))
  ok : Bool
structure DEn where
  terms : List ByteArray
  names : List ByteArray
  rule : ByteArray
def DEn.sym (d : DEn) (n : ByteArray) (s : DSt) : Int × DSt :=
  if 0 ≤ idx d.names n then (-1 - idx d.names n, s) else (max (idx d.terms n) 0, ⟨s.count, s.extra, s.ok && decide (0 ≤ idx d.terms n)⟩)
def finB (k self : Int) (bs : List (List Int)) : List (List Int) :=
  if k = 4 then [[], bs.headD []] else if k = 5 then [[], self :: bs.headD []] else if k = 6 then [bs.headD [], self :: bs.headD []] else bs
def DEn.newName (d : DEn) (c : Int) : ByteArray := d.rule ++ ⟨#[46]⟩ ++ ⟨(Lib.itoa c).toArray⟩
def DEn.self (d : DEn) (s : DSt) : Int := -1 - d.names.length - s.extra.length
def DEn.start (d : DEn) (s : DSt) : DSt := ⟨s.count + 1, s.extra ++ [(d.newName (s.count + 1), [])], s.ok⟩
mutual
def DEn.symE (d : DEn) : GEx → DSt → List Int × DSt
  | .mk k n l, s =>
    if k = 1 then ([(d.sym n s).1], (d.sym n s).2)
    else if k = 2 then ((d.symL l s).1.flatten, (d.symL l s).2)
    else ([d.self s], ⟨(d.symL l (d.start s)).2.count, (d.symL l (d.start s)).2.extra.set s.extra.length (d.newName (s.count + 1), finB k (d.self s) (d.symL l (d.start s)).1), (d.symL l (d.start s)).2.ok⟩)
def DEn.symL (d : DEn) : List GEx → DSt → List (List Int) × DSt
  | [], s => ([], s)
  | e :: l, s => ((d.symE e s).1 :: (d.symL l (d.symE e s).2).1, (d.symL l (d.symE e s).2).2)
end
theorem DEn.symE_eq (d : DEn) (e : GEx) (s : DSt) : d.symE e s = if e.kind = 1 then ([(d.sym e.name s).1], (d.sym e.name s).2)
    else if e.kind = 2 then ((d.symL e.kids s).1.flatten, (d.symL e.kids s).2)
    else ([d.self s], ⟨(d.symL e.kids (d.start s)).2.count, (d.symL e.kids (d.start s)).2.extra.set s.extra.length (d.newName (s.count + 1), finB e.kind (d.self s) (d.symL e.kids (d.start s)).1), (d.symL e.kids (d.start s)).2.ok⟩) := by
  cases e; rw [DEn.symE]; rfl
theorem DEn.symL_len (d : DEn) : ∀ (l : List GEx) (s : DSt), (d.symL l s).1.length = l.length
  | [], s => by rw [DEn.symL]; rfl
  | e :: l, s => by rw [DEn.symL, List.length_cons, DEn.symL_len d l, List.length_cons]
theorem DEn.symL_snoc (d : DEn) : ∀ (l : List GEx) (e : GEx) (s : DSt), d.symL (l ++ [e]) s = ((d.symL l s).1 ++ [(d.symE e (d.symL l s).2).1], (d.symE e (d.symL l s).2).2)
  | [], e, s => by rw [List.nil_append, DEn.symL, DEn.symL, DEn.symL]; rfl
  | x :: l, e, s => by rw [List.cons_append, DEn.symL, DEn.symL_snoc d l e, DEn.symL]; rfl
theorem DEn.sym_len (d : DEn) (n : ByteArray) (s : DSt) : (d.sym n s).2.extra = s.extra ∧ (d.sym n s).2.count = s.count := by
  unfold DEn.sym; split <;> exact ⟨rfl, rfl⟩
theorem DEn.sym_ext (d : DEn) (e : GEx) : ∀ s : DSt, s.extra.length ≤ (d.symE e s).2.extra.length ∧ s.count ≤ (d.symE e s).2.count ∧ (d.symE e s).2.count - s.count ≤ (d.symE e s).2.extra.length - s.extra.length := by
  induction e using GEx.ind with
  | h e ih =>
    have hL : ∀ l : List GEx, (∀ x, x ∈ l → x ∈ e.kids) → ∀ s : DSt, s.extra.length ≤ (d.symL l s).2.extra.length ∧ s.count ≤ (d.symL l s).2.count ∧ (d.symL l s).2.count - s.count ≤ (d.symL l s).2.extra.length - s.extra.length := by
      intro l
      induction l with
      | nil => intro _ s; rw [DEn.symL]; refine ⟨Nat.le_refl _, Int.le_refl _, ?_⟩; simp
      | cons x l ihl =>
        intro hl s
        have h1 := ih x (hl x (by simp)) s
        have h2 := ihl (fun y hy => hl y (by simp [hy])) (d.symE x s).2
        rw [DEn.symL]
        simp only
        omega
    intro s
    rw [DEn.symE_eq]
    split
    · have := d.sym_len e.name s
      simp only [this.1, this.2]
      omega
    · split
      · exact hL _ (fun _ h => h) s
      · have := hL e.kids (fun _ h => h) (d.start s)
        simp only [DEn.start, List.length_append, List.length_cons, List.length_nil] at this
        simp only [List.length_set, DEn.start]
        omega
end Go.Lg

namespace Go.Lg
theorem exprA_mkJ (k : Int) (n : ByteArray) (l : List GEx) : exprA (.mk k n l) = .agg [intA k, strA n, .sl 3 (l.map exprA)] := by
  unfold exprA
  rw [kidsL_map]
  rfl
mutual
def nodE : GEx → Nat
  | .mk _ _ l => 1 + nodL l
def nodL : List GEx → Nat
  | [] => 0
  | e :: l => nodE e + nodL l
end
theorem nodE_eq (e : GEx) : nodE e = 1 + nodL e.kids := by cases e; rw [nodE]; rfl
theorem nodL_snoc : ∀ (l : List GEx) (e : GEx), nodL (l ++ [e]) = nodL l + nodE e
  | [], e => by rw [List.nil_append, nodL, nodL, nodL]; omega
  | x :: l, e => by rw [List.cons_append, nodL, nodL_snoc l e, nodL]; omega
theorem nodL_app : ∀ (l r : List GEx), nodL (l ++ r) = nodL l + nodL r
  | [], r => by rw [List.nil_append, nodL]; omega
  | x :: l, r => by rw [List.cons_append, nodL, nodL_app l r, nodL]; omega
theorem nodL_take (l : List GEx) (k : Nat) : nodL (l.take k) ≤ nodL l := by
  have := nodL_app (l.take k) (l.drop k)
  rw [List.take_append_drop] at this
  omega
theorem nodE_pos (e : GEx) : 1 ≤ nodE e := by rw [nodE_eq]; omega
theorem len_nodL : ∀ l : List GEx, l.length ≤ nodL l
  | [] => Nat.zero_le _
  | e :: l => by have := len_nodL l; have := nodE_pos e; rw [nodL, List.length_cons]; omega
def wellE : GEx → Bool
  | .mk k _ l => (decide (k = 1) || decide (k = 2) || !l.isEmpty) && wellL l
where wellL : List GEx → Bool
  | [] => true
  | e :: l => wellE e && wellL l
theorem wellE_eq (e : GEx) : wellE e = ((decide (e.kind = 1) || decide (e.kind = 2) || !e.kids.isEmpty) && wellE.wellL e.kids) := by cases e; rw [wellE]; rfl
theorem wellL_all : ∀ l : List GEx, wellE.wellL l = l.all wellE
  | [] => by rw [wellE.wellL]; rfl
  | e :: l => by rw [wellE.wellL, wellL_all l]; rfl
theorem DEn.symE_cnt (d : DEn) (e : GEx) : ∀ s : DSt, (d.symE e s).1.length ≤ nodE e ∧ (d.symE e s).2.extra.length ≤ s.extra.length + nodE e := by
  induction e using GEx.ind with
  | h e ih =>
    have hL : ∀ l : List GEx, (∀ x, x ∈ l → x ∈ e.kids) → ∀ s : DSt, (d.symL l s).1.flatten.length ≤ nodL l ∧ (d.symL l s).2.extra.length ≤ s.extra.length + nodL l := by
      intro l
      induction l with
      | nil => intro _ s; rw [DEn.symL]; simp
      | cons x l ihl =>
        intro hl s
        have h1 := ih x (hl x (by simp)) s
        have h2 := ihl (fun y hy => hl y (by simp [hy])) (d.symE x s).2
        rw [DEn.symL, nodL]
        simp only [List.flatten_cons, List.length_append]
        omega
    intro s
    rw [DEn.symE_eq, nodE_eq]
    split
    · have := d.sym_len e.name s
      simp only [this.1, List.length_cons, List.length_nil]
      omega
    · split
      · have := hL _ (fun _ h => h) s
        simp only
        omega
      · have := hL e.kids (fun _ h => h) (d.start s)
        simp only [DEn.start, List.length_append, List.length_cons, List.length_nil] at this
        simp only [List.length_set, DEn.start, List.length_cons, List.length_nil]
        omega
theorem DEn.symL_cnt (d : DEn) : ∀ (l : List GEx) (s : DSt), (d.symL l s).1.flatten.length ≤ nodL l ∧ (d.symL l s).2.extra.length ≤ s.extra.length + nodL l
  | [], s => by rw [DEn.symL]; simp
  | x :: l, s => by
    have h1 := d.symE_cnt x s
    have h2 := DEn.symL_cnt d l (d.symE x s).2
    rw [DEn.symL, nodL]
    simp only [List.flatten_cons, List.length_append]
    omega
theorem DEn.symL_ext (d : DEn) : ∀ (l : List GEx) (s : DSt), s.extra.length ≤ (d.symL l s).2.extra.length ∧ s.count ≤ (d.symL l s).2.count ∧ (d.symL l s).2.count - s.count ≤ (d.symL l s).2.extra.length - s.extra.length
  | [], s => by rw [DEn.symL]; refine ⟨Nat.le_refl _, Int.le_refl _, ?_⟩; simp
  | x :: l, s => by
    have h1 := d.sym_ext x s
    have h2 := DEn.symL_ext d l (d.symE x s).2
    rw [DEn.symL]
    simp only
    omega
theorem DEn.symE_old (d : DEn) (e : GEx) : ∀ (s : DSt) (i : Nat), i < s.extra.length → (d.symE e s).2.extra[i]? = s.extra[i]? := by
  induction e using GEx.ind with
  | h e ih =>
    have hL : ∀ l : List GEx, (∀ x, x ∈ l → x ∈ e.kids) → ∀ (s : DSt) (i : Nat), i < s.extra.length → (d.symL l s).2.extra[i]? = s.extra[i]? := by
      intro l
      induction l with
      | nil => intro _ s i _; rw [DEn.symL]
      | cons x l ihl =>
        intro hl s i hi
        rw [DEn.symL]
        simp only
        rw [ihl (fun y hy => hl y (by simp [hy])) _ i (Nat.lt_of_lt_of_le hi (d.sym_ext x s).1), ih x (hl x (by simp)) s i hi]
    intro s i hi
    rw [DEn.symE_eq]
    split
    · rw [(d.sym_len e.name s).1]
    · split
      · exact hL _ (fun _ h => h) s i hi
      · have := hL e.kids (fun _ h => h) (d.start s) i (by simp [DEn.start]; omega)
        simp only
        rw [List.getElem?_set_ne (by omega), this]
        simp only [DEn.start]
        rw [List.getElem?_append_left hi]
theorem DEn.symL_old (d : DEn) : ∀ (l : List GEx) (s : DSt) (i : Nat), i < s.extra.length → (d.symL l s).2.extra[i]? = s.extra[i]?
  | [], s, i, _ => by rw [DEn.symL]
  | x :: l, s, i, hi => by
    rw [DEn.symL]
    simp only
    rw [DEn.symL_old d l _ i (Nat.lt_of_lt_of_le hi (d.sym_ext x s).1), d.symE_old x s i hi]
end Go.Lg

namespace Go.Lg
section
variable {P : Program} {n M N i : Nat} {l : List (Nat × AV)} {os : List (Nat × Option AObj)} {d t : Tmp} {ty : TypeId} {pos : String} {af : Array Edge} {ops : Array Oper} {rest : List Oper} {K : List Rec → St → Prop} {rs : List Rec} {j : Nat} {want : Bool} {X : AV}
theorem rdg_call {g : FuncId} {first cap us us' : List AV} {f : Operand} {args : Array Operand} {tys : Array TypeId} (ht : (ops[j]?).bind (·.dst) = some t) (hg : opq n l (.tmp t) = some (.val (.bool want))) (hf : opq n l f = some (.clo (.func g) first cap)) (has : opqL n l args.toList = some us) (hsub : SubL (first ++ us ++ cap) us') (hp : bdL 0 (first ++ us ++ cap) = true) (hspec : Fn P g us' X)
    (hk : RunD P ops N (i + 1) rest (S n ((d, X) :: l) M os) (rs ++ [⟨some d, [], topq n l (Op.operands (.call ⟨.value f, args, tys⟩)).toList⟩]) K) : RunD P ops N i (⟨some d, .call ⟨.value f, args, tys⟩, ty, pos, af, some (j, want)⟩ :: rest) (S n l M os) rs K := by
  have e := opqL_op (M := M) (os := os) has
  refine ⟨.did (X, .none), _, ⟨rfl, .inr ⟨_, f, g, first, cap, rfl, rfl, opq_op hf, by rw [e]; exact (hspec.sub hsub).spec, by rw [e]; exact hp, rfl⟩, yielded_q ht hg⟩, ?_⟩
  show RunD P ops N (i + 1) rest ((S n l M os).put (some d) X) (rs ++ [⟨some d, [], topIds (S n l M os) _⟩]) K
  rw [topq_ids, S_put]
  exact hk
end
end Go.Lg

namespace Go.Lg
open Go.Proofs
set_option linter.unusedSimpArgs false
set_option linter.unusedVariables false
attribute [local irreducible] Ap Rq asemC WP RunD Ret Gq thenA inBlockA bodyQ noGotoA RqL RqP OpP
set_option maxHeartbeats 8000000
def rulesTo (f : GFi) (k : Nat) : Prop := ∀ j, j < k → (gnOk (nth f.rules j).name = true ∧ gruleOk (nth f.rules j) = true) ∧ ∀ i, i < j → (nth f.rules i).name ≠ (nth f.rules j).name
def startTo (f : GFi) (k : Nat) : Bool := (f.rules.take k).any fun r => decide (r.name = f.start)
theorem startTo_succ {f : GFi} {k : Nat} (hk : k < f.rules.length) : startTo f (k + 1) = (startTo f k || decide ((nth f.rules k).name = f.start)) := by
  simp [startTo, take_succ_nth hk]
theorem altOk_iff {a : GAl} : altOk a = true ↔ (0 ≤ a.price ∧ a.price ≤ 1000) ∧ okE a.body 30 = true := by
  simp only [altOk, Bool.and_eq_true, decide_eq_true_eq]
theorem altOk_no {a : GAl} (h : (a.price < 0 ∨ 1000 < a.price) ∨ okE a.body 30 = false) : altOk a = false := by
  cases hg : altOk a with
  | false => rfl
  | true =>
    have := altOk_iff.1 hg
    rcases h with h | h
    · omega
    · rw [h] at this; exact absurd this.2 (by decide)
theorem nth_map {α β : Type} [Inhabited α] [Inhabited β] (g : α → β) {l : List α} {k : Nat} (hk : k < l.length) : nth (l.map g) k = g (nth l k) := by
  rw [nth_eq (by simpa using hk), nth_eq hk, List.getElem_map]
theorem rnames_all (f : GFi) : rnames f f.rules.length = f.rules.map (·.name) := by simp [rnames]
theorem rules_no1 {f : GFi} {k : Nat} (hk : k < f.rules.length) (h : gnOk (nth f.rules k).name = false) : validF f = false := by
  have : distOk (rnames f f.rules.length) = false := by
    rw [rnames_all]
    simp only [distOk, all_nth_no (l := f.rules.map (·.name)) (f := gnOk) (k := k) (by simpa using hk) (by rw [nth_map _ hk]; exact h), Bool.false_and]
  simp only [validF, this, Bool.and_false, Bool.false_and]
theorem rules_no2 {f : GFi} {i k : Nat} (hk : k < f.rules.length) (hi : i < k) (h : (nth f.rules i).name = (nth f.rules k).name) : validF f = false := by
  have : distOk (rnames f f.rules.length) = false := by
    rw [rnames_all]
    simp only [distOk, decide_eq_false (not_nodup (l := f.rules.map (·.name)) (j := k) (k := i) (by simpa using hk) hi (by rw [nth_map _ (by omega), nth_map _ hk]; exact h)), Bool.and_false]
  simp only [validF, this, Bool.and_false, Bool.false_and]
theorem rules_no3 {f : GFi} {k : Nat} (hk : k < f.rules.length) (h : gruleOk (nth f.rules k) = false) : validF f = false := by
  simp only [validF, all_nth_no (l := f.rules) (f := gruleOk) (k := k) hk h, Bool.and_false, Bool.false_and]
theorem rules_yes {f : GFi} (h : rulesTo f f.rules.length) : f.rules.all gruleOk = true ∧ distOk (rnames f f.rules.length) = true := by
  refine ⟨all_of_nth fun j hj => (h j hj).1.2, ?_⟩
  rw [rnames_all]
  simp only [distOk, Bool.and_eq_true, decide_eq_true_eq]
  refine ⟨all_of_nth fun j hj => ?_, nodup_nth fun j hj i hi => ?_⟩
  · have hj' : j < f.rules.length := by simpa using hj
    rw [nth_map _ hj']; exact (h j hj').1.1
  · have hj' : j < f.rules.length := by simpa using hj
    rw [nth_map _ hj', nth_map _ (by omega)]; exact (h j hj').2 i hi
theorem start_any (f : GFi) : (rnames f f.rules.length).any (fun x => decide (f.start = x)) = startTo f f.rules.length := by
  rw [rnames_all, startTo, List.take_of_length_le (Nat.le_refl _), List.any_map]
  congr 1
  funext r
  simp only [Function.comp]
  rw [Bool.eq_iff_iff]; simp [eq_comm]
theorem distOk_iff {l : List ByteArray} : distOk l = true ↔ (∀ x, x ∈ l → gnOk x = true) ∧ l.Nodup := by
  simp only [distOk, Bool.and_eq_true, decide_eq_true_eq, List.all_eq_true]
theorem distOk_add {l : List ByteArray} {x : ByteArray} (h : distOk l = true) (h1 : gnOk x = true) (h2 : x ∉ l) : distOk (l ++ [x]) = true := by
  rw [distOk_iff] at h ⊢
  refine ⟨fun y hy => ?_, ?_⟩
  · rcases List.mem_append.1 hy with hy | hy
    · exact h.1 y hy
    · rw [List.mem_singleton.1 hy]; exact h1
  · rw [List.nodup_append]; exact ⟨h.2, by simp, fun a ha b hb => by rw [List.mem_singleton.1 hb]; rintro rfl; exact h2 ha⟩
theorem distOk_no {l r : List ByteArray} {x : ByteArray} (h : gnOk x = false ∨ x ∈ l) : distOk (l ++ x :: r) = false := by
  cases hg : distOk (l ++ x :: r) with
  | false => rfl
  | true =>
    rw [distOk_iff] at hg
    rcases h with h | h
    · have := hg.1 x (by simp); rw [h] at this; cases this
    · exact absurd rfl ((List.nodup_append.1 hg.2).2.2 x h x (by simp))
def toks2 (f : GFi) (j k : Nat) : List ByteArray := toks f j ++ (nth f.levels j).tokens.take k
theorem toks2_no {f : GFi} {j k : Nat} (hj : j < f.levels.length) (hk : k < (nth f.levels j).tokens.length) (h : gnOk (nth (nth f.levels j).tokens k) = false ∨ nth (nth f.levels j).tokens k ∈ toks2 f j k) : validF f = false := by
  have key : ∃ r, toks f f.levels.length = toks2 f j k ++ nth (nth f.levels j).tokens k :: r := by
    refine ⟨(nth f.levels j).tokens.drop (k + 1) ++ ((f.levels.drop (j + 1)).map (·.tokens)).flatten, ?_⟩
    have e1 : toks f f.levels.length = toks f (j + 1) ++ ((f.levels.drop (j + 1)).map (·.tokens)).flatten := by
      simp only [toks, List.take_of_length_le (Nat.le_refl f.levels.length)]
      rw [← List.flatten_append, ← List.map_append, List.take_append_drop]
    rw [e1, toks_succ hj, toks2]
    have e2 : (nth f.levels j).tokens = (nth f.levels j).tokens.take k ++ nth (nth f.levels j).tokens k :: (nth f.levels j).tokens.drop (k + 1) := by
      rw [nth_eq hk, ← List.drop_eq_getElem_cons hk, List.take_append_drop]
    conv => lhs; rw [e2]
    simp only [List.append_assoc, List.cons_append]
  obtain ⟨r, hr⟩ := key
  have : distOk (toks f f.levels.length) = false := by rw [hr]; exact distOk_no h
  simp only [validF, this, Bool.and_false, Bool.false_and]
theorem rvalid_fn (f : GFi) (hf : f.fit) (hT : (toks f f.levels.length).length ≤ 1000000) : Fn Tryd.prog 30 [fileA f] (boolA (validF f)) := by
  obtain ⟨hf1, hf2, hf3⟩ := hf
  refine Fn.intro rfl (by kernel_rfl) Tryd.func30 rfl rfl Tryd.ntmps30 (by exact Nat.le_of_ble_eq_true rfl) ?_; intro Γ hm
  refine wp_lens 0 rfl fun hl => ?_
  have hl2 : f.rules.length ≤ 9223372036854775807 ∧ f.levels.length ≤ 9223372036854775807 := by have := hl; simp [AV.lens, lensL, fileA, levelsA, grulesA] at this; omega
  (repeat' (first | apply jA | apply jF | apply jH | apply jI | apply jK | apply jM | apply jS | (refine wp_cond rfl (fun hc => ?_) (fun hc => ?_) <;> (try simp only [sB, ne_eq, reduceCtorEq] at hc) <;> (try (exfalso; omega))) | (refine WP.regionC (id := 0) ?_; (refine se_box rfl (by exact ⟨rfl, rfl⟩) ?_); (refine sassign rfl ?_); apply jW) | (refine WP.regionC (id := 1) ?_; (refine sfieldp rfl rfl rfl ?_); (refine sloadp rfl rfl rfl rfl ?_); (refine slenm rfl rfl ?_); (refine slss rfl rfl ?_); (refine smove rfl ?_); (refine sg (gq_vf rfl rfl) (fun he => ap_field_p (rq_p rfl rfl) rfl rfl) ?_); (refine sg (gq_vf rfl rfl) (fun he => ap_load_p (rq_c rfl rfl) rfl rfl rfl) ?_); (refine sg (gq_vf rfl rfl) (fun he => ap_len_m rfl (rq_c rfl rfl)) ?_); (refine sg (gq_vf rfl rfl) (fun he => ap_gtr (rq_c rfl rfl) (rq_p rfl rfl)) ?_); (refine su (ap_or (rq_p rfl rfl) (rq_c rfl rfl)) ?_); apply jW) | (refine WP.regionC ?_; (refine sassign rfl ?_); apply jW) | refine ret_b rfl ?_))
  · simp [validF]; omega
  refine wp_loop (fun (i : Nat) => i ≤ f.rules.length ∧ rulesTo f i) (fun i => f.rules.length - i)
    (fun i => (S 159 [(1, .ptr 0 3 0 0), (3, boolA (startTo f i)), (4, intA (i : Nat))] 1 [(0, some (.arr 3 [fileA f]))])) 0 ⟨[0], ToR.S rfl (by repeat' (first | exact rt_nil | refine rt_t rfl rfl ?_ | refine rt_e rfl rfl ?_)) (by repeat' (first | exact ro_nil | refine ro_p rfl (by first | exact rfl | fail) (by first | (simp [bdL, bdL_append, AV.bd]; done) | fail) ?_)) rfl (by (rw [hm]; exact rfl)) rfl (by (simp [bdT, AV.bd, bdL, bdL_append]; done)) (by repeat' (first | exact True.intro | refine And.intro ?_ ?_ | (simp [bdOq, bdL, bdL_append, AV.bd]; done))) (by (rw [hm]; exact Nat.le_of_ble_eq_true rfl))⟩ ⟨Nat.zero_le _, fun j hj => absurd hj (Nat.not_lt_zero _)⟩ ?_
  rintro i ⟨hi, hall⟩
  by_cases hlt : i < f.rules.length
  · have hrf := hf3 _ (nth_mem hlt)
    have hns : (nth f.rules i).name.size ≤ 9223372036854775807 := hrf.1
    have hal : (nth f.rules i).alts.length ≤ 9223372036854775807 := by
      have := hl; simp [AV.lens, lensL, fileA, levelsA, grulesA, lensL_map] at this
      have := this.2.2.2 _ (nth_mem hlt)
      simp [gruleA, AV.lens, lensL, altsA] at this
      omega
    (repeat' (first | apply jA | apply jF | apply jH | apply jI | apply jK | apply jM | apply jO | apply jS | (refine wp_cond rfl (fun hc => ?_) (fun hc => ?_) <;> (try simp only [sB, ne_eq, reduceCtorEq] at hc) <;> (try (exfalso; omega))) | (refine WP.regionC (id := 5) ?_; (refine smove rfl ?_); (refine sfieldp rfl rfl rfl ?_); (refine sloadp rfl rfl rfl rfl ?_); (refine slenm rfl rfl ?_); (refine slss rfl rfl ?_); apply jW) | (refine WP.regionC (id := 7) ?_; (refine sfieldp rfl rfl rfl ?_); (refine sloadp rfl rfl rfl rfl ?_); (refine smove rfl ?_); (refine sidxn rfl rfl (by omega) ?_); (refine sloadw rfl rfl ?_); (refine se_alloc rfl ?_); (refine se_store_b rfl rfl rfl rfl ?_); apply jW) | (refine WP.regionC (id := 8) ?_; (refine smove rfl ?_); (refine smove rfl ?_); (refine sg (gq_vf rfl rfl) (fun he => ap_field_p (rq_p rfl rfl) rfl rfl) ?_); (refine sg (gq_vf rfl rfl) (fun he => ap_load_p (rq_c rfl rfl) rfl rfl rfl) ?_); (refine sg (gq_vf rfl rfl) (fun he => ap_field_p (rq_p rfl rfl) rfl rfl) ?_); (refine sg (gq_vf rfl rfl) (fun he => ap_load_p (rq_c rfl rfl) rfl rfl rfl) ?_); (refine sg (gq_vf rfl rfl) (fun he => ap_eqs (rq_c rfl rfl) (rq_c rfl rfl)) ?_); (refine su (ap_or (rq_p rfl rfl) (rq_c rfl rfl)) ?_); (refine sassign rfl ?_); apply jW) | (refine WP.regionC (id := 9) ?_; (refine sfieldp rfl rfl rfl ?_); (refine sloadp rfl rfl rfl rfl ?_); (refine sc_p rfl rfl (by first | ((repeat' first | exact SubL.nil | refine SubL.cons ?_ ?_ | exact Sub.refl); done) | fail) (by first | (simp [bdL, bdL_append, AV.bd]; done) | fail) (rname_fn _ (by assumption)) ?_); (refine su (anot rfl) ?_); (refine smove rfl ?_); (refine sg (gq_vf rfl rfl) (fun he => ap_field_p (rq_p rfl rfl) rfl rfl) ?_); (refine sg (gq_vf rfl rfl) (fun he => ap_load_p (rq_c rfl rfl) rfl rfl rfl) ?_); (refine sg (gq_vf rfl rfl) (fun he => ap_len_m rfl (rq_c rfl rfl)) ?_); (refine sg (gq_vf rfl rfl) (fun he => ap_eql (rq_c rfl rfl) (rq_p rfl rfl)) ?_); (refine su (ap_or (rq_p rfl rfl) (rq_c rfl rfl)) ?_); apply jW) | (refine WP.regionC ?_; (refine sassign rfl ?_); apply jW) | refine ret_b rfl ?_))
    · rcases hc with hc | hc
      · rw [rules_no1 hlt hc]
      · rw [rules_no3 hlt (by unfold gruleOk; rw [show (nth f.rules i).alts = [] from List.eq_nil_of_length_eq_zero (by omega)]; rfl)]
    have hnm : gnOk (nth f.rules i).name = true := hc.1
    have hne : ¬ (nth f.rules i).alts.length = 0 := by omega
    rw [← startTo_succ hlt]
    refine wp_loop (fun (k : Nat) => k ≤ i ∧ ∀ j, j < k → (nth f.rules j).name ≠ (nth f.rules i).name) (fun k => i - k)
      (fun k => (S 159 [(1, .ptr 0 3 0 0), (3, boolA (startTo f (i + 1))), (4, intA (i : Nat)), (5, .ptr 1 2 0 0), (6, intA (k : Nat))] 2 [(0, some (.arr 3 [fileA f])), (1, some (.arr 2 [gruleA (nth f.rules i)]))])) 0 ⟨[0, 1], ToR.S rfl (by repeat' (first | exact rt_nil | refine rt_t rfl rfl ?_ | refine rt_e rfl rfl ?_)) (by repeat' (first | exact ro_nil | refine ro_p rfl (by first | exact rfl | fail) (by first | (simp [bdL, bdL_append, AV.bd]; done) | fail) ?_)) rfl (by (rw [hm]; exact rfl)) rfl (by (simp [bdT, AV.bd, bdL, bdL_append]; done)) (by repeat' (first | exact True.intro | refine And.intro ?_ ?_ | (simp [bdOq, bdL, bdL_append, AV.bd]; done))) (by (rw [hm]; exact Nat.le_of_ble_eq_true rfl))⟩ ⟨Nat.zero_le _, fun j hj => absurd hj (Nat.not_lt_zero _)⟩ ?_
    rintro k ⟨hk, hnd⟩
    by_cases hki : k < i
    · (repeat' (first | apply jA | apply jF | apply jH | apply jI | apply jK | apply jM | apply jN | apply jO | apply jS | (refine wp_cond rfl (fun hc => ?_) (fun hc => ?_) <;> (try simp only [sB, ne_eq, reduceCtorEq] at hc) <;> (try (exfalso; omega))) | (refine WP.regionC (id := 12) ?_; (refine smove rfl ?_); (refine smove rfl ?_); (refine slss rfl rfl ?_); apply jW) | (refine wp_draw (id := 14) 9 mixed (by kernel_rfl) (by kernel_rfl) rfl ?_ <;> (refine rfieldp rfl rfl rfl ?_) <;> (refine rloadp rfl rfl rfl rfl ?_) <;> (refine rmove rfl ?_) <;> (refine rd_u rfl rfl (aidxn rfl rfl (by omega)) ?_) <;> (refine rd_u rfl rfl (afieldi rfl rfl rfl) ?_) <;> (refine rd_u rfl rfl (aloadi rfl rfl) ?_) <;> (refine rfieldp rfl rfl rfl ?_) <;> (refine rloadp rfl rfl rfl rfl ?_) <;> (refine rd_u rfl rfl (aeqs rfl rfl) ?_) <;> (refine rd_end (by kernel_rfl) ?_)) | (refine WP.regionC (id := 15) ?_; (refine sassign rfl ?_); apply jW) | (refine WP.regionC (id := 13) ?_; (refine smove rfl ?_); (refine sadd rfl rfl (by exact inr_i64_of (by omega)) ?_); (refine sassign rfl ?_); apply jW) | refine ret_b rfl ?_))
      · rw [rules_no2 hlt hki hc]
      · refine ⟨k + 1, ⟨by omega, by omega, fun j hj => ?_⟩, ⟨[0, 1], ToR.S rfl (by repeat' (first | exact rt_nil | refine rt_t rfl rfl ?_ | refine rt_e rfl rfl ?_)) (by repeat' (first | exact ro_nil | refine ro_p rfl (by first | exact rfl | fail) (by first | (simp [bdL, bdL_append, AV.bd]; done) | fail) ?_)) rfl (by (rw [hm]; exact rfl)) rfl (by (simp [bdT, AV.bd, bdL, bdL_append]; done)) (by repeat' (first | exact True.intro | refine And.intro ?_ ?_ | (simp [bdOq, bdL, bdL_append, AV.bd]; done))) (by (rw [hm]; exact Nat.le_of_ble_eq_true rfl))⟩⟩
        by_cases h : j = k
        · subst h; exact hc
        · exact hnd j (by omega)
    obtain rfl : k = i := by omega
    (repeat' (first | apply jA | apply jF | apply jH | apply jJ | apply jL | apply jP | (refine wp_cond rfl (fun hc => ?_) (fun hc => ?_) <;> (try simp only [sB, ne_eq, reduceCtorEq] at hc) <;> (try (exfalso; omega))) | (refine WP.regionC (id := 12) ?_; (refine smove rfl ?_); (refine smove rfl ?_); (refine slss rfl rfl ?_); apply jW) | (refine WP.regionC (id := 16) ?_; (refine sassign rfl ?_); apply jW)))
    refine wp_loop (fun (m : Nat) => m ≤ (nth f.rules k).alts.length ∧ ((nth f.rules k).alts.take m).all altOk = true) (fun m => (nth f.rules k).alts.length - m)
      (fun m => (S 159 [(1, .ptr 0 3 0 0), (3, boolA (startTo f (k + 1))), (4, intA (k : Nat)), (5, .ptr 1 2 0 0), (7, intA (m : Nat))] 2 [(0, some (.arr 3 [fileA f])), (1, some (.arr 2 [gruleA (nth f.rules k)]))])) 0 ⟨[0, 1], ToR.S rfl (by repeat' (first | exact rt_nil | refine rt_t rfl rfl ?_ | refine rt_e rfl rfl ?_)) (by repeat' (first | exact ro_nil | refine ro_p rfl (by first | exact rfl | fail) (by first | (simp [bdL, bdL_append, AV.bd]; done) | fail) ?_)) rfl (by (rw [hm]; exact rfl)) rfl (by (simp [bdT, AV.bd, bdL, bdL_append]; done)) (by repeat' (first | exact True.intro | refine And.intro ?_ ?_ | (simp [bdOq, bdL, bdL_append, AV.bd]; done))) (by (rw [hm]; exact Nat.le_of_ble_eq_true rfl))⟩ ⟨Nat.zero_le _, rfl⟩ ?_
    rintro m ⟨hm2, hall2⟩
    by_cases hml : m < (nth f.rules k).alts.length
    · have hbf := hrf.2 _ (nth_mem hml)
      have hE := rexpr_fn _ hbf 30 (by decide) (by decide)
      (repeat' (first | apply jA | apply jF | apply jH | apply jI | apply jK | apply jM | apply jN | apply jO | apply jS | (refine wp_cond rfl (fun hc => ?_) (fun hc => ?_) <;> (try simp only [sB, ne_eq, reduceCtorEq] at hc) <;> (try (exfalso; omega))) | (refine WP.regionC (id := 17) ?_; (refine smove rfl ?_); (refine sfieldp rfl rfl rfl ?_); (refine sloadp rfl rfl rfl rfl ?_); (refine slenm rfl rfl ?_); (refine slss rfl rfl ?_); apply jW) | (refine WP.regionC (id := 19) ?_; (refine sfieldp rfl rfl rfl ?_); (refine sloadp rfl rfl rfl rfl ?_); (refine smove rfl ?_); (refine sidxn rfl rfl (by omega) ?_); (refine sloadw rfl rfl ?_); (refine se_alloc rfl ?_); (refine se_store_b rfl rfl rfl rfl ?_); apply jW) | (refine WP.regionC (id := 20) ?_; (refine sfieldp rfl rfl rfl ?_); (refine sloadp rfl rfl rfl rfl ?_); (refine slss rfl rfl ?_); (refine smove rfl ?_); (refine sg (gq_vf rfl rfl) (fun he => ap_field_p (rq_p rfl rfl) rfl rfl) ?_); (refine sg (gq_vf rfl rfl) (fun he => ap_load_p (rq_c rfl rfl) rfl rfl rfl) ?_); (refine sg (gq_vf rfl rfl) (fun he => ap_gtr (rq_c rfl rfl) (rq_p rfl rfl)) ?_); (refine su (ap_or (rq_p rfl rfl) (rq_c rfl rfl)) ?_); (refine smove rfl ?_); (refine sg (gq_vf rfl rfl) (fun he => ap_field_p (rq_p rfl rfl) rfl rfl) ?_); (refine sg (gq_vf rfl rfl) (fun he => ap_load_p (rq_c rfl rfl) rfl rfl rfl) ?_); (refine sg_p (gq_vf rfl rfl) (fun he => ⟨(rq_p rfl rfl), (RqL.cons (rq_c rfl rfl) (RqL.cons (rq_p rfl rfl) (RqL.nil))), (by first | ((repeat' first | exact SubL.nil | refine SubL.cons ?_ ?_ | exact Sub.refl); done) | fail), (by first | (simp [bdL, bdL_append, AV.bd, AV.cells]; done) | fail), hE⟩) ?_); (refine sg (gq_vf rfl rfl) (fun he => ap_not (rq_c rfl rfl)) ?_); (refine su (ap_or (rq_p rfl rfl) (rq_c rfl rfl)) ?_); apply jW) | (refine WP.regionC (id := 21) ?_; (refine sassign rfl ?_); apply jW) | (refine WP.regionC (id := 18) ?_; (refine smove rfl ?_); (refine sadd rfl rfl (by exact inr_i64_of (by omega)) ?_); (refine sassign rfl ?_); apply jW) | refine ret_b rfl ?_))
      · rw [rules_no3 hlt (by unfold gruleOk; rw [all_nth_no (l := (nth f.rules k).alts) (f := altOk) (k := m) hml (altOk_no hc), Bool.and_false])]
      · exact ⟨m + 1, ⟨by omega, by omega, take_all_succ hml hall2 (altOk_iff.2 hc)⟩, ⟨[0, 1], ToR.S rfl (by repeat' (first | exact rt_nil | refine rt_t rfl rfl ?_ | refine rt_e rfl rfl ?_)) (by repeat' (first | exact ro_nil | refine ro_p rfl (by first | exact rfl | fail) (by first | (simp [bdL, bdL_append, AV.bd]; done) | fail) ?_)) rfl (by (rw [hm]; exact rfl)) rfl (by (simp [bdT, AV.bd, bdL, bdL_append]; done)) (by repeat' (first | exact True.intro | refine And.intro ?_ ?_ | (simp [bdOq, bdL, bdL_append, AV.bd]; done))) (by (rw [hm]; exact Nat.le_of_ble_eq_true rfl))⟩⟩
    have hra := all_of_take' (by omega) hall2
    (repeat' (first | apply jA | apply jH | apply jJ | apply jL | apply jN | apply jP | (refine wp_cond rfl (fun hc => ?_) (fun hc => ?_) <;> (try simp only [sB, ne_eq, reduceCtorEq] at hc) <;> (try (exfalso; omega))) | (refine WP.regionC (id := 17) ?_; (refine smove rfl ?_); (refine sfieldp rfl rfl rfl ?_); (refine sloadp rfl rfl rfl rfl ?_); (refine slenm rfl rfl ?_); (refine slss rfl rfl ?_); apply jW) | (refine WP.regionC (id := 6) ?_; (refine smove rfl ?_); (refine sadd rfl rfl (by exact inr_i64_of (by omega)) ?_); (refine sassign rfl ?_); apply jW)))
    refine ⟨k + 1, ⟨by omega, by omega, fun j hj => ?_⟩, ⟨[0], ToR.S rfl (by repeat' (first | exact rt_nil | refine rt_t rfl rfl ?_ | refine rt_e rfl rfl ?_)) (by repeat' (first | exact ro_nil | refine ro_p rfl (by first | exact rfl | fail) (by first | (simp [bdL, bdL_append, AV.bd]; done) | fail) ?_)) rfl (by (rw [hm]; exact rfl)) rfl (by (simp [bdT, AV.bd, bdL, bdL_append]; done)) (by repeat' (first | exact True.intro | refine And.intro ?_ ?_ | (simp [bdOq, bdL, bdL_append, AV.bd]; done))) (by (rw [hm]; exact Nat.le_of_ble_eq_true rfl))⟩⟩
    by_cases h : j = k
    · subst h
      refine ⟨⟨hnm, ?_⟩, hnd⟩
      unfold gruleOk
      rw [hra, decide_eq_false (by rintro e; rw [e] at hne; exact hne rfl)]; rfl
    · exact hall j (by omega)
  obtain rfl : i = f.rules.length := by omega
  obtain ⟨hr1, hr2⟩ := rules_yes hall
  (repeat' (first | apply jA | apply jF | apply jH | apply jJ | apply jL | apply jP | (refine wp_cond rfl (fun hc => ?_) (fun hc => ?_) <;> (try simp only [sB, ne_eq, reduceCtorEq] at hc) <;> (try (exfalso; omega))) | (refine WP.regionC (id := 5) ?_; (refine smove rfl ?_); (refine sfieldp rfl rfl rfl ?_); (refine sloadp rfl rfl rfl rfl ?_); (refine slenm rfl rfl ?_); (refine slss rfl rfl ?_); apply jW) | (refine WP.regionC ?_; (refine sassign rfl ?_); apply jW)))
  refine wp_nil 9 1 rfl ?_
  refine wp_loop (fun (j : Nat) => j ≤ f.levels.length ∧ (f.levels.take j).all glevelOk = true ∧ distOk (toks f j) = true) (fun j => f.levels.length - j)
    (fun j => (S 159 [(1, .ptr 0 3 0 0), (3, boolA (startTo f f.rules.length)), (9, .ref 1 1 0 (toks f j).length), (10, intA (j : Nat))] 2 [(0, some (.arr 3 [fileA f])), (1, some (.arr 1 ((toks f j).map strA)))])) 0 ⟨[0, 1], ToR.S rfl (by repeat' (first | exact rt_nil | refine rt_r rfl rfl ?_ | refine rt_t rfl rfl ?_ | refine rt_e rfl rfl ?_)) (by repeat' (first | exact ro_nil | refine ro_e rfl rfl ?_ | refine ro_p rfl (by first | exact rfl | fail) (by first | (simp [bdL, bdL_append, AV.bd]; done) | fail) ?_)) rfl (by (rw [hm]; exact rfl)) rfl (by (simp [bdT, AV.bd, bdL, bdL_append]; done)) (by repeat' (first | exact True.intro | exact rfl | refine And.intro ?_ ?_ | (simp [bdOq, bdL, bdL_append, AV.bd]; done))) (by (rw [hm]; exact Nat.le_of_ble_eq_true rfl))⟩ ⟨Nat.zero_le _, rfl, by simp [toks, distOk]⟩ ?_
  rintro j ⟨hj, hjall, hjd⟩
  have htm := toks_mono f hj
  by_cases hlt2 : j < f.levels.length
  · have htm2 := toks_mono f (k := j + 1) (by omega)
    rw [toks_succ hlt2, List.length_append] at htm2
    have hlf := hf2 _ (nth_mem hlt2)
    (repeat' (first | apply jA | apply jF | apply jH | apply jI | apply jK | apply jM | apply jO | apply jS | (refine wp_cond rfl (fun hc => ?_) (fun hc => ?_) <;> (try simp only [sB, ne_eq, reduceCtorEq] at hc) <;> (try (exfalso; omega))) | (refine WP.regionC (id := 24) ?_; (refine smove rfl ?_); (refine sfieldp rfl rfl rfl ?_); (refine sloadp rfl rfl rfl rfl ?_); (refine slenm rfl rfl ?_); (refine slss rfl rfl ?_); apply jW) | (refine WP.regionC (id := 26) ?_; (refine sfieldp rfl rfl rfl ?_); (refine sloadp rfl rfl rfl rfl ?_); (refine smove rfl ?_); (refine sidxn rfl rfl (by omega) ?_); (refine sloadw rfl rfl ?_); (refine se_alloc rfl ?_); (refine se_store_b rfl rfl rfl rfl ?_); apply jW) | (refine WP.regionC (id := 27) ?_; (refine sfieldp rfl rfl rfl ?_); (refine sloadp rfl rfl rfl rfl ?_); (refine slss rfl rfl ?_); (refine smove rfl ?_); (refine sg (gq_vf rfl rfl) (fun he => ap_field_p (rq_p rfl rfl) rfl rfl) ?_); (refine sg (gq_vf rfl rfl) (fun he => ap_load_p (rq_c rfl rfl) rfl rfl rfl) ?_); (refine sg (gq_vf rfl rfl) (fun he => ap_gtr (rq_c rfl rfl) (rq_p rfl rfl)) ?_); (refine su (ap_or (rq_p rfl rfl) (rq_c rfl rfl)) ?_); (refine smove rfl ?_); (refine sg (gq_vf rfl rfl) (fun he => ap_field_p (rq_p rfl rfl) rfl rfl) ?_); (refine sg (gq_vf rfl rfl) (fun he => ap_load_p (rq_c rfl rfl) rfl rfl rfl) ?_); (refine sg (gq_vf rfl rfl) (fun he => ap_len_m rfl (rq_c rfl rfl)) ?_); (refine sg (gq_vf rfl rfl) (fun he => ap_eql (rq_c rfl rfl) (rq_p rfl rfl)) ?_); (refine su (ap_or (rq_p rfl rfl) (rq_c rfl rfl)) ?_); apply jW) | (refine WP.regionC ?_; (refine sassign rfl ?_); apply jW) | refine ret_b rfl ?_))
    · rw [show validF f = false by simp only [validF, all_nth_no (l := f.levels) (f := glevelOk) (k := j) hlt2 (glevel_no (by omega)), Bool.and_false, Bool.false_and]]
    have hgl : glevelOk (nth f.levels j) = true := glevel_iff.2 (by omega)
    refine wp_loop (fun (k : Nat) => k ≤ (nth f.levels j).tokens.length ∧ distOk (toks2 f j k) = true) (fun k => (nth f.levels j).tokens.length - k)
      (fun k => (S 159 [(1, .ptr 0 3 0 0), (3, boolA (startTo f f.rules.length)), (9, .ref 1 1 0 (toks2 f j k).length), (10, intA (j : Nat)), (11, .ptr 2 2 0 0), (12, intA (k : Nat))] 3 [(0, some (.arr 3 [fileA f])), (1, some (.arr 1 ((toks2 f j k).map strA))), (2, some (.arr 2 [levelA (nth f.levels j)]))])) 0 ?_ ⟨Nat.zero_le _, by rw [toks2, List.take_zero, List.append_nil]; exact hjd⟩ ?_
    · rw [show toks2 f j 0 = toks f j by rw [toks2, List.take_zero, List.append_nil]]
      exact ⟨[0, 1, 2], ToR.S rfl (by repeat' (first | exact rt_nil | refine rt_r rfl rfl ?_ | refine rt_t rfl rfl ?_ | refine rt_e rfl rfl ?_)) (by repeat' (first | exact ro_nil | refine ro_p rfl (by first | exact rfl | fail) (by first | exact bdL_map (fun _ => by exact rfl) _ | (simp [bdL, bdL_append, AV.bd]; done) | fail) ?_)) rfl (by (rw [hm]; exact rfl)) rfl (by (simp [bdT, AV.bd, bdL, bdL_append]; done)) (by repeat' (first | exact True.intro | refine And.intro ?_ ?_ | exact bdL_map (fun _ => by exact rfl) _ | (simp [bdOq, bdL, bdL_append, AV.bd]; done))) (by (rw [hm]; exact Nat.le_of_ble_eq_true rfl))⟩
    rintro k ⟨hk, hkd⟩
    have hk2 : (toks2 f j k).length = (toks f j).length + k := by simp [toks2]; omega
    by_cases hkl : k < (nth f.levels j).tokens.length
    · have hsz : (nth (nth f.levels j).tokens k).size ≤ 9223372036854775807 := hlf _ (nth_mem hkl)
      (repeat' (first | apply jA | apply jF | apply jH | apply jI | (refine wp_cond rfl (fun hc => ?_) (fun hc => ?_) <;> (try simp only [sB, ne_eq, reduceCtorEq] at hc) <;> (try (exfalso; omega))) | (refine WP.regionC (id := 30) ?_; (refine smove rfl ?_); (refine sfieldp rfl rfl rfl ?_); (refine sloadp rfl rfl rfl rfl ?_); (refine slenm rfl rfl ?_); (refine slss rfl rfl ?_); apply jW) | (refine WP.regionC (id := 32) ?_; (refine sassign rfl ?_); apply jW)))
      refine wp_loop (fun (m : Nat) => m ≤ (toks2 f j k).length ∧ ∀ i, i < m → nth (toks2 f j k) i ≠ nth (nth f.levels j).tokens k) (fun m => (toks2 f j k).length - m)
        (fun m => (S 159 [(1, .ptr 0 3 0 0), (3, boolA (startTo f f.rules.length)), (9, .ref 1 1 0 (toks2 f j k).length), (10, intA (j : Nat)), (11, .ptr 2 2 0 0), (12, intA (k : Nat)), (13, intA (m : Nat))] 3 [(0, some (.arr 3 [fileA f])), (1, some (.arr 1 ((toks2 f j k).map strA))), (2, some (.arr 2 [levelA (nth f.levels j)]))])) 0 ⟨[0, 1, 2], ToR.S rfl (by repeat' (first | exact rt_nil | refine rt_r rfl rfl ?_ | refine rt_t rfl rfl ?_ | refine rt_e rfl rfl ?_)) (by repeat' (first | exact ro_nil | refine ro_p rfl (by first | exact rfl | fail) (by first | exact bdL_map (fun _ => by exact rfl) _ | (simp [bdL, bdL_append, AV.bd]; done) | fail) ?_)) rfl (by (rw [hm]; exact rfl)) rfl (by (simp [bdT, AV.bd, bdL, bdL_append]; done)) (by repeat' (first | exact True.intro | refine And.intro ?_ ?_ | exact bdL_map (fun _ => by exact rfl) _ | (simp [bdOq, bdL, bdL_append, AV.bd]; done))) (by (rw [hm]; exact Nat.le_of_ble_eq_true rfl))⟩ ⟨Nat.zero_le _, fun j hj => absurd hj (Nat.not_lt_zero _)⟩ ?_
      rintro m ⟨hm3, hmne⟩
      by_cases hml : m < (toks2 f j k).length
      · (repeat' (first | apply jA | apply jF | apply jH | apply jI | apply jK | apply jM | apply jN | apply jO | apply jS | (refine wp_cond rfl (fun hc => ?_) (fun hc => ?_) <;> (try simp only [sB, ne_eq, reduceCtorEq] at hc) <;> (try (exfalso; omega))) | (refine WP.regionC (id := 33) ?_; (refine smove rfl ?_); (refine smove rfl ?_); (refine su (alenr rfl rfl) ?_); (refine slss rfl rfl ?_); apply jW) | (refine wp_draw (id := 35) 10 mixed (by kernel_rfl) (by kernel_rfl) rfl ?_ <;> (refine rmove rfl ?_) <;> (refine rmove rfl ?_) <;> (refine rd_u rfl rfl (aidxrn rfl rfl (by omega)) ?_) <;> (refine rd_u rfl rfl (aloadpt rfl rfl (by omega) rfl) ?_) <;> (refine rfieldp rfl rfl rfl ?_) <;> (refine rloadp rfl rfl rfl rfl ?_) <;> (refine rmove rfl ?_) <;> (refine rd_u rfl rfl (aidxn rfl rfl (by omega)) ?_) <;> (refine rd_u rfl rfl (aloadw rfl rfl) ?_) <;> (refine rd_u rfl rfl (aeqs rfl rfl) ?_) <;> (refine rd_end (by kernel_rfl) ?_)) | (refine WP.regionC (id := 36) ?_; (refine sassign rfl ?_); apply jW) | (refine WP.regionC (id := 34) ?_; (refine smove rfl ?_); (refine sadd rfl rfl (by exact inr_i64_of (by omega)) ?_); (refine sassign rfl ?_); apply jW) | refine ret_b rfl ?_))
        · rw [toks2_no hlt2 hkl (.inr (hc ▸ nth_mem hml))]
        · refine ⟨m + 1, ⟨by omega, by omega, fun i hi => ?_⟩, ⟨[0, 1, 2], ToR.S rfl (by repeat' (first | exact rt_nil | refine rt_r rfl rfl ?_ | refine rt_t rfl rfl ?_ | refine rt_e rfl rfl ?_)) (by repeat' (first | exact ro_nil | refine ro_p rfl (by first | exact rfl | fail) (by first | exact bdL_map (fun _ => by exact rfl) _ | (simp [bdL, bdL_append, AV.bd]; done) | fail) ?_)) rfl (by (rw [hm]; exact rfl)) rfl (by (simp [bdT, AV.bd, bdL, bdL_append]; done)) (by repeat' (first | exact True.intro | refine And.intro ?_ ?_ | exact bdL_map (fun _ => by exact rfl) _ | (simp [bdOq, bdL, bdL_append, AV.bd]; done))) (by (rw [hm]; exact Nat.le_of_ble_eq_true rfl))⟩⟩
          by_cases h : i = m
          · subst h; exact hc
          · exact hmne i (by omega)
      obtain rfl : m = (toks2 f j k).length := by omega
      (repeat' (first | apply jA | apply jH | apply jI | apply jJ | apply jK | apply jL | apply jM | apply jN | apply jO | apply jP | apply jS | (refine wp_cond rfl (fun hc => ?_) (fun hc => ?_) <;> (try simp only [sB, ne_eq, reduceCtorEq] at hc) <;> (try (exfalso; omega))) | (refine WP.regionC (id := 33) ?_; (refine smove rfl ?_); (refine smove rfl ?_); (refine su (alenr rfl rfl) ?_); (refine slss rfl rfl ?_); apply jW) | (refine WP.regionC (id := 37) ?_; (refine sfieldp rfl rfl rfl ?_); (refine sloadp rfl rfl rfl rfl ?_); (refine smove rfl ?_); (refine sidxn rfl rfl (by omega) ?_); (refine sloadw rfl rfl ?_); (refine sc_p rfl rfl (by first | ((repeat' first | exact SubL.nil | refine SubL.cons ?_ ?_ | exact Sub.refl); done) | fail) (by first | (simp [bdL, bdL_append, AV.bd]; done) | fail) (rname_fn _ (by assumption)) ?_); (refine su (anot rfl) ?_); apply jW) | (refine WP.regionC (id := 38) ?_; (refine sassign rfl ?_); apply jW) | (refine WP.regionC (id := 39) ?_; (refine smove rfl ?_); (refine sfieldp rfl rfl rfl ?_); (refine sloadp rfl rfl rfl rfl ?_); (refine smove rfl ?_); (refine sidxn rfl rfl (by omega) ?_); (refine sloadw rfl rfl ?_); (refine se_lit (OpP.cons rfl (OpP.nil)) rfl rfl rfl rfl rfl rfl ?_); (refine se_app1 rfl rfl rfl rfl rfl rfl rfl rfl (by omega) ?_); (refine sassign rfl ?_); apply jW) | (refine WP.regionC (id := 31) ?_; (refine smove rfl ?_); (refine sadd rfl rfl (by exact inr_i64_of (by omega)) ?_); (refine sassign rfl ?_); apply jW) | refine ret_b rfl ?_))
      · rw [toks2_no hlt2 hkl (.inl hc)]
      · have e1 : toks2 f j (k + 1) = toks2 f j k ++ [nth (nth f.levels j).tokens k] := by rw [toks2, toks2, take_succ_nth hkl, List.append_assoc]
        refine ⟨k + 1, ⟨by omega, by omega, ?_⟩, ?_⟩
        · rw [e1]
          refine distOk_add hkd hc fun hx => ?_
          obtain ⟨i, hi, he⟩ := List.getElem_of_mem hx
          exact hmne i hi (by rw [nth_eq hi]; exact he)
        · rw [e1]
          exact ⟨[0, 4, 2], ToR.S rfl (by repeat' (first | exact rt_nil | refine rt_r rfl rfl ?_ | refine rt_t rfl rfl ?_ | refine rt_e rfl rfl ?_)) (by repeat' (first | exact ro_nil | refine ro_p rfl (by first | exact rfl | fail) (by first | exact bdL_map (fun _ => by exact rfl) _ | (simp [bdL, bdL_append, AV.bd]; done) | fail) ?_)) rfl (by (rw [hm]; exact rfl)) rfl (by (simp [bdT, AV.bd, bdL, bdL_append]; done)) (by repeat' (first | exact True.intro | refine And.intro ?_ ?_ | exact bdL_map (fun _ => by exact rfl) _ | (simp [bdOq, bdL, bdL_append, AV.bd]; done))) (by (rw [hm]; exact Nat.le_of_ble_eq_true rfl))⟩
    obtain rfl : k = (nth f.levels j).tokens.length := by omega
    have e2 : toks2 f j (nth f.levels j).tokens.length = toks f (j + 1) := by rw [toks2, List.take_of_length_le (Nat.le_refl _), toks_succ hlt2]
    rw [e2] at hkd
    rw [e2]
    (repeat' (first | apply jA | apply jH | apply jJ | apply jL | apply jN | apply jP | (refine wp_cond rfl (fun hc => ?_) (fun hc => ?_) <;> (try simp only [sB, ne_eq, reduceCtorEq] at hc) <;> (try (exfalso; omega))) | (refine WP.regionC (id := 30) ?_; (refine smove rfl ?_); (refine sfieldp rfl rfl rfl ?_); (refine sloadp rfl rfl rfl rfl ?_); (refine slenm rfl rfl ?_); (refine slss rfl rfl ?_); apply jW) | (refine WP.regionC (id := 25) ?_; (refine smove rfl ?_); (refine sadd rfl rfl (by exact inr_i64_of (by omega)) ?_); (refine sassign rfl ?_); apply jW)))
    exact ⟨j + 1, ⟨by omega, by omega, take_all_succ hlt2 hjall hgl, hkd⟩, ⟨[0, 1], ToR.S rfl (by repeat' (first | exact rt_nil | refine rt_r rfl rfl ?_ | refine rt_t rfl rfl ?_ | refine rt_e rfl rfl ?_)) (by repeat' (first | exact ro_nil | refine ro_p rfl (by first | exact rfl | fail) (by first | exact bdL_map (fun _ => by exact rfl) _ | (simp [bdL, bdL_append, AV.bd]; done) | fail) ?_)) rfl (by (rw [hm]; exact rfl)) rfl (by (simp [bdT, AV.bd, bdL, bdL_append]; done)) (by repeat' (first | exact True.intro | refine And.intro ?_ ?_ | exact bdL_map (fun _ => by exact rfl) _ | (simp [bdOq, bdL, bdL_append, AV.bd]; done))) (by (rw [hm]; exact Nat.le_of_ble_eq_true rfl))⟩⟩
  obtain rfl : j = f.levels.length := by omega
  have hls := all_of_take' (by omega) hjall
  (repeat' (first | apply jA | apply jH | apply jJ | apply jK | apply jL | apply jP | apply jS | (refine wp_cond rfl (fun hc => ?_) (fun hc => ?_) <;> (try simp only [sB, ne_eq, reduceCtorEq] at hc) <;> (try (exfalso; omega))) | (refine WP.regionC (id := 24) ?_; (refine smove rfl ?_); (refine sfieldp rfl rfl rfl ?_); (refine sloadp rfl rfl rfl rfl ?_); (refine slenm rfl rfl ?_); (refine slss rfl rfl ?_); apply jW) | (refine WP.regionC (id := 40) ?_; (refine smove rfl ?_); (refine sassign rfl ?_); apply jW) | refine ret_b rfl ?_))
  have a1 : decide (1 ≤ f.rules.length) = true := decide_eq_true (by omega)
  have a2 : decide (f.rules.length ≤ 120) = true := decide_eq_true (by omega)
  simp only [validF, a1, a2, hr1, hr2, hls, hjd, start_any, Bool.true_and]
end Go.Lg

namespace Go.Lg
open Go.Proofs
set_option linter.unusedSimpArgs false
set_option linter.unusedVariables false
attribute [local irreducible] Ap Rq asemC WP RunD Ret Gq thenA inBlockA bodyQ noGotoA RqL RqP OpP
set_option maxHeartbeats 4000000
set_option maxRecDepth 20000
attribute [local simp] AV.cells
theorem index19_fn (l : List ByteArray) (s : ByteArray) : Fn Tryd.prog 34 [strsA l, strA s] (intA (idx l s)) := by
  refine Fn.intro rfl (by kernel_rfl) Tryd.func34 rfl rfl Tryd.ntmps34 (by exact Nat.le_of_ble_eq_true rfl) ?_; intro Γ hm
  refine wp_lens 0 rfl fun h0 => ?_
  rw [lens_strsA] at h0
  (repeat' (first | apply jA | apply jF | apply jH | (refine WP.regionC ?_; (refine sassign rfl ?_); apply jW)))
  refine wp_loop (fun k => k ≤ l.length ∧ (l.take k).any (fun x => decide (s = x)) = false) (fun k => l.length - k) (fun k => (S 19 [(0, strsA l), (1, strA s), (5, intA (k : Nat))] 0 [])) 0 ⟨[], ToR.S rfl (by repeat' (first | exact rt_nil | refine rt_e rfl rfl ?_ | refine rt_p rfl rfl (by first | (simp [AV.bd, bdL, bdL_append]; done) | fail) ?_)) (by repeat' (exact ro_nil)) rfl (by (rw [hm]; exact rfl)) rfl (by (simp [bdT, AV.bd, bdL, bdL_append]; done)) (by repeat' (exact True.intro)) (by (rw [hm]; exact Nat.le_of_ble_eq_true rfl))⟩ ⟨Nat.zero_le _, rfl⟩ ?_
  rintro k ⟨hk, hall⟩
  (repeat' (first | apply jA | apply jF | apply jH | apply jI | apply jJ | apply jK | apply jL | apply jM | apply jN | apply jO | apply jP | apply jS | (refine wp_cond rfl (fun hc => ?_) (fun hc => ?_) <;> (try simp only [sB, ne_eq, reduceCtorEq] at hc) <;> (try (exfalso; omega))) | (refine WP.regionC (id := 2) ?_; (refine smove rfl ?_); (refine smove rfl ?_); (refine slenm rfl rfl ?_); (refine slss rfl rfl ?_); apply jW) | (refine WP.regionC (id := 4) ?_; (refine smove rfl ?_); (refine smove rfl ?_); (refine sidxn rfl rfl (by omega) ?_); (refine sloadw rfl rfl ?_); (refine smove rfl ?_); (refine seqs rfl rfl ?_); apply jW) | (refine WP.regionC (id := 5) ?_; (refine smove rfl ?_); (refine sassign rfl ?_); apply jW) | (refine WP.regionC (id := 3) ?_; (refine smove rfl ?_); (refine sadd rfl rfl (by exact inr_i64_of (by omega)) ?_); (refine sassign rfl ?_); apply jW) | (refine WP.regionC (id := 6) ?_; (refine sassign rfl ?_); apply jW) | refine ret_i rfl ?_))
  · unfold idx
    rw [indexP_at (k := k) (by omega) hall (by rw [decide_eq_true_eq]; (symm; assumption))]
  · exact ⟨k + 1, ⟨by omega, by omega, take_any_succ (by omega) hall (by rw [decide_eq_false_iff_not]; intro h; simp_all)⟩, ⟨[], ToR.S rfl (by repeat' (first | exact rt_nil | refine rt_e rfl rfl ?_ | refine rt_p rfl rfl (by first | (simp [AV.bd, bdL, bdL_append]; done) | fail) ?_)) (by repeat' (exact ro_nil)) rfl (by (rw [hm]; exact rfl)) rfl (by (simp [bdT, AV.bd, bdL, bdL_append]; done)) (by repeat' (exact True.intro)) (by (rw [hm]; exact Nat.le_of_ble_eq_true rfl))⟩⟩
  · exact (indexP_no (by omega) hall).symm
abbrev ruleNames (f : GFi) : List ByteArray := f.rules.map GRu.name
theorem rules19_fn (f : GFi) (hl : f.rules.length ≤ 100000) : Fn Tryd.prog 32 [fileA f] (strsA (ruleNames f)) := by
  unfold fileA grulesA
  refine Fn.intro (by simp [AV.bd, bdL, bdL_append]) (by kernel_rfl) Tryd.func32 rfl rfl Tryd.ntmps32 (by exact Nat.le_of_ble_eq_true rfl) ?_; intro Γ hm
  (repeat' (first | apply jA | apply jF | apply jH | (refine WP.regionC (id := 0) ?_; (refine se_box rfl (by exact ⟨rfl, rfl⟩) ?_); (refine sassign rfl ?_); apply jW) | (refine WP.regionC ?_; (refine sassign rfl ?_); apply jW)))
  refine wp_nil 3 1 rfl ?_
  refine wp_loop (fun k => k ≤ f.rules.length) (fun k => f.rules.length - k) (fun k => (S 22 [(1, .ptr 0 3 0 0), (3, .ref 1 1 0 ((ruleNames f).take k).length), (4, intA (k : Nat))] 2 [(0, some (.arr 3 [fileA f])), (1, some (.arr 1 (((ruleNames f).take k).map strA)))])) 0 ⟨[0, 1], ToR.S rfl (by repeat' (first | exact rt_nil | refine rt_r rfl rfl ?_ | refine rt_t rfl rfl ?_ | refine rt_e rfl rfl ?_)) (by repeat' (first | exact ro_nil | refine ro_e rfl rfl ?_ | refine ro_p rfl (by first | exact rfl | fail) (by first | (simp [bdL, bdL_append, AV.bd]; done) | fail) ?_)) rfl (by (rw [hm]; exact rfl)) rfl (by (simp [bdT, AV.bd, bdL, bdL_append]; done)) (by repeat' (first | exact True.intro | exact rfl | refine And.intro ?_ ?_ | (simp [bdOq, bdL, bdL_append, AV.bd]; done))) (by (rw [hm]; exact Nat.le_of_ble_eq_true rfl))⟩ (Nat.zero_le _) ?_
  rintro k hk
  have hn : (ruleNames f).length = f.rules.length := by simp [ruleNames]
  unfold fileA grulesA
  by_cases h : k < f.rules.length
  · have e : (ruleNames f).take (k + 1) = (ruleNames f).take k ++ [(nth f.rules k).name] := by
      rw [take_succ_nth (by omega)]
      congr 1
      simp [ruleNames, nth_map GRu.name h]
    have hb : ((ruleNames f).take k).length ≤ 100000 := by simp; omega
    generalize hq : (ruleNames f).take k = q at *
    (repeat' (first | apply jA | apply jF | apply jH | apply jI | apply jN | (refine wp_cond rfl (fun hc => ?_) (fun hc => ?_) <;> (try simp only [sB, ne_eq, reduceCtorEq] at hc) <;> (try (exfalso; omega))) | (refine WP.regionC (id := 3) ?_; (refine smove rfl ?_); (refine sfieldp rfl rfl rfl ?_); (refine sloadp rfl rfl rfl rfl ?_); (refine slenm rfl rfl ?_); (refine slss rfl rfl ?_); apply jW) | (refine WP.regionC (id := 5) ?_; (refine smove rfl ?_); (refine sfieldp rfl rfl rfl ?_); (refine sloadp rfl rfl rfl rfl ?_); (refine smove rfl ?_); (refine sidxn rfl rfl (by omega) ?_); (refine su (afieldi rfl rfl rfl) ?_); (refine su (aloadi rfl rfl) ?_); (refine se_lit (OpP.cons rfl (OpP.nil)) rfl rfl rfl rfl rfl rfl ?_); (refine se_app1 rfl rfl rfl rfl rfl rfl rfl rfl (by omega) ?_); (refine sassign rfl ?_); apply jW) | (refine WP.regionC (id := 4) ?_; (refine smove rfl ?_); (refine sadd rfl rfl (by exact inr_i64_of (by omega)) ?_); (refine sassign rfl ?_); apply jW)))
    refine ⟨k + 1, ⟨by omega, by omega⟩, ?_⟩
    rw [e, List.length_append, List.map_append]
    exact ⟨[0, 3], ToR.S rfl (by repeat' (first | exact rt_nil | refine rt_r rfl rfl ?_ | refine rt_t rfl rfl ?_ | refine rt_e rfl rfl ?_)) (by repeat' (first | exact ro_nil | refine ro_p rfl (by first | exact rfl | fail) (by first | (simp [bdL, bdL_append, AV.bd]; done) | fail) ?_)) rfl (by (rw [hm]; exact rfl)) rfl (by (simp [bdT, AV.bd, bdL, bdL_append]; done)) (by repeat' (first | exact True.intro | refine And.intro ?_ ?_ | (simp [bdOq, bdL, bdL_append, AV.bd]; done))) (by (rw [hm]; exact Nat.le_of_ble_eq_true rfl))⟩
  · have : k = f.rules.length := by omega
    subst this
    rw [← hn, List.take_length]
    (repeat' (first | apply jA | apply jH | apply jJ | apply jK | apply jL | apply jP | apply jS | (refine wp_cond rfl (fun hc => ?_) (fun hc => ?_) <;> (try simp only [sB, ne_eq, reduceCtorEq] at hc) <;> (try (exfalso; omega))) | (refine WP.regionC (id := 3) ?_; (refine smove rfl ?_); (refine sfieldp rfl rfl rfl ?_); (refine sloadp rfl rfl rfl rfl ?_); (refine slenm rfl rfl ?_); (refine slss rfl rfl ?_); apply jW) | (refine WP.regionC (id := 6) ?_; (refine smove rfl ?_); (refine sassign rfl ?_); apply jW) | refine ret_sl rfl rfl rfl (fun _ => by exact rfl) (fun _ => rfl) ?_))
    rfl
def knownE (l : List ByteArray) : GEx → Bool
  | .mk k n ks => !(decide (k = 1) && decide (idx l n < 0)) && knownL l ks
where knownL (l : List ByteArray) : List GEx → Bool
  | [] => true
  | e :: r => knownE l e && knownL l r
theorem knownL_all (l : List ByteArray) : ∀ r : List GEx, knownE.knownL l r = r.all (knownE l)
  | [] => by rw [knownE.knownL]; rfl
  | e :: r => by rw [knownE.knownL, knownL_all l r]; rfl
theorem knownE_mk (l : List ByteArray) (k : Int) (n : ByteArray) (ks : List GEx) : knownE l (.mk k n ks) = (!(decide (k = 1) && decide (idx l n < 0)) && ks.all (knownE l)) := by rw [knownE, knownL_all]
theorem known19_fn (l : List ByteArray) (e : GEx) : Fn Tryd.prog 33 [exprA e, strsA l] (boolA (knownE l e)) := by
  induction e using GEx.ind with
  | h e ih =>
    cases e with
    | mk k n ks =>
      rw [exprA_mkJ, knownE_mk]
      have ih : ∀ x, x ∈ ks → Fn Tryd.prog 33 [exprA x, strsA l] (boolA (knownE l x)) := ih
      refine Fn.intro rfl (by kernel_rfl) Tryd.func33 rfl rfl Tryd.ntmps33 (by exact Nat.le_of_ble_eq_true rfl) ?_; intro Γ hm
      refine wp_lens 0 rfl fun hl => ?_
      have hl : ks.length ≤ 9223372036854775807 := by have := hl; simp [AV.lens, lensL] at this; omega
      (repeat' (first | apply jA | apply jF | apply jH | apply jI | apply jK | apply jM | apply jS | (refine wp_cond rfl (fun hc => ?_) (fun hc => ?_) <;> (try simp only [sB, ne_eq, reduceCtorEq] at hc) <;> (try (exfalso; omega))) | (refine WP.regionC (id := 0) ?_; (refine se_box rfl (by exact ⟨rfl, rfl⟩) ?_); (refine sassign rfl ?_); apply jW) | (refine WP.regionC (id := 1) ?_; (refine sfieldp rfl rfl rfl ?_); (refine sloadp rfl rfl rfl rfl ?_); (refine seql rfl rfl ?_); (refine smove rfl ?_); (refine sg (gq_vt rfl rfl) (fun he => ap_move (rq_p rfl rfl)) ?_); (refine sg (gq_vt rfl rfl) (fun he => ap_field_p (rq_p rfl rfl) rfl rfl) ?_); (refine sg (gq_vt rfl rfl) (fun he => ap_load_p (rq_c rfl rfl) rfl rfl rfl) ?_); (refine sg_p (gq_vt rfl rfl) (fun he => ⟨(rq_p rfl rfl), (RqL.cons (rq_c rfl rfl) (RqL.cons (rq_c rfl rfl) (RqL.nil))), (by first | ((repeat' first | exact SubL.nil | refine SubL.cons ?_ ?_ | exact Sub.refl); done) | fail), (by first | (simp [bdL, bdL_append, AV.bd]; done) | fail), index19_fn _ _⟩) ?_); (refine sg (gq_vt rfl rfl) (fun he => ap_lss (rq_c rfl rfl) (rq_p rfl rfl)) ?_); (refine su (ap_and (rq_p rfl rfl) (rq_c rfl rfl)) ?_); apply jW) | (refine WP.regionC ?_; (refine sassign rfl ?_); apply jW) | refine ret_b rfl ?_))
      · simp [hc.1, hc.2]
      have hq : (!(decide (k = 1) && decide (idx l n < 0))) = true := by
        rcases hc with h | h
        · simp [h]
        · have : ¬ idx l n < 0 := by omega
          simp [this]
      rw [hq, Bool.true_and]
      refine wp_loop (fun i => i ≤ ks.length ∧ (ks.take i).all (knownE l) = true) (fun i => ks.length - i) (fun i => (S 31 [(1, strsA l), (2, .ptr 0 3 0 0), (5, intA (i : Nat))] 1 [(0, some (.arr 3 [.agg [intA k, strA n, .sl 3 (ks.map exprA)]]))])) 0 ⟨[0], ToR.S rfl (by repeat' (first | exact rt_nil | refine rt_t rfl rfl ?_ | refine rt_e rfl rfl ?_ | refine rt_p rfl rfl (by first | (simp [AV.bd, bdL, bdL_append]; done) | fail) ?_)) (by repeat' (first | exact ro_nil | refine ro_p rfl (by first | exact rfl | fail) (by first | (simp [bdL, bdL_append, AV.bd]; done) | fail) ?_)) rfl (by (rw [hm]; exact rfl)) rfl (by (simp [bdT, AV.bd, bdL, bdL_append]; done)) (by repeat' (first | exact True.intro | refine And.intro ?_ ?_ | (simp [bdOq, bdL, bdL_append, AV.bd]; done))) (by (rw [hm]; exact Nat.le_of_ble_eq_true rfl))⟩ ⟨Nat.zero_le _, rfl⟩ ?_
      rintro i ⟨hi, hall⟩
      (repeat' (first | apply jA | apply jF | apply jH | apply jI | apply jJ | apply jK | apply jL | apply jM | apply jN | apply jO | apply jP | apply jS | (refine wp_cond rfl (fun hc => ?_) (fun hc => ?_) <;> (try simp only [sB, ne_eq, reduceCtorEq] at hc) <;> (try (exfalso; omega))) | (refine WP.regionC (id := 4) ?_; (refine smove rfl ?_); (refine sfieldp rfl rfl rfl ?_); (refine sloadp rfl rfl rfl rfl ?_); (refine slenm rfl rfl ?_); (refine slss rfl rfl ?_); apply jW) | (refine WP.regionC (id := 6) ?_; (refine sfieldp rfl rfl rfl ?_); (refine sloadp rfl rfl rfl rfl ?_); (refine smove rfl ?_); (refine sidxn rfl rfl (by omega) ?_); (refine sloadw rfl rfl ?_); (refine smove rfl ?_); (refine sc_p rfl rfl (by first | ((repeat' first | exact SubL.nil | refine SubL.cons ?_ ?_ | exact Sub.refl); done) | fail) (by first | (simp [bdL, bdL_append, AV.bd]; done) | fail) (ih _ (nth_mem (by omega))) ?_); (refine su (anot rfl) ?_); apply jW) | (refine WP.regionC ?_; (refine sassign rfl ?_); apply jW) | (refine WP.regionC (id := 5) ?_; (refine smove rfl ?_); (refine sadd rfl rfl (by exact inr_i64_of (by omega)) ?_); (refine sassign rfl ?_); apply jW) | refine ret_b rfl ?_))
      · rw [all_nth_no (k := i) (by omega) hc]
      · exact ⟨i + 1, ⟨by omega, by omega, take_all_succ (by omega) hall hc⟩, ⟨[0], ToR.S rfl (by repeat' (first | exact rt_nil | refine rt_t rfl rfl ?_ | refine rt_e rfl rfl ?_ | refine rt_p rfl rfl (by first | (simp [AV.bd, bdL, bdL_append]; done) | fail) ?_)) (by repeat' (first | exact ro_nil | refine ro_p rfl (by first | exact rfl | fail) (by first | (simp [bdL, bdL_append, AV.bd]; done) | fail) ?_)) rfl (by (rw [hm]; exact rfl)) rfl (by (simp [bdT, AV.bd, bdL, bdL_append]; done)) (by repeat' (first | exact True.intro | refine And.intro ?_ ?_ | (simp [bdOq, bdL, bdL_append, AV.bd]; done))) (by (rw [hm]; exact Nat.le_of_ble_eq_true rfl))⟩⟩
      · rw [all_of_take' (by omega) hall]
end Go.Lg

namespace Go.Lg
open Go.Proofs
set_option linter.unusedSimpArgs false
set_option linter.unusedVariables false
attribute [local irreducible] Ap Rq asemC WP RunD Ret Gq thenA inBlockA bodyQ noGotoA RqL RqP OpP
set_option maxHeartbeats 4000000
set_option maxRecDepth 20000
def termAt (l : List ByteArray) (i : Nat) : Bool := gnOk (nth l i) && decide (idx (l.take i) (nth l i) < 0)
def termsOk (l : List ByteArray) : Bool := (List.range l.length).all (termAt l)
theorem termsOk_no {l : List ByteArray} {i : Nat} (hi : i < l.length) (h : termAt l i = false) : termsOk l = false := by
  unfold termsOk
  rw [Bool.eq_false_iff]
  intro hh
  rw [List.all_eq_true] at hh
  have := hh i (List.mem_range.2 hi)
  rw [h] at this; cases this
theorem termsOk_yes {l : List ByteArray} (h : ∀ i, i < l.length → termAt l i = true) : termsOk l = true := by
  unfold termsOk
  rw [List.all_eq_true]
  exact fun i hi => h i (List.mem_range.1 hi)
theorem terms19_fn (l : List ByteArray) (hs : ∀ x, x ∈ l → x.size ≤ 9223372036854775807) : Fn Tryd.prog 31 [strsA l] (boolA (termsOk l)) := by
  refine Fn.intro rfl (by kernel_rfl) Tryd.func31 rfl rfl Tryd.ntmps31 (by exact Nat.le_of_ble_eq_true rfl) ?_; intro Γ hm
  refine wp_lens 0 rfl fun h0 => ?_
  rw [lens_strsA] at h0
  (repeat' (first | apply jA | apply jF | apply jH | (refine WP.regionC ?_; (refine sassign rfl ?_); apply jW)))
  refine wp_loop (fun i => i ≤ l.length ∧ ∀ j, j < i → termAt l j = true) (fun i => l.length - i) (fun i => (S 27 [(0, strsA l), (3, intA (i : Nat))] 0 [])) 0 ⟨[], ToR.S rfl (by repeat' (first | exact rt_nil | refine rt_e rfl rfl ?_ | refine rt_p rfl rfl (by first | (simp [AV.bd, bdL, bdL_append]; done) | fail) ?_)) (by repeat' (exact ro_nil)) rfl (by (rw [hm]; exact rfl)) rfl (by (simp [bdT, AV.bd, bdL, bdL_append]; done)) (by repeat' (exact True.intro)) (by (rw [hm]; exact Nat.le_of_ble_eq_true rfl))⟩ ⟨Nat.zero_le _, fun j hj => absurd hj (Nat.not_lt_zero j)⟩ ?_
  rintro i ⟨hi, hall⟩
  by_cases h : i < l.length
  · have hz := hs (nth l i) (nth_mem h)
    (repeat' (first | apply jA | apply jF | apply jH | apply jI | apply jK | apply jM | apply jN | apply jO | apply jS | (refine wp_cond rfl (fun hc => ?_) (fun hc => ?_) <;> (try simp only [sB, ne_eq, reduceCtorEq] at hc) <;> (try (exfalso; omega))) | (refine WP.regionC (id := 2) ?_; (refine smove rfl ?_); (refine smove rfl ?_); (refine slenm rfl rfl ?_); (refine slss rfl rfl ?_); apply jW) | (refine wp_draw (id := 4) 17 mixed (by kernel_rfl) (by kernel_rfl) rfl ?_ <;> (refine rmove rfl ?_) <;> (refine rmove rfl ?_) <;> (refine rd_u rfl rfl (aidxn rfl rfl (by omega)) ?_) <;> (refine rd_u rfl rfl (aloadw rfl rfl) ?_) <;> (refine rd_call rfl rfl (by first | ((repeat' first | exact SubL.nil | refine SubL.cons ?_ ?_ | exact Sub.refl); done) | fail) (by first | (simp [bdL, bdL_append, AV.bd]; done) | fail) (rname_fn _ (by assumption)) ?_) <;> (refine rd_u rfl rfl (anot rfl) ?_) <;> (refine rmove rfl ?_) <;> ((refine rd_split (t := 16) rfl (fun hc => ?_) (fun hc => ?_) <;> (try simp only [sB, ne_eq, reduceCtorEq] at hc) <;> (try (exfalso; omega)) <;> (first | refine rd_skip rfl rfl ?_ | refine gmove rfl rfl rfl ?_))) <;> (first | refine rd_skip rfl rfl ?_ | refine gmove rfl rfl rfl ?_) <;> (first | refine rd_skip rfl rfl ?_ | refine rdg_u rfl rfl rfl rfl (ap_slice_m (rq_p rfl rfl) (by exact bq_none) (by exact bq_some (rq_p rfl rfl)) (by omega)) ?_) <;> (first | refine rd_skip rfl rfl ?_ | refine gmove rfl rfl rfl ?_) <;> (first | refine rd_skip rfl rfl ?_ | refine gmove rfl rfl rfl ?_) <;> (first | refine rd_skip rfl rfl ?_ | refine rdg_u rfl rfl rfl rfl (aidxn rfl rfl (by omega)) ?_) <;> (first | refine rd_skip rfl rfl ?_ | refine rdg_u rfl rfl rfl rfl (aloadw rfl rfl) ?_) <;> (first | refine rd_skip rfl rfl ?_ | refine rdg_call rfl rfl rfl rfl (by first | ((repeat' first | exact SubL.nil | refine SubL.cons ?_ ?_ | exact Sub.refl); done) | fail) (by first | (simp [bdL, bdL_append, AV.bd]; done) | fail) (index19_fn _ _) ?_) <;> (first | refine rd_skip rfl rfl ?_ | refine rdg_u rfl rfl rfl rfl (ageq rfl rfl) ?_) <;> (first | refine rd_pick_t rfl rfl ?_ | refine rd_pick_f rfl rfl ?_) <;> (refine rd_end (by kernel_rfl) ?_)) | (refine WP.regionC (id := 5) ?_; (refine sassign rfl ?_); apply jW) | (refine WP.regionC (id := 3) ?_; (refine smove rfl ?_); (refine sadd rfl rfl (by exact inr_i64_of (by omega)) ?_); (refine sassign rfl ?_); apply jW) | refine ret_b rfl ?_))
    · rename_i hg
      rw [termsOk_no h (by unfold termAt; simp [hg])]
    · rename_i hg
      rw [termsOk_no h (by unfold termAt; simp [show ¬ idx (l.take i) (nth l i) < 0 by simpa using hc])]
    · rename_i hg
      refine ⟨i + 1, ⟨by omega, by omega, fun j hj => ?_⟩, ⟨[], ToR.S rfl (by repeat' (first | exact rt_nil | refine rt_e rfl rfl ?_ | refine rt_p rfl rfl (by first | (simp [AV.bd, bdL, bdL_append]; done) | fail) ?_)) (by repeat' (exact ro_nil)) rfl (by (rw [hm]; exact rfl)) rfl (by (simp [bdT, AV.bd, bdL, bdL_append]; done)) (by repeat' (exact True.intro)) (by (rw [hm]; exact Nat.le_of_ble_eq_true rfl))⟩⟩
      by_cases e : j = i
      · subst e
        have hc' : idx (l.take j) (nth l j) < 0 := by simpa using hc
        unfold termAt; simp [hg, hc']
      · exact hall j (by omega)
  · have : i = l.length := by omega
    subst this
    (repeat' (first | apply jA | apply jH | apply jJ | apply jK | apply jL | apply jP | apply jS | (refine wp_cond rfl (fun hc => ?_) (fun hc => ?_) <;> (try simp only [sB, ne_eq, reduceCtorEq] at hc) <;> (try (exfalso; omega))) | (refine WP.regionC (id := 2) ?_; (refine smove rfl ?_); (refine smove rfl ?_); (refine slenm rfl rfl ?_); (refine slss rfl rfl ?_); apply jW) | (refine WP.regionC (id := 6) ?_; (refine sassign rfl ?_); apply jW) | refine ret_b rfl ?_))
    rw [termsOk_yes hall]
end Go.Lg

namespace Go.Lg
open Go.Proofs
set_option linter.unusedSimpArgs false
set_option linter.unusedVariables false
attribute [local irreducible] Ap Rq asemC WP RunD Ret Gq thenA inBlockA bodyQ noGotoA RqL RqP OpP
set_option maxHeartbeats 4000000
set_option maxRecDepth 20000
attribute [local simp] AV.cells
def oneF (s : ByteArray) : GFi := ⟨s, [], [⟨s, [⟨.mk 2 ⟨#[]⟩ [], 0⟩]⟩]⟩
theorem valid_oneF (s : ByteArray) : validF (oneF s) = gnOk s := by
  unfold validF oneF
  simp [rnames, toks, distOk, gruleOk]
  intro _
  decide +kernel
theorem idx_any (l : List ByteArray) (s : ByteArray) : (l.any fun x => decide (s = x)) = !decide (idx l s < 0) := by
  unfold idx
  rw [← indexP_any, Bool.eq_iff_iff]
  simp only [decide_eq_true_eq, Bool.not_eq_true', decide_eq_false_iff_not]
  omega
theorem terminals_fn (l : List ByteArray) : Fn Tryd.prog 22 [strsA l] (boolA (termsOk l)) := by
  refine Fn.intro rfl (by kernel_rfl) Tryd.func22 rfl rfl Tryd.ntmps22 (by exact Nat.le_of_ble_eq_true rfl) ?_; intro Γ hm
  refine wp_lens 0 rfl fun h0 => ?_
  rw [lens_strsA] at h0
  (repeat' (first | apply jA | apply jF | apply jH | (refine WP.regionC (id := 0) ?_; (refine sassign rfl ?_); apply jW) | (refine WP.regionC (id := 1) ?_; (refine smove rfl ?_); (refine slenm rfl rfl ?_); (refine smove rfl ?_); apply jW)))
  refine wp_loop (fun i => i ≤ l.length ∧ ∀ j, j < i → termAt l j = true) (fun i => l.length - i) (fun i => (S 32 [(0, strsA l), (6, strsA l), (7, intA (l.length : Nat)), (8, intA (i : Nat))] 0 [])) 0 ⟨[], ToR.S rfl (by repeat' (first | exact rt_nil | refine rt_e rfl rfl ?_ | refine rt_p rfl rfl (by first | (simp [AV.bd, bdL, bdL_append]; done) | fail) ?_)) (by repeat' (exact ro_nil)) rfl (by (rw [hm]; exact rfl)) rfl (by (simp [bdT, AV.bd, bdL, bdL_append]; done)) (by repeat' (exact True.intro)) (by (rw [hm]; exact Nat.le_of_ble_eq_true rfl))⟩ ⟨Nat.zero_le _, fun j hj => absurd hj (Nat.not_lt_zero j)⟩ ?_
  rintro i ⟨hi, hall⟩
  by_cases h : i < l.length
  · have hv : Fn Tryd.prog 21 [fileA (oneF (nth l i))] (boolA (gnOk (nth l i))) := valid_oneF _ ▸ gvalid_fn _ (by simp [toks, oneF])
    (repeat' (first | apply jA | apply jF | apply jH | apply jI | apply jK | apply jM | apply jN | apply jO | apply jS | (refine wp_cond rfl (fun hc => ?_) (fun hc => ?_) <;> (try simp only [sB, ne_eq, reduceCtorEq] at hc) <;> (try (exfalso; omega))) | (refine WP.regionC (id := 2) ?_; (refine slss rfl rfl ?_); apply jW) | (refine WP.regionC (id := 3) ?_; (refine smove rfl ?_); (refine sidxn rfl rfl (by omega) ?_); (refine sloadw rfl rfl ?_); (refine sassign rfl ?_); (refine sassign rfl ?_); apply jW) | (refine WP.regionC (id := 4) ?_; (refine smove rfl ?_); (refine smove rfl ?_); (refine su (ap_build (RqP.cons (rq_p rfl rfl) (RqP.nil)) rfl) ?_); (refine su (ap_build (RqP.cons (rq_p rfl rfl) (RqP.nil)) rfl) ?_); (refine se_lit (OpP.cons rfl (OpP.nil)) rfl rfl rfl rfl rfl rfl ?_); (refine su (ap_build (RqP.cons (rq_p rfl rfl) (RqP.cons (rq_p rfl rfl) (RqP.nil))) rfl) ?_); (refine se_lit (OpP.cons rfl (OpP.nil)) rfl rfl rfl rfl rfl rfl ?_); (refine su (ap_build (RqP.cons (rq_p rfl rfl) (RqP.cons (rq_p rfl rfl) (RqP.nil))) rfl) ?_); (refine se_alloc rfl ?_); (refine se_store_b rfl rfl rfl rfl ?_); apply jW) | (refine WP.regionC (id := 5) ?_; (refine sloadpw rfl rfl rfl rfl ?_); (refine sc_b rfl rfl (by first | ((repeat' first | exact FzL.nil | refine FzL.cons ?_ ?_ | exact Fz.nil | (exact Fz.reflp (by simp [AV.bd, bdL, bdL_append])) | refine Fz.rowL rfl rfl rfl ?_ | refine Fz.aggL ?_); done) | fail) (hv) rfl ?_); (refine su (anot rfl) ?_); (refine smove rfl ?_); (refine sg (gq_vf rfl rfl) (fun he => ap_move (rq_p rfl rfl)) ?_); (refine sg (gq_vf rfl rfl) (fun he => ap_move (rq_p rfl rfl)) ?_); (refine sg (gq_vf rfl rfl) (fun he => ap_slice_m (rq_c rfl rfl) (by exact bq_none) (by exact bq_some (rq_c rfl rfl)) (by (try simp only [sH, id, sB, ne_eq, reduceCtorEq] at he); omega)) ?_); (refine sg (gq_vf rfl rfl) (fun he => ap_move (rq_p rfl rfl)) ?_); (refine sg_p (gq_vf rfl rfl) (fun he => ⟨(rq_p rfl rfl), (RqL.cons (rq_c rfl rfl) (RqL.cons (rq_c rfl rfl) (RqL.nil))), (by first | ((repeat' first | exact SubL.nil | refine SubL.cons ?_ ?_ | exact Sub.refl); done) | fail), (by first | (simp [bdL, bdL_append, AV.bd]; done) | fail), containsS_fn _ _⟩) ?_); (refine su (ap_or (rq_p rfl rfl) (rq_c rfl rfl)) ?_); apply jW) | (refine WP.regionC (id := 6) ?_; (refine sassign rfl ?_); apply jW) | (refine WP.regionC (id := 7) ?_; (refine sadd rfl rfl (by exact inr_i64_of (by omega)) ?_); (refine smove rfl ?_); apply jW) | refine ret_b rfl ?_))
    · have hc' : ¬ termAt l i = true := by
        unfold termAt
        rw [idx_any] at hc
        rcases hc with hc | hc
        · simp [hc]
        · simp only [Int.toNat_natCast] at hc
          simp only [Bool.and_eq_true, decide_eq_true_eq, not_and]
          intro _
          have : ¬ idx (l.take i) (nth l i) < 0 := by simpa using hc
          exact this
      rw [termsOk_no h (by simpa using hc')]
    · refine ⟨i + 1, ⟨by omega, by omega, fun j hj => ?_⟩, ⟨[], ToR.S rfl (by repeat' (first | exact rt_nil | refine rt_e rfl rfl ?_ | refine rt_p rfl rfl (by first | (simp [AV.bd, bdL, bdL_append]; done) | fail) ?_)) (by repeat' (exact ro_nil)) rfl (by (rw [hm]; exact rfl)) rfl (by (simp [bdT, AV.bd, bdL, bdL_append]; done)) (by repeat' (exact True.intro)) (by (rw [hm]; exact Nat.le_of_ble_eq_true rfl))⟩⟩
      by_cases e : j = i
      · subst e
        rw [idx_any] at hc
        have h2 : idx (l.take j) (nth l j) < 0 := by simpa using hc.2
        unfold termAt; simp [hc.1, h2]
      · exact hall j (by omega)
  · have : i = l.length := by omega
    subst this
    (repeat' (first | apply jA | apply jH | apply jJ | apply jK | apply jL | apply jP | apply jS | (refine wp_cond rfl (fun hc => ?_) (fun hc => ?_) <;> (try simp only [sB, ne_eq, reduceCtorEq] at hc) <;> (try (exfalso; omega))) | (refine WP.regionC (id := 2) ?_; (refine slss rfl rfl ?_); apply jW) | (refine WP.regionC (id := 8) ?_; (refine sassign rfl ?_); apply jW) | refine ret_b rfl ?_))
    rw [termsOk_yes hall]
end Go.Lg

namespace Go.Lg
open Go.Proofs
set_option linter.unusedSimpArgs false
set_option linter.unusedVariables false
attribute [local irreducible] Ap Rq asemC WP RunD Ret Gq thenA inBlockA bodyQ noGotoA RqL RqP OpP
set_option maxHeartbeats 1000000
def nameCh (s : ByteArray) (i : Nat) : Bool := letB (bAt s i) || (!decide (i = 0) && (digB (bAt s i) || decide (bAt s i = 95) || decide (bAt s i = 46) || decide (bAt s i = 64)))
def nameOk (s : ByteArray) : Bool := decide (1 ≤ s.size) && decide (s.size ≤ 48) && (List.range s.size).all (nameCh s)
theorem name18_fn (x : ByteArray) : Fn Tryd.prog 54 [strA x] (boolA (nameOk x)) := by
  refine Fn.intro rfl (by kernel_rfl) Tryd.func54 rfl rfl Tryd.ntmps54 (by exact Nat.le_of_ble_eq_true rfl) ?_; intro Γ hm
  (repeat' (first | apply jA | apply jF | apply jH | apply jI | apply jK | apply jM | apply jS | (refine wp_cond rfl (fun hc => ?_) (fun hc => ?_) <;> (try simp only [sB, ne_eq, reduceCtorEq] at hc) <;> (try (exfalso; omega))) | (refine WP.regionC ?_; (refine sassign rfl ?_); apply jW) | (refine WP.regionC (id := 1) ?_; (refine smove rfl ?_); (refine su (alenstr rfl rfl) ?_); (refine slss rfl rfl ?_); (refine smove rfl ?_); (refine sg (gq_vf rfl rfl) (fun he => ap_move (rq_p rfl rfl)) ?_); (refine sg (gq_vf rfl rfl) (fun he => ap_len_str rfl (rq_c rfl rfl)) ?_); (refine sg (gq_vf rfl rfl) (fun he => ap_gtr (rq_c rfl rfl) (rq_p rfl rfl)) ?_); (refine su (ap_or (rq_p rfl rfl) (rq_c rfl rfl)) ?_); apply jW) | refine ret_b rfl ?_))
  · simp [nameOk]; omega
  refine wp_loop (fun k => k ≤ x.size ∧ (List.range k).all (nameCh x) = true) (fun k => x.size - k) (fun k => (S 64 [(0, strA x), (3, intA (k : Nat))] 0 [])) 0 ⟨[], ToR.S rfl (by repeat' (first | exact rt_nil | refine rt_e rfl rfl ?_)) (by repeat' (exact ro_nil)) rfl (by (rw [hm]; exact rfl)) rfl (by (simp [bdT, AV.bd, bdL, bdL_append]; done)) (by repeat' (exact True.intro)) (by (rw [hm]; exact Nat.le_of_ble_eq_true rfl))⟩ ⟨Nat.zero_le _, rfl⟩ ?_
  rintro k ⟨hk, hall⟩
  have hb := bAt_bd x k
  (repeat' (first | apply jA | apply jF | apply jH | apply jI | apply jJ | apply jK | apply jL | apply jM | apply jN | apply jO | apply jP | apply jS | (refine wp_cond rfl (fun hc => ?_) (fun hc => ?_) <;> (try simp only [sB, ne_eq, reduceCtorEq] at hc) <;> (try (exfalso; omega))) | (refine WP.regionC (id := 4) ?_; (refine smove rfl ?_); (refine smove rfl ?_); (refine su (alenstr rfl rfl) ?_); (refine slss rfl rfl ?_); apply jW) | (refine WP.regionC (id := 6) ?_; (refine smove rfl ?_); (refine smove rfl ?_); (refine su (asidxn rfl rfl rfl (by omega)) ?_); (refine sassign rfl ?_); apply jW) | (refine WP.regionC (id := 7) ?_; (refine smove rfl ?_); (refine su (ageq rfl rfl) ?_); (refine smove rfl ?_); (refine sg (gq_vt rfl rfl) (fun he => ap_move (rq_p rfl rfl)) ?_); (refine sg (gq_vt rfl rfl) (fun he => ap_leq (rq_c rfl rfl) (rq_p rfl rfl)) ?_); (refine su (ap_and (rq_p rfl rfl) (rq_c rfl rfl)) ?_); (refine smove rfl ?_); (refine sg (gq_vf rfl rfl) (fun he => ap_move (rq_p rfl rfl)) ?_); (refine sg (gq_vf rfl rfl) (fun he => ap_geq (rq_c rfl rfl) (rq_p rfl rfl)) ?_); (refine sg (gq_vf rfl rfl) (fun he => ap_move (rq_c rfl rfl)) ?_); (refine sg (gq_ct rfl rfl) (fun he => ap_move (rq_p rfl rfl)) ?_); (refine sg (gq_ct rfl rfl) (fun he => ap_leq (rq_c rfl rfl) (rq_p rfl rfl)) ?_); (refine sg (gq_vf rfl rfl) (fun he => ap_and (rq_c rfl rfl) (rq_c rfl rfl)) ?_); (refine su (ap_or (rq_p rfl rfl) (rq_c rfl rfl)) ?_); (refine sassign rfl ?_); apply jW) | (refine WP.regionC (id := 8) ?_; (refine smove rfl ?_); (refine su (anot rfl) ?_); (refine smove rfl ?_); (refine sg (gq_vt rfl rfl) (fun he => ap_move (rq_p rfl rfl)) ?_); (refine sg (gq_vt rfl rfl) (fun he => ap_eql (rq_c rfl rfl) (rq_p rfl rfl)) ?_); (refine sg (gq_vt rfl rfl) (fun he => ap_move (rq_c rfl rfl)) ?_); (refine sg (gq_cf rfl rfl) (fun he => ap_move (rq_p rfl rfl)) ?_); (refine sg (gq_cf rfl rfl) (fun he => ap_geq (rq_c rfl rfl) (rq_p rfl rfl)) ?_); (refine sg (gq_cf rfl rfl) (fun he => ap_move (rq_c rfl rfl)) ?_); (refine sg (gq_ct rfl rfl) (fun he => ap_move (rq_p rfl rfl)) ?_); (refine sg (gq_ct rfl rfl) (fun he => ap_leq (rq_c rfl rfl) (rq_p rfl rfl)) ?_); (refine sg (gq_cf rfl rfl) (fun he => ap_and (rq_c rfl rfl) (rq_c rfl rfl)) ?_); (refine sg (gq_cf rfl rfl) (fun he => ap_move (rq_c rfl rfl)) ?_); (refine sg (gq_cf rfl rfl) (fun he => ap_move (rq_p rfl rfl)) ?_); (refine sg (gq_cf rfl rfl) (fun he => ap_eql (rq_c rfl rfl) (rq_p rfl rfl)) ?_); (refine sg (gq_cf rfl rfl) (fun he => ap_or (rq_c rfl rfl) (rq_c rfl rfl)) ?_); (refine sg (gq_cf rfl rfl) (fun he => ap_move (rq_c rfl rfl)) ?_); (refine sg (gq_cf rfl rfl) (fun he => ap_move (rq_p rfl rfl)) ?_); (refine sg (gq_cf rfl rfl) (fun he => ap_eql (rq_c rfl rfl) (rq_p rfl rfl)) ?_); (refine sg (gq_cf rfl rfl) (fun he => ap_or (rq_c rfl rfl) (rq_c rfl rfl)) ?_); (refine sg (gq_cf rfl rfl) (fun he => ap_move (rq_c rfl rfl)) ?_); (refine sg (gq_cf rfl rfl) (fun he => ap_move (rq_p rfl rfl)) ?_); (refine sg (gq_cf rfl rfl) (fun he => ap_eql (rq_c rfl rfl) (rq_p rfl rfl)) ?_); (refine sg (gq_cf rfl rfl) (fun he => ap_or (rq_c rfl rfl) (rq_c rfl rfl)) ?_); (refine sg (gq_cf rfl rfl) (fun he => ap_not (rq_c rfl rfl)) ?_); (refine sg (gq_vt rfl rfl) (fun he => ap_or (rq_c rfl rfl) (rq_c rfl rfl)) ?_); (refine su (ap_and (rq_p rfl rfl) (rq_c rfl rfl)) ?_); apply jW) | (refine WP.regionC ?_; (refine sassign rfl ?_); apply jW) | (refine WP.regionC (id := 5) ?_; (refine smove rfl ?_); (refine sadd rfl rfl (by exact inr_i64_of (by omega)) ?_); (refine sassign rfl ?_); apply jW) | refine ret_b rfl ?_))
  · rw [show nameOk x = false by simp only [nameOk]; rw [range_all_no (k := k) (by omega), Bool.and_false]; simp [nameCh, letB, digB]; omega]
  · refine ⟨k + 1, ⟨by omega, by omega, range_all_succ hall ?_⟩, ⟨[], ToR.S rfl (by repeat' (first | exact rt_nil | refine rt_e rfl rfl ?_)) (by repeat' (exact ro_nil)) rfl (by (rw [hm]; exact rfl)) rfl (by (simp [bdT, AV.bd, bdL, bdL_append]; done)) (by repeat' (exact True.intro)) (by (rw [hm]; exact Nat.le_of_ble_eq_true rfl))⟩⟩
    simp [nameCh, letB, digB]; omega
  have : k = x.size := by omega
  subst this
  simp only [nameOk, hall]; simp; omega
end Go.Lg

namespace Go.Lg
open Go.Proofs
set_option linter.unusedSimpArgs false
set_option linter.unusedVariables false
attribute [local irreducible] Ap Rq asemC WP RunD Ret Gq thenA inBlockA bodyQ noGotoA RqL RqP OpP
set_option maxHeartbeats 1000000
def namesOk (l : List ByteArray) : Bool := l.all nameOk && decide l.Nodup
theorem names_fn (a b : List ByteArray) (ha : a.length ≤ 1048576) (hb : b.length ≤ 1048576) : Fn Tryd.prog 37 [strsA a, strsA b] (boolA (namesOk (a ++ b))) := by
  refine Fn.intro rfl (by kernel_rfl) Tryd.func37 rfl rfl Tryd.ntmps37 (by exact Nat.le_of_ble_eq_true rfl) ?_; intro Γ hm
  have hab : (a ++ b).length = a.length + b.length := List.length_append
  (repeat' (first | apply jA | apply jF | apply jH | (refine WP.regionC ?_; (refine sassign rfl ?_); apply jW) | (refine WP.regionC (id := 2) ?_; (refine smove rfl ?_); (refine smove rfl ?_); (refine se_appNL rfl rfl rfl rfl rfl (by omega) ?_); (refine sassign rfl ?_); apply jW) | (refine WP.regionC (id := 3) ?_; (refine smove rfl ?_); (refine smove rfl ?_); (refine se_appL rfl rfl rfl rfl rfl rfl rfl (by omega) ?_); (refine sassign rfl ?_); apply jW)))
  refine wp_loop (fun i => i ≤ (a ++ b).length ∧ ∀ j, j < i → nameOk (nth (a ++ b) j) = true ∧ ∀ k, k < j → nth (a ++ b) k ≠ nth (a ++ b) j) (fun i => (a ++ b).length - i)
    (fun i => (S 40 [(5, .ref 0 1 0 (a ++ b).length), (6, intA (i : Nat))] 1 [(0, some (.arr 1 ((a ++ b).map strA)))])) 0 ⟨[1], ToR.S rfl (by repeat' (first | exact rt_nil | refine rt_r rfl rfl ?_ | refine rt_e rfl rfl ?_)) (by repeat' (first | exact ro_nil | refine ro_p rfl (by first | exact rfl | fail) (by first | exact bdL_map (fun _ => by exact rfl) _ | fail) ?_)) rfl (by (rw [hm]; exact rfl)) rfl (by (simp [bdT, AV.bd, bdL, bdL_append]; done)) (by repeat' (first | exact True.intro | refine And.intro ?_ ?_ | exact bdL_map (fun _ => by exact rfl) _)) (by (rw [hm]; exact Nat.le_of_ble_eq_true rfl))⟩ ⟨Nat.zero_le _, by simp⟩ ?_
  rintro i ⟨hi, hall⟩
  (repeat' (first | apply jA | apply jF | apply jH | apply jI | apply jJ | apply jK | apply jL | apply jM | apply jO | apply jP | apply jS | (refine wp_cond rfl (fun hc => ?_) (fun hc => ?_) <;> (try simp only [sB, ne_eq, reduceCtorEq] at hc) <;> (try (exfalso; omega))) | (refine WP.regionC (id := 5) ?_; (refine smove rfl ?_); (refine smove rfl ?_); (refine su (alenr rfl rfl) ?_); (refine slss rfl rfl ?_); apply jW) | (refine WP.regionC (id := 7) ?_; (refine smove rfl ?_); (refine smove rfl ?_); (refine su (aidxrn rfl rfl (by omega)) ?_); (refine su (aloadpt rfl rfl (by omega) rfl) ?_); (refine sc_p rfl rfl (by first | ((repeat' first | exact SubL.nil | refine SubL.cons ?_ ?_ | exact Sub.refl); done) | fail) (by first | (simp [bdL, bdL_append, AV.bd]; done) | fail) (name18_fn _) ?_); (refine su (anot rfl) ?_); apply jW) | (refine WP.regionC ?_; (refine sassign rfl ?_); apply jW) | refine ret_b rfl ?_))
  · simp only [namesOk, all_nth_no (l := a ++ b) (k := i) (by omega) hc, Bool.false_and]
  · have hn : nameOk (nth (a ++ b) i) = true := by assumption
    refine wp_loop (fun k => k ≤ i ∧ ∀ j, j < k → nth (a ++ b) j ≠ nth (a ++ b) i) (fun k => i - k)
      (fun k => (S 40 [(5, .ref 0 1 0 (a ++ b).length), (6, intA (i : Nat)), (7, intA (k : Nat))] 1 [(0, some (.arr 1 ((a ++ b).map strA)))])) 0 ⟨[0], ToR.S rfl (by repeat' (first | exact rt_nil | refine rt_r rfl rfl ?_ | refine rt_e rfl rfl ?_)) (by repeat' (first | exact ro_nil | refine ro_p rfl (by first | exact rfl | fail) (by first | exact bdL_map (fun _ => by exact rfl) _ | fail) ?_)) rfl (by (rw [hm]; exact rfl)) rfl (by (simp [bdT, AV.bd, bdL, bdL_append]; done)) (by repeat' (first | exact True.intro | refine And.intro ?_ ?_ | exact bdL_map (fun _ => by exact rfl) _)) (by (rw [hm]; exact Nat.le_of_ble_eq_true rfl))⟩ ⟨Nat.zero_le _, by simp⟩ ?_
    rintro k ⟨hk, hne⟩
    (repeat' (first | apply jA | apply jF | apply jH | apply jI | apply jJ | apply jK | apply jL | apply jM | apply jN | apply jO | apply jP | apply jS | (refine wp_cond rfl (fun hc => ?_) (fun hc => ?_) <;> (try simp only [sB, ne_eq, reduceCtorEq] at hc) <;> (try (exfalso; omega))) | (refine WP.regionC (id := 10) ?_; (refine smove rfl ?_); (refine smove rfl ?_); (refine slss rfl rfl ?_); apply jW) | (refine wp_draw (id := 12) 9 mixed (by kernel_rfl) (by kernel_rfl) rfl ?_ <;> (refine rmove rfl ?_) <;> (refine rmove rfl ?_) <;> (refine rd_u rfl rfl (aidxrn rfl rfl (by omega)) ?_) <;> (refine rd_u rfl rfl (aloadpt rfl rfl (by omega) rfl) ?_) <;> (refine rmove rfl ?_) <;> (refine rmove rfl ?_) <;> (refine rd_u rfl rfl (aidxrn rfl rfl (by omega)) ?_) <;> (refine rd_u rfl rfl (aloadpt rfl rfl (by omega) rfl) ?_) <;> (refine rd_u rfl rfl (aeqs rfl rfl) ?_) <;> (refine rd_end (by kernel_rfl) ?_)) | (refine WP.regionC (id := 13) ?_; (refine sassign rfl ?_); apply jW) | (refine WP.regionC ?_; (refine smove rfl ?_); (refine sadd rfl rfl (by exact inr_i64_of (by omega)) ?_); (refine sassign rfl ?_); apply jW) | refine ret_b rfl ?_))
    · simp only [namesOk, decide_eq_false (not_nodup (l := a ++ b) (j := i) (k := k) (by omega) (by omega) hc), Bool.and_false]
    · refine ⟨k + 1, ⟨by omega, by omega, fun j hj => ?_⟩, ⟨[0], ToR.S rfl (by repeat' (first | exact rt_nil | refine rt_r rfl rfl ?_ | refine rt_e rfl rfl ?_)) (by repeat' (first | exact ro_nil | refine ro_p rfl (by first | exact rfl | fail) (by first | exact bdL_map (fun _ => by exact rfl) _ | fail) ?_)) rfl (by (rw [hm]; exact rfl)) rfl (by (simp [bdT, AV.bd, bdL, bdL_append]; done)) (by repeat' (first | exact True.intro | refine And.intro ?_ ?_ | exact bdL_map (fun _ => by exact rfl) _)) (by (rw [hm]; exact Nat.le_of_ble_eq_true rfl))⟩⟩
      by_cases h : j = k
      · subst h; exact hc
      · exact hne j (by omega)
    · refine ⟨i + 1, ⟨by omega, by omega, fun j hj => ?_⟩, ⟨[0], ToR.S rfl (by repeat' (first | exact rt_nil | refine rt_r rfl rfl ?_ | refine rt_e rfl rfl ?_)) (by repeat' (first | exact ro_nil | refine ro_p rfl (by first | exact rfl | fail) (by first | exact bdL_map (fun _ => by exact rfl) _ | fail) ?_)) rfl (by (rw [hm]; exact rfl)) rfl (by (simp [bdT, AV.bd, bdL, bdL_append]; done)) (by repeat' (first | exact True.intro | refine And.intro ?_ ?_ | exact bdL_map (fun _ => by exact rfl) _)) (by (rw [hm]; exact Nat.le_of_ble_eq_true rfl))⟩⟩
      by_cases h : j = i
      · subst h; exact ⟨hn, fun k' hk' => hne k' (by omega)⟩
      · exact hall j (by omega)
  have : i = (a ++ b).length := by omega
  subst this
  simp only [namesOk, all_of_nth fun j hj => (hall j hj).1, decide_eq_true (nodup_nth fun j hj => (hall j hj).2), Bool.and_true]
end Go.Lg

namespace Go.Lg
open Go.Proofs
set_option linter.unusedSimpArgs false
set_option linter.unusedVariables false
attribute [local irreducible] Ap Rq asemC WP RunD Ret Gq thenA inBlockA bodyQ noGotoA RqL RqP OpP
set_option maxHeartbeats 1000000
theorem sameNames_fn (a b : List ByteArray) : Fn Tryd.prog 36 [strsA a, strsA b] (boolA (decide (a = b))) := by
  refine Fn.intro rfl (by kernel_rfl) Tryd.func36 rfl rfl Tryd.ntmps36 (by exact Nat.le_of_ble_eq_true rfl) ?_; intro Γ hm
  refine wp_lens 0 rfl fun h0 => wp_lens 1 rfl fun h1 => ?_
  rw [lens_strsA] at h0 h1
  (repeat' (first | apply jA | apply jF | apply jH | apply jI | apply jK | apply jM | apply jS | (refine wp_cond rfl (fun hc => ?_) (fun hc => ?_) <;> (try simp only [sB, ne_eq, reduceCtorEq] at hc) <;> (try (exfalso; omega))) | (refine WP.regionC ?_; (refine sassign rfl ?_); apply jW) | (refine WP.regionC (id := 1) ?_; (refine smove rfl ?_); (refine slenm rfl rfl ?_); (refine smove rfl ?_); (refine slenm rfl rfl ?_); (refine su (aneq rfl rfl) ?_); apply jW) | refine ret_b rfl ?_))
  · have : a ≠ b := by rintro rfl; exact hc rfl
    simp [this]
  refine wp_loop (fun k => k ≤ a.length ∧ a.take k = b.take k) (fun k => a.length - k) (fun k => (S 26 [(0, strsA a), (1, strsA b), (5, intA (k : Nat))] 0 [])) 0 ⟨[], ToR.S rfl (by repeat' (first | exact rt_nil | refine rt_e rfl rfl ?_ | refine rt_p rfl rfl (by first | (simp [AV.bd, bdL, bdL_append]; done) | fail) ?_)) (by repeat' (exact ro_nil)) rfl (by (rw [hm]; exact rfl)) rfl (by (simp [bdT, AV.bd, bdL, bdL_append]; done)) (by repeat' (exact True.intro)) (by (rw [hm]; exact Nat.le_of_ble_eq_true rfl))⟩ ⟨Nat.zero_le _, rfl⟩ ?_
  rintro k ⟨hk, hall⟩
  have hab : a.length = b.length := by omega
  (repeat' (first | apply jA | apply jF | apply jH | apply jI | apply jJ | apply jK | apply jL | apply jM | apply jN | apply jO | apply jP | apply jS | (refine wp_cond rfl (fun hc => ?_) (fun hc => ?_) <;> (try simp only [sB, ne_eq, reduceCtorEq] at hc) <;> (try (exfalso; omega))) | (refine WP.regionC (id := 4) ?_; (refine smove rfl ?_); (refine smove rfl ?_); (refine slenm rfl rfl ?_); (refine slss rfl rfl ?_); apply jW) | (refine wp_draw (id := 6) 9 mixed (by kernel_rfl) (by kernel_rfl) rfl ?_ <;> (refine rmove rfl ?_) <;> (refine rmove rfl ?_) <;> (refine rd_u rfl rfl (aidxn rfl rfl (by omega)) ?_) <;> (refine rd_u rfl rfl (aloadw rfl rfl) ?_) <;> (refine rmove rfl ?_) <;> (refine rmove rfl ?_) <;> (refine rd_u rfl rfl (aidxn rfl rfl (by omega)) ?_) <;> (refine rd_u rfl rfl (aloadw rfl rfl) ?_) <;> (refine rd_u rfl rfl (anes rfl rfl) ?_) <;> (refine rd_end (by kernel_rfl) ?_)) | (refine WP.regionC ?_; (refine sassign rfl ?_); apply jW) | (refine WP.regionC (id := 5) ?_; (refine smove rfl ?_); (refine sadd rfl rfl (by exact inr_i64_of (by omega)) ?_); (refine sassign rfl ?_); apply jW) | refine ret_b rfl ?_))
  · have : a ≠ b := by rintro rfl; exact hc rfl
    simp [this]
  · exact ⟨k + 1, ⟨by omega, by omega, take_eq_succ (by omega) (by omega) hall hc⟩, ⟨[], ToR.S rfl (by repeat' (first | exact rt_nil | refine rt_e rfl rfl ?_ | refine rt_p rfl rfl (by first | (simp [AV.bd, bdL, bdL_append]; done) | fail) ?_)) (by repeat' (exact ro_nil)) rfl (by (rw [hm]; exact rfl)) rfl (by (simp [bdT, AV.bd, bdL, bdL_append]; done)) (by repeat' (exact True.intro)) (by (rw [hm]; exact Nat.le_of_ble_eq_true rfl))⟩⟩
  simp [eq_of_takes hab (by omega) hall]
end Go.Lg

namespace Go.Lg
open Go.Proofs
set_option linter.unusedSimpArgs false
set_option linter.unusedVariables false
attribute [local irreducible] Ap Rq asemC WP RunD Ret Gq thenA inBlockA bodyQ noGotoA RqL RqP OpP
set_option maxHeartbeats 4000000
def symOk (g : Gram) (x : Int) : Bool := decide (x < g.terms.length) && decide (-(g.nonterms.length : Int) ≤ x)
def ruleOk (g : Gram) (r : Rul) : Bool := decide (0 ≤ r.head) && decide (r.head < g.nonterms.length) && decide (r.body.length ≤ 12) && decide (0 ≤ r.price) && decide (r.price ≤ 1000) && r.body.all (symOk g)
def validG (g : Gram) : Bool := decide (g.terms.length ≤ 120) && decide (1 ≤ g.nonterms.length) && decide (g.nonterms.length ≤ 120) && decide (1 ≤ g.rules.length) && decide (g.rules.length ≤ 120) && decide (0 ≤ g.start) && decide (g.start < g.nonterms.length) && namesOk (g.terms ++ g.nonterms) && g.rules.all (ruleOk g)
theorem validG_no {g : Gram} {i : Nat} (hi : i < g.rules.length) (h : ruleOk g (nth g.rules i) = false) : validG g = false := by
  simp only [validG, all_nth_no (l := g.rules) (f := ruleOk g) hi h, Bool.and_false]
theorem ruleOk_no {g : Gram} {r : Rul} {k : Nat} (hk : k < r.body.length) (h : symOk g (nth r.body k) = false) : ruleOk g r = false := by
  simp only [ruleOk, all_nth_no (l := r.body) (f := symOk g) hk h, Bool.and_false]
theorem rvalid18_fn (g : Gram) : Fn Tryd.prog 15 [gramA g] (boolA (validG g)) := by
  refine Fn.intro rfl (by kernel_rfl) Tryd.func15 rfl rfl Tryd.ntmps15 (by exact Nat.le_of_ble_eq_true rfl) ?_; intro Γ hm
  refine wp_lens 0 rfl fun hl => ?_
  obtain ⟨hl1, hl2, hl3, hl4⟩ := (lens_gramA g).1 hl
  (repeat' (first | apply jA | apply jF | apply jH | apply jI | apply jK | apply jM | apply jS | (refine wp_cond rfl (fun hc => ?_) (fun hc => ?_) <;> (try simp only [sB, ne_eq, reduceCtorEq] at hc) <;> (try (exfalso; omega))) | (refine WP.regionC (id := 0) ?_; (refine se_box rfl (by exact ⟨rfl, rfl⟩) ?_); (refine sassign rfl ?_); apply jW) | (refine WP.regionC (id := 1) ?_; (refine sfieldp rfl rfl rfl ?_); (refine sloadp rfl rfl rfl rfl ?_); (refine slenm rfl rfl ?_); (refine su (agtr rfl rfl) ?_); (refine smove rfl ?_); (refine sg (gq_vf rfl rfl) (fun he => ap_field_p (rq_p rfl rfl) rfl rfl) ?_); (refine sg (gq_vf rfl rfl) (fun he => ap_load_p (rq_c rfl rfl) rfl rfl rfl) ?_); (refine sg (gq_vf rfl rfl) (fun he => ap_len_m rfl (rq_c rfl rfl)) ?_); (refine sg (gq_vf rfl rfl) (fun he => ap_lss (rq_c rfl rfl) (rq_p rfl rfl)) ?_); (refine su (ap_or (rq_p rfl rfl) (rq_c rfl rfl)) ?_); (refine smove rfl ?_); (refine sg (gq_vf rfl rfl) (fun he => ap_field_p (rq_p rfl rfl) rfl rfl) ?_); (refine sg (gq_vf rfl rfl) (fun he => ap_load_p (rq_c rfl rfl) rfl rfl rfl) ?_); (refine sg (gq_vf rfl rfl) (fun he => ap_len_m rfl (rq_c rfl rfl)) ?_); (refine sg (gq_vf rfl rfl) (fun he => ap_gtr (rq_c rfl rfl) (rq_p rfl rfl)) ?_); (refine su (ap_or (rq_p rfl rfl) (rq_c rfl rfl)) ?_); (refine smove rfl ?_); (refine sg (gq_vf rfl rfl) (fun he => ap_field_p (rq_p rfl rfl) rfl rfl) ?_); (refine sg (gq_vf rfl rfl) (fun he => ap_load_p (rq_c rfl rfl) rfl rfl rfl) ?_); (refine sg (gq_vf rfl rfl) (fun he => ap_len_m rfl (rq_c rfl rfl)) ?_); (refine sg (gq_vf rfl rfl) (fun he => ap_lss (rq_c rfl rfl) (rq_p rfl rfl)) ?_); (refine su (ap_or (rq_p rfl rfl) (rq_c rfl rfl)) ?_); (refine smove rfl ?_); (refine sg (gq_vf rfl rfl) (fun he => ap_field_p (rq_p rfl rfl) rfl rfl) ?_); (refine sg (gq_vf rfl rfl) (fun he => ap_load_p (rq_c rfl rfl) rfl rfl rfl) ?_); (refine sg (gq_vf rfl rfl) (fun he => ap_len_m rfl (rq_c rfl rfl)) ?_); (refine sg (gq_vf rfl rfl) (fun he => ap_gtr (rq_c rfl rfl) (rq_p rfl rfl)) ?_); (refine su (ap_or (rq_p rfl rfl) (rq_c rfl rfl)) ?_); apply jW) | (refine WP.regionC ?_; (refine sassign rfl ?_); apply jW) | (refine WP.regionC (id := 3) ?_; (refine sfieldp rfl rfl rfl ?_); (refine sloadp rfl rfl rfl rfl ?_); (refine slss rfl rfl ?_); (refine smove rfl ?_); (refine sg (gq_vf rfl rfl) (fun he => ap_field_p (rq_p rfl rfl) rfl rfl) ?_); (refine sg (gq_vf rfl rfl) (fun he => ap_load_p (rq_c rfl rfl) rfl rfl rfl) ?_); (refine sg (gq_vf rfl rfl) (fun he => ap_field_p (rq_p rfl rfl) rfl rfl) ?_); (refine sg (gq_vf rfl rfl) (fun he => ap_load_p (rq_c rfl rfl) rfl rfl rfl) ?_); (refine sg (gq_vf rfl rfl) (fun he => ap_len_m rfl (rq_c rfl rfl)) ?_); (refine sg (gq_vf rfl rfl) (fun he => ap_geq (rq_c rfl rfl) (rq_c rfl rfl)) ?_); (refine su (ap_or (rq_p rfl rfl) (rq_c rfl rfl)) ?_); (refine smove rfl ?_); (refine sg (gq_vf rfl rfl) (fun he => ap_field_p (rq_p rfl rfl) rfl rfl) ?_); (refine sg (gq_vf rfl rfl) (fun he => ap_load_p (rq_c rfl rfl) rfl rfl rfl) ?_); (refine sg (gq_vf rfl rfl) (fun he => ap_field_p (rq_p rfl rfl) rfl rfl) ?_); (refine sg (gq_vf rfl rfl) (fun he => ap_load_p (rq_c rfl rfl) rfl rfl rfl) ?_); (refine sg_b (gq_vf rfl rfl) (fun he => ⟨(rq_p rfl rfl), (RqL.cons (rq_c rfl rfl) (RqL.cons (rq_c rfl rfl) (RqL.nil))), (by first | ((repeat' first | exact FzL.nil | refine FzL.cons ?_ ?_ | (exact Fz.reflp (by simp [AV.bd, bdL, bdL_append]))); done) | fail), names_fn _ _ (by (try simp only [sH, id, sB, ne_eq, reduceCtorEq] at he); omega) (by (try simp only [sH, id, sB, ne_eq, reduceCtorEq] at he); omega), rfl⟩) ?_); (refine sg (gq_vf rfl rfl) (fun he => ap_not (rq_c rfl rfl)) ?_); (refine su (ap_or (rq_p rfl rfl) (rq_c rfl rfl)) ?_); apply jW) | refine ret_b rfl ?_))
  · simp [validG]; omega
  · rcases hc with hc | hc
    · simp [validG]; omega
    · simp [validG, hc]
  have hns : namesOk (g.terms ++ g.nonterms) = true := hc.2
  refine wp_loop (fun i => i ≤ g.rules.length ∧ (g.rules.take i).all (ruleOk g) = true) (fun i => g.rules.length - i)
    (fun i => (S 120 [(1, .ptr 0 4 0 0), (3, intA (i : Nat))] 1 [(0, some (.arr 4 [gramA g]))])) 0 ⟨[0], ToR.S rfl (by repeat' (first | exact rt_nil | refine rt_t rfl rfl ?_ | refine rt_e rfl rfl ?_)) (by repeat' (first | exact ro_nil | refine ro_p rfl (by first | exact rfl | fail) (by first | (simp [bdL, bdL_append, AV.bd]; done) | fail) ?_)) rfl (by (rw [hm]; exact rfl)) rfl (by (simp [bdT, AV.bd, bdL, bdL_append]; done)) (by repeat' (first | exact True.intro | refine And.intro ?_ ?_ | (simp [bdOq, bdL, bdL_append, AV.bd]; done))) (by (rw [hm]; exact Nat.le_of_ble_eq_true rfl))⟩ ⟨Nat.zero_le _, rfl⟩ ?_
  rintro i ⟨hi, hall⟩
  (repeat' (first | apply jA | apply jF | apply jH | apply jI | apply jJ | apply jK | apply jL | apply jM | apply jO | apply jP | apply jS | (refine wp_cond rfl (fun hc => ?_) (fun hc => ?_) <;> (try simp only [sB, ne_eq, reduceCtorEq] at hc) <;> (try (exfalso; omega))) | (refine WP.regionC (id := 6) ?_; (refine smove rfl ?_); (refine sfieldp rfl rfl rfl ?_); (refine sloadp rfl rfl rfl rfl ?_); (refine slenm rfl rfl ?_); (refine slss rfl rfl ?_); apply jW) | (refine WP.regionC (id := 8) ?_; (refine sfieldp rfl rfl rfl ?_); (refine sloadp rfl rfl rfl rfl ?_); (refine smove rfl ?_); (refine sidxn rfl rfl (by omega) ?_); (refine sloadw rfl rfl ?_); (refine se_alloc rfl ?_); (refine se_store_b rfl rfl rfl rfl ?_); apply jW) | (refine WP.regionC (id := 9) ?_; (refine sfieldp rfl rfl rfl ?_); (refine sloadp rfl rfl rfl rfl ?_); (refine slss rfl rfl ?_); (refine smove rfl ?_); (refine sg (gq_vf rfl rfl) (fun he => ap_field_p (rq_p rfl rfl) rfl rfl) ?_); (refine sg (gq_vf rfl rfl) (fun he => ap_load_p (rq_c rfl rfl) rfl rfl rfl) ?_); (refine sg (gq_vf rfl rfl) (fun he => ap_field_p (rq_p rfl rfl) rfl rfl) ?_); (refine sg (gq_vf rfl rfl) (fun he => ap_load_p (rq_c rfl rfl) rfl rfl rfl) ?_); (refine sg (gq_vf rfl rfl) (fun he => ap_len_m rfl (rq_c rfl rfl)) ?_); (refine sg (gq_vf rfl rfl) (fun he => ap_geq (rq_c rfl rfl) (rq_c rfl rfl)) ?_); (refine su (ap_or (rq_p rfl rfl) (rq_c rfl rfl)) ?_); (refine smove rfl ?_); (refine sg (gq_vf rfl rfl) (fun he => ap_field_p (rq_p rfl rfl) rfl rfl) ?_); (refine sg (gq_vf rfl rfl) (fun he => ap_load_p (rq_c rfl rfl) rfl rfl rfl) ?_); (refine sg (gq_vf rfl rfl) (fun he => ap_len_m rfl (rq_c rfl rfl)) ?_); (refine sg (gq_vf rfl rfl) (fun he => ap_gtr (rq_c rfl rfl) (rq_p rfl rfl)) ?_); (refine su (ap_or (rq_p rfl rfl) (rq_c rfl rfl)) ?_); (refine smove rfl ?_); (refine sg (gq_vf rfl rfl) (fun he => ap_field_p (rq_p rfl rfl) rfl rfl) ?_); (refine sg (gq_vf rfl rfl) (fun he => ap_load_p (rq_c rfl rfl) rfl rfl rfl) ?_); (refine sg (gq_vf rfl rfl) (fun he => ap_lss (rq_c rfl rfl) (rq_p rfl rfl)) ?_); (refine su (ap_or (rq_p rfl rfl) (rq_c rfl rfl)) ?_); (refine smove rfl ?_); (refine sg (gq_vf rfl rfl) (fun he => ap_field_p (rq_p rfl rfl) rfl rfl) ?_); (refine sg (gq_vf rfl rfl) (fun he => ap_load_p (rq_c rfl rfl) rfl rfl rfl) ?_); (refine sg (gq_vf rfl rfl) (fun he => ap_gtr (rq_c rfl rfl) (rq_p rfl rfl)) ?_); (refine su (ap_or (rq_p rfl rfl) (rq_c rfl rfl)) ?_); apply jW) | (refine WP.regionC ?_; (refine sassign rfl ?_); apply jW) | refine ret_b rfl ?_))
  · rw [validG_no (i := i) (by omega) (by simp [ruleOk]; omega)]
  · refine wp_loop (fun k => k ≤ (nth g.rules i).body.length ∧ ((nth g.rules i).body.take k).all (symOk g) = true) (fun k => (nth g.rules i).body.length - k)
      (fun k => (S 120 [(1, .ptr 0 4 0 0), (3, intA (i : Nat)), (4, .ptr 1 3 0 0), (5, intA (k : Nat))] 2 [(0, some (.arr 4 [gramA g])), (1, some (.arr 3 [ruleA (nth g.rules i)]))])) 0 ⟨[0, 1], ToR.S rfl (by repeat' (first | exact rt_nil | refine rt_t rfl rfl ?_ | refine rt_e rfl rfl ?_)) (by repeat' (first | exact ro_nil | refine ro_p rfl (by first | exact rfl | fail) (by first | (simp [bdL, bdL_append, AV.bd]; done) | fail) ?_)) rfl (by (rw [hm]; exact rfl)) rfl (by (simp [bdT, AV.bd, bdL, bdL_append]; done)) (by repeat' (first | exact True.intro | refine And.intro ?_ ?_ | (simp [bdOq, bdL, bdL_append, AV.bd]; done))) (by (rw [hm]; exact Nat.le_of_ble_eq_true rfl))⟩ ⟨Nat.zero_le _, rfl⟩ ?_
    rintro k ⟨hk, hb⟩
    (repeat' (first | apply jA | apply jF | apply jH | apply jI | apply jJ | apply jK | apply jL | apply jM | apply jN | apply jO | apply jP | apply jS | (refine wp_cond rfl (fun hc => ?_) (fun hc => ?_) <;> (try simp only [sB, ne_eq, reduceCtorEq] at hc) <;> (try (exfalso; omega))) | (refine WP.regionC (id := 12) ?_; (refine smove rfl ?_); (refine sfieldp rfl rfl rfl ?_); (refine sloadp rfl rfl rfl rfl ?_); (refine slenm rfl rfl ?_); (refine slss rfl rfl ?_); apply jW) | (refine wp_draw (id := 14) 21 mixed (by kernel_rfl) (by kernel_rfl) rfl ?_ <;> (refine rfieldp rfl rfl rfl ?_) <;> (refine rloadp rfl rfl rfl rfl ?_) <;> (refine rmove rfl ?_) <;> (refine rd_u rfl rfl (aidxn rfl rfl (by omega)) ?_) <;> (refine rd_u rfl rfl (aloadw rfl rfl) ?_) <;> (refine rfieldp rfl rfl rfl ?_) <;> (refine rloadp rfl rfl rfl rfl ?_) <;> (refine rd_u rfl rfl (alenm rfl rfl) ?_) <;> (refine rd_u rfl rfl (ageq rfl rfl) ?_) <;> (refine rmove rfl ?_) <;> ((refine rd_split (t := 108) rfl (fun hc => ?_) (fun hc => ?_) <;> (try simp only [sB, ne_eq, reduceCtorEq] at hc) <;> (try (exfalso; omega)) <;> (first | refine rd_skip rfl rfl ?_ | refine gfieldp rfl rfl rfl rfl rfl ?_))) <;> (first | refine rd_skip rfl rfl ?_ | refine gloadp rfl rfl rfl rfl rfl rfl ?_) <;> (first | refine rd_skip rfl rfl ?_ | refine gmove rfl rfl rfl ?_) <;> (first | refine rd_skip rfl rfl ?_ | refine rdg_u rfl rfl rfl rfl (aidxn rfl rfl (by omega)) ?_) <;> (first | refine rd_skip rfl rfl ?_ | refine rdg_u rfl rfl rfl rfl (aloadw rfl rfl) ?_) <;> (first | refine rd_skip rfl rfl ?_ | refine gfieldp rfl rfl rfl rfl rfl ?_) <;> (first | refine rd_skip rfl rfl ?_ | refine gloadp rfl rfl rfl rfl rfl rfl ?_) <;> (first | refine rd_skip rfl rfl ?_ | refine rdg_u rfl rfl rfl rfl (alenm rfl rfl) ?_) <;> (first | refine rd_skip rfl rfl ?_ | refine rdg_u rfl rfl rfl rfl (aneg rfl (by exact inr_i64_of (by omega))) ?_) <;> (first | refine rd_skip rfl rfl ?_ | refine rdg_u rfl rfl rfl rfl (alss rfl rfl) ?_) <;> (first | refine rd_pick_t rfl rfl ?_ | refine rd_pick_f rfl rfl ?_) <;> (refine rd_end (by kernel_rfl) ?_)) | (refine WP.regionC (id := 15) ?_; (refine sassign rfl ?_); apply jW) | (refine WP.regionC ?_; (refine smove rfl ?_); (refine sadd rfl rfl (by exact inr_i64_of (by omega)) ?_); (refine sassign rfl ?_); apply jW) | refine ret_b rfl ?_))
    · rw [validG_no (i := i) (by omega) (ruleOk_no (k := k) (by omega) (by simp [symOk]; omega))]
    · rw [validG_no (i := i) (by omega) (ruleOk_no (k := k) (by omega) (by simp [symOk]; omega))]
    · exact ⟨k + 1, ⟨by omega, by omega, take_all_succ (by omega) hb (by simp [symOk]; omega)⟩, ⟨[0, 1], ToR.S rfl (by repeat' (first | exact rt_nil | refine rt_t rfl rfl ?_ | refine rt_e rfl rfl ?_)) (by repeat' (first | exact ro_nil | refine ro_p rfl (by first | exact rfl | fail) (by first | (simp [bdL, bdL_append, AV.bd]; done) | fail) ?_)) rfl (by (rw [hm]; exact rfl)) rfl (by (simp [bdT, AV.bd, bdL, bdL_append]; done)) (by repeat' (first | exact True.intro | refine And.intro ?_ ?_ | (simp [bdOq, bdL, bdL_append, AV.bd]; done))) (by (rw [hm]; exact Nat.le_of_ble_eq_true rfl))⟩⟩
    · exact ⟨i + 1, ⟨by omega, by omega, take_all_succ (by omega) hall (by simp [ruleOk, all_of_take' (by omega) hb]; omega)⟩, ⟨[0], ToR.S rfl (by repeat' (first | exact rt_nil | refine rt_t rfl rfl ?_ | refine rt_e rfl rfl ?_)) (by repeat' (first | exact ro_nil | refine ro_p rfl (by first | exact rfl | fail) (by first | (simp [bdL, bdL_append, AV.bd]; done) | fail) ?_)) rfl (by (rw [hm]; exact rfl)) rfl (by (simp [bdT, AV.bd, bdL, bdL_append]; done)) (by repeat' (first | exact True.intro | refine And.intro ?_ ?_ | (simp [bdOq, bdL, bdL_append, AV.bd]; done))) (by (rw [hm]; exact Nat.le_of_ble_eq_true rfl))⟩⟩
  simp [validG, hns, all_of_take' (by omega) hall]; omega
theorem Rul.ext' {a b : Rul} (h1 : a.head = b.head) (h2 : a.body = b.body) (h3 : a.price = b.price) : a = b := by
  cases a; cases b; simp_all
theorem Gram.ext' {a b : Gram} (h1 : a.terms = b.terms) (h2 : a.nonterms = b.nonterms) (h3 : a.start = b.start) (h4 : a.rules = b.rules) : a = b := by
  cases a; cases b; simp_all
theorem requal18_fn (a b : Gram) : Fn Tryd.prog 13 [gramA a, gramA b] (boolA (decide (a = b))) := by
  refine Fn.intro rfl (by kernel_rfl) Tryd.func13 rfl rfl Tryd.ntmps13 (by exact Nat.le_of_ble_eq_true rfl) ?_; intro Γ hm
  refine wp_lens 0 rfl fun hl => wp_lens 1 rfl fun hl' => ?_
  obtain ⟨hl1, hl2, hl3, hl4⟩ := (lens_gramA a).1 hl
  obtain ⟨hm1, hm2, hm3, hm4⟩ := (lens_gramA b).1 hl'
  (repeat' (first | apply jA | apply jF | apply jH | apply jI | apply jK | apply jM | apply jS | (refine wp_cond rfl (fun hc => ?_) (fun hc => ?_) <;> (try simp only [sB, ne_eq, reduceCtorEq] at hc) <;> (try (exfalso; omega))) | (refine WP.regionC (id := 0) ?_; (refine se_box rfl (by exact ⟨rfl, rfl⟩) ?_); (refine se_box rfl (by exact ⟨rfl, rfl⟩) ?_); (refine sassign rfl ?_); apply jW) | (refine WP.regionC (id := 1) ?_; (refine sfieldp rfl rfl rfl ?_); (refine sloadp rfl rfl rfl rfl ?_); (refine sfieldp rfl rfl rfl ?_); (refine sloadp rfl rfl rfl rfl ?_); (refine sc_b rfl rfl (by first | ((repeat' first | exact FzL.nil | refine FzL.cons ?_ ?_ | (exact Fz.reflp (by simp [AV.bd, bdL, bdL_append]))); done) | fail) (sameNames_fn _ _) rfl ?_); (refine su (anot rfl) ?_); (refine smove rfl ?_); (refine sg (gq_vf rfl rfl) (fun he => ap_field_p (rq_p rfl rfl) rfl rfl) ?_); (refine sg (gq_vf rfl rfl) (fun he => ap_load_p (rq_c rfl rfl) rfl rfl rfl) ?_); (refine sg (gq_vf rfl rfl) (fun he => ap_field_p (rq_p rfl rfl) rfl rfl) ?_); (refine sg (gq_vf rfl rfl) (fun he => ap_load_p (rq_c rfl rfl) rfl rfl rfl) ?_); (refine sg_b (gq_vf rfl rfl) (fun he => ⟨(rq_p rfl rfl), (RqL.cons (rq_c rfl rfl) (RqL.cons (rq_c rfl rfl) (RqL.nil))), (by first | ((repeat' first | exact FzL.nil | refine FzL.cons ?_ ?_ | (exact Fz.reflp (by simp [AV.bd, bdL, bdL_append]))); done) | fail), sameNames_fn _ _, rfl⟩) ?_); (refine sg (gq_vf rfl rfl) (fun he => ap_not (rq_c rfl rfl)) ?_); (refine su (ap_or (rq_p rfl rfl) (rq_c rfl rfl)) ?_); (refine smove rfl ?_); (refine sg (gq_vf rfl rfl) (fun he => ap_field_p (rq_p rfl rfl) rfl rfl) ?_); (refine sg (gq_vf rfl rfl) (fun he => ap_load_p (rq_c rfl rfl) rfl rfl rfl) ?_); (refine sg (gq_vf rfl rfl) (fun he => ap_field_p (rq_p rfl rfl) rfl rfl) ?_); (refine sg (gq_vf rfl rfl) (fun he => ap_load_p (rq_c rfl rfl) rfl rfl rfl) ?_); (refine sg (gq_vf rfl rfl) (fun he => ap_neq (rq_c rfl rfl) (rq_c rfl rfl)) ?_); (refine su (ap_or (rq_p rfl rfl) (rq_c rfl rfl)) ?_); (refine smove rfl ?_); (refine sg (gq_vf rfl rfl) (fun he => ap_field_p (rq_p rfl rfl) rfl rfl) ?_); (refine sg (gq_vf rfl rfl) (fun he => ap_load_p (rq_c rfl rfl) rfl rfl rfl) ?_); (refine sg (gq_vf rfl rfl) (fun he => ap_len_m rfl (rq_c rfl rfl)) ?_); (refine sg (gq_vf rfl rfl) (fun he => ap_field_p (rq_p rfl rfl) rfl rfl) ?_); (refine sg (gq_vf rfl rfl) (fun he => ap_load_p (rq_c rfl rfl) rfl rfl rfl) ?_); (refine sg (gq_vf rfl rfl) (fun he => ap_len_m rfl (rq_c rfl rfl)) ?_); (refine sg (gq_vf rfl rfl) (fun he => ap_neq (rq_c rfl rfl) (rq_c rfl rfl)) ?_); (refine su (ap_or (rq_p rfl rfl) (rq_c rfl rfl)) ?_); apply jW) | (refine WP.regionC ?_; (refine sassign rfl ?_); apply jW) | refine ret_b rfl ?_))
  · rw [eq_comm, decide_eq_false_iff_not]; rintro rfl; simp at hc
  obtain ⟨⟨⟨e1, e2⟩, e3⟩, e4⟩ := hc
  refine wp_loop (fun i => i ≤ a.rules.length ∧ a.rules.take i = b.rules.take i) (fun i => a.rules.length - i)
    (fun i => (S 95 [(2, .ptr 0 4 0 0), (3, .ptr 1 4 0 0), (5, intA (i : Nat))] 2 [(0, some (.arr 4 [gramA a])), (1, some (.arr 4 [gramA b]))])) 0 ⟨[0, 1], ToR.S rfl (by repeat' (first | exact rt_nil | refine rt_t rfl rfl ?_ | refine rt_e rfl rfl ?_)) (by repeat' (first | exact ro_nil | refine ro_p rfl (by first | exact rfl | fail) (by first | (simp [bdL, bdL_append, AV.bd]; done) | fail) ?_)) rfl (by (rw [hm]; exact rfl)) rfl (by (simp [bdT, AV.bd, bdL, bdL_append]; done)) (by repeat' (first | exact True.intro | refine And.intro ?_ ?_ | (simp [bdOq, bdL, bdL_append, AV.bd]; done))) (by (rw [hm]; exact Nat.le_of_ble_eq_true rfl))⟩ ⟨Nat.zero_le _, rfl⟩ ?_
  rintro i ⟨hi, hall⟩
  (repeat' (first | apply jA | apply jF | apply jH | apply jI | apply jJ | apply jK | apply jL | apply jM | apply jO | apply jP | apply jS | (refine wp_cond rfl (fun hc => ?_) (fun hc => ?_) <;> (try simp only [sB, ne_eq, reduceCtorEq] at hc) <;> (try (exfalso; omega))) | (refine WP.regionC (id := 4) ?_; (refine smove rfl ?_); (refine sfieldp rfl rfl rfl ?_); (refine sloadp rfl rfl rfl rfl ?_); (refine slenm rfl rfl ?_); (refine slss rfl rfl ?_); apply jW) | (refine wp_draw (id := 6) 14 mixed (by kernel_rfl) (by kernel_rfl) rfl ?_ <;> (refine rfieldp rfl rfl rfl ?_) <;> (refine rloadp rfl rfl rfl rfl ?_) <;> (refine rmove rfl ?_) <;> (refine rd_u rfl rfl (aidxn rfl rfl (by omega)) ?_) <;> (refine rd_u rfl rfl (aloadw rfl rfl) ?_) <;> (refine rfieldp rfl rfl rfl ?_) <;> (refine rloadp rfl rfl rfl rfl ?_) <;> (refine rmove rfl ?_) <;> (refine rd_u rfl rfl (aidxn rfl rfl (by omega)) ?_) <;> (refine rd_u rfl rfl (aloadw rfl rfl) ?_) <;> (refine rd_alloc rfl ?_) <;> (refine rd_alloc rfl ?_) <;> (refine rd_store_b rfl rfl rfl rfl ?_) <;> (refine rd_store_b rfl rfl rfl rfl ?_) <;> (refine rd_end (by kernel_rfl) ?_)) | (refine WP.regionC (id := 7) ?_; (refine sfieldp rfl rfl rfl ?_); (refine sloadp rfl rfl rfl rfl ?_); (refine sfieldp rfl rfl rfl ?_); (refine sloadp rfl rfl rfl rfl ?_); (refine su (aneq rfl rfl) ?_); (refine smove rfl ?_); (refine sg (gq_vf rfl rfl) (fun he => ap_field_p (rq_p rfl rfl) rfl rfl) ?_); (refine sg (gq_vf rfl rfl) (fun he => ap_load_p (rq_c rfl rfl) rfl rfl rfl) ?_); (refine sg (gq_vf rfl rfl) (fun he => ap_field_p (rq_p rfl rfl) rfl rfl) ?_); (refine sg (gq_vf rfl rfl) (fun he => ap_load_p (rq_c rfl rfl) rfl rfl rfl) ?_); (refine sg (gq_vf rfl rfl) (fun he => ap_neq (rq_c rfl rfl) (rq_c rfl rfl)) ?_); (refine su (ap_or (rq_p rfl rfl) (rq_c rfl rfl)) ?_); (refine smove rfl ?_); (refine sg (gq_vf rfl rfl) (fun he => ap_field_p (rq_p rfl rfl) rfl rfl) ?_); (refine sg (gq_vf rfl rfl) (fun he => ap_load_p (rq_c rfl rfl) rfl rfl rfl) ?_); (refine sg (gq_vf rfl rfl) (fun he => ap_len_m rfl (rq_c rfl rfl)) ?_); (refine sg (gq_vf rfl rfl) (fun he => ap_field_p (rq_p rfl rfl) rfl rfl) ?_); (refine sg (gq_vf rfl rfl) (fun he => ap_load_p (rq_c rfl rfl) rfl rfl rfl) ?_); (refine sg (gq_vf rfl rfl) (fun he => ap_len_m rfl (rq_c rfl rfl)) ?_); (refine sg (gq_vf rfl rfl) (fun he => ap_neq (rq_c rfl rfl) (rq_c rfl rfl)) ?_); (refine su (ap_or (rq_p rfl rfl) (rq_c rfl rfl)) ?_); apply jW) | (refine WP.regionC ?_; (refine sassign rfl ?_); apply jW) | refine ret_b rfl ?_))
  · rw [eq_comm, decide_eq_false_iff_not]; rintro rfl; simp at hc
  · obtain ⟨⟨f1, f2⟩, f3⟩ := hc
    have hbl := hl4 (nth a.rules i) (nth_mem (by omega))
    refine wp_loop (fun k => k ≤ (nth a.rules i).body.length ∧ (nth a.rules i).body.take k = (nth b.rules i).body.take k) (fun k => (nth a.rules i).body.length - k)
      (fun k => (S 95 [(2, .ptr 0 4 0 0), (3, .ptr 1 4 0 0), (5, intA (i : Nat)), (6, .ptr 2 3 0 0), (7, .ptr 3 3 0 0), (8, intA (k : Nat))] 4 [(0, some (.arr 4 [gramA a])), (1, some (.arr 4 [gramA b])), (2, some (.arr 3 [ruleA (nth a.rules i)])), (3, some (.arr 3 [ruleA (nth b.rules i)]))])) 0 ⟨[0, 1, 12, 13], ToR.S rfl (by repeat' (first | exact rt_nil | refine rt_t rfl rfl ?_ | refine rt_e rfl rfl ?_)) (by repeat' (first | exact ro_nil | refine ro_p rfl (by first | exact rfl | fail) (by first | (simp [bdL, bdL_append, AV.bd]; done) | fail) ?_)) rfl (by (rw [hm]; exact rfl)) rfl (by (simp [bdT, AV.bd, bdL, bdL_append]; done)) (by repeat' (first | exact True.intro | refine And.intro ?_ ?_ | (simp [bdOq, bdL, bdL_append, AV.bd]; done))) (by (rw [hm]; exact Nat.le_of_ble_eq_true rfl))⟩ ⟨Nat.zero_le _, rfl⟩ ?_
    rintro k ⟨hk, hb⟩
    (repeat' (first | apply jA | apply jF | apply jH | apply jI | apply jJ | apply jK | apply jL | apply jM | apply jN | apply jO | apply jP | apply jS | (refine wp_cond rfl (fun hc => ?_) (fun hc => ?_) <;> (try simp only [sB, ne_eq, reduceCtorEq] at hc) <;> (try (exfalso; omega))) | (refine WP.regionC (id := 10) ?_; (refine smove rfl ?_); (refine sfieldp rfl rfl rfl ?_); (refine sloadp rfl rfl rfl rfl ?_); (refine slenm rfl rfl ?_); (refine slss rfl rfl ?_); apply jW) | (refine wp_draw (id := 12) 11 mixed (by kernel_rfl) (by kernel_rfl) rfl ?_ <;> (refine rfieldp rfl rfl rfl ?_) <;> (refine rloadp rfl rfl rfl rfl ?_) <;> (refine rmove rfl ?_) <;> (refine rd_u rfl rfl (aidxn rfl rfl (by omega)) ?_) <;> (refine rd_u rfl rfl (aloadw rfl rfl) ?_) <;> (refine rfieldp rfl rfl rfl ?_) <;> (refine rloadp rfl rfl rfl rfl ?_) <;> (refine rmove rfl ?_) <;> (refine rd_u rfl rfl (aidxn rfl rfl (by omega)) ?_) <;> (refine rd_u rfl rfl (aloadw rfl rfl) ?_) <;> (refine rd_u rfl rfl (aneq rfl rfl) ?_) <;> (refine rd_end (by kernel_rfl) ?_)) | (refine WP.regionC (id := 13) ?_; (refine sassign rfl ?_); apply jW) | (refine WP.regionC ?_; (refine smove rfl ?_); (refine sadd rfl rfl (by exact inr_i64_of (by omega)) ?_); (refine sassign rfl ?_); apply jW) | refine ret_b rfl ?_))
    · rw [eq_comm, decide_eq_false_iff_not]; rintro rfl; simp at hc
    · exact ⟨k + 1, ⟨by omega, by omega, take_eq_succ (by omega) (by omega) hb hc⟩, ⟨[0, 1, 2, 3], ToR.S rfl (by repeat' (first | exact rt_nil | refine rt_t rfl rfl ?_ | refine rt_e rfl rfl ?_)) (by repeat' (first | exact ro_nil | refine ro_p rfl (by first | exact rfl | fail) (by first | (simp [bdL, bdL_append, AV.bd]; done) | fail) ?_)) rfl (by (rw [hm]; exact rfl)) rfl (by (simp [bdT, AV.bd, bdL, bdL_append]; done)) (by repeat' (first | exact True.intro | refine And.intro ?_ ?_ | (simp [bdOq, bdL, bdL_append, AV.bd]; done))) (by (rw [hm]; exact Nat.le_of_ble_eq_true rfl))⟩⟩
    · have hr : nth a.rules i = nth b.rules i := Rul.ext' f1 (eq_of_takes (by omega) (by omega) hb) f2
      exact ⟨i + 1, ⟨by omega, by omega, take_eq_succ (by omega) (by omega) hall hr⟩, ⟨[0, 1], ToR.S rfl (by repeat' (first | exact rt_nil | refine rt_t rfl rfl ?_ | refine rt_e rfl rfl ?_)) (by repeat' (first | exact ro_nil | refine ro_p rfl (by first | exact rfl | fail) (by first | (simp [bdL, bdL_append, AV.bd]; done) | fail) ?_)) rfl (by (rw [hm]; exact rfl)) rfl (by (simp [bdT, AV.bd, bdL, bdL_append]; done)) (by repeat' (first | exact True.intro | refine And.intro ?_ ?_ | (simp [bdOq, bdL, bdL_append, AV.bd]; done))) (by (rw [hm]; exact Nat.le_of_ble_eq_true rfl))⟩⟩
  rw [eq_comm, decide_eq_true_iff]
  exact Gram.ext' e1 e2 e3 (eq_of_takes (by omega) (by omega) hall)
end Go.Lg

namespace Go.Lg
structure DRes where
  st : DSt
  rules : List Rul
  nums : List Int
def stepA (d : DEn) (i : Nat) (x : DRes) (a : GAl) : DRes := ⟨(d.symE a.body x.st).2, x.rules ++ [⟨i, (d.symE a.body x.st).1, a.price⟩], x.nums ++ [(x.rules.length : Int)]⟩
def DRes.reset (x : DRes) : DRes := ⟨⟨0, x.st.extra, x.st.ok⟩, x.rules, x.nums⟩
def daltTo (d : DEn) (i : Nat) (x : DRes) (l : List GAl) : Nat → DRes
  | 0 => x
  | k + 1 => stepA d i (daltTo d i x l k) (nth l k)
def envOf (f : GFi) (terms : List ByteArray) (r : GRu) : DEn := ⟨terms, f.rules.map GRu.name, r.name⟩
def drulTo (f : GFi) (terms : List ByteArray) : Nat → DRes
  | 0 => ⟨⟨0, [], true⟩, [], []⟩
  | k + 1 => daltTo (envOf f terms (nth f.rules k)) k (drulTo f terms k).reset (nth f.rules k).alts (nth f.rules k).alts.length
def extR (nn : Nat) (j : Nat) (bs : List (List Int)) : List Rul := bs.map fun b => ⟨(nn : Int) + j, b, 0⟩
def extsTo (nn : Nat) (ex : List (ByteArray × List (List Int))) : Nat → List Rul
  | 0 => []
  | k + 1 => extsTo nn ex k ++ extR nn k (nth ex k).2
def namesX (f : GFi) (ex : List (ByteArray × List (List Int))) : List ByteArray := f.rules.map GRu.name ++ ex.map (·.1)
def desugarG (f : GFi) (terms : List ByteArray) (x : DRes) : Gram := ⟨terms, namesX f x.st.extra, idx (f.rules.map GRu.name) f.start, x.rules ++ extsTo f.rules.length x.st.extra x.st.extra.length⟩
def desugarN (f : GFi) (x : DRes) : List Int := x.nums ++ List.replicate (extsTo f.rules.length x.st.extra x.st.extra.length).length (-1)
def failG : Gram := ⟨[], [], 0, []⟩
def desugarP (f : GFi) (terms : List ByteArray) : Gram × List Int × Int :=
  if !(validF f && termsOk terms) then (failG, [], 1)
  else if !(drulTo f terms f.rules.length).st.ok then (failG, [], 4)
  else if (f.rules.map GRu.name).any (fun s => terms.any fun x => decide (s = x)) then (failG, [], 14)
  else if !validG (desugarG f terms (drulTo f terms f.rules.length)) then (failG, [], 11)
  else (desugarG f terms (drulTo f terms f.rules.length), desugarN f (drulTo f terms f.rules.length), 0)
def cntA (l : List GAl) : Nat → Nat
  | 0 => 0
  | k + 1 => cntA l k + nodE (nth l k).body
def cntF (f : GFi) : Nat → Nat
  | 0 => 0
  | k + 1 => cntF f k + cntA (nth f.rules k).alts (nth f.rules k).alts.length
theorem daltTo_ext (d : DEn) (i : Nat) (x : DRes) (l : List GAl) : ∀ k, x.st.extra.length ≤ (daltTo d i x l k).st.extra.length ∧ (daltTo d i x l k).st.extra.length ≤ x.st.extra.length + cntA l k ∧ x.st.count ≤ (daltTo d i x l k).st.count ∧ (daltTo d i x l k).st.count ≤ x.st.count + cntA l k ∧ (daltTo d i x l k).rules.length = x.rules.length + k ∧ (daltTo d i x l k).nums.length = x.nums.length + k
  | 0 => by simp [daltTo, cntA]
  | k + 1 => by
    have h := daltTo_ext d i x l k
    have h1 := d.sym_ext (nth l k).body (daltTo d i x l k).st
    have h2 := d.symE_cnt (nth l k).body (daltTo d i x l k).st
    simp only [daltTo, stepA, cntA, List.length_append, List.length_cons, List.length_nil]
    omega
theorem drulTo_ext (f : GFi) (terms : List ByteArray) : ∀ k, (drulTo f terms k).st.extra.length ≤ cntF f k
  | 0 => by simp [drulTo, cntF]
  | k + 1 => by
    have h := drulTo_ext f terms k
    have h1 := daltTo_ext (envOf f terms (nth f.rules k)) k (drulTo f terms k).reset (nth f.rules k).alts (nth f.rules k).alts.length
    have hr : (drulTo f terms k).reset.st.extra = (drulTo f terms k).st.extra := rfl
    rw [hr] at h1
    simp only [drulTo, cntF]
    omega
theorem cntA_mono (l : List GAl) : ∀ {j k : Nat}, j ≤ k → cntA l j ≤ cntA l k := by
  intro j k h
  induction k with
  | zero => obtain rfl : j = 0 := by omega
            exact Nat.le_refl _
  | succ k ih =>
    by_cases e : j = k + 1
    · subst e; exact Nat.le_refl _
    · have := ih (by omega); rw [cntA]; omega
theorem cntF_mono (f : GFi) : ∀ {j k : Nat}, j ≤ k → cntF f j ≤ cntF f k := by
  intro j k h
  induction k with
  | zero => obtain rfl : j = 0 := by omega
            exact Nat.le_refl _
  | succ k ih =>
    by_cases e : j = k + 1
    · subst e; exact Nat.le_refl _
    · have := ih (by omega); rw [cntF]; omega
theorem cntA_len (l : List GAl) : ∀ k, k ≤ cntA l k
  | 0 => Nat.le_refl _
  | k + 1 => by have := cntA_len l k; have := nodE_pos (nth l k).body; rw [cntA]; omega
theorem drulTo_len (f : GFi) (terms : List ByteArray) : ∀ k, (drulTo f terms k).rules.length ≤ cntF f k ∧ (drulTo f terms k).nums.length = (drulTo f terms k).rules.length
  | 0 => by simp [drulTo, cntF]
  | k + 1 => by
    have h := drulTo_len f terms k
    have h1 := daltTo_ext (envOf f terms (nth f.rules k)) k (drulTo f terms k).reset (nth f.rules k).alts (nth f.rules k).alts.length
    have h2 := cntA_len (nth f.rules k).alts (nth f.rules k).alts.length
    have hr : (drulTo f terms k).reset.rules = (drulTo f terms k).rules := rfl
    have hs : (drulTo f terms k).reset.nums = (drulTo f terms k).nums := rfl
    rw [hr, hs] at h1
    simp only [drulTo, cntF]
    omega
end Go.Lg

namespace Go.Lg
def bodN (ex : List (ByteArray × List (List Int))) : Nat := (ex.map fun x => x.2.length).sum
theorem bodN_app (a b : List (ByteArray × List (List Int))) : bodN (a ++ b) = bodN a + bodN b := by simp [bodN]
theorem bodN_set : ∀ (l : List (ByteArray × List (List Int))) (i : Nat) (x : ByteArray × List (List Int)), bodN (l.set i x) ≤ bodN l + x.2.length
  | [], i, x => by simp [bodN]
  | y :: l, 0, x => by simp [bodN]; omega
  | y :: l, i + 1, x => by
    have := bodN_set l i x
    simp only [List.set_cons_succ]
    simp only [bodN, List.map_cons, List.sum_cons] at *
    omega
theorem finB_len (k self : Int) (bs : List (List Int)) : (finB k self bs).length ≤ bs.length + 2 := by
  unfold finB
  split
  · simp
  · split
    · simp
    · split
      · simp
      · omega
theorem DEn.symE_bod (d : DEn) (e : GEx) : ∀ s : DSt, bodN (d.symE e s).2.extra + 1 ≤ bodN s.extra + 4 * nodE e := by
  induction e using GEx.ind with
  | h e ih =>
    have hL : ∀ l : List GEx, (∀ x, x ∈ l → x ∈ e.kids) → ∀ s : DSt, bodN (d.symL l s).2.extra + l.length ≤ bodN s.extra + 4 * nodL l := by
      intro l
      induction l with
      | nil => intro _ s; rw [DEn.symL]; simp
      | cons x l ihl =>
        intro hl s
        have h1 := ih x (hl x (by simp)) s
        have h2 := ihl (fun y hy => hl y (by simp [hy])) (d.symE x s).2
        rw [DEn.symL, nodL]
        simp only [List.length_cons]
        omega
    intro s
    rw [DEn.symE_eq, nodE_eq]
    split
    · have := d.sym_len e.name s
      simp only [this.1]
      omega
    · split
      · have := hL _ (fun _ h => h) s
        simp only
        omega
      · have h1 := bodN_set (d.symL e.kids (d.start s)).2.extra s.extra.length (d.newName (s.count + 1), finB e.kind (d.self s) (d.symL e.kids (d.start s)).1)
        have h2 := finB_len e.kind (d.self s) (d.symL e.kids (d.start s)).1
        rw [d.symL_len] at h2
        have h4 := hL e.kids (fun _ h => h) (d.start s)
        have h5 : bodN (d.start s).extra = bodN s.extra := by simp only [DEn.start]; rw [bodN_app]; simp [bodN]
        simp only at h1 ⊢
        omega
theorem daltTo_bod (d : DEn) (i : Nat) (x : DRes) (l : List GAl) : ∀ k, bodN (daltTo d i x l k).st.extra ≤ bodN x.st.extra + 4 * cntA l k
  | 0 => by simp [daltTo, cntA]
  | k + 1 => by
    have h := daltTo_bod d i x l k
    have h1 := d.symE_bod (nth l k).body (daltTo d i x l k).st
    simp only [daltTo, stepA, cntA]
    omega
theorem drulTo_bod (f : GFi) (terms : List ByteArray) : ∀ k, bodN (drulTo f terms k).st.extra ≤ 4 * cntF f k
  | 0 => by simp [drulTo, cntF, bodN]
  | k + 1 => by
    have h := drulTo_bod f terms k
    have h1 := daltTo_bod (envOf f terms (nth f.rules k)) k (drulTo f terms k).reset (nth f.rules k).alts (nth f.rules k).alts.length
    have hr : (drulTo f terms k).reset.st.extra = (drulTo f terms k).st.extra := rfl
    rw [hr] at h1
    simp only [drulTo, cntF]
    omega
theorem extR_len (nn j : Nat) (bs : List (List Int)) : (extR nn j bs).length = bs.length := by simp [extR]
theorem extsTo_len (nn : Nat) (ex : List (ByteArray × List (List Int))) : ∀ k, k ≤ ex.length → (extsTo nn ex k).length = bodN (ex.take k)
  | 0, _ => by simp [extsTo, bodN]
  | k + 1, h => by
    rw [extsTo, List.length_append, extsTo_len nn ex k (by omega), extR_len, take_succ_nth (by omega), bodN_app]
    simp [bodN]
theorem bodN_take (ex : List (ByteArray × List (List Int))) (k : Nat) : bodN (ex.take k) ≤ bodN ex := by
  have := bodN_app (ex.take k) (ex.drop k)
  rw [List.take_append_drop] at this
  omega
theorem extsTo_step {nn j : Nat} {ex : List (ByteArray × List (List Int))} {i : Nat} (h : i < ex.length) (hj : j ≤ (nth ex i).2.length) : (extsTo nn ex i).length + j ≤ bodN ex := by
  have h1 := extsTo_len nn ex (i + 1) (by omega)
  rw [extsTo, List.length_append, extR_len] at h1
  have := bodN_take ex (i + 1)
  omega
theorem extR_take {nn j i : Nat} {bs : List (List Int)} (h : j < bs.length) : (extR nn i bs).take (j + 1) = (extR nn i bs).take j ++ [⟨(nn : Int) + i, nth bs j, 0⟩] := by
  rw [take_succ_nth (by rw [extR_len]; exact h)]
  congr 1
  unfold extR
  rw [nth_map _ h]
def rulX (nn : Nat) (x : DRes) (k : Nat) : List Rul := x.rules ++ extsTo nn x.st.extra k
def numX (nn : Nat) (x : DRes) (k : Nat) : List Int := x.nums ++ List.replicate (extsTo nn x.st.extra k).length (-1)
def namX (nms : List ByteArray) (x : DRes) (k : Nat) : List ByteArray := nms ++ (x.st.extra.take k).map (·.1)
theorem rulX_zero (nn : Nat) (x : DRes) : rulX nn x 0 = x.rules := by simp [rulX, extsTo]
theorem numX_zero (nn : Nat) (x : DRes) : numX nn x 0 = x.nums := by simp [numX, extsTo]
theorem namX_zero (nms : List ByteArray) (x : DRes) : namX nms x 0 = nms := by simp [namX]
theorem rulX_succ (nn : Nat) (x : DRes) (k : Nat) : rulX nn x (k + 1) = rulX nn x k ++ (extR nn k (nth x.st.extra k).2).take (nth x.st.extra k).2.length := by
  have : (extR nn k (nth x.st.extra k).2).take (nth x.st.extra k).2.length = extR nn k (nth x.st.extra k).2 := List.take_of_length_le (by rw [extR_len]; exact Nat.le_refl _)
  rw [this]
  simp [rulX, extsTo]
theorem numX_succ (nn : Nat) (x : DRes) (k : Nat) : numX nn x (k + 1) = numX nn x k ++ List.replicate (nth x.st.extra k).2.length (-1) := by
  simp only [numX, extsTo, List.length_append, extR_len, List.append_assoc, List.replicate_append_replicate]
theorem namX_succ (nms : List ByteArray) (x : DRes) {k : Nat} (h : k < x.st.extra.length) : namX nms x (k + 1) = namX nms x k ++ [(nth x.st.extra k).1] := by
  unfold namX
  rw [take_succ_nth h]
  simp
theorem rulX_len {nn : Nat} {x : DRes} {k j : Nat} (h : k < x.st.extra.length) (hj : j ≤ (nth x.st.extra k).2.length) : (rulX nn x k).length + j ≤ x.rules.length + bodN x.st.extra := by
  have := extsTo_step (nn := nn) h hj
  simp only [rulX, List.length_append]
  omega
theorem numX_len {nn : Nat} {x : DRes} {k j : Nat} (h : k < x.st.extra.length) (hj : j ≤ (nth x.st.extra k).2.length) : (numX nn x k).length + j ≤ x.nums.length + bodN x.st.extra := by
  have := extsTo_step (nn := nn) h hj
  simp only [numX, List.length_append, List.length_replicate]
  omega
theorem namX_len (nms : List ByteArray) (x : DRes) (k : Nat) : (namX nms x k).length ≤ nms.length + x.st.extra.length := by
  simp only [namX, List.length_append, List.length_map, List.length_take]
  omega
theorem finB_ne {k self : Int} {bs : List (List Int)} (h : bs ≠ []) : finB k self bs ≠ [] := by
  unfold finB
  split
  · simp
  · split
    · simp
    · split
      · simp
      · exact h
theorem DEn.symE_ne (d : DEn) (e : GEx) : wellE e = true → ∀ (s : DSt) (i : Nat) (x : ByteArray × List (List Int)), s.extra.length ≤ i → (d.symE e s).2.extra[i]? = some x → x.2 ≠ [] := by
  induction e using GEx.ind with
  | h e ih =>
    have hL : ∀ l : List GEx, (∀ x, x ∈ l → x ∈ e.kids ∧ wellE x = true) → ∀ (s : DSt) (i : Nat) (x : ByteArray × List (List Int)), s.extra.length ≤ i → (d.symL l s).2.extra[i]? = some x → x.2 ≠ [] := by
      intro l
      induction l with
      | nil =>
        intro _ s i x hi hx
        rw [DEn.symL] at hx
        rw [List.getElem?_eq_none hi] at hx
        cases hx
      | cons y l ihl =>
        intro hl s i x hi hx
        rw [DEn.symL] at hx
        simp only at hx
        by_cases hlt : i < (d.symE y s).2.extra.length
        · rw [d.symL_old l _ i hlt] at hx
          exact ih y (hl y (by simp)).1 (hl y (by simp)).2 s i x hi hx
        · exact ihl (fun z hz => hl z (by simp [hz])) (d.symE y s).2 i x (by omega) hx
    intro hw s i x hi hx
    rw [wellE_eq, Bool.and_eq_true, wellL_all, List.all_eq_true] at hw
    rw [DEn.symE_eq] at hx
    split at hx
    · rw [(d.sym_len e.name s).1, List.getElem?_eq_none hi] at hx
      cases hx
    · split at hx
      · exact hL _ (fun z hz => ⟨hz, hw.2 z hz⟩) s i x hi hx
      · rename_i h1 h2
        have hk : e.kids ≠ [] := by
          intro h0
          have := hw.1
          simp [h0, h1, h2] at this
        by_cases hi0 : i = s.extra.length
        · subst hi0
          rw [List.getElem?_set] at hx
          simp only [if_true] at hx
          split at hx
          · injection hx with hx
            subst hx
            refine finB_ne fun h0 => hk ?_
            have := d.symL_len e.kids (d.start s)
            rw [h0] at this
            exact List.eq_nil_of_length_eq_zero this.symm
          · cases hx
        · rw [List.getElem?_set_ne (fun h => hi0 h.symm)] at hx
          exact hL e.kids (fun z hz => ⟨hz, hw.2 z hz⟩) (d.start s) i x (by simp [DEn.start]; omega) hx
theorem mem_get {α : Type} {l : List α} {x : α} (h : x ∈ l) : ∃ i : Nat, l[i]? = some x := List.mem_iff_getElem?.1 h
theorem daltTo_ne (d : DEn) (i : Nat) (x : DRes) (l : List GAl) (hl : ∀ a, a ∈ l → wellE a.body = true) (hx : ∀ y, y ∈ x.st.extra → y.2 ≠ []) : ∀ k, k ≤ l.length → ∀ y, y ∈ (daltTo d i x l k).st.extra → y.2 ≠ []
  | 0, _ => hx
  | k + 1, h => by
    intro y hy
    obtain ⟨n, hn⟩ := mem_get hy
    simp only [daltTo, stepA] at hn
    by_cases hlt : n < (daltTo d i x l k).st.extra.length
    · rw [d.symE_old _ _ n hlt] at hn
      exact daltTo_ne d i x l hl hx k (by omega) y (List.mem_of_getElem? hn)
    · exact d.symE_ne _ (hl _ (nth_mem (by omega))) _ n y (by omega) hn
theorem drulTo_ne (f : GFi) (terms : List ByteArray) (hw : ∀ r, r ∈ f.rules → ∀ a, a ∈ r.alts → wellE a.body = true) : ∀ k, k ≤ f.rules.length → ∀ y, y ∈ (drulTo f terms k).st.extra → y.2 ≠ []
  | 0, _ => by simp [drulTo]
  | k + 1, h => daltTo_ne (envOf f terms (nth f.rules k)) k (drulTo f terms k).reset (nth f.rules k).alts (hw _ (nth_mem (by omega))) (drulTo_ne f terms hw k (by omega)) _ (Nat.le_refl _)
theorem replicate_snoc (j : Nat) (a : Int) : List.replicate (j + 1) a = List.replicate j a ++ [a] := by rw [List.replicate_succ']
end Go.Lg

namespace Go.Lg
theorem well_of_ok (e : GEx) : ∀ d : Int, okE e d = true → wellE e = true := by
  induction e using GEx.ind with
  | h e ih =>
    intro d h
    rw [okE_eq] at h
    rw [wellE_eq, wellL_all]
    simp only [Bool.and_eq_true, List.all_eq_true] at h ⊢
    refine ⟨?_, fun x hx => ih x hx _ (h.2 x hx)⟩
    have h1 := h.1.2
    unfold okK at h1
    cases hk : e.kids with
    | nil =>
      rw [hk] at h1
      by_cases a1 : e.kind = 1
      · simp [a1]
      · by_cases a2 : e.kind = 2
        · simp [a2]
        · simp [a1, a2] at h1
    | cons x l => simp
theorem valid_well {f : GFi} (h : validF f = true) : ∀ r, r ∈ f.rules → ∀ a, a ∈ r.alts → wellE a.body = true := by
  intro r hr a ha
  unfold validF at h
  simp only [Bool.and_eq_true] at h
  have h1 := List.all_eq_true.1 h.1.1.1.1.2 r hr
  unfold gruleOk at h1
  simp only [Bool.and_eq_true] at h1
  have h2 := List.all_eq_true.1 h1.2 a ha
  unfold altOk at h2
  simp only [Bool.and_eq_true] at h2
  exact well_of_ok _ _ h2.2
theorem valid_name {f : GFi} (h : validF f = true) : ∀ r, r ∈ f.rules → r.name.size ≤ 100000 := by
  intro r hr
  obtain ⟨k, hk, e⟩ := List.mem_iff_getElem.1 hr
  have e2 : nth f.rules k = r := by rw [nth_eq hk, e]
  cases hg : gnOk r.name with
  | true =>
    unfold gnOk at hg
    simp only [Bool.and_eq_true, decide_eq_true_eq] at hg
    omega
  | false =>
    have := rules_no1 hk (by rw [e2]; exact hg)
    rw [this] at h; cases h
end Go.Lg

namespace Go.Lg
theorem nodesG_ge (m : Int) : ∀ (l : List GEx) (n : Int), n ≤ nodesG l m n
  | [], n => by rw [nodesG]; omega
  | e :: l, n => by
    rw [nodesG]
    split
    · have h1 := nodesG_ge m l (n + nodesR e (m - n))
      have h2 := nodesR_bd e (m - n) (by omega)
      omega
    · omega
theorem nodesR_le (e : GEx) : ∀ m : Int, nodesR e m ≤ m → (nodE e : Int) ≤ nodesR e m := by
  induction e using GEx.ind with
  | h e ih =>
    intro m hm
    have key : ∀ (l : List GEx), (∀ x, x ∈ l → x ∈ e.kids) → ∀ n : Int, nodesG l m n ≤ m → n + nodL l ≤ nodesG l m n := by
      intro l
      induction l with
      | nil => intro _ n _; rw [nodesG, nodL]; omega
      | cons x l ihl =>
        intro hl n h
        rw [nodesG] at h ⊢
        split
        · rename_i hn
          rw [if_pos hn] at h
          have h1 := ihl (fun y hy => hl y (by simp [hy])) _ h
          have h2 := nodesG_ge m l (n + nodesR x (m - n))
          have h3 := ih x (hl x (by simp)) (m - n) (by omega)
          rw [nodL]
          omega
        · rename_i hn
          rw [if_neg hn] at h
          exact absurd h hn
    rw [nodesR_eq] at hm ⊢
    have := key e.kids (fun _ h => h) 1 hm
    rw [nodE_eq]
    omega
theorem szA_le (r : GRu) (m n : Int) : ∀ k, szA r m n k ≤ m → n + k + (cntA r.alts k : Int) ≤ szA r m n k
  | 0, _ => by rw [szA, cntA]; omega
  | k + 1, h => by
    rw [szA] at h ⊢
    split
    · rename_i hle
      rw [if_pos hle] at h
      have h1 := szA_le r m n k hle
      have h2 := nodesR_le (nth r.alts k).body (m - szA r m n k) (by omega)
      rw [cntA]
      omega
    · rename_i hle; rw [if_neg hle] at h; exact absurd h hle
theorem szR_le (f : GFi) (m : Int) (h0 : 0 ≤ szL f m f.levels.length) : ∀ i, szR f m i ≤ m → (i : Int) + (cntF f i : Int) ≤ szR f m i
  | 0, _ => by rw [szR, cntF]; omega
  | i + 1, h => by
    rw [szR] at h ⊢
    split
    · rename_i hle
      rw [if_pos hle] at h
      have h1 := szR_le f m h0 i hle
      have h2 := szA_le (nth f.rules i) m (szR f m i + 1) (nth f.rules i).alts.length h
      rw [cntF]
      omega
    · rename_i hle; rw [if_neg hle] at h; exact absurd h hle
theorem cnt_small {f : GFi} (hT : TokB f) {m : Int} (h0 : 0 ≤ m) (h : sizeF f m ≤ m) : (f.rules.length : Int) + (cntF f f.rules.length : Int) ≤ m := by
  have h1 := szL_bd f hT m h0 f.levels.length (Nat.le_refl _)
  unfold sizeF at h
  have := szR_le f m h1.1 f.rules.length h
  omega
theorem desugarP_ok {f : GFi} {terms : List ByteArray} (h : (desugarP f terms).2.2 = 0) : validF f = true ∧ (drulTo f terms f.rules.length).st.ok = true ∧ validG (desugarG f terms (drulTo f terms f.rules.length)) = true ∧ desugarP f terms = (desugarG f terms (drulTo f terms f.rules.length), desugarN f (drulTo f terms f.rules.length), 0) := by
  by_cases h1 : (validF f && termsOk terms) = true
  · by_cases h2 : (drulTo f terms f.rules.length).st.ok = true
    · by_cases h3 : ((f.rules.map GRu.name).any fun s => terms.any fun x => decide (s = x)) = true
      · unfold desugarP at h
        rw [if_neg (by rw [h1]; decide), if_neg (by rw [h2]; decide), if_pos h3] at h
        cases h
      · by_cases h4 : validG (desugarG f terms (drulTo f terms f.rules.length)) = true
        · refine ⟨(Bool.and_eq_true _ _ ▸ h1).1, h2, h4, ?_⟩
          unfold desugarP
          rw [if_neg (by rw [h1]; decide), if_neg (by rw [h2]; decide), if_neg h3, if_neg (by rw [h4]; decide)]
        · unfold desugarP at h
          rw [if_neg (by rw [h1]; decide), if_neg (by rw [h2]; decide), if_neg h3, if_pos (by simpa using h4)] at h
          cases h
    · unfold desugarP at h
      rw [if_neg (by rw [h1]; decide), if_pos (by simpa using h2)] at h
      cases h
  · unfold desugarP at h
    rw [if_pos (by rw [Bool.not_eq_true']; exact Bool.eq_false_iff.2 h1)] at h
    cases h
def altN (f : GFi) : Nat → Nat
  | 0 => 0
  | i + 1 => altN f i + (nth f.rules i).alts.length
end Go.Lg

namespace Go.Lg
def encT (t : List UInt8) (b : Bool) : List UInt8 := if b then [40] ++ t ++ [41] else t
def reqP (k : Int) (x : GEx) : Bool := if k = 2 then decide (x.kind = 2) || decide (x.kind = 3) else if k = 3 then decide (x.kind = 3) || decide (x.kind = 2) && decide ((x.kids.length : Int) = 0) else !decide (x.kind = 1)
def sepT (k : Int) : List UInt8 := if k = 2 then [32] else if k = 3 then [32, 124, 32] else []
def tailT (k : Int) (n : ByteArray) : List UInt8 := if k = 1 then bl n else if k = 4 then [63] else if k = 5 then [42] else if k = 6 then [43] else []
mutual
def exT : GEx → List UInt8
  | .mk k n l => kidsT k false l ++ tailT k n
def kidsT (k : Int) (more : Bool) : List GEx → List UInt8
  | [] => []
  | e :: l => ((if more then sepT k else []) ++ encT (exT e) (reqP k e)) ++ kidsT k true l
end
def wPrice : List UInt8 := [32, 112, 114, 105, 99, 101, 32]
def prT (p : Int) : List UInt8 := if p = 0 then [] else wPrice ++ Lib.itoa p
def bodT (e : GEx) : List UInt8 := if ¬ e.kind = 2 ∨ 0 < (e.kids.length : Int) then [32] ++ encT (exT e) (decide (e.kind = 3)) else []
def altT (a : GAl) : List UInt8 := bodT a.body ++ prT a.price
def altsT (l : List GAl) : Nat → List UInt8
  | 0 => []
  | i + 1 => altsT l i ++ ((if i = 0 then [] else [32, 124]) ++ altT (nth l i))
end Go.Lg

namespace Go.Lg
open Go.Proofs
open Go.RowKit
set_option maxRecDepth 20000
section
variable {P : Program} {n M : Nat} {l : List (Nat × AV)} {os : List (Nat × Option AObj)} {e : List Bool} {a : Operand} {ty : TypeId} {ti tj : TI}
theorem ap_conv_r1 {src : TypeId} {z : Int} {id : Nat} [h0 : TIc P src tj] [h : TIc P ty ti] (ha : Rq n l e a (.ref id 1 0 1)) (ho : lookq M os id = some (.arr 1 [.val (.int .u8 z)])) (hz : 0 ≤ z ∧ z ≤ 255) (hk : ti.kind = none) (hs : ti.sh = .string) (hb : b8 P ti = false) (hb' : b8 P tj = true) : Ap P n l M os e (.convert src ty a) (.val (.string (strB [UInt8.ofNat z.toNat]))) := by
  refine ap_conv_ref ha ?_ rfl hk hs hb hb'
  rw [ho]
  have : byteA (UInt8.ofNat z.toNat) = .val (.int .u8 z) := by
    simp only [byteA]
    have h1 : ((UInt8.ofNat z.toNat).toNat : Int) = z := by
      rw [UInt8.toNat_ofNat']
      omega
    rw [h1]
  rw [List.map_cons, List.map_nil, this]
end
end Go.Lg

namespace Go.Lg
open Go.Proofs
set_option linter.unusedSimpArgs false
set_option linter.unusedVariables false
attribute [local irreducible] Ap Rq asemC WP RunD Ret Gq thenA inBlockA bodyQ noGotoA RqL RqP OpP
set_option maxHeartbeats 8000000
set_option maxRecDepth 20000
attribute [local simp] AV.cells altA
theorem decDigits_step {u : Nat} (h : 0 < u / 10) : Lib.decDigits u = Lib.decDigits (u / 10) ++ [UInt8.ofNat (48 + u % 10)] := by
  rw [Lib.decDigits]
  split
  · omega
  · rfl
theorem decDigits_lt {u : Nat} (h : u / 10 = 0) : Lib.decDigits u = [UInt8.ofNat (48 + u % 10)] := by
  rw [Lib.decDigits_one (by omega), Nat.mod_eq_of_lt (by omega)]
theorem dec_inv {u : Nat} {s r : List UInt8} (h : Lib.decDigits u ++ s = r) : (if u / 10 = 0 then [UInt8.ofNat (48 + u % 10)] ++ s = r else Lib.decDigits (u / 10) ++ ([UInt8.ofNat (48 + u % 10)] ++ s) = r) := by
  split
  · rename_i h0; rw [← decDigits_lt h0]; exact h
  · rename_i h0; rw [← List.append_assoc, ← decDigits_step (by omega)]; exact h
theorem tmod10 (n : Nat) : (n : Int).tmod 10 = ((n % 10 : Nat) : Int) := by rw [Int.tmod_eq_emod_of_nonneg (by omega)]; omega
theorem tdiv10 (n : Nat) : (n : Int).tdiv 10 = ((n / 10 : Nat) : Int) := by rw [Int.tdiv_eq_ediv_of_nonneg (by omega)]; omega
theorem decimal_fn (n : Nat) (hn : n ≤ 1000) : Fn Tryd.prog 65 [intA (n : Int)] (strA (tx (Lib.itoa n))) := by
  rw [Lib.itoa_nonneg]
  have t1 := tmod10 n
  have t2 := tdiv10 n
  refine Fn.intro rfl (by kernel_rfl) Tryd.func65 rfl rfl Tryd.ntmps65 (by exact Nat.le_of_ble_eq_true rfl) ?_; intro Γ hm
  (repeat' (first | apply jA | apply jF | apply jH | (refine WP.regionC (id := 0) ?_; (refine sassign rfl ?_); apply jW) | (refine WP.regionC (id := 1) ?_; (refine smove rfl ?_); (refine su (arem rfl rfl (by omega)) ?_); (refine sadd rfl rfl (by exact inr_i64_of (by omega)) ?_); (refine su (aconv rfl rfl (by kernel_rfl) (by exact inr_u8_of (by omega))) ?_); (refine se_lit (OpP.cons rfl (OpP.nil)) rfl rfl rfl rfl rfl rfl ?_); (refine su (ap_conv_r1 (rq_p rfl rfl) rfl (by omega) rfl rfl (by kernel_rfl) (by kernel_rfl)) ?_); (refine sassign rfl ?_); apply jW) | (refine WP.regionC (id := 2) ?_; (refine smove rfl ?_); (refine su (aquo rfl rfl (And.intro (by decide) (by exact inr_i64_of (by omega)))) ?_); (refine sassign rfl ?_); apply jW)))
  rw [t1, t2]
  have h0 : strB [UInt8.ofNat ((48 : Int) + ((n % 10 : Nat) : Int)).toNat] = tx [UInt8.ofNat (48 + n % 10)] := by
    rw [show ((48 : Int) + ((n % 10 : Nat) : Int)).toNat = 48 + n % 10 by omega]; rfl
  rw [h0]
  refine wp_loop (fun (x : Nat × List UInt8) => x.1 ≤ 1000 ∧ x.2.length ≤ 1000 - x.1 ∧ (if x.1 = 0 then x.2 = Lib.decDigits n else Lib.decDigits x.1 ++ x.2 = Lib.decDigits n)) (fun x => x.1)
    (fun x => (S 25 [(0, intA (x.1 : Nat)), (3, strA (tx x.2))] 0 [])) (n / 10, [UInt8.ofNat (48 + n % 10)]) ⟨[], ToR.S rfl (by repeat' (first | exact rt_nil | refine rt_e rfl rfl ?_)) (by repeat' (exact ro_nil)) rfl (by (rw [hm]; exact rfl)) rfl (by (simp [bdT, AV.bd, bdL, bdL_append]; done)) (by repeat' (exact True.intro)) (by (rw [hm]; exact Nat.le_of_ble_eq_true rfl))⟩ ⟨by dsimp only; omega, by simp; omega, ?_⟩ ?_
  · dsimp only
    split
    · rename_i hz; exact (decDigits_lt hz).symm
    · rename_i hz; exact (decDigits_step (by omega)).symm
  rintro ⟨m, s⟩ ⟨hm1, hm2, hm3⟩
  dsimp only at *
  have t1 := tmod10 m
  have t2 := tdiv10 m
  have hsz : (tx s).size = s.length := tx_size s
  by_cases hz : m = 0
  · subst hz
    rw [if_pos rfl] at hm3
    subst hm3
    (repeat' (first | apply jA | apply jH | apply jJ | apply jK | apply jL | apply jP | apply jS | (refine wp_cond rfl (fun hc => ?_) (fun hc => ?_) <;> (try simp only [sB, ne_eq, reduceCtorEq] at hc) <;> (try (exfalso; omega))) | (refine WP.regionC (id := 3) ?_; (refine smove rfl ?_); (refine su (agtr rfl rfl) ?_); apply jW) | (refine WP.regionC (id := 6) ?_; (refine smove rfl ?_); (refine sassign rfl ?_); apply jW) | exact ret_eq rfl rfl rfl))
  · rw [if_neg hz] at hm3
    have hsb : (strB [UInt8.ofNat ((48 : Int) + (m : Int).tmod 10).toNat]).size = 1 := rfl
    (repeat' (first | apply jA | apply jF | apply jH | apply jI | apply jN | (refine wp_cond rfl (fun hc => ?_) (fun hc => ?_) <;> (try simp only [sB, ne_eq, reduceCtorEq] at hc) <;> (try (exfalso; omega))) | (refine WP.regionC (id := 3) ?_; (refine smove rfl ?_); (refine su (agtr rfl rfl) ?_); apply jW) | (refine WP.regionC (id := 5) ?_; (refine smove rfl ?_); (refine su (arem rfl rfl (by omega)) ?_); (refine sadd rfl rfl (by exact inr_i64_of (by omega)) ?_); (refine su (aconv rfl rfl (by kernel_rfl) (by exact inr_u8_of (by omega))) ?_); (refine se_lit (OpP.cons rfl (OpP.nil)) rfl rfl rfl rfl rfl rfl ?_); (refine su (ap_conv_r1 (rq_p rfl rfl) rfl (by omega) rfl rfl (by kernel_rfl) (by kernel_rfl)) ?_); (refine smove rfl ?_); (refine su (acat rfl rfl (by omega)) ?_); (refine sassign rfl ?_); apply jW) | (refine WP.regionC (id := 4) ?_; (refine smove rfl ?_); (refine su (aquo rfl rfl (And.intro (by decide) (by exact inr_i64_of (by omega)))) ?_); (refine sassign rfl ?_); apply jW)))
    rw [t1, t2]
    have h0 : strB [UInt8.ofNat ((48 : Int) + ((m % 10 : Nat) : Int)).toNat] ++ tx s = tx ([UInt8.ofNat (48 + m % 10)] ++ s) := by
      rw [show ((48 : Int) + ((m % 10 : Nat) : Int)).toNat = 48 + m % 10 by omega]; exact tx_app _ _
    rw [h0]
    refine ⟨(m / 10, [UInt8.ofNat (48 + m % 10)] ++ s), ⟨by dsimp only; omega, by dsimp only; omega, by simp; omega, dec_inv hm3⟩, ⟨[], ToR.S rfl (by repeat' (first | exact rt_nil | refine rt_e rfl rfl ?_)) (by repeat' (exact ro_nil)) rfl (by (rw [hm]; exact rfl)) rfl (by (simp [bdT, AV.bd, bdL, bdL_append]; done)) (by repeat' (exact True.intro)) (by (rw [hm]; exact Nat.le_of_ble_eq_true rfl))⟩⟩
end Go.Lg

namespace Go.Lg
open Go.RowKit
section
variable {P : Program} {Γ : Cx} {ρ : Nat → Option Nat} {s : St} {a : Act} {w : World}
def mvR (M : Nat) (b : Option Nat) (ρ : Nat → Option Nat) (i : Nat) : Option Nat := if i = M then b else ρ i
theorem mvR_lt {M i : Nat} {b : Option Nat} {ρ : Nat → Option Nat} (h : i < M) : mvR M b ρ i = ρ i := if_neg (by omega)
theorem mvR_M {M : Nat} {b : Option Nat} {ρ : Nat → Option Nat} : mvR M b ρ M = b := if_pos rfl
theorem SRa.moveR {M : Nat} (h : SRa Γ (fun id => id < M) ρ s a w) (hM : s.objs.length = M) {i j k k' f m : Nat} {cs es : List AV} (hi : s.live i (.arr k' [.agg cs])) (hj : s.live j (.arr k es)) (hij : i ≠ j) (hf : cs[f]? = some (.ref j k 0 m)) :
    SRa Γ (fun id => id < M + 1) (mvR M (ρ j) ρ) ⟨s.tmps, ((s.objs.set j none).set i (some (.arr k' [.agg (cs.set f (.ref M k 0 m))]))) ++ [some (.arr k es)]⟩ a w := by
  have hiM : i < M := by rw [← hM]; exact live_len hi
  have hjM : j < M := by rw [← hM]; exact live_len hj
  have hlv : ∀ id o, St.live ⟨s.tmps, ((s.objs.set j none).set i (some (.arr k' [.agg (cs.set f (.ref M k 0 m))]))) ++ [some (.arr k es)]⟩ id o → (s.live id o ∧ id < M ∧ id ≠ i ∧ id ≠ j) ∨ (id = i ∧ o = .arr k' [.agg (cs.set f (.ref M k 0 m))]) ∨ (id = M ∧ o = .arr k es) := by
    intro id o hl
    simp only [St.live] at hl
    by_cases h1 : id < M
    · rw [List.getElem?_append_left (by simp; omega)] at hl
      by_cases h2 : id = i
      · subst h2; rw [List.getElem?_set_self (by simp; omega)] at hl; simp at hl; exact .inr (.inl ⟨rfl, hl.symm⟩)
      · rw [List.getElem?_set_ne (fun e => h2 e.symm)] at hl
        by_cases h3 : id = j
        · subst h3; rw [List.getElem?_set_self (by omega)] at hl; simp at hl
        · rw [List.getElem?_set_ne (fun e => h3 e.symm)] at hl; exact .inl ⟨hl, h1, h2, h3⟩
    · rw [List.getElem?_append_right (by simp; omega)] at hl
      simp only [List.length_set, hM] at hl
      by_cases h2 : id = M
      · subst h2; simp at hl; exact .inr (.inr ⟨rfl, hl.symm⟩)
      · have : (1 : Nat) ≤ id - M := by omega
        rw [List.getElem?_eq_none (by simpa using this)] at hl; cases hl
  have hA' : ∀ id, id < M → id < M + 1 ∧ mvR M (ρ j) ρ id = ρ id := fun id hid => ⟨by omega, mvR_lt hid⟩
  have hI : ∀ b, Im Γ ρ s w b → Im Γ (mvR M (ρ j) ρ) ⟨s.tmps, ((s.objs.set j none).set i (some (.arr k' [.agg (cs.set f (.ref M k 0 m))]))) ++ [some (.arr k es)]⟩ w b ∧ w.heap[b]? = w.heap[b]? := by
    rintro b ⟨h1, h2, h3⟩
    refine ⟨⟨h1, h2, fun id o hl => ?_⟩, rfl⟩
    rcases hlv id o hl with ⟨q, hq, _, _⟩ | ⟨rfl, _⟩ | ⟨rfl, _⟩
    · rw [mvR_lt hq]; exact h3 id o q
    · rw [mvR_lt hiM]; exact h3 _ _ hi
    · rw [mvR_M]; exact h3 _ _ hj
  refine h.turn rfl hA' hI (fun _ _ hn => hn) ?_ ?_ ?_ ?_ ?_ h.fr
  · intro id o hl
    rcases hlv id o hl with ⟨q, hq, _, _⟩ | ⟨rfl, rfl⟩ | ⟨rfl, rfl⟩
    · rw [mvR_lt hq]
      exact (h.obj id o q).mono hA' hI (fun _ _ hn => hn) (fun _ _ => rfl)
    · rw [mvR_lt hiM]
      have ho := h.obj _ _ hi
      cases hr : ρ id with
      | none =>
        rw [hr] at ho
        rcases ho with q | ⟨k, q⟩ <;> cases q
      | some b =>
        rw [hr] at ho
        obtain ⟨c0, t0, q1, q2, q3, q4, q5⟩ := ho
        have hfl : flat [AV.agg cs] = cs := by simp [flat, AV.cells]
        have hfl2 : flat [AV.agg (cs.set f (.ref M k 0 m))] = cs.set f (.ref M k 0 m) := by simp [flat, AV.cells]
        rw [hfl] at q2 q4 q5
        refine ⟨c0, t0, q1, by rw [hfl2, List.length_set]; exact q2, fun e he => ?_, fun p v hp hv => ?_, fun p x v hx hv => ?_⟩
        · rw [List.mem_singleton] at he
          subst he
          have := q3 (.agg cs) (by simp)
          simpa [AV.cells] using this
        · rw [hfl2, List.length_set] at hp
          exact q4 p v hp hv
        · rw [hfl2, List.getElem?_set] at hx
          by_cases hpf : f = p
          · subst hpf
            have hlt : f < cs.length := (List.getElem?_eq_some_iff.1 hf).1
            simp only [if_true, hlt] at hx
            injection hx with hx
            subst hx
            have q6 := q5 f _ v hf hv
            cases q6 with
            | ref hA hb hl' hcs hm => exact .ref (Nat.lt_succ_self _) (by rw [mvR_M]; exact hb) hl' hcs hm
            | refn hA hb => exact .refn (Nat.lt_succ_self _) (by rw [mvR_M]; exact hb)
          · rw [if_neg hpf] at hx
            exact (q5 p x v hx hv).mono hA' hI (fun _ _ hn => hn)
    · rw [mvR_M]
      exact (h.obj _ _ hj).mono hA' hI (fun _ _ hn => hn) (fun _ _ => rfl)
  · intro id o hl
    rcases hlv id o hl with ⟨q, hq, _, _⟩ | ⟨rfl, rfl⟩ | ⟨rfl, rfl⟩ <;> omega
  · intro id hid; simp; omega
  · intro id o b hl hb
    rcases hlv id o hl with ⟨q, hq, _, _⟩ | ⟨rfl, rfl⟩ | ⟨rfl, rfl⟩
    · rw [mvR_lt hq] at hb; exact h.own id o b q hb
    · rw [mvR_lt hiM] at hb; exact h.own _ _ b hi hb
    · rw [mvR_M] at hb; exact h.own _ _ b hj hb
  · have key : ∀ id o b, St.live ⟨s.tmps, ((s.objs.set j none).set i (some (.arr k' [.agg (cs.set f (.ref M k 0 m))]))) ++ [some (.arr k es)]⟩ id o → mvR M (ρ j) ρ id = some b → ∃ o', s.live (if id = M then j else id) o' ∧ ρ (if id = M then j else id) = some b := by
      intro id o b hl hb
      rcases hlv id o hl with ⟨q, hq, _, _⟩ | ⟨rfl, rfl⟩ | ⟨rfl, rfl⟩
      · rw [mvR_lt hq] at hb; rw [if_neg (by omega)]; exact ⟨o, q, hb⟩
      · rw [mvR_lt hiM] at hb; rw [if_neg (by omega)]; exact ⟨_, hi, hb⟩
      · rw [mvR_M] at hb; rw [if_pos rfl]; exact ⟨_, hj, hb⟩
    intro id id' o o' b h1 h2 h3 h4
    obtain ⟨p1, p2, p3⟩ := key id o b h1 h3
    obtain ⟨q1, q2, q3⟩ := key id' o' b h2 h4
    have e := h.inj _ _ _ _ b p2 q2 p3 q3
    have nj : ∀ id o, St.live ⟨s.tmps, ((s.objs.set j none).set i (some (.arr k' [.agg (cs.set f (.ref M k 0 m))]))) ++ [some (.arr k es)]⟩ id o → id ≠ j := by
      intro id o hl
      rcases hlv id o hl with ⟨_, _, _, q⟩ | ⟨rfl, _⟩ | ⟨rfl, _⟩
      · exact q
      · exact hij
      · omega
    have n1 := nj id o h1
    have n2 := nj id' o' h2
    split at e <;> split at e <;> omega
end
theorem wp_mvr {P : Program} {Γ : Cx} {n M : Nat} {l : List (Nat × AV)} {os : List (Nat × Option AObj)} {c : Code} {Q : Exit → St → Prop} (i j f : Nat) {k k' m : Nat} {cs es : List AV} (hi : lookq M os i = some (.arr k' [.agg cs])) (hj : lookq M os j = some (.arr k es)) (hne : Nat.beq i j = false) (hf : cs[f]? = some (.ref j k 0 m))
    (hw : WP P Γ c Q (S n l (M + 1) ((M, some (.arr k es)) :: (i, some (.arr k' [.agg (cs.set f (.ref M k 0 m))])) :: (j, none) :: os))) : WP P Γ c Q (S n l M os) := fun a w hs => by
  refine hw a w ?_
  obtain ⟨ρ, hs⟩ := hs
  have hM : (S n l M os).objs.length = M := ol_length M os
  rw [hM] at hs
  have h := hs.moveR hM (i := i) (j := j) (f := f) (m := m) (cs := cs) (es := es) (k := k) (k' := k') (St.look_some.1 (by rw [S_look]; exact hi)) (St.look_some.1 (by rw [S_look]; exact hj)) (Nat.ne_of_beq_eq_false hne) hf
  have e : (⟨(S n l M os).tmps, (((S n l M os).objs.set j none).set i (some (.arr k' [.agg (cs.set f (.ref M k 0 m))]))) ++ [some (.arr k es)]⟩ : St) = S n l (M + 1) ((M, some (.arr k es)) :: (i, some (.arr k' [.agg (cs.set f (.ref M k 0 m))])) :: (j, none) :: os) := by
    simp only [S, ol_set, ol_push]
  rw [e] at h
  refine ⟨mvR M (ρ j) ρ, ?_⟩
  have e2 : (S n l (M + 1) ((M, some (.arr k es)) :: (i, some (.arr k' [.agg (cs.set f (.ref M k 0 m))])) :: (j, none) :: os)).objs.length = M + 1 := ol_length _ _
  rw [e2]; exact h
theorem wp_nile {P : Program} {Γ : Cx} {n M : Nat} {l : List (Nat × AV)} {os : List (Nat × Option AObj)} {c : Code} {Q : Exit → St → Prop} (ido k : Nat) (pre post : List AV) {k' : Nat} (hob : lookq M os ido = some (.arr k' (pre ++ .val (.slice none 0 0) :: post)))
    (hw : WP P Γ c Q (S n l M ((ido, some (.arr k' (pre ++ .sl k [] :: post))) :: os))) : WP P Γ c Q (S n l M os) := fun a w hs => by
  refine hw a w ?_
  obtain ⟨ρ, hs⟩ := hs
  have hlook := St.look_some.1 (by rw [S_look]; exact hob : (S n l M os).look ido = some (.arr k' (pre ++ .val (.slice none 0 0) :: post)))
  have hwide : ∀ e, e ∈ pre ++ .val (.slice none 0 0) :: post → e.cells.length = k' := by
    have := hs.obj ido _ hlook
    cases hr : ρ ido with
    | none => rw [hr] at this; obtain ⟨_, h2⟩ := this.resolve_left (by simp); simp at h2
    | some b => rw [hr] at this; obtain ⟨_, _, _, _, h3, _⟩ := this; exact h3
  have f1 : flat (pre ++ .val (.slice none 0 0) :: post) = flat pre ++ .val (.slice none 0 0) :: flat post := by simp [flat, AV.cells]
  have f2 : flat (pre ++ .sl k [] :: post) = flat pre ++ .sl k [] :: flat post := by simp [flat, AV.cells]
  have h2 := hs.recell hlook (es' := pre ++ .sl k [] :: post) (by rw [f1, f2]; simp) (fun e he => by
      rcases List.mem_append.1 he with he | he
      · exact hwide e (by simp [he])
      · rcases List.mem_cons.1 he with rfl | he
        · have := hwide (.val (.slice none 0 0)) (by simp)
          simpa [AV.cells] using this
        · exact hwide e (by simp [he])) (by simp) (fun j x y hx hy v hv => by
    rw [f1] at hx
    rw [f2] at hy
    rcases Nat.lt_trichotomy j (flat pre).length with hj | hj | hj
    · rw [List.getElem?_append_left hj] at hx hy
      rw [hx] at hy; injection hy with hy; subst hy; exact hv
    · rw [List.getElem?_append_right (by omega), hj, Nat.sub_self] at hx hy
      simp only [List.getElem?_cons_zero, Option.some.injEq] at hx hy
      subst hx hy
      rw [hv.val_eq]
      exact .nils
    · obtain ⟨q, hq⟩ : ∃ q, j - (flat pre).length = q + 1 := ⟨j - (flat pre).length - 1, by omega⟩
      rw [List.getElem?_append_right (by omega), hq, List.getElem?_cons_succ] at hx hy
      rw [hx] at hy; injection hy with hy; subst hy; exact hv)
  refine ⟨ρ, ?_⟩
  have e : (S n l M os).set ido (some (.arr k' (pre ++ .sl k [] :: post))) = S n l M ((ido, some (.arr k' (pre ++ .sl k [] :: post))) :: os) := by simp [S, St.set, ol_set]
  rw [e] at h2
  simpa [S, ol_length] using h2
theorem wp_frze {P : Program} {Γ : Cx} {n M : Nat} {l : List (Nat × AV)} {os : List (Nat × Option AObj)} {c : Code} {Q : Exit → St → Prop} {id k len : Nat} {α : Type} {f : α → AV} {L : List α} (ido : Nat) (pre post : List AV) {k' : Nat} (hid : Nat.beq id ido = false) (hob : lookq M os ido = some (.arr k' (pre ++ .ref id k 0 len :: post)))
    (ho : lookq M os id = some (.arr k (L.map f))) (hl : L.length = len) (hb : ∀ x, (f x).bd 0 = true) (hk : ∀ x, (f x).cells.length = k)
    (hw : WP P Γ c Q (S n l M ((ido, some (.arr k' (pre ++ .sl k (L.map f) :: post))) :: (id, none) :: os))) : WP P Γ c Q (S n l M os) := fun a w hs => by
  refine hw a w ?_
  obtain ⟨ρ, hs⟩ := hs
  have h1 := hs.kill id
  have hne : id ≠ ido := Nat.ne_of_beq_eq_false hid
  have hlook := St.look_some.1 (by rw [S_look]; exact hob : (S n l M os).look ido = some (.arr k' (pre ++ .ref id k 0 len :: post)))
  have hob' : ((S n l M os).set id none).live ido (.arr k' (pre ++ .ref id k 0 len :: post)) := by
    have := hlook
    simp only [St.live, St.set_objs] at this ⊢
    rw [List.getElem?_set_ne hne]; exact this
  have hwide : ∀ e, e ∈ pre ++ .ref id k 0 len :: post → e.cells.length = k' := by
    have := hs.obj ido _ hlook
    cases hr : ρ ido with
    | none => rw [hr] at this; obtain ⟨_, h2⟩ := this.resolve_left (by simp); simp at h2
    | some b => rw [hr] at this; obtain ⟨_, _, _, _, h3, _⟩ := this; exact h3
  have f1 : flat (pre ++ .ref id k 0 len :: post) = flat pre ++ .ref id k 0 len :: flat post := by simp [flat, AV.cells]
  have f2 : flat (pre ++ .sl k (L.map f) :: post) = flat pre ++ .sl k (L.map f) :: flat post := by simp [flat, AV.cells]
  have h2 := h1.recell hob' (es' := pre ++ .sl k (L.map f) :: post) (by rw [f1, f2]; simp) (fun e he => by
      rcases List.mem_append.1 he with he | he
      · exact hwide e (by simp [he])
      · rcases List.mem_cons.1 he with rfl | he
        · have := hwide (.ref id k 0 len) (by simp)
          simpa [AV.cells] using this
        · exact hwide e (by simp [he])) (by simp) (fun j x y hx hy v hv => by
    rw [f1] at hx
    rw [f2] at hy
    rcases Nat.lt_trichotomy j (flat pre).length with hj | hj | hj
    · rw [List.getElem?_append_left hj] at hx hy
      rw [hx] at hy; injection hy with hy; subst hy; exact hv
    · rw [List.getElem?_append_right (by omega), hj, Nat.sub_self] at hx hy
      simp only [List.getElem?_cons_zero, Option.some.injEq] at hx hy
      subst hx hy
      exact hs.list1 (by rw [S_look]; exact ho) hl hb hk (hs.newb rfl rfl (St.look_some.1 (by rw [S_look]; exact ho))) hv
    · obtain ⟨q, hq⟩ : ∃ q, j - (flat pre).length = q + 1 := ⟨j - (flat pre).length - 1, by omega⟩
      rw [List.getElem?_append_right (by omega), hq, List.getElem?_cons_succ] at hx hy
      rw [hx] at hy; injection hy with hy; subst hy; exact hv)
  refine ⟨ρ, ?_⟩
  have e : ((S n l M os).set id none).set ido (some (.arr k' (pre ++ .sl k (L.map f) :: post))) = S n l M ((ido, some (.arr k' (pre ++ .sl k (L.map f) :: post))) :: (id, none) :: os) := by simp [S, St.set, ol_set]
  rw [e] at h2
  simpa [S, ol_length] using h2
theorem se_store_n {P : Program} {n M : Nat} {l : List (Nat × AV)} {os : List (Nat × Option AObj)} {ty : TypeId} {a b : Operand} {y : AV} {pos : String} {af : Array Edge} {ops : Array Oper} {rest : List Oper} {K : St → Prop} {α : Type} [Inhabited α] {f : α → AV} {L : List α} {ti : TI} {id k i j : Nat} {ed' : AV} [ht : TIc P ty ti] (ha : opq n l a = some (.ptr id k i j)) (ho : lookq M os id = some (.arr k (L.map f))) (hi : i < L.length) (hb : opq n l b = some y) (hs : splice ti (f (nth L i)) j y = some ed') {ty2 : TypeId}
    (hk : asemC P ops rest (S n l M ((id, some (.arr k ((L.map f).set i ed'))) :: os)) K) : asemC P ops (⟨none, .store ty a b, ty2, pos, af, none⟩ :: rest) (S n l M os) K :=
  se_store ha ho (map_nth hi) hb hs hk
end Go.Lg

namespace Go.Lg
open Go.Proofs
set_option linter.unusedSimpArgs false
set_option linter.unusedVariables false
attribute [local irreducible] Ap Rq asemC WP RunD Ret Gq thenA inBlockA bodyQ noGotoA RqL RqP OpP
set_option maxHeartbeats 8000000
set_option maxRecDepth 20000
attribute [local simp] AV.cells
def namS (d : DEn) (s : DSt) : List ByteArray := d.names ++ s.extra.map (·.1)
def newS (d : DEn) (s : DSt) : List (List Rul) := s.extra.zipIdx.map fun p => extR d.names.length p.2 p.1.2
def newA : List Rul → AV
  | [] => .val (.slice none 0 0)
  | r :: l => .sl 3 ((r :: l).map ruleA)
theorem newA_some {l : List Rul} (h : l ≠ []) : newA l = .sl 3 (l.map ruleA) := by cases l with | nil => exact absurd rfl h | cons b l => rfl
@[simp] theorem newA_bd (n : Nat) (l : List Rul) : (newA l).bd n = true := by
  cases l with
  | nil => rfl
  | cons b l => exact bdL_map (fun _ => by simp) _
@[simp] theorem newAs_bd (n : Nat) (l : List (List Rul)) : bdL n (l.map newA) = true := bdL_map (newA_bd n) l
theorem ren_newAs (π : Nat → Nat) (l : List (List Rul)) : renL π (l.map newA) = l.map newA := renL_pure (newAs_bd 0 l)
theorem ren_levelsA (π : Nat → Nat) (l : List GLe) : (levelsA l).ren π = levelsA l := ren_pure (by simp [levelsA, AV.bd])
theorem ren_grulesA (π : Nat → Nat) (l : List GRu) : (grulesA l).ren π = grulesA l := ren_pure (by simp [grulesA, AV.bd])
theorem ren_intA (π : Nat → Nat) (x : Int) : (intA x).ren π = intA x := rfl
theorem ren_strs (π : Nat → Nat) (l : List ByteArray) : renL π (l.map strA) = l.map strA := renL_pure (bdL_map (fun _ => rfl) l)
def bldA (f : GFi) (d : DEn) (s : DSt) (r w : Nat) : AObj := .arr 7 [.agg [strA f.start, levelsA f.levels, grulesA f.rules, strsA d.terms, .ref r 1 0 (namS d s).length, .ref w 1 0 (newS d s).length, intA s.count]]
def bldO (d : DEn) (s : DSt) : AObj := .arr 1 ((namS d s).map strA)
def bldW (d : DEn) (s : DSt) : AObj := .arr 1 ((newS d s).map newA)
def postB (f : GFi) (d : DEn) (s s' : DSt) (X : AV) : AV → List (Option AObj) → Prop := fun r os => r = X ∧ ∃ (mv : Bool) (ex : List ByteArray), (mv = false → namS d s ++ ex = namS d s') ∧
  os = [some (bldA f d s' (cond mv 4 1) 3), some (.arr 1 ((namS d s ++ ex).map strA)), none, some (bldW d s'), cond mv (some (bldO d s')) none]
theorem namS_start (d : DEn) (s : DSt) : namS d (d.start s) = namS d s ++ [d.newName (s.count + 1)] := by simp [namS, DEn.start]
theorem newS_start (d : DEn) (s : DSt) : newS d (d.start s) = newS d s ++ [[]] := by simp [newS, DEn.start, List.zipIdx_append, extR]
theorem namS_len (d : DEn) (s : DSt) : (namS d s).length = d.names.length + s.extra.length := by simp [namS]
theorem newS_len (d : DEn) (s : DSt) : (newS d s).length = s.extra.length := by simp [newS]
theorem fresh_fn (f : GFi) (d : DEn) (s : DSt) (c : Nat) (hc : s.count = c) (h1 : c + 1 ≤ 1000) (h2 : d.names.length + s.extra.length ≤ 100000) (h3 : d.rule.size ≤ 100000) :
    FnQ Tryd.prog 53 [.ptr 0 7 0 0, strA d.rule] [bldA f d s 1 2, bldO d s, bldW d s] (postB f d s (d.start s) (intA ((namS d s).length : Nat))) := by
  have hd := decimal_fn (c + 1) h1
  rw [show ((c + 1 : Nat) : Int) = s.count + 1 by omega] at hd
  have hit : (Lib.itoa (s.count + 1)).length ≤ 100 := Nat.le_trans (Lib.itoa_length_le _ (by omega) (by omega)) (by decide)
  have hz : (tx (Lib.itoa (s.count + 1))).size ≤ 100 := by rw [tx_size]; exact hit
  have hn := namS_len d s
  have hw := newS_len d s
  have hn1 : (namS d s ++ [d.rule ++ ⟨#[46]⟩ ++ tx (Lib.itoa (s.count + 1))]).length = (namS d s).length + 1 := by simp
  have e1 := namS_start d s
  have e2 := newS_start d s
  unfold bldA bldO bldW
  refine FnQ.intro (by kernel_rfl) Tryd.func53 rfl rfl Tryd.ntmps53 (by exact Nat.le_of_ble_eq_true rfl) ?_; intro Γ hm
  (repeat' (first | apply jA | apply jH | (refine WP.regionC (id := 0) ?_; (refine sassign rfl ?_); apply jW) | (refine WP.regionC (id := 1) ?_; (refine smove rfl ?_); (refine snilc rfl ?_); (refine sfieldp rfl rfl rfl ?_); (refine sloadp rfl rfl rfl rfl ?_); (refine sadd rfl rfl (by exact inr_i64_of (by omega)) ?_); (refine snilc rfl ?_); (refine sfieldp rfl rfl rfl ?_); (refine se_store_b rfl rfl rfl rfl ?_); apply jW)))
  (repeat' (first | apply jA | apply jH | apply jK | apply jS | (refine wp_tree (id := 2) 15 mixed rfl ?_ <;> (refine wpt_take 0 rfl still_move (by exact ap_move (rq_p rfl rfl)) (by kernel_rfl) (by kernel_rfl) (by kernel_rfl) (by repeat (first | exact pind_q | apply pind_then)) ?_; (refine wpt_take 4 rfl still_move (by exact ap_move (rq_p rfl rfl)) (by kernel_rfl) (by kernel_rfl) (by kernel_rfl) (by repeat (first | exact pind_q | apply pind_then)) ?_; (refine wpt_take 6 rfl still_move (by exact ap_move (rq_p rfl rfl)) (by kernel_rfl) (by kernel_rfl) (by kernel_rfl) (by repeat (first | exact pind_q | apply pind_then)) ?_; (refine wpt_takeNil 1 rfl rfl (by kernel_rfl) (by kernel_rfl) (by kernel_rfl) (by repeat (first | exact pind_q | apply pind_then)) ?_; (refine wpt_take 2 rfl (by exact still_fieldAddr rfl rfl) (by exact ap_field_p (rq_p rfl rfl) rfl rfl) (by kernel_rfl) (by kernel_rfl) (by kernel_rfl) (by repeat (first | exact pind_q | apply pind_then)) ?_; (refine wpt_takeCat 5 rfl rfl rfl (by (simp only [bsz, sZ] <;> omega)) (by kernel_rfl) (by kernel_rfl) (by kernel_rfl) (by repeat (first | exact pind_q | apply pind_then)) ?_; (refine wpt_takeNil 7 rfl rfl (by kernel_rfl) (by kernel_rfl) (by kernel_rfl) (by repeat (first | exact pind_q | apply pind_then)) ?_; (refine wpt_take 8 rfl (by exact still_fieldAddr rfl rfl) (by exact ap_field_p (rq_p rfl rfl) rfl rfl) (by kernel_rfl) (by kernel_rfl) (by kernel_rfl) (by repeat (first | exact pind_q | apply pind_then)) ?_; (refine wpt_takeN 9 [10, 11, 12, 13, 14] rfl (by exact ap_load_p (rq_p rfl rfl) rfl rfl rfl) (by kernel_rfl) (by kernel_rfl) (by kernel_rfl) (by kernel_rfl) (by repeat (first | exact pind_q | apply pind_then)) ?_; (refine wpt_all (rs := [3, 10]) (by kernel_rfl) rfl ⟨?_, ?_, trivial⟩ <;> (first | (refine wpo_do (i := 3) rfl rfl ?_; (refine sloadp rfl rfl rfl rfl ?_); apply jW; (refine wpt_all (rs := [10]) (by kernel_rfl) rfl ⟨?_, trivial⟩; (refine wpo_do (i := 10) rfl rfl ?_; (refine sc_p rfl rfl (by first | ((repeat' first | exact SubL.nil | refine SubL.cons ?_ ?_ | exact Sub.refl); done) | fail) (by first | (simp [bdL, bdL_append, AV.bd]; done) | fail) (hd) ?_); apply jW; (refine wpt_takeCat 11 rfl rfl rfl (by (simp only [bsz, sZ] <;> omega)) (by kernel_rfl) (by kernel_rfl) (by kernel_rfl) (by repeat (first | exact pind_q | apply pind_then)) ?_; (refine wpt_all (rs := [12]) (by kernel_rfl) rfl ⟨?_, trivial⟩; (refine wpo_do (i := 12) rfl rfl ?_; (refine se_lit (OpP.cons rfl (OpP.nil)) rfl rfl rfl rfl rfl rfl ?_); apply jW; (refine wpt_all (rs := [13]) (by kernel_rfl) rfl ⟨?_, trivial⟩; (refine wpo_op (i := 13) rfl ?_; (refine wpo_app2M rfl rfl rfl rfl rfl rfl rfl rfl (by omega) ?_ ?_ <;> (refine wpt_take 14 rfl still_assign (by exact ap_assign (rq_p rfl rfl)) (by kernel_rfl) (by kernel_rfl) (by kernel_rfl) (by repeat (first | exact pind_q | apply pind_then)) ?_; (refine wpt_end (by kernel_rfl) ?_))))))))))) | (refine wpo_do (i := 10) rfl rfl ?_; (refine sc_p rfl rfl (by first | ((repeat' first | exact SubL.nil | refine SubL.cons ?_ ?_ | exact Sub.refl); done) | fail) (by first | (simp [bdL, bdL_append, AV.bd]; done) | fail) (hd) ?_); apply jW; (refine wpt_takeCat 11 rfl rfl rfl (by (simp only [bsz, sZ] <;> omega)) (by kernel_rfl) (by kernel_rfl) (by kernel_rfl) (by repeat (first | exact pind_q | apply pind_then)) ?_; (refine wpt_all (rs := [3, 12]) (by kernel_rfl) rfl ⟨?_, ?_, trivial⟩ <;> (first | (refine wpo_do (i := 3) rfl rfl ?_; (refine sloadp rfl rfl rfl rfl ?_); apply jW; (refine wpt_all (rs := [12]) (by kernel_rfl) rfl ⟨?_, trivial⟩; (refine wpo_do (i := 12) rfl rfl ?_; (refine se_lit (OpP.cons rfl (OpP.nil)) rfl rfl rfl rfl rfl rfl ?_); apply jW; (refine wpt_all (rs := [13]) (by kernel_rfl) rfl ⟨?_, trivial⟩; (refine wpo_op (i := 13) rfl ?_; (refine wpo_app2M rfl rfl rfl rfl rfl rfl rfl rfl (by omega) ?_ ?_ <;> (refine wpt_take 14 rfl still_assign (by exact ap_assign (rq_p rfl rfl)) (by kernel_rfl) (by kernel_rfl) (by kernel_rfl) (by repeat (first | exact pind_q | apply pind_then)) ?_; (refine wpt_end (by kernel_rfl) ?_)))))))) | (refine wpo_do (i := 12) rfl rfl ?_; (refine se_lit (OpP.cons rfl (OpP.nil)) rfl rfl rfl rfl rfl rfl ?_); apply jW; (refine wpt_takeN 3 [13, 14] rfl (by exact ap_load_p (rq_p rfl rfl) rfl rfl rfl) (by kernel_rfl) (by kernel_rfl) (by kernel_rfl) (by kernel_rfl) (by repeat (first | exact pind_q | apply pind_then)) ?_; (refine wpt_all (rs := [13]) (by kernel_rfl) rfl ⟨?_, trivial⟩; (refine wpo_op (i := 13) rfl ?_; (refine wpo_app2M rfl rfl rfl rfl rfl rfl rfl rfl (by omega) ?_ ?_ <;> (refine wpt_take 14 rfl still_assign (by exact ap_assign (rq_p rfl rfl)) (by kernel_rfl) (by kernel_rfl) (by kernel_rfl) (by repeat (first | exact pind_q | apply pind_then)) ?_; (refine wpt_end (by kernel_rfl) ?_))))))))))))))))))))))) | (refine WP.regionC (id := 3) ?_; (refine smove rfl ?_); (refine snilc rfl ?_); (refine sfieldp rfl rfl rfl ?_); (refine sloadp rfl rfl rfl rfl ?_); (refine se_lit (OpP.cons rfl (OpP.nil)) rfl rfl rfl rfl rfl rfl ?_); (refine se_app rfl rfl rfl (by (simp; done)) rfl rfl rfl rfl (by (simp only [sL] <;> omega)) ?_); (refine sassign rfl ?_); apply jW) | (refine WP.regionC (id := 4) ?_; (refine smove rfl ?_); (refine smove rfl ?_); (refine smove rfl ?_); (refine smove rfl ?_); (refine snilc rfl ?_); (refine sfieldp rfl rfl rfl ?_); (refine se_store_b rfl rfl rfl rfl ?_); (refine snilc rfl ?_); (refine sfieldp rfl rfl rfl ?_); (refine se_store_b rfl rfl rfl rfl ?_); apply jW) | (refine WP.regionC (id := 5) ?_; (refine smove rfl ?_); (refine snilc rfl ?_); (refine sfieldp rfl rfl rfl ?_); (refine sloadp rfl rfl rfl rfl ?_); (refine su (alenr rfl rfl) ?_); (refine su (asub rfl rfl (by exact inr_i64_of (by omega))) ?_); (refine sassign rfl ?_); apply jW)))
  · refine retQ_L (x := intA (((namS d s ++ [d.newName (s.count + 1)]).length : Int) - 1)) (X := intA (((namS d s ++ [d.newName (s.count + 1)]).length : Int) - 1)) (k := 5) (os1 := [(0, some (.arr 7 [.agg [strA f.start, levelsA f.levels, grulesA f.rules, strsA d.terms, .ref 1 1 0 (namS d s ++ [d.newName (s.count + 1)]).length, .ref 3 1 0 ((newS d s).map newA ++ [newA []]).length, intA (s.count + 1)]])), (1, some (.arr 1 ((namS d s ++ [d.newName (s.count + 1)]).map strA))), (3, some (.arr 1 ((newS d s).map newA ++ [newA []])))]) (.tmp rfl .nil) rfl ⟨[0, 1, 2, 6, 4], ToR.S rfl (by repeat' (first | exact rt_nil | refine rt_e rfl rfl ?_)) (by repeat' (first | exact ro_nil | refine ro_p rfl (by first | exact rfl | fail) (by first | exact bdL_map (fun _ => by exact rfl) _ | (simp [bdL, bdL_append, AV.bd]; done) | fail) ?_ | refine ro_e rfl (by simp only [renL, AV.ren, ren_strsA, ren_intsA, ren_levelsA, ren_grulesA, ren_newAs, ren_intA, ren_strs]; exact rfl) ?_)) rfl rfl rfl (by (simp [bdT, AV.bd, bdL, bdL_append]; done)) (by repeat' (first | exact True.intro | refine And.intro ?_ ?_ | exact bdL_map (fun _ => by exact rfl) _ | (simp [bdOq, bdL, bdL_append, AV.bd]; done))) (by exact Nat.le_of_ble_eq_true rfl)⟩ rfl (by exact Nat.le_of_ble_eq_true rfl) rfl ?_
    refine ⟨by simp [intA], false, [d.newName (s.count + 1)], fun _ => e1.symm, ?_⟩
    unfold bldA bldO bldW
    rw [e1, e2]
    simp only [cond_false, List.map_append, List.length_append, List.length_map, List.map_cons, List.map_nil]
    exact rfl
  · refine retQ_L (x := intA (((namS d s ++ [d.newName (s.count + 1)]).length : Int) - 1)) (X := intA (((namS d s ++ [d.newName (s.count + 1)]).length : Int) - 1)) (k := 5) (os1 := [(0, some (.arr 7 [.agg [strA f.start, levelsA f.levels, grulesA f.rules, strsA d.terms, .ref 4 1 0 (namS d s ++ [d.newName (s.count + 1)]).length, .ref 3 1 0 ((newS d s).map newA ++ [newA []]).length, intA (s.count + 1)]])), (1, some (.arr 1 ((namS d s).map strA))), (3, some (.arr 1 ((newS d s).map newA ++ [newA []]))), (4, some (.arr 1 ((namS d s ++ [d.newName (s.count + 1)]).map strA)))]) (.tmp rfl .nil) rfl ⟨[0, 1, 2, 6, 4], ToR.S rfl (by repeat' (first | exact rt_nil | refine rt_e rfl rfl ?_)) (by repeat' (first | exact ro_nil | refine ro_p rfl (by first | exact rfl | fail) (by first | exact bdL_map (fun _ => by exact rfl) _ | (simp [bdL, bdL_append, AV.bd]; done) | fail) ?_ | refine ro_e rfl (by simp only [renL, AV.ren, ren_strsA, ren_intsA, ren_levelsA, ren_grulesA, ren_newAs, ren_intA, ren_strs]; exact rfl) ?_)) rfl rfl rfl (by (simp [bdT, AV.bd, bdL, bdL_append]; done)) (by repeat' (first | exact True.intro | refine And.intro ?_ ?_ | exact bdL_map (fun _ => by exact rfl) _ | (simp [bdOq, bdL, bdL_append, AV.bd]; done))) (by exact Nat.le_of_ble_eq_true rfl)⟩ rfl (by exact Nat.le_of_ble_eq_true rfl) rfl ?_
    refine ⟨by simp [intA], true, [], (fun h => by cases h), ?_⟩
    unfold bldA bldO bldW
    rw [e1, e2, List.append_nil]
    simp only [cond_true, List.map_append, List.length_append, List.length_map, List.map_cons, List.map_nil]
    exact rfl
  · refine retQ_L (x := intA (((namS d s ++ [d.newName (s.count + 1)]).length : Int) - 1)) (X := intA (((namS d s ++ [d.newName (s.count + 1)]).length : Int) - 1)) (k := 5) (os1 := [(0, some (.arr 7 [.agg [strA f.start, levelsA f.levels, grulesA f.rules, strsA d.terms, .ref 1 1 0 (namS d s ++ [d.newName (s.count + 1)]).length, .ref 3 1 0 ((newS d s).map newA ++ [newA []]).length, intA (s.count + 1)]])), (1, some (.arr 1 ((namS d s ++ [d.newName (s.count + 1)]).map strA))), (3, some (.arr 1 ((newS d s).map newA ++ [newA []])))]) (.tmp rfl .nil) rfl ⟨[0, 1, 2, 6, 4], ToR.S rfl (by repeat' (first | exact rt_nil | refine rt_e rfl rfl ?_)) (by repeat' (first | exact ro_nil | refine ro_p rfl (by first | exact rfl | fail) (by first | exact bdL_map (fun _ => by exact rfl) _ | (simp [bdL, bdL_append, AV.bd]; done) | fail) ?_ | refine ro_e rfl (by simp only [renL, AV.ren, ren_strsA, ren_intsA, ren_levelsA, ren_grulesA, ren_newAs, ren_intA, ren_strs]; exact rfl) ?_)) rfl rfl rfl (by (simp [bdT, AV.bd, bdL, bdL_append]; done)) (by repeat' (first | exact True.intro | refine And.intro ?_ ?_ | exact bdL_map (fun _ => by exact rfl) _ | (simp [bdOq, bdL, bdL_append, AV.bd]; done))) (by exact Nat.le_of_ble_eq_true rfl)⟩ rfl (by exact Nat.le_of_ble_eq_true rfl) rfl ?_
    refine ⟨by simp [intA], false, [d.newName (s.count + 1)], fun _ => e1.symm, ?_⟩
    unfold bldA bldO bldW
    rw [e1, e2]
    simp only [cond_false, List.map_append, List.length_append, List.length_map, List.map_cons, List.map_nil]
    exact rfl
  · refine retQ_L (x := intA (((namS d s ++ [d.newName (s.count + 1)]).length : Int) - 1)) (X := intA (((namS d s ++ [d.newName (s.count + 1)]).length : Int) - 1)) (k := 5) (os1 := [(0, some (.arr 7 [.agg [strA f.start, levelsA f.levels, grulesA f.rules, strsA d.terms, .ref 4 1 0 (namS d s ++ [d.newName (s.count + 1)]).length, .ref 3 1 0 ((newS d s).map newA ++ [newA []]).length, intA (s.count + 1)]])), (1, some (.arr 1 ((namS d s).map strA))), (3, some (.arr 1 ((newS d s).map newA ++ [newA []]))), (4, some (.arr 1 ((namS d s ++ [d.newName (s.count + 1)]).map strA)))]) (.tmp rfl .nil) rfl ⟨[0, 1, 2, 6, 4], ToR.S rfl (by repeat' (first | exact rt_nil | refine rt_e rfl rfl ?_)) (by repeat' (first | exact ro_nil | refine ro_p rfl (by first | exact rfl | fail) (by first | exact bdL_map (fun _ => by exact rfl) _ | (simp [bdL, bdL_append, AV.bd]; done) | fail) ?_ | refine ro_e rfl (by simp only [renL, AV.ren, ren_strsA, ren_intsA, ren_levelsA, ren_grulesA, ren_newAs, ren_intA, ren_strs]; exact rfl) ?_)) rfl rfl rfl (by (simp [bdT, AV.bd, bdL, bdL_append]; done)) (by repeat' (first | exact True.intro | refine And.intro ?_ ?_ | exact bdL_map (fun _ => by exact rfl) _ | (simp [bdOq, bdL, bdL_append, AV.bd]; done))) (by exact Nat.le_of_ble_eq_true rfl)⟩ rfl (by exact Nat.le_of_ble_eq_true rfl) rfl ?_
    refine ⟨by simp [intA], true, [], (fun h => by cases h), ?_⟩
    unfold bldA bldO bldW
    rw [e1, e2, List.append_nil]
    simp only [cond_true, List.map_append, List.length_append, List.length_map, List.map_cons, List.map_nil]
    exact rfl
  · refine retQ_L (x := intA (((namS d s ++ [d.newName (s.count + 1)]).length : Int) - 1)) (X := intA (((namS d s ++ [d.newName (s.count + 1)]).length : Int) - 1)) (k := 5) (os1 := [(0, some (.arr 7 [.agg [strA f.start, levelsA f.levels, grulesA f.rules, strsA d.terms, .ref 1 1 0 (namS d s ++ [d.newName (s.count + 1)]).length, .ref 3 1 0 ((newS d s).map newA ++ [newA []]).length, intA (s.count + 1)]])), (1, some (.arr 1 ((namS d s ++ [d.newName (s.count + 1)]).map strA))), (3, some (.arr 1 ((newS d s).map newA ++ [newA []])))]) (.tmp rfl .nil) rfl ⟨[0, 1, 2, 6, 4], ToR.S rfl (by repeat' (first | exact rt_nil | refine rt_e rfl rfl ?_)) (by repeat' (first | exact ro_nil | refine ro_p rfl (by first | exact rfl | fail) (by first | exact bdL_map (fun _ => by exact rfl) _ | (simp [bdL, bdL_append, AV.bd]; done) | fail) ?_ | refine ro_e rfl (by simp only [renL, AV.ren, ren_strsA, ren_intsA, ren_levelsA, ren_grulesA, ren_newAs, ren_intA, ren_strs]; exact rfl) ?_)) rfl rfl rfl (by (simp [bdT, AV.bd, bdL, bdL_append]; done)) (by repeat' (first | exact True.intro | refine And.intro ?_ ?_ | exact bdL_map (fun _ => by exact rfl) _ | (simp [bdOq, bdL, bdL_append, AV.bd]; done))) (by exact Nat.le_of_ble_eq_true rfl)⟩ rfl (by exact Nat.le_of_ble_eq_true rfl) rfl ?_
    refine ⟨by simp [intA], false, [d.newName (s.count + 1)], fun _ => e1.symm, ?_⟩
    unfold bldA bldO bldW
    rw [e1, e2]
    simp only [cond_false, List.map_append, List.length_append, List.length_map, List.map_cons, List.map_nil]
    exact rfl
  · refine retQ_L (x := intA (((namS d s ++ [d.newName (s.count + 1)]).length : Int) - 1)) (X := intA (((namS d s ++ [d.newName (s.count + 1)]).length : Int) - 1)) (k := 5) (os1 := [(0, some (.arr 7 [.agg [strA f.start, levelsA f.levels, grulesA f.rules, strsA d.terms, .ref 4 1 0 (namS d s ++ [d.newName (s.count + 1)]).length, .ref 3 1 0 ((newS d s).map newA ++ [newA []]).length, intA (s.count + 1)]])), (1, some (.arr 1 ((namS d s).map strA))), (3, some (.arr 1 ((newS d s).map newA ++ [newA []]))), (4, some (.arr 1 ((namS d s ++ [d.newName (s.count + 1)]).map strA)))]) (.tmp rfl .nil) rfl ⟨[0, 1, 2, 6, 4], ToR.S rfl (by repeat' (first | exact rt_nil | refine rt_e rfl rfl ?_)) (by repeat' (first | exact ro_nil | refine ro_p rfl (by first | exact rfl | fail) (by first | exact bdL_map (fun _ => by exact rfl) _ | (simp [bdL, bdL_append, AV.bd]; done) | fail) ?_ | refine ro_e rfl (by simp only [renL, AV.ren, ren_strsA, ren_intsA, ren_levelsA, ren_grulesA, ren_newAs, ren_intA, ren_strs]; exact rfl) ?_)) rfl rfl rfl (by (simp [bdT, AV.bd, bdL, bdL_append]; done)) (by repeat' (first | exact True.intro | refine And.intro ?_ ?_ | exact bdL_map (fun _ => by exact rfl) _ | (simp [bdOq, bdL, bdL_append, AV.bd]; done))) (by exact Nat.le_of_ble_eq_true rfl)⟩ rfl (by exact Nat.le_of_ble_eq_true rfl) rfl ?_
    refine ⟨by simp [intA], true, [], (fun h => by cases h), ?_⟩
    unfold bldA bldO bldW
    rw [e1, e2, List.append_nil]
    simp only [cond_true, List.map_append, List.length_append, List.length_map, List.map_cons, List.map_nil]
    exact rfl
end Go.Lg

namespace Go.Lg
open Go.Proofs
set_option linter.unusedSimpArgs false
set_option linter.unusedVariables false
attribute [local irreducible] Ap Rq asemC WP RunD Ret Gq thenA inBlockA bodyQ noGotoA RqL RqP OpP
set_option maxHeartbeats 4000000
set_option maxRecDepth 20000
def rowsA (l : List (List Int)) : AV := .sl 1 (l.map intsA)
def bodA : List (List Int) → AV
  | [] => .val (.slice none 0 0)
  | b :: l => .sl 1 ((b :: l).map intsA)
theorem bodA_some {l : List (List Int)} (h : l ≠ []) : bodA l = .sl 1 (l.map intsA) := by cases l with | nil => exact absurd rfl h | cons b l => rfl
def extraA (x : ByteArray × List (List Int)) : AV := .agg [strA x.1, bodA x.2]
def mkA (d : DEn) (s : DSt) (r : Nat) : AObj := .arr 6 [.agg [strsA d.terms, strsA d.names, strA d.rule, intA s.count, .ref r 2 0 s.extra.length, boolA s.ok]]
def rowA (s : DSt) : AObj := .arr 2 (s.extra.map extraA)
@[simp] theorem rowsA_bd (n : Nat) (l : List (List Int)) : (rowsA l).bd n = true := bdL_map (fun _ => by simp) _
@[simp] theorem bodA_bd (n : Nat) (l : List (List Int)) : (bodA l).bd n = true := by
  cases l with
  | nil => rfl
  | cons b l => exact bdL_map (fun _ => by simp) _
@[simp] theorem extraA_bd (n : Nat) (x : ByteArray × List (List Int)) : (extraA x).bd n = true := by simp [extraA, AV.bd, bdL]
@[simp] theorem extras_bd (n : Nat) (l : List (ByteArray × List (List Int))) : bdL n (l.map extraA) = true := bdL_map (extraA_bd n) l
@[simp] theorem ints_bd (n : Nat) (l : List (List Int)) : bdL n (l.map intsA) = true := bdL_map (fun _ => by simp) _
theorem ren_extras (π : Nat → Nat) (l : List (ByteArray × List (List Int))) : renL π (l.map extraA) = l.map extraA := renL_pure (extras_bd 0 l)
theorem ren_rows (π : Nat → Nat) (l : List (List Int)) : renL π (l.map intsA) = l.map intsA := renL_pure (ints_bd 0 l)
attribute [local simp] mkA rowA
theorem idx_bd (l : List ByteArray) (s : ByteArray) (h : l.length ≤ 9223372036854775807) : -1 ≤ idx l s ∧ idx l s ≤ 9223372036854775806 := by
  unfold idx indexP
  cases hf : l.findIdx? fun x => decide (s = x) with
  | none => simp only; omega
  | some i =>
    have := (List.findIdx?_eq_some_iff_getElem.1 hf).1
    simp only; omega
theorem symbol_fn (d : DEn) (s : DSt) (n : ByteArray) (h1 : d.terms.length ≤ 9223372036854775807) (h2 : d.names.length ≤ 9223372036854775807) :
    FnO Tryd.prog 43 [.ptr 0 6 0 0, strA n] [mkA d s 1, rowA s] (intA (d.sym n s).1) [some (mkA d (d.sym n s).2 1), some (rowA s)] := by
  have b1 := idx_bd d.terms n h1
  have b2 := idx_bd d.names n h2
  unfold mkA rowA
  refine FnO.intro (by exact Nat.le_of_ble_eq_true rfl) rfl (by kernel_rfl) Tryd.func43 rfl rfl Tryd.ntmps43 (by exact Nat.le_of_ble_eq_true rfl) ?_; intro Γ hm
  by_cases hi : 0 ≤ idx d.names n
  · have e : d.sym n s = (-1 - idx d.names n, s) := by unfold DEn.sym; rw [if_pos hi]
    rw [e]
    (repeat' (first | apply jA | apply jH | apply jK | apply jM | apply jS | (refine wp_cond rfl (fun hc => ?_) (fun hc => ?_) <;> (try simp only [sB, ne_eq, reduceCtorEq] at hc) <;> (try (exfalso; omega))) | (refine WP.regionC (id := 0) ?_; (refine sassign rfl ?_); apply jW) | (refine WP.regionC (id := 1) ?_; (refine smove rfl ?_); (refine snilc rfl ?_); (refine sfieldp rfl rfl rfl ?_); (refine sloadp rfl rfl rfl rfl ?_); (refine smove rfl ?_); (refine sc_p rfl rfl (by first | ((repeat' first | exact SubL.nil | refine SubL.cons ?_ ?_ | exact Sub.refl); done) | fail) (by first | (simp [bdL, bdL_append, AV.bd]; done) | fail) (index_fn _ _) ?_); (refine sassign rfl ?_); apply jW) | (refine WP.regionC (id := 2) ?_; (refine smove rfl ?_); (refine su (ageq rfl rfl) ?_); apply jW) | (refine WP.regionC (id := 3) ?_; (refine smove rfl ?_); (refine su (asub rfl rfl (by exact inr_i64_of (by omega))) ?_); (refine sassign rfl ?_); apply jW)))
    refine retO_L (x := intA (-1 - idx d.names n)) (k := 2) (os1 := [(0, some (mkA d s 1)), (1, some (rowA s))]) (.tmp rfl .nil) rfl ⟨[0, 1], ToR.S rfl (by repeat' (first | exact rt_nil | refine rt_e rfl rfl ?_)) (by repeat' (first | exact ro_nil | refine ro_p rfl (by first | exact rfl | fail) (by first | exact bdL_map (fun _ => by simp [AV.bd, bdL, bdL_append]) _ | fail) ?_ | refine ro_e rfl (by simp only [renL, AV.ren, ren_strsA, ren_intsA]; exact rfl) ?_)) rfl rfl rfl (by (simp [bdT, AV.bd, bdL, bdL_append]; done)) (by repeat' (first | exact True.intro | refine And.intro ?_ ?_ | exact bdL_map (fun _ => by simp [AV.bd, bdL, bdL_append]) _ | (simp [bdOq, bdL, bdL_append, AV.bd]; done))) (by exact Nat.le_of_ble_eq_true rfl)⟩ rfl
  · have e : d.sym n s = (max (idx d.terms n) 0, ⟨s.count, s.extra, s.ok && decide (0 ≤ idx d.terms n)⟩) := by unfold DEn.sym; rw [if_neg hi]
    rw [e]
    (repeat' (first | apply jA | apply jH | apply jI | apply jK | apply jS | (refine wp_cond rfl (fun hc => ?_) (fun hc => ?_) <;> (try simp only [sB, ne_eq, reduceCtorEq] at hc) <;> (try (exfalso; omega))) | (refine WP.regionC (id := 0) ?_; (refine sassign rfl ?_); apply jW) | (refine WP.regionC ?_; (refine smove rfl ?_); (refine snilc rfl ?_); (refine sfieldp rfl rfl rfl ?_); (refine sloadp rfl rfl rfl rfl ?_); (refine smove rfl ?_); (refine sc_p rfl rfl (by first | ((repeat' first | exact SubL.nil | refine SubL.cons ?_ ?_ | exact Sub.refl); done) | fail) (by first | (simp [bdL, bdL_append, AV.bd]; done) | fail) (index_fn _ _) ?_); (refine sassign rfl ?_); apply jW) | (refine WP.regionC (id := 2) ?_; (refine smove rfl ?_); (refine su (ageq rfl rfl) ?_); apply jW) | (refine WP.regionC (id := 5) ?_; (refine smove rfl ?_); (refine smove rfl ?_); (refine snilc rfl ?_); (refine sfieldp rfl rfl rfl ?_); (refine sloadp rfl rfl rfl rfl ?_); (refine smove rfl ?_); (refine sg (gq_vt rfl rfl) (fun he => ap_move (rq_p rfl rfl)) ?_); (refine sg (gq_vt rfl rfl) (fun he => ap_geq (rq_c rfl rfl) (rq_p rfl rfl)) ?_); (refine su (ap_and (rq_p rfl rfl) (rq_c rfl rfl)) ?_); (refine snilc rfl ?_); (refine sfieldp rfl rfl rfl ?_); (refine se_store_b rfl rfl rfl rfl ?_); apply jW) | (refine WP.regionC (id := 6) ?_; (refine smove rfl ?_); (refine su (amax rfl rfl) ?_); (refine sassign rfl ?_); apply jW)))
    refine retO_L (x := intA (max (idx d.terms n) 0)) (k := 2) (os1 := [(0, some (mkA d ⟨s.count, s.extra, s.ok && decide (0 ≤ idx d.terms n)⟩ 1)), (1, some (rowA s))]) (.tmp rfl .nil) rfl ⟨[0, 1], ToR.S rfl (by repeat' (first | exact rt_nil | refine rt_e rfl rfl ?_)) (by repeat' (first | exact ro_nil | refine ro_p rfl (by first | exact rfl | fail) (by first | exact bdL_map (fun _ => by simp [AV.bd, bdL, bdL_append]) _ | fail) ?_ | refine ro_e rfl (by simp only [renL, AV.ren, ren_strsA, ren_intsA]; exact rfl) ?_)) rfl rfl rfl (by (simp [bdT, AV.bd, bdL, bdL_append]; done)) (by repeat' (first | exact True.intro | refine And.intro ?_ ?_ | exact bdL_map (fun _ => by simp [AV.bd, bdL, bdL_append]) _ | (simp [bdOq, bdL, bdL_append, AV.bd]; done))) (by exact Nat.le_of_ble_eq_true rfl)⟩ rfl
end Go.Lg

namespace Go.Lg
open Go.Proofs
set_option linter.unusedSimpArgs false
set_option linter.unusedVariables false
attribute [local irreducible] Ap Rq asemC WP RunD Ret Gq thenA inBlockA bodyQ noGotoA RqL RqP OpP
set_option maxHeartbeats 8000000
set_option maxRecDepth 20000
attribute [local simp] AV.cells
def RSym (f : GFi) (d : DEn) (e : GEx) : Prop := ∀ s : DSt, 0 ≤ s.count → s.count + nodE e ≤ 1000 → s.extra.length + nodE e ≤ 10000 →
  FnQ Tryd.prog 35 [.ptr 0 7 0 0, strA d.rule, exprA e] [bldA f d s 1 2, bldO d s, bldW d s] (postB f d s (d.symE e s).2 (intsA (d.symE e s).1))
theorem namS_of {d : DEn} {s s' : DSt} (h : s'.extra = s.extra) : namS d s' = namS d s := by unfold namS; rw [h]
theorem newS_of {d : DEn} {s s' : DSt} (h : s'.extra = s.extra) : newS d s' = newS d s := by unfold newS; rw [h]
theorem bldA_of (f : GFi) {d : DEn} {s s' : DSt} (h : s'.extra = s.extra) (hc : s'.count = s.count) (r w : Nat) : bldA f d s' r w = bldA f d s r w := by unfold bldA; rw [namS_of h, newS_of h, hc]
theorem bldO_of {d : DEn} {s s' : DSt} (h : s'.extra = s.extra) : bldO d s' = bldO d s := by unfold bldO; rw [namS_of h]
theorem bldW_of {d : DEn} {s s' : DSt} (h : s'.extra = s.extra) : bldW d s' = bldW d s := by unfold bldW; rw [newS_of h]
theorem rsym1 (f : GFi) (d : DEn) (hd : d.names = ruleNames f) (hf : f.rules.length ≤ 100000) (n : ByteArray) (l : List GEx) (hkn : 0 ≤ idx d.names n ∨ 0 ≤ idx d.terms n) : RSym f d (.mk 1 n l) := by
  intro s _ _ _
  have hr := rules19_fn f hf
  rw [← hd] at hr
  have hi1 := index19_fn d.names n
  have hi2 := index19_fn d.terms n
  have e : d.symE (.mk 1 n l) s = ([(d.sym n s).1], (d.sym n s).2) := by rw [DEn.symE, if_pos rfl]
  rw [e, exprA_mkJ]
  have hx := d.sym_len n s
  unfold postB
  simp only [bldA_of f (d := d) hx.1 hx.2, bldW_of (d := d) hx.1, bldO_of (d := d) hx.1, namS_of (d := d) hx.1]
  have hib := idx_bd d.names n (by rw [hd]; simp; omega)
  have hsy : (d.sym n s).1 = if 0 ≤ idx d.names n then -1 - idx d.names n else idx d.terms n := by
    unfold DEn.sym
    split
    · rfl
    · simp only; omega
  generalize (d.sym n s).1 = y at *
  generalize (d.sym n s).2 = z at *
  refine FnQ.intro (by kernel_rfl) Tryd.func35 rfl rfl Tryd.ntmps35 (by exact Nat.le_of_ble_eq_true rfl) ?_; intro Γ hm
  refine wp_st (S 140 [(0, .ptr 0 7 0 0), (1, strA d.rule), (2, .agg [intA 1, strA n, .sl 3 (l.map exprA)])] 3 [(0, some (bldA f d s 1 2)), (1, some (bldO d s)), (2, some (bldW d s))]) ⟨[0, 1, 2], ToR.S rfl (by repeat' (first | exact rt_nil | refine rt_t rfl rfl ?_ | refine rt_e rfl rfl ?_ | refine rt_p rfl rfl (by first | (simp [AV.bd, bdL, bdL_append]; done) | fail) ?_)) (by repeat' (first | exact ro_nil | refine ro_p rfl (by first | exact rfl | fail) (by first | exact bdL_map (fun _ => by first | exact rfl | simp [AV.bd, bdL, bdL_append]) _ | fail) ?_ | refine ro_e rfl (by simp only [renL, AV.ren, ren_strsA, ren_intsA, ren_levelsA, ren_grulesA, ren_newAs, ren_intA, ren_strs]; exact rfl) ?_)) rfl (by (rw [hm]; exact rfl)) rfl (by (simp [bdT, AV.bd, bdL, bdL_append]; done)) (by repeat' (first | exact True.intro | refine And.intro ?_ ?_ | exact bdL_map (fun _ => by first | exact rfl | simp [AV.bd, bdL, bdL_append]) _ | (simp [bdOq, bdL, bdL_append, AV.bd]; done))) (by (rw [hm]; exact Nat.le_of_ble_eq_true rfl))⟩ ?_
  refine wp_mvr 0 2 5 rfl rfl rfl rfl ?_
  (repeat' (first | apply jA | apply jH | apply jI | (refine wp_cond rfl (fun hc => ?_) (fun hc => ?_) <;> (try simp only [sB, ne_eq, reduceCtorEq] at hc) <;> (try (exfalso; omega))) | (refine WP.regionC (id := 0) ?_; (refine se_box rfl (by exact ⟨rfl, rfl⟩) ?_); (refine sassign rfl ?_); apply jW) | (refine WP.regionC (id := 1) ?_; (refine sassign rfl ?_); apply jW) | (refine WP.regionC ?_; (refine sfieldp rfl rfl rfl ?_); (refine sloadp rfl rfl rfl rfl ?_); (refine seql rfl rfl ?_); apply jW) | (refine wp_draw (id := 3) 9 mixed (by kernel_rfl) (by kernel_rfl) rfl ?_ <;> (refine rmove rfl ?_) <;> (refine rnilc rfl ?_) <;> (refine rfieldp rfl rfl rfl ?_) <;> (refine rloadp rfl rfl rfl rfl ?_) <;> (refine rd_call rfl rfl (by first | ((repeat' first | exact SubL.nil | refine SubL.cons ?_ ?_ | exact Sub.refl); done) | fail) (by first | (simp [bdL, bdL_append, AV.bd]; done) | fail) (hr) ?_) <;> (refine rfieldp rfl rfl rfl ?_) <;> (refine rloadp rfl rfl rfl rfl ?_) <;> (refine rd_call rfl rfl (by first | ((repeat' first | exact SubL.nil | refine SubL.cons ?_ ?_ | exact Sub.refl); done) | fail) (by first | (simp [bdL, bdL_append, AV.bd]; done) | fail) (hi1) ?_) <;> (refine rd_u rfl rfl (aassign rfl) ?_) <;> (refine rd_end (by kernel_rfl) ?_)) | (refine WP.regionC (id := 4) ?_; (refine smove rfl ?_); (refine su (ageq rfl rfl) ?_); apply jW) | (refine WP.regionC (id := 5) ?_; (refine smove rfl ?_); (refine su (asub rfl rfl (by exact inr_i64_of (by omega))) ?_); (refine se_lit (OpP.cons rfl (OpP.nil)) rfl rfl rfl rfl rfl rfl ?_); (refine sassign rfl ?_); apply jW) | (refine wp_draw (id := 6) 9 mixed (by kernel_rfl) (by kernel_rfl) rfl ?_ <;> (refine rmove rfl ?_) <;> (refine rnilc rfl ?_) <;> (refine rfieldp rfl rfl rfl ?_) <;> (refine rloadp rfl rfl rfl rfl ?_) <;> (refine rfieldp rfl rfl rfl ?_) <;> (refine rloadp rfl rfl rfl rfl ?_) <;> (refine rd_call rfl rfl (by first | ((repeat' first | exact SubL.nil | refine SubL.cons ?_ ?_ | exact Sub.refl); done) | fail) (by first | (simp [bdL, bdL_append, AV.bd]; done) | fail) (hi2) ?_) <;> (refine rd_lit (OpP.cons rfl (OpP.nil)) rfl rfl rfl rfl rfl rfl ?_) <;> (refine rd_u rfl rfl (aassign rfl) ?_) <;> (refine rd_end (by kernel_rfl) ?_))))
  all_goals (first | (exfalso; simp_all; done) | skip)
  · refine wp_frzm (L := [-1 - idx d.names n]) (f := intA) 6 hm rfl rfl rfl (fun _ => rfl) (fun _ => rfl) rfl ?_
    (repeat' (first | apply jK | apply jM | apply jS))
    refine retQ_L (x := intsA [-1 - idx d.names n]) (X := intsA [-1 - idx d.names n]) (k := 5) (os1 := [(0, some (bldA f d s 1 3)), (1, some (bldO d s)), (3, some (bldW d s))]) (.tmp rfl .nil) rfl ⟨[0, 1, 2, 3, 2], ToR.S rfl (by repeat' (first | exact rt_nil | refine rt_e rfl rfl ?_)) (by repeat' (first | exact ro_nil | refine ro_p rfl (by first | exact rfl | fail) (by first | exact bdL_map (fun _ => by first | exact rfl | simp [AV.bd, bdL, bdL_append]) _ | fail) ?_ | refine ro_e rfl (by simp only [renL, AV.ren, ren_strsA, ren_intsA, ren_levelsA, ren_grulesA, ren_newAs, ren_intA, ren_strs]; exact rfl) ?_)) rfl rfl rfl (by (simp [bdT, AV.bd, bdL, bdL_append]; done)) (by repeat' (first | exact True.intro | refine And.intro ?_ ?_ | exact bdL_map (fun _ => by first | exact rfl | simp [AV.bd, bdL, bdL_append]) _ | (simp [bdOq, bdL, bdL_append, AV.bd]; done))) (by exact Nat.le_of_ble_eq_true rfl)⟩ rfl (by exact Nat.le_of_ble_eq_true rfl) rfl ?_
    refine ⟨by rw [hsy, if_pos hc], false, [], fun _ => List.append_nil _, ?_⟩
    rw [List.append_nil]
    exact rfl
  · refine wp_frzm (L := [idx d.terms n]) (f := intA) 6 hm rfl rfl rfl (fun _ => rfl) (fun _ => rfl) rfl ?_
    (repeat' (first | apply jK | apply jM | apply jS))
    refine retQ_L (x := intsA [idx d.terms n]) (X := intsA [idx d.terms n]) (k := 5) (os1 := [(0, some (bldA f d s 1 3)), (1, some (bldO d s)), (3, some (bldW d s))]) (.tmp rfl .nil) rfl ⟨[0, 1, 2, 3, 2], ToR.S rfl (by repeat' (first | exact rt_nil | refine rt_e rfl rfl ?_)) (by repeat' (first | exact ro_nil | refine ro_p rfl (by first | exact rfl | fail) (by first | exact bdL_map (fun _ => by first | exact rfl | simp [AV.bd, bdL, bdL_append]) _ | fail) ?_ | refine ro_e rfl (by simp only [renL, AV.ren, ren_strsA, ren_intsA, ren_levelsA, ren_grulesA, ren_newAs, ren_intA, ren_strs]; exact rfl) ?_)) rfl rfl rfl (by (simp [bdT, AV.bd, bdL, bdL_append]; done)) (by repeat' (first | exact True.intro | refine And.intro ?_ ?_ | exact bdL_map (fun _ => by first | exact rfl | simp [AV.bd, bdL, bdL_append]) _ | (simp [bdOq, bdL, bdL_append, AV.bd]; done))) (by exact Nat.le_of_ble_eq_true rfl)⟩ rfl (by exact Nat.le_of_ble_eq_true rfl) rfl ?_
    refine ⟨by rw [hsy, if_neg (by omega)], false, [], fun _ => List.append_nil _, ?_⟩
    rw [List.append_nil]
    exact rfl
end Go.Lg

namespace Go.Lg
theorem sO : (∀ {α : Type} {β : Type} (b : α) (f : α → β), (some b).map f = some (f b)) ∧
  (∀ {α : Type} {β : Type} (f : α → β), (none : Option α).map f = none) ∧
  (∀ {π : Nat → Nat} {l : List AV}, bdL 0 l = true → renL π l = l) ∧
  (∀ {π : Nat → Nat} {x : AV}, x.bd 0 = true → x.ren π = x) ∧
  (∀ (n : Nat) (l : List Bool), bdL n (l.map boolA) = true) ∧
  (∀ (n : Nat) (l : List Int), bdL n (l.map intA) = true) ∧
  (∀ (n : Nat) (l : List ByteArray), bdL n (l.map strA) = true) ∧
  (∀ (n : Nat) (x : Bool), (boolA x).bd n = true) ∧
  (∀ (n : Nat) (x : Int), (intA x).bd n = true) ∧
  (∀ (n : Nat) (x : ByteArray), (strA x).bd n = true) ∧
  (∀ (n : Nat) (l : List Int), (intsA l).bd n = true) ∧
  (∀ (n : Nat) (l : List ByteArray), (strsA l).bd n = true) ∧
  (∀ {α : Type} {a : α} {us : List α}, (a :: us).length = us.length + 1) ∧
  (∀ {α : Type}, ([] : List α).length = 0) ∧
  (∀ {α : Type} {a : α} {us : List α} {d : α}, (a :: us).getD 0 d = a) ∧
  (∀ {α : Type} {a : α} {us : List α} {i : Nat} {d : α}, (a :: us).getD (i + 1) d = us.getD i d) ∧
  (∀ n : Nat, ¬n < n) ∧
  (∀ n : Nat, 0 < n.succ) ∧
  (∀ n : Nat, n - 0 = n) ∧
  (∀ n : Nat, n - n = 0) ∧
  (∀ n : Nat, n + 0 = n) := ⟨@Option.map_some, @Option.map_none, @renL_pure, @ren_pure, bdL_boolA, bdL_intA, bdL_strA, bd_boolA, bd_intA, bd_strA, bd_intsA, bd_strsA, @List.length_cons, @List.length_nil, @List.getD_cons_zero, @List.getD_cons_succ, Nat.lt_irrefl, Nat.zero_lt_succ, Nat.sub_zero, Nat.sub_self, Nat.add_zero⟩
theorem RenL.of {π : Nat → Nat} : ∀ {xs ys : List AV}, xs = renL π ys → RenL π xs ys
  | xs, [], h => by subst h; exact .nil
  | xs, y :: ys, h => by subst h; exact .cons rfl (RenL.of rfl)
theorem Lend.o1 {n M : Nat} {l : List (Nat × AV)} {os : List (Nat × Option AObj)} {xs ys es es' : List AV} {i k : Nat} (h1 : xs = renL (ap [i]) ys) (h : lkO i os = some (.arr k es)) (he : es = renL (ap [i]) es') (hlt : Nat.blt i M = true) (h3 : bdL 1 ys = true) (h4 : bdL 1 es' = true) : Lend [i] (Lg.S n l M os) xs ys [.arr k es'] :=
  Lend.S (RenL.of h1) (.arr h he .nil) (by simp) (by simp [hlt]) h3 ⟨h4, trivial⟩
end Go.Lg
