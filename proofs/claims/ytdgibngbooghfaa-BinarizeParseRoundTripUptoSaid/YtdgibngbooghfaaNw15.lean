/-
  Part 15 of the proof of BinarizeParseRoundTripUpto: the logic over the model, the functions' contracts and the plain laws.
-/
import Derived.Test.YtdgibngbooghfaaNw14
import Derived.Stop.Looks

set_option linter.unusedSimpArgs false
set_option linter.unusedVariables false
set_option linter.unusedSectionVars false
set_option linter.defProp false

namespace Go.Lg
open Go.RowKit
set_option linter.unusedVariables false
def OkSame {α : Type} (P : Program) (s : Sem α) : Prop := ∀ w a w', s.run P w = .ok a w' → w' = w
section
variable {P : Program}
theorem OkSame.bind {α β : Type} {s : Sem α} {f : α → Sem β} (hs : OkSame P s) (hf : ∀ a, OkSame P (f a)) : OkSame P (s >>= f) := by
  intro w b w' h
  rw [Sem.run_bind] at h
  cases hr : s.run P w with
  | ok a w1 =>
    rw [hr] at h
    have := hs _ _ _ hr
    subst this
    exact hf a _ _ _ h
  | halt x w1 => rw [hr] at h; cases h
theorem OkSame.looks {α : Type} {s : Sem α} (h : s.Looks) : OkSame P s := fun _ _ _ e => h.ok e
theorem okSame_sureAddr (x : Value) : OkSame P (Instr.sureAddr x) := by
  refine .looks ?_
  unfold Instr.sureAddr
  split <;> trivial
theorem okSame_isAgg (t : TypeId) : OkSame P (isAgg t) := by
  refine .looks ?_
  unfold isAgg
  refine (underlying_looks t).bind fun u => ?_
  split <;> trivial
theorem okSame_loadVar (t : TypeId) (a : Addr) : OkSame P (loadVar t a) := by
  unfold loadVar
  refine (okSame_isAgg t).bind fun b => ?_
  split
  · exact (OkSame.looks (sizeOf_looks t)).bind fun n => (OkSame.looks (loadCells_looks a n)).bind fun _ => .looks trivial
  · exact .looks (load_looks a _)
theorem okSame_asIntOf (v : Value) : OkSame P (asIntOf v) := by
  refine .looks ?_
  unfold asIntOf
  split <;> trivial
def NoOk {α : Type} (P : Program) (s : Sem α) : Prop := ∀ w a w', s.run P w ≠ .ok a w'
theorem NoOk.same {α : Type} {s : Sem α} (h : NoOk P s) : OkSame P s := fun w a w' e => absurd e (h w a w')
theorem NoOk.bind {α β : Type} {s : Sem α} {f : α → Sem β} (hf : ∀ a, NoOk P (f a)) : NoOk P (s >>= f) := by
  intro w b w' h
  rw [Sem.run_bind] at h
  cases hr : s.run P w with
  | ok a w1 => rw [hr] at h; exact hf a _ _ _ h
  | halt x w1 => rw [hr] at h; cases h
theorem noOk_goPanic {α : Type} (v : Value) : NoOk P (goPanic v : Sem α) := by
  intro w a w' h
  simp [goPanic] at h
theorem noOk_bounds {α : Type} (k : IntKind) (x y : Int) (c : BoundsCode) : NoOk P (boundsPanic k x y c : Sem α) := by
  have h : ∀ b, NoOk P (runtimePanic (.bounds (IntKind.i64.wrap x) y b c) : Sem α) := fun b => by
    unfold runtimePanic
    exact NoOk.bind fun p => noOk_goPanic _
  unfold boundsPanic
  dsimp only
  split
  · exact NoOk.bind h
  · exact NoOk.bind h
theorem okSame_indexAt (t : TypeId) (x ix : Value) : OkSame P (Instr.indexAt t x ix) := by
  unfold Instr.indexAt
  refine (okSame_asIntOf ix).bind fun ki => ?_
  obtain ⟨k, i⟩ := ki
  dsimp only
  refine (OkSame.looks (underlying_looks t)).bind fun u => ?_
  have fin : ∀ z : Option Addr × Nat × TypeId, OkSame P (do
      let u2 ← underlying t
      match z.1 with
      | some a =>
        if 0 ≤ i ∧ i < (z.2.1 : Int) then do
          let n ← sizeOf z.2.2
          pure (Value.pointer (some (a.add (i.toNat * n))))
        else if (decide (z.2.1 ≤ 1) && match u2 with | .array _ _ => true | _ => false) = true then unsupported (.noEntry "op/indexAddr.an index out of range at an array of length 0 or 1 (ledger 616)")
        else boundsPanic k i z.2.1 .index
      | none => boundsPanic k i 0 .index) := by
    intro z
    refine (OkSame.looks (underlying_looks t)).bind fun u2 => ?_
    split
    · split
      · exact (OkSame.looks (sizeOf_looks _)).bind fun _ => .looks trivial
      · split <;> (split; exact .looks (unsupported_looks _); exact (noOk_bounds _ _ _ _).same)
    · exact (noOk_bounds _ _ _ _).same
  split
  · exact (okSame_sureAddr _).bind fun a => (OkSame.looks (pure_looks _)).bind fin
  · exact (OkSame.looks (pure_looks _)).bind fin
  · exact (OkSame.looks (stuck_looks _)).bind fin
def Neu (P : Program) (op : Op) : Prop := ∀ (ρ : Operand → Value) (o : Oper), o.op = op → ∀ w n w', (execOp ρ o).run P w = .ok n w' → w' = w ∧ ∃ u, n = .value u
theorem neu_val {s : Sem Value} (hs : OkSame P s) {w w' : World} {n : Next} (h : (s >>= fun u => pure (Next.value u)).run P w = .ok n w') : w' = w ∧ ∃ u, n = .value u := by
  rw [Sem.run_bind] at h
  cases hr : s.run P w with
  | ok u w1 =>
    rw [hr] at h
    have := hs _ _ _ hr
    subst this
    simp at h
    exact ⟨h.2.symm, u, h.1.symm⟩
  | halt x w1 => rw [hr] at h; cases h
theorem neu_load {t : TypeId} {a : Operand} : Neu P (.load t a) := by
  rintro ρ ⟨dst, op, ty, pos, af, g⟩ rfl w n w' h
  refine neu_val (s := Instr.loadAt t (ρ a)) ?_ h
  unfold Instr.loadAt
  exact (okSame_sureAddr _).bind fun x => okSame_loadVar t x
theorem neu_move {a : Operand} : Neu P (.move a) := by
  rintro ρ ⟨dst, op, ty, pos, af, g⟩ rfl w n w' h
  simp only [execOp, Sem.run_pure] at h
  injection h with h1 h2
  exact ⟨h2.symm, _, h1.symm⟩
theorem neu_assign {a : Operand} : Neu P (.assign a) := by
  rintro ρ ⟨dst, op, ty, pos, af, g⟩ rfl w n w' h
  simp only [execOp, Sem.run_pure] at h
  injection h with h1 h2
  exact ⟨h2.symm, _, h1.symm⟩
theorem neu_index {t : TypeId} {a b : Operand} : Neu P (.indexAddr t a b) := by
  rintro ρ ⟨dst, op, ty, pos, af, g⟩ rfl w n w' h
  exact neu_val (s := Instr.indexAt t (ρ a) (ρ b)) (okSame_indexAt _ _ _) h
theorem viewAt_looksL (r : Nat) : (viewAt r).Looks := by
  unfold viewAt
  refine Sem.Looks.bind (x := shape r) (fun _ => trivial) fun o => ?_
  split
  · trivial
  · refine Sem.Looks.bind (x := getObj r) (fun _ => trivial) fun o => ?_
    split <;> trivial
theorem okSame_byteOf (a : Addr) : OkSame P (byteOf a) := by
  refine .looks ?_
  unfold byteOf
  split
  · trivial
  · refine program_looks.bind fun p => ?_
    refine Sem.Looks.bind (x := noView a) ?_ fun _ => ?_
    · unfold noView
      refine (viewAt_looksL _).bind fun v => ?_
      split <;> trivial
    · refine Sem.Looks.bind (x := shape a.block) (fun _ => trivial) fun o => ?_
      split
      · dsimp only
        split
        · trivial
        · split <;> trivial
      · trivial
theorem okSame_fieldAt (t : TypeId) (x : Value) (f : Nat) : OkSame P (Instr.fieldAt t x f) := by
  unfold Instr.fieldAt
  refine (OkSame.looks (underlying_looks t)).bind fun u => ?_
  split
  · split
    · refine (okSame_sureAddr _).bind fun a => ?_
      refine OkSame.bind (s := _) ?_ fun _ => .looks trivial
      unfold fieldPlace
      refine (OkSame.looks (sizeOf_looks _)).bind fun n => ?_
      split
      · unfold partAt
        refine (okSame_byteOf _).bind fun b => ?_
        dsimp only
        exact (okSame_byteOf _).bind fun b => .looks trivial
      · exact .looks trivial
    · exact .looks trivial
  · exact .looks trivial
theorem neu_field {t : TypeId} {a : Operand} {f : Nat} : Neu P (.fieldAddr t a f) := by
  rintro ρ ⟨dst, op, ty, pos, af, g⟩ rfl w n w' h
  exact neu_val (s := Instr.fieldAt t (ρ a) f) (okSame_fieldAt _ _ _) h
def neuB : Op → Bool
  | .load _ _ | .move _ | .assign _ | .indexAddr _ _ _ | .fieldAddr _ _ _ => true
  | _ => false
theorem neuB_ok {op : Op} (h : neuB op = true) : Neu P op := by
  unfold neuB at h
  split at h
  · exact neu_load
  · exact neu_move
  · exact neu_assign
  · exact neu_index
  · exact neu_field
  · cases h
end
section
variable {P : Program} {ops : Array Oper} {Q : Exit → Act → World → Prop} {md : Region.Mode}
def YieldsAt (P : Program) (oi : Oper) (v : Value) (a : Act) (w : World) : Prop := (execOp a.eval oi).run P w = .ok (.value v) w
theorem YieldsAt.wpOp {i : Nat} {oi : Oper} {v : Value} {a : Act} {w : World} (hi : ops[i]? = some oi) (hg : oi.guard = none) (hy : YieldsAt P oi v a w) {K : Act → World → Prop} (h : K (a.put oi.dst v) w) : wpOp P ops Q i K a w := by
  unfold Go.wpOp
  simp only [hi]
  rw [if_pos (by simp [Region.wanted, hg])]
  refine .inl ?_
  unfold Oper.wp
  rw [show (execOp a.eval oi).run P w = .ok (.value v) w from hy]
  exact h
theorem YieldsAt.same {oi : Oper} {v : Value} {a a' : Act} {w : World} (hy : YieldsAt P oi v a w) (he : execOp a'.eval oi = execOp a.eval oi) : YieldsAt P oi v a' w := by
  unfold YieldsAt at *; rw [he]; exact hy
theorem wpOp_putN {j : Nat} {oi oj : Oper} {v : Value} {w : World} (hj : ops[j]? = some oj) (hap : oi.apart ops oj = true) (hN : Neu P oj.op)
    (hsi : ∀ cs b, oi.op ≠ .select cs b) (hsj : ∀ cs b, oj.op ≠ .select cs b)
    (hQ : ∀ c a w, Q (.panic c) (a.put oi.dst v) w → Q (.panic c) a w) {K : Act → World → Prop} {a : Act}
    (hy : YieldsAt P oi v a w) (h : wpOp P ops Q j K (a.put oi.dst v) w) :
    wpOp P ops Q j (fun a' w' => w' = w ∧ YieldsAt P oi v a' w ∧ K (a'.put oi.dst v) w') a w := by
  obtain ⟨h1, h2, h3⟩ := Oper.apart_spec hap
  have keep : ∀ (a : Act), YieldsAt P oi v a w → ∀ u, YieldsAt P oi v (a.put oj.dst u) w := fun a hy u => hy.same (execOp_put oi hsi a oj.dst u h3)
  unfold wpOp at *
  simp only [hj] at *
  rw [wanted_put oj a oi.dst v h1] at h
  split
  · rename_i hw
    simp only [hw, if_true] at h
    rcases h with h | ⟨hasks, hlets⟩
    case inr => exact .inr ⟨by unfold Oper.asks at *; rw [execOp_put oj hsj a oi.dst v h1] at hasks; exact hasks, hlets⟩
    refine .inl ?_
    unfold Oper.wp at *
    rw [execOp_put oj hsj a oi.dst v h1] at h
    have hn := hN a.eval oj rfl w
    generalize (execOp a.eval oj).run P w = r at *
    cases r with
    | ok n w' =>
      obtain ⟨rfl, u, rfl⟩ := hn n w' rfl
      simp only [Oper.upon] at h ⊢
      exact ⟨trivial, keep a hy u, by rw [← Act.put_comm a v u h2]; exact h⟩
    | halt x w' =>
      cases x <;> simp only [Oper.upon] at h ⊢
      case panic u => exact hQ _ _ _ h
  · rename_i hw
    simp only [hw] at h
    exact ⟨trivial, keep a hy _, by rw [← Act.put_comm a v undef h2]; exact h⟩
theorem wpAny_firstN {i : Nat} {oi : Oper} {v : Value} {U : List Nat} {w : World} (hi : ops[i]? = some oi) (hg : oi.guard = none) (hsel : ∀ (j : Nat) (o : Oper) cs b, ops[j]? = some o → o.op ≠ .select cs b)
    (hQ : ∀ c a w, Q (.panic c) (a.put oi.dst v) w → Q (.panic c) a w)
    (hU : ∀ j, j ∈ U → ∃ oj, ops[j]? = some oj ∧ ∃ e ∈ oj.after, Region.binds md e = true ∧ (e.on = i ∨ e.on ∈ U)) :
    ∀ (fuel : Nat) (listed : Array Bool) (a : Act),
      (∀ j oj, ops[j]? = some oj → j ≠ i → listed.getD j true = false → (∀ e ∈ oj.after, Region.binds md e = true → e.on ≠ i) → oi.apart ops oj = true) →
      (∀ j oj, ops[j]? = some oj → j ≠ i → listed.getD j true = false → j ∉ U → Neu P oj.op) →
      (∀ j, j ∈ U → listed.getD j false = false) → i ∉ U →
      i ∈ Region.ready md ops listed → YieldsAt P oi v a w →
      wpAny P md ops Q fuel (listed.setIfInBounds i true) (a.put oi.dst v) w → wpAny P md ops Q (fuel + 1) listed a w := by
  intro fuel
  induction fuel with
  | zero =>
    intro listed a _ _ _ _ hr hy H
    refine ⟨fun h => (by rw [h] at hr; cases hr), fun j hj => ?_⟩
    by_cases hji : j = i
    · subst hji; exact hy.wpOp hi hg H
    · have := ready_mono hj hji
      rw [H.1] at this
      cases this
  | succ fuel ih =>
    intro listed a hfree hneu hUl hiU hr hy H
    refine ⟨fun h => (by rw [h] at hr; cases hr), fun j hj => ?_⟩
    by_cases hji : j = i
    · subst hji; exact hy.wpOp hi hg H
    · have h1 := H.2 j (ready_mono hj hji)
      obtain ⟨hjun, oj, hoj, hall⟩ := mem_ready.1 hj
      have hi0 : listed.getD i false = false := by
        have h0 := (mem_ready.1 hr).1
        rcases Nat.lt_or_ge i listed.size with h' | h'
        · simpa [h'] using h0
        · simp [Array.getElem?_eq_none h']
      have hjU : j ∉ U := fun hjU => by
        obtain ⟨oj', ho', e, he, hb, hon⟩ := hU j hjU
        rw [hoj] at ho'; injection ho' with ho'; subst ho'
        have h2 := hall e he hb
        rcases hon with hon | hon
        · rw [hon, hi0] at h2; cases h2
        · rw [hUl _ hon] at h2; cases h2
      have hnot : ∀ e ∈ oj.after, Region.binds md e = true → e.on ≠ i := fun e he hb heq => by
        have h2 := hall e he hb
        rw [heq, hi0] at h2; cases h2
      have h2 := wpOp_putN hoj (hfree j oj hoj hji hjun hnot) (hneu j oj hoj hji hjun hjU) (fun cs b => hsel i oi cs b hi) (fun cs b => hsel j oj cs b hoj) hQ hy h1
      have hun : ∀ k, (listed.setIfInBounds j true).getD k true = false → listed.getD k true = false := fun k hk => by
        by_cases hjk : j = k
        · subst hjk; exact hjun
        · rw [getD_set_ne true hjk] at hk; exact hk
      refine wpOp_mono (fun a' w' h3 => ?_) h2
      obtain ⟨rfl, h4, h5⟩ := h3
      refine ih (listed.setIfInBounds j true) a' (fun k ok hk hki hkun hno => hfree k ok hk hki (hun k hkun) hno) (fun k ok hk hki hkun hkU => hneu k ok hk hki (hun k hkun) hkU) (fun k hkU => ?_) hiU (ready_mono hr (Ne.symm hji)) h4 ?_
      · rw [getD_set_ne false (show j ≠ k from fun e => hjU (by rw [e]; exact hkU))]; exact hUl k hkU
      · rw [Array.setIfInBounds_comm _ _ hji]
        exact h5
def blockedB (md : Region.Mode) (ops : Array Oper) (listed : Array Bool) (i : Nat) (U : List Nat) : Bool :=
  (U.all fun j => !listed.getD j false && ((ops[j]?).map fun o => o.after.any fun e => Region.binds md e && (e.on == i || U.contains e.on)).getD false) && !U.contains i &&
  (List.range ops.size).all fun j => j == i || listed.getD j true || U.contains j || ((ops[j]?).map fun o => neuB o.op).getD true
theorem blocked_spec {listed : Array Bool} {i : Nat} {U : List Nat} (h : blockedB md ops listed i U = true) :
    (∀ j, j ∈ U → ∃ oj, ops[j]? = some oj ∧ ∃ e ∈ oj.after, Region.binds md e = true ∧ (e.on = i ∨ e.on ∈ U)) ∧
    (∀ j oj, ops[j]? = some oj → j ≠ i → listed.getD j true = false → j ∉ U → Neu P oj.op) ∧ (∀ j, j ∈ U → listed.getD j false = false) ∧ i ∉ U := by
  simp only [blockedB, Bool.and_eq_true, List.all_eq_true, List.mem_range, Bool.or_eq_true, Bool.not_eq_true', beq_iff_eq] at h
  obtain ⟨⟨hU, hi⟩, hN⟩ := h
  refine ⟨fun j hj => ?_, fun j oj ho hne hun hjU => ?_, fun j hj => (hU j hj).1, fun hc => by rw [List.contains_iff_mem.2 hc] at hi; cases hi⟩
  · have h2 := (hU j hj).2
    cases ho : ops[j]? with
    | none => rw [ho] at h2; cases h2
    | some oj =>
      rw [ho] at h2
      simp only [Option.map_some, Option.getD_some] at h2
      obtain ⟨e, he, hb⟩ := Array.any_eq_true'.1 h2
      simp only [Bool.and_eq_true, Bool.or_eq_true, beq_iff_eq] at hb
      exact ⟨oj, rfl, e, he, hb.1, hb.2.imp id (fun h => List.contains_iff_mem.1 h)⟩
  · have h2 := hN j (Array.getElem?_eq_some_iff.1 ho).1
    rw [ho] at h2
    simp only [hne, hun, Bool.false_eq_true, or_false, false_or, Option.map_some, Option.getD_some] at h2
    rcases h2 with h2 | h2
    · exact absurd (List.contains_iff_mem.1 h2) hjU
    · exact neuB_ok h2
end
section
variable {P : Program} {Γ : Cx} {n M : Nat} {l : List (Nat × AV)} {os : List (Nat × Option AObj)} {x : AV} {d : Tmp} {ty : TypeId} {pos : String} {af : Array Edge} {ops : Array Oper} {Q : Exit → St → Prop} {fuel : Nat} {listed : Array Bool}
theorem wpt_takeN {op : Op} (i : Nat) (U : List Nat) (ho : ops[i]? = some ⟨some d, op, ty, pos, af, none⟩) (hap : Ap P n l M os [] op x) (hs : Region.noSelect ops = true) (hf : Region.free .any ops listed i = true) (hr : (Region.ready .any ops listed).contains i = true) (hb : blockedB .any ops listed i U = true) (hQ : PInd Q)
    (hk : WPT P Γ ops Q fuel (listed.setIfInBounds i true) (S n ((d, x) :: l) M os)) : WPT P Γ ops Q (fuel + 1) listed (S n l M os) := by
  intro a w hs'
  obtain ⟨ρ, hρ⟩ := hs'
  obtain ⟨v, hrun, hrv⟩ := pure_sound (P := P) hρ (o := ⟨some d, op, ty, pos, af, none⟩) (e := []) rfl hap
  obtain ⟨b1, b2, b3, b4⟩ := blocked_spec (P := P) hb
  refine wpAny_firstN (v := v) ho rfl (Region.noSelect_spec hs) ?_ b1 fuel listed a (Region.free_spec ho hf) b2 b3 b4 (by simpa using hr) hrun ?_
  · rintro c a1 w1 ⟨s', hq, ρ', h'⟩
    by_cases hd : d < a1.tmps.size
    · have hv : a1.tmps[d]? = some a1.tmps[d] := Array.getElem?_eq_getElem hd
      refine ⟨s'.put (some d) .any, hQ _ _ _ _ hq, ρ', ?_⟩
      have h2 := h'.put (some d) (x := .any) (v := a1.tmps[d]) .any
      have e : (a1.put (some d) v).put (some d) a1.tmps[d] = a1 := by
        have e1 : (a1.put (some d) v).put (some d) a1.tmps[d] = a1.put (some d) a1.tmps[d] := by simp [Act.put]
        rw [e1]; exact act_same hv
      rw [e] at h2
      simpa [St.put] using h2
    · refine ⟨s', hq, ρ', ?_⟩
      have e : a1.put (some d) v = a1 := by
        cases a1 with | mk tm df => simp only [Act.put, Act.mk.injEq, and_true]; exact Array.setIfInBounds_eq_of_size_le (by simpa using hd)
      rwa [e] at h'
  · refine hk _ _ ⟨ρ, ?_⟩
    have h2 := hρ.put (some d) hrv
    rw [S_put] at h2
    simpa [S, ol_length] using h2
end
end Go.Lg

namespace Go.Lg
open Go.RowKit
set_option linter.unusedVariables false
section
variable {P : Program} {Γ : Cx} {A : Nat → Prop} {ρ : Nat → Option Nat} {s : St} {a : Act} {w : World}
set_option maxHeartbeats 1600000 in
theorem append_two (h : SRa Γ A ρ s a w) {t tx ty e : TypeId} {ti te : TI} (ht : tinfo P t = some ti) (he : ti.elem = some e) (hte : tinfo P e = some te) {d : TypeDesc} (hd : P.underlying tx = some d) (hd' : ∀ k, d ≠ .int k) (hz0 : (zeroA te).isSome = true)
    {y : AV} {v u : Value} {id len : Nat} {es ys : List AV} (hlook : s.look id = some (.arr te.size es)) (hel : es.length = len) (hx : RV A ρ (Im Γ ρ s w) w (.ref id te.size 0 len) v) (hy : RV A ρ (Im Γ ρ s w) w y u) (hys : srcA te s.look y = some ys) (hpos : 0 < ys.length) (hroom : room te (es.length + ys.length)) {nid : Nat} (hn : nid < s.objs.length) (hA : ¬ A nid) :
    ∃ z w', (Builtin.append_ #[t, tx] ty #[v, u]).run P w = .ok z w' ∧
      ((SRa Γ A ρ (s.set id (some (.arr te.size (es ++ ys)))) a w' ∧ RV A ρ (Im Γ ρ (s.set id (some (.arr te.size (es ++ ys)))) w') w' (.ref id te.size 0 (es ++ ys).length) z) ∨
       ∃ ρ', SRa Γ (fun i => A i ∨ i = nid) ρ' (s.set nid (some (.arr te.size (es ++ ys)))) a w' ∧ RV (fun i => A i ∨ i = nid) ρ' (Im Γ ρ' (s.set nid (some (.arr te.size (es ++ ys)))) w') w' (.ref nid te.size 0 (es ++ ys).length) z) := by
  have hu := elem_spec ht he
  obtain ⟨z0, hz0⟩ := Option.isSome_iff_exists.1 hz0
  obtain ⟨zv, _, hzc, _, _, hzl, hs0, _, i, hi, hz, hsz, hby⟩ := zeroA_spec hte hz0
  have hzcs : zv.cells.size = te.size := by rw [← Array.length_toList, hzc, hzl]
  have grow : ∀ (olds news : List Value) (es ys : List AV) (old : Nat), old < es.length + ys.length → CR A ρ (Im Γ ρ s w) w (flat es) olds → CR A ρ (Im Γ ρ s w) w (flat ys) news → (∀ e, e ∈ es → e.cells.length = te.size) → (∀ e, e ∈ ys → e.cells.length = te.size) →
      room te (es.length + ys.length) →
      let w' := w.drew.alloc (.cells (olds.toArray ++ news.toArray ++ Builtin.zeroCells zv.cells (grownCap w (es.length + ys.length) old e - (es.length + ys.length))) e)
      let ρ' := fun i => if i = nid then some w.heap.size else ρ i
      SRa Γ (fun i => A i ∨ i = nid) ρ' (s.set nid (some (.arr te.size (es ++ ys)))) a w' ∧
      csize w' w.heap.size = some (grownCap w (es.length + ys.length) old e * te.size) ∧ es.length + ys.length ≤ grownCap w (es.length + ys.length) old e ∧ grownCap w (es.length + ys.length) old e ≤ maxLen := by
    intro olds news es ys old hold ho hnw hke hky hroom w' ρ'
    have hall : ∀ e, e ∈ es ++ ys → e.cells.length = te.size := fun e he => (List.mem_append.1 he).elim (hke e) (hky e)
    have hcr : CR A ρ (Im Γ ρ s w) w (flat (es ++ ys)) (olds ++ news) := by rw [flat_append]; exact ho.append hnw
    have hfl := flat_length hall
    have hl := hcr.len
    have hrow := hcr.row hall (Builtin.zeroCells zv.cells (grownCap w (es.length + ys.length) old e - (es.length + ys.length))).toList
    have heq : (olds ++ news ++ (Builtin.zeroCells zv.cells (grownCap w (es.length + ys.length) old e - (es.length + ys.length))).toList).toArray = olds.toArray ++ news.toArray ++ Builtin.zeroCells zv.cells (grownCap w (es.length + ys.length) old e - (es.length + ys.length)) := by
      apply Array.ext'; simp
    rw [heq] at hrow
    have hge := grownCap_ge w (es.length + ys.length) old e
    have hpos : es.length + ys.length ≤ maxLen := by
      have hb := hroom.1
      have : es.length + ys.length ≤ (es.length + ys.length) * te.bytes := Nat.le_mul_of_pos_right _ (Nat.pos_of_ne_zero hroom.2)
      simp only [maxLen]; omega
    refine ⟨(h.drawn (w.drawn + 1)).newRow hn hA e (hrow.drawn _), ?_, hge, grownCap_le_maxLen w _ old e hpos⟩
    refine (csize_block (heap_alloc_new w.drew _)).trans ?_
    congr 1
    rw [← heq]
    simp only [List.size_toArray, List.length_append, hfl, Array.length_toList, size_zeroCells, hzcs] at hl ⊢
    rw [hl, ← Nat.add_mul]
    congr 1
    omega
  obtain ⟨news, hsrc, hcr, hky⟩ := srcA_sound h hy hys
  have hlive := St.look_some.1 hlook
  cases hx with
  | @ref _ _ _ _ cap b hAi hb hl hcs hm =>
    subst hel
    obtain ⟨cs, t', hblk, hrow⟩ := h.row hlook hb
    have hft := flat_length hrow.wide
    have hcap : cs.size = cap * te.size := by rw [csize_block hblk] at hcs; simpa using hcs
    have hocr := hrow.cr
    have hll := hocr.len
    have hof : ∀ d, (Builtin.firstCells i.size es.length (.slice (some ⟨b, 0 * te.size, none⟩) es.length cap)).run P { w with drawn := d } = .ok (cs.toList.take (flat es).length).toArray { w with drawn := d } := fun d => by
      refine firstCells_some i.size es.length b _ cap _ (by rw [hll, hft, hsz]) (fun j u hu => ?_) d es.length
      rw [cell_of_block hblk]
      rw [List.getElem?_take] at hu
      split at hu
      · simpa using hu
      · cases hu
    have hrun := run_append_gen (P := P) (w := w) (t := t) (tx := tx) (ty := ty) hu hd hd' hi hz hof (by rw [hsz]; exact hsrc) (by rw [hby]; exact hroom.1) (by rw [hby]; exact hroom.2)
    by_cases hle : es.length + ys.length ≤ cap
    · have hnl := hcr.len
      have hyl := flat_length hky
      have hfit : es.length * te.size + news.length ≤ cs.size := by
        rw [hnl, hyl, hcap, ← Nat.add_mul]; exact Nat.mul_le_mul_right _ hle
      have hst := run_storeCells_at P b (es.length * te.size) t' news 0 cs w hblk (by simpa using hfit) hcr.atoms
      simp only [Nat.add_zero] at hst
      have hall : ∀ e, e ∈ es ++ ys → e.cells.length = te.size := fun e he => (List.mem_append.1 he).elim (hrow.wide e) (hky e)
      have hrow2 : Row A ρ (Im Γ ρ s w) w te.size (es ++ ys) (cs.toList.take (es.length * te.size) ++ news ++ cs.toList.drop (es.length * te.size + news.length)).toArray := by
        have := (hocr.append hcr)
        rw [← flat_append, hft] at this
        exact this.row hall _
      have hw1 := h.writeRow (w' := w.setRow b (cs.toList.take (es.length * te.size) ++ news ++ cs.toList.drop (es.length * te.size + news.length)).toArray) hlive hb (by simp) rfl rfl rfl (fun c hc => setRow_grow w b c _ hc) hblk (setRow_heap w b cs _ t' (0, 0) hblk)
        (by simp only [List.size_toArray, List.length_append, List.length_take, List.length_drop, Array.length_toList]; omega) hrow2
      refine ⟨_, _, hrun.1 hle _ ?_, .inl ⟨hw1, ?_⟩⟩
      · simpa [hsz, add_lit] using hst
      · rw [List.length_append]
        have hcz := csize_block (setRow_heap w b cs (cs.toList.take (es.length * te.size) ++ news ++ cs.toList.drop (es.length * te.size + news.length)).toArray t' (0, 0) hblk)
        refine .ref hAi hb hle (hcz.trans ?_) hm
        congr 1
        rw [Nat.zero_add, ← hcap]
        simp only [List.size_toArray, List.length_append, List.length_take, List.length_drop, Array.length_toList]
        omega
    · have hg := grow _ news es ys cap (by omega) hocr hcr hrow.wide hky hroom
      obtain ⟨g1, g2, g3, g4⟩ := hg
      refine ⟨_, _, hrun.2 (by omega), .inr ⟨_, g1, ?_⟩⟩
      rw [List.length_append]
      exact .ref0 (.inr rfl) (by simp) g3 g2 g4
  | refn hAi hb =>
    have hnone := h.obj id _ hlive
    rw [hb] at hnone
    obtain ⟨k0, hk0⟩ := hnone.resolve_left (by simp)
    injection hk0 with _ hes
    subst hes
    have hrun := run_append_gen (P := P) (w := w) (t := t) (tx := tx) (ty := ty) hu hd hd' hi hz (base := none) (sLen := 0) (sCap := 0) (olds := []) (fun d => by simp [Builtin.firstCells]) (by rw [hsz]; exact hsrc) (by rw [hby]; simpa using hroom.1) (by rw [hby]; exact hroom.2)
    have hg := grow [] news [] ys 0 (by simp; omega) ⟨rfl, by simp, by simp [flat]⟩ hcr (by simp) hky (by simpa using hroom)
    simp only [List.length_nil, Nat.zero_add, List.nil_append] at hg hrun
    obtain ⟨g1, g2, g3, g4⟩ := hg
    exact ⟨_, _, hrun.2 (by omega), .inr ⟨_, g1, .ref0 (.inr rfl) (by simp) g3 g2 g4⟩⟩
end
section
variable {P : Program} {Γ : Cx} {n M : Nat} {l : List (Nat × AV)} {os : List (Nat × Option AObj)} {x X : AV} {d t : Tmp} {ty : TypeId} {pos : String} {af : Array Edge} {ops : Array Oper} {rest : List Oper} {K : St → Prop} {Q : Exit → St → Prop} {a b : Operand} {g : FuncId} {first cap xa ys : List AV} {f : Operand} {args : Array Operand} {tys : Array TypeId}
theorem wpo_app2 {i : Nat} {te tj : TI} {tx ty2 : TypeId} {k bt id len : Nat} {es zs : List AV} {y : AV} [ht : TEl P ty te k bt] [h3 : TIc P tx tj] (hop : ops[i]? = some ⟨some d, .call ⟨.builtin .append, #[a, b], #[ty, tx]⟩, ty2, pos, af, none⟩)
    (hsh : (match tj.sh with | .int => false | _ => true) = true) (ha : opq n l a = some (.ref id k 0 len)) (ho : lookq M os id = some (.arr k es)) (hl : es.length = len)
    (hb : opq n l b = some y) (hy : srcA te (lookq M os) y = some zs) (hpos : 0 < zs.length) (hz0 : (zeroA te).isSome = true) (hbt : Nat.beq bt 0 = false) (hr : (es.length + zs.length) * bt ≤ 140737488355328)
    (h1 : K (S n ((d, .ref id k 0 (es ++ zs).length) :: l) (M + 1) ((id, some (.arr k (es ++ zs))) :: (M, none) :: os)))
    (h2 : K (S n ((d, .ref M k 0 (es ++ zs).length) :: l) (M + 1) ((M, some (.arr k (es ++ zs))) :: os))) : WPO P Γ ops Q i K (S n l M os) := by
  obtain ⟨ti, el, g1, he, hs, g4, hsz, hbz⟩ := ht.h
  subst hsz
  intro ac w hs0
  unfold wpOp
  rw [hop]
  simp only
  rw [if_pos (by simp [Region.wanted])]
  refine .inl ?_
  obtain ⟨ρ, hρ⟩ := hs0
  have hM : (S n l M os).objs.length = M := ol_length M os
  have hroom := hρ.room'
  have e0 : ({ S n l M os with objs := (S n l M os).objs ++ [none] } : St) = S n l (M + 1) ((M, none) :: os) := by simp only [S]; rw [ol_push]
  rw [e0, hM] at hroom
  have hsh' : ¬ tj.sh = .int := by intro h; rw [h] at hsh; cases hsh
  obtain ⟨dd, hd, hd'⟩ := sh_not_int h3.h hsh'
  have hb0 : te.bytes ≠ 0 := by rw [hbz]; exact Nat.ne_of_beq_eq_false hbt
  have hrm : room te (es.length + zs.length) := ⟨by rw [hbz]; exact hr, hb0⟩
  have hidM : id < M := by
    unfold lookq at ho
    cases h : Nat.blt id M with
    | true => exact blt_of h
    | false => rw [h] at ho; simp at ho
  have hlk : ∀ j, j < M → lookq (M + 1) ((M, none) :: os) j = lookq M os j := fun j hj => by
    rw [← S_look n l, ← S_look n l]
    simp only [St.look, S]
    rw [← ol_push, List.getElem?_append_left (by rw [ol_length]; exact hj)]
  have hx := hroom.eval a
  have hyv := hroom.eval b
  have hopa : (S n l (M + 1) ((M, none) :: os)).op a = .ref id te.size 0 len := opq_op ha
  have hopb : (S n l (M + 1) ((M, none) :: os)).op b = y := opq_op hb
  rw [hopa] at hx
  rw [hopb] at hyv
  have hlook : (S n l (M + 1) ((M, none) :: os)).look id = some (.arr te.size es) := by rw [S_look, hlk id hidM]; exact ho
  have hys : srcA te (S n l (M + 1) ((M, none) :: os)).look y = some zs := by
    have e1 : ∀ j o, lookq M os j = some o → (S n l (M + 1) ((M, none) :: os)).look j = some o := fun j o hj => by
      have hjM : j < M := by
        unfold lookq at hj
        cases h : Nat.blt j M with
        | true => exact blt_of h
        | false => rw [h] at hj; simp at hj
      rw [S_look, hlk j hjM]; exact hj
    cases y with
    | ref id2 k2 off2 len2 =>
      simp only [srcA] at hy ⊢
      cases hq : lookq M os id2 with
      | none => rw [hq] at hy; cases hy
      | some o => rw [hq] at hy; rw [e1 _ _ hq]; exact hy
    | val v =>
      have e2 : ∀ f g : Nat → Option AObj, srcA te f (.val v) = srcA te g (.val v) := fun f g => by
        cases v with
        | slice a n c => cases a <;> cases n <;> rfl
        | _ => rfl
      rw [e2 _ (lookq M os)]; exact hy
    | _ => exact hy
  obtain ⟨z, w', hrun, hres⟩ := append_two (P := P) (ty := ty2) hroom g1 he g4 hd hd' hz0 hlook hl hx hyv hys hpos hrm (nid := M) (by rw [show (S n l (M + 1) ((M, none) :: os)).objs.length = M + 1 from ol_length _ _]; omega) (by omega)
  unfold Oper.wp
  rw [show (execOp ac.eval ⟨some d, .call ⟨.builtin .append, #[a, b], #[ty, tx]⟩, ty2, pos, af, none⟩).run P w = .ok (.value z) w' by simp_all [execOp, resolve, invoke, builtin]]
  simp only [Oper.upon]
  rcases hres with ⟨hA, hv⟩ | ⟨ρ', hA, hv⟩
  · refine ⟨_, h1, ρ, ?_⟩
    have h5 := hA.put (some d) hv
    have e : ((S n l (M + 1) ((M, none) :: os)).set id (some (.arr te.size (es ++ zs)))).put (some d) (.ref id te.size 0 (es ++ zs).length) = S n ((d, .ref id te.size 0 (es ++ zs).length) :: l) (M + 1) ((id, some (.arr te.size (es ++ zs))) :: (M, none) :: os) := by simp [S, St.set, St.put, ol_set, tl_set]
    rw [e] at h5
    refine h5.more (fun j hj => ?_) (fun j hj => hj)
    rw [show (S n ((d, AV.ref id te.size 0 (es ++ zs).length) :: l) (M + 1) ((id, some (.arr te.size (es ++ zs))) :: (M, none) :: os)).objs.length = M + 1 from ol_length _ _]
    omega
  · refine ⟨_, h2, ρ', ?_⟩
    have h5 := hA.put (some d) hv
    have e : ((S n l (M + 1) ((M, none) :: os)).set M (some (.arr te.size (es ++ zs)))).put (some d) (.ref M te.size 0 (es ++ zs).length) = S n ((d, .ref M te.size 0 (es ++ zs).length) :: l) (M + 1) ((M, some (.arr te.size (es ++ zs))) :: os) := by
      simp only [S, St.set, St.put, tl_set, St.mk.injEq, true_and]
      rw [← ol_push, ← ol_push, List.set_append_right _ _ (by rw [ol_length]; omega), ol_length, Nat.sub_self]
      rfl
    rw [e] at h5
    refine h5.more (fun j hj => ?_) (fun j hj => hj)
    rw [show (S n ((d, AV.ref M te.size 0 (es ++ zs).length) :: l) (M + 1) ((M, some (.arr te.size (es ++ zs))) :: os)).objs.length = M + 1 from ol_length _ _]
    omega
def FnQ (P : Program) (g : FuncId) (ys : List AV) (os : List AObj) (post : AV → List (Option AObj) → Prop) : Prop :=
  Spec P g ys (os.map some) fun r o' => post r o' ∧ os.length ≤ o'.length ∧ r.bd o'.length = true
def RetQ (P : Program) (rs : List ResultVar) (m : Nat) (post : AV → List (Option AObj) → Prop) (s : St) : Prop := ∃ X os', post X os' ∧ m ≤ os'.length ∧ X.bd os'.length = true ∧ RetO P rs m X os' s
theorem FnQ.intro {fn : Func} {c : Code} {aos : List AObj} {post : AV → List (Option AObj) → Prop} {rs : List ResultVar} (he : enterable P g = true) (hf : P.funcs[g]? = some fn) (hb : fn.body = some c) (hrs : fn.results = rs.toArray) (hn : fn.ntmps = n) (hl : ys.length ≤ n)
    (h : ∀ Γ : Cx, Γ.m = aos.length → WP P Γ c (bodyQ (RetQ P rs aos.length post)) (S n (enumA 0 ys) aos.length (enumO 0 aos))) : FnQ P g ys aos post := by
  refine Spec.introR he hf hb (rs := rs) (by rw [hrs]) fun Γ hm => ?_
  subst hn
  rw [List.length_map] at hm
  rw [tl_start _ _ hl]
  have hw := h Γ hm
  simp only [S, ← ol_enum] at hw
  refine WP.mono hw ?_
  have key : ∀ s, RetQ P rs aos.length post s → ∃ x y l t, resN P s rs = some x ∧ ToR (aos.map some).length l ⟨[x], s.objs⟩ ⟨[y], t⟩ ∧ (post y t ∧ aos.length ≤ t.length ∧ y.bd t.length = true) := by
    rintro s ⟨X, os', h1, h2, h3, x, is, h4, h5⟩
    exact ⟨x, X, is, os', h4, by rw [List.length_map]; exact h5, h1, h2, h3⟩
  intro e s hq
  cases e with
  | normal => exact key s hq
  | ret => exact key s hq
  | _ => exact hq
end
section
variable {P : Program} {Γ : Cx} {n M : Nat} {l : List (Nat × AV)} {os : List (Nat × Option AObj)} {x : AV} {d : Tmp} {ty : TypeId} {pos : String} {af : Array Edge} {ops : Array Oper} {Q : Exit → St → Prop} {fuel : Nat} {listed : Array Bool}
theorem wpt_takeG {op : Op} (i : Nat) (ho : ops[i]? = some ⟨some d, op, ty, pos, af, none⟩) (hy : ∀ (ρ : Nat → Option Nat) (a : Act) (w : World), SRa Γ (fun id => id < (S n l M os).objs.length) ρ (S n l M os) a w → ∃ v, RV (fun id => id < (S n l M os).objs.length) ρ (Im Γ ρ (S n l M os) w) w x v ∧ ∀ w', (execOp a.eval ⟨some d, op, ty, pos, af, none⟩).run P w' = .ok (.value v) w')
    (hs : Region.noSelect ops = true) (hf : Region.free .any ops listed i = true) (hr : (Region.ready .any ops listed).contains i = true) (hQ : PInd Q)
    (hk : WPT P Γ ops Q fuel (listed.setIfInBounds i true) (S n ((d, x) :: l) M os)) : WPT P Γ ops Q (fuel + 1) listed (S n l M os) := by
  intro a w hs'
  obtain ⟨ρ, hρ⟩ := hs'
  obtain ⟨v, hrv, hrun⟩ := hy ρ a w hρ
  refine wpAny_take (v := v) ho hs hf hr ?_ (.inl ⟨by simp [Region.wanted], fun w' => hrun w'⟩) ?_
  · rintro c a1 w1 ⟨s', hq, ρ', h'⟩
    by_cases hd : d < a1.tmps.size
    · have hv : a1.tmps[d]? = some a1.tmps[d] := Array.getElem?_eq_getElem hd
      refine ⟨s'.put (some d) .any, hQ _ _ _ _ hq, ρ', ?_⟩
      have h2 := h'.put (some d) (x := .any) (v := a1.tmps[d]) .any
      have e : (a1.put (some d) v).put (some d) a1.tmps[d] = a1 := by
        have e1 : (a1.put (some d) v).put (some d) a1.tmps[d] = a1.put (some d) a1.tmps[d] := by simp [Act.put]
        rw [e1]; exact act_same hv
      rw [e] at h2
      simpa [St.put] using h2
    · refine ⟨s', hq, ρ', ?_⟩
      have e : a1.put (some d) v = a1 := by
        cases a1 with | mk tm df => simp only [Act.put, Act.mk.injEq, and_true]; exact Array.setIfInBounds_eq_of_size_le (by simpa using hd)
      rwa [e] at h'
  · refine hk _ _ ⟨ρ, ?_⟩
    have h2 := hρ.put (some d) hrv
    rw [S_put] at h2
    simpa [S, ol_length] using h2
theorem wpt_takeNil {y : Operand} {id k p q : Nat} (i : Nat) (ho : ops[i]? = some ⟨some d, .nilCheck y, ty, pos, af, none⟩) (hx : opq n l y = some (.ptr id k p q)) (hs : Region.noSelect ops = true) (hf : Region.free .any ops listed i = true) (hr : (Region.ready .any ops listed).contains i = true) (hQ : PInd Q)
    (hk : WPT P Γ ops Q fuel (listed.setIfInBounds i true) (S n ((d, .ptr id k p q) :: l) M os)) : WPT P Γ ops Q (fuel + 1) listed (S n l M os) := by
  refine wpt_takeG i ho (fun ρ a w h => ?_) hs hf hr hQ hk
  have h1 := h.eval y
  rw [opq_op hx] at h1
  generalize hv : a.eval y = v at h1
  refine ⟨v, h1, fun w' => ?_⟩
  cases h1 with
  | ptr h1 h2 => simp [execOp, hv]
end
section
variable {P : Program} {Γ : Cx} {A : Nat → Prop} {ρ : Nat → Option Nat} {s : St} {a : Act} {w : World}
end
section
variable {P : Program} {Γ : Cx} {n M : Nat} {l : List (Nat × AV)} {os : List (Nat × Option AObj)} {c : Code} {Q : Exit → St → Prop}
end
section
variable {P : Program} {n M : Nat} {l : List (Nat × AV)} {os : List (Nat × Option AObj)} {ty : TypeId} {a b : Operand} {y : AV} {pos : String} {af : Array Edge} {ops : Array Oper} {rest : List Oper} {N i : Nat} 
def oneE : AV → Bool
  | .agg _ => false
  | e => e.one
end
section
variable {P : Program} {Γ : Cx} {n M : Nat} {l : List (Nat × AV)} {os : List (Nat × Option AObj)} {c : Code} {Q : Exit → St → Prop}
end
section
variable {P : Program} {n M : Nat} {l : List (Nat × AV)} {os : List (Nat × Option AObj)} {d : Tmp} {ty : TypeId} {pos : String} {af : Array Edge} {ops : Array Oper} {rest : List Oper} {K : St → Prop} {a b : Operand}
end
section
variable {P : Program} {Γ : Cx} {n M : Nat} {l : List (Nat × AV)} {os : List (Nat × Option AObj)} {c : Code} {Q : Exit → St → Prop}
end
end Go.Lg

namespace Go.Lg
open Go.Proofs
noncomputable instance : DecidableEq Tre := fun _ _ => Classical.propDecidable _
set_option linter.unusedSimpArgs false
set_option linter.unusedVariables false
attribute [local irreducible] Ap Rq asemC WP RunD Ret Gq thenA inBlockA bodyQ noGotoA RqL RqP OpP
set_option maxHeartbeats 8000000
set_option maxRecDepth 20000
attribute [local simp] AV.cells
theorem in21_fn (l : List Int) (v : Int) : Fn Try.prog 68 [intsA l, intA v] (boolA (l.any fun x => decide (x = v))) := by
  refine Fn.intro rfl (by kernel_rfl) Try.func68 rfl rfl Try.ntmps68 (by exact Nat.le_of_ble_eq_true rfl) ?_; intro Γ hm
  refine wp_lens 0 rfl fun h0 => ?_
  rw [lens_intsA] at h0
  (repeat' (first | apply jA | apply jF | apply jH | (refine WP.regionC ?_; (refine sassign rfl ?_); apply jW)))
  refine wp_loop (fun k => k ≤ l.length ∧ (l.take k).any (fun x => decide (x = v)) = false) (fun k => l.length - k) (fun k => (S 18 [(0, intsA l), (1, intA v), (5, intA (k : Nat))] 0 [])) 0 ⟨[], ToR.S rfl (by repeat' (first | exact rt_nil | refine rt_e rfl rfl ?_ | refine rt_p rfl rfl (by first | (simp [AV.bd, bdL, bdL_append]; done) | fail) ?_)) (by repeat' (exact ro_nil)) rfl (by (rw [hm]; exact rfl)) rfl (by (simp [bdT, AV.bd, bdL, bdL_append]; done)) (by repeat' (exact True.intro)) (by (rw [hm]; exact Nat.le_of_ble_eq_true rfl))⟩ ⟨Nat.zero_le _, rfl⟩ ?_
  rintro k ⟨hk, hall⟩
  (repeat' (first | apply jA | apply jF | apply jH | apply jI | apply jJ | apply jK | apply jL | apply jM | apply jN | apply jO | apply jP | apply jS | (refine wp_cond rfl (fun hc => ?_) (fun hc => ?_) <;> (try simp only [sB, ne_eq, reduceCtorEq] at hc) <;> (try (exfalso; omega))) | (refine WP.regionC (id := 2) ?_; (refine smove rfl ?_); (refine smove rfl ?_); (refine slenm rfl rfl ?_); (refine slss rfl rfl ?_); apply jW) | (refine WP.regionC (id := 4) ?_; (refine smove rfl ?_); (refine smove rfl ?_); (refine sidxn rfl rfl (by omega) ?_); (refine sloadw rfl rfl ?_); (refine smove rfl ?_); (refine seql rfl rfl ?_); apply jW) | (refine WP.regionC ?_; (refine sassign rfl ?_); apply jW) | (refine WP.regionC (id := 3) ?_; (refine smove rfl ?_); (refine sadd rfl rfl (by exact inr_i64_of (by omega)) ?_); (refine sassign rfl ?_); apply jW) | refine ret_b rfl ?_))
  · have : l.any (fun x => decide (x = v)) = true := by
      rw [List.any_eq_true]; exact ⟨_, nth_mem (show k < l.length by omega), decide_eq_true hc⟩
    rw [this]
  · exact ⟨k + 1, ⟨by omega, by omega, take_any_succ (by omega) hall (decide_eq_false hc)⟩, ⟨[], ToR.S rfl (by repeat' (first | exact rt_nil | refine rt_e rfl rfl ?_ | refine rt_p rfl rfl (by first | (simp [AV.bd, bdL, bdL_append]; done) | fail) ?_)) (by repeat' (exact ro_nil)) rfl (by (rw [hm]; exact rfl)) rfl (by (simp [bdT, AV.bd, bdL, bdL_append]; done)) (by repeat' (exact True.intro)) (by (rw [hm]; exact Nat.le_of_ble_eq_true rfl))⟩⟩
  · rw [List.take_of_length_le (by omega)] at hall
    rw [hall]
mutual
def nodesW : Tre → Int
  | .mk _ _ l => nodesWL l 1
def nodesWL : List Tre → Int → Int
  | [], n => n
  | p :: l, n => nodesWL l (IntKind.wrap .i64 (n + nodesW p))
end
theorem nodesW_eq (p : Tre) : nodesW p = nodesWL p.kids 1 := by cases p; rw [nodesW]; rfl
theorem nodesWL_snoc (p : Tre) : ∀ (l : List Tre) (n : Int), nodesWL (l ++ [p]) n = IntKind.wrap .i64 (nodesWL l n + nodesW p)
  | [], n => by simp only [List.nil_append, nodesWL]
  | q :: l, n => by simp only [List.cons_append, nodesWL]; exact nodesWL_snoc p l _
theorem nodes21_fn (p : Tre) : Fn Try.prog 48 [treA p] (intA (nodesW p)) := by
  induction p using Tre.ind with
  | h p ih =>
    rw [nodesW_eq, treA_kids]
    generalize p.kids = kids at *
    generalize p.rule = rule
    generalize p.term = term
    clear p
    refine Fn.intro rfl (by kernel_rfl) Try.func48 rfl rfl Try.ntmps48 (by exact Nat.le_of_ble_eq_true rfl) ?_; intro Γ hm
    refine wp_lens 0 rfl fun hl => ?_
    have hl : kids.length ≤ 9223372036854775807 := by have := hl; simp [AV.lens, lensL, tresA] at this; omega
    (repeat' (first | apply jA | apply jF | apply jH | (refine WP.regionC (id := 0) ?_; (refine se_box rfl (by exact ⟨rfl, rfl⟩) ?_); (refine sassign rfl ?_); apply jW) | (refine WP.regionC ?_; (refine sassign rfl ?_); apply jW)))
    refine wp_loop (fun (i : Nat) => i ≤ kids.length) (fun i => kids.length - i)
      (fun i => (S 21 [(1, .ptr 0 3 0 0), (3, intA (nodesWL (kids.take i) 1)), (4, intA (i : Nat))] 1 [(0, some (.arr 3 [.agg [intA rule, intA term, tresA kids]]))])) 0 ?_ (Nat.zero_le _) ?_
    · rw [show nodesWL (kids.take 0) 1 = 1 by simp [nodesWL]]
      exact ⟨[0], ToR.S rfl (by repeat' (first | exact rt_nil | refine rt_t rfl rfl ?_ | refine rt_e rfl rfl ?_)) (by repeat' (first | exact ro_nil | refine ro_p rfl (by first | exact rfl | fail) (by first | (simp [bdL, bdL_append, AV.bd]; done) | fail) ?_)) rfl (by (rw [hm]; exact rfl)) rfl (by (simp [bdT, AV.bd, bdL, bdL_append]; done)) (by repeat' (first | exact True.intro | refine And.intro ?_ ?_ | (simp [bdOq, bdL, bdL_append, AV.bd]; done))) (by (rw [hm]; exact Nat.le_of_ble_eq_true rfl))⟩
    intro i hi
    by_cases hlt : i < kids.length
    · have hx := ih _ (nth_mem hlt)
      (repeat' (first | apply jA | apply jF | apply jH | apply jI | apply jN | (refine wp_cond rfl (fun hc => ?_) (fun hc => ?_) <;> (try simp only [sB, ne_eq, reduceCtorEq] at hc) <;> (try (exfalso; omega))) | (refine WP.regionC (id := 3) ?_; (refine smove rfl ?_); (refine sfieldp rfl rfl rfl ?_); (refine sloadp rfl rfl rfl rfl ?_); (refine slenm rfl rfl ?_); (refine slss rfl rfl ?_); apply jW) | (refine WP.regionC (id := 5) ?_; (refine smove rfl ?_); (refine sfieldp rfl rfl rfl ?_); (refine sloadp rfl rfl rfl rfl ?_); (refine smove rfl ?_); (refine sidxn rfl rfl (by omega) ?_); (refine sloadw rfl rfl ?_); (refine sc_p rfl rfl (by first | ((repeat' first | exact SubL.nil | refine SubL.cons ?_ ?_ | exact Sub.refl); done) | fail) (by first | (simp [bdL, bdL_append, AV.bd]; done) | fail) (hx) ?_); (refine su (ap_addw (rq_p rfl rfl) (rq_p rfl rfl)) ?_); (refine sassign rfl ?_); apply jW) | (refine WP.regionC (id := 4) ?_; (refine smove rfl ?_); (refine sadd rfl rfl (by exact inr_i64_of (by omega)) ?_); (refine sassign rfl ?_); apply jW)))
      refine ⟨i + 1, ⟨by omega, by omega⟩, ?_⟩
      rw [take_succ_nth hlt, nodesWL_snoc]
      exact ⟨[0], ToR.S rfl (by repeat' (first | exact rt_nil | refine rt_t rfl rfl ?_ | refine rt_e rfl rfl ?_)) (by repeat' (first | exact ro_nil | refine ro_p rfl (by first | exact rfl | fail) (by first | (simp [bdL, bdL_append, AV.bd]; done) | fail) ?_)) rfl (by (rw [hm]; exact rfl)) rfl (by (simp [bdT, AV.bd, bdL, bdL_append]; done)) (by repeat' (first | exact True.intro | refine And.intro ?_ ?_ | (simp [bdOq, bdL, bdL_append, AV.bd]; done))) (by (rw [hm]; exact Nat.le_of_ble_eq_true rfl))⟩
    · have e1 : nodesWL kids 1 = nodesWL (kids.take i) 1 := by rw [List.take_of_length_le (by omega)]
      rw [e1]
      (repeat' (first | apply jA | apply jH | apply jJ | apply jK | apply jL | apply jP | apply jS | (refine wp_cond rfl (fun hc => ?_) (fun hc => ?_) <;> (try simp only [sB, ne_eq, reduceCtorEq] at hc) <;> (try (exfalso; omega))) | (refine WP.regionC (id := 3) ?_; (refine smove rfl ?_); (refine sfieldp rfl rfl rfl ?_); (refine sloadp rfl rfl rfl rfl ?_); (refine slenm rfl rfl ?_); (refine slss rfl rfl ?_); apply jW) | (refine WP.regionC (id := 6) ?_; (refine smove rfl ?_); (refine sassign rfl ?_); apply jW) | exact ret_eq rfl rfl rfl))
theorem tre_iff {a b : Tre} : a = b ↔ (a.rule = b.rule ∧ a.term = b.term) ∧ a.kids = b.kids := ⟨by rintro rfl; exact ⟨⟨rfl, rfl⟩, rfl⟩, fun h => Tre.ext' h.1.1 h.1.2 h.2⟩
theorem equalTree_fn (a : Tre) : ∀ b : Tre, Fn Try.prog 30 [treA a, treA b] (boolA (decide (a = b))) := by
  induction a using Tre.ind with
  | h a ih =>
    intro b
    have e1 : decide (a = b) = (decide (a.rule = b.rule) && decide (a.term = b.term) && decide (a.kids = b.kids)) := by
      rw [Bool.eq_iff_iff]; simp only [Bool.and_eq_true, decide_eq_true_eq]; exact tre_iff
    rw [e1, treA_kids, treA_kids]
    refine Fn.intro rfl (by kernel_rfl) Try.func30 rfl rfl Try.ntmps30 (by exact Nat.le_of_ble_eq_true rfl) ?_; intro Γ hm
    refine wp_lens 0 rfl fun hl => ?_
    have hl : a.kids.length ≤ 9223372036854775807 := by have := hl; simp [AV.lens, lensL, tresA] at this; omega
    (repeat' (first | apply jA | apply jF | apply jH | apply jI | apply jK | apply jM | apply jS | (refine wp_cond rfl (fun hc => ?_) (fun hc => ?_) <;> (try simp only [sB, ne_eq, reduceCtorEq] at hc) <;> (try (exfalso; omega))) | (refine WP.regionC (id := 0) ?_; (refine se_box rfl (by exact ⟨rfl, rfl⟩) ?_); (refine se_box rfl (by exact ⟨rfl, rfl⟩) ?_); (refine sassign rfl ?_); apply jW) | (refine WP.regionC (id := 1) ?_; (refine sfieldp rfl rfl rfl ?_); (refine sloadp rfl rfl rfl rfl ?_); (refine sfieldp rfl rfl rfl ?_); (refine sloadp rfl rfl rfl rfl ?_); (refine su (aneq rfl rfl) ?_); (refine smove rfl ?_); (refine sg (gq_vf rfl rfl) (fun he => ap_field_p (rq_p rfl rfl) rfl rfl) ?_); (refine sg (gq_vf rfl rfl) (fun he => ap_load_p (rq_c rfl rfl) rfl rfl rfl) ?_); (refine sg (gq_vf rfl rfl) (fun he => ap_field_p (rq_p rfl rfl) rfl rfl) ?_); (refine sg (gq_vf rfl rfl) (fun he => ap_load_p (rq_c rfl rfl) rfl rfl rfl) ?_); (refine sg (gq_vf rfl rfl) (fun he => ap_neq (rq_c rfl rfl) (rq_c rfl rfl)) ?_); (refine su (ap_or (rq_p rfl rfl) (rq_c rfl rfl)) ?_); (refine smove rfl ?_); (refine sg (gq_vf rfl rfl) (fun he => ap_field_p (rq_p rfl rfl) rfl rfl) ?_); (refine sg (gq_vf rfl rfl) (fun he => ap_load_p (rq_c rfl rfl) rfl rfl rfl) ?_); (refine sg (gq_vf rfl rfl) (fun he => ap_len_m rfl (rq_c rfl rfl)) ?_); (refine sg (gq_vf rfl rfl) (fun he => ap_field_p (rq_p rfl rfl) rfl rfl) ?_); (refine sg (gq_vf rfl rfl) (fun he => ap_load_p (rq_c rfl rfl) rfl rfl rfl) ?_); (refine sg (gq_vf rfl rfl) (fun he => ap_len_m rfl (rq_c rfl rfl)) ?_); (refine sg (gq_vf rfl rfl) (fun he => ap_neq (rq_c rfl rfl) (rq_c rfl rfl)) ?_); (refine su (ap_or (rq_p rfl rfl) (rq_c rfl rfl)) ?_); apply jW) | (refine WP.regionC ?_; (refine sassign rfl ?_); apply jW) | refine ret_b rfl ?_))
    · rw [← e1, decide_eq_false]
      rintro rfl
      simp at hc
    have hc0 := hc
    refine wp_loop (fun (i : Nat) => i ≤ a.kids.length ∧ a.kids.take i = b.kids.take i) (fun i => a.kids.length - i)
      (fun i => (S 46 [(2, .ptr 0 3 0 0), (3, .ptr 1 3 0 0), (5, intA (i : Nat))] 2 [(0, some (.arr 3 [.agg [intA a.rule, intA a.term, tresA a.kids]])), (1, some (.arr 3 [.agg [intA b.rule, intA b.term, tresA b.kids]]))])) 0 ⟨[0, 1], ToR.S rfl (by repeat' (first | exact rt_nil | refine rt_t rfl rfl ?_ | refine rt_e rfl rfl ?_)) (by repeat' (first | exact ro_nil | refine ro_p rfl (by first | exact rfl | fail) (by first | (simp [bdL, bdL_append, AV.bd]; done) | fail) ?_)) rfl (by (rw [hm]; exact rfl)) rfl (by (simp [bdT, AV.bd, bdL, bdL_append]; done)) (by repeat' (first | exact True.intro | refine And.intro ?_ ?_ | (simp [bdOq, bdL, bdL_append, AV.bd]; done))) (by (rw [hm]; exact Nat.le_of_ble_eq_true rfl))⟩ ⟨Nat.zero_le _, rfl⟩ ?_
    rintro i ⟨hi, hall⟩
    have hab : a.kids.length = b.kids.length := by omega
    by_cases hlt : i < a.kids.length
    · have hx := ih _ (nth_mem hlt) (nth b.kids i)
      (repeat' (first | apply jA | apply jF | apply jH | apply jI | apply jK | apply jM | apply jN | apply jO | apply jS | (refine wp_cond rfl (fun hc => ?_) (fun hc => ?_) <;> (try simp only [sB, ne_eq, reduceCtorEq] at hc) <;> (try (exfalso; omega))) | (refine WP.regionC (id := 4) ?_; (refine smove rfl ?_); (refine sfieldp rfl rfl rfl ?_); (refine sloadp rfl rfl rfl rfl ?_); (refine slenm rfl rfl ?_); (refine slss rfl rfl ?_); apply jW) | (refine wp_draw (id := 6) 12 mixed (by kernel_rfl) (by kernel_rfl) rfl ?_ <;> (refine rfieldp rfl rfl rfl ?_) <;> (refine rloadp rfl rfl rfl rfl ?_) <;> (refine rmove rfl ?_) <;> (refine rd_u rfl rfl (aidxn rfl rfl (by omega)) ?_) <;> (refine rd_u rfl rfl (aloadw rfl rfl) ?_) <;> (refine rfieldp rfl rfl rfl ?_) <;> (refine rloadp rfl rfl rfl rfl ?_) <;> (refine rmove rfl ?_) <;> (refine rd_u rfl rfl (aidxn rfl rfl (by omega)) ?_) <;> (refine rd_u rfl rfl (aloadw rfl rfl) ?_) <;> (refine rd_call rfl rfl (by first | ((repeat' first | exact SubL.nil | refine SubL.cons ?_ ?_ | exact Sub.refl); done) | fail) (by first | (simp [bdL, bdL_append, AV.bd]; done) | fail) (hx) ?_) <;> (refine rd_u rfl rfl (anot rfl) ?_) <;> (refine rd_end (by kernel_rfl) ?_)) | (refine WP.regionC (id := 7) ?_; (refine sassign rfl ?_); apply jW) | (refine WP.regionC (id := 5) ?_; (refine smove rfl ?_); (refine sadd rfl rfl (by exact inr_i64_of (by omega)) ?_); (refine sassign rfl ?_); apply jW) | refine ret_b rfl ?_))
      · have : a.kids ≠ b.kids := by intro h; rw [h] at hc; exact hc rfl
        simp [this]
      · exact ⟨i + 1, ⟨by omega, by omega, take_eq_succ (by omega) (by omega) hall hc⟩, ⟨[0, 1], ToR.S rfl (by repeat' (first | exact rt_nil | refine rt_t rfl rfl ?_ | refine rt_e rfl rfl ?_)) (by repeat' (first | exact ro_nil | refine ro_p rfl (by first | exact rfl | fail) (by first | (simp [bdL, bdL_append, AV.bd]; done) | fail) ?_)) rfl (by (rw [hm]; exact rfl)) rfl (by (simp [bdT, AV.bd, bdL, bdL_append]; done)) (by repeat' (first | exact True.intro | refine And.intro ?_ ?_ | (simp [bdOq, bdL, bdL_append, AV.bd]; done))) (by (rw [hm]; exact Nat.le_of_ble_eq_true rfl))⟩⟩
    (repeat' (first | apply jA | apply jH | apply jJ | apply jK | apply jL | apply jP | apply jS | (refine wp_cond rfl (fun hc => ?_) (fun hc => ?_) <;> (try simp only [sB, ne_eq, reduceCtorEq] at hc) <;> (try (exfalso; omega))) | (refine WP.regionC (id := 4) ?_; (refine smove rfl ?_); (refine sfieldp rfl rfl rfl ?_); (refine sloadp rfl rfl rfl rfl ?_); (refine slenm rfl rfl ?_); (refine slss rfl rfl ?_); apply jW) | (refine WP.regionC (id := 8) ?_; (refine sassign rfl ?_); apply jW) | refine ret_b rfl ?_))
    simp [eq_of_takes hab (by omega) hall, hc0.1]
theorem okTL_no (g : Gram) {xs : List Int} {l : List Tre} (hl : l.length = xs.length) {i : Nat} (hi : i < l.length) (h : okT g (nth xs i) (nth l i) = false) : okTL g xs l = false := by
  cases hc : okTL g xs l with
  | false => rfl
  | true => have := (okTL_iff g xs l hl.symm).1 hc i hi; rw [h] at this; cases this
theorem whole_fn {g : Gram} (hv : GVal g) (t : Tre) : ∀ x : Int, -1000000 ≤ x → Fn Try.prog 53 [gramA g, intA x, treA t] (boolA (okT g x t)) := by
  induction t using Tre.ind with
  | h t ih =>
    intro x hx0
    rw [okT_eq, treA_kids]
    generalize t.kids = kids at *
    generalize t.rule = rule
    generalize t.term = term
    clear t
    refine Fn.intro rfl (by kernel_rfl) Try.func53 rfl rfl Try.ntmps53 (by exact Nat.le_of_ble_eq_true rfl) ?_; intro Γ hm
    refine wp_lens 0 rfl fun h0 => wp_lens 2 rfl fun hl => ?_
    have hr2 := hv.r2
    have hl : kids.length ≤ 9223372036854775807 := by have := hl; simp [AV.lens, lensL, tresA] at this; omega
    by_cases hx : 0 ≤ x
    · rw [if_pos hx]
      (repeat' (first | apply jA | apply jH | apply jK | apply jM | apply jS | (refine wp_cond rfl (fun hc => ?_) (fun hc => ?_) <;> (try simp only [sB, ne_eq, reduceCtorEq] at hc) <;> (try (exfalso; omega))) | (refine WP.regionC (id := 0) ?_; (refine se_box rfl (by exact ⟨rfl, rfl⟩) ?_); (refine se_box rfl (by exact ⟨rfl, rfl⟩) ?_); (refine sassign rfl ?_); apply jW) | (refine WP.regionC (id := 1) ?_; (refine smove rfl ?_); (refine su (ageq rfl rfl) ?_); apply jW) | (refine WP.regionC (id := 2) ?_; (refine sfieldp rfl rfl rfl ?_); (refine sloadp rfl rfl rfl rfl ?_); (refine seql rfl rfl ?_); (refine smove rfl ?_); (refine sg (gq_vt rfl rfl) (fun he => ap_field_p (rq_p rfl rfl) rfl rfl) ?_); (refine sg (gq_vt rfl rfl) (fun he => ap_load_p (rq_c rfl rfl) rfl rfl rfl) ?_); (refine sg (gq_vt rfl rfl) (fun he => ap_move (rq_p rfl rfl)) ?_); (refine sg (gq_vt rfl rfl) (fun he => ap_eql (rq_c rfl rfl) (rq_c rfl rfl)) ?_); (refine su (ap_and (rq_p rfl rfl) (rq_c rfl rfl)) ?_); (refine smove rfl ?_); (refine sg (gq_vt rfl rfl) (fun he => ap_field_p (rq_p rfl rfl) rfl rfl) ?_); (refine sg (gq_vt rfl rfl) (fun he => ap_load_p (rq_c rfl rfl) rfl rfl rfl) ?_); (refine sg (gq_vt rfl rfl) (fun he => ap_len_m rfl (rq_c rfl rfl)) ?_); (refine sg (gq_vt rfl rfl) (fun he => ap_eql (rq_c rfl rfl) (rq_p rfl rfl)) ?_); (refine su (ap_and (rq_p rfl rfl) (rq_c rfl rfl)) ?_); (refine sassign rfl ?_); apply jW) | refine ret_b rfl ?_))
      all_goals (rw [Bool.eq_iff_iff]; simp only [Bool.and_eq_true, decide_eq_true_eq]; constructor <;> rintro ⟨⟨h1, h2⟩, h3⟩ <;> exact ⟨⟨h1, h2⟩, by omega⟩)
    · rw [if_neg hx]
      (repeat' (first | apply jA | apply jF | apply jH | apply jI | apply jK | apply jM | apply jS | (refine wp_cond rfl (fun hc => ?_) (fun hc => ?_) <;> (try simp only [sB, ne_eq, reduceCtorEq] at hc) <;> (try (exfalso; omega))) | (refine WP.regionC (id := 0) ?_; (refine se_box rfl (by exact ⟨rfl, rfl⟩) ?_); (refine se_box rfl (by exact ⟨rfl, rfl⟩) ?_); (refine sassign rfl ?_); apply jW) | (refine WP.regionC (id := 1) ?_; (refine smove rfl ?_); (refine su (ageq rfl rfl) ?_); apply jW) | (refine wp_draw (id := 3) 42 mixed (by kernel_rfl) (by kernel_rfl) rfl ?_ <;> (refine rfieldp rfl rfl rfl ?_) <;> (refine rloadp rfl rfl rfl rfl ?_) <;> (refine rd_u rfl rfl (alss rfl rfl) ?_) <;> (refine rmove rfl ?_) <;> ((refine rd_split (t := 29) rfl (fun hc => ?_) (fun hc => ?_) <;> (try simp only [sB, ne_eq, reduceCtorEq] at hc) <;> (try (exfalso; omega)) <;> (first | refine rd_skip rfl rfl ?_ | refine gfieldp rfl rfl rfl rfl rfl ?_))) <;> (first | refine rd_skip rfl rfl ?_ | refine gloadp rfl rfl rfl rfl rfl rfl ?_) <;> (first | refine rd_skip rfl rfl ?_ | refine gfieldp rfl rfl rfl rfl rfl ?_) <;> (first | refine rd_skip rfl rfl ?_ | refine gloadp rfl rfl rfl rfl rfl rfl ?_) <;> (first | refine rd_skip rfl rfl ?_ | refine rdg_u rfl rfl rfl rfl (alenm rfl rfl) ?_) <;> (first | refine rd_skip rfl rfl ?_ | refine rdg_u rfl rfl rfl rfl (ageq rfl rfl) ?_) <;> (first | refine rd_pick_t rfl rfl ?_ | refine rd_pick_f rfl rfl ?_) <;> (refine rmove rfl ?_) <;> (first | refine rd_skip rfl rfl ?_ | (refine rd_split (t := 37) rfl (fun hc => ?_) (fun hc => ?_) <;> (try simp only [sB, ne_eq, reduceCtorEq] at hc) <;> (try (exfalso; omega)) <;> (first | refine rd_skip rfl rfl ?_ | refine gfieldp rfl rfl rfl rfl rfl ?_))) <;> (first | refine rd_skip rfl rfl ?_ | refine gloadp rfl rfl rfl rfl rfl rfl ?_) <;> (first | refine rd_skip rfl rfl ?_ | refine rdg_u rfl rfl rfl rfl (aneq rfl rfl) ?_) <;> (first | refine rd_pick_t rfl rfl ?_ | refine rd_pick_f rfl rfl ?_) <;> (refine rmove rfl ?_) <;> (first | refine rd_skip rfl rfl ?_ | (refine rd_split (t := 42) rfl (fun hc => ?_) (fun hc => ?_) <;> (try simp only [sB, ne_eq, reduceCtorEq] at hc) <;> (try (exfalso; omega)) <;> (first | refine rd_skip rfl rfl ?_ | refine gfieldp rfl rfl rfl rfl rfl ?_))) <;> (first | refine rd_skip rfl rfl ?_ | refine gloadp rfl rfl rfl rfl rfl rfl ?_) <;> (first | refine rd_skip rfl rfl ?_ | refine gfieldp rfl rfl rfl rfl rfl ?_) <;> (first | refine rd_skip rfl rfl ?_ | refine gloadp rfl rfl rfl rfl rfl rfl ?_) <;> (first | refine rd_skip rfl rfl ?_ | refine rdg_u rfl rfl rfl rfl (aidxz rfl rfl (by omega)) ?_) <;> (first | refine rd_skip rfl rfl ?_ | refine rdg_u rfl rfl rfl rfl (afieldi rfl rfl rfl) ?_) <;> (first | refine rd_skip rfl rfl ?_ | refine rdg_u rfl rfl rfl rfl (aloadi rfl rfl) ?_) <;> (first | refine rd_skip rfl rfl ?_ | refine gmove rfl rfl rfl ?_) <;> (first | refine rd_skip rfl rfl ?_ | refine rdg_u rfl rfl rfl rfl (asub rfl rfl (by exact inr_i64_of (by omega))) ?_) <;> (first | refine rd_skip rfl rfl ?_ | refine rdg_u rfl rfl rfl rfl (aneq rfl rfl) ?_) <;> (first | refine rd_pick_t rfl rfl ?_ | refine rd_pick_f rfl rfl ?_) <;> (refine rmove rfl ?_) <;> (first | refine rd_skip rfl rfl ?_ | (refine rd_split (t := 54) rfl (fun hc => ?_) (fun hc => ?_) <;> (try simp only [sB, ne_eq, reduceCtorEq] at hc) <;> (try (exfalso; omega)) <;> (first | refine rd_skip rfl rfl ?_ | refine gfieldp rfl rfl rfl rfl rfl ?_))) <;> (first | refine rd_skip rfl rfl ?_ | refine gloadp rfl rfl rfl rfl rfl rfl ?_) <;> (first | refine rd_skip rfl rfl ?_ | refine rdg_u rfl rfl rfl rfl (alenm rfl rfl) ?_) <;> (first | refine rd_skip rfl rfl ?_ | refine gfieldp rfl rfl rfl rfl rfl ?_) <;> (first | refine rd_skip rfl rfl ?_ | refine gloadp rfl rfl rfl rfl rfl rfl ?_) <;> (first | refine rd_skip rfl rfl ?_ | refine gfieldp rfl rfl rfl rfl rfl ?_) <;> (first | refine rd_skip rfl rfl ?_ | refine gloadp rfl rfl rfl rfl rfl rfl ?_) <;> (first | refine rd_skip rfl rfl ?_ | refine rdg_u rfl rfl rfl rfl (aidxz rfl rfl (by omega)) ?_) <;> (first | refine rd_skip rfl rfl ?_ | refine rdg_u rfl rfl rfl rfl (afieldi rfl rfl rfl) ?_) <;> (first | refine rd_skip rfl rfl ?_ | refine rdg_u rfl rfl rfl rfl (aloadi rfl rfl) ?_) <;> (first | refine rd_skip rfl rfl ?_ | refine rdg_u rfl rfl rfl rfl (alenm rfl rfl) ?_) <;> (first | refine rd_skip rfl rfl ?_ | refine rdg_u rfl rfl rfl rfl (aneq rfl rfl) ?_) <;> (first | refine rd_pick_t rfl rfl ?_ | refine rd_pick_f rfl rfl ?_) <;> (refine rd_end (by kernel_rfl) ?_)) | (refine WP.regionC (id := 4) ?_; (refine sassign rfl ?_); apply jW) | (refine WP.regionC (id := 5) ?_; (refine sfieldp rfl rfl rfl ?_); (refine sloadp rfl rfl rfl rfl ?_); (refine slenm rfl rfl ?_); (refine smove rfl ?_); apply jW) | refine ret_b rfl ?_))
      all_goals try (refine Eq.symm ?_; grind)
      have d1 : decide (0 ≤ rule) = true := decide_eq_true (by omega)
      have d2 : decide (rule < g.rules.length) = true := decide_eq_true (by omega)
      have d3 : decide (term = 0) = true := decide_eq_true (by omega)
      have d4 : decide ((nth g.rules rule.toNat).head = -1 - x) = true := decide_eq_true (by omega)
      have hkl : kids.length = (nth g.rules rule.toNat).body.length := by omega
      have d5 : decide (kids.length = (nth g.rules rule.toNat).body.length) = true := decide_eq_true hkl
      rw [d1, d2, d3, d4, d5]
      simp only [Bool.true_and]
      have hrf := hv.rule _ (nth_mem (show rule.toNat < g.rules.length by omega))
      have hn2 := hv.n2
      refine wp_loop (fun (i : Nat) => i ≤ kids.length ∧ ∀ j, j < i → okT g (nth (nth g.rules rule.toNat).body j) (nth kids j) = true) (fun i => kids.length - i)
        (fun i => (S 91 [(3, .ptr 0 4 0 0), (5, .ptr 1 3 0 0), (69, tresA kids), (70, intA (kids.length : Nat)), (71, intA (i : Nat))] 2 [(0, some (.arr 4 [gramA g])), (1, some (.arr 3 [.agg [intA rule, intA term, tresA kids]]))])) 0 ⟨[0, 1], ToR.S rfl (by repeat' (first | exact rt_nil | refine rt_t rfl rfl ?_ | refine rt_e rfl rfl ?_ | refine rt_p rfl rfl (by first | (simp [AV.bd, bdL, bdL_append]; done) | fail) ?_)) (by repeat' (first | exact ro_nil | refine ro_p rfl (by first | exact rfl | fail) (by first | (simp [bdL, bdL_append, AV.bd]; done) | fail) ?_)) rfl (by (rw [hm]; exact rfl)) rfl (by (simp [bdT, AV.bd, bdL, bdL_append]; done)) (by repeat' (first | exact True.intro | refine And.intro ?_ ?_ | (simp [bdOq, bdL, bdL_append, AV.bd]; done))) (by (rw [hm]; exact Nat.le_of_ble_eq_true rfl))⟩ ⟨Nat.zero_le _, fun j hj => by omega⟩ ?_
      rintro i ⟨hi, hall⟩
      by_cases hlt : i < kids.length
      · have hlb : i < (nth g.rules rule.toNat).body.length := by omega
        have hlo := hrf.lo _ (nth_mem hlb)
        have hx := ih _ (nth_mem hlt) (nth (nth g.rules rule.toNat).body i) (by omega)
        (repeat' (first | apply jA | apply jF | apply jH | apply jI | apply jK | apply jM | apply jN | apply jO | apply jS | (refine wp_cond rfl (fun hc => ?_) (fun hc => ?_) <;> (try simp only [sB, ne_eq, reduceCtorEq] at hc) <;> (try (exfalso; omega))) | (refine WP.regionC (id := 6) ?_; (refine slss rfl rfl ?_); apply jW) | (refine WP.regionC (id := 7) ?_; (refine smove rfl ?_); (refine sidxn rfl rfl (by omega) ?_); (refine sloadw rfl rfl ?_); (refine se_alloc rfl ?_); (refine sassign rfl ?_); (refine se_store_b rfl rfl rfl rfl ?_); apply jW) | (refine wp_draw (id := 8) 14 mixed (by kernel_rfl) (by kernel_rfl) rfl ?_ <;> (refine rd_u rfl rfl (aloadpw rfl rfl rfl rfl) ?_) <;> (refine rfieldp rfl rfl rfl ?_) <;> (refine rloadp rfl rfl rfl rfl ?_) <;> (refine rfieldp rfl rfl rfl ?_) <;> (refine rloadp rfl rfl rfl rfl ?_) <;> (refine rd_u rfl rfl (aidxz rfl rfl (by omega)) ?_) <;> (refine rd_u rfl rfl (afieldi rfl rfl rfl) ?_) <;> (refine rd_u rfl rfl (aloadi rfl rfl) ?_) <;> (refine rmove rfl ?_) <;> (refine rd_u rfl rfl (aidxn rfl rfl (by omega)) ?_) <;> (refine rd_u rfl rfl (aloadw rfl rfl) ?_) <;> (refine rd_u rfl rfl (aloadpw rfl rfl rfl rfl) ?_) <;> (refine rd_call rfl rfl (by first | ((repeat' first | exact SubL.nil | refine SubL.cons ?_ ?_ | exact Sub.refl); done) | fail) (by first | (simp [bdL, bdL_append, AV.bd]; done) | fail) (hx) ?_) <;> (refine rd_u rfl rfl (anot rfl) ?_) <;> (refine rd_end (by kernel_rfl) ?_)) | (refine WP.regionC (id := 9) ?_; (refine sassign rfl ?_); apply jW) | (refine WP.regionC (id := 10) ?_; (refine sadd rfl rfl (by exact inr_i64_of (by omega)) ?_); (refine smove rfl ?_); apply jW) | refine ret_b rfl ?_))
        · rw [okTL_no g hkl hlt hc]
        · exact ⟨i + 1, ⟨by omega, by omega, fun j hj => by
            by_cases e : j = i
            · subst e; exact hc
            · exact hall j (by omega)⟩, ⟨[0, 1], ToR.S rfl (by repeat' (first | exact rt_nil | refine rt_t rfl rfl ?_ | refine rt_e rfl rfl ?_ | refine rt_p rfl rfl (by first | (simp [AV.bd, bdL, bdL_append]; done) | fail) ?_)) (by repeat' (first | exact ro_nil | refine ro_p rfl (by first | exact rfl | fail) (by first | (simp [bdL, bdL_append, AV.bd]; done) | fail) ?_)) rfl (by (rw [hm]; exact rfl)) rfl (by (simp [bdT, AV.bd, bdL, bdL_append]; done)) (by repeat' (first | exact True.intro | refine And.intro ?_ ?_ | (simp [bdOq, bdL, bdL_append, AV.bd]; done))) (by (rw [hm]; exact Nat.le_of_ble_eq_true rfl))⟩⟩
      · have e1 : okTL g (nth g.rules rule.toNat).body kids = true := (okTL_iff g _ kids hkl.symm).2 fun j hj => hall j (by omega)
        rw [e1]
        (repeat' (first | apply jA | apply jH | apply jJ | apply jK | apply jL | apply jP | apply jS | (refine wp_cond rfl (fun hc => ?_) (fun hc => ?_) <;> (try simp only [sB, ne_eq, reduceCtorEq] at hc) <;> (try (exfalso; omega))) | (refine WP.regionC (id := 6) ?_; (refine slss rfl rfl ?_); apply jW) | (refine WP.regionC (id := 11) ?_; (refine sassign rfl ?_); apply jW) | exact ret_eq rfl rfl rfl))
theorem tree21_fn {g : Gram} (hv : GVal g) (t : Tre) : ∀ x : Int, -1000000 ≤ x → Fn Try.prog 32 [gramA g, intA x, treA t] (boolA (okT g x t)) := by
  induction t using Tre.ind with
  | h t ih =>
    intro x hx0
    rw [okT_eq, treA_kids]
    generalize t.kids = kids at *
    generalize t.rule = rule
    generalize t.term = term
    clear t
    refine Fn.intro rfl (by kernel_rfl) Try.func32 rfl rfl Try.ntmps32 (by exact Nat.le_of_ble_eq_true rfl) ?_; intro Γ hm
    refine wp_lens 0 rfl fun h0 => wp_lens 2 rfl fun hl => ?_
    have hr2 := hv.r2
    have hl : kids.length ≤ 9223372036854775807 := by have := hl; simp [AV.lens, lensL, tresA] at this; omega
    by_cases hx : 0 ≤ x
    · rw [if_pos hx]
      (repeat' (first | apply jA | apply jH | apply jK | apply jM | apply jS | (refine wp_cond rfl (fun hc => ?_) (fun hc => ?_) <;> (try simp only [sB, ne_eq, reduceCtorEq] at hc) <;> (try (exfalso; omega))) | (refine WP.regionC (id := 0) ?_; (refine se_box rfl (by exact ⟨rfl, rfl⟩) ?_); (refine se_box rfl (by exact ⟨rfl, rfl⟩) ?_); (refine sassign rfl ?_); apply jW) | (refine WP.regionC (id := 1) ?_; (refine smove rfl ?_); (refine su (ageq rfl rfl) ?_); apply jW) | (refine WP.regionC (id := 2) ?_; (refine sfieldp rfl rfl rfl ?_); (refine sloadp rfl rfl rfl rfl ?_); (refine seql rfl rfl ?_); (refine smove rfl ?_); (refine sg (gq_vt rfl rfl) (fun he => ap_field_p (rq_p rfl rfl) rfl rfl) ?_); (refine sg (gq_vt rfl rfl) (fun he => ap_load_p (rq_c rfl rfl) rfl rfl rfl) ?_); (refine sg (gq_vt rfl rfl) (fun he => ap_move (rq_p rfl rfl)) ?_); (refine sg (gq_vt rfl rfl) (fun he => ap_eql (rq_c rfl rfl) (rq_c rfl rfl)) ?_); (refine su (ap_and (rq_p rfl rfl) (rq_c rfl rfl)) ?_); (refine smove rfl ?_); (refine sg (gq_vt rfl rfl) (fun he => ap_field_p (rq_p rfl rfl) rfl rfl) ?_); (refine sg (gq_vt rfl rfl) (fun he => ap_load_p (rq_c rfl rfl) rfl rfl rfl) ?_); (refine sg (gq_vt rfl rfl) (fun he => ap_len_m rfl (rq_c rfl rfl)) ?_); (refine sg (gq_vt rfl rfl) (fun he => ap_eql (rq_c rfl rfl) (rq_p rfl rfl)) ?_); (refine su (ap_and (rq_p rfl rfl) (rq_c rfl rfl)) ?_); (refine sassign rfl ?_); apply jW) | refine ret_b rfl ?_))
      all_goals (rw [Bool.eq_iff_iff]; simp only [Bool.and_eq_true, decide_eq_true_eq]; constructor <;> rintro ⟨⟨h1, h2⟩, h3⟩ <;> exact ⟨⟨h1, h2⟩, by omega⟩)
    · rw [if_neg hx]
      (repeat' (first | apply jA | apply jF | apply jH | apply jI | apply jK | apply jM | apply jS | (refine wp_cond rfl (fun hc => ?_) (fun hc => ?_) <;> (try simp only [sB, ne_eq, reduceCtorEq] at hc) <;> (try (exfalso; omega))) | (refine WP.regionC (id := 0) ?_; (refine se_box rfl (by exact ⟨rfl, rfl⟩) ?_); (refine se_box rfl (by exact ⟨rfl, rfl⟩) ?_); (refine sassign rfl ?_); apply jW) | (refine WP.regionC (id := 1) ?_; (refine smove rfl ?_); (refine su (ageq rfl rfl) ?_); apply jW) | (refine wp_draw (id := 3) 42 mixed (by kernel_rfl) (by kernel_rfl) rfl ?_ <;> (refine rfieldp rfl rfl rfl ?_) <;> (refine rloadp rfl rfl rfl rfl ?_) <;> (refine rd_u rfl rfl (alss rfl rfl) ?_) <;> (refine rmove rfl ?_) <;> ((refine rd_split (t := 28) rfl (fun hc => ?_) (fun hc => ?_) <;> (try simp only [sB, ne_eq, reduceCtorEq] at hc) <;> (try (exfalso; omega)) <;> (first | refine rd_skip rfl rfl ?_ | refine gfieldp rfl rfl rfl rfl rfl ?_))) <;> (first | refine rd_skip rfl rfl ?_ | refine gloadp rfl rfl rfl rfl rfl rfl ?_) <;> (first | refine rd_skip rfl rfl ?_ | refine gfieldp rfl rfl rfl rfl rfl ?_) <;> (first | refine rd_skip rfl rfl ?_ | refine gloadp rfl rfl rfl rfl rfl rfl ?_) <;> (first | refine rd_skip rfl rfl ?_ | refine rdg_u rfl rfl rfl rfl (alenm rfl rfl) ?_) <;> (first | refine rd_skip rfl rfl ?_ | refine rdg_u rfl rfl rfl rfl (ageq rfl rfl) ?_) <;> (first | refine rd_pick_t rfl rfl ?_ | refine rd_pick_f rfl rfl ?_) <;> (refine rmove rfl ?_) <;> (first | refine rd_skip rfl rfl ?_ | (refine rd_split (t := 36) rfl (fun hc => ?_) (fun hc => ?_) <;> (try simp only [sB, ne_eq, reduceCtorEq] at hc) <;> (try (exfalso; omega)) <;> (first | refine rd_skip rfl rfl ?_ | refine gfieldp rfl rfl rfl rfl rfl ?_))) <;> (first | refine rd_skip rfl rfl ?_ | refine gloadp rfl rfl rfl rfl rfl rfl ?_) <;> (first | refine rd_skip rfl rfl ?_ | refine rdg_u rfl rfl rfl rfl (aneq rfl rfl) ?_) <;> (first | refine rd_pick_t rfl rfl ?_ | refine rd_pick_f rfl rfl ?_) <;> (refine rmove rfl ?_) <;> (first | refine rd_skip rfl rfl ?_ | (refine rd_split (t := 41) rfl (fun hc => ?_) (fun hc => ?_) <;> (try simp only [sB, ne_eq, reduceCtorEq] at hc) <;> (try (exfalso; omega)) <;> (first | refine rd_skip rfl rfl ?_ | refine gfieldp rfl rfl rfl rfl rfl ?_))) <;> (first | refine rd_skip rfl rfl ?_ | refine gloadp rfl rfl rfl rfl rfl rfl ?_) <;> (first | refine rd_skip rfl rfl ?_ | refine gfieldp rfl rfl rfl rfl rfl ?_) <;> (first | refine rd_skip rfl rfl ?_ | refine gloadp rfl rfl rfl rfl rfl rfl ?_) <;> (first | refine rd_skip rfl rfl ?_ | refine rdg_u rfl rfl rfl rfl (aidxz rfl rfl (by omega)) ?_) <;> (first | refine rd_skip rfl rfl ?_ | refine rdg_u rfl rfl rfl rfl (afieldi rfl rfl rfl) ?_) <;> (first | refine rd_skip rfl rfl ?_ | refine rdg_u rfl rfl rfl rfl (aloadi rfl rfl) ?_) <;> (first | refine rd_skip rfl rfl ?_ | refine gmove rfl rfl rfl ?_) <;> (first | refine rd_skip rfl rfl ?_ | refine rdg_u rfl rfl rfl rfl (asub rfl rfl (by exact inr_i64_of (by omega))) ?_) <;> (first | refine rd_skip rfl rfl ?_ | refine rdg_u rfl rfl rfl rfl (aneq rfl rfl) ?_) <;> (first | refine rd_pick_t rfl rfl ?_ | refine rd_pick_f rfl rfl ?_) <;> (refine rmove rfl ?_) <;> (first | refine rd_skip rfl rfl ?_ | (refine rd_split (t := 53) rfl (fun hc => ?_) (fun hc => ?_) <;> (try simp only [sB, ne_eq, reduceCtorEq] at hc) <;> (try (exfalso; omega)) <;> (first | refine rd_skip rfl rfl ?_ | refine gfieldp rfl rfl rfl rfl rfl ?_))) <;> (first | refine rd_skip rfl rfl ?_ | refine gloadp rfl rfl rfl rfl rfl rfl ?_) <;> (first | refine rd_skip rfl rfl ?_ | refine rdg_u rfl rfl rfl rfl (alenm rfl rfl) ?_) <;> (first | refine rd_skip rfl rfl ?_ | refine gfieldp rfl rfl rfl rfl rfl ?_) <;> (first | refine rd_skip rfl rfl ?_ | refine gloadp rfl rfl rfl rfl rfl rfl ?_) <;> (first | refine rd_skip rfl rfl ?_ | refine gfieldp rfl rfl rfl rfl rfl ?_) <;> (first | refine rd_skip rfl rfl ?_ | refine gloadp rfl rfl rfl rfl rfl rfl ?_) <;> (first | refine rd_skip rfl rfl ?_ | refine rdg_u rfl rfl rfl rfl (aidxz rfl rfl (by omega)) ?_) <;> (first | refine rd_skip rfl rfl ?_ | refine rdg_u rfl rfl rfl rfl (afieldi rfl rfl rfl) ?_) <;> (first | refine rd_skip rfl rfl ?_ | refine rdg_u rfl rfl rfl rfl (aloadi rfl rfl) ?_) <;> (first | refine rd_skip rfl rfl ?_ | refine rdg_u rfl rfl rfl rfl (alenm rfl rfl) ?_) <;> (first | refine rd_skip rfl rfl ?_ | refine rdg_u rfl rfl rfl rfl (aneq rfl rfl) ?_) <;> (first | refine rd_pick_t rfl rfl ?_ | refine rd_pick_f rfl rfl ?_) <;> (refine rd_end (by kernel_rfl) ?_)) | (refine WP.regionC ?_; (refine sassign rfl ?_); apply jW) | refine ret_b rfl ?_))
      all_goals try (refine Eq.symm ?_; grind)
      have d1 : decide (0 ≤ rule) = true := decide_eq_true (by omega)
      have d2 : decide (rule < g.rules.length) = true := decide_eq_true (by omega)
      have d3 : decide (term = 0) = true := decide_eq_true (by omega)
      have d4 : decide ((nth g.rules rule.toNat).head = -1 - x) = true := decide_eq_true (by omega)
      have hkl : kids.length = (nth g.rules rule.toNat).body.length := by omega
      have d5 : decide (kids.length = (nth g.rules rule.toNat).body.length) = true := decide_eq_true hkl
      rw [d1, d2, d3, d4, d5]
      simp only [Bool.true_and]
      have hrf := hv.rule _ (nth_mem (show rule.toNat < g.rules.length by omega))
      have hn2 := hv.n2
      refine wp_loop (fun (i : Nat) => i ≤ kids.length ∧ ∀ j, j < i → okT g (nth (nth g.rules rule.toNat).body j) (nth kids j) = true) (fun i => kids.length - i)
        (fun i => (S 92 [(3, .ptr 0 4 0 0), (5, .ptr 1 3 0 0), (7, intA (i : Nat))] 2 [(0, some (.arr 4 [gramA g])), (1, some (.arr 3 [.agg [intA rule, intA term, tresA kids]]))])) 0 ⟨[0, 1], ToR.S rfl (by repeat' (first | exact rt_nil | refine rt_t rfl rfl ?_ | refine rt_e rfl rfl ?_)) (by repeat' (first | exact ro_nil | refine ro_p rfl (by first | exact rfl | fail) (by first | (simp [bdL, bdL_append, AV.bd]; done) | fail) ?_)) rfl (by (rw [hm]; exact rfl)) rfl (by (simp [bdT, AV.bd, bdL, bdL_append]; done)) (by repeat' (first | exact True.intro | refine And.intro ?_ ?_ | (simp [bdOq, bdL, bdL_append, AV.bd]; done))) (by (rw [hm]; exact Nat.le_of_ble_eq_true rfl))⟩ ⟨Nat.zero_le _, fun j hj => by omega⟩ ?_
      rintro i ⟨hi, hall⟩
      by_cases hlt : i < kids.length
      · have hlb : i < (nth g.rules rule.toNat).body.length := by omega
        have hlo := hrf.lo _ (nth_mem hlb)
        have hx := ih _ (nth_mem hlt) (nth (nth g.rules rule.toNat).body i) (by omega)
        (repeat' (first | apply jA | apply jF | apply jH | apply jI | apply jK | apply jM | apply jN | apply jO | apply jS | (refine wp_cond rfl (fun hc => ?_) (fun hc => ?_) <;> (try simp only [sB, ne_eq, reduceCtorEq] at hc) <;> (try (exfalso; omega))) | (refine WP.regionC (id := 6) ?_; (refine smove rfl ?_); (refine sfieldp rfl rfl rfl ?_); (refine sloadp rfl rfl rfl rfl ?_); (refine slenm rfl rfl ?_); (refine slss rfl rfl ?_); apply jW) | (refine wp_draw (id := 8) 18 mixed (by kernel_rfl) (by kernel_rfl) rfl ?_ <;> (refine rd_u rfl rfl (aloadpw rfl rfl rfl rfl) ?_) <;> (refine rfieldp rfl rfl rfl ?_) <;> (refine rloadp rfl rfl rfl rfl ?_) <;> (refine rfieldp rfl rfl rfl ?_) <;> (refine rloadp rfl rfl rfl rfl ?_) <;> (refine rd_u rfl rfl (aidxz rfl rfl (by omega)) ?_) <;> (refine rd_u rfl rfl (afieldi rfl rfl rfl) ?_) <;> (refine rd_u rfl rfl (aloadi rfl rfl) ?_) <;> (refine rmove rfl ?_) <;> (refine rd_u rfl rfl (aidxn rfl rfl (by omega)) ?_) <;> (refine rd_u rfl rfl (aloadw rfl rfl) ?_) <;> (refine rfieldp rfl rfl rfl ?_) <;> (refine rloadp rfl rfl rfl rfl ?_) <;> (refine rmove rfl ?_) <;> (refine rd_u rfl rfl (aidxn rfl rfl (by omega)) ?_) <;> (refine rd_u rfl rfl (aloadw rfl rfl) ?_) <;> (refine rd_call rfl rfl (by first | ((repeat' first | exact SubL.nil | refine SubL.cons ?_ ?_ | exact Sub.refl); done) | fail) (by first | (simp [bdL, bdL_append, AV.bd]; done) | fail) (hx) ?_) <;> (refine rd_u rfl rfl (anot rfl) ?_) <;> (refine rd_end (by kernel_rfl) ?_)) | (refine WP.regionC (id := 9) ?_; (refine sassign rfl ?_); apply jW) | (refine WP.regionC (id := 7) ?_; (refine smove rfl ?_); (refine sadd rfl rfl (by exact inr_i64_of (by omega)) ?_); (refine sassign rfl ?_); apply jW) | refine ret_b rfl ?_))
        · rw [okTL_no g hkl hlt hc]
        · exact ⟨i + 1, ⟨by omega, by omega, fun j hj => by
            by_cases e : j = i
            · subst e; exact hc
            · exact hall j (by omega)⟩, ⟨[0, 1], ToR.S rfl (by repeat' (first | exact rt_nil | refine rt_t rfl rfl ?_ | refine rt_e rfl rfl ?_)) (by repeat' (first | exact ro_nil | refine ro_p rfl (by first | exact rfl | fail) (by first | (simp [bdL, bdL_append, AV.bd]; done) | fail) ?_)) rfl (by (rw [hm]; exact rfl)) rfl (by (simp [bdT, AV.bd, bdL, bdL_append]; done)) (by repeat' (first | exact True.intro | refine And.intro ?_ ?_ | (simp [bdOq, bdL, bdL_append, AV.bd]; done))) (by (rw [hm]; exact Nat.le_of_ble_eq_true rfl))⟩⟩
      · have e1 : okTL g (nth g.rules rule.toNat).body kids = true := (okTL_iff g _ kids hkl.symm).2 fun j hj => hall j (by omega)
        rw [e1]
        (repeat' (first | apply jA | apply jH | apply jJ | apply jK | apply jL | apply jP | apply jS | (refine wp_cond rfl (fun hc => ?_) (fun hc => ?_) <;> (try simp only [sB, ne_eq, reduceCtorEq] at hc) <;> (try (exfalso; omega))) | (refine WP.regionC (id := 6) ?_; (refine smove rfl ?_); (refine sfieldp rfl rfl rfl ?_); (refine sloadp rfl rfl rfl rfl ?_); (refine slenm rfl rfl ?_); (refine slss rfl rfl ?_); apply jW) | (refine WP.regionC (id := 10) ?_; (refine sassign rfl ?_); apply jW) | exact ret_eq rfl rfl rfl))
theorem sizeT_eq (p : Tre) : sizeT p = 1 + sizeTL p.kids := by cases p; rw [sizeT]; rfl
theorem sizeT_pos (p : Tre) : 1 ≤ sizeT p := by
  induction p using Tre.ind with
  | h p ih =>
    rw [sizeT_eq]
    generalize p.kids = l at *
    have : 0 ≤ sizeTL l := by
      induction l with
      | nil => rw [sizeTL]; omega
      | cons a l ihl => rw [sizeTL]; have := ih a (by simp); have := ihl fun x hx => ih x (by simp [hx]); omega
    omega
theorem sizeTL_app : ∀ (a b : List Tre), sizeTL (a ++ b) = sizeTL a + sizeTL b
  | [], b => by rw [List.nil_append, sizeTL]; omega
  | p :: a, b => by rw [List.cons_append, sizeTL, sizeTL, sizeTL_app a b]; omega
theorem sizeTL_nn : ∀ (l : List Tre), 0 ≤ sizeTL l
  | [] => by rw [sizeTL]; omega
  | p :: l => by rw [sizeTL]; have := sizeT_pos p; have := sizeTL_nn l; omega
theorem sizeTL_take (l : List Tre) (i : Nat) : sizeTL (l.take i) ≤ sizeTL l := by
  have := sizeTL_app (l.take i) (l.drop i)
  rw [List.take_append_drop] at this
  have := sizeTL_nn (l.drop i)
  omega
theorem sizeTL_mem {l : List Tre} {x : Tre} (h : x ∈ l) : sizeT x ≤ sizeTL l := by
  induction l with
  | nil => simp at h
  | cons a l ih =>
    rw [sizeTL]
    have := sizeTL_nn l
    have := sizeT_pos a
    rcases List.mem_cons.1 h with rfl | h
    · omega
    · have := ih h; omega
theorem leavesTL_snoc (p : Tre) : ∀ l : List Tre, leavesTL (l ++ [p]) = leavesTL l ++ leavesT p
  | [] => by simp [leavesTL]
  | q :: l => by simp [leavesTL, leavesTL_snoc p l]
theorem priceTL_snoc (g : Gram) (p : Tre) : ∀ l : List Tre, priceTL g (l ++ [p]) = priceTL g l + priceT g p
  | [] => by simp [priceTL]
  | q :: l => by simp [priceTL, priceTL_snoc g p l]; omega
theorem leaves_len (p : Tre) : ((leavesT p).length : Int) ≤ sizeT p := by
  induction p using Tre.ind with
  | h p ih =>
    rw [leavesT_eq, sizeT_eq]
    generalize p.kids = l at *
    have : ((leavesTL l).length : Int) ≤ sizeTL l := by
      induction l with
      | nil => simp [leavesTL, sizeTL]
      | cons a l ihl => rw [leavesTL, sizeTL, List.length_append]; have := ih a (by simp); have := ihl fun x hx => ih x (by simp [hx]); omega
    split
    · have := sizeTL_nn l; simp; omega
    · omega
theorem leavesL_len : ∀ l : List Tre, ((leavesTL l).length : Int) ≤ sizeTL l
  | [] => by simp [leavesTL, sizeTL]
  | a :: l => by rw [leavesTL, sizeTL, List.length_append]; have := leaves_len a; have := leavesL_len l; omega
theorem priceTL_bd {g : Gram} : ∀ {l : List Tre}, (∀ x, x ∈ l → 0 ≤ priceT g x ∧ priceT g x ≤ 1000 * sizeT x) → 0 ≤ priceTL g l ∧ priceTL g l ≤ 1000 * sizeTL l
  | [], _ => by rw [priceTL, sizeTL]; omega
  | a :: l, h => by
    have := h a (by simp)
    have := priceTL_bd (l := l) fun x hx => h x (by simp [hx])
    rw [priceTL, sizeTL]; omega
theorem priceT_bd {g : Gram} (hv : GVal g) (t : Tre) : ∀ x, okT g x t = true → 0 ≤ priceT g t ∧ priceT g t ≤ 1000 * sizeT t := by
  induction t using Tre.ind with
  | h t ih =>
    intro x hx
    rw [priceT_eq, sizeT_eq]
    have hnn := sizeTL_nn t.kids
    by_cases h0 : t.rule < 0
    · rw [if_pos h0]; omega
    · rw [if_neg h0]
      have hxn : x < 0 := by
        rcases Int.lt_or_le x 0 with h | h
        · exact h
        · have := (okT_leaf h).1 hx; rw [this] at h0; simp [leafT, Tre.rule] at h0
      have hq := (okT_in hxn).1 hx
      have hrf := hv.rule _ (nth_mem hq.rn)
      have h1 := hrf.p0
      have h2 := hrf.p1
      have h3 : 0 ≤ priceTL g t.kids ∧ priceTL g t.kids ≤ 1000 * sizeTL t.kids := priceTL_bd fun y hy => by
        obtain ⟨i, hi, rfl⟩ := List.getElem_of_mem hy
        have := hq.kid i hi
        rw [nth_eq hi] at this
        exact ih _ hy _ this
      omega
theorem leaves21_fn (t : Tre) : sizeT t ≤ 1000000 → Fn Try.prog 33 [treA t] (intsA (leavesT t)) := by
  induction t using Tre.ind with
  | h t ih =>
    intro hsz
    rw [sizeT_eq] at hsz
    rw [leavesT_eq, treA_kids]
    generalize t.kids = kids at *
    generalize t.rule = rule
    generalize t.term = term
    clear t
    refine Fn.intro (by simp [AV.bd, bdL, bdL_append]) (by kernel_rfl) Try.func33 rfl rfl Try.ntmps33 (by exact Nat.le_of_ble_eq_true rfl) ?_; intro Γ hm
    refine wp_lens 0 rfl fun hl => ?_
    have hl : kids.length ≤ 9223372036854775807 := by have := hl; simp [AV.lens, lensL, tresA] at this; omega
    by_cases hr : rule = -1
    · rw [if_pos hr]
      (repeat' (first | apply jA | apply jH | apply jK | apply jM | apply jS | (refine wp_cond rfl (fun hc => ?_) (fun hc => ?_) <;> (try simp only [sB, ne_eq, reduceCtorEq] at hc) <;> (try (exfalso; omega))) | (refine WP.regionC (id := 0) ?_; (refine se_box rfl (by exact ⟨rfl, rfl⟩) ?_); (refine sassign rfl ?_); apply jW) | (refine WP.regionC (id := 1) ?_; (refine sfieldp rfl rfl rfl ?_); (refine sloadp rfl rfl rfl rfl ?_); (refine seql rfl rfl ?_); apply jW) | (refine WP.regionC (id := 2) ?_; (refine sfieldp rfl rfl rfl ?_); (refine sloadp rfl rfl rfl rfl ?_); (refine se_lit (OpP.cons rfl (OpP.nil)) rfl rfl rfl rfl rfl rfl ?_); (refine sassign rfl ?_); apply jW)))
      exact ret_sl (f := intA) (L := [term]) rfl rfl rfl (fun _ => rfl) (fun _ => rfl) rfl
    · rw [if_neg hr]
      (repeat' (first | apply jA | apply jF | apply jH | apply jI | (refine wp_cond rfl (fun hc => ?_) (fun hc => ?_) <;> (try simp only [sB, ne_eq, reduceCtorEq] at hc) <;> (try (exfalso; omega))) | (refine WP.regionC (id := 0) ?_; (refine se_box rfl (by exact ⟨rfl, rfl⟩) ?_); (refine sassign rfl ?_); apply jW) | (refine WP.regionC (id := 1) ?_; (refine sfieldp rfl rfl rfl ?_); (refine sloadp rfl rfl rfl rfl ?_); (refine seql rfl rfl ?_); apply jW) | (refine WP.regionC ?_; (refine sassign rfl ?_); apply jW)))
      refine wp_nil 3 1 rfl ?_
      refine wp_loop (fun (i : Nat) => i ≤ kids.length) (fun i => kids.length - i)
        (fun i => (S 27 [(1, .ptr 0 3 0 0), (3, .ref 1 1 0 (leavesTL (kids.take i)).length), (4, intA (i : Nat))] 2 [(0, some (.arr 3 [.agg [intA rule, intA term, tresA kids]])), (1, some (.arr 1 ((leavesTL (kids.take i)).map intA)))])) 0 ?_ (Nat.zero_le _) ?_
      · rw [show leavesTL (kids.take 0) = [] by simp [leavesTL]]
        exact ⟨[0, 1], ToR.S rfl (by repeat' (first | exact rt_nil | refine rt_r rfl rfl ?_ | refine rt_t rfl rfl ?_ | refine rt_e rfl rfl ?_)) (by repeat' (first | exact ro_nil | refine ro_e rfl rfl ?_ | refine ro_p rfl (by first | exact rfl | fail) (by first | (simp [bdL, bdL_append, AV.bd]; done) | fail) ?_)) rfl (by (rw [hm]; exact rfl)) rfl (by (simp [bdT, AV.bd, bdL, bdL_append]; done)) (by repeat' (first | exact True.intro | exact rfl | refine And.intro ?_ ?_ | (simp [bdOq, bdL, bdL_append, AV.bd]; done))) (by (rw [hm]; exact Nat.le_of_ble_eq_true rfl))⟩
      intro i hi
      have hyl := leavesL_len (kids.take i)
      have hst := sizeTL_take kids i
      by_cases hlt : i < kids.length
      · have hsk := sizeTL_mem (nth_mem hlt)
        have hy2 := leaves_len (nth kids i)
        have hx := ih _ (nth_mem hlt) (by omega)
        (repeat' (first | apply jA | apply jF | apply jH | apply jI | apply jN | (refine wp_cond rfl (fun hc => ?_) (fun hc => ?_) <;> (try simp only [sB, ne_eq, reduceCtorEq] at hc) <;> (try (exfalso; omega))) | (refine WP.regionC (id := 5) ?_; (refine smove rfl ?_); (refine sfieldp rfl rfl rfl ?_); (refine sloadp rfl rfl rfl rfl ?_); (refine slenm rfl rfl ?_); (refine slss rfl rfl ?_); apply jW) | (refine WP.regionC (id := 7) ?_; (refine smove rfl ?_); (refine sfieldp rfl rfl rfl ?_); (refine sloadp rfl rfl rfl rfl ?_); (refine smove rfl ?_); (refine sidxn rfl rfl (by omega) ?_); (refine sloadw rfl rfl ?_); (refine sc_p rfl rfl (by first | ((repeat' first | exact SubL.nil | refine SubL.cons ?_ ?_ | exact Sub.refl); done) | fail) (by first | (simp [bdL, bdL_append, AV.bd]; done) | fail) (hx) ?_); (refine se_appL rfl rfl rfl rfl rfl rfl rfl (by omega) ?_); (refine sassign rfl ?_); apply jW) | (refine WP.regionC (id := 6) ?_; (refine smove rfl ?_); (refine sadd rfl rfl (by exact inr_i64_of (by omega)) ?_); (refine sassign rfl ?_); apply jW)))
        refine ⟨i + 1, ⟨by omega, by omega⟩, ?_⟩
        rw [take_succ_nth hlt, leavesTL_snoc]
        exact ⟨[0, 2], ToR.S rfl (by repeat' (first | exact rt_nil | refine rt_r rfl rfl ?_ | refine rt_t rfl rfl ?_ | refine rt_e rfl rfl ?_)) (by repeat' (first | exact ro_nil | refine ro_p rfl (by first | exact rfl | fail) (by first | exact bdL_map (fun _ => by exact rfl) _ | (simp [bdL, bdL_append, AV.bd]; done) | fail) ?_)) rfl (by (rw [hm]; exact rfl)) rfl (by (simp [bdT, AV.bd, bdL, bdL_append]; done)) (by repeat' (first | exact True.intro | refine And.intro ?_ ?_ | exact bdL_map (fun _ => by exact rfl) _ | (simp [bdOq, bdL, bdL_append, AV.bd]; done))) (by (rw [hm]; exact Nat.le_of_ble_eq_true rfl))⟩
      · have e1 : leavesTL kids = leavesTL (kids.take i) := by rw [List.take_of_length_le (by omega)]
        rw [e1]
        (repeat' (first | apply jA | apply jH | apply jJ | apply jK | apply jL | apply jP | apply jS | (refine wp_cond rfl (fun hc => ?_) (fun hc => ?_) <;> (try simp only [sB, ne_eq, reduceCtorEq] at hc) <;> (try (exfalso; omega))) | (refine WP.regionC (id := 5) ?_; (refine smove rfl ?_); (refine sfieldp rfl rfl rfl ?_); (refine sloadp rfl rfl rfl rfl ?_); (refine slenm rfl rfl ?_); (refine slss rfl rfl ?_); apply jW) | (refine WP.regionC (id := 8) ?_; (refine smove rfl ?_); (refine sassign rfl ?_); apply jW) | refine ret_sl rfl rfl rfl (fun _ => by exact rfl) (fun _ => rfl) ?_))
        rfl
theorem treePrice_fn {g : Gram} (hv : GVal g) (t : Tre) : ∀ x, okT g x t = true → sizeT t ≤ 1000000 → Fn Try.prog 34 [gramA g, treA t] (intA (priceT g t)) := by
  induction t using Tre.ind with
  | h t ih =>
    intro x hx hsz
    have hq := fun hx0 : x < 0 => (okT_in hx0).1 hx
    have hlf := fun hx0 : 0 ≤ x => (okT_leaf hx0).1 hx
    have hr2 := hv.r2
    have hrk : t.rule < 0 ∨ (0 ≤ t.rule ∧ t.rule.toNat < g.rules.length ∧ ∀ i, i < t.kids.length → ∃ y, okT g y (nth t.kids i) = true) := by
      rcases Int.lt_or_le x 0 with h | h
      · exact .inr ⟨(hq h).r0, (hq h).rn, fun i hi => ⟨_, (hq h).kid i hi⟩⟩
      · left; rw [hlf h]; simp [leafT, Tre.rule]
    clear hq hlf
    rw [sizeT_eq] at hsz
    rw [priceT_eq, treA_kids]
    generalize t.kids = kids at *
    generalize t.rule = rule at *
    generalize t.term = term
    clear hx t
    refine Fn.intro rfl (by kernel_rfl) Try.func34 rfl rfl Try.ntmps34 (by exact Nat.le_of_ble_eq_true rfl) ?_; intro Γ hm
    refine wp_lens 1 rfl fun hl => ?_
    have hl : kids.length ≤ 9223372036854775807 := by have := hl; simp [AV.lens, lensL, tresA] at this; omega
    by_cases hr : rule < 0
    · rw [if_pos hr]
      (repeat' (first | apply jA | apply jH | apply jK | apply jM | apply jS | (refine wp_cond rfl (fun hc => ?_) (fun hc => ?_) <;> (try simp only [sB, ne_eq, reduceCtorEq] at hc) <;> (try (exfalso; omega))) | (refine WP.regionC (id := 0) ?_; (refine se_box rfl (by exact ⟨rfl, rfl⟩) ?_); (refine se_box rfl (by exact ⟨rfl, rfl⟩) ?_); (refine sassign rfl ?_); apply jW) | (refine WP.regionC (id := 1) ?_; (refine sfieldp rfl rfl rfl ?_); (refine sloadp rfl rfl rfl rfl ?_); (refine slss rfl rfl ?_); apply jW) | (refine WP.regionC (id := 2) ?_; (refine sassign rfl ?_); apply jW) | exact ret_eq rfl rfl rfl))
    · rw [if_neg hr]
      obtain ⟨hr0, hrn, hkk⟩ := hrk.resolve_left hr
      have hrf := hv.rule _ (nth_mem hrn)
      have hp0 := hrf.p0
      have hp1 := hrf.p1
      (repeat' (first | apply jA | apply jF | apply jH | apply jI | (refine wp_cond rfl (fun hc => ?_) (fun hc => ?_) <;> (try simp only [sB, ne_eq, reduceCtorEq] at hc) <;> (try (exfalso; omega))) | (refine WP.regionC (id := 0) ?_; (refine se_box rfl (by exact ⟨rfl, rfl⟩) ?_); (refine se_box rfl (by exact ⟨rfl, rfl⟩) ?_); (refine sassign rfl ?_); apply jW) | (refine WP.regionC (id := 1) ?_; (refine sfieldp rfl rfl rfl ?_); (refine sloadp rfl rfl rfl rfl ?_); (refine slss rfl rfl ?_); apply jW) | (refine WP.regionC (id := 3) ?_; (refine sfieldp rfl rfl rfl ?_); (refine sloadp rfl rfl rfl rfl ?_); (refine sfieldp rfl rfl rfl ?_); (refine sloadp rfl rfl rfl rfl ?_); (refine su (aidxz rfl rfl (by omega)) ?_); (refine su (afieldi rfl rfl rfl) ?_); (refine su (aloadi rfl rfl) ?_); (refine sassign rfl ?_); apply jW) | (refine WP.regionC (id := 4) ?_; (refine sassign rfl ?_); apply jW)))
      refine wp_loop (fun (i : Nat) => i ≤ kids.length) (fun i => kids.length - i)
        (fun i => (S 34 [(2, .ptr 0 4 0 0), (3, .ptr 1 3 0 0), (5, intA ((nth g.rules rule.toNat).price + priceTL g (kids.take i))), (6, intA (i : Nat))] 2 [(0, some (.arr 4 [gramA g])), (1, some (.arr 3 [.agg [intA rule, intA term, tresA kids]]))])) 0 ?_ (Nat.zero_le _) ?_
      · rw [show (nth g.rules rule.toNat).price + priceTL g (kids.take 0) = (nth g.rules rule.toNat).price by simp [priceTL]]
        exact ⟨[0, 1], ToR.S rfl (by repeat' (first | exact rt_nil | refine rt_t rfl rfl ?_ | refine rt_e rfl rfl ?_)) (by repeat' (first | exact ro_nil | refine ro_p rfl (by first | exact rfl | fail) (by first | (simp [bdL, bdL_append, AV.bd]; done) | fail) ?_)) rfl (by (rw [hm]; exact rfl)) rfl (by (simp [bdT, AV.bd, bdL, bdL_append]; done)) (by repeat' (first | exact True.intro | refine And.intro ?_ ?_ | (simp [bdOq, bdL, bdL_append, AV.bd]; done))) (by (rw [hm]; exact Nat.le_of_ble_eq_true rfl))⟩
      intro i hi
      have hst := sizeTL_take kids i
      have hpb : ∀ x, x ∈ kids → 0 ≤ priceT g x ∧ priceT g x ≤ 1000 * sizeT x := fun x hx => by
        obtain ⟨j, hj, rfl⟩ := List.getElem_of_mem hx
        obtain ⟨y, hy⟩ := hkk j hj
        rw [nth_eq hj] at hy
        exact priceT_bd hv _ _ hy
      have hpl := priceTL_bd (g := g) (l := kids.take i) fun x hx => hpb x (List.mem_of_mem_take hx)
      by_cases hlt : i < kids.length
      · have hsk := sizeTL_mem (nth_mem hlt)
        have hp2 := hpb _ (nth_mem hlt)
        obtain ⟨y, hy⟩ := hkk i hlt
        have hx := ih _ (nth_mem hlt) _ hy (by omega)
        (repeat' (first | apply jA | apply jF | apply jH | apply jI | apply jN | (refine wp_cond rfl (fun hc => ?_) (fun hc => ?_) <;> (try simp only [sB, ne_eq, reduceCtorEq] at hc) <;> (try (exfalso; omega))) | (refine WP.regionC (id := 5) ?_; (refine smove rfl ?_); (refine sfieldp rfl rfl rfl ?_); (refine sloadp rfl rfl rfl rfl ?_); (refine slenm rfl rfl ?_); (refine slss rfl rfl ?_); apply jW) | (refine wp_draw (id := 7) 10 mixed (by kernel_rfl) (by kernel_rfl) rfl ?_ <;> (refine rmove rfl ?_) <;> (refine rd_u rfl rfl (aloadpw rfl rfl rfl rfl) ?_) <;> (refine rfieldp rfl rfl rfl ?_) <;> (refine rloadp rfl rfl rfl rfl ?_) <;> (refine rmove rfl ?_) <;> (refine rd_u rfl rfl (aidxn rfl rfl (by omega)) ?_) <;> (refine rd_u rfl rfl (aloadw rfl rfl) ?_) <;> (refine rd_call rfl rfl (by first | ((repeat' first | exact SubL.nil | refine SubL.cons ?_ ?_ | exact Sub.refl); done) | fail) (by first | (simp [bdL, bdL_append, AV.bd]; done) | fail) (hx) ?_) <;> (refine rd_u rfl rfl (aadd rfl rfl (by exact inr_i64_of (by omega))) ?_) <;> (refine rd_u rfl rfl (aassign rfl) ?_) <;> (refine rd_end (by kernel_rfl) ?_)) | (refine WP.regionC (id := 6) ?_; (refine smove rfl ?_); (refine sadd rfl rfl (by exact inr_i64_of (by omega)) ?_); (refine sassign rfl ?_); apply jW)))
        refine ⟨i + 1, ⟨by omega, by omega⟩, ?_⟩
        rw [take_succ_nth hlt, priceTL_snoc, ← Int.add_assoc]
        exact ⟨[0, 1], ToR.S rfl (by repeat' (first | exact rt_nil | refine rt_t rfl rfl ?_ | refine rt_e rfl rfl ?_)) (by repeat' (first | exact ro_nil | refine ro_p rfl (by first | exact rfl | fail) (by first | (simp [bdL, bdL_append, AV.bd]; done) | fail) ?_)) rfl (by (rw [hm]; exact rfl)) rfl (by (simp [bdT, AV.bd, bdL, bdL_append]; done)) (by repeat' (first | exact True.intro | refine And.intro ?_ ?_ | (simp [bdOq, bdL, bdL_append, AV.bd]; done))) (by (rw [hm]; exact Nat.le_of_ble_eq_true rfl))⟩
      · have e1 : priceTL g kids = priceTL g (kids.take i) := by rw [List.take_of_length_le (by omega)]
        rw [e1]
        (repeat' (first | apply jA | apply jH | apply jJ | apply jK | apply jL | apply jP | apply jS | (refine wp_cond rfl (fun hc => ?_) (fun hc => ?_) <;> (try simp only [sB, ne_eq, reduceCtorEq] at hc) <;> (try (exfalso; omega))) | (refine WP.regionC (id := 5) ?_; (refine smove rfl ?_); (refine sfieldp rfl rfl rfl ?_); (refine sloadp rfl rfl rfl rfl ?_); (refine slenm rfl rfl ?_); (refine slss rfl rfl ?_); apply jW) | (refine WP.regionC (id := 8) ?_; (refine smove rfl ?_); (refine sassign rfl ?_); apply jW) | exact ret_eq rfl rfl rfl))
@[simp] theorem bdL_ints (n : Nat) (l : List (List Int)) : bdL n (l.map intsA) = true := bdL_map (fun _ => by simp) l
theorem row_ne {a b : List (List Int)} {i : Nat} (h : nth a i ≠ nth b i) : a ≠ b := by rintro rfl; exact h rfl
theorem same21_fn (a b : List (List Int)) : Fn Try.prog 46 [.sl 1 (a.map intsA), .sl 1 (b.map intsA)] (boolA (decide (a = b))) := by
  refine Fn.intro rfl (by kernel_rfl) Try.func46 rfl rfl Try.ntmps46 (by exact Nat.le_of_ble_eq_true rfl) ?_; intro Γ hm
  refine wp_lens 0 rfl fun hl => ?_
  have hl0 : a.length ≤ 9223372036854775807 := by simpa using hl.1
  have hll : ∀ x, x ∈ a → x.length ≤ 9223372036854775807 := by
    have := hl; simp only [AV.lens, lensL_map, intsA, List.length_map] at this
    exact fun x hx => (this.2 x hx).1
  (repeat' (first | apply jA | apply jF | apply jH | apply jI | apply jK | apply jM | apply jS | (refine wp_cond rfl (fun hc => ?_) (fun hc => ?_) <;> (try simp only [sB, ne_eq, reduceCtorEq] at hc) <;> (try (exfalso; omega))) | (refine WP.regionC ?_; (refine sassign rfl ?_); apply jW) | (refine WP.regionC (id := 1) ?_; (refine smove rfl ?_); (refine slenm rfl rfl ?_); (refine smove rfl ?_); (refine slenm rfl rfl ?_); (refine su (aneq rfl rfl) ?_); apply jW) | refine ret_b rfl ?_))
  · rw [decide_eq_false]
    rintro rfl
    exact hc rfl
  refine wp_loop (fun (i : Nat) => i ≤ a.length ∧ a.take i = b.take i) (fun i => a.length - i)
    (fun i => (S 53 [(0, .sl 1 (a.map intsA)), (1, .sl 1 (b.map intsA)), (5, intA (i : Nat))] 0 [])) 0 ⟨[], ToR.S rfl (by repeat' (first | exact rt_nil | refine rt_e rfl rfl ?_ | refine rt_p rfl rfl (by first | (simp [AV.bd, bdL, bdL_append]; done) | fail) ?_)) (by repeat' (exact ro_nil)) rfl (by (rw [hm]; exact rfl)) rfl (by (simp [bdT, AV.bd, bdL, bdL_append]; done)) (by repeat' (exact True.intro)) (by (rw [hm]; exact Nat.le_of_ble_eq_true rfl))⟩ ⟨Nat.zero_le _, rfl⟩ ?_
  rintro i ⟨hi, hall⟩
  have hab : a.length = b.length := by omega
  by_cases hlt : i < a.length
  · have hlb : i < b.length := by omega
    have hti := hll _ (nth_mem hlt)
    (repeat' (first | apply jA | apply jF | apply jH | apply jI | apply jK | apply jM | apply jO | apply jS | (refine wp_cond rfl (fun hc => ?_) (fun hc => ?_) <;> (try simp only [sB, ne_eq, reduceCtorEq] at hc) <;> (try (exfalso; omega))) | (refine WP.regionC (id := 4) ?_; (refine smove rfl ?_); (refine smove rfl ?_); (refine slenm rfl rfl ?_); (refine slss rfl rfl ?_); apply jW) | (refine wp_draw (id := 6) 11 mixed (by kernel_rfl) (by kernel_rfl) rfl ?_ <;> (refine rmove rfl ?_) <;> (refine rmove rfl ?_) <;> (refine rd_u rfl rfl (aidxn rfl rfl (by omega)) ?_) <;> (refine rd_u rfl rfl (aloadw rfl rfl) ?_) <;> (refine rd_u rfl rfl (alenm rfl rfl) ?_) <;> (refine rmove rfl ?_) <;> (refine rmove rfl ?_) <;> (refine rd_u rfl rfl (aidxn rfl rfl (by omega)) ?_) <;> (refine rd_u rfl rfl (aloadw rfl rfl) ?_) <;> (refine rd_u rfl rfl (alenm rfl rfl) ?_) <;> (refine rd_u rfl rfl (aneq rfl rfl) ?_) <;> (refine rd_end (by kernel_rfl) ?_)) | (refine WP.regionC ?_; (refine sassign rfl ?_); apply jW) | refine ret_b rfl ?_))
    · rw [decide_eq_false (row_ne fun h => hc (by rw [h]))]
    have hc1 := hc
    refine wp_loop (fun (k : Nat) => k ≤ (nth a i).length ∧ (nth a i).take k = (nth b i).take k) (fun k => (nth a i).length - k)
      (fun k => (S 53 [(0, .sl 1 (a.map intsA)), (1, .sl 1 (b.map intsA)), (5, intA (i : Nat)), (6, intA (k : Nat))] 0 [])) 0 ⟨[], ToR.S rfl (by repeat' (first | exact rt_nil | refine rt_e rfl rfl ?_ | refine rt_p rfl rfl (by first | (simp [AV.bd, bdL, bdL_append]; done) | fail) ?_)) (by repeat' (exact ro_nil)) rfl (by (rw [hm]; exact rfl)) rfl (by (simp [bdT, AV.bd, bdL, bdL_append]; done)) (by repeat' (exact True.intro)) (by (rw [hm]; exact Nat.le_of_ble_eq_true rfl))⟩ ⟨Nat.zero_le _, rfl⟩ ?_
    rintro k ⟨hk, hkall⟩
    have htl : (nth a i).length = (nth b i).length := by omega
    by_cases hkl : k < (nth a i).length
    · have hkb : k < (nth b i).length := by omega
      (repeat' (first | apply jA | apply jF | apply jH | apply jI | apply jK | apply jM | apply jN | apply jO | apply jS | (refine wp_cond rfl (fun hc => ?_) (fun hc => ?_) <;> (try simp only [sB, ne_eq, reduceCtorEq] at hc) <;> (try (exfalso; omega))) | (refine WP.regionC (id := 9) ?_; (refine smove rfl ?_); (refine smove rfl ?_); (refine smove rfl ?_); (refine sidxn rfl rfl (by omega) ?_); (refine sloadw rfl rfl ?_); (refine slenm rfl rfl ?_); (refine slss rfl rfl ?_); apply jW) | (refine wp_draw (id := 11) 15 mixed (by kernel_rfl) (by kernel_rfl) rfl ?_ <;> (refine rmove rfl ?_) <;> (refine rmove rfl ?_) <;> (refine rd_u rfl rfl (aidxn rfl rfl (by omega)) ?_) <;> (refine rd_u rfl rfl (aloadw rfl rfl) ?_) <;> (refine rmove rfl ?_) <;> (refine rd_u rfl rfl (aidxn rfl rfl (by omega)) ?_) <;> (refine rd_u rfl rfl (aloadw rfl rfl) ?_) <;> (refine rmove rfl ?_) <;> (refine rmove rfl ?_) <;> (refine rd_u rfl rfl (aidxn rfl rfl (by omega)) ?_) <;> (refine rd_u rfl rfl (aloadw rfl rfl) ?_) <;> (refine rmove rfl ?_) <;> (refine rd_u rfl rfl (aidxn rfl rfl (by omega)) ?_) <;> (refine rd_u rfl rfl (aloadw rfl rfl) ?_) <;> (refine rd_u rfl rfl (aneq rfl rfl) ?_) <;> (refine rd_end (by kernel_rfl) ?_)) | (refine WP.regionC (id := 12) ?_; (refine sassign rfl ?_); apply jW) | (refine WP.regionC (id := 10) ?_; (refine smove rfl ?_); (refine sadd rfl rfl (by exact inr_i64_of (by omega)) ?_); (refine sassign rfl ?_); apply jW) | refine ret_b rfl ?_))
      · rw [decide_eq_false (row_ne (i := i) fun h => hc (by rw [h]))]
      · exact ⟨k + 1, ⟨by omega, by omega, take_eq_succ (by omega) (by omega) hkall hc⟩, ⟨[], ToR.S rfl (by repeat' (first | exact rt_nil | refine rt_e rfl rfl ?_ | refine rt_p rfl rfl (by first | (simp [AV.bd, bdL, bdL_append]; done) | fail) ?_)) (by repeat' (exact ro_nil)) rfl (by (rw [hm]; exact rfl)) rfl (by (simp [bdT, AV.bd, bdL, bdL_append]; done)) (by repeat' (exact True.intro)) (by (rw [hm]; exact Nat.le_of_ble_eq_true rfl))⟩⟩
    (repeat' (first | apply jA | apply jH | apply jJ | apply jL | apply jN | apply jP | (refine wp_cond rfl (fun hc => ?_) (fun hc => ?_) <;> (try simp only [sB, ne_eq, reduceCtorEq] at hc) <;> (try (exfalso; omega))) | (refine WP.regionC (id := 9) ?_; (refine smove rfl ?_); (refine smove rfl ?_); (refine smove rfl ?_); (refine sidxn rfl rfl (by omega) ?_); (refine sloadw rfl rfl ?_); (refine slenm rfl rfl ?_); (refine slss rfl rfl ?_); apply jW) | (refine WP.regionC (id := 5) ?_; (refine smove rfl ?_); (refine sadd rfl rfl (by exact inr_i64_of (by omega)) ?_); (refine sassign rfl ?_); apply jW)))
    exact ⟨i + 1, ⟨by omega, by omega, take_eq_succ (by omega) (by omega) hall (eq_of_takes htl (by omega) hkall)⟩, ⟨[], ToR.S rfl (by repeat' (first | exact rt_nil | refine rt_e rfl rfl ?_ | refine rt_p rfl rfl (by first | (simp [AV.bd, bdL, bdL_append]; done) | fail) ?_)) (by repeat' (exact ro_nil)) rfl (by (rw [hm]; exact rfl)) rfl (by (simp [bdT, AV.bd, bdL, bdL_append]; done)) (by repeat' (exact True.intro)) (by (rw [hm]; exact Nat.le_of_ble_eq_true rfl))⟩⟩
  (repeat' (first | apply jA | apply jH | apply jJ | apply jK | apply jL | apply jP | apply jS | (refine wp_cond rfl (fun hc => ?_) (fun hc => ?_) <;> (try simp only [sB, ne_eq, reduceCtorEq] at hc) <;> (try (exfalso; omega))) | (refine WP.regionC (id := 4) ?_; (refine smove rfl ?_); (refine smove rfl ?_); (refine slenm rfl rfl ?_); (refine slss rfl rfl ?_); apply jW) | (refine WP.regionC (id := 13) ?_; (refine sassign rfl ?_); apply jW) | refine ret_b rfl ?_))
  simp [eq_of_takes hab (by omega) hall]
end Go.Lg

namespace Go.Lg
open Go.Proofs
set_option linter.unusedSimpArgs false
set_option linter.unusedVariables false
attribute [local irreducible] Ap Rq asemC WP RunD Ret Gq thenA inBlockA bodyQ noGotoA RqL RqP OpP
set_option maxHeartbeats 8000000
set_option maxRecDepth 20000
attribute [local simp] AV.cells
theorem leaf_fn (x : Int) : Fn Try.prog 70 [intA x] (treA (leafT x)) := by
  rw [show treA (leafT x) = .agg [intA (-1), intA x, tresA []] from treA_kids _]
  refine Fn.intro (by rfl) (by kernel_rfl) Try.func70 rfl rfl Try.ntmps70 (by exact Nat.le_of_ble_eq_true rfl) ?_; intro Γ hm
  (repeat' (first | apply jA | apply jH | apply jK | apply jS | (refine WP.regionC (id := 0) ?_; (refine se_alloc (by rfl) ?_); apply jW) | (refine WP.regionC (id := 1) ?_; (refine smove rfl ?_); (refine su (ap_build (RqP.cons (rq_p rfl rfl) (RqP.cons (rq_p rfl rfl) (RqP.nil))) (by rfl)) ?_); (refine se_store_b (by rfl) (by rfl) (by rfl) (by rfl) ?_); apply jW)))
  exact ret_c (x := .agg [intA (-1), intA x, .val (.slice none 0 0)]) (by rfl) (by rfl) (by rfl) (by rfl) (by first | ((repeat' first | exact FzL.nil | refine FzL.cons ?_ ?_ | exact Fz.nil | (exact Fz.reflp (by simp [AV.bd, bdL, bdL_append])) | refine Fz.aggL ?_); done) | fail)
theorem toTree_fn {g : Gram} (hv : GVal g) : ∀ (k : Nat) (p : Prs) (h : Int), szP p ≤ k → h < g.nonterms.length → okP (nrmOf g) h p = true → Fn Try.prog 50 [gramA g, nrmA (nrmOf g), prsA p] (treA (toTF g k p)) := by
  intro k
  induction k with
  | zero => intro p h hk; rw [szP_eq] at hk; omega
  | succ k ih =>
    intro p h hk hh hok
    have hp := okP_in.1 hok
    obtain ⟨i, hi, hpr, hhd⟩ := low_pos hv hh hp
    have hr2 := hv.r2
    have hpos := chain_lt hi (k := 0) (by omega)
    rw [Nat.add_zero] at hpos
    have hor := origin_pos (g := g) hi
    have hlen := (hv.rule _ (nth_mem hi)).len
    have hpn : p.rule.toNat = posN g.rules i := by omega
    rw [toTF_kid hi hpr, treA_kids]
    simp only [Tre.rule, Tre.term, Tre.kids]
    rw [prsA_kids, hpr]
    refine Fn.intro (by simp [AV.bd, bdL, bdL_append]) (by kernel_rfl) Try.func50 rfl rfl Try.ntmps50 (by exact Nat.le_of_ble_eq_true rfl) ?_; intro Γ hm
    (repeat' (first | apply jA | apply jH | (refine WP.regionC (id := 0) ?_; (refine se_box (by rfl) (by exact ⟨rfl, rfl⟩) ?_); (refine se_box (by rfl) (by exact ⟨rfl, rfl⟩) ?_); (refine se_box (by rfl) (by exact ⟨rfl, rfl⟩) ?_); (refine se_alloc (by rfl) ?_); apply jW) | (refine WP.regionC (id := 1) ?_; (refine sfieldp rfl rfl rfl ?_); (refine sloadp rfl rfl rfl rfl ?_); (refine sfieldp rfl rfl rfl ?_); (refine sloadp rfl rfl rfl rfl ?_); (refine sidxn rfl rfl (by omega) ?_); (refine su (afieldi rfl rfl rfl) ?_); (refine su (aloadi rfl rfl) ?_); (refine su (ap_build (RqP.cons (rq_p rfl rfl) (RqP.nil)) (by rfl)) ?_); (refine se_alloc (by rfl) ?_); (refine se_store_b (by rfl) (by rfl) (by rfl) (by rfl) ?_); apply jW) | (refine WP.regionC (id := 2) ?_; (refine sfieldp rfl rfl rfl ?_); (refine sloadp rfl rfl rfl rfl ?_); (refine sfieldp rfl rfl rfl ?_); (refine sloadp rfl rfl rfl rfl ?_); (refine su (aidxz rfl rfl (by omega)) ?_); (refine su (afieldi rfl rfl rfl) ?_); (refine su (aloadi rfl rfl) ?_); (refine sassign rfl ?_); apply jW)))
    rw [hor, Int.toNat_natCast]
    by_cases h1 : (nth g.rules i).body.length = 1 ∧ 0 ≤ nth (nth g.rules i).body 0
    · have h11 := h1.1
      have h12 := h1.2
      have hk1 : (List.range (nth g.rules i).body.length).map (kidT g k (nth g.rules i).body (unroll (nth g.rules i).body.length p)) = [leafT (nth (nth g.rules i).body 0)] := by
        rw [h11]; simp [kidT, h12]
      rw [hk1]
      (repeat' (first | apply jA | apply jH | apply jK | apply jM | apply jS | (refine wp_cond (by rfl) (fun hc => ?_) (fun hc => ?_) <;> (try simp only [sB, ne_eq, reduceCtorEq] at hc) <;> (try (exfalso; omega))) | (refine WP.regionC (id := 3) ?_; (refine smove rfl ?_); (refine slenm rfl rfl ?_); (refine seql rfl rfl ?_); (refine smove rfl ?_); (refine sg (gq_vt rfl rfl) (fun he => ap_move (rq_p rfl rfl)) ?_); (refine sg (gq_vt rfl rfl) (fun he => ap_idx_n (rq_c rfl rfl) (rq_p rfl rfl) (by (try simp only [sH, id, sB, ne_eq, reduceCtorEq] at he); (simp only [sL] <;> omega))) ?_); (refine sg (gq_vt rfl rfl) (fun he => ap_load_w (rq_c rfl rfl) (by rfl)) ?_); (refine sg (gq_vt rfl rfl) (fun he => ap_geq (rq_c rfl rfl) (rq_p rfl rfl)) ?_); (refine su (ap_and (rq_p rfl rfl) (rq_c rfl rfl)) ?_); apply jW) | (refine WP.regionC (id := 4) ?_; (refine smove rfl ?_); (refine sidxn rfl rfl (by (simp only [sL] <;> omega)) ?_); (refine sloadw rfl rfl ?_); (refine sc_p rfl rfl (by first | ((repeat' first | exact SubL.nil | refine SubL.cons ?_ ?_ | exact Sub.refl); done) | fail) (by first | (simp [bdL, bdL_append, AV.bd]; done) | fail) (leaf_fn _) ?_); (refine se_lit (OpP.cons (by rfl) (OpP.nil)) (by rfl) (by rfl) (by rfl) (by rfl) (by rfl) (by rfl) ?_); (refine sfieldp rfl rfl rfl ?_); (refine se_store_b (by rfl) (by rfl) (by rfl) (by rfl) ?_); apply jW) | (refine WP.regionC (id := 5) ?_; (refine sloadpw rfl rfl rfl rfl ?_); (refine se_store_b (by rfl) (by rfl) (by rfl) (by rfl) ?_); apply jW)))
      exact ret_c (x := .agg [intA i, intA 0, .ref 5 3 0 1]) (by rfl) (by rfl) (by rfl) (by rfl) (by first | ((repeat' first | exact FzL.nil | refine FzL.cons ?_ ?_ | (exact Fz.list (by rfl) (by rfl) (fun _ => by simp [AV.bd, bdL, bdL_append]) (fun _ => rfl)) | (exact Fz.reflp (by simp [AV.bd, bdL, bdL_append])) | refine Fz.aggL ?_); done) | fail)
    · generalize hU : unroll (nth g.rules i).body.length p = U
      obtain ⟨hUl, hUok, hUsz, hUk⟩ := unr_kids hv hi hpr hp h1
      rw [hU] at hUl hUok hUsz hUk
      have hrf := hv.rule _ (nth_mem hi)
      (repeat' (first | apply jA | apply jF | apply jH | apply jI | (refine wp_cond (by rfl) (fun hc => ?_) (fun hc => ?_) <;> (try simp only [sB, ne_eq, reduceCtorEq] at hc) <;> (try (exfalso; omega))) | (refine WP.regionC (id := 3) ?_; (refine smove rfl ?_); (refine slenm rfl rfl ?_); (refine seql rfl rfl ?_); (refine smove rfl ?_); (refine sg (gq_vt rfl rfl) (fun he => ap_move (rq_p rfl rfl)) ?_); (refine sg (gq_vt rfl rfl) (fun he => ap_idx_n (rq_c rfl rfl) (rq_p rfl rfl) (by (try simp only [sH, id, sB, ne_eq, reduceCtorEq] at he); (simp only [sL] <;> omega))) ?_); (refine sg (gq_vt rfl rfl) (fun he => ap_load_w (rq_c rfl rfl) (by rfl)) ?_); (refine sg (gq_vt rfl rfl) (fun he => ap_geq (rq_c rfl rfl) (rq_p rfl rfl)) ?_); (refine su (ap_and (rq_p rfl rfl) (rq_c rfl rfl)) ?_); apply jW) | (refine WP.regionC (id := 6) ?_; (refine sassign rfl ?_); apply jW)))
      refine wp_nil 9 2 (by rfl) ?_
      refine wp_loop (fun (x : Nat × Prs × List Prs) => x.2.2 ++ unroll ((nth g.rules i).body.length - x.1) x.2.1 = U ∧ x.2.2.length = x.1 ∧ ((x.1 = 0 ∧ x.2.1 = p) ∨ (2 ≤ (nth g.rules i).body.length ∧ x.1 ≤ (nth g.rules i).body.length - 2 ∧ x.2.1.rule = ((posN g.rules i + x.1 : Nat) : Int) ∧ ∃ h', PIn (nrmOf g) h' x.2.1))) (fun x => (nth g.rules i).body.length - x.1)
        (fun x => (S 103 [(3, .ptr 0 4 0 0), (4, .ptr 1 4 0 0), (5, .ptr 2 2 0 0), (6, .ptr 3 3 0 0), (7, .ptr 4 3 0 0), (8, intsA (nth g.rules i).body), (9, .ref 5 2 0 x.2.2.length)] 6 [(0, some (.arr 4 [gramA g])), (1, some (.arr 4 [nrmA (nrmOf g)])), (2, some (.arr 2 [prsA x.2.1])), (3, some (.arr 3 [.agg [intA 0, intA 0, .val (.slice none 0 0)]])), (4, some (.arr 3 [.agg [intA i, intA 0, .val (.slice none 0 0)]])), (5, some (.arr 2 (x.2.2.map prsA)))])) (0, p, []) ?_ ⟨by simpa using hU, rfl, .inl ⟨rfl, rfl⟩⟩ ?_
      · rw [prsA_kids p, hpr]
        exact ⟨[0, 1, 2, 3, 4, 5], ToR.S rfl (by repeat' (first | exact rt_nil | refine rt_r (by rfl) (by rfl) ?_ | refine rt_t (by rfl) (by rfl) ?_ | refine rt_p (by rfl) (by rfl) (by first | (simp [AV.bd, bdL, bdL_append]; done) | fail) ?_)) (by repeat' (first | exact ro_nil | refine ro_e (by rfl) (by rfl) ?_ | refine ro_p (by rfl) (by first | exact rfl | fail) (by first | (simp [bdL, bdL_append, AV.bd]; done) | fail) ?_)) (by rfl) (by (rw [hm]; exact rfl)) (by rfl) (by (simp [bdT, AV.bd, bdL, bdL_append]; done)) (by repeat' (first | exact True.intro | exact rfl | refine And.intro ?_ ?_ | (simp [bdOq, bdL, bdL_append, AV.bd]; done))) (by (rw [hm]; exact Nat.le_of_ble_eq_true rfl))⟩
      rintro ⟨m, q, L⟩ ⟨hq1, hq2, hq3⟩
      dsimp only at *
      rw [prsA_kids q]
      rcases chain_round hv hi hU hUk hUl hpr hp hq1 hq2 hq3 with ⟨c1, c2, c3, c4, h', c5⟩ | ⟨hUe, hex, _⟩
      · (repeat' (first | apply jA | apply jF | apply jH | apply jI | apply jN | (refine wp_cond (by rfl) (fun hc => ?_) (fun hc => ?_) <;> (try simp only [sB, ne_eq, reduceCtorEq] at hc) <;> (try (exfalso; omega))) | (refine WP.regionC (id := 7) ?_; (refine sfieldp rfl rfl rfl ?_); (refine sloadp rfl rfl rfl rfl ?_); (refine slenm rfl rfl ?_); (refine seql rfl rfl ?_); (refine smove rfl ?_); (refine sg (gq_vt rfl rfl) (fun he => ap_move (rq_p rfl rfl)) ?_); (refine sg (gq_vt rfl rfl) (fun he => ap_len_r (by rfl) (rq_c rfl rfl)) ?_); (refine sg (gq_vt rfl rfl) (fun he => ap_add (rq_c rfl rfl) (rq_p rfl rfl) (by (try simp only [sH, id, sB, ne_eq, reduceCtorEq] at he); exact inr_i64_of (by omega))) ?_); (refine sg (gq_vt rfl rfl) (fun he => ap_move (rq_p rfl rfl)) ?_); (refine sg (gq_vt rfl rfl) (fun he => ap_len_m (by rfl) (rq_c rfl rfl)) ?_); (refine sg (gq_vt rfl rfl) (fun he => ap_lss (rq_c rfl rfl) (rq_c rfl rfl)) ?_); (refine su (ap_and (rq_p rfl rfl) (rq_c rfl rfl)) ?_); apply jW) | (refine wp_draw (id := 8) 13 mixed (by kernel_rfl) (by kernel_rfl) rfl ?_ <;> (refine rmove rfl ?_) <;> (refine rfieldp rfl rfl rfl ?_) <;> (refine rloadp rfl rfl rfl rfl ?_) <;> (refine rd_u (by rfl) (by rfl) (aidxn rfl rfl (by (simp only [sL] <;> omega))) ?_) <;> (refine rd_u (by rfl) (by rfl) (aloadw rfl rfl) ?_) <;> (refine rd_lit (OpP.cons (by rfl) (OpP.nil)) (by rfl) (by rfl) (by rfl) (by rfl) (by rfl) (by rfl) ?_) <;> (refine rd_app1 (by rfl) (by rfl) (by rfl) (by rfl) (by rfl) (by rfl) (by rfl) (by rfl) (by omega) ?_) <;> (refine rfieldp rfl rfl rfl ?_) <;> (refine rloadp rfl rfl rfl rfl ?_) <;> (refine rd_u (by rfl) (by rfl) (aidxn rfl rfl (by (simp only [sL] <;> omega))) ?_) <;> (refine rd_u (by rfl) (by rfl) (aloadw rfl rfl) ?_) <;> (refine rd_u (by rfl) (by rfl) (aassign rfl) ?_) <;> (refine rd_store_b (by rfl) (by rfl) (by rfl) (by rfl) ?_) <;> (refine rd_end (by kernel_rfl) ?_))))
        exact ⟨(m + 1, nth q.kids 1, L ++ [nth q.kids 0]), ⟨by dsimp only; omega, c3, by simp [hq2], .inr ⟨by omega, by omega, c4, h', c5⟩⟩, ⟨[0, 1, 2, 3, 4, 12], ToR.S rfl (by repeat' (first | exact rt_nil | refine rt_r (by rfl) (by rfl) ?_ | refine rt_t (by rfl) (by rfl) ?_ | refine rt_p (by rfl) (by rfl) (by first | (simp [AV.bd, bdL, bdL_append]; done) | fail) ?_)) (by repeat' (first | exact ro_nil | refine ro_e (by rfl) (by rfl) ?_ | refine ro_p (by rfl) (by first | exact rfl | fail) (by first | exact bdL_map (fun _ => by simp [AV.bd, bdL, bdL_append]) _ | (simp [bdL, bdL_append, AV.bd]; done) | fail) ?_)) (by rfl) (by (rw [hm]; exact rfl)) (by rfl) (by (simp [bdT, AV.bd, bdL, bdL_append]; done)) (by repeat' (first | exact True.intro | exact rfl | refine And.intro ?_ ?_ | exact bdL_map (fun _ => by simp [AV.bd, bdL, bdL_append]) _ | (simp [bdOq, bdL, bdL_append, AV.bd]; done))) (by (rw [hm]; exact Nat.le_of_ble_eq_true rfl))⟩⟩
      · have hLl : L.length ≤ 12 := by have := congrArg List.length hUe; rw [List.length_append] at this; omega
        have hql : q.kids.length ≤ 12 := by have := congrArg List.length hUe; rw [List.length_append] at this; omega
        (repeat' (first | apply jA | apply jF | apply jH | apply jJ | apply jL | apply jP | (refine wp_cond (by rfl) (fun hc => ?_) (fun hc => ?_) <;> (try simp only [sB, ne_eq, reduceCtorEq] at hc) <;> (try (exfalso; omega))) | (refine WP.regionC (id := 7) ?_; (refine sfieldp rfl rfl rfl ?_); (refine sloadp rfl rfl rfl rfl ?_); (refine slenm rfl rfl ?_); (refine seql rfl rfl ?_); (refine smove rfl ?_); (refine sg (gq_vt rfl rfl) (fun he => ap_move (rq_p rfl rfl)) ?_); (refine sg (gq_vt rfl rfl) (fun he => ap_len_r (by rfl) (rq_c rfl rfl)) ?_); (refine sg (gq_vt rfl rfl) (fun he => ap_add (rq_c rfl rfl) (rq_p rfl rfl) (by (try simp only [sH, id, sB, ne_eq, reduceCtorEq] at he); exact inr_i64_of (by omega))) ?_); (refine sg (gq_vt rfl rfl) (fun he => ap_move (rq_p rfl rfl)) ?_); (refine sg (gq_vt rfl rfl) (fun he => ap_len_m (by rfl) (rq_c rfl rfl)) ?_); (refine sg (gq_vt rfl rfl) (fun he => ap_lss (rq_c rfl rfl) (rq_c rfl rfl)) ?_); (refine su (ap_and (rq_p rfl rfl) (rq_c rfl rfl)) ?_); apply jW) | (refine WP.regionC (id := 9) ?_; (refine smove rfl ?_); (refine sfieldp rfl rfl rfl ?_); (refine sloadp rfl rfl rfl rfl ?_); (refine se_appL (by rfl) (by rfl) (by rfl) (by rfl) (by rfl) (by rfl) (by rfl) (by omega) ?_); (refine sassign rfl ?_); apply jW) | (refine WP.regionC (id := 10) ?_; (refine smove rfl ?_); (refine su (alenr rfl rfl) ?_); (refine smove rfl ?_); apply jW)))
        rw [hUe]
        refine wp_nilo 4 2 3 (by rfl) (by rfl) ?_
        refine wp_loop (fun (j : Nat) => j ≤ U.length) (fun j => U.length - j)
          (fun j => (S 103 [(3, .ptr 0 4 0 0), (4, .ptr 1 4 0 0), (6, .ptr 2 3 0 0), (7, .ptr 3 3 0 0), (8, intsA (nth g.rules i).body), (70, .ref 4 2 0 U.length), (71, intA (U.length : Nat)), (72, intA (j : Nat))] 6 [(0, some (.arr 4 [gramA g])), (1, some (.arr 4 [nrmA (nrmOf g)])), (2, some (.arr 3 [.agg [intA 0, intA 0, .val (.slice none 0 0)]])), (3, some (.arr 3 [.agg [intA i, intA 0, .ref 5 3 0 ((List.range j).map (kidT g k (nth g.rules i).body U)).length]])), (4, some (.arr 2 (U.map prsA))), (5, some (.arr 3 (((List.range j).map (kidT g k (nth g.rules i).body U)).map treA)))])) 0 ⟨[0, 1, 3, 4, 6, 7], ToR.S rfl (by repeat' (first | exact rt_nil | refine rt_r (by rfl) (by rfl) ?_ | refine rt_t (by rfl) (by rfl) ?_ | refine rt_e (by rfl) (by rfl) ?_ | refine rt_p (by rfl) (by rfl) (by first | (simp [AV.bd, bdL, bdL_append]; done) | fail) ?_)) (by repeat' (first | exact ro_nil | refine ro_e (by rfl) (by rfl) ?_ | refine ro_p (by rfl) (by first | exact rfl | fail) (by first | exact bdL_map (fun _ => by simp [AV.bd, bdL, bdL_append]) _ | (simp [bdL, bdL_append, AV.bd]; done) | fail) ?_)) (by rfl) (by (rw [hm]; exact rfl)) (by rfl) (by (simp [bdT, AV.bd, bdL, bdL_append]; done)) (by repeat' (first | exact True.intro | exact rfl | refine And.intro ?_ ?_ | exact bdL_map (fun _ => by simp [AV.bd, bdL, bdL_append]) _ | (simp [bdOq, bdL, bdL_append, AV.bd]; done))) (by (rw [hm]; exact Nat.le_of_ble_eq_true rfl))⟩ (Nat.zero_le _) ?_
        intro j hj
        have hrl : ((List.range j).map (kidT g k (nth g.rules i).body U)).length ≤ 12 := by simp; omega
        by_cases hjl : j < U.length
        · have hsuc := range_succ_map (kidT g k (nth g.rules i).body U) j
          generalize (List.range j).map (kidT g k (nth g.rules i).body U) = K at *
          by_cases h0 : 0 ≤ nth (nth g.rules i).body j
          · have hF : kidT g k (nth g.rules i).body U j = leafT (nth (nth g.rules i).body j) := by rw [kidT, if_pos h0]
            rw [hF] at hsuc
            (repeat' (first | apply jA | apply jF | apply jH | apply jI | apply jN | (refine wp_cond (by rfl) (fun hc => ?_) (fun hc => ?_) <;> (try simp only [sB, ne_eq, reduceCtorEq] at hc) <;> (try (exfalso; omega))) | (refine WP.regionC (id := 11) ?_; (refine slss rfl rfl ?_); apply jW) | (refine WP.regionC (id := 12) ?_; (refine smove rfl ?_); (refine su (aidxrn rfl rfl (by omega)) ?_); (refine su (aloadpt rfl rfl (by omega) rfl) ?_); (refine se_alloc (by rfl) ?_); (refine sassign rfl ?_); (refine se_store_b (by rfl) (by rfl) (by rfl) (by rfl) ?_); apply jW) | (refine WP.regionC (id := 13) ?_; (refine smove rfl ?_); (refine smove rfl ?_); (refine sidxn rfl rfl (by omega) ?_); (refine sloadw rfl rfl ?_); (refine su (ageq rfl rfl) ?_); apply jW) | (refine wp_draw (id := 14) 11 mixed (by kernel_rfl) (by kernel_rfl) rfl ?_ <;> (refine rfieldp rfl rfl rfl ?_) <;> (refine rloadp rfl rfl rfl rfl ?_) <;> (refine rmove rfl ?_) <;> (refine rmove rfl ?_) <;> (refine rd_u (by rfl) (by rfl) (aidxn rfl rfl (by omega)) ?_) <;> (refine rd_u (by rfl) (by rfl) (aloadw rfl rfl) ?_) <;> (refine rd_call rfl rfl (by first | ((repeat' first | exact SubL.nil | refine SubL.cons ?_ ?_ | exact Sub.refl); done) | fail) (by first | (simp [bdL, bdL_append, AV.bd]; done) | fail) (leaf_fn _) ?_) <;> (refine rd_lit (OpP.cons (by rfl) (OpP.nil)) (by rfl) (by rfl) (by rfl) (by rfl) (by rfl) (by rfl) ?_) <;> (refine rd_app1 (by rfl) (by rfl) (by rfl) (by rfl) (by rfl) (by rfl) (by rfl) (by rfl) (by omega) ?_) <;> (refine rfieldp rfl rfl rfl ?_) <;> (refine rd_store_b (by rfl) (by rfl) (by rfl) (by rfl) ?_) <;> (refine rd_end (by kernel_rfl) ?_)) | (refine WP.regionC (id := 16) ?_; (refine sadd rfl rfl (by exact inr_i64_of (by omega)) ?_); (refine smove rfl ?_); apply jW)))
            refine ⟨j + 1, ⟨by omega, by omega⟩, ?_⟩
            rw [hsuc]
            exact ⟨[0, 1, 2, 3, 4, 15], ToR.S rfl (by repeat' (first | exact rt_nil | refine rt_r (by rfl) (by rfl) ?_ | refine rt_t (by rfl) (by rfl) ?_ | refine rt_e (by rfl) (by rfl) ?_ | refine rt_p (by rfl) (by rfl) (by first | (simp [AV.bd, bdL, bdL_append]; done) | fail) ?_)) (by repeat' (first | exact ro_nil | refine ro_e (by rfl) (by rfl) ?_ | refine ro_p (by rfl) (by first | exact rfl | fail) (by first | exact bdL_map (fun _ => by simp [AV.bd, bdL, bdL_append]) _ | (simp [bdL, bdL_append, AV.bd]; done) | fail) ?_)) (by rfl) (by (rw [hm]; exact rfl)) (by rfl) (by (simp [bdT, AV.bd, bdL, bdL_append]; done)) (by repeat' (first | exact True.intro | exact rfl | refine And.intro ?_ ?_ | exact bdL_map (fun _ => by simp [AV.bd, bdL, bdL_append]) _ | (simp [bdOq, bdL, bdL_append, AV.bd]; done))) (by (rw [hm]; exact Nat.le_of_ble_eq_true rfl))⟩
          · have hF : kidT g k (nth g.rules i).body U j = toTF g k (nth U j) := by rw [kidT, if_neg h0]
            rw [hF] at hsuc
            have hok2 := hUok j (by omega)
            rw [symN, if_pos (by omega)] at hok2
            have hlo := hrf.lo _ (nth_mem (show j < (nth g.rules i).body.length by omega))
            have hx := ih (nth U j) _ (by have := hUsz _ (nth_mem hjl); omega) (by omega) hok2
            (repeat' (first | apply jA | apply jF | apply jH | apply jI | apply jN | (refine wp_cond (by rfl) (fun hc => ?_) (fun hc => ?_) <;> (try simp only [sB, ne_eq, reduceCtorEq] at hc) <;> (try (exfalso; omega))) | (refine WP.regionC (id := 11) ?_; (refine slss rfl rfl ?_); apply jW) | (refine WP.regionC (id := 12) ?_; (refine smove rfl ?_); (refine su (aidxrn rfl rfl (by omega)) ?_); (refine su (aloadpt rfl rfl (by omega) rfl) ?_); (refine se_alloc (by rfl) ?_); (refine sassign rfl ?_); (refine se_store_b (by rfl) (by rfl) (by rfl) (by rfl) ?_); apply jW) | (refine WP.regionC (id := 13) ?_; (refine smove rfl ?_); (refine smove rfl ?_); (refine sidxn rfl rfl (by omega) ?_); (refine sloadw rfl rfl ?_); (refine su (ageq rfl rfl) ?_); apply jW) | (refine wp_draw (id := 15) 10 mixed (by kernel_rfl) (by kernel_rfl) rfl ?_ <;> (refine rfieldp rfl rfl rfl ?_) <;> (refine rloadp rfl rfl rfl rfl ?_) <;> (refine rd_u (by rfl) (by rfl) (aloadpw rfl rfl rfl rfl) ?_) <;> (refine rd_u (by rfl) (by rfl) (aloadpw rfl rfl rfl rfl) ?_) <;> (refine rd_u (by rfl) (by rfl) (aloadpw rfl rfl rfl rfl) ?_) <;> (refine rd_call rfl rfl (by first | ((repeat' first | exact SubL.nil | refine SubL.cons ?_ ?_ | exact Sub.refl); done) | fail) (by first | (simp [bdL, bdL_append, AV.bd]; done) | fail) (hx) ?_) <;> (refine rd_lit (OpP.cons (by rfl) (OpP.nil)) (by rfl) (by rfl) (by rfl) (by rfl) (by rfl) (by rfl) ?_) <;> (refine rd_app1 (by rfl) (by rfl) (by rfl) (by rfl) (by rfl) (by rfl) (by rfl) (by rfl) (by omega) ?_) <;> (refine rfieldp rfl rfl rfl ?_) <;> (refine rd_store_b (by rfl) (by rfl) (by rfl) (by rfl) ?_) <;> (refine rd_end (by kernel_rfl) ?_)) | (refine WP.regionC (id := 16) ?_; (refine sadd rfl rfl (by exact inr_i64_of (by omega)) ?_); (refine smove rfl ?_); apply jW)))
            refine ⟨j + 1, ⟨by omega, by omega⟩, ?_⟩
            rw [hsuc]
            exact ⟨[0, 1, 2, 3, 4, 14], ToR.S rfl (by repeat' (first | exact rt_nil | refine rt_r (by rfl) (by rfl) ?_ | refine rt_t (by rfl) (by rfl) ?_ | refine rt_e (by rfl) (by rfl) ?_ | refine rt_p (by rfl) (by rfl) (by first | (simp [AV.bd, bdL, bdL_append]; done) | fail) ?_)) (by repeat' (first | exact ro_nil | refine ro_e (by rfl) (by rfl) ?_ | refine ro_p (by rfl) (by first | exact rfl | fail) (by first | exact bdL_map (fun _ => by simp [AV.bd, bdL, bdL_append]) _ | (simp [bdL, bdL_append, AV.bd]; done) | fail) ?_)) (by rfl) (by (rw [hm]; exact rfl)) (by rfl) (by (simp [bdT, AV.bd, bdL, bdL_append]; done)) (by repeat' (first | exact True.intro | exact rfl | refine And.intro ?_ ?_ | exact bdL_map (fun _ => by simp [AV.bd, bdL, bdL_append]) _ | (simp [bdOq, bdL, bdL_append, AV.bd]; done))) (by (rw [hm]; exact Nat.le_of_ble_eq_true rfl))⟩
        · obtain rfl : j = U.length := by omega
          have hb : (List.range (nth g.rules i).body.length).map (kidT g k (nth g.rules i).body U) = (List.range U.length).map (kidT g k (nth g.rules i).body U) := by rw [hUl]
          rw [hb]
          generalize (List.range U.length).map (kidT g k (nth g.rules i).body U) = K at *
          (repeat' (first | apply jA | apply jH | apply jJ | apply jK | apply jL | apply jP | apply jS | (refine wp_cond (by rfl) (fun hc => ?_) (fun hc => ?_) <;> (try simp only [sB, ne_eq, reduceCtorEq] at hc) <;> (try (exfalso; omega))) | (refine WP.regionC (id := 11) ?_; (refine slss rfl rfl ?_); apply jW) | (refine WP.regionC (id := 17) ?_; (refine sloadpw rfl rfl rfl rfl ?_); (refine se_store_b (by rfl) (by rfl) (by rfl) (by rfl) ?_); apply jW)))
          exact ret_c (x := .agg [intA i, intA 0, .ref 5 3 0 K.length]) (by rfl) (by rfl) (by rfl) (by rfl) (by first | ((repeat' first | exact FzL.nil | refine FzL.cons ?_ ?_ | (exact Fz.list (by rfl) (by rfl) (fun _ => by simp [AV.bd, bdL, bdL_append]) (fun _ => rfl)) | (exact Fz.reflp (by simp [AV.bd, bdL, bdL_append])) | refine Fz.aggL ?_); done) | fail)
end Go.Lg

namespace Go.Lg
open Go.RowKit
inductive FzB (id : Nat) (cells : List AV) : AV → AV → Prop
  | same {x : AV} : FzB id cells x x
  | ptr {k f : Nat} : FzB id cells (.ptr id k 0 f) (.iptr cells f)
  | clo {fn : Go.Fn} {xs ys xs' ys' : List AV} (h1 : xs'.length = xs.length) (h2 : ys'.length = ys.length) (h3 : ∀ (i : Nat) x y, xs[i]? = some x → xs'[i]? = some y → FzB id cells x y) (h4 : ∀ (i : Nat) x y, ys[i]? = some x → ys'[i]? = some y → FzB id cells x y) : FzB id cells (.clo fn xs ys) (.clo fn xs' ys')
inductive FzBL (id : Nat) (cells : List AV) : List AV → List AV → Prop
  | nil : FzBL id cells [] []
  | cons {x y : AV} {xs ys : List AV} (h : FzB id cells x y) (t : FzBL id cells xs ys) : FzBL id cells (x :: xs) (y :: ys)
theorem FzBL.get {id : Nat} {cells xs ys : List AV} (h : FzBL id cells xs ys) : ys.length = xs.length ∧ ∀ (i : Nat) x y, xs[i]? = some x → ys[i]? = some y → FzB id cells x y := by
  induction h with
  | nil => exact ⟨rfl, fun i x y hx => by simp at hx⟩
  | cons h _ ih =>
    refine ⟨by simp [ih.1], fun i x y hx hy => ?_⟩
    cases i with
    | zero => simp at hx hy; subst hx hy; exact h
    | succ i => exact ih.2 i x y (by simpa using hx) (by simpa using hy)
theorem FzB.cloL {id : Nat} {cells : List AV} {fn : Go.Fn} {xs ys xs' ys' : List AV} (h1 : FzBL id cells xs xs') (h2 : FzBL id cells ys ys') : FzB id cells (.clo fn xs ys) (.clo fn xs' ys') := .clo h1.get.1 h2.get.1 h1.get.2 h2.get.2
section
variable {P : Program} {Γ : Cx} {A : Nat → Prop} {ρ : Nat → Option Nat} {s : St} {a : Act} {w : World}
theorem SRa.boxed (h : SRa Γ A ρ s a w) (hm : Γ.m = 0) {id k : Nat} {e : AV} (ho : s.look id = some (.arr k [e])) (hb : e.bd 0 = true) {x y : AV} (hz : FzB id e.cells x y) : ∀ {v : Value}, RV A ρ (Im Γ ρ s w) w x v → RV A ρ (Im Γ ρ (s.set id none) w) w y v := by
  have hlive := St.look_some.1 ho
  have hI : ∀ b, Im Γ ρ s w b → Im Γ ρ (s.set id none) w b ∧ w.heap[b]? = w.heap[b]? := fun b ⟨h1, h2, h3⟩ => ⟨⟨h1, h2, fun i o hl => h3 i o (St.live_kill hl).2⟩, rfl⟩
  induction hz with
  | same => exact fun hv => hv.mono (fun _ hA => ⟨hA, rfl⟩) hI (fun _ _ hn => hn)
  | @ptr k' f =>
    intro v hv
    cases hv with
    | @ptr _ _ _ _ b hA hbk =>
      obtain ⟨cs, t, hblk, hrow⟩ := h.row ho hbk
      have hfl : flat [e] = e.cells := by simp [flat]
      have hIb : Im Γ ρ (s.set id none) w b := by
        refine ⟨.inr ?_, World.lt_of_block hblk, fun i o hl hr => ?_⟩
        · rcases h.own id _ b hlive hbk with h1 | ⟨i, hi, _⟩
          · exact h1
          · rw [hm] at hi; exact absurd hi (Nat.not_lt_zero i)
        · obtain ⟨h1, h2⟩ := St.live_kill hl
          exact h1 (h.inj i id o _ b h2 hlive hr hbk)
      have hlen := hrow.len
      rw [hfl] at hlen
      have key : RV A ρ (Im Γ ρ (s.set id none) w) w (.iptr e.cells f) (.pointer (some ⟨b, 0 + f, none⟩)) := by
        refine .iptr (fun j => cs.getD j undef) hIb (fun j hj => ?_) (fun j hj => ?_) (fun j x hx => ?_)
        · have : j < cs.size := Nat.lt_of_lt_of_le hj hlen
          rw [Nat.zero_add]
          rw [cell_of_block hblk]; simp [Array.getD, this]
        · have : j < cs.size := Nat.lt_of_lt_of_le hj hlen
          exact hrow.atoms j _ (by rw [hfl]; exact hj) (by simp [Array.getD, this])
        · have hj := (List.getElem?_eq_some_iff.1 hx).1
          have : j < cs.size := Nat.lt_of_lt_of_le hj hlen
          exact (hrow.vals j x _ (by rw [hfl]; exact hx) (by simp [Array.getD, this])).pure (cells_bd hb x (List.mem_of_getElem? hx)) hI (fun _ _ hn => hn)
      have e0 : 0 * k' + f = 0 + f := by simp
      rw [e0]; exact key
  | @clo fn xs ys xs' ys' h1 h2 _ _ ih3 ih4 =>
    intro v hv
    cases hv with
    | clo g1 g2 g3 g4 =>
      refine .clo (by omega) (by omega) (fun i x u hx hu => ?_) (fun i x u hx hu => ?_)
      · have hi : i < xs.length := by rw [← h1]; exact (List.getElem?_eq_some_iff.1 hx).1
        exact ih3 i _ x (List.getElem?_eq_getElem hi) hx (g3 i _ u (List.getElem?_eq_getElem hi) hu)
      · have hi : i < ys.length := by rw [← h2]; exact (List.getElem?_eq_some_iff.1 hx).1
        exact ih4 i _ x (List.getElem?_eq_getElem hi) hx (g4 i _ u (List.getElem?_eq_getElem hi) hu)
end
section
variable {P : Program} {Γ : Cx} {n M : Nat} {l : List (Nat × AV)} {os : List (Nat × Option AObj)} {Q : Exit → St → Prop}
def frzT (id : Nat) (cells : List AV) (l : List (Nat × AV)) : List (Nat × AV) → Prop
  | [] => True
  | (j, y) :: r => FzB id cells (lk j l) y ∧ frzT id cells l r
theorem frzT_lk {id : Nat} {cells : List AV} {l : List (Nat × AV)} {i : Nat} : ∀ {l1 : List (Nat × AV)}, frzT id cells l l1 → FzB id cells (lk i l) (lk i (l1 ++ l))
  | [], _ => .same
  | (j, y) :: r, h => by
    simp only [List.cons_append, lk]
    split
    · rename_i e; subst e; exact h.1
    · exact frzT_lk h.2
theorem wp_frzB {c : Code} {id k : Nat} {e : AV} (hm : Γ.m = 0) (ho : lookq M os id = some (.arr k [e])) (hb : e.bd 0 = true) (l1 : List (Nat × AV)) (h : frzT id e.cells l l1) (hw : WP P Γ c Q (S n (l1 ++ l) M ((id, none) :: os))) : WP P Γ c Q (S n l M os) := fun a w hs => by
  refine hw a w ?_
  obtain ⟨ρ, hs⟩ := hs
  have h1 := hs.kill id
  have hx := fun {x y : AV} (hz : FzB id e.cells x y) {v : Value} => hs.boxed hm (by rw [S_look]; exact ho) hb hz (v := v)
  have e1 : (S n l M os).set id none = S n l M ((id, none) :: os) := by simp [S, St.set, ol_set]
  rw [e1] at h1 hx
  have eM : (S n l M os).objs.length = (S n (l1 ++ l) M ((id, none) :: os)).objs.length := by simp [S, ol_length]
  rw [eM] at h1 hx
  have htm := hs.tmp
  rw [eM] at htm
  refine ⟨ρ, h1.ext, ?_, fun i x v hi hv => ?_, h1.obj, h1.made, h1.bound, h1.own, h1.inj, h1.defers, h1.fr⟩
  · have := h1.len
    simp only [S, tl_length] at this ⊢
    exact this
  · have hin : i < n := by have := (List.getElem?_eq_some_iff.1 hi).1; simpa [S, tl_length] using this
    simp only [S] at hi
    rw [tl_get _ hin] at hi
    injection hi with hi
    subst hi
    exact hx (frzT_lk h) (htm i _ v (by simp only [S]; rw [tl_get l hin]) hv)
end
end Go.Lg

namespace Go.Lg
open Go.Proofs
set_option linter.unusedSimpArgs false
set_option linter.unusedVariables false
attribute [local irreducible] Ap Rq asemC WP RunD Ret Gq thenA inBlockA bodyQ noGotoA RqL RqP OpP
set_option maxHeartbeats 8000000
set_option maxRecDepth 20000
attribute [local simp] AV.cells
theorem begin1_fn (o : Int) (r : NRul) : Fn Try.prog 81 [nruleA r, .iptr [intA o] 0] (boolA (decide (r.origin = o))) := by
  refine Fn.intro rfl (by kernel_rfl) Try.func81 rfl rfl Try.ntmps81 (by exact Nat.le_of_ble_eq_true rfl) ?_; intro Γ hm
  (repeat' (first | apply jA | apply jH | apply jK | apply jS | (refine WP.regionC (id := 0) ?_; (refine se_box rfl (by exact ⟨rfl, rfl⟩) ?_); (refine sassign rfl ?_); apply jW) | (refine WP.regionC (id := 1) ?_; (refine sfieldp rfl rfl rfl ?_); (refine sloadp rfl rfl rfl rfl ?_); (refine su (aloadi rfl rfl) ?_); (refine seql rfl rfl ?_); (refine sassign rfl ?_); apply jW) | exact ret_eq rfl rfl rfl))
theorem begin_fn (n : Nrm) (o : Int) : Fn Try.prog 71 [nrmA n, intA o] (intA (indexP (fun r : NRul => decide (r.origin = o)) n.rules)) := by
  refine Fn.intro rfl (by kernel_rfl) Try.func71 rfl rfl Try.ntmps71 (by exact Nat.le_of_ble_eq_true rfl) ?_; intro Γ hm
  (repeat' (first | apply jA | apply jH | apply jK | apply jS | (refine WP.regionC (id := 0) ?_; (refine se_box rfl (by exact ⟨rfl, rfl⟩) ?_); (refine se_box rfl (by exact ⟨rfl, rfl⟩) ?_); (refine sassign rfl ?_); apply jW) | (refine WP.regionC (id := 1) ?_; (refine sfieldp rfl rfl rfl ?_); (refine sloadp rfl rfl rfl rfl ?_); (refine su (ap_clo (RqL.nil) (RqL.cons (rq_p rfl rfl) (RqL.nil))) ?_); (refine sc_b rfl rfl (by first | ((repeat' first | exact FzL.nil | refine FzL.cons ?_ ?_ | (exact Fz.reflp (by simp [AV.bd, bdL, bdL_append])) | refine Fz.ptrL rfl rfl ?_ | refine Fz.cloL ?_ ?_); done) | fail) (indexFuncN_fn n.rules _ _ (fun r => decide (r.origin = o)) (fun n => by simp [bdL, AV.bd]) (fun x _ => begin1_fn o x)) rfl ?_); (refine sassign rfl ?_); apply jW) | exact ret_eq rfl rfl rfl))
theorem only1_fn (o : Int) (r : NRul) : Fn Try.prog 82 [nruleA r, .iptr [intA o] 0] (boolA (decide (r.head = o))) := by
  refine Fn.intro rfl (by kernel_rfl) Try.func82 rfl rfl Try.ntmps82 (by exact Nat.le_of_ble_eq_true rfl) ?_; intro Γ hm
  (repeat' (first | apply jA | apply jH | apply jK | apply jS | (refine WP.regionC (id := 0) ?_; (refine se_box rfl (by exact ⟨rfl, rfl⟩) ?_); (refine sassign rfl ?_); apply jW) | (refine WP.regionC (id := 1) ?_; (refine sfieldp rfl rfl rfl ?_); (refine sloadp rfl rfl rfl rfl ?_); (refine su (aloadi rfl rfl) ?_); (refine seql rfl rfl ?_); (refine sassign rfl ?_); apply jW) | exact ret_eq rfl rfl rfl))
theorem only_fn (n : Nrm) (o : Int) : Fn Try.prog 73 [nrmA n, intA o] (intA (indexP (fun r : NRul => decide (r.head = o)) n.rules)) := by
  refine Fn.intro rfl (by kernel_rfl) Try.func73 rfl rfl Try.ntmps73 (by exact Nat.le_of_ble_eq_true rfl) ?_; intro Γ hm
  (repeat' (first | apply jA | apply jH | apply jK | apply jS | (refine WP.regionC (id := 0) ?_; (refine se_box rfl (by exact ⟨rfl, rfl⟩) ?_); (refine se_box rfl (by exact ⟨rfl, rfl⟩) ?_); (refine sassign rfl ?_); apply jW) | (refine WP.regionC (id := 1) ?_; (refine sfieldp rfl rfl rfl ?_); (refine sloadp rfl rfl rfl rfl ?_); (refine su (ap_clo (RqL.nil) (RqL.cons (rq_p rfl rfl) (RqL.nil))) ?_); (refine sc_b rfl rfl (by first | ((repeat' first | exact FzL.nil | refine FzL.cons ?_ ?_ | (exact Fz.reflp (by simp [AV.bd, bdL, bdL_append])) | refine Fz.ptrL rfl rfl ?_ | refine Fz.cloL ?_ ?_); done) | fail) (indexFuncN_fn n.rules _ _ (fun r => decide (r.head = o)) (fun n => by simp [bdL, AV.bd]) (fun x _ => only1_fn o x)) rfl ?_); (refine sassign rfl ?_); apply jW) | exact ret_eq rfl rfl rfl))
theorem oneL_fn (g : Gram) (n : Nrm) (x h : Int) : Fn Try.prog 72 [treA (leafT x), intA h, .iptr (nrmA n).cells 0, .iptr (gramA g).cells 0] (prsA (.mk (indexP (fun r : NRul => decide (r.head = h)) n.rules) [])) := by
  rw [show treA (leafT x) = .agg [intA (-1), intA x, tresA []] from treA_kids _, show prsA (.mk (indexP (fun r : NRul => decide (r.head = h)) n.rules) []) = .agg [intA (indexP (fun r : NRul => decide (r.head = h)) n.rules), prssA []] from prsA_kids _]
  refine Fn.intro rfl (by kernel_rfl) Try.func72 rfl rfl Try.ntmps72 (by exact Nat.le_of_ble_eq_true rfl) ?_; intro Γ hm
  (repeat' (first | apply jA | apply jH | apply jK | apply jM | apply jS | (refine wp_cond rfl (fun hc => ?_) (fun hc => ?_) <;> (try simp only [sB, ne_eq, reduceCtorEq] at hc) <;> (try (exfalso; omega))) | (refine WP.regionC (id := 0) ?_; (refine se_box rfl (by exact ⟨rfl, rfl⟩) ?_); (refine se_alloc rfl ?_); apply jW) | (refine WP.regionC (id := 1) ?_; (refine sfieldp rfl rfl rfl ?_); (refine sloadp rfl rfl rfl rfl ?_); (refine slss rfl rfl ?_); apply jW) | (refine WP.regionC (id := 2) ?_; (refine sloadw rfl rfl ?_); (refine smove rfl ?_); (refine sc_p rfl rfl (by first | ((repeat' first | exact SubL.nil | refine SubL.cons ?_ ?_ | exact Sub.refl); done) | fail) (by first | (simp [bdL, bdL_append, AV.bd]; done) | fail) (only_fn _ _) ?_); (refine su (ap_build (RqP.cons (rq_p rfl rfl) (RqP.nil)) rfl) ?_); (refine se_store_b rfl rfl rfl rfl ?_); apply jW)))
  exact ret_c (x := .agg [intA (indexP (fun r : NRul => decide (r.head = h)) n.rules), .val (.slice none 0 0)]) rfl rfl rfl rfl (by first | ((repeat' first | exact FzL.nil | refine FzL.cons ?_ ?_ | exact Fz.nil | (exact Fz.reflp (by simp [AV.bd, bdL, bdL_append])) | refine Fz.aggL ?_); done) | fail)
theorem oneI_fn (g : Gram) (n : Nrm) (t : Tre) (P : Prs) (h : Int) (hr : 0 ≤ t.rule) (hx : Fn Try.prog 54 [gramA g, nrmA n, treA t] (prsA P)) : Fn Try.prog 72 [treA t, intA h, .iptr (nrmA n).cells 0, .iptr (gramA g).cells 0] (prsA P) := by
  rw [treA_kids] at hx ⊢
  refine Fn.intro (by simp [AV.bd, bdL, bdL_append]) (by kernel_rfl) Try.func72 rfl rfl Try.ntmps72 (by exact Nat.le_of_ble_eq_true rfl) ?_; intro Γ hm
  (repeat' (first | apply jA | apply jH | apply jI | apply jK | apply jS | (refine wp_cond rfl (fun hc => ?_) (fun hc => ?_) <;> (try simp only [sB, ne_eq, reduceCtorEq] at hc) <;> (try (exfalso; omega))) | (refine WP.regionC (id := 0) ?_; (refine se_box rfl (by exact ⟨rfl, rfl⟩) ?_); (refine se_alloc rfl ?_); apply jW) | (refine WP.regionC (id := 1) ?_; (refine sfieldp rfl rfl rfl ?_); (refine sloadp rfl rfl rfl rfl ?_); (refine slss rfl rfl ?_); apply jW) | (refine WP.regionC (id := 3) ?_; (refine sloadw rfl rfl ?_); (refine sloadw rfl rfl ?_); (refine sloadpw rfl rfl rfl rfl ?_); (refine sc_p rfl rfl (by first | ((repeat' first | exact SubL.nil | refine SubL.cons ?_ ?_ | exact Sub.refl); done) | fail) (by first | (simp [bdL, bdL_append, AV.bd]; done) | fail) (hx) ?_); (refine se_store_b rfl rfl rfl rfl ?_); apply jW)))
  exact ret_c (x := prsA P) rfl rfl rfl rfl (by first | ((repeat' ((exact Fz.reflp (by simp [AV.bd, bdL, bdL_append])))); done) | fail)
def kidP (g : Gram) (k : Nat) (body : List Int) (kids : List Tre) (j : Nat) : Prs := if 0 ≤ nth body j then termP g (nth body j) else fromTF g k (nth kids j)
def tailP (pos : Nat) (L : List Prs) (j : Nat) : Prs := if j + 1 = L.length then nth L j else chainP ((pos + j : Nat) : Int) (L.drop j)
theorem tailP_step {pos : Nat} {L : List Prs} {j : Nat} (h : j + 1 < L.length) : tailP pos L j = .mk ((pos + j : Nat) : Int) [nth L j, tailP pos L (j + 1)] := by
  have e0 : L.drop j = nth L j :: L.drop (j + 1) := by rw [List.drop_eq_getElem_cons (by omega), nth_eq (by omega)]
  unfold tailP
  rw [if_neg (by omega), e0]
  by_cases h2 : j + 1 + 1 = L.length
  · have e1 : L.drop (j + 1) = [nth L (j + 1)] := by rw [List.drop_eq_getElem_cons (by omega), nth_eq (by omega), List.drop_eq_nil_of_le (by omega)]
    rw [if_pos h2, e1]; rfl
  · rw [if_neg h2]
    have e1 : L.drop (j + 1) = nth L (j + 1) :: L.drop (j + 2) := by rw [List.drop_eq_getElem_cons (by omega), nth_eq (by omega)]
    have e2 : L.drop (j + 2) = nth L (j + 2) :: L.drop (j + 3) := by rw [List.drop_eq_getElem_cons (by omega), nth_eq (by omega)]
    rw [e1, e2, chainP]
    congr 3
theorem tailP_last {pos : Nat} {L : List Prs} {j : Nat} (h : j + 1 = L.length) : tailP pos L j = nth L j := if_pos h
theorem tailP_zero {pos : Nat} {L : List Prs} (h : 2 ≤ L.length) : tailP pos L 0 = chainP (pos : Int) L := by
  unfold tailP
  rw [if_neg (by omega), List.drop_zero, Nat.add_zero]
theorem fromTF_kids {g : Gram} {k : Nat} {t : Tre} (h2 : 2 ≤ (nth g.rules t.rule.toNat).body.length) : fromTF g (k + 1) t = tailP (posN g.rules t.rule.toNat) ((List.range (nth g.rules t.rule.toNat).body.length).map (kidP g k (nth g.rules t.rule.toNat).body t.kids)) 0 := by
  rw [tailP_zero (by simpa using h2)]; exact fromTF_chain h2
end Go.Lg

namespace Go.Lg
open Go.Proofs
set_option linter.unusedSimpArgs false
set_option linter.unusedVariables false
attribute [local irreducible] Ap Rq asemC WP RunD Ret Gq thenA inBlockA bodyQ noGotoA RqL RqP OpP
set_option maxHeartbeats 8000000
set_option maxRecDepth 20000
@[simp] theorem bdL_nrmC (m : Nat) (n : Nrm) : bdL m (nrmA n).cells = true := by simp [nrmA, AV.cells, bdL, AV.bd]
@[simp] theorem bdL_gramC (m : Nat) (g : Gram) : bdL m (gramA g).cells = true := by simp [gramA, AV.cells, bdL, AV.bd]
def posL (pos m : Nat) : List Int := (List.range m).map fun (j : Nat) => ((pos + j : Nat) : Int)
theorem posL_len (pos m : Nat) : (posL pos m).length = m := by simp [posL]
theorem posL_succ (pos m : Nat) : posL pos (m + 1) = posL pos m ++ [((pos + m : Nat) : Int)] := by simp [posL, List.range_succ]
theorem posL_nth {pos m j : Nat} (h : j < m) : nth (posL pos m) j = ((pos + j : Nat) : Int) := nth_map_range _ h
theorem fromTree_fn {g : Gram} (hv : GVal g) : ∀ (k : Nat) (t : Tre) (x : Int), szT t ≤ k → x < 0 → okT g x t = true → Fn Try.prog 54 [gramA g, nrmA (nrmOf g), treA t] (prsA (fromTF g k t)) := by
  intro k
  induction k with
  | zero => intro t x h; rw [szT_eq] at h; omega
  | succ k ih =>
    intro t x hk hx hok
    have hT := (okT_in hx).1 hok
    have hr0 := hT.r0
    have hi := hT.rn
    have hlen := hT.len
    have hkid := hT.kid
    have hrf := hv.rule _ (nth_mem hi)
    have hbl := hrf.len
    have hti : t.rule = ((t.rule.toNat : Nat) : Int) := by omega
    have hpos := chain_lt hi (k := 0) (by omega)
    rw [Nat.add_zero] at hpos
    have hbeg := begin_at g hi
    rw [← hti] at hbeg
    have hbf := begin_fn (nrmOf g) t.rule
    rw [hbeg] at hbf
    have htk := treA_kids t
    by_cases h2 : 2 ≤ (nth g.rules t.rule.toNat).body.length
    · rw [fromTF_kids h2]
      have hsz : ∀ j, j < t.kids.length → szT (nth t.kids j) ≤ k := fun j hj => by have := szT_kid (nth_mem hj); omega
      generalize t.kids = kids at *
      generalize hri : t.rule.toNat = i at *
      have hR := fun m hm => chain_rule (g := g) hi h2 (k := m) hm
      have hRl := fun m (hm : m < (nth g.rules i).body.length - 1) => chain_lt (g := g) hi (k := m) (by unfold extraN; omega)
      have hkd : (nth (nrmOf g).rules (posN g.rules i)).kind = 4 := by have := hR 0 (by omega); rw [Nat.add_zero] at this; rw [this]
      have hone : ∀ j, j < kids.length → Fn Try.prog 72 [treA (nth kids j), intA (symN g (nth (nth g.rules i).body j)), .iptr (nrmA (nrmOf g)).cells 0, .iptr (gramA g).cells 0] (prsA (kidP g k (nth g.rules i).body kids j)) := fun j hj => by
        have hok2 := hkid j hj
        unfold kidP
        by_cases h0 : 0 ≤ nth (nth g.rules i).body j
        · obtain ⟨a1, a2⟩ := sym_need hv hi h2 (by omega) h0
          rw [if_pos h0, (okT_leaf h0).1 hok2, symN, if_neg (by omega)]
          have := oneL_fn g (nrmOf g) (nth (nth g.rules i).body j) (tnum g (nth (nth g.rules i).body j).toNat)
          rw [only_term hv a1 a2] at this
          exact this
        · rw [if_neg h0]
          have hT2 := (okT_in (show nth (nth g.rules i).body j < 0 by omega)).1 hok2
          exact oneI_fn g _ _ _ _ hT2.r0 (ih _ _ (hsz j hj) (by omega) hok2)
      generalize hL : (List.range (nth g.rules i).body.length).map (kidP g k (nth g.rules i).body kids) = L
      have hLl : L.length = (nth g.rules i).body.length := by rw [← hL]; simp
      have hLn : ∀ j, j < L.length → nth L j = kidP g k (nth g.rules i).body kids j := fun j hj => by rw [← hL]; exact nth_map_range _ (by omega)
      rw [htk]
      refine Fn.intro (by simp [AV.bd, bdL, bdL_append]) (by kernel_rfl) Try.func54 rfl rfl Try.ntmps54 (by exact Nat.le_of_ble_eq_true rfl) ?_; intro Γ hm
      have hm0 := hm
      (repeat' (first | apply jA | apply jH | apply jI | (refine wp_cond rfl (fun hc => ?_) (fun hc => ?_) <;> (try simp only [sB, ne_eq, reduceCtorEq] at hc) <;> (try (exfalso; omega))) | (refine WP.regionC (id := 0) ?_; (refine se_box rfl (by exact ⟨rfl, rfl⟩) ?_); (refine se_box rfl (by exact ⟨rfl, rfl⟩) ?_); (refine se_box rfl (by exact ⟨rfl, rfl⟩) ?_); (refine se_alloc rfl ?_); apply jW) | (refine WP.regionC (id := 1) ?_; (refine sloadpw rfl rfl rfl rfl ?_); (refine sfieldp rfl rfl rfl ?_); (refine sloadp rfl rfl rfl rfl ?_); (refine sc_p rfl rfl (by first | ((repeat' first | exact SubL.nil | refine SubL.cons ?_ ?_ | exact Sub.refl); done) | fail) (by first | (simp [bdL, bdL_append, AV.bd]; done) | fail) (hbf) ?_); (refine sassign rfl ?_); apply jW) | (refine WP.regionC (id := 2) ?_; (refine sfieldp rfl rfl rfl ?_); (refine sloadp rfl rfl rfl rfl ?_); (refine smove rfl ?_); (refine sidxn rfl rfl (by omega) ?_); (refine su (afieldi rfl rfl rfl) ?_); (refine su (aloadi rfl rfl) ?_); (refine su (aleq rfl rfl) ?_); apply jW) | (refine WP.regionC (id := 4) ?_; (refine su (ap_clo (RqL.nil) (RqL.cons (rq_p rfl rfl) (RqL.cons (rq_p rfl rfl) (RqL.nil)))) ?_); (refine sassign rfl ?_); apply jW)))
      refine wp_frzB (id := 1) (k := 4) (e := nrmA (nrmOf g)) hm rfl (by simp) [(4, .iptr (nrmA (nrmOf g)).cells 0), (8, .clo (.func 72) [] [.iptr (nrmA (nrmOf g)).cells 0, .ptr 0 4 0 0])] ⟨by exact FzB.ptr, by exact FzB.cloL .nil (.cons .ptr (.cons .same .nil)), trivial⟩ ?_
      refine wp_frzB (id := 0) (k := 4) (e := gramA g) hm rfl (by simp) [(8, .clo (.func 72) [] [.iptr (nrmA (nrmOf g)).cells 0, .iptr (gramA g).cells 0])] ⟨by exact FzB.cloL .nil (.cons .same (.cons .ptr .nil)), trivial⟩ ?_
      (repeat' (first | apply jA | apply jF | apply jH | apply jI | (refine wp_cond rfl (fun hc => ?_) (fun hc => ?_) <;> (try simp only [sB, ne_eq, reduceCtorEq] at hc) <;> (try (exfalso; omega))) | (refine WP.regionC (id := 5) ?_; (refine sfieldp rfl rfl rfl ?_); (refine sloadp rfl rfl rfl rfl ?_); (refine slenm rfl rfl ?_); (refine seql rfl rfl ?_); apply jW) | (refine WP.regionC (id := 7) ?_; (refine smove rfl ?_); (refine se_lit (OpP.cons rfl (OpP.nil)) rfl rfl rfl rfl rfl rfl ?_); (refine sassign rfl ?_); apply jW)))
      refine wp_loop (fun (m : Nat) => m ≤ (nth g.rules i).body.length - 2) (fun m => (nth g.rules i).body.length - m)
        (fun m => (S 118 [(4, .iptr (nrmA (nrmOf g)).cells 0), (5, .ptr 0 3 0 0), (6, .ptr 1 2 0 0), (7, intA ((posN g.rules i + m : Nat) : Int)), (8, .clo (.func 72) [] [.iptr (nrmA (nrmOf g)).cells 0, .iptr (gramA g).cells 0]), (9, .ref 2 1 0 (posL (posN g.rules i) (m + 1)).length)] 3 [(0, some (.arr 3 [.agg [intA t.rule, intA t.term, tresA kids]])), (1, some (.arr 2 [.agg [intA 0, .val (.slice none 0 0)]])), (2, some (.arr 1 ((posL (posN g.rules i) (m + 1)).map intA)))])) 0 ⟨[2, 3, 4], ToR.S rfl (by repeat' (first | exact rt_nil | refine rt_r rfl rfl ?_ | refine rt_t rfl rfl ?_ | refine rt_e rfl rfl ?_ | refine rt_p rfl rfl (by first | (simp [AV.bd, bdL, bdL_append]; done) | fail) ?_)) (by repeat' (first | exact ro_nil | refine ro_e rfl rfl ?_ | refine ro_p rfl (by first | exact rfl | fail) (by first | (simp [bdL, bdL_append, AV.bd]; done) | fail) ?_)) rfl (by (rw [hm]; exact rfl)) rfl (by (simp [bdT, AV.bd, bdL, bdL_append]; done)) (by repeat' (first | exact True.intro | exact rfl | refine And.intro ?_ ?_ | (simp [bdOq, bdL, bdL_append, AV.bd]; done))) (by (rw [hm]; exact Nat.le_of_ble_eq_true rfl))⟩ (by omega) ?_
      intro m hmm
      have hRl1 := posL_len (posN g.rules i) (m + 1)
      have hRm := hR m (by omega)
      have hRml := hRl m (by omega)
      by_cases hml : m + 2 < kids.length
      · have hb : (nth (nrmOf g).rules (posN g.rules i + m)).b = nxG g i + m := by rw [hRm]; simp only [if_neg (show ¬ m = (nth g.rules i).body.length - 2 by omega)]
        have ho := only_fn (nrmOf g) (nxG g i + m)
        rw [only_chain hv hi (k := m) (by unfold extraN; omega), ← hb] at ho
        have hsuc := posL_succ (posN g.rules i) (m + 1)
        generalize posL (posN g.rules i) (m + 1) = RL at *
        (repeat' (first | apply jA | apply jF | apply jH | apply jI | apply jN | (refine wp_cond rfl (fun hc => ?_) (fun hc => ?_) <;> (try simp only [sB, ne_eq, reduceCtorEq] at hc) <;> (try (exfalso; omega))) | (refine WP.regionC (id := 8) ?_; (refine smove rfl ?_); (refine su (alenr rfl rfl) ?_); (refine sfieldp rfl rfl rfl ?_); (refine sloadp rfl rfl rfl rfl ?_); (refine slenm rfl rfl ?_); (refine su (asub rfl rfl (by exact inr_i64_of (by omega))) ?_); (refine slss rfl rfl ?_); apply jW) | (refine wp_draw (id := 9) 9 mixed (by kernel_rfl) (by kernel_rfl) rfl ?_ <;> (refine rd_u rfl rfl (aloadw rfl rfl) ?_) <;> (refine rd_u rfl rfl (afieldi rfl rfl rfl) ?_) <;> (refine rd_u rfl rfl (aloadi rfl rfl) ?_) <;> (refine rmove rfl ?_) <;> (refine rd_u rfl rfl (aidxn rfl rfl (by omega)) ?_) <;> (refine rd_u rfl rfl (afieldi rfl rfl rfl) ?_) <;> (refine rd_u rfl rfl (aloadi rfl rfl) ?_) <;> (refine rd_call rfl rfl (by first | ((repeat' first | exact SubL.nil | refine SubL.cons ?_ ?_ | exact Sub.refl); done) | fail) (by first | (simp [bdL, bdL_append, AV.bd]; done) | fail) (ho) ?_) <;> (refine rd_u rfl rfl (aassign rfl) ?_) <;> (refine rd_end (by kernel_rfl) ?_)) | (refine WP.regionC (id := 10) ?_; (refine smove rfl ?_); (refine smove rfl ?_); (refine se_lit (OpP.cons rfl (OpP.nil)) rfl rfl rfl rfl rfl rfl ?_); (refine se_app1 rfl rfl rfl rfl rfl rfl rfl rfl (by omega) ?_); (refine sassign rfl ?_); apply jW)))
        refine ⟨m + 1, ⟨by omega, by omega⟩, ?_⟩
        rw [hsuc]
        exact ⟨[0, 1, 13], ToR.S rfl (by repeat' (first | exact rt_nil | refine rt_r rfl rfl ?_ | refine rt_t rfl rfl ?_ | refine rt_e rfl rfl ?_ | refine rt_p rfl rfl (by first | (simp [AV.bd, bdL, bdL_append]; done) | fail) ?_)) (by repeat' (first | exact ro_nil | refine ro_e rfl rfl ?_ | refine ro_p rfl (by first | exact rfl | fail) (by first | exact bdL_map (fun _ => by exact rfl) _ | (simp [bdL, bdL_append, AV.bd]; done) | fail) ?_)) rfl (by (rw [hm]; exact rfl)) rfl (by (simp [bdT, AV.bd, bdL, bdL_append]; done)) (by repeat' (first | exact True.intro | exact rfl | refine And.intro ?_ ?_ | exact bdL_map (fun _ => by exact rfl) _ | (simp [bdOq, bdL, bdL_append, AV.bd]; done))) (by (rw [hm]; exact Nat.le_of_ble_eq_true rfl))⟩
      · have hme : m = (nth g.rules i).body.length - 2 := by omega
        have hRn := fun j (hj : j < m + 1) => posL_nth (pos := posN g.rules i) hj
        generalize posL (posN g.rules i) (m + 1) = RL at *
        have hb : (nth (nrmOf g).rules (posN g.rules i + m)).b = symN g (nth (nth g.rules i).body (m + 1)) := by rw [hRm]; simp only [if_pos hme]
        have hR2 : nth RL ((kids.length : Int) - 2).toNat = ((posN g.rules i + m : Nat) : Int) := by
          rw [show ((kids.length : Int) - 2).toNat = m by omega]; exact hRn m (by omega)
        have hx1 := hone (m + 1) (by omega)
        rw [← hLn (m + 1) (by omega), ← hb, ← tailP_last (pos := posN g.rules i) (show m + 1 + 1 = L.length by omega)] at hx1
        have e1 : nth kids (m + 1) = nth kids ((kids.length : Int) - 1).toNat := by rw [show ((kids.length : Int) - 1).toNat = m + 1 by omega]
        have e2 : posN g.rules i + m = (nth RL ((kids.length : Int) - 2).toNat).toNat := by rw [hR2]; omega
        rw [e1, e2] at hx1
        (repeat' (first | apply jA | apply jF | apply jH | apply jJ | apply jL | apply jP | (refine wp_cond rfl (fun hc => ?_) (fun hc => ?_) <;> (try simp only [sB, ne_eq, reduceCtorEq] at hc) <;> (try (exfalso; omega))) | (refine WP.regionC (id := 8) ?_; (refine smove rfl ?_); (refine su (alenr rfl rfl) ?_); (refine sfieldp rfl rfl rfl ?_); (refine sloadp rfl rfl rfl rfl ?_); (refine slenm rfl rfl ?_); (refine su (asub rfl rfl (by exact inr_i64_of (by omega))) ?_); (refine slss rfl rfl ?_); apply jW) | (refine WP.regionC (id := 11) ?_; (refine sfieldp rfl rfl rfl ?_); (refine sloadp rfl rfl rfl rfl ?_); (refine slenm rfl rfl ?_); (refine sassign rfl ?_); apply jW) | (refine wp_draw (id := 12) 20 mixed (by kernel_rfl) (by kernel_rfl) rfl ?_ <;> (refine rmove rfl ?_) <;> (refine rfieldp rfl rfl rfl ?_) <;> (refine rloadp rfl rfl rfl rfl ?_) <;> (refine rmove rfl ?_) <;> (refine rd_u rfl rfl (asub rfl rfl (by exact inr_i64_of (by omega))) ?_) <;> (refine rd_u rfl rfl (aidxz rfl rfl (by omega)) ?_) <;> (refine rd_u rfl rfl (aloadw rfl rfl) ?_) <;> (refine rd_u rfl rfl (afieldi rfl rfl rfl) ?_) <;> (refine rd_u rfl rfl (aloadi rfl rfl) ?_) <;> (refine rmove rfl ?_) <;> (refine rmove rfl ?_) <;> (refine rd_u rfl rfl (asub rfl rfl (by exact inr_i64_of (by omega))) ?_) <;> (refine rd_u rfl rfl (aidxrz rfl rfl (by omega)) ?_) <;> (refine rd_u rfl rfl (aloadpt rfl rfl (by omega) rfl) ?_) <;> (refine rd_u rfl rfl (aidxz rfl rfl (by omega)) ?_) <;> (refine rd_u rfl rfl (afieldi rfl rfl rfl) ?_) <;> (refine rd_u rfl rfl (aloadi rfl rfl) ?_) <;> (refine rd_call rfl rfl (by first | ((repeat' first | exact SubL.nil | refine SubL.cons ?_ ?_ | exact Sub.refl); done) | fail) (by first | (simp [bdL, bdL_append, AV.bd]; done) | fail) (hx1) ?_) <;> (refine rd_alloc rfl ?_) <;> (refine rd_store_b rfl rfl rfl rfl ?_) <;> (refine rd_end (by kernel_rfl) ?_)) | (refine WP.regionC (id := 13) ?_; (refine smove rfl ?_); (refine su (asub rfl rfl (by exact inr_i64_of (by omega))) ?_); (refine sassign rfl ?_); apply jW)))
        rw [show (kids.length : Int) - 2 = ((m + 1 : Nat) : Int) - 1 by omega]
        refine wp_loop (fun (j : Nat) => j ≤ m + 1) (fun j => j)
          (fun j => (S 118 [(4, .iptr (nrmA (nrmOf g)).cells 0), (5, .ptr 0 3 0 0), (6, .ptr 1 2 0 0), (8, .clo (.func 72) [] [.iptr (nrmA (nrmOf g)).cells 0, .iptr (gramA g).cells 0]), (9, .ref 2 1 0 RL.length), (11, .ptr 3 2 0 0), (12, intA ((j : Int) - 1))] 4 [(0, some (.arr 3 [.agg [intA t.rule, intA t.term, tresA kids]])), (1, some (.arr 2 [.agg [intA 0, .val (.slice none 0 0)]])), (2, some (.arr 1 (RL.map intA))), (3, some (.arr 2 [prsA (tailP (posN g.rules i) L j)]))])) (m + 1) ?_ (Nat.le_refl _) ?_
        · exact ⟨[0, 1, 2, 21], ToR.S rfl (by repeat' (first | exact rt_nil | refine rt_r rfl rfl ?_ | refine rt_t rfl rfl ?_ | refine rt_e rfl rfl ?_ | refine rt_p rfl rfl (by first | (simp [AV.bd, bdL, bdL_append]; done) | fail) ?_)) (by repeat' (first | exact ro_nil | refine ro_e rfl rfl ?_ | refine ro_p rfl (by first | exact rfl | fail) (by first | exact bdL_map (fun _ => by exact rfl) _ | (simp [bdL, bdL_append, AV.bd]; done) | fail) ?_)) rfl (by (rw [hm]; exact rfl)) rfl (by (simp [bdT, AV.bd, bdL, bdL_append]; done)) (by repeat' (first | exact True.intro | exact rfl | refine And.intro ?_ ?_ | exact bdL_map (fun _ => by exact rfl) _ | (simp [bdOq, bdL, bdL_append, AV.bd]; done))) (by (rw [hm]; exact Nat.le_of_ble_eq_true rfl))⟩
        intro j hj
        by_cases hj0 : j = 0
        · subst hj0
          (repeat' (first | apply jA | apply jH | apply jJ | apply jK | apply jL | apply jP | apply jS | (refine wp_cond rfl (fun hc => ?_) (fun hc => ?_) <;> (try simp only [sB, ne_eq, reduceCtorEq] at hc) <;> (try (exfalso; omega))) | (refine WP.regionC (id := 14) ?_; (refine smove rfl ?_); (refine su (ageq rfl rfl) ?_); apply jW) | (refine WP.regionC (id := 17) ?_; (refine sloadpw rfl rfl rfl rfl ?_); (refine se_store_b rfl rfl rfl rfl ?_); apply jW)))
          exact ret_c (x := prsA (tailP (posN g.rules i) L 0)) rfl rfl rfl rfl (by first | ((repeat' ((exact Fz.reflp (by simp [AV.bd, bdL, bdL_append])))); done) | fail)
        · have hRj : nth RL ((j : Int) - 1).toNat = ((posN g.rules i + (j - 1) : Nat) : Int) := by
            rw [show ((j : Int) - 1).toNat = j - 1 by omega]; exact hRn (j - 1) (by omega)
          have hRj2 := hR (j - 1) (by omega)
          have hRj3 := hRl (j - 1) (by omega)
          have ha : (nth (nrmOf g).rules (posN g.rules i + (j - 1))).a = symN g (nth (nth g.rules i).body (j - 1)) := by rw [hRj2]
          have hx1 := hone (j - 1) (by omega)
          rw [← hLn (j - 1) (by omega), ← ha] at hx1
          have e1 : nth kids (j - 1) = nth kids ((j : Int) - 1).toNat := by rw [show ((j : Int) - 1).toNat = j - 1 by omega]
          have e2 : posN g.rules i + (j - 1) = (nth RL ((j : Int) - 1).toNat).toNat := by rw [hRj]; omega
          rw [e1, e2] at hx1
          (repeat' (first | apply jA | apply jF | apply jH | apply jI | apply jN | (refine wp_cond rfl (fun hc => ?_) (fun hc => ?_) <;> (try simp only [sB, ne_eq, reduceCtorEq] at hc) <;> (try (exfalso; omega))) | (refine WP.regionC (id := 14) ?_; (refine smove rfl ?_); (refine su (ageq rfl rfl) ?_); apply jW) | (refine wp_draw (id := 16) 24 mixed (by kernel_rfl) (by kernel_rfl) rfl ?_ <;> (refine rmove rfl ?_) <;> (refine rmove rfl ?_) <;> (refine rd_u rfl rfl (aidxrz rfl rfl (by omega)) ?_) <;> (refine rd_u rfl rfl (aloadpt rfl rfl (by omega) rfl) ?_) <;> (refine rmove rfl ?_) <;> (refine rfieldp rfl rfl rfl ?_) <;> (refine rloadp rfl rfl rfl rfl ?_) <;> (refine rmove rfl ?_) <;> (refine rd_u rfl rfl (aidxz rfl rfl (by omega)) ?_) <;> (refine rd_u rfl rfl (aloadw rfl rfl) ?_) <;> (refine rd_u rfl rfl (afieldi rfl rfl rfl) ?_) <;> (refine rd_u rfl rfl (aloadi rfl rfl) ?_) <;> (refine rmove rfl ?_) <;> (refine rmove rfl ?_) <;> (refine rd_u rfl rfl (aidxrz rfl rfl (by omega)) ?_) <;> (refine rd_u rfl rfl (aloadpt rfl rfl (by omega) rfl) ?_) <;> (refine rd_u rfl rfl (aidxz rfl rfl (by omega)) ?_) <;> (refine rd_u rfl rfl (afieldi rfl rfl rfl) ?_) <;> (refine rd_u rfl rfl (aloadi rfl rfl) ?_) <;> (refine rd_call rfl rfl (by first | ((repeat' first | exact SubL.nil | refine SubL.cons ?_ ?_ | exact Sub.refl); done) | fail) (by first | (simp [bdL, bdL_append, AV.bd]; done) | fail) (hx1) ?_) <;> (refine rd_u rfl rfl (aloadpw rfl rfl rfl rfl) ?_) <;> (refine rd_lit (OpP.cons rfl (OpP.cons rfl (OpP.nil))) rfl rfl rfl rfl rfl rfl ?_) <;> (refine rd_u rfl rfl (ap_build (RqP.cons (rq_p rfl rfl) (RqP.cons (rq_p rfl rfl) (RqP.nil))) rfl) ?_) <;> (refine rd_store_b rfl rfl rfl rfl ?_) <;> (refine rd_end (by kernel_rfl) ?_))))
          refine wp_frzo (id := 25) (k := 2) (f := prsA) (L := [nth L (j - 1), tailP (posN g.rules i) L j]) 3 1 hm0 rfl rfl rfl rfl rfl (fun _ => by simp) (fun _ => rfl) ?_
          (repeat' (first | apply jH | (refine WP.regionC (id := 15) ?_; (refine smove rfl ?_); (refine su (asub rfl rfl (by exact inr_i64_of (by omega))) ?_); (refine sassign rfl ?_); apply jW)))
          have hstep := tailP_step (pos := posN g.rules i) (L := L) (j := j - 1) (by omega)
          rw [show j - 1 + 1 = j by omega] at hstep
          refine ⟨j - 1, ⟨by omega, by omega⟩, ?_⟩
          rw [hstep, prsA_kids, hRj, show ((j : Int) - 1 - 1) = ((j - 1 : Nat) : Int) - 1 by omega]
          exact ⟨[0, 1, 2, 3], ToR.S rfl (by repeat' (first | exact rt_nil | refine rt_r rfl rfl ?_ | refine rt_t rfl rfl ?_ | refine rt_e rfl rfl ?_ | refine rt_p rfl rfl (by first | (simp [AV.bd, bdL, bdL_append]; done) | fail) ?_)) (by repeat' (first | exact ro_nil | refine ro_e rfl rfl ?_ | refine ro_p rfl (by first | exact rfl | fail) (by first | exact bdL_map (fun _ => by exact rfl) _ | (simp [bdL, bdL_append, AV.bd]; done) | fail) ?_)) rfl (by (rw [hm]; exact rfl)) rfl (by (simp [bdT, AV.bd, bdL, bdL_append]; done)) (by repeat' (first | exact True.intro | exact rfl | refine And.intro ?_ ?_ | exact bdL_map (fun _ => by exact rfl) _ | (simp [bdOq, bdL, bdL_append, AV.bd]; done))) (by (rw [hm]; exact Nat.le_of_ble_eq_true rfl))⟩
    · obtain ⟨kd, a, q1, q2⟩ := one_pos hi (by omega)
      have hkd : (nth (nrmOf g).rules (posN g.rules t.rule.toNat)).kind = kd := by rw [q1]
      rcases q2 with ⟨hb, rfl, rfl⟩ | ⟨y, hb, hy, rfl, rfl⟩ | ⟨y, hb, hy, rfl, ha⟩
      · have hft : fromTF g (k + 1) t = .mk (posN g.rules t.rule.toNat) [] := by
          rw [fromTF]; unfold bodyAt; rw [hb]; rfl
        rw [hft, htk, show prsA (.mk (posN g.rules t.rule.toNat) []) = .agg [intA (posN g.rules t.rule.toNat : Nat), prssA []] from prsA_kids _]
        refine Fn.intro rfl (by kernel_rfl) Try.func54 rfl rfl Try.ntmps54 (by exact Nat.le_of_ble_eq_true rfl) ?_; intro Γ hm
        (repeat' (first | apply jA | apply jH | apply jK | apply jM | apply jS | (refine wp_cond rfl (fun hc => ?_) (fun hc => ?_) <;> (try simp only [sB, ne_eq, reduceCtorEq] at hc) <;> (try (exfalso; omega))) | (refine WP.regionC (id := 0) ?_; (refine se_box rfl (by exact ⟨rfl, rfl⟩) ?_); (refine se_box rfl (by exact ⟨rfl, rfl⟩) ?_); (refine se_box rfl (by exact ⟨rfl, rfl⟩) ?_); (refine se_alloc rfl ?_); apply jW) | (refine WP.regionC (id := 1) ?_; (refine sloadpw rfl rfl rfl rfl ?_); (refine sfieldp rfl rfl rfl ?_); (refine sloadp rfl rfl rfl rfl ?_); (refine sc_p rfl rfl (by first | ((repeat' first | exact SubL.nil | refine SubL.cons ?_ ?_ | exact Sub.refl); done) | fail) (by first | (simp [bdL, bdL_append, AV.bd]; done) | fail) (hbf) ?_); (refine sassign rfl ?_); apply jW) | (refine WP.regionC (id := 2) ?_; (refine sfieldp rfl rfl rfl ?_); (refine sloadp rfl rfl rfl rfl ?_); (refine smove rfl ?_); (refine sidxn rfl rfl (by omega) ?_); (refine su (afieldi rfl rfl rfl) ?_); (refine su (aloadi rfl rfl) ?_); (refine su (aleq rfl rfl) ?_); apply jW) | (refine WP.regionC (id := 3) ?_; (refine smove rfl ?_); (refine su (ap_build (RqP.cons (rq_p rfl rfl) (RqP.nil)) rfl) ?_); (refine se_store_b rfl rfl rfl rfl ?_); apply jW)))
        exact ret_c (x := .agg [intA (posN g.rules t.rule.toNat : Nat), .val (.slice none 0 0)]) rfl rfl rfl rfl (by first | ((repeat' first | exact FzL.nil | refine FzL.cons ?_ ?_ | exact Fz.nil | (exact Fz.reflp (by simp [AV.bd, bdL, bdL_append])) | refine Fz.aggL ?_); done) | fail)
      · have hft : fromTF g (k + 1) t = .mk (posN g.rules t.rule.toNat) [] := by
          rw [fromTF]; unfold bodyAt; rw [hb]; simp only; rw [if_pos hy]
        rw [hft, htk, show prsA (.mk (posN g.rules t.rule.toNat) []) = .agg [intA (posN g.rules t.rule.toNat : Nat), prssA []] from prsA_kids _]
        refine Fn.intro rfl (by kernel_rfl) Try.func54 rfl rfl Try.ntmps54 (by exact Nat.le_of_ble_eq_true rfl) ?_; intro Γ hm
        (repeat' (first | apply jA | apply jH | apply jK | apply jM | apply jS | (refine wp_cond rfl (fun hc => ?_) (fun hc => ?_) <;> (try simp only [sB, ne_eq, reduceCtorEq] at hc) <;> (try (exfalso; omega))) | (refine WP.regionC (id := 0) ?_; (refine se_box rfl (by exact ⟨rfl, rfl⟩) ?_); (refine se_box rfl (by exact ⟨rfl, rfl⟩) ?_); (refine se_box rfl (by exact ⟨rfl, rfl⟩) ?_); (refine se_alloc rfl ?_); apply jW) | (refine WP.regionC (id := 1) ?_; (refine sloadpw rfl rfl rfl rfl ?_); (refine sfieldp rfl rfl rfl ?_); (refine sloadp rfl rfl rfl rfl ?_); (refine sc_p rfl rfl (by first | ((repeat' first | exact SubL.nil | refine SubL.cons ?_ ?_ | exact Sub.refl); done) | fail) (by first | (simp [bdL, bdL_append, AV.bd]; done) | fail) (hbf) ?_); (refine sassign rfl ?_); apply jW) | (refine WP.regionC (id := 2) ?_; (refine sfieldp rfl rfl rfl ?_); (refine sloadp rfl rfl rfl rfl ?_); (refine smove rfl ?_); (refine sidxn rfl rfl (by omega) ?_); (refine su (afieldi rfl rfl rfl) ?_); (refine su (aloadi rfl rfl) ?_); (refine su (aleq rfl rfl) ?_); apply jW) | (refine WP.regionC (id := 3) ?_; (refine smove rfl ?_); (refine su (ap_build (RqP.cons (rq_p rfl rfl) (RqP.nil)) rfl) ?_); (refine se_store_b rfl rfl rfl rfl ?_); apply jW)))
        exact ret_c (x := .agg [intA (posN g.rules t.rule.toNat : Nat), .val (.slice none 0 0)]) rfl rfl rfl rfl (by first | ((repeat' first | exact FzL.nil | refine FzL.cons ?_ ?_ | exact Fz.nil | (exact Fz.reflp (by simp [AV.bd, bdL, bdL_append])) | refine Fz.aggL ?_); done) | fail)
      · have hft : fromTF g (k + 1) t = .mk (posN g.rules t.rule.toNat) [fromTF g k (nth t.kids 0)] := by
          rw [fromTF]; unfold bodyAt; rw [hb]; simp only; rw [if_neg (by omega)]
        have hk1 : t.kids.length = 1 := by rw [hlen, hb]; rfl
        have hb0 : nth (nth g.rules t.rule.toNat).body 0 = y := by rw [hb]; rfl
        have hok2 := hkid 0 (by omega)
        rw [hb0] at hok2
        have hT2 := (okT_in hy).1 hok2
        have hsz : szT (nth t.kids 0) ≤ k := by have := szT_kid (nth_mem (show 0 < t.kids.length by omega)); omega
        have hx1 := oneI_fn g (nrmOf g) _ _ (nth (nrmOf g).rules (posN g.rules t.rule.toNat)).a hT2.r0 (ih _ _ hsz hy hok2)
        rw [hft, htk, show prsA (.mk (posN g.rules t.rule.toNat) [fromTF g k (nth t.kids 0)]) = .agg [intA (posN g.rules t.rule.toNat : Nat), prssA [fromTF g k (nth t.kids 0)]] from prsA_kids _]
        refine Fn.intro (by simp [AV.bd, bdL, bdL_append]) (by kernel_rfl) Try.func54 rfl rfl Try.ntmps54 (by exact Nat.le_of_ble_eq_true rfl) ?_; intro Γ hm
        (repeat' (first | apply jA | apply jH | apply jI | (refine wp_cond rfl (fun hc => ?_) (fun hc => ?_) <;> (try simp only [sB, ne_eq, reduceCtorEq] at hc) <;> (try (exfalso; omega))) | (refine WP.regionC (id := 0) ?_; (refine se_box rfl (by exact ⟨rfl, rfl⟩) ?_); (refine se_box rfl (by exact ⟨rfl, rfl⟩) ?_); (refine se_box rfl (by exact ⟨rfl, rfl⟩) ?_); (refine se_alloc rfl ?_); apply jW) | (refine WP.regionC (id := 1) ?_; (refine sloadpw rfl rfl rfl rfl ?_); (refine sfieldp rfl rfl rfl ?_); (refine sloadp rfl rfl rfl rfl ?_); (refine sc_p rfl rfl (by first | ((repeat' first | exact SubL.nil | refine SubL.cons ?_ ?_ | exact Sub.refl); done) | fail) (by first | (simp [bdL, bdL_append, AV.bd]; done) | fail) (hbf) ?_); (refine sassign rfl ?_); apply jW) | (refine WP.regionC (id := 2) ?_; (refine sfieldp rfl rfl rfl ?_); (refine sloadp rfl rfl rfl rfl ?_); (refine smove rfl ?_); (refine sidxn rfl rfl (by omega) ?_); (refine su (afieldi rfl rfl rfl) ?_); (refine su (aloadi rfl rfl) ?_); (refine su (aleq rfl rfl) ?_); apply jW) | (refine WP.regionC (id := 4) ?_; (refine su (ap_clo (RqL.nil) (RqL.cons (rq_p rfl rfl) (RqL.cons (rq_p rfl rfl) (RqL.nil)))) ?_); (refine sassign rfl ?_); apply jW)))
        refine wp_frzB (id := 1) (k := 4) (e := nrmA (nrmOf g)) hm rfl (by simp) [(4, .iptr (nrmA (nrmOf g)).cells 0), (8, .clo (.func 72) [] [.iptr (nrmA (nrmOf g)).cells 0, .ptr 0 4 0 0])] ⟨by exact FzB.ptr, by exact FzB.cloL .nil (.cons .ptr (.cons .same .nil)), trivial⟩ ?_
        refine wp_frzB (id := 0) (k := 4) (e := gramA g) hm rfl (by simp) [(8, .clo (.func 72) [] [.iptr (nrmA (nrmOf g)).cells 0, .iptr (gramA g).cells 0])] ⟨by exact FzB.cloL .nil (.cons .same (.cons .ptr .nil)), trivial⟩ ?_
        (repeat' (first | apply jA | apply jH | apply jK | apply jM | apply jS | (refine wp_cond rfl (fun hc => ?_) (fun hc => ?_) <;> (try simp only [sB, ne_eq, reduceCtorEq] at hc) <;> (try (exfalso; omega))) | (refine WP.regionC (id := 5) ?_; (refine sfieldp rfl rfl rfl ?_); (refine sloadp rfl rfl rfl rfl ?_); (refine slenm rfl rfl ?_); (refine seql rfl rfl ?_); apply jW) | (refine wp_draw (id := 6) 16 mixed (by kernel_rfl) (by kernel_rfl) rfl ?_ <;> (refine rmove rfl ?_) <;> (refine rmove rfl ?_) <;> (refine rfieldp rfl rfl rfl ?_) <;> (refine rloadp rfl rfl rfl rfl ?_) <;> (refine rd_u rfl rfl (aidxn rfl rfl (by (simp only [sL] <;> omega))) ?_) <;> (refine rd_u rfl rfl (aloadw rfl rfl) ?_) <;> (refine rd_u rfl rfl (afieldi rfl rfl rfl) ?_) <;> (refine rd_u rfl rfl (aloadi rfl rfl) ?_) <;> (refine rmove rfl ?_) <;> (refine rd_u rfl rfl (aidxn rfl rfl (by omega)) ?_) <;> (refine rd_u rfl rfl (afieldi rfl rfl rfl) ?_) <;> (refine rd_u rfl rfl (aloadi rfl rfl) ?_) <;> (refine rd_call rfl rfl (by first | ((repeat' first | exact SubL.nil | refine SubL.cons ?_ ?_ | exact Sub.refl); done) | fail) (by first | (simp [bdL, bdL_append, AV.bd]; done) | fail) (hx1) ?_) <;> (refine rd_lit (OpP.cons rfl (OpP.nil)) rfl rfl rfl rfl rfl rfl ?_) <;> (refine rd_u rfl rfl (ap_build (RqP.cons (rq_p rfl rfl) (RqP.cons (rq_p rfl rfl) (RqP.nil))) rfl) ?_) <;> (refine rd_store_b rfl rfl rfl rfl ?_) <;> (refine rd_end (by kernel_rfl) ?_))))
        exact ret_c (x := .agg [intA (posN g.rules t.rule.toNat : Nat), .ref 17 2 0 1]) rfl rfl rfl rfl (by first | ((repeat' first | exact FzL.nil | refine FzL.cons ?_ ?_ | (exact Fz.list rfl rfl (fun _ => by simp [AV.bd, bdL, bdL_append]) (fun _ => rfl)) | (exact Fz.reflp (by simp [AV.bd, bdL, bdL_append])) | refine Fz.aggL ?_); done) | fail)
end Go.Lg
