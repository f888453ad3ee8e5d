/-
  Part 15 of the proof of DesugarLanguageCard: the logic over the model, the functions' contracts and the plain laws.
-/
import Derived.Test.YtbjeoainfloiaaaDoorDl14
import Derived.Stop.Looks

set_option linter.unusedSimpArgs false
set_option linter.unusedVariables false
set_option linter.unusedSectionVars false
set_option linter.defProp false

namespace Go.Lg
open Go.RowKit
set_option linter.unusedVariables false
def OkSame {α : Type} (P : Program) (s : Sem α) : Prop := ∀ w a w', s.run P w = .ok a w' → w' = w
section
variable {P : Program}
theorem OkSame.bind {α β : Type} {s : Sem α} {f : α → Sem β} (hs : OkSame P s) (hf : ∀ a, OkSame P (f a)) : OkSame P (s >>= f) := by
  intro w b w' h
  rw [Sem.run_bind] at h
  cases hr : s.run P w with
  | ok a w1 =>
    rw [hr] at h
    have := hs _ _ _ hr
    subst this
    exact hf a _ _ _ h
  | halt x w1 => rw [hr] at h; cases h
theorem OkSame.looks {α : Type} {s : Sem α} (h : s.Looks) : OkSame P s := fun _ _ _ e => h.ok e
theorem okSame_sureAddr (x : Value) : OkSame P (Instr.sureAddr x) := by
  refine .looks ?_
  unfold Instr.sureAddr
  split <;> trivial
theorem okSame_asIntOf (v : Value) : OkSame P (asIntOf v) := by
  refine .looks ?_
  unfold asIntOf
  split <;> trivial
def NoOk {α : Type} (P : Program) (s : Sem α) : Prop := ∀ w a w', s.run P w ≠ .ok a w'
theorem NoOk.same {α : Type} {s : Sem α} (h : NoOk P s) : OkSame P s := fun w a w' e => absurd e (h w a w')
theorem NoOk.bind {α β : Type} {s : Sem α} {f : α → Sem β} (hf : ∀ a, NoOk P (f a)) : NoOk P (s >>= f) := by
  intro w b w' h
  rw [Sem.run_bind] at h
  cases hr : s.run P w with
  | ok a w1 => rw [hr] at h; exact hf a _ _ _ h
  | halt x w1 => rw [hr] at h; cases h
theorem noOk_goPanic {α : Type} (v : Value) : NoOk P (goPanic v : Sem α) := by
  intro w a w' h
  simp [goPanic] at h
theorem noOk_bounds {α : Type} (k : IntKind) (x y : Int) (c : BoundsCode) : NoOk P (boundsPanic k x y c : Sem α) := by
  have h : ∀ b, NoOk P (runtimePanic (.bounds (IntKind.i64.wrap x) y b c) : Sem α) := fun b => by
    unfold runtimePanic
    exact NoOk.bind fun p => noOk_goPanic _
  unfold boundsPanic
  dsimp only
  split
  · exact NoOk.bind h
  · exact NoOk.bind h
theorem okSame_indexAt (t : TypeId) (x ix : Value) : OkSame P (Instr.indexAt t x ix) := by
  unfold Instr.indexAt
  refine (okSame_asIntOf ix).bind fun ki => ?_
  obtain ⟨k, i⟩ := ki
  dsimp only
  refine (OkSame.looks (underlying_looks t)).bind fun u => ?_
  have fin : ∀ z : Option Addr × Nat × TypeId, OkSame P (do
      let u2 ← underlying t
      match z.1 with
      | some a =>
        if 0 ≤ i ∧ i < (z.2.1 : Int) then do
          let n ← sizeOf z.2.2
          pure (Value.pointer (some (a.add (i.toNat * n))))
        else if (decide (z.2.1 ≤ 1) && match u2 with | .array _ _ => true | _ => false) = true then unsupported (.noEntry "op/indexAddr.an index out of range at an array of length 0 or 1 (ledger 616)")
        else boundsPanic k i z.2.1 .index
      | none => boundsPanic k i 0 .index) := by
    intro z
    refine (OkSame.looks (underlying_looks t)).bind fun u2 => ?_
    split
    · split
      · exact (OkSame.looks (sizeOf_looks _)).bind fun _ => .looks trivial
      · split <;> (split; exact .looks (unsupported_looks _); exact (noOk_bounds _ _ _ _).same)
    · exact (noOk_bounds _ _ _ _).same
  split
  · exact (okSame_sureAddr _).bind fun a => (OkSame.looks (pure_looks _)).bind fin
  · exact (OkSame.looks (pure_looks _)).bind fin
  · exact (OkSame.looks (stuck_looks _)).bind fin
def neuB : Op → Bool
  | .load _ _ | .move _ | .assign _ | .indexAddr _ _ _ | .fieldAddr _ _ _ => true
  | _ => false
end
section
variable {P : Program} {ops : Array Oper} {Q : Exit → Act → World → Prop} {md : Region.Mode}
def YieldsAt (P : Program) (oi : Oper) (v : Value) (a : Act) (w : World) : Prop := (execOp a.eval oi).run P w = .ok (.value v) w
theorem YieldsAt.same {oi : Oper} {v : Value} {a a' : Act} {w : World} (hy : YieldsAt P oi v a w) (he : execOp a'.eval oi = execOp a.eval oi) : YieldsAt P oi v a' w := by
  unfold YieldsAt at *; rw [he]; exact hy
end
section
variable {P : Program} {Γ : Cx} {n M : Nat} {l : List (Nat × AV)} {os : List (Nat × Option AObj)} {x : AV} {d : Tmp} {ty : TypeId} {pos : String} {af : Array Edge} {ops : Array Oper} {Q : Exit → St → Prop} {fuel : Nat} {listed : Array Bool}
end
end Go.Lg

namespace Go.Lg
open Go.RowKit
set_option linter.unusedVariables false
section
variable {P : Program} {Γ : Cx} {A : Nat → Prop} {ρ : Nat → Option Nat} {s : St} {a : Act} {w : World}
set_option maxHeartbeats 1600000 in
theorem append_two (h : SRa Γ A ρ s a w) {t tx ty e : TypeId} {ti te : TI} (ht : tinfo P t = some ti) (he : ti.elem = some e) (hte : tinfo P e = some te) {d : TypeDesc} (hd : P.underlying tx = some d) (hd' : ∀ k, d ≠ .int k) (hz0 : (zeroA te).isSome = true)
    {y : AV} {v u : Value} {id len : Nat} {es ys : List AV} (hlook : s.look id = some (.arr te.size es)) (hel : es.length = len) (hx : RV A ρ (Im Γ ρ s w) w (.ref id te.size 0 len) v) (hy : RV A ρ (Im Γ ρ s w) w y u) (hys : srcA te s.look y = some ys) (hpos : 0 < ys.length) (hroom : room te (es.length + ys.length)) {nid : Nat} (hn : nid < s.objs.length) (hA : ¬ A nid) :
    ∃ z w', (Builtin.append_ #[t, tx] ty #[v, u]).run P w = .ok z w' ∧
      ((SRa Γ A ρ (s.set id (some (.arr te.size (es ++ ys)))) a w' ∧ RV A ρ (Im Γ ρ (s.set id (some (.arr te.size (es ++ ys)))) w') w' (.ref id te.size 0 (es ++ ys).length) z) ∨
       ∃ ρ', SRa Γ (fun i => A i ∨ i = nid) ρ' (s.set nid (some (.arr te.size (es ++ ys)))) a w' ∧ RV (fun i => A i ∨ i = nid) ρ' (Im Γ ρ' (s.set nid (some (.arr te.size (es ++ ys)))) w') w' (.ref nid te.size 0 (es ++ ys).length) z) := by
  have hu := elem_spec ht he
  obtain ⟨z0, hz0⟩ := Option.isSome_iff_exists.1 hz0
  obtain ⟨zv, _, hzc, _, _, hzl, hs0, _, i, hi, hz, hsz, hby⟩ := zeroA_spec hte hz0
  have hzcs : zv.cells.size = te.size := by rw [← Array.length_toList, hzc, hzl]
  have grow : ∀ (olds news : List Value) (es ys : List AV) (old : Nat), old < es.length + ys.length → CR A ρ (Im Γ ρ s w) w (flat es) olds → CR A ρ (Im Γ ρ s w) w (flat ys) news → (∀ e, e ∈ es → e.cells.length = te.size) → (∀ e, e ∈ ys → e.cells.length = te.size) →
      room te (es.length + ys.length) →
      let w' := w.drew.alloc (.cells (olds.toArray ++ news.toArray ++ Builtin.zeroCells zv.cells (grownCap w (es.length + ys.length) old e - (es.length + ys.length))) e)
      let ρ' := fun i => if i = nid then some w.heap.size else ρ i
      SRa Γ (fun i => A i ∨ i = nid) ρ' (s.set nid (some (.arr te.size (es ++ ys)))) a w' ∧
      csize w' w.heap.size = some (grownCap w (es.length + ys.length) old e * te.size) ∧ es.length + ys.length ≤ grownCap w (es.length + ys.length) old e ∧ grownCap w (es.length + ys.length) old e ≤ maxLen := by
    intro olds news es ys old hold ho hnw hke hky hroom w' ρ'
    have hall : ∀ e, e ∈ es ++ ys → e.cells.length = te.size := fun e he => (List.mem_append.1 he).elim (hke e) (hky e)
    have hcr : CR A ρ (Im Γ ρ s w) w (flat (es ++ ys)) (olds ++ news) := by rw [flat_append]; exact ho.append hnw
    have hfl := flat_length hall
    have hl := hcr.len
    have hrow := hcr.row hall (Builtin.zeroCells zv.cells (grownCap w (es.length + ys.length) old e - (es.length + ys.length))).toList
    have heq : (olds ++ news ++ (Builtin.zeroCells zv.cells (grownCap w (es.length + ys.length) old e - (es.length + ys.length))).toList).toArray = olds.toArray ++ news.toArray ++ Builtin.zeroCells zv.cells (grownCap w (es.length + ys.length) old e - (es.length + ys.length)) := by
      apply Array.ext'; simp
    rw [heq] at hrow
    have hge := grownCap_ge w (es.length + ys.length) old e
    have hpos : es.length + ys.length ≤ maxLen := by
      have hb := hroom.1
      have : es.length + ys.length ≤ (es.length + ys.length) * te.bytes := Nat.le_mul_of_pos_right _ (Nat.pos_of_ne_zero hroom.2)
      simp only [maxLen]; omega
    refine ⟨(h.drawn (w.drawn + 1)).newRow hn hA e (hrow.drawn _), ?_, hge, grownCap_le_maxLen w _ old e hpos⟩
    refine (csize_block (heap_alloc_new w.drew _)).trans ?_
    congr 1
    rw [← heq]
    simp only [List.size_toArray, List.length_append, hfl, Array.length_toList, size_zeroCells, hzcs] at hl ⊢
    rw [hl, ← Nat.add_mul]
    congr 1
    omega
  obtain ⟨news, hsrc, hcr, hky⟩ := srcA_sound h hy hys
  have hlive := St.look_some.1 hlook
  cases hx with
  | @ref _ _ _ _ cap b hAi hb hl hcs hm =>
    subst hel
    obtain ⟨cs, t', hblk, hrow⟩ := h.row hlook hb
    have hft := flat_length hrow.wide
    have hcap : cs.size = cap * te.size := by rw [csize_block hblk] at hcs; simpa using hcs
    have hocr := hrow.cr
    have hll := hocr.len
    have hof : ∀ d, (Builtin.firstCells i.size es.length (.slice (some ⟨b, 0 * te.size, none⟩) es.length cap)).run P { w with drawn := d } = .ok (cs.toList.take (flat es).length).toArray { w with drawn := d } := fun d => by
      refine firstCells_some i.size es.length b _ cap _ (by rw [hll, hft, hsz]) (fun j u hu => ?_) d es.length
      rw [cell_of_block hblk]
      rw [List.getElem?_take] at hu
      split at hu
      · simpa using hu
      · cases hu
    have hrun := run_append_gen (P := P) (w := w) (t := t) (tx := tx) (ty := ty) hu hd hd' hi hz hof (by rw [hsz]; exact hsrc) (by rw [hby]; exact hroom.1) (by rw [hby]; exact hroom.2)
    by_cases hle : es.length + ys.length ≤ cap
    · have hnl := hcr.len
      have hyl := flat_length hky
      have hfit : es.length * te.size + news.length ≤ cs.size := by
        rw [hnl, hyl, hcap, ← Nat.add_mul]; exact Nat.mul_le_mul_right _ hle
      have hst := run_storeCells_at P b (es.length * te.size) t' news 0 cs w hblk (by simpa using hfit) hcr.atoms
      simp only [Nat.add_zero] at hst
      have hall : ∀ e, e ∈ es ++ ys → e.cells.length = te.size := fun e he => (List.mem_append.1 he).elim (hrow.wide e) (hky e)
      have hrow2 : Row A ρ (Im Γ ρ s w) w te.size (es ++ ys) (cs.toList.take (es.length * te.size) ++ news ++ cs.toList.drop (es.length * te.size + news.length)).toArray := by
        have := (hocr.append hcr)
        rw [← flat_append, hft] at this
        exact this.row hall _
      have hw1 := h.writeRow (w' := w.setRow b (cs.toList.take (es.length * te.size) ++ news ++ cs.toList.drop (es.length * te.size + news.length)).toArray) hlive hb (by simp) rfl rfl rfl (fun c hc => setRow_grow w b c _ hc) hblk (setRow_heap w b cs _ t' (0, 0) hblk)
        (by simp only [List.size_toArray, List.length_append, List.length_take, List.length_drop, Array.length_toList]; omega) hrow2
      refine ⟨_, _, hrun.1 hle _ ?_, .inl ⟨hw1, ?_⟩⟩
      · simpa [hsz, add_lit] using hst
      · rw [List.length_append]
        have hcz := csize_block (setRow_heap w b cs (cs.toList.take (es.length * te.size) ++ news ++ cs.toList.drop (es.length * te.size + news.length)).toArray t' (0, 0) hblk)
        refine .ref hAi hb hle (hcz.trans ?_) hm
        congr 1
        rw [Nat.zero_add, ← hcap]
        simp only [List.size_toArray, List.length_append, List.length_take, List.length_drop, Array.length_toList]
        omega
    · have hg := grow _ news es ys cap (by omega) hocr hcr hrow.wide hky hroom
      obtain ⟨g1, g2, g3, g4⟩ := hg
      refine ⟨_, _, hrun.2 (by omega), .inr ⟨_, g1, ?_⟩⟩
      rw [List.length_append]
      exact .ref0 (.inr rfl) (by simp) g3 g2 g4
  | refn hAi hb =>
    have hnone := h.obj id _ hlive
    rw [hb] at hnone
    obtain ⟨k0, hk0⟩ := hnone.resolve_left (by simp)
    injection hk0 with _ hes
    subst hes
    have hrun := run_append_gen (P := P) (w := w) (t := t) (tx := tx) (ty := ty) hu hd hd' hi hz (base := none) (sLen := 0) (sCap := 0) (olds := []) (fun d => by simp [Builtin.firstCells]) (by rw [hsz]; exact hsrc) (by rw [hby]; simpa using hroom.1) (by rw [hby]; exact hroom.2)
    have hg := grow [] news [] ys 0 (by simp; omega) ⟨rfl, by simp, by simp [flat]⟩ hcr (by simp) hky (by simpa using hroom)
    simp only [List.length_nil, Nat.zero_add, List.nil_append] at hg hrun
    obtain ⟨g1, g2, g3, g4⟩ := hg
    exact ⟨_, _, hrun.2 (by omega), .inr ⟨_, g1, .ref0 (.inr rfl) (by simp) g3 g2 g4⟩⟩
end
section
variable {P : Program} {Γ : Cx} {n M : Nat} {l : List (Nat × AV)} {os : List (Nat × Option AObj)} {x X : AV} {d t : Tmp} {ty : TypeId} {pos : String} {af : Array Edge} {ops : Array Oper} {rest : List Oper} {K : St → Prop} {Q : Exit → St → Prop} {a b : Operand} {g : FuncId} {first cap xa ys : List AV} {f : Operand} {args : Array Operand} {tys : Array TypeId}
theorem wpo_app2 {i : Nat} {te tj : TI} {tx ty2 : TypeId} {k bt id len : Nat} {es zs : List AV} {y : AV} [ht : TEl P ty te k bt] [h3 : TIc P tx tj] (hop : ops[i]? = some ⟨some d, .call ⟨.builtin .append, #[a, b], #[ty, tx]⟩, ty2, pos, af, none⟩)
    (hsh : (match tj.sh with | .int => false | _ => true) = true) (ha : opq n l a = some (.ref id k 0 len)) (ho : lookq M os id = some (.arr k es)) (hl : es.length = len)
    (hb : opq n l b = some y) (hy : srcA te (lookq M os) y = some zs) (hpos : 0 < zs.length) (hz0 : (zeroA te).isSome = true) (hbt : Nat.beq bt 0 = false) (hr : (es.length + zs.length) * bt ≤ 140737488355328)
    (h1 : K (S n ((d, .ref id k 0 (es ++ zs).length) :: l) (M + 1) ((id, some (.arr k (es ++ zs))) :: (M, none) :: os)))
    (h2 : K (S n ((d, .ref M k 0 (es ++ zs).length) :: l) (M + 1) ((M, some (.arr k (es ++ zs))) :: os))) : WPO P Γ ops Q i K (S n l M os) := by
  obtain ⟨ti, el, g1, he, hs, g4, hsz, hbz⟩ := ht.h
  subst hsz
  intro ac w hs0
  unfold wpOp
  rw [hop]
  simp only
  rw [if_pos (by simp [Region.wanted])]
  refine .inl ?_
  obtain ⟨ρ, hρ⟩ := hs0
  have hM : (S n l M os).objs.length = M := ol_length M os
  have hroom := hρ.room'
  have e0 : ({ S n l M os with objs := (S n l M os).objs ++ [none] } : St) = S n l (M + 1) ((M, none) :: os) := by simp only [S]; rw [ol_push]
  rw [e0, hM] at hroom
  have hsh' : ¬ tj.sh = .int := by intro h; rw [h] at hsh; cases hsh
  obtain ⟨dd, hd, hd'⟩ := sh_not_int h3.h hsh'
  have hb0 : te.bytes ≠ 0 := by rw [hbz]; exact Nat.ne_of_beq_eq_false hbt
  have hrm : room te (es.length + zs.length) := ⟨by rw [hbz]; exact hr, hb0⟩
  have hidM : id < M := by
    unfold lookq at ho
    cases h : Nat.blt id M with
    | true => exact blt_of h
    | false => rw [h] at ho; simp at ho
  have hlk : ∀ j, j < M → lookq (M + 1) ((M, none) :: os) j = lookq M os j := fun j hj => by
    rw [← S_look n l, ← S_look n l]
    simp only [St.look, S]
    rw [← ol_push, List.getElem?_append_left (by rw [ol_length]; exact hj)]
  have hx := hroom.eval a
  have hyv := hroom.eval b
  have hopa : (S n l (M + 1) ((M, none) :: os)).op a = .ref id te.size 0 len := opq_op ha
  have hopb : (S n l (M + 1) ((M, none) :: os)).op b = y := opq_op hb
  rw [hopa] at hx
  rw [hopb] at hyv
  have hlook : (S n l (M + 1) ((M, none) :: os)).look id = some (.arr te.size es) := by rw [S_look, hlk id hidM]; exact ho
  have hys : srcA te (S n l (M + 1) ((M, none) :: os)).look y = some zs := by
    have e1 : ∀ j o, lookq M os j = some o → (S n l (M + 1) ((M, none) :: os)).look j = some o := fun j o hj => by
      have hjM : j < M := by
        unfold lookq at hj
        cases h : Nat.blt j M with
        | true => exact blt_of h
        | false => rw [h] at hj; simp at hj
      rw [S_look, hlk j hjM]; exact hj
    cases y with
    | ref id2 k2 off2 len2 =>
      simp only [srcA] at hy ⊢
      cases hq : lookq M os id2 with
      | none => rw [hq] at hy; cases hy
      | some o => rw [hq] at hy; rw [e1 _ _ hq]; exact hy
    | val v =>
      have e2 : ∀ f g : Nat → Option AObj, srcA te f (.val v) = srcA te g (.val v) := fun f g => by
        cases v with
        | slice a n c => cases a <;> cases n <;> rfl
        | _ => rfl
      rw [e2 _ (lookq M os)]; exact hy
    | _ => exact hy
  obtain ⟨z, w', hrun, hres⟩ := append_two (P := P) (ty := ty2) hroom g1 he g4 hd hd' hz0 hlook hl hx hyv hys hpos hrm (nid := M) (by rw [show (S n l (M + 1) ((M, none) :: os)).objs.length = M + 1 from ol_length _ _]; omega) (by omega)
  unfold Oper.wp
  rw [show (execOp ac.eval ⟨some d, .call ⟨.builtin .append, #[a, b], #[ty, tx]⟩, ty2, pos, af, none⟩).run P w = .ok (.value z) w' by simp_all [execOp, resolve, invoke, builtin]]
  simp only [Oper.upon]
  rcases hres with ⟨hA, hv⟩ | ⟨ρ', hA, hv⟩
  · refine ⟨_, h1, ρ, ?_⟩
    have h5 := hA.put (some d) hv
    have e : ((S n l (M + 1) ((M, none) :: os)).set id (some (.arr te.size (es ++ zs)))).put (some d) (.ref id te.size 0 (es ++ zs).length) = S n ((d, .ref id te.size 0 (es ++ zs).length) :: l) (M + 1) ((id, some (.arr te.size (es ++ zs))) :: (M, none) :: os) := by simp [S, St.set, St.put, ol_set, tl_set]
    rw [e] at h5
    refine h5.more (fun j hj => ?_) (fun j hj => hj)
    rw [show (S n ((d, AV.ref id te.size 0 (es ++ zs).length) :: l) (M + 1) ((id, some (.arr te.size (es ++ zs))) :: (M, none) :: os)).objs.length = M + 1 from ol_length _ _]
    omega
  · refine ⟨_, h2, ρ', ?_⟩
    have h5 := hA.put (some d) hv
    have e : ((S n l (M + 1) ((M, none) :: os)).set M (some (.arr te.size (es ++ zs)))).put (some d) (.ref M te.size 0 (es ++ zs).length) = S n ((d, .ref M te.size 0 (es ++ zs).length) :: l) (M + 1) ((M, some (.arr te.size (es ++ zs))) :: os) := by
      simp only [S, St.set, St.put, tl_set, St.mk.injEq, true_and]
      rw [← ol_push, ← ol_push, List.set_append_right _ _ (by rw [ol_length]; omega), ol_length, Nat.sub_self]
      rfl
    rw [e] at h5
    refine h5.more (fun j hj => ?_) (fun j hj => hj)
    rw [show (S n ((d, AV.ref M te.size 0 (es ++ zs).length) :: l) (M + 1) ((M, some (.arr te.size (es ++ zs))) :: os)).objs.length = M + 1 from ol_length _ _]
    omega
def FnQ (P : Program) (g : FuncId) (ys : List AV) (os : List AObj) (post : AV → List (Option AObj) → Prop) : Prop :=
  Spec P g ys (os.map some) fun r o' => post r o' ∧ os.length ≤ o'.length ∧ r.bd o'.length = true
def RetQ (P : Program) (rs : List ResultVar) (m : Nat) (post : AV → List (Option AObj) → Prop) (s : St) : Prop := ∃ X os', post X os' ∧ m ≤ os'.length ∧ X.bd os'.length = true ∧ RetO P rs m X os' s
theorem FnQ.intro {fn : Func} {c : Code} {aos : List AObj} {post : AV → List (Option AObj) → Prop} {rs : List ResultVar} (he : enterable P g = true) (hf : P.funcs[g]? = some fn) (hb : fn.body = some c) (hrs : fn.results = rs.toArray) (hn : fn.ntmps = n) (hl : ys.length ≤ n)
    (h : ∀ Γ : Cx, Γ.m = aos.length → WP P Γ c (bodyQ (RetQ P rs aos.length post)) (S n (enumA 0 ys) aos.length (enumO 0 aos))) : FnQ P g ys aos post := by
  refine Spec.introR he hf hb (rs := rs) (by rw [hrs]) fun Γ hm => ?_
  subst hn
  rw [List.length_map] at hm
  rw [tl_start _ _ hl]
  have hw := h Γ hm
  simp only [S, ← ol_enum] at hw
  refine WP.mono hw ?_
  have key : ∀ s, RetQ P rs aos.length post s → ∃ x y l t, resN P s rs = some x ∧ ToR (aos.map some).length l ⟨[x], s.objs⟩ ⟨[y], t⟩ ∧ (post y t ∧ aos.length ≤ t.length ∧ y.bd t.length = true) := by
    rintro s ⟨X, os', h1, h2, h3, x, is, h4, h5⟩
    exact ⟨x, X, is, os', h4, by rw [List.length_map]; exact h5, h1, h2, h3⟩
  intro e s hq
  cases e with
  | normal => exact key s hq
  | ret => exact key s hq
  | _ => exact hq
end
section
variable {P : Program} {Γ : Cx} {n M : Nat} {l : List (Nat × AV)} {os : List (Nat × Option AObj)} {x : AV} {d : Tmp} {ty : TypeId} {pos : String} {af : Array Edge} {ops : Array Oper} {Q : Exit → St → Prop} {fuel : Nat} {listed : Array Bool}
end
section
variable {P : Program} {Γ : Cx} {A : Nat → Prop} {ρ : Nat → Option Nat} {s : St} {a : Act} {w : World}
end
section
variable {P : Program} {Γ : Cx} {n M : Nat} {l : List (Nat × AV)} {os : List (Nat × Option AObj)} {c : Code} {Q : Exit → St → Prop}
end
section
variable {P : Program} {n M : Nat} {l : List (Nat × AV)} {os : List (Nat × Option AObj)} {ty : TypeId} {a b : Operand} {y : AV} {pos : String} {af : Array Edge} {ops : Array Oper} {rest : List Oper} {N i : Nat} 
def oneE : AV → Bool
  | .agg _ => false
  | e => e.one
end
section
variable {P : Program} {Γ : Cx} {n M : Nat} {l : List (Nat × AV)} {os : List (Nat × Option AObj)} {c : Code} {Q : Exit → St → Prop}
end
section
variable {P : Program} {n M : Nat} {l : List (Nat × AV)} {os : List (Nat × Option AObj)} {d : Tmp} {ty : TypeId} {pos : String} {af : Array Edge} {ops : Array Oper} {rest : List Oper} {K : St → Prop} {a b : Operand}
end
section
variable {P : Program} {Γ : Cx} {n M : Nat} {l : List (Nat × AV)} {os : List (Nat × Option AObj)} {c : Code} {Q : Exit → St → Prop}
end
end Go.Lg

namespace Go.Lg
open Go.Proofs
set_option linter.unusedSimpArgs false
set_option linter.unusedVariables false
attribute [local irreducible] Ap Rq asemC WP RunD Ret Gq thenA inBlockA bodyQ noGotoA RqL RqP OpP
set_option maxHeartbeats 8000000
theorem nth_map {α β : Type} [Inhabited α] [Inhabited β] (g : α → β) {l : List α} {k : Nat} (hk : k < l.length) : nth (l.map g) k = g (nth l k) := by
  rw [nth_eq (by simpa using hk), nth_eq hk, List.getElem_map]
theorem rnames_all (f : GFi) : rnames f f.rules.length = f.rules.map (·.name) := by simp [rnames]
theorem rules_no1 {f : GFi} {k : Nat} (hk : k < f.rules.length) (h : gnOk (nth f.rules k).name = false) : validF f = false := by
  have : distOk (rnames f f.rules.length) = false := by
    rw [rnames_all]
    simp only [distOk, all_nth_no (l := f.rules.map (·.name)) (f := gnOk) (k := k) (by simpa using hk) (by rw [nth_map _ hk]; exact h), Bool.false_and]
  simp only [validF, this, Bool.and_false, Bool.false_and]
end Go.Lg

namespace Go.Lg
open Go.Proofs
set_option linter.unusedSimpArgs false
set_option linter.unusedVariables false
attribute [local irreducible] Ap Rq asemC WP RunD Ret Gq thenA inBlockA bodyQ noGotoA RqL RqP OpP
set_option maxHeartbeats 4000000
set_option maxRecDepth 20000
attribute [local simp] AV.cells
theorem index19_fn (l : List ByteArray) (s : ByteArray) : Fn Tryd.prog 34 [strsA l, strA s] (intA (idx l s)) := by
  refine Fn.intro rfl (by kernel_rfl) Tryd.func34 rfl rfl Tryd.ntmps34 (by exact Nat.le_of_ble_eq_true rfl) ?_; intro Γ hm
  refine wp_lens 0 rfl fun h0 => ?_
  rw [lens_strsA] at h0
  (repeat' (first | apply jA | apply jF | apply jH | (refine WP.regionC ?_; (refine sassign rfl ?_); apply jW)))
  refine wp_loop (fun k => k ≤ l.length ∧ (l.take k).any (fun x => decide (s = x)) = false) (fun k => l.length - k) (fun k => (S 19 [(0, strsA l), (1, strA s), (5, intA (k : Nat))] 0 [])) 0 ⟨[], ToR.S rfl (by repeat' (first | exact rt_nil | refine rt_e rfl rfl ?_ | refine rt_p rfl rfl (by first | (simp [AV.bd, bdL, bdL_append]; done) | fail) ?_)) (by repeat' (exact ro_nil)) rfl (by (rw [hm]; exact rfl)) rfl (by (simp [bdT, AV.bd, bdL, bdL_append]; done)) (by repeat' (exact True.intro)) (by (rw [hm]; exact Nat.le_of_ble_eq_true rfl))⟩ ⟨Nat.zero_le _, rfl⟩ ?_
  rintro k ⟨hk, hall⟩
  (repeat' (first | apply jA | apply jF | apply jH | apply jI | apply jJ | apply jK | apply jL | apply jM | apply jN | apply jO | apply jP | apply jS | (refine wp_cond rfl (fun hc => ?_) (fun hc => ?_) <;> (try simp only [sB, ne_eq, reduceCtorEq] at hc) <;> (try (exfalso; omega))) | (refine WP.regionC (id := 2) ?_; (refine smove rfl ?_); (refine smove rfl ?_); (refine slenm rfl rfl ?_); (refine slss rfl rfl ?_); apply jW) | (refine WP.regionC (id := 4) ?_; (refine smove rfl ?_); (refine smove rfl ?_); (refine sidxn rfl rfl (by omega) ?_); (refine sloadw rfl rfl ?_); (refine smove rfl ?_); (refine seqs rfl rfl ?_); apply jW) | (refine WP.regionC (id := 5) ?_; (refine smove rfl ?_); (refine sassign rfl ?_); apply jW) | (refine WP.regionC (id := 3) ?_; (refine smove rfl ?_); (refine sadd rfl rfl (by exact inr_i64_of (by omega)) ?_); (refine sassign rfl ?_); apply jW) | (refine WP.regionC (id := 6) ?_; (refine sassign rfl ?_); apply jW) | refine ret_i rfl ?_))
  · unfold idx
    rw [indexP_at (k := k) (by omega) hall (by rw [decide_eq_true_eq]; (symm; assumption))]
  · exact ⟨k + 1, ⟨by omega, by omega, take_any_succ (by omega) hall (by rw [decide_eq_false_iff_not]; intro h; simp_all)⟩, ⟨[], ToR.S rfl (by repeat' (first | exact rt_nil | refine rt_e rfl rfl ?_ | refine rt_p rfl rfl (by first | (simp [AV.bd, bdL, bdL_append]; done) | fail) ?_)) (by repeat' (exact ro_nil)) rfl (by (rw [hm]; exact rfl)) rfl (by (simp [bdT, AV.bd, bdL, bdL_append]; done)) (by repeat' (exact True.intro)) (by (rw [hm]; exact Nat.le_of_ble_eq_true rfl))⟩⟩
  · exact (indexP_no (by omega) hall).symm
abbrev ruleNames (f : GFi) : List ByteArray := f.rules.map GRu.name
theorem rules19_fn (f : GFi) (hl : f.rules.length ≤ 100000) : Fn Tryd.prog 32 [fileA f] (strsA (ruleNames f)) := by
  unfold fileA grulesA
  refine Fn.intro (by simp [AV.bd, bdL, bdL_append]) (by kernel_rfl) Tryd.func32 rfl rfl Tryd.ntmps32 (by exact Nat.le_of_ble_eq_true rfl) ?_; intro Γ hm
  (repeat' (first | apply jA | apply jF | apply jH | (refine WP.regionC (id := 0) ?_; (refine se_box rfl (by exact ⟨rfl, rfl⟩) ?_); (refine sassign rfl ?_); apply jW) | (refine WP.regionC ?_; (refine sassign rfl ?_); apply jW)))
  refine wp_nil 3 1 rfl ?_
  refine wp_loop (fun k => k ≤ f.rules.length) (fun k => f.rules.length - k) (fun k => (S 22 [(1, .ptr 0 3 0 0), (3, .ref 1 1 0 ((ruleNames f).take k).length), (4, intA (k : Nat))] 2 [(0, some (.arr 3 [fileA f])), (1, some (.arr 1 (((ruleNames f).take k).map strA)))])) 0 ⟨[0, 1], ToR.S rfl (by repeat' (first | exact rt_nil | refine rt_r rfl rfl ?_ | refine rt_t rfl rfl ?_ | refine rt_e rfl rfl ?_)) (by repeat' (first | exact ro_nil | refine ro_e rfl rfl ?_ | refine ro_p rfl (by first | exact rfl | fail) (by first | (simp [bdL, bdL_append, AV.bd]; done) | fail) ?_)) rfl (by (rw [hm]; exact rfl)) rfl (by (simp [bdT, AV.bd, bdL, bdL_append]; done)) (by repeat' (first | exact True.intro | exact rfl | refine And.intro ?_ ?_ | (simp [bdOq, bdL, bdL_append, AV.bd]; done))) (by (rw [hm]; exact Nat.le_of_ble_eq_true rfl))⟩ (Nat.zero_le _) ?_
  rintro k hk
  have hn : (ruleNames f).length = f.rules.length := by simp [ruleNames]
  unfold fileA grulesA
  by_cases h : k < f.rules.length
  · have e : (ruleNames f).take (k + 1) = (ruleNames f).take k ++ [(nth f.rules k).name] := by
      rw [take_succ_nth (by omega)]
      congr 1
      simp [ruleNames, nth_map GRu.name h]
    have hb : ((ruleNames f).take k).length ≤ 100000 := by simp; omega
    generalize hq : (ruleNames f).take k = q at *
    (repeat' (first | apply jA | apply jF | apply jH | apply jI | apply jN | (refine wp_cond rfl (fun hc => ?_) (fun hc => ?_) <;> (try simp only [sB, ne_eq, reduceCtorEq] at hc) <;> (try (exfalso; omega))) | (refine WP.regionC (id := 3) ?_; (refine smove rfl ?_); (refine sfieldp rfl rfl rfl ?_); (refine sloadp rfl rfl rfl rfl ?_); (refine slenm rfl rfl ?_); (refine slss rfl rfl ?_); apply jW) | (refine WP.regionC (id := 5) ?_; (refine smove rfl ?_); (refine sfieldp rfl rfl rfl ?_); (refine sloadp rfl rfl rfl rfl ?_); (refine smove rfl ?_); (refine sidxn rfl rfl (by omega) ?_); (refine su (afieldi rfl rfl rfl) ?_); (refine su (aloadi rfl rfl) ?_); (refine se_lit (OpP.cons rfl (OpP.nil)) rfl rfl rfl rfl rfl rfl ?_); (refine se_app1 rfl rfl rfl rfl rfl rfl rfl rfl (by omega) ?_); (refine sassign rfl ?_); apply jW) | (refine WP.regionC (id := 4) ?_; (refine smove rfl ?_); (refine sadd rfl rfl (by exact inr_i64_of (by omega)) ?_); (refine sassign rfl ?_); apply jW)))
    refine ⟨k + 1, ⟨by omega, by omega⟩, ?_⟩
    rw [e, List.length_append, List.map_append]
    exact ⟨[0, 3], ToR.S rfl (by repeat' (first | exact rt_nil | refine rt_r rfl rfl ?_ | refine rt_t rfl rfl ?_ | refine rt_e rfl rfl ?_)) (by repeat' (first | exact ro_nil | refine ro_p rfl (by first | exact rfl | fail) (by first | (simp [bdL, bdL_append, AV.bd]; done) | fail) ?_)) rfl (by (rw [hm]; exact rfl)) rfl (by (simp [bdT, AV.bd, bdL, bdL_append]; done)) (by repeat' (first | exact True.intro | refine And.intro ?_ ?_ | (simp [bdOq, bdL, bdL_append, AV.bd]; done))) (by (rw [hm]; exact Nat.le_of_ble_eq_true rfl))⟩
  · have : k = f.rules.length := by omega
    subst this
    rw [← hn, List.take_length]
    (repeat' (first | apply jA | apply jH | apply jJ | apply jK | apply jL | apply jP | apply jS | (refine wp_cond rfl (fun hc => ?_) (fun hc => ?_) <;> (try simp only [sB, ne_eq, reduceCtorEq] at hc) <;> (try (exfalso; omega))) | (refine WP.regionC (id := 3) ?_; (refine smove rfl ?_); (refine sfieldp rfl rfl rfl ?_); (refine sloadp rfl rfl rfl rfl ?_); (refine slenm rfl rfl ?_); (refine slss rfl rfl ?_); apply jW) | (refine WP.regionC (id := 6) ?_; (refine smove rfl ?_); (refine sassign rfl ?_); apply jW) | refine ret_sl rfl rfl rfl (fun _ => by exact rfl) (fun _ => rfl) ?_))
    rfl
def knownE (l : List ByteArray) : GEx → Bool
  | .mk k n ks => !(decide (k = 1) && decide (idx l n < 0)) && knownL l ks
where knownL (l : List ByteArray) : List GEx → Bool
  | [] => true
  | e :: r => knownE l e && knownL l r
theorem knownL_all (l : List ByteArray) : ∀ r : List GEx, knownE.knownL l r = r.all (knownE l)
  | [] => by rw [knownE.knownL]; rfl
  | e :: r => by rw [knownE.knownL, knownL_all l r]; rfl
theorem knownE_mk (l : List ByteArray) (k : Int) (n : ByteArray) (ks : List GEx) : knownE l (.mk k n ks) = (!(decide (k = 1) && decide (idx l n < 0)) && ks.all (knownE l)) := by rw [knownE, knownL_all]
end Go.Lg

namespace Go.Lg
open Go.Proofs
set_option linter.unusedSimpArgs false
set_option linter.unusedVariables false
attribute [local irreducible] Ap Rq asemC WP RunD Ret Gq thenA inBlockA bodyQ noGotoA RqL RqP OpP
set_option maxHeartbeats 4000000
set_option maxRecDepth 20000
def termAt (l : List ByteArray) (i : Nat) : Bool := gnOk (nth l i) && decide (idx (l.take i) (nth l i) < 0)
def termsOk (l : List ByteArray) : Bool := (List.range l.length).all (termAt l)
theorem termsOk_no {l : List ByteArray} {i : Nat} (hi : i < l.length) (h : termAt l i = false) : termsOk l = false := by
  unfold termsOk
  rw [Bool.eq_false_iff]
  intro hh
  rw [List.all_eq_true] at hh
  have := hh i (List.mem_range.2 hi)
  rw [h] at this; cases this
theorem termsOk_yes {l : List ByteArray} (h : ∀ i, i < l.length → termAt l i = true) : termsOk l = true := by
  unfold termsOk
  rw [List.all_eq_true]
  exact fun i hi => h i (List.mem_range.1 hi)
end Go.Lg

namespace Go.Lg
open Go.Proofs
set_option linter.unusedSimpArgs false
set_option linter.unusedVariables false
attribute [local irreducible] Ap Rq asemC WP RunD Ret Gq thenA inBlockA bodyQ noGotoA RqL RqP OpP
set_option maxHeartbeats 4000000
set_option maxRecDepth 20000
attribute [local simp] AV.cells
def oneF (s : ByteArray) : GFi := ⟨s, [], [⟨s, [⟨.mk 2 ⟨#[]⟩ [], 0⟩]⟩]⟩
theorem valid_oneF (s : ByteArray) : validF (oneF s) = gnOk s := by
  unfold validF oneF
  simp [rnames, toks, distOk, gruleOk]
  intro _
  decide +kernel
theorem idx_any (l : List ByteArray) (s : ByteArray) : (l.any fun x => decide (s = x)) = !decide (idx l s < 0) := by
  unfold idx
  rw [← indexP_any, Bool.eq_iff_iff]
  simp only [decide_eq_true_eq, Bool.not_eq_true', decide_eq_false_iff_not]
  omega
theorem terminals_fn (l : List ByteArray) : Fn Tryd.prog 22 [strsA l] (boolA (termsOk l)) := by
  refine Fn.intro rfl (by kernel_rfl) Tryd.func22 rfl rfl Tryd.ntmps22 (by exact Nat.le_of_ble_eq_true rfl) ?_; intro Γ hm
  refine wp_lens 0 rfl fun h0 => ?_
  rw [lens_strsA] at h0
  (repeat' (first | apply jA | apply jF | apply jH | (refine WP.regionC (id := 0) ?_; (refine sassign rfl ?_); apply jW) | (refine WP.regionC (id := 1) ?_; (refine smove rfl ?_); (refine slenm rfl rfl ?_); (refine smove rfl ?_); apply jW)))
  refine wp_loop (fun i => i ≤ l.length ∧ ∀ j, j < i → termAt l j = true) (fun i => l.length - i) (fun i => (S 32 [(0, strsA l), (6, strsA l), (7, intA (l.length : Nat)), (8, intA (i : Nat))] 0 [])) 0 ⟨[], ToR.S rfl (by repeat' (first | exact rt_nil | refine rt_e rfl rfl ?_ | refine rt_p rfl rfl (by first | (simp [AV.bd, bdL, bdL_append]; done) | fail) ?_)) (by repeat' (exact ro_nil)) rfl (by (rw [hm]; exact rfl)) rfl (by (simp [bdT, AV.bd, bdL, bdL_append]; done)) (by repeat' (exact True.intro)) (by (rw [hm]; exact Nat.le_of_ble_eq_true rfl))⟩ ⟨Nat.zero_le _, fun j hj => absurd hj (Nat.not_lt_zero j)⟩ ?_
  rintro i ⟨hi, hall⟩
  by_cases h : i < l.length
  · have hv : Fn Tryd.prog 21 [fileA (oneF (nth l i))] (boolA (gnOk (nth l i))) := valid_oneF _ ▸ gvalid_fn _ (by simp [toks, oneF])
    (repeat' (first | apply jA | apply jF | apply jH | apply jI | apply jK | apply jM | apply jN | apply jO | apply jS | (refine wp_cond rfl (fun hc => ?_) (fun hc => ?_) <;> (try simp only [sB, ne_eq, reduceCtorEq] at hc) <;> (try (exfalso; omega))) | (refine WP.regionC (id := 2) ?_; (refine slss rfl rfl ?_); apply jW) | (refine WP.regionC (id := 3) ?_; (refine smove rfl ?_); (refine sidxn rfl rfl (by omega) ?_); (refine sloadw rfl rfl ?_); (refine sassign rfl ?_); (refine sassign rfl ?_); apply jW) | (refine WP.regionC (id := 4) ?_; (refine smove rfl ?_); (refine smove rfl ?_); (refine su (ap_build (RqP.cons (rq_p rfl rfl) (RqP.nil)) rfl) ?_); (refine su (ap_build (RqP.cons (rq_p rfl rfl) (RqP.nil)) rfl) ?_); (refine se_lit (OpP.cons rfl (OpP.nil)) rfl rfl rfl rfl rfl rfl ?_); (refine su (ap_build (RqP.cons (rq_p rfl rfl) (RqP.cons (rq_p rfl rfl) (RqP.nil))) rfl) ?_); (refine se_lit (OpP.cons rfl (OpP.nil)) rfl rfl rfl rfl rfl rfl ?_); (refine su (ap_build (RqP.cons (rq_p rfl rfl) (RqP.cons (rq_p rfl rfl) (RqP.nil))) rfl) ?_); (refine se_alloc rfl ?_); (refine se_store_b rfl rfl rfl rfl ?_); apply jW) | (refine WP.regionC (id := 5) ?_; (refine sloadpw rfl rfl rfl rfl ?_); (refine sc_b rfl rfl (by first | ((repeat' first | exact FzL.nil | refine FzL.cons ?_ ?_ | exact Fz.nil | (exact Fz.reflp (by simp [AV.bd, bdL, bdL_append])) | refine Fz.rowL rfl rfl rfl ?_ | refine Fz.aggL ?_); done) | fail) (hv) rfl ?_); (refine su (anot rfl) ?_); (refine smove rfl ?_); (refine sg (gq_vf rfl rfl) (fun he => ap_move (rq_p rfl rfl)) ?_); (refine sg (gq_vf rfl rfl) (fun he => ap_move (rq_p rfl rfl)) ?_); (refine sg (gq_vf rfl rfl) (fun he => ap_slice_m (rq_c rfl rfl) (by exact bq_none) (by exact bq_some (rq_c rfl rfl)) (by (try simp only [sH, id, sB, ne_eq, reduceCtorEq] at he); omega)) ?_); (refine sg (gq_vf rfl rfl) (fun he => ap_move (rq_p rfl rfl)) ?_); (refine sg_p (gq_vf rfl rfl) (fun he => ⟨(rq_p rfl rfl), (RqL.cons (rq_c rfl rfl) (RqL.cons (rq_c rfl rfl) (RqL.nil))), (by first | ((repeat' first | exact SubL.nil | refine SubL.cons ?_ ?_ | exact Sub.refl); done) | fail), (by first | (simp [bdL, bdL_append, AV.bd]; done) | fail), containsS_fn _ _⟩) ?_); (refine su (ap_or (rq_p rfl rfl) (rq_c rfl rfl)) ?_); apply jW) | (refine WP.regionC (id := 6) ?_; (refine sassign rfl ?_); apply jW) | (refine WP.regionC (id := 7) ?_; (refine sadd rfl rfl (by exact inr_i64_of (by omega)) ?_); (refine smove rfl ?_); apply jW) | refine ret_b rfl ?_))
    · have hc' : ¬ termAt l i = true := by
        unfold termAt
        rw [idx_any] at hc
        rcases hc with hc | hc
        · simp [hc]
        · simp only [Int.toNat_natCast] at hc
          simp only [Bool.and_eq_true, decide_eq_true_eq, not_and]
          intro _
          have : ¬ idx (l.take i) (nth l i) < 0 := by simpa using hc
          exact this
      rw [termsOk_no h (by simpa using hc')]
    · refine ⟨i + 1, ⟨by omega, by omega, fun j hj => ?_⟩, ⟨[], ToR.S rfl (by repeat' (first | exact rt_nil | refine rt_e rfl rfl ?_ | refine rt_p rfl rfl (by first | (simp [AV.bd, bdL, bdL_append]; done) | fail) ?_)) (by repeat' (exact ro_nil)) rfl (by (rw [hm]; exact rfl)) rfl (by (simp [bdT, AV.bd, bdL, bdL_append]; done)) (by repeat' (exact True.intro)) (by (rw [hm]; exact Nat.le_of_ble_eq_true rfl))⟩⟩
      by_cases e : j = i
      · subst e
        rw [idx_any] at hc
        have h2 : idx (l.take j) (nth l j) < 0 := by simpa using hc.2
        unfold termAt; simp [hc.1, h2]
      · exact hall j (by omega)
  · have : i = l.length := by omega
    subst this
    (repeat' (first | apply jA | apply jH | apply jJ | apply jK | apply jL | apply jP | apply jS | (refine wp_cond rfl (fun hc => ?_) (fun hc => ?_) <;> (try simp only [sB, ne_eq, reduceCtorEq] at hc) <;> (try (exfalso; omega))) | (refine WP.regionC (id := 2) ?_; (refine slss rfl rfl ?_); apply jW) | (refine WP.regionC (id := 8) ?_; (refine sassign rfl ?_); apply jW) | refine ret_b rfl ?_))
    rw [termsOk_yes hall]
end Go.Lg

namespace Go.Lg
structure DRes where
  st : DSt
  rules : List Rul
  nums : List Int
def stepA (d : DEn) (i : Nat) (x : DRes) (a : GAl) : DRes := ⟨(d.symE a.body x.st).2, x.rules ++ [⟨i, (d.symE a.body x.st).1, a.price⟩], x.nums ++ [(x.rules.length : Int)]⟩
def DRes.reset (x : DRes) : DRes := ⟨⟨0, x.st.extra, x.st.ok⟩, x.rules, x.nums⟩
def daltTo (d : DEn) (i : Nat) (x : DRes) (l : List GAl) : Nat → DRes
  | 0 => x
  | k + 1 => stepA d i (daltTo d i x l k) (nth l k)
def envOf (f : GFi) (terms : List ByteArray) (r : GRu) : DEn := ⟨terms, f.rules.map GRu.name, r.name⟩
def drulTo (f : GFi) (terms : List ByteArray) : Nat → DRes
  | 0 => ⟨⟨0, [], true⟩, [], []⟩
  | k + 1 => daltTo (envOf f terms (nth f.rules k)) k (drulTo f terms k).reset (nth f.rules k).alts (nth f.rules k).alts.length
def extR (nn : Nat) (j : Nat) (bs : List (List Int)) : List Rul := bs.map fun b => ⟨(nn : Int) + j, b, 0⟩
def extsTo (nn : Nat) (ex : List (ByteArray × List (List Int))) : Nat → List Rul
  | 0 => []
  | k + 1 => extsTo nn ex k ++ extR nn k (nth ex k).2
def namesX (f : GFi) (ex : List (ByteArray × List (List Int))) : List ByteArray := f.rules.map GRu.name ++ ex.map (·.1)
def desugarG (f : GFi) (terms : List ByteArray) (x : DRes) : Gram := ⟨terms, namesX f x.st.extra, idx (f.rules.map GRu.name) f.start, x.rules ++ extsTo f.rules.length x.st.extra x.st.extra.length⟩
def desugarN (f : GFi) (x : DRes) : List Int := x.nums ++ List.replicate (extsTo f.rules.length x.st.extra x.st.extra.length).length (-1)
def failG : Gram := ⟨[], [], 0, []⟩
def desugarP (f : GFi) (terms : List ByteArray) : Gram × List Int × Int :=
  if !(validF f && termsOk terms) then (failG, [], 1)
  else if !(drulTo f terms f.rules.length).st.ok then (failG, [], 4)
  else if (f.rules.map GRu.name).any (fun s => terms.any fun x => decide (s = x)) then (failG, [], 14)
  else if !validG (desugarG f terms (drulTo f terms f.rules.length)) then (failG, [], 11)
  else (desugarG f terms (drulTo f terms f.rules.length), desugarN f (drulTo f terms f.rules.length), 0)
def cntA (l : List GAl) : Nat → Nat
  | 0 => 0
  | k + 1 => cntA l k + nodE (nth l k).body
def cntF (f : GFi) : Nat → Nat
  | 0 => 0
  | k + 1 => cntF f k + cntA (nth f.rules k).alts (nth f.rules k).alts.length
theorem daltTo_ext (d : DEn) (i : Nat) (x : DRes) (l : List GAl) : ∀ k, x.st.extra.length ≤ (daltTo d i x l k).st.extra.length ∧ (daltTo d i x l k).st.extra.length ≤ x.st.extra.length + cntA l k ∧ x.st.count ≤ (daltTo d i x l k).st.count ∧ (daltTo d i x l k).st.count ≤ x.st.count + cntA l k ∧ (daltTo d i x l k).rules.length = x.rules.length + k ∧ (daltTo d i x l k).nums.length = x.nums.length + k
  | 0 => by simp [daltTo, cntA]
  | k + 1 => by
    have h := daltTo_ext d i x l k
    have h1 := d.sym_ext (nth l k).body (daltTo d i x l k).st
    have h2 := d.symE_cnt (nth l k).body (daltTo d i x l k).st
    simp only [daltTo, stepA, cntA, List.length_append, List.length_cons, List.length_nil]
    omega
theorem drulTo_ext (f : GFi) (terms : List ByteArray) : ∀ k, (drulTo f terms k).st.extra.length ≤ cntF f k
  | 0 => by simp [drulTo, cntF]
  | k + 1 => by
    have h := drulTo_ext f terms k
    have h1 := daltTo_ext (envOf f terms (nth f.rules k)) k (drulTo f terms k).reset (nth f.rules k).alts (nth f.rules k).alts.length
    have hr : (drulTo f terms k).reset.st.extra = (drulTo f terms k).st.extra := rfl
    rw [hr] at h1
    simp only [drulTo, cntF]
    omega
theorem cntA_mono (l : List GAl) : ∀ {j k : Nat}, j ≤ k → cntA l j ≤ cntA l k := by
  intro j k h
  induction k with
  | zero => obtain rfl : j = 0 := by omega
            exact Nat.le_refl _
  | succ k ih =>
    by_cases e : j = k + 1
    · subst e; exact Nat.le_refl _
    · have := ih (by omega); rw [cntA]; omega
theorem cntF_mono (f : GFi) : ∀ {j k : Nat}, j ≤ k → cntF f j ≤ cntF f k := by
  intro j k h
  induction k with
  | zero => obtain rfl : j = 0 := by omega
            exact Nat.le_refl _
  | succ k ih =>
    by_cases e : j = k + 1
    · subst e; exact Nat.le_refl _
    · have := ih (by omega); rw [cntF]; omega
theorem cntA_len (l : List GAl) : ∀ k, k ≤ cntA l k
  | 0 => Nat.le_refl _
  | k + 1 => by have := cntA_len l k; have := nodE_pos (nth l k).body; rw [cntA]; omega
theorem drulTo_len (f : GFi) (terms : List ByteArray) : ∀ k, (drulTo f terms k).rules.length ≤ cntF f k ∧ (drulTo f terms k).nums.length = (drulTo f terms k).rules.length
  | 0 => by simp [drulTo, cntF]
  | k + 1 => by
    have h := drulTo_len f terms k
    have h1 := daltTo_ext (envOf f terms (nth f.rules k)) k (drulTo f terms k).reset (nth f.rules k).alts (nth f.rules k).alts.length
    have h2 := cntA_len (nth f.rules k).alts (nth f.rules k).alts.length
    have hr : (drulTo f terms k).reset.rules = (drulTo f terms k).rules := rfl
    have hs : (drulTo f terms k).reset.nums = (drulTo f terms k).nums := rfl
    rw [hr, hs] at h1
    simp only [drulTo, cntF]
    omega
end Go.Lg

namespace Go.Lg
def bodN (ex : List (ByteArray × List (List Int))) : Nat := (ex.map fun x => x.2.length).sum
theorem bodN_app (a b : List (ByteArray × List (List Int))) : bodN (a ++ b) = bodN a + bodN b := by simp [bodN]
theorem bodN_set : ∀ (l : List (ByteArray × List (List Int))) (i : Nat) (x : ByteArray × List (List Int)), bodN (l.set i x) ≤ bodN l + x.2.length
  | [], i, x => by simp [bodN]
  | y :: l, 0, x => by simp [bodN]; omega
  | y :: l, i + 1, x => by
    have := bodN_set l i x
    simp only [List.set_cons_succ]
    simp only [bodN, List.map_cons, List.sum_cons] at *
    omega
theorem finB_len (k self : Int) (bs : List (List Int)) : (finB k self bs).length ≤ bs.length + 2 := by
  unfold finB
  split
  · simp
  · split
    · simp
    · split
      · simp
      · omega
theorem DEn.symE_bod (d : DEn) (e : GEx) : ∀ s : DSt, bodN (d.symE e s).2.extra + 1 ≤ bodN s.extra + 4 * nodE e := by
  induction e using GEx.ind with
  | h e ih =>
    have hL : ∀ l : List GEx, (∀ x, x ∈ l → x ∈ e.kids) → ∀ s : DSt, bodN (d.symL l s).2.extra + l.length ≤ bodN s.extra + 4 * nodL l := by
      intro l
      induction l with
      | nil => intro _ s; rw [DEn.symL]; simp
      | cons x l ihl =>
        intro hl s
        have h1 := ih x (hl x (by simp)) s
        have h2 := ihl (fun y hy => hl y (by simp [hy])) (d.symE x s).2
        rw [DEn.symL, nodL]
        simp only [List.length_cons]
        omega
    intro s
    rw [DEn.symE_eq, nodE_eq]
    split
    · have := d.sym_len e.name s
      simp only [this.1]
      omega
    · split
      · have := hL _ (fun _ h => h) s
        simp only
        omega
      · have h1 := bodN_set (d.symL e.kids (d.start s)).2.extra s.extra.length (d.newName (s.count + 1), finB e.kind (d.self s) (d.symL e.kids (d.start s)).1)
        have h2 := finB_len e.kind (d.self s) (d.symL e.kids (d.start s)).1
        rw [d.symL_len] at h2
        have h4 := hL e.kids (fun _ h => h) (d.start s)
        have h5 : bodN (d.start s).extra = bodN s.extra := by simp only [DEn.start]; rw [bodN_app]; simp [bodN]
        simp only at h1 ⊢
        omega
theorem daltTo_bod (d : DEn) (i : Nat) (x : DRes) (l : List GAl) : ∀ k, bodN (daltTo d i x l k).st.extra ≤ bodN x.st.extra + 4 * cntA l k
  | 0 => by simp [daltTo, cntA]
  | k + 1 => by
    have h := daltTo_bod d i x l k
    have h1 := d.symE_bod (nth l k).body (daltTo d i x l k).st
    simp only [daltTo, stepA, cntA]
    omega
theorem drulTo_bod (f : GFi) (terms : List ByteArray) : ∀ k, bodN (drulTo f terms k).st.extra ≤ 4 * cntF f k
  | 0 => by simp [drulTo, cntF, bodN]
  | k + 1 => by
    have h := drulTo_bod f terms k
    have h1 := daltTo_bod (envOf f terms (nth f.rules k)) k (drulTo f terms k).reset (nth f.rules k).alts (nth f.rules k).alts.length
    have hr : (drulTo f terms k).reset.st.extra = (drulTo f terms k).st.extra := rfl
    rw [hr] at h1
    simp only [drulTo, cntF]
    omega
theorem extR_len (nn j : Nat) (bs : List (List Int)) : (extR nn j bs).length = bs.length := by simp [extR]
theorem extsTo_len (nn : Nat) (ex : List (ByteArray × List (List Int))) : ∀ k, k ≤ ex.length → (extsTo nn ex k).length = bodN (ex.take k)
  | 0, _ => by simp [extsTo, bodN]
  | k + 1, h => by
    rw [extsTo, List.length_append, extsTo_len nn ex k (by omega), extR_len, take_succ_nth (by omega), bodN_app]
    simp [bodN]
theorem bodN_take (ex : List (ByteArray × List (List Int))) (k : Nat) : bodN (ex.take k) ≤ bodN ex := by
  have := bodN_app (ex.take k) (ex.drop k)
  rw [List.take_append_drop] at this
  omega
theorem extsTo_step {nn j : Nat} {ex : List (ByteArray × List (List Int))} {i : Nat} (h : i < ex.length) (hj : j ≤ (nth ex i).2.length) : (extsTo nn ex i).length + j ≤ bodN ex := by
  have h1 := extsTo_len nn ex (i + 1) (by omega)
  rw [extsTo, List.length_append, extR_len] at h1
  have := bodN_take ex (i + 1)
  omega
theorem extR_take {nn j i : Nat} {bs : List (List Int)} (h : j < bs.length) : (extR nn i bs).take (j + 1) = (extR nn i bs).take j ++ [⟨(nn : Int) + i, nth bs j, 0⟩] := by
  rw [take_succ_nth (by rw [extR_len]; exact h)]
  congr 1
  unfold extR
  rw [nth_map _ h]
def rulX (nn : Nat) (x : DRes) (k : Nat) : List Rul := x.rules ++ extsTo nn x.st.extra k
def numX (nn : Nat) (x : DRes) (k : Nat) : List Int := x.nums ++ List.replicate (extsTo nn x.st.extra k).length (-1)
def namX (nms : List ByteArray) (x : DRes) (k : Nat) : List ByteArray := nms ++ (x.st.extra.take k).map (·.1)
theorem rulX_zero (nn : Nat) (x : DRes) : rulX nn x 0 = x.rules := by simp [rulX, extsTo]
theorem numX_zero (nn : Nat) (x : DRes) : numX nn x 0 = x.nums := by simp [numX, extsTo]
theorem namX_zero (nms : List ByteArray) (x : DRes) : namX nms x 0 = nms := by simp [namX]
theorem rulX_succ (nn : Nat) (x : DRes) (k : Nat) : rulX nn x (k + 1) = rulX nn x k ++ (extR nn k (nth x.st.extra k).2).take (nth x.st.extra k).2.length := by
  have : (extR nn k (nth x.st.extra k).2).take (nth x.st.extra k).2.length = extR nn k (nth x.st.extra k).2 := List.take_of_length_le (by rw [extR_len]; exact Nat.le_refl _)
  rw [this]
  simp [rulX, extsTo]
theorem numX_succ (nn : Nat) (x : DRes) (k : Nat) : numX nn x (k + 1) = numX nn x k ++ List.replicate (nth x.st.extra k).2.length (-1) := by
  simp only [numX, extsTo, List.length_append, extR_len, List.append_assoc, List.replicate_append_replicate]
theorem namX_succ (nms : List ByteArray) (x : DRes) {k : Nat} (h : k < x.st.extra.length) : namX nms x (k + 1) = namX nms x k ++ [(nth x.st.extra k).1] := by
  unfold namX
  rw [take_succ_nth h]
  simp
theorem rulX_len {nn : Nat} {x : DRes} {k j : Nat} (h : k < x.st.extra.length) (hj : j ≤ (nth x.st.extra k).2.length) : (rulX nn x k).length + j ≤ x.rules.length + bodN x.st.extra := by
  have := extsTo_step (nn := nn) h hj
  simp only [rulX, List.length_append]
  omega
theorem numX_len {nn : Nat} {x : DRes} {k j : Nat} (h : k < x.st.extra.length) (hj : j ≤ (nth x.st.extra k).2.length) : (numX nn x k).length + j ≤ x.nums.length + bodN x.st.extra := by
  have := extsTo_step (nn := nn) h hj
  simp only [numX, List.length_append, List.length_replicate]
  omega
theorem namX_len (nms : List ByteArray) (x : DRes) (k : Nat) : (namX nms x k).length ≤ nms.length + x.st.extra.length := by
  simp only [namX, List.length_append, List.length_map, List.length_take]
  omega
theorem finB_ne {k self : Int} {bs : List (List Int)} (h : bs ≠ []) : finB k self bs ≠ [] := by
  unfold finB
  split
  · simp
  · split
    · simp
    · split
      · simp
      · exact h
theorem DEn.symE_ne (d : DEn) (e : GEx) : wellE e = true → ∀ (s : DSt) (i : Nat) (x : ByteArray × List (List Int)), s.extra.length ≤ i → (d.symE e s).2.extra[i]? = some x → x.2 ≠ [] := by
  induction e using GEx.ind with
  | h e ih =>
    have hL : ∀ l : List GEx, (∀ x, x ∈ l → x ∈ e.kids ∧ wellE x = true) → ∀ (s : DSt) (i : Nat) (x : ByteArray × List (List Int)), s.extra.length ≤ i → (d.symL l s).2.extra[i]? = some x → x.2 ≠ [] := by
      intro l
      induction l with
      | nil =>
        intro _ s i x hi hx
        rw [DEn.symL] at hx
        rw [List.getElem?_eq_none hi] at hx
        cases hx
      | cons y l ihl =>
        intro hl s i x hi hx
        rw [DEn.symL] at hx
        simp only at hx
        by_cases hlt : i < (d.symE y s).2.extra.length
        · rw [d.symL_old l _ i hlt] at hx
          exact ih y (hl y (by simp)).1 (hl y (by simp)).2 s i x hi hx
        · exact ihl (fun z hz => hl z (by simp [hz])) (d.symE y s).2 i x (by omega) hx
    intro hw s i x hi hx
    rw [wellE_eq, Bool.and_eq_true, wellL_all, List.all_eq_true] at hw
    rw [DEn.symE_eq] at hx
    split at hx
    · rw [(d.sym_len e.name s).1, List.getElem?_eq_none hi] at hx
      cases hx
    · split at hx
      · exact hL _ (fun z hz => ⟨hz, hw.2 z hz⟩) s i x hi hx
      · rename_i h1 h2
        have hk : e.kids ≠ [] := by
          intro h0
          have := hw.1
          simp [h0, h1, h2] at this
        by_cases hi0 : i = s.extra.length
        · subst hi0
          rw [List.getElem?_set] at hx
          simp only [if_true] at hx
          split at hx
          · injection hx with hx
            subst hx
            refine finB_ne fun h0 => hk ?_
            have := d.symL_len e.kids (d.start s)
            rw [h0] at this
            exact List.eq_nil_of_length_eq_zero this.symm
          · cases hx
        · rw [List.getElem?_set_ne (fun h => hi0 h.symm)] at hx
          exact hL e.kids (fun z hz => ⟨hz, hw.2 z hz⟩) (d.start s) i x (by simp [DEn.start]; omega) hx
theorem mem_get {α : Type} {l : List α} {x : α} (h : x ∈ l) : ∃ i : Nat, l[i]? = some x := List.mem_iff_getElem?.1 h
theorem daltTo_ne (d : DEn) (i : Nat) (x : DRes) (l : List GAl) (hl : ∀ a, a ∈ l → wellE a.body = true) (hx : ∀ y, y ∈ x.st.extra → y.2 ≠ []) : ∀ k, k ≤ l.length → ∀ y, y ∈ (daltTo d i x l k).st.extra → y.2 ≠ []
  | 0, _ => hx
  | k + 1, h => by
    intro y hy
    obtain ⟨n, hn⟩ := mem_get hy
    simp only [daltTo, stepA] at hn
    by_cases hlt : n < (daltTo d i x l k).st.extra.length
    · rw [d.symE_old _ _ n hlt] at hn
      exact daltTo_ne d i x l hl hx k (by omega) y (List.mem_of_getElem? hn)
    · exact d.symE_ne _ (hl _ (nth_mem (by omega))) _ n y (by omega) hn
theorem drulTo_ne (f : GFi) (terms : List ByteArray) (hw : ∀ r, r ∈ f.rules → ∀ a, a ∈ r.alts → wellE a.body = true) : ∀ k, k ≤ f.rules.length → ∀ y, y ∈ (drulTo f terms k).st.extra → y.2 ≠ []
  | 0, _ => by simp [drulTo]
  | k + 1, h => daltTo_ne (envOf f terms (nth f.rules k)) k (drulTo f terms k).reset (nth f.rules k).alts (hw _ (nth_mem (by omega))) (drulTo_ne f terms hw k (by omega)) _ (Nat.le_refl _)
theorem replicate_snoc (j : Nat) (a : Int) : List.replicate (j + 1) a = List.replicate j a ++ [a] := by rw [List.replicate_succ']
end Go.Lg

namespace Go.Lg
theorem well_of_ok (e : GEx) : ∀ d : Int, okE e d = true → wellE e = true := by
  induction e using GEx.ind with
  | h e ih =>
    intro d h
    rw [okE_eq] at h
    rw [wellE_eq, wellL_all]
    simp only [Bool.and_eq_true, List.all_eq_true] at h ⊢
    refine ⟨?_, fun x hx => ih x hx _ (h.2 x hx)⟩
    have h1 := h.1.2
    unfold okK at h1
    cases hk : e.kids with
    | nil =>
      rw [hk] at h1
      by_cases a1 : e.kind = 1
      · simp [a1]
      · by_cases a2 : e.kind = 2
        · simp [a2]
        · simp [a1, a2] at h1
    | cons x l => simp
theorem valid_well {f : GFi} (h : validF f = true) : ∀ r, r ∈ f.rules → ∀ a, a ∈ r.alts → wellE a.body = true := by
  intro r hr a ha
  unfold validF at h
  simp only [Bool.and_eq_true] at h
  have h1 := List.all_eq_true.1 h.1.1.1.1.2 r hr
  unfold gruleOk at h1
  simp only [Bool.and_eq_true] at h1
  have h2 := List.all_eq_true.1 h1.2 a ha
  unfold altOk at h2
  simp only [Bool.and_eq_true] at h2
  exact well_of_ok _ _ h2.2
theorem valid_name {f : GFi} (h : validF f = true) : ∀ r, r ∈ f.rules → r.name.size ≤ 100000 := by
  intro r hr
  obtain ⟨k, hk, e⟩ := List.mem_iff_getElem.1 hr
  have e2 : nth f.rules k = r := by rw [nth_eq hk, e]
  cases hg : gnOk r.name with
  | true =>
    unfold gnOk at hg
    simp only [Bool.and_eq_true, decide_eq_true_eq] at hg
    omega
  | false =>
    have := rules_no1 hk (by rw [e2]; exact hg)
    rw [this] at h; cases h
end Go.Lg

namespace Go.Lg
theorem nodesG_ge (m : Int) : ∀ (l : List GEx) (n : Int), n ≤ nodesG l m n
  | [], n => by rw [nodesG]; omega
  | e :: l, n => by
    rw [nodesG]
    split
    · have h1 := nodesG_ge m l (n + nodesR e (m - n))
      have h2 := nodesR_bd e (m - n) (by omega)
      omega
    · omega
theorem nodesR_le (e : GEx) : ∀ m : Int, nodesR e m ≤ m → (nodE e : Int) ≤ nodesR e m := by
  induction e using GEx.ind with
  | h e ih =>
    intro m hm
    have key : ∀ (l : List GEx), (∀ x, x ∈ l → x ∈ e.kids) → ∀ n : Int, nodesG l m n ≤ m → n + nodL l ≤ nodesG l m n := by
      intro l
      induction l with
      | nil => intro _ n _; rw [nodesG, nodL]; omega
      | cons x l ihl =>
        intro hl n h
        rw [nodesG] at h ⊢
        split
        · rename_i hn
          rw [if_pos hn] at h
          have h1 := ihl (fun y hy => hl y (by simp [hy])) _ h
          have h2 := nodesG_ge m l (n + nodesR x (m - n))
          have h3 := ih x (hl x (by simp)) (m - n) (by omega)
          rw [nodL]
          omega
        · rename_i hn
          rw [if_neg hn] at h
          exact absurd h hn
    rw [nodesR_eq] at hm ⊢
    have := key e.kids (fun _ h => h) 1 hm
    rw [nodE_eq]
    omega
theorem szA_le (r : GRu) (m n : Int) : ∀ k, szA r m n k ≤ m → n + k + (cntA r.alts k : Int) ≤ szA r m n k
  | 0, _ => by rw [szA, cntA]; omega
  | k + 1, h => by
    rw [szA] at h ⊢
    split
    · rename_i hle
      rw [if_pos hle] at h
      have h1 := szA_le r m n k hle
      have h2 := nodesR_le (nth r.alts k).body (m - szA r m n k) (by omega)
      rw [cntA]
      omega
    · rename_i hle; rw [if_neg hle] at h; exact absurd h hle
theorem szR_le (f : GFi) (m : Int) (h0 : 0 ≤ szL f m f.levels.length) : ∀ i, szR f m i ≤ m → (i : Int) + (cntF f i : Int) ≤ szR f m i
  | 0, _ => by rw [szR, cntF]; omega
  | i + 1, h => by
    rw [szR] at h ⊢
    split
    · rename_i hle
      rw [if_pos hle] at h
      have h1 := szR_le f m h0 i hle
      have h2 := szA_le (nth f.rules i) m (szR f m i + 1) (nth f.rules i).alts.length h
      rw [cntF]
      omega
    · rename_i hle; rw [if_neg hle] at h; exact absurd h hle
theorem cnt_small {f : GFi} (hT : TokB f) {m : Int} (h0 : 0 ≤ m) (h : sizeF f m ≤ m) : (f.rules.length : Int) + (cntF f f.rules.length : Int) ≤ m := by
  have h1 := szL_bd f hT m h0 f.levels.length (Nat.le_refl _)
  unfold sizeF at h
  have := szR_le f m h1.1 f.rules.length h
  omega
theorem desugarP_ok {f : GFi} {terms : List ByteArray} (h : (desugarP f terms).2.2 = 0) : validF f = true ∧ (drulTo f terms f.rules.length).st.ok = true ∧ validG (desugarG f terms (drulTo f terms f.rules.length)) = true ∧ desugarP f terms = (desugarG f terms (drulTo f terms f.rules.length), desugarN f (drulTo f terms f.rules.length), 0) := by
  by_cases h1 : (validF f && termsOk terms) = true
  · by_cases h2 : (drulTo f terms f.rules.length).st.ok = true
    · by_cases h3 : ((f.rules.map GRu.name).any fun s => terms.any fun x => decide (s = x)) = true
      · unfold desugarP at h
        rw [if_neg (by rw [h1]; decide), if_neg (by rw [h2]; decide), if_pos h3] at h
        cases h
      · by_cases h4 : validG (desugarG f terms (drulTo f terms f.rules.length)) = true
        · refine ⟨(Bool.and_eq_true _ _ ▸ h1).1, h2, h4, ?_⟩
          unfold desugarP
          rw [if_neg (by rw [h1]; decide), if_neg (by rw [h2]; decide), if_neg h3, if_neg (by rw [h4]; decide)]
        · unfold desugarP at h
          rw [if_neg (by rw [h1]; decide), if_neg (by rw [h2]; decide), if_neg h3, if_pos (by simpa using h4)] at h
          cases h
    · unfold desugarP at h
      rw [if_neg (by rw [h1]; decide), if_pos (by simpa using h2)] at h
      cases h
  · unfold desugarP at h
    rw [if_pos (by rw [Bool.not_eq_true']; exact Bool.eq_false_iff.2 h1)] at h
    cases h
def altN (f : GFi) : Nat → Nat
  | 0 => 0
  | i + 1 => altN f i + (nth f.rules i).alts.length
theorem drulTo_altN (f : GFi) (terms : List ByteArray) : ∀ i, (drulTo f terms i).rules.length = altN f i ∧ (drulTo f terms i).nums.length = altN f i
  | 0 => by simp [drulTo, altN]
  | i + 1 => by
    have h := drulTo_altN f terms i
    have h1 := daltTo_ext (envOf f terms (nth f.rules i)) i (drulTo f terms i).reset (nth f.rules i).alts (nth f.rules i).alts.length
    have hr : (drulTo f terms i).reset.rules = (drulTo f terms i).rules := rfl
    have hs : (drulTo f terms i).reset.nums = (drulTo f terms i).nums := rfl
    rw [hr, hs] at h1
    simp only [drulTo, altN]
    omega
theorem nth_snoc_lt {α : Type} [Inhabited α] {l : List α} {x : α} {i : Nat} (h : i < l.length) : nth (l ++ [x]) i = nth l i := by
  rw [nth_eq (by simp; omega), nth_eq h, List.getElem_append_left h]
theorem altN_mono (f : GFi) : ∀ {a b : Nat}, a ≤ b → altN f a ≤ altN f b := by
  intro a b hab
  induction b with
  | zero => obtain rfl : a = 0 := by omega
            exact Nat.le_refl _
  | succ b ih =>
    by_cases e : a = b + 1
    · subst e; exact Nat.le_refl _
    · have := ih (by omega); rw [altN]; omega
theorem nth_app_lt {α : Type} [Inhabited α] {l r : List α} {i : Nat} (h : i < l.length) : nth (l ++ r) i = nth l i := by
  rw [nth_eq (by simp; omega), nth_eq h, List.getElem_append_left h]
theorem nth_app_ge {α : Type} [Inhabited α] {l r : List α} {i : Nat} (h : l.length ≤ i) (h2 : i < l.length + r.length) : nth (l ++ r) i = nth r (i - l.length) := by
  rw [nth_eq (by simp; omega), nth_eq (by omega), List.getElem_append_right h]
theorem altN_cnt (f : GFi) : ∀ i, altN f i ≤ cntF f i
  | 0 => Nat.le_refl _
  | i + 1 => by have := altN_cnt f i; have := cntA_len (nth f.rules i).alts (nth f.rules i).alts.length; rw [altN, cntF]; omega
end Go.Lg

namespace Go.Lg
def encT (t : List UInt8) (b : Bool) : List UInt8 := if b then [40] ++ t ++ [41] else t
def reqP (k : Int) (x : GEx) : Bool := if k = 2 then decide (x.kind = 2) || decide (x.kind = 3) else if k = 3 then decide (x.kind = 3) || decide (x.kind = 2) && decide ((x.kids.length : Int) = 0) else !decide (x.kind = 1)
def sepT (k : Int) : List UInt8 := if k = 2 then [32] else if k = 3 then [32, 124, 32] else []
def tailT (k : Int) (n : ByteArray) : List UInt8 := if k = 1 then bl n else if k = 4 then [63] else if k = 5 then [42] else if k = 6 then [43] else []
mutual
def exT : GEx → List UInt8
  | .mk k n l => kidsT k false l ++ tailT k n
def kidsT (k : Int) (more : Bool) : List GEx → List UInt8
  | [] => []
  | e :: l => ((if more then sepT k else []) ++ encT (exT e) (reqP k e)) ++ kidsT k true l
end
def wPrice : List UInt8 := [32, 112, 114, 105, 99, 101, 32]
def prT (p : Int) : List UInt8 := if p = 0 then [] else wPrice ++ Lib.itoa p
def bodT (e : GEx) : List UInt8 := if ¬ e.kind = 2 ∨ 0 < (e.kids.length : Int) then [32] ++ encT (exT e) (decide (e.kind = 3)) else []
def altT (a : GAl) : List UInt8 := bodT a.body ++ prT a.price
def altsT (l : List GAl) : Nat → List UInt8
  | 0 => []
  | i + 1 => altsT l i ++ ((if i = 0 then [] else [32, 124]) ++ altT (nth l i))
end Go.Lg

namespace Go.Lg
open Go.Proofs
open Go.RowKit
set_option maxRecDepth 20000
section
variable {P : Program} {n M : Nat} {l : List (Nat × AV)} {os : List (Nat × Option AObj)} {e : List Bool} {a : Operand} {ty : TypeId} {ti tj : TI}
end
end Go.Lg

namespace Go.Lg
open Go.Proofs
set_option linter.unusedSimpArgs false
set_option linter.unusedVariables false
attribute [local irreducible] Ap Rq asemC WP RunD Ret Gq thenA inBlockA bodyQ noGotoA RqL RqP OpP
set_option maxHeartbeats 8000000
set_option maxRecDepth 20000
attribute [local simp] AV.cells altA
end Go.Lg

namespace Go.Lg
open Go.RowKit
section
variable {P : Program} {Γ : Cx} {ρ : Nat → Option Nat} {s : St} {a : Act} {w : World}
def mvR (M : Nat) (b : Option Nat) (ρ : Nat → Option Nat) (i : Nat) : Option Nat := if i = M then b else ρ i
theorem mvR_lt {M i : Nat} {b : Option Nat} {ρ : Nat → Option Nat} (h : i < M) : mvR M b ρ i = ρ i := if_neg (by omega)
theorem mvR_M {M : Nat} {b : Option Nat} {ρ : Nat → Option Nat} : mvR M b ρ M = b := if_pos rfl
theorem SRa.moveR {M : Nat} (h : SRa Γ (fun id => id < M) ρ s a w) (hM : s.objs.length = M) {i j k k' f m : Nat} {cs es : List AV} (hi : s.live i (.arr k' [.agg cs])) (hj : s.live j (.arr k es)) (hij : i ≠ j) (hf : cs[f]? = some (.ref j k 0 m)) :
    SRa Γ (fun id => id < M + 1) (mvR M (ρ j) ρ) ⟨s.tmps, ((s.objs.set j none).set i (some (.arr k' [.agg (cs.set f (.ref M k 0 m))]))) ++ [some (.arr k es)]⟩ a w := by
  have hiM : i < M := by rw [← hM]; exact live_len hi
  have hjM : j < M := by rw [← hM]; exact live_len hj
  have hlv : ∀ id o, St.live ⟨s.tmps, ((s.objs.set j none).set i (some (.arr k' [.agg (cs.set f (.ref M k 0 m))]))) ++ [some (.arr k es)]⟩ id o → (s.live id o ∧ id < M ∧ id ≠ i ∧ id ≠ j) ∨ (id = i ∧ o = .arr k' [.agg (cs.set f (.ref M k 0 m))]) ∨ (id = M ∧ o = .arr k es) := by
    intro id o hl
    simp only [St.live] at hl
    by_cases h1 : id < M
    · rw [List.getElem?_append_left (by simp; omega)] at hl
      by_cases h2 : id = i
      · subst h2; rw [List.getElem?_set_self (by simp; omega)] at hl; simp at hl; exact .inr (.inl ⟨rfl, hl.symm⟩)
      · rw [List.getElem?_set_ne (fun e => h2 e.symm)] at hl
        by_cases h3 : id = j
        · subst h3; rw [List.getElem?_set_self (by omega)] at hl; simp at hl
        · rw [List.getElem?_set_ne (fun e => h3 e.symm)] at hl; exact .inl ⟨hl, h1, h2, h3⟩
    · rw [List.getElem?_append_right (by simp; omega)] at hl
      simp only [List.length_set, hM] at hl
      by_cases h2 : id = M
      · subst h2; simp at hl; exact .inr (.inr ⟨rfl, hl.symm⟩)
      · have : (1 : Nat) ≤ id - M := by omega
        rw [List.getElem?_eq_none (by simpa using this)] at hl; cases hl
  have hA' : ∀ id, id < M → id < M + 1 ∧ mvR M (ρ j) ρ id = ρ id := fun id hid => ⟨by omega, mvR_lt hid⟩
  have hI : ∀ b, Im Γ ρ s w b → Im Γ (mvR M (ρ j) ρ) ⟨s.tmps, ((s.objs.set j none).set i (some (.arr k' [.agg (cs.set f (.ref M k 0 m))]))) ++ [some (.arr k es)]⟩ w b ∧ w.heap[b]? = w.heap[b]? := by
    rintro b ⟨h1, h2, h3⟩
    refine ⟨⟨h1, h2, fun id o hl => ?_⟩, rfl⟩
    rcases hlv id o hl with ⟨q, hq, _, _⟩ | ⟨rfl, _⟩ | ⟨rfl, _⟩
    · rw [mvR_lt hq]; exact h3 id o q
    · rw [mvR_lt hiM]; exact h3 _ _ hi
    · rw [mvR_M]; exact h3 _ _ hj
  refine h.turn rfl hA' hI (fun _ _ hn => hn) ?_ ?_ ?_ ?_ ?_ h.fr
  · intro id o hl
    rcases hlv id o hl with ⟨q, hq, _, _⟩ | ⟨rfl, rfl⟩ | ⟨rfl, rfl⟩
    · rw [mvR_lt hq]
      exact (h.obj id o q).mono hA' hI (fun _ _ hn => hn) (fun _ _ => rfl)
    · rw [mvR_lt hiM]
      have ho := h.obj _ _ hi
      cases hr : ρ id with
      | none =>
        rw [hr] at ho
        rcases ho with q | ⟨k, q⟩ <;> cases q
      | some b =>
        rw [hr] at ho
        obtain ⟨c0, t0, q1, q2, q3, q4, q5⟩ := ho
        have hfl : flat [AV.agg cs] = cs := by simp [flat, AV.cells]
        have hfl2 : flat [AV.agg (cs.set f (.ref M k 0 m))] = cs.set f (.ref M k 0 m) := by simp [flat, AV.cells]
        rw [hfl] at q2 q4 q5
        refine ⟨c0, t0, q1, by rw [hfl2, List.length_set]; exact q2, fun e he => ?_, fun p v hp hv => ?_, fun p x v hx hv => ?_⟩
        · rw [List.mem_singleton] at he
          subst he
          have := q3 (.agg cs) (by simp)
          simpa [AV.cells] using this
        · rw [hfl2, List.length_set] at hp
          exact q4 p v hp hv
        · rw [hfl2, List.getElem?_set] at hx
          by_cases hpf : f = p
          · subst hpf
            have hlt : f < cs.length := (List.getElem?_eq_some_iff.1 hf).1
            simp only [if_true, hlt] at hx
            injection hx with hx
            subst hx
            have q6 := q5 f _ v hf hv
            cases q6 with
            | ref hA hb hl' hcs hm => exact .ref (Nat.lt_succ_self _) (by rw [mvR_M]; exact hb) hl' hcs hm
            | refn hA hb => exact .refn (Nat.lt_succ_self _) (by rw [mvR_M]; exact hb)
          · rw [if_neg hpf] at hx
            exact (q5 p x v hx hv).mono hA' hI (fun _ _ hn => hn)
    · rw [mvR_M]
      exact (h.obj _ _ hj).mono hA' hI (fun _ _ hn => hn) (fun _ _ => rfl)
  · intro id o hl
    rcases hlv id o hl with ⟨q, hq, _, _⟩ | ⟨rfl, rfl⟩ | ⟨rfl, rfl⟩ <;> omega
  · intro id hid; simp; omega
  · intro id o b hl hb
    rcases hlv id o hl with ⟨q, hq, _, _⟩ | ⟨rfl, rfl⟩ | ⟨rfl, rfl⟩
    · rw [mvR_lt hq] at hb; exact h.own id o b q hb
    · rw [mvR_lt hiM] at hb; exact h.own _ _ b hi hb
    · rw [mvR_M] at hb; exact h.own _ _ b hj hb
  · have key : ∀ id o b, St.live ⟨s.tmps, ((s.objs.set j none).set i (some (.arr k' [.agg (cs.set f (.ref M k 0 m))]))) ++ [some (.arr k es)]⟩ id o → mvR M (ρ j) ρ id = some b → ∃ o', s.live (if id = M then j else id) o' ∧ ρ (if id = M then j else id) = some b := by
      intro id o b hl hb
      rcases hlv id o hl with ⟨q, hq, _, _⟩ | ⟨rfl, rfl⟩ | ⟨rfl, rfl⟩
      · rw [mvR_lt hq] at hb; rw [if_neg (by omega)]; exact ⟨o, q, hb⟩
      · rw [mvR_lt hiM] at hb; rw [if_neg (by omega)]; exact ⟨_, hi, hb⟩
      · rw [mvR_M] at hb; rw [if_pos rfl]; exact ⟨_, hj, hb⟩
    intro id id' o o' b h1 h2 h3 h4
    obtain ⟨p1, p2, p3⟩ := key id o b h1 h3
    obtain ⟨q1, q2, q3⟩ := key id' o' b h2 h4
    have e := h.inj _ _ _ _ b p2 q2 p3 q3
    have nj : ∀ id o, St.live ⟨s.tmps, ((s.objs.set j none).set i (some (.arr k' [.agg (cs.set f (.ref M k 0 m))]))) ++ [some (.arr k es)]⟩ id o → id ≠ j := by
      intro id o hl
      rcases hlv id o hl with ⟨_, _, _, q⟩ | ⟨rfl, _⟩ | ⟨rfl, _⟩
      · exact q
      · exact hij
      · omega
    have n1 := nj id o h1
    have n2 := nj id' o' h2
    split at e <;> split at e <;> omega
end
theorem wp_mvr {P : Program} {Γ : Cx} {n M : Nat} {l : List (Nat × AV)} {os : List (Nat × Option AObj)} {c : Code} {Q : Exit → St → Prop} (i j f : Nat) {k k' m : Nat} {cs es : List AV} (hi : lookq M os i = some (.arr k' [.agg cs])) (hj : lookq M os j = some (.arr k es)) (hne : Nat.beq i j = false) (hf : cs[f]? = some (.ref j k 0 m))
    (hw : WP P Γ c Q (S n l (M + 1) ((M, some (.arr k es)) :: (i, some (.arr k' [.agg (cs.set f (.ref M k 0 m))])) :: (j, none) :: os))) : WP P Γ c Q (S n l M os) := fun a w hs => by
  refine hw a w ?_
  obtain ⟨ρ, hs⟩ := hs
  have hM : (S n l M os).objs.length = M := ol_length M os
  rw [hM] at hs
  have h := hs.moveR hM (i := i) (j := j) (f := f) (m := m) (cs := cs) (es := es) (k := k) (k' := k') (St.look_some.1 (by rw [S_look]; exact hi)) (St.look_some.1 (by rw [S_look]; exact hj)) (Nat.ne_of_beq_eq_false hne) hf
  have e : (⟨(S n l M os).tmps, (((S n l M os).objs.set j none).set i (some (.arr k' [.agg (cs.set f (.ref M k 0 m))]))) ++ [some (.arr k es)]⟩ : St) = S n l (M + 1) ((M, some (.arr k es)) :: (i, some (.arr k' [.agg (cs.set f (.ref M k 0 m))])) :: (j, none) :: os) := by
    simp only [S, ol_set, ol_push]
  rw [e] at h
  refine ⟨mvR M (ρ j) ρ, ?_⟩
  have e2 : (S n l (M + 1) ((M, some (.arr k es)) :: (i, some (.arr k' [.agg (cs.set f (.ref M k 0 m))])) :: (j, none) :: os)).objs.length = M + 1 := ol_length _ _
  rw [e2]; exact h
theorem wp_nile {P : Program} {Γ : Cx} {n M : Nat} {l : List (Nat × AV)} {os : List (Nat × Option AObj)} {c : Code} {Q : Exit → St → Prop} (ido k : Nat) (pre post : List AV) {k' : Nat} (hob : lookq M os ido = some (.arr k' (pre ++ .val (.slice none 0 0) :: post)))
    (hw : WP P Γ c Q (S n l M ((ido, some (.arr k' (pre ++ .sl k [] :: post))) :: os))) : WP P Γ c Q (S n l M os) := fun a w hs => by
  refine hw a w ?_
  obtain ⟨ρ, hs⟩ := hs
  have hlook := St.look_some.1 (by rw [S_look]; exact hob : (S n l M os).look ido = some (.arr k' (pre ++ .val (.slice none 0 0) :: post)))
  have hwide : ∀ e, e ∈ pre ++ .val (.slice none 0 0) :: post → e.cells.length = k' := by
    have := hs.obj ido _ hlook
    cases hr : ρ ido with
    | none => rw [hr] at this; obtain ⟨_, h2⟩ := this.resolve_left (by simp); simp at h2
    | some b => rw [hr] at this; obtain ⟨_, _, _, _, h3, _⟩ := this; exact h3
  have f1 : flat (pre ++ .val (.slice none 0 0) :: post) = flat pre ++ .val (.slice none 0 0) :: flat post := by simp [flat, AV.cells]
  have f2 : flat (pre ++ .sl k [] :: post) = flat pre ++ .sl k [] :: flat post := by simp [flat, AV.cells]
  have h2 := hs.recell hlook (es' := pre ++ .sl k [] :: post) (by rw [f1, f2]; simp) (fun e he => by
      rcases List.mem_append.1 he with he | he
      · exact hwide e (by simp [he])
      · rcases List.mem_cons.1 he with rfl | he
        · have := hwide (.val (.slice none 0 0)) (by simp)
          simpa [AV.cells] using this
        · exact hwide e (by simp [he])) (by simp) (fun j x y hx hy v hv => by
    rw [f1] at hx
    rw [f2] at hy
    rcases Nat.lt_trichotomy j (flat pre).length with hj | hj | hj
    · rw [List.getElem?_append_left hj] at hx hy
      rw [hx] at hy; injection hy with hy; subst hy; exact hv
    · rw [List.getElem?_append_right (by omega), hj, Nat.sub_self] at hx hy
      simp only [List.getElem?_cons_zero, Option.some.injEq] at hx hy
      subst hx hy
      rw [hv.val_eq]
      exact .nils
    · obtain ⟨q, hq⟩ : ∃ q, j - (flat pre).length = q + 1 := ⟨j - (flat pre).length - 1, by omega⟩
      rw [List.getElem?_append_right (by omega), hq, List.getElem?_cons_succ] at hx hy
      rw [hx] at hy; injection hy with hy; subst hy; exact hv)
  refine ⟨ρ, ?_⟩
  have e : (S n l M os).set ido (some (.arr k' (pre ++ .sl k [] :: post))) = S n l M ((ido, some (.arr k' (pre ++ .sl k [] :: post))) :: os) := by simp [S, St.set, ol_set]
  rw [e] at h2
  simpa [S, ol_length] using h2
theorem wp_frze {P : Program} {Γ : Cx} {n M : Nat} {l : List (Nat × AV)} {os : List (Nat × Option AObj)} {c : Code} {Q : Exit → St → Prop} {id k len : Nat} {α : Type} {f : α → AV} {L : List α} (ido : Nat) (pre post : List AV) {k' : Nat} (hid : Nat.beq id ido = false) (hob : lookq M os ido = some (.arr k' (pre ++ .ref id k 0 len :: post)))
    (ho : lookq M os id = some (.arr k (L.map f))) (hl : L.length = len) (hb : ∀ x, (f x).bd 0 = true) (hk : ∀ x, (f x).cells.length = k)
    (hw : WP P Γ c Q (S n l M ((ido, some (.arr k' (pre ++ .sl k (L.map f) :: post))) :: (id, none) :: os))) : WP P Γ c Q (S n l M os) := fun a w hs => by
  refine hw a w ?_
  obtain ⟨ρ, hs⟩ := hs
  have h1 := hs.kill id
  have hne : id ≠ ido := Nat.ne_of_beq_eq_false hid
  have hlook := St.look_some.1 (by rw [S_look]; exact hob : (S n l M os).look ido = some (.arr k' (pre ++ .ref id k 0 len :: post)))
  have hob' : ((S n l M os).set id none).live ido (.arr k' (pre ++ .ref id k 0 len :: post)) := by
    have := hlook
    simp only [St.live, St.set_objs] at this ⊢
    rw [List.getElem?_set_ne hne]; exact this
  have hwide : ∀ e, e ∈ pre ++ .ref id k 0 len :: post → e.cells.length = k' := by
    have := hs.obj ido _ hlook
    cases hr : ρ ido with
    | none => rw [hr] at this; obtain ⟨_, h2⟩ := this.resolve_left (by simp); simp at h2
    | some b => rw [hr] at this; obtain ⟨_, _, _, _, h3, _⟩ := this; exact h3
  have f1 : flat (pre ++ .ref id k 0 len :: post) = flat pre ++ .ref id k 0 len :: flat post := by simp [flat, AV.cells]
  have f2 : flat (pre ++ .sl k (L.map f) :: post) = flat pre ++ .sl k (L.map f) :: flat post := by simp [flat, AV.cells]
  have h2 := h1.recell hob' (es' := pre ++ .sl k (L.map f) :: post) (by rw [f1, f2]; simp) (fun e he => by
      rcases List.mem_append.1 he with he | he
      · exact hwide e (by simp [he])
      · rcases List.mem_cons.1 he with rfl | he
        · have := hwide (.ref id k 0 len) (by simp)
          simpa [AV.cells] using this
        · exact hwide e (by simp [he])) (by simp) (fun j x y hx hy v hv => by
    rw [f1] at hx
    rw [f2] at hy
    rcases Nat.lt_trichotomy j (flat pre).length with hj | hj | hj
    · rw [List.getElem?_append_left hj] at hx hy
      rw [hx] at hy; injection hy with hy; subst hy; exact hv
    · rw [List.getElem?_append_right (by omega), hj, Nat.sub_self] at hx hy
      simp only [List.getElem?_cons_zero, Option.some.injEq] at hx hy
      subst hx hy
      exact hs.list1 (by rw [S_look]; exact ho) hl hb hk (hs.newb rfl rfl (St.look_some.1 (by rw [S_look]; exact ho))) hv
    · obtain ⟨q, hq⟩ : ∃ q, j - (flat pre).length = q + 1 := ⟨j - (flat pre).length - 1, by omega⟩
      rw [List.getElem?_append_right (by omega), hq, List.getElem?_cons_succ] at hx hy
      rw [hx] at hy; injection hy with hy; subst hy; exact hv)
  refine ⟨ρ, ?_⟩
  have e : ((S n l M os).set id none).set ido (some (.arr k' (pre ++ .sl k (L.map f) :: post))) = S n l M ((ido, some (.arr k' (pre ++ .sl k (L.map f) :: post))) :: (id, none) :: os) := by simp [S, St.set, ol_set]
  rw [e] at h2
  simpa [S, ol_length] using h2
theorem se_store_n {P : Program} {n M : Nat} {l : List (Nat × AV)} {os : List (Nat × Option AObj)} {ty : TypeId} {a b : Operand} {y : AV} {pos : String} {af : Array Edge} {ops : Array Oper} {rest : List Oper} {K : St → Prop} {α : Type} [Inhabited α] {f : α → AV} {L : List α} {ti : TI} {id k i j : Nat} {ed' : AV} [ht : TIc P ty ti] (ha : opq n l a = some (.ptr id k i j)) (ho : lookq M os id = some (.arr k (L.map f))) (hi : i < L.length) (hb : opq n l b = some y) (hs : splice ti (f (nth L i)) j y = some ed') {ty2 : TypeId}
    (hk : asemC P ops rest (S n l M ((id, some (.arr k ((L.map f).set i ed'))) :: os)) K) : asemC P ops (⟨none, .store ty a b, ty2, pos, af, none⟩ :: rest) (S n l M os) K :=
  se_store ha ho (map_nth hi) hb hs hk
end Go.Lg

namespace Go.Lg
open Go.Proofs
set_option linter.unusedSimpArgs false
set_option linter.unusedVariables false
attribute [local irreducible] Ap Rq asemC WP RunD Ret Gq thenA inBlockA bodyQ noGotoA RqL RqP OpP
set_option maxHeartbeats 8000000
set_option maxRecDepth 20000
attribute [local simp] AV.cells
def newA : List Rul → AV
  | [] => .val (.slice none 0 0)
  | r :: l => .sl 3 ((r :: l).map ruleA)
@[simp] theorem newA_bd (n : Nat) (l : List Rul) : (newA l).bd n = true := by
  cases l with
  | nil => rfl
  | cons b l => exact bdL_map (fun _ => by simp) _
@[simp] theorem newAs_bd (n : Nat) (l : List (List Rul)) : bdL n (l.map newA) = true := bdL_map (newA_bd n) l
theorem ren_newAs (π : Nat → Nat) (l : List (List Rul)) : renL π (l.map newA) = l.map newA := renL_pure (newAs_bd 0 l)
end Go.Lg

namespace Go.Lg
open Go.Proofs
set_option linter.unusedSimpArgs false
set_option linter.unusedVariables false
attribute [local irreducible] Ap Rq asemC WP RunD Ret Gq thenA inBlockA bodyQ noGotoA RqL RqP OpP
set_option maxHeartbeats 8000000
set_option maxRecDepth 20000
attribute [local simp] AV.cells
end Go.Lg

namespace Go.Lg
open Go.Proofs
set_option linter.unusedSimpArgs false
set_option linter.unusedVariables false
attribute [local irreducible] Ap Rq asemC WP RunD Ret Gq thenA inBlockA bodyQ noGotoA RqL RqP OpP
set_option maxHeartbeats 8000000
set_option maxRecDepth 20000
attribute [local simp] AV.cells
def HM (f : GFi) (terms : List ByteArray) (T : List (List (List Bool))) (s : List Int) (e : GEx) (M : Nat → Nat → Bool) : Prop :=
  ∀ i k : Nat, i ≤ k → k ≤ s.length → Fn Tryd.prog 40 [fileA f, strsA terms, tabLA T, intsA s, exprA e, intA (i : Nat), intA (k : Nat)] (boolA (M i k))
theorem star_fn (f : GFi) (terms : List ByteArray) (T : List (List (List Bool))) (s : List Int) (hs : s.length ≤ 1000000) (e : GEx) (M : Nat → Nat → Bool) (hM : HM f terms T s e M) : ∀ (N i k : Nat), k - i = N → i ≤ k → k ≤ s.length →
    Fn Tryd.prog 56 [fileA f, strsA terms, tabLA T, intsA s, exprA e, intA (i : Nat), intA (k : Nat)] (boolA (starT M i k)) := by
  intro N
  induction N using Nat.strongRecOn with
  | _ N ih =>
  intro i k hN hik hk
  refine Fn.intro rfl (by kernel_rfl) Tryd.func56 rfl rfl Tryd.ntmps56 (by exact Nat.le_of_ble_eq_true rfl) ?_; intro Γ hm
  by_cases h0 : i = k
  · subst h0
    (repeat' (first | apply jA | apply jF | apply jH | apply jI | apply jK | apply jM | apply jS | (refine wp_cond rfl (fun hc => ?_) (fun hc => ?_) <;> (try simp only [sB, ne_eq, reduceCtorEq] at hc) <;> (try (exfalso; omega))) | (refine WP.regionC (id := 0) ?_; (refine se_box rfl (by exact ⟨rfl, rfl⟩) ?_); (refine se_box rfl (by exact ⟨rfl, rfl⟩) ?_); (refine sassign rfl ?_); apply jW) | (refine WP.regionC (id := 1) ?_; (refine smove rfl ?_); (refine smove rfl ?_); (refine seql rfl rfl ?_); apply jW) | (refine WP.regionC (id := 2) ?_; (refine sassign rfl ?_); apply jW) | (refine WP.regionC (id := 3) ?_; (refine smove rfl ?_); (refine sadd rfl rfl (by exact inr_i64_of (by omega)) ?_); (refine sassign rfl ?_); apply jW) | refine ret_b rfl ?_))
    · rw [starT_refl]
    · exact absurd trivial hc
  · (repeat' (first | apply jA | apply jF | apply jH | apply jI | (refine wp_cond rfl (fun hc => ?_) (fun hc => ?_) <;> (try simp only [sB, ne_eq, reduceCtorEq] at hc) <;> (try (exfalso; omega))) | (refine WP.regionC (id := 0) ?_; (refine se_box rfl (by exact ⟨rfl, rfl⟩) ?_); (refine se_box rfl (by exact ⟨rfl, rfl⟩) ?_); (refine sassign rfl ?_); apply jW) | (refine WP.regionC (id := 1) ?_; (refine smove rfl ?_); (refine smove rfl ?_); (refine seql rfl rfl ?_); apply jW) | (refine WP.regionC (id := 3) ?_; (refine smove rfl ?_); (refine sadd rfl rfl (by exact inr_i64_of (by omega)) ?_); (refine sassign rfl ?_); apply jW)))
    refine wp_loop (fun m => (i + 1 ≤ m ∧ m ≤ k + 1) ∧ ∀ d, i + 1 + d < m → (M i (i + 1 + d) && starT M (i + 1 + d) k) = false) (fun m => k + 1 - m)
      (fun m => (S 44 [(1, strsA terms), (2, tabLA T), (3, intsA s), (5, intA (i : Nat)), (6, intA (k : Nat)), (7, .ptr 0 3 0 0), (11, .ptr 1 3 0 0), (15, intA (m : Nat))] 2 [(0, some (.arr 3 [fileA f])), (1, some (.arr 3 [exprA e]))])) (i + 1) ⟨[0, 1], ToR.S rfl (by repeat' (first | exact rt_nil | refine rt_t rfl rfl ?_ | refine rt_e rfl rfl ?_ | refine rt_p rfl rfl (by first | (simp [AV.bd, bdL, bdL_append]; done) | fail) ?_)) (by repeat' (first | exact ro_nil | refine ro_p rfl (by first | exact rfl | fail) (by first | (simp [bdL, bdL_append, AV.bd]; done) | fail) ?_)) rfl (by (rw [hm]; exact rfl)) rfl (by (simp [bdT, AV.bd, bdL, bdL_append]; done)) (by repeat' (first | exact True.intro | refine And.intro ?_ ?_ | (simp [bdOq, bdL, bdL_append, AV.bd]; done))) (by (rw [hm]; exact Nat.le_of_ble_eq_true rfl))⟩ ⟨by omega, fun d hd => by omega⟩ ?_
    rintro m ⟨⟨hm1, hm2⟩, hm3⟩
    by_cases hmk : m ≤ k
    · have c1 := hM i m (by omega) (by omega)
      have c2 := ih (k - m) (by omega) m k rfl hmk hk
      (repeat' (first | apply jA | apply jF | apply jH | apply jI | apply jK | apply jM | apply jN | apply jO | apply jS | (refine wp_cond rfl (fun hc => ?_) (fun hc => ?_) <;> (try simp only [sB, ne_eq, reduceCtorEq] at hc) <;> (try (exfalso; omega))) | (refine WP.regionC (id := 4) ?_; (refine smove rfl ?_); (refine smove rfl ?_); (refine su (aleq rfl rfl) ?_); apply jW) | (refine WP.regionC (id := 6) ?_; (refine sloadpw rfl rfl rfl rfl ?_); (refine smove rfl ?_); (refine smove rfl ?_); (refine smove rfl ?_); (refine sloadpw rfl rfl rfl rfl ?_); (refine smove rfl ?_); (refine smove rfl ?_); (refine sc_p rfl rfl (by first | ((repeat' first | exact SubL.nil | refine SubL.cons ?_ ?_ | exact Sub.refl); done) | fail) (by first | (simp [bdL, bdL_append, AV.bd]; done) | fail) (c1) ?_); (refine smove rfl ?_); (refine sg (gq_vt rfl rfl) (fun he => ap_load_pw (rq_p rfl rfl) rfl rfl rfl) ?_); (refine sg (gq_vt rfl rfl) (fun he => ap_move (rq_p rfl rfl)) ?_); (refine sg (gq_vt rfl rfl) (fun he => ap_move (rq_p rfl rfl)) ?_); (refine sg (gq_vt rfl rfl) (fun he => ap_move (rq_p rfl rfl)) ?_); (refine sg (gq_vt rfl rfl) (fun he => ap_load_pw (rq_p rfl rfl) rfl rfl rfl) ?_); (refine sg (gq_vt rfl rfl) (fun he => ap_move (rq_p rfl rfl)) ?_); (refine sg (gq_vt rfl rfl) (fun he => ap_move (rq_p rfl rfl)) ?_); (refine sg_p (gq_vt rfl rfl) (fun he => ⟨(rq_p rfl rfl), (RqL.cons (rq_c rfl rfl) (RqL.cons (rq_c rfl rfl) (RqL.cons (rq_c rfl rfl) (RqL.cons (rq_c rfl rfl) (RqL.cons (rq_c rfl rfl) (RqL.cons (rq_c rfl rfl) (RqL.cons (rq_c rfl rfl) (RqL.nil)))))))), (by first | ((repeat' first | exact SubL.nil | refine SubL.cons ?_ ?_ | exact Sub.refl); done) | fail), (by first | (simp [bdL, bdL_append, AV.bd]; done) | fail), c2⟩) ?_); (refine su (ap_and (rq_p rfl rfl) (rq_c rfl rfl)) ?_); apply jW) | (refine WP.regionC (id := 7) ?_; (refine sassign rfl ?_); apply jW) | (refine WP.regionC (id := 5) ?_; (refine smove rfl ?_); (refine sadd rfl rfl (by exact inr_i64_of (by omega)) ?_); (refine sassign rfl ?_); apply jW) | refine ret_b rfl ?_))
      · rw [starT_eq (by omega)]
        symm
        rw [List.any_eq_true]
        refine ⟨m - (i + 1), List.mem_range.2 (by omega), ?_⟩
        rw [show i + 1 + (m - (i + 1)) = m by omega]
        simpa using hc
      · refine ⟨m + 1, ⟨by omega, by omega, fun d hd => ?_⟩, ⟨[0, 1], ToR.S rfl (by repeat' (first | exact rt_nil | refine rt_t rfl rfl ?_ | refine rt_e rfl rfl ?_ | refine rt_p rfl rfl (by first | (simp [AV.bd, bdL, bdL_append]; done) | fail) ?_)) (by repeat' (first | exact ro_nil | refine ro_p rfl (by first | exact rfl | fail) (by first | (simp [bdL, bdL_append, AV.bd]; done) | fail) ?_)) rfl (by (rw [hm]; exact rfl)) rfl (by (simp [bdT, AV.bd, bdL, bdL_append]; done)) (by repeat' (first | exact True.intro | refine And.intro ?_ ?_ | (simp [bdOq, bdL, bdL_append, AV.bd]; done))) (by (rw [hm]; exact Nat.le_of_ble_eq_true rfl))⟩⟩
        by_cases e : i + 1 + d = m
        · rw [e]
          have hc' : M i m = false ∨ starT M m k = false := hc
          rcases hc' with h | h <;> simp [h]
        · exact hm3 d (by omega)
    · (repeat' (first | apply jA | apply jH | apply jJ | apply jK | apply jL | apply jP | apply jS | (refine wp_cond rfl (fun hc => ?_) (fun hc => ?_) <;> (try simp only [sB, ne_eq, reduceCtorEq] at hc) <;> (try (exfalso; omega))) | (refine WP.regionC (id := 4) ?_; (refine smove rfl ?_); (refine smove rfl ?_); (refine su (aleq rfl rfl) ?_); apply jW) | (refine WP.regionC (id := 8) ?_; (refine sassign rfl ?_); apply jW) | refine ret_b rfl ?_))
      rw [starT_eq (by omega)]
      symm
      rw [List.any_eq_false]
      intro d hd
      have hd := List.mem_range.1 hd
      rw [hm3 d (by omega)]; simp
theorem seq_fn (f : GFi) (terms : List ByteArray) (T : List (List (List Bool))) (s : List Int) (hs : s.length ≤ 1000000) (nm : List ByteArray) : ∀ (l : List GEx), (∀ x, x ∈ l → HM f terms T s x (mtE (tbL T) nm terms s x)) → ∀ (i k : Nat), i ≤ k → k ≤ s.length →
    Fn Tryd.prog 55 [fileA f, strsA terms, tabLA T, intsA s, .sl 3 (l.map exprA), intA (i : Nat), intA (k : Nat)] (boolA (mtS (tbL T) nm terms s l i k)) := by
  intro l
  induction l with
  | nil =>
    intro _ i k hik hk
    refine Fn.intro rfl (by kernel_rfl) Tryd.func55 rfl rfl Tryd.ntmps55 (by exact Nat.le_of_ble_eq_true rfl) ?_; intro Γ hm
    (repeat' (first | apply jA | apply jF | apply jH | apply jI | apply jK | apply jM | apply jS | (refine wp_cond rfl (fun hc => ?_) (fun hc => ?_) <;> (try simp only [sB, ne_eq, reduceCtorEq] at hc) <;> (try (exfalso; omega))) | (refine WP.regionC (id := 0) ?_; (refine se_box rfl (by exact ⟨rfl, rfl⟩) ?_); (refine sassign rfl ?_); apply jW) | (refine WP.regionC (id := 1) ?_; (refine smove rfl ?_); (refine slenm rfl rfl ?_); (refine seql rfl rfl ?_); apply jW) | (refine WP.regionC (id := 2) ?_; (refine smove rfl ?_); (refine smove rfl ?_); (refine seql rfl rfl ?_); (refine sassign rfl ?_); apply jW) | (refine WP.regionC (id := 3) ?_; (refine smove rfl ?_); (refine sassign rfl ?_); apply jW) | refine ret_b rfl ?_))
    · rw [mtS]; simp; omega
    · exact absurd rfl hc
  | cons x xs ih =>
    intro hx i k hik hk
    have hx0 := hx x (by simp)
    have ih := ih fun y hy => hx y (by simp [hy])
    refine Fn.intro rfl (by kernel_rfl) Tryd.func55 rfl rfl Tryd.ntmps55 (by exact Nat.le_of_ble_eq_true rfl) ?_; intro Γ hm
    refine wp_lens 4 rfl fun hl => ?_
    have hl : xs.length + 1 ≤ 9223372036854775807 := by have := hl.1; simpa using this
    have hcl : (x :: xs).length = xs.length + 1 := rfl
    (repeat' (first | apply jA | apply jF | apply jH | apply jI | (refine wp_cond rfl (fun hc => ?_) (fun hc => ?_) <;> (try simp only [sB, ne_eq, reduceCtorEq] at hc) <;> (try (exfalso; omega))) | (refine WP.regionC (id := 0) ?_; (refine se_box rfl (by exact ⟨rfl, rfl⟩) ?_); (refine sassign rfl ?_); apply jW) | (refine WP.regionC (id := 1) ?_; (refine smove rfl ?_); (refine slenm rfl rfl ?_); (refine seql rfl rfl ?_); apply jW) | (refine WP.regionC (id := 3) ?_; (refine smove rfl ?_); (refine sassign rfl ?_); apply jW)))
    refine wp_loop (fun m => (i ≤ m ∧ m ≤ k + 1) ∧ ∀ d, i + d < m → (mtE (tbL T) nm terms s x i (i + d) && mtS (tbL T) nm terms s xs (i + d) k) = false) (fun m => k + 1 - m)
      (fun m => (S 49 [(1, strsA terms), (2, tabLA T), (3, intsA s), (4, .sl 3 ((x :: xs).map exprA)), (5, intA (i : Nat)), (6, intA (k : Nat)), (7, .ptr 0 3 0 0), (15, intA (m : Nat))] 1 [(0, some (.arr 3 [fileA f]))])) i ⟨[0], ToR.S rfl (by repeat' (first | exact rt_nil | refine rt_t rfl rfl ?_ | refine rt_e rfl rfl ?_ | refine rt_p rfl rfl (by first | (simp [AV.bd, bdL, bdL_append]; done) | fail) ?_)) (by repeat' (first | exact ro_nil | refine ro_p rfl (by first | exact rfl | fail) (by first | (simp [bdL, bdL_append, AV.bd]; done) | fail) ?_)) rfl (by (rw [hm]; exact rfl)) rfl (by (simp [bdT, AV.bd, bdL, bdL_append]; done)) (by repeat' (first | exact True.intro | refine And.intro ?_ ?_ | (simp [bdOq, bdL, bdL_append, AV.bd]; done))) (by (rw [hm]; exact Nat.le_of_ble_eq_true rfl))⟩ ⟨by omega, fun d hd => by omega⟩ ?_
    rintro m ⟨⟨hm1, hm2⟩, hm3⟩
    by_cases hmk : m ≤ k
    · have c1 := hx0 i m (by omega) (by omega)
      have c2 : Fn Tryd.prog 55 [fileA f, strsA terms, tabLA T, intsA s, .sl 3 ((((x :: xs).take ((((x :: xs).map exprA).length : Nat) : Int).toNat).drop (1 : Int).toNat).map exprA), intA (m : Nat), intA (k : Nat)] (boolA (mtS (tbL T) nm terms s xs m k)) := by
        have e : (((x :: xs).take ((((x :: xs).map exprA).length : Nat) : Int).toNat).drop (1 : Int).toNat) = xs := by simp
        rw [e]; exact ih m k (by omega) hk
      (repeat' (first | apply jA | apply jF | apply jH | apply jI | apply jK | apply jM | apply jN | apply jO | apply jS | (refine wp_cond rfl (fun hc => ?_) (fun hc => ?_) <;> (try simp only [sB, ne_eq, reduceCtorEq] at hc) <;> (try (exfalso; omega))) | (refine WP.regionC (id := 4) ?_; (refine smove rfl ?_); (refine smove rfl ?_); (refine su (aleq rfl rfl) ?_); apply jW) | (refine wp_draw (id := 6) 21 mixed (by kernel_rfl) (by kernel_rfl) rfl ?_ <;> (refine rd_u rfl rfl (aloadpw rfl rfl rfl rfl) ?_) <;> (refine rmove rfl ?_) <;> (refine rmove rfl ?_) <;> (refine rmove rfl ?_) <;> (refine rmove rfl ?_) <;> (refine rd_u rfl rfl (aidxn rfl rfl (by (simp only [sL] <;> omega))) ?_) <;> (refine rd_u rfl rfl (aloadw rfl rfl) ?_) <;> (refine rmove rfl ?_) <;> (refine rmove rfl ?_) <;> (refine rd_call rfl rfl (by first | ((repeat' first | exact SubL.nil | refine SubL.cons ?_ ?_ | exact Sub.refl); done) | fail) (by first | (simp [bdL, bdL_append, AV.bd]; done) | fail) (c1) ?_) <;> (refine rmove rfl ?_) <;> ((refine rd_split (t := 38) rfl (fun hc => ?_) (fun hc => ?_) <;> (try simp only [sB, ne_eq, reduceCtorEq] at hc) <;> (try (exfalso; omega)) <;> (first | refine rd_skip rfl rfl ?_ | refine rdg_u rfl rfl rfl rfl (aloadpw rfl rfl rfl rfl) ?_))) <;> (first | refine rd_skip rfl rfl ?_ | refine gmove rfl rfl rfl ?_) <;> (first | refine rd_skip rfl rfl ?_ | refine gmove rfl rfl rfl ?_) <;> (first | refine rd_skip rfl rfl ?_ | refine gmove rfl rfl rfl ?_) <;> (first | refine rd_skip rfl rfl ?_ | refine gmove rfl rfl rfl ?_) <;> (first | refine rd_skip rfl rfl ?_ | refine rdg_u rfl rfl rfl rfl (ap_slice_m (rq_p rfl rfl) (by exact bq_some (rq_p rfl rfl)) (by exact bq_none) (by (simp only [sL] <;> omega))) ?_) <;> (first | refine rd_skip rfl rfl ?_ | refine gmove rfl rfl rfl ?_) <;> (first | refine rd_skip rfl rfl ?_ | refine gmove rfl rfl rfl ?_) <;> (first | refine rd_skip rfl rfl ?_ | refine rdg_call rfl rfl rfl rfl (by first | ((repeat' first | exact SubL.nil | refine SubL.cons ?_ ?_ | exact Sub.refl); done) | fail) (by first | (simp [bdL, bdL_append, AV.bd]; done) | fail) (c2) ?_) <;> (first | refine rd_pick_t rfl rfl ?_ | refine rd_pick_f rfl rfl ?_) <;> (refine rd_end (by kernel_rfl) ?_)) | (refine WP.regionC (id := 7) ?_; (refine sassign rfl ?_); apply jW) | (refine WP.regionC (id := 5) ?_; (refine smove rfl ?_); (refine sadd rfl rfl (by exact inr_i64_of (by omega)) ?_); (refine sassign rfl ?_); apply jW) | refine ret_b rfl ?_))
      · rw [mtS]
        symm
        rw [List.any_eq_true]
        refine ⟨m - i, List.mem_range.2 (by omega), ?_⟩
        rw [show i + (m - i) = m by omega]
        simp [*]
      all_goals
        refine ⟨m + 1, ⟨by omega, by omega, fun d hd => ?_⟩, ⟨[0], ToR.S rfl (by repeat' (first | exact rt_nil | refine rt_t rfl rfl ?_ | refine rt_e rfl rfl ?_ | refine rt_p rfl rfl (by first | (simp [AV.bd, bdL, bdL_append]; done) | fail) ?_)) (by repeat' (first | exact ro_nil | refine ro_p rfl (by first | exact rfl | fail) (by first | (simp [bdL, bdL_append, AV.bd]; done) | fail) ?_)) rfl (by (rw [hm]; exact rfl)) rfl (by (simp [bdT, AV.bd, bdL, bdL_append]; done)) (by repeat' (first | exact True.intro | refine And.intro ?_ ?_ | (simp [bdOq, bdL, bdL_append, AV.bd]; done))) (by (rw [hm]; exact Nat.le_of_ble_eq_true rfl))⟩⟩
        by_cases e : i + d = m
        · rw [e]
          simp [*]
        · exact hm3 d (by omega)
    · (repeat' (first | apply jA | apply jH | apply jJ | apply jK | apply jL | apply jP | apply jS | (refine wp_cond rfl (fun hc => ?_) (fun hc => ?_) <;> (try simp only [sB, ne_eq, reduceCtorEq] at hc) <;> (try (exfalso; omega))) | (refine WP.regionC (id := 4) ?_; (refine smove rfl ?_); (refine smove rfl ?_); (refine su (aleq rfl rfl) ?_); apply jW) | (refine WP.regionC (id := 8) ?_; (refine sassign rfl ?_); apply jW) | refine ret_b rfl ?_))
      rw [mtS]
      symm
      rw [List.any_eq_false]
      intro d hd
      have hd := List.mem_range.1 hd
      rw [hm3 d (by omega)]; simp
end Go.Lg

namespace Go.Lg
theorem sym_ok (d : DEn) (n : ByteArray) (s : DSt) : (d.sym n s).2.ok = (s.ok && !decide (idx (d.names ++ d.terms) n < 0)) := by
  have h1 := idx_any d.names n
  have h2 := idx_any d.terms n
  have h3 := idx_any (d.names ++ d.terms) n
  rw [List.any_append, h1, h2] at h3
  unfold DEn.sym
  by_cases a : 0 ≤ idx d.names n
  · rw [if_pos a]
    have : decide (idx d.names n < 0) = false := decide_eq_false (by omega)
    rw [this] at h3
    rw [← h3]
    simp
  · rw [if_neg a]
    have : decide (idx d.names n < 0) = true := decide_eq_true (by omega)
    rw [this] at h3
    rw [← h3]
    simp only [Bool.not_true, Bool.false_or]
    congr 1
    by_cases b : 0 ≤ idx d.terms n
    · simp [b, show ¬ idx d.terms n < 0 by omega]
    · simp [b, show idx d.terms n < 0 by omega]
theorem okK_one {k : Int} {n : ByteArray} {m : Nat} (h : okK k n m = true) (h1 : k = 1) : m = 0 := by
  subst h1
  unfold okK at h
  simp at h
  exact h.2
theorem okK_more {k : Int} {n : ByteArray} {m : Nat} (h : okK k n m = true) (h1 : k ≠ 1) (h2 : k ≠ 2) (h3 : k ≠ 3) : m = 1 ∧ (k = 4 ∨ k = 5 ∨ k = 6) := by
  unfold okK at h
  simp [h1, h2, h3] at h
  omega
theorem knownE_eq (l : List ByteArray) (e : GEx) : knownE l e = (!(decide (e.kind = 1) && decide (idx l e.name < 0)) && e.kids.all (knownE l)) := by cases e; rw [knownE_mk]; rfl
theorem symE_ok (d : DEn) (e : GEx) : ∀ dd : Int, okE e dd = true → ∀ s : DSt, (d.symE e s).2.ok = (s.ok && knownE (d.names ++ d.terms) e) := by
  induction e using GEx.ind with
  | h e ih =>
    intro dd he s
    rw [okE_eq] at he
    simp only [Bool.and_eq_true, List.all_eq_true, decide_eq_true_eq] at he
    have hL : ∀ l : List GEx, (∀ x, x ∈ l → x ∈ e.kids) → ∀ s : DSt, (d.symL l s).2.ok = (s.ok && l.all (knownE (d.names ++ d.terms))) := by
      intro l
      induction l with
      | nil => intro _ s; rw [DEn.symL]; simp
      | cons x l ihl =>
        intro hl s
        rw [DEn.symL]
        simp only
        rw [ihl (fun y hy => hl y (by simp [hy])), ih x (hl x (by simp)) _ (he.2 x (hl x (by simp))), List.all_cons, Bool.and_assoc]
    rw [knownE_eq, DEn.symE_eq]
    by_cases h1 : e.kind = 1
    · have hk : e.kids = [] := List.eq_nil_of_length_eq_zero (okK_one he.1.2 h1)
      rw [if_pos h1, hk]
      simp only [sym_ok, h1, decide_true, Bool.true_and, List.all_nil, Bool.and_true]
    · rw [if_neg h1]
      by_cases h2 : e.kind = 2
      · rw [if_pos h2]
        simp only [hL e.kids (fun _ h => h), h1, decide_false, Bool.false_and, Bool.not_false, Bool.true_and]
      · rw [if_neg h2]
        simp only [hL e.kids (fun _ h => h), h1, decide_false, Bool.false_and, Bool.not_false, Bool.true_and, DEn.start]
theorem daltTo_ok (d : DEn) (i : Nat) (x : DRes) (l : List GAl) (hl : ∀ a, a ∈ l → ∃ dd, okE a.body dd = true) : ∀ k, k ≤ l.length → (daltTo d i x l k).st.ok = (x.st.ok && (l.take k).all fun a => knownE (d.names ++ d.terms) a.body)
  | 0, _ => by simp [daltTo]
  | k + 1, h => by
    obtain ⟨dd, hdd⟩ := hl _ (nth_mem (l := l) (k := k) (by omega))
    rw [take_succ_nth (by omega), List.all_append]
    simp only [daltTo, stepA]
    rw [symE_ok d _ dd hdd, daltTo_ok d i x l hl k (by omega)]
    simp [Bool.and_assoc]
def kRule (f : GFi) (terms : List ByteArray) (r : GRu) : Bool := r.alts.all fun a => knownE (ruleNames f ++ terms) a.body
theorem drulTo_ok (f : GFi) (terms : List ByteArray) (hf : ∀ r, r ∈ f.rules → ∀ a, a ∈ r.alts → ∃ dd, okE a.body dd = true) : ∀ k, k ≤ f.rules.length → (drulTo f terms k).st.ok = (f.rules.take k).all (kRule f terms)
  | 0, _ => by simp [drulTo]
  | k + 1, h => by
    have hr : (drulTo f terms k).reset.st.ok = (drulTo f terms k).st.ok := rfl
    rw [take_succ_nth (by omega), List.all_append]
    simp only [drulTo]
    rw [daltTo_ok _ _ _ _ (hf _ (nth_mem (by omega))) _ (Nat.le_refl _), hr, drulTo_ok f terms hf k (by omega), List.take_length]
    simp [kRule, envOf, ruleNames]
theorem valid_ok {f : GFi} (h : validF f = true) : ∀ r, r ∈ f.rules → ∀ a, a ∈ r.alts → ∃ dd, okE a.body dd = true := by
  intro r hr a ha
  unfold validF at h
  simp only [Bool.and_eq_true] at h
  have h1 := List.all_eq_true.1 h.1.1.1.1.2 r hr
  unfold gruleOk at h1
  simp only [Bool.and_eq_true] at h1
  have h2 := List.all_eq_true.1 h1.2 a ha
  unfold altOk at h2
  simp only [Bool.and_eq_true] at h2
  exact ⟨_, h2.2⟩
end Go.Lg

namespace Go.Lg
open Go.Proofs
set_option linter.unusedSimpArgs false
set_option linter.unusedVariables false
attribute [local irreducible] Ap Rq asemC WP RunD Ret Gq thenA inBlockA bodyQ noGotoA RqL RqP OpP
set_option maxHeartbeats 4000000
set_option maxRecDepth 20000
def rowsA (l : List (List Int)) : AV := .sl 1 (l.map intsA)
def bodA : List (List Int) → AV
  | [] => .val (.slice none 0 0)
  | b :: l => .sl 1 ((b :: l).map intsA)
theorem bodA_some {l : List (List Int)} (h : l ≠ []) : bodA l = .sl 1 (l.map intsA) := by cases l with | nil => exact absurd rfl h | cons b l => rfl
def extraA (x : ByteArray × List (List Int)) : AV := .agg [strA x.1, bodA x.2]
def mkA (d : DEn) (s : DSt) (r : Nat) : AObj := .arr 6 [.agg [strsA d.terms, strsA d.names, strA d.rule, intA s.count, .ref r 2 0 s.extra.length, boolA s.ok]]
def rowA (s : DSt) : AObj := .arr 2 (s.extra.map extraA)
@[simp] theorem rowsA_bd (n : Nat) (l : List (List Int)) : (rowsA l).bd n = true := bdL_map (fun _ => by simp) _
@[simp] theorem bodA_bd (n : Nat) (l : List (List Int)) : (bodA l).bd n = true := by
  cases l with
  | nil => rfl
  | cons b l => exact bdL_map (fun _ => by simp) _
@[simp] theorem extraA_bd (n : Nat) (x : ByteArray × List (List Int)) : (extraA x).bd n = true := by simp [extraA, AV.bd, bdL]
@[simp] theorem extras_bd (n : Nat) (l : List (ByteArray × List (List Int))) : bdL n (l.map extraA) = true := bdL_map (extraA_bd n) l
@[simp] theorem ints_bd (n : Nat) (l : List (List Int)) : bdL n (l.map intsA) = true := bdL_map (fun _ => by simp) _
theorem ren_extras (π : Nat → Nat) (l : List (ByteArray × List (List Int))) : renL π (l.map extraA) = l.map extraA := renL_pure (extras_bd 0 l)
theorem ren_rows (π : Nat → Nat) (l : List (List Int)) : renL π (l.map intsA) = l.map intsA := renL_pure (ints_bd 0 l)
attribute [local simp] mkA rowA
theorem idx_bd (l : List ByteArray) (s : ByteArray) (h : l.length ≤ 9223372036854775807) : -1 ≤ idx l s ∧ idx l s ≤ 9223372036854775806 := by
  unfold idx indexP
  cases hf : l.findIdx? fun x => decide (s = x) with
  | none => simp only; omega
  | some i =>
    have := (List.findIdx?_eq_some_iff_getElem.1 hf).1
    simp only; omega
theorem symbol_fn (d : DEn) (s : DSt) (n : ByteArray) (h1 : d.terms.length ≤ 9223372036854775807) (h2 : d.names.length ≤ 9223372036854775807) :
    FnO Tryd.prog 43 [.ptr 0 6 0 0, strA n] [mkA d s 1, rowA s] (intA (d.sym n s).1) [some (mkA d (d.sym n s).2 1), some (rowA s)] := by
  have b1 := idx_bd d.terms n h1
  have b2 := idx_bd d.names n h2
  unfold mkA rowA
  refine FnO.intro (by exact Nat.le_of_ble_eq_true rfl) rfl (by kernel_rfl) Tryd.func43 rfl rfl Tryd.ntmps43 (by exact Nat.le_of_ble_eq_true rfl) ?_; intro Γ hm
  by_cases hi : 0 ≤ idx d.names n
  · have e : d.sym n s = (-1 - idx d.names n, s) := by unfold DEn.sym; rw [if_pos hi]
    rw [e]
    (repeat' (first | apply jA | apply jH | apply jK | apply jM | apply jS | (refine wp_cond rfl (fun hc => ?_) (fun hc => ?_) <;> (try simp only [sB, ne_eq, reduceCtorEq] at hc) <;> (try (exfalso; omega))) | (refine WP.regionC (id := 0) ?_; (refine sassign rfl ?_); apply jW) | (refine WP.regionC (id := 1) ?_; (refine smove rfl ?_); (refine snilc rfl ?_); (refine sfieldp rfl rfl rfl ?_); (refine sloadp rfl rfl rfl rfl ?_); (refine smove rfl ?_); (refine sc_p rfl rfl (by first | ((repeat' first | exact SubL.nil | refine SubL.cons ?_ ?_ | exact Sub.refl); done) | fail) (by first | (simp [bdL, bdL_append, AV.bd]; done) | fail) (index_fn _ _) ?_); (refine sassign rfl ?_); apply jW) | (refine WP.regionC (id := 2) ?_; (refine smove rfl ?_); (refine su (ageq rfl rfl) ?_); apply jW) | (refine WP.regionC (id := 3) ?_; (refine smove rfl ?_); (refine su (asub rfl rfl (by exact inr_i64_of (by omega))) ?_); (refine sassign rfl ?_); apply jW)))
    refine retO_L (x := intA (-1 - idx d.names n)) (k := 2) (os1 := [(0, some (mkA d s 1)), (1, some (rowA s))]) (.tmp rfl .nil) rfl ⟨[0, 1], ToR.S rfl (by repeat' (first | exact rt_nil | refine rt_e rfl rfl ?_)) (by repeat' (first | exact ro_nil | refine ro_p rfl (by first | exact rfl | fail) (by first | exact bdL_map (fun _ => by simp [AV.bd, bdL, bdL_append]) _ | fail) ?_ | refine ro_e rfl (by simp only [renL, AV.ren, ren_strsA, ren_intsA]; exact rfl) ?_)) rfl rfl rfl (by (simp [bdT, AV.bd, bdL, bdL_append]; done)) (by repeat' (first | exact True.intro | refine And.intro ?_ ?_ | exact bdL_map (fun _ => by simp [AV.bd, bdL, bdL_append]) _ | (simp [bdOq, bdL, bdL_append, AV.bd]; done))) (by exact Nat.le_of_ble_eq_true rfl)⟩ rfl
  · have e : d.sym n s = (max (idx d.terms n) 0, ⟨s.count, s.extra, s.ok && decide (0 ≤ idx d.terms n)⟩) := by unfold DEn.sym; rw [if_neg hi]
    rw [e]
    (repeat' (first | apply jA | apply jH | apply jI | apply jK | apply jS | (refine wp_cond rfl (fun hc => ?_) (fun hc => ?_) <;> (try simp only [sB, ne_eq, reduceCtorEq] at hc) <;> (try (exfalso; omega))) | (refine WP.regionC (id := 0) ?_; (refine sassign rfl ?_); apply jW) | (refine WP.regionC ?_; (refine smove rfl ?_); (refine snilc rfl ?_); (refine sfieldp rfl rfl rfl ?_); (refine sloadp rfl rfl rfl rfl ?_); (refine smove rfl ?_); (refine sc_p rfl rfl (by first | ((repeat' first | exact SubL.nil | refine SubL.cons ?_ ?_ | exact Sub.refl); done) | fail) (by first | (simp [bdL, bdL_append, AV.bd]; done) | fail) (index_fn _ _) ?_); (refine sassign rfl ?_); apply jW) | (refine WP.regionC (id := 2) ?_; (refine smove rfl ?_); (refine su (ageq rfl rfl) ?_); apply jW) | (refine WP.regionC (id := 5) ?_; (refine smove rfl ?_); (refine smove rfl ?_); (refine snilc rfl ?_); (refine sfieldp rfl rfl rfl ?_); (refine sloadp rfl rfl rfl rfl ?_); (refine smove rfl ?_); (refine sg (gq_vt rfl rfl) (fun he => ap_move (rq_p rfl rfl)) ?_); (refine sg (gq_vt rfl rfl) (fun he => ap_geq (rq_c rfl rfl) (rq_p rfl rfl)) ?_); (refine su (ap_and (rq_p rfl rfl) (rq_c rfl rfl)) ?_); (refine snilc rfl ?_); (refine sfieldp rfl rfl rfl ?_); (refine se_store_b rfl rfl rfl rfl ?_); apply jW) | (refine WP.regionC (id := 6) ?_; (refine smove rfl ?_); (refine su (amax rfl rfl) ?_); (refine sassign rfl ?_); apply jW)))
    refine retO_L (x := intA (max (idx d.terms n) 0)) (k := 2) (os1 := [(0, some (mkA d ⟨s.count, s.extra, s.ok && decide (0 ≤ idx d.terms n)⟩ 1)), (1, some (rowA s))]) (.tmp rfl .nil) rfl ⟨[0, 1], ToR.S rfl (by repeat' (first | exact rt_nil | refine rt_e rfl rfl ?_)) (by repeat' (first | exact ro_nil | refine ro_p rfl (by first | exact rfl | fail) (by first | exact bdL_map (fun _ => by simp [AV.bd, bdL, bdL_append]) _ | fail) ?_ | refine ro_e rfl (by simp only [renL, AV.ren, ren_strsA, ren_intsA]; exact rfl) ?_)) rfl rfl rfl (by (simp [bdT, AV.bd, bdL, bdL_append]; done)) (by repeat' (first | exact True.intro | refine And.intro ?_ ?_ | exact bdL_map (fun _ => by simp [AV.bd, bdL, bdL_append]) _ | (simp [bdOq, bdL, bdL_append, AV.bd]; done))) (by exact Nat.le_of_ble_eq_true rfl)⟩ rfl
end Go.Lg

namespace Go.Lg
open Go.Proofs
set_option linter.unusedSimpArgs false
set_option linter.unusedVariables false
attribute [local irreducible] Ap Rq asemC WP RunD Ret Gq thenA inBlockA bodyQ noGotoA RqL RqP OpP
set_option maxHeartbeats 8000000
set_option maxRecDepth 20000
attribute [local simp] AV.cells
theorem indexP_bd2 {α : Type} (p : α → Bool) (l : List α) : -1 ≤ indexP p l ∧ indexP p l < l.length := by
  unfold indexP
  cases h : l.findIdx? p with
  | none => simp; omega
  | some i => rw [List.findIdx?_eq_some_iff_getElem] at h; obtain ⟨hi, _⟩ := h; simp; omega
theorem matches_fn (f : GFi) (hf : f.rules.length ≤ 100000) (terms : List ByteArray) (ht : terms.length ≤ 100000) (T : List (List (List Bool))) (s : List Int) (hd : Dim T f.rules.length (s.length + 1)) (hs : s.length ≤ 1000000) (e : GEx) :
    (∃ dd, okE e dd = true) → HM f terms T s e (mtE (tbL T) (ruleNames f) terms s e) := by
  induction e using GEx.ind with
  | h e ih =>
  cases e with
  | mk kd nm l =>
  intro hok i k hik hk
  have hkids : ∀ x, x ∈ l → HM f terms T s x (mtE (tbL T) (ruleNames f) terms s x) := fun x hx => ih x hx (by
    obtain ⟨dd, h⟩ := hok
    rw [okE_eq] at h
    simp only [Bool.and_eq_true, List.all_eq_true] at h
    exact ⟨_, h.2 x hx⟩)
  have hkk : kd ≠ 1 → kd ≠ 2 → kd ≠ 3 → l.length = 1 ∧ (kd = 4 ∨ kd = 5 ∨ kd = 6) := fun h1 h2 h3 => by
    obtain ⟨dd, h⟩ := hok
    rw [okE_eq] at h
    simp only [Bool.and_eq_true] at h
    exact okK_more h.1.2 h1 h2 h3
  clear ih hok
  rw [exprA_mkJ, mtE]
  have hrl : (ruleNames f).length = f.rules.length := by simp [ruleNames]
  have hT0 := hd.len
  by_cases h1 : kd = 1
  · rw [if_pos h1]
    have hr := rules19_fn f hf
    have hi1 := index19_fn (ruleNames f) nm
    have hi2 := index19_fn terms nm
    have hb1 := idx_bd (ruleNames f) nm (by omega)
    have hb1' : idx (ruleNames f) nm < (ruleNames f).length := (indexP_bd2 (fun x => decide (nm = x)) (ruleNames f)).2
    by_cases h0 : 0 ≤ idx (ruleNames f) nm
    · have hr1 := hd.r (idx (ruleNames f) nm).toNat (by omega)
      have hr2 := hd.c (idx (ruleNames f) nm).toNat i (by omega) (by omega)
      rw [if_pos h0]
      refine Fn.intro rfl (by kernel_rfl) Tryd.func40 rfl rfl Tryd.ntmps40 (by exact Nat.le_of_ble_eq_true rfl) ?_; intro Γ hm
      (repeat' (first | apply jA | apply jF | apply jH | apply jK | apply jM | apply jO | apply jS | (refine wp_cond rfl (fun hc => ?_) (fun hc => ?_) <;> (try simp only [sB, ne_eq, reduceCtorEq] at hc) <;> (try (exfalso; omega))) | (refine WP.regionC (id := 0) ?_; (refine se_box rfl (by exact ⟨rfl, rfl⟩) ?_); (refine se_box rfl (by exact ⟨rfl, rfl⟩) ?_); (refine sassign rfl ?_); apply jW) | (refine WP.regionC (id := 1) ?_; (refine sfieldp rfl rfl rfl ?_); (refine sloadp rfl rfl rfl rfl ?_); apply jW) | (refine WP.regionC (id := 2) ?_; (refine seql rfl rfl ?_); (refine sassign rfl ?_); apply jW) | (refine wp_draw (id := 3) 6 mixed (by kernel_rfl) (by kernel_rfl) rfl ?_ <;> (refine rd_u rfl rfl (aloadpw rfl rfl rfl rfl) ?_) <;> (refine rd_call rfl rfl (by first | ((repeat' first | exact SubL.nil | refine SubL.cons ?_ ?_ | exact Sub.refl); done) | fail) (by first | (simp [bdL, bdL_append, AV.bd]; done) | fail) (hr) ?_) <;> (refine rfieldp rfl rfl rfl ?_) <;> (refine rloadp rfl rfl rfl rfl ?_) <;> (refine rd_call rfl rfl (by first | ((repeat' first | exact SubL.nil | refine SubL.cons ?_ ?_ | exact Sub.refl); done) | fail) (by first | (simp [bdL, bdL_append, AV.bd]; done) | fail) (hi1) ?_) <;> (refine rd_u rfl rfl (aassign rfl) ?_) <;> (refine rd_end (by kernel_rfl) ?_)) | (refine WP.regionC (id := 4) ?_; (refine smove rfl ?_); (refine su (ageq rfl rfl) ?_); apply jW) | (refine WP.regionC (id := 5) ?_; (refine smove rfl ?_); (refine smove rfl ?_); (refine su (aidxz rfl rfl (by omega)) ?_); (refine sloadw rfl rfl ?_); (refine smove rfl ?_); (refine sidxn rfl rfl (by omega) ?_); (refine sloadw rfl rfl ?_); (refine smove rfl ?_); (refine sidxn rfl rfl (by omega) ?_); (refine sloadw rfl rfl ?_); (refine sassign rfl ?_); apply jW) | exact ret_eq rfl rfl rfl))
    · rw [if_neg h0]
      refine Fn.intro rfl (by kernel_rfl) Tryd.func40 rfl rfl Tryd.ntmps40 (by exact Nat.le_of_ble_eq_true rfl) ?_; intro Γ hm
      (repeat' (first | apply jA | apply jF | apply jH | apply jI | apply jK | apply jM | apply jO | apply jS | (refine wp_cond rfl (fun hc => ?_) (fun hc => ?_) <;> (try simp only [sB, ne_eq, reduceCtorEq] at hc) <;> (try (exfalso; omega))) | (refine WP.regionC (id := 0) ?_; (refine se_box rfl (by exact ⟨rfl, rfl⟩) ?_); (refine se_box rfl (by exact ⟨rfl, rfl⟩) ?_); (refine sassign rfl ?_); apply jW) | (refine WP.regionC (id := 1) ?_; (refine sfieldp rfl rfl rfl ?_); (refine sloadp rfl rfl rfl rfl ?_); apply jW) | (refine WP.regionC (id := 2) ?_; (refine seql rfl rfl ?_); (refine sassign rfl ?_); apply jW) | (refine wp_draw (id := 3) 6 mixed (by kernel_rfl) (by kernel_rfl) rfl ?_ <;> (refine rd_u rfl rfl (aloadpw rfl rfl rfl rfl) ?_) <;> (refine rd_call rfl rfl (by first | ((repeat' first | exact SubL.nil | refine SubL.cons ?_ ?_ | exact Sub.refl); done) | fail) (by first | (simp [bdL, bdL_append, AV.bd]; done) | fail) (hr) ?_) <;> (refine rfieldp rfl rfl rfl ?_) <;> (refine rloadp rfl rfl rfl rfl ?_) <;> (refine rd_call rfl rfl (by first | ((repeat' first | exact SubL.nil | refine SubL.cons ?_ ?_ | exact Sub.refl); done) | fail) (by first | (simp [bdL, bdL_append, AV.bd]; done) | fail) (hi1) ?_) <;> (refine rd_u rfl rfl (aassign rfl) ?_) <;> (refine rd_end (by kernel_rfl) ?_)) | (refine WP.regionC (id := 4) ?_; (refine smove rfl ?_); (refine su (ageq rfl rfl) ?_); apply jW) | (refine wp_draw (id := 6) 16 mixed (by kernel_rfl) (by kernel_rfl) rfl ?_ <;> (refine rmove rfl ?_) <;> (refine rmove rfl ?_) <;> (refine rd_u rfl rfl (aadd rfl rfl (by exact inr_i64_of (by omega))) ?_) <;> (refine rd_u rfl rfl (aeql rfl rfl) ?_) <;> (refine rmove rfl ?_) <;> ((refine rd_split (t := 43) rfl (fun hc => ?_) (fun hc => ?_) <;> (try simp only [sB, ne_eq, reduceCtorEq] at hc) <;> (try (exfalso; omega)) <;> (first | refine rd_skip rfl rfl ?_ | refine gmove rfl rfl rfl ?_))) <;> (first | refine rd_skip rfl rfl ?_ | refine gmove rfl rfl rfl ?_) <;> (first | refine rd_skip rfl rfl ?_ | refine rdg_u rfl rfl rfl rfl (aidxn rfl rfl (by omega)) ?_) <;> (first | refine rd_skip rfl rfl ?_ | refine rdg_u rfl rfl rfl rfl (aloadw rfl rfl) ?_) <;> (first | refine rd_skip rfl rfl ?_ | refine gmove rfl rfl rfl ?_) <;> (first | refine rd_skip rfl rfl ?_ | refine gfieldp rfl rfl rfl rfl rfl ?_) <;> (first | refine rd_skip rfl rfl ?_ | refine gloadp rfl rfl rfl rfl rfl rfl ?_) <;> (first | refine rd_skip rfl rfl ?_ | refine rdg_call rfl rfl rfl rfl (by first | ((repeat' first | exact SubL.nil | refine SubL.cons ?_ ?_ | exact Sub.refl); done) | fail) (by first | (simp [bdL, bdL_append, AV.bd]; done) | fail) (hi2) ?_) <;> (first | refine rd_skip rfl rfl ?_ | refine rdg_u rfl rfl rfl rfl (aeql rfl rfl) ?_) <;> (first | refine rd_pick_t rfl rfl ?_ | refine rd_pick_f rfl rfl ?_) <;> (refine rd_u rfl rfl (aassign rfl) ?_) <;> (refine rd_end (by kernel_rfl) ?_)) | refine ret_b rfl ?_))
      · have e : k = i + 1 := by omega
        simp [e]
      · have e : ¬ k = i + 1 := by omega
        simp [e]
  rw [if_neg h1]
  by_cases h2 : kd = 2
  · rw [if_pos h2]
    have hc1 := seq_fn f terms T s hs (ruleNames f) l hkids i k hik hk
    refine Fn.intro rfl (by kernel_rfl) Tryd.func40 rfl rfl Tryd.ntmps40 (by exact Nat.le_of_ble_eq_true rfl) ?_; intro Γ hm
    (repeat' (first | apply jA | apply jF | apply jH | apply jK | apply jM | apply jO | apply jS | (refine wp_cond rfl (fun hc => ?_) (fun hc => ?_) <;> (try simp only [sB, ne_eq, reduceCtorEq] at hc) <;> (try (exfalso; omega))) | (refine WP.regionC (id := 0) ?_; (refine se_box rfl (by exact ⟨rfl, rfl⟩) ?_); (refine se_box rfl (by exact ⟨rfl, rfl⟩) ?_); (refine sassign rfl ?_); apply jW) | (refine WP.regionC (id := 1) ?_; (refine sfieldp rfl rfl rfl ?_); (refine sloadp rfl rfl rfl rfl ?_); apply jW) | (refine WP.regionC ?_; (refine seql rfl rfl ?_); (refine sassign rfl ?_); apply jW) | (refine WP.regionC (id := 8) ?_; (refine sloadpw rfl rfl rfl rfl ?_); (refine smove rfl ?_); (refine smove rfl ?_); (refine smove rfl ?_); (refine sfieldp rfl rfl rfl ?_); (refine sloadp rfl rfl rfl rfl ?_); (refine smove rfl ?_); (refine smove rfl ?_); (refine sc_p rfl rfl (by first | ((repeat' first | exact SubL.nil | refine SubL.cons ?_ ?_ | exact Sub.refl); done) | fail) (by first | (simp [bdL, bdL_append, AV.bd]; done) | fail) (hc1) ?_); (refine sassign rfl ?_); apply jW) | exact ret_eq rfl rfl rfl))
  rw [if_neg h2]
  by_cases h3 : kd = 3
  · rw [if_pos h3, mtA_any]
    have hM : ∀ x, x ∈ l → Fn Tryd.prog 40 [fileA f, strsA terms, tabLA T, intsA s, exprA x, intA (i : Nat), intA (k : Nat)] (boolA (mtE (tbL T) (ruleNames f) terms s x i k)) := fun x hx => hkids x hx i k hik hk
    refine Fn.intro rfl (by kernel_rfl) Tryd.func40 rfl rfl Tryd.ntmps40 (by exact Nat.le_of_ble_eq_true rfl) ?_; intro Γ hm
    refine wp_lens 4 rfl fun hl => ?_
    have hl : l.length ≤ 9223372036854775807 := by have := hl; simp [AV.lens, lensL] at this; omega
    (repeat' (first | apply jA | apply jF | apply jH | (refine wp_cond rfl (fun hc => ?_) (fun hc => ?_) <;> (try simp only [sB, ne_eq, reduceCtorEq] at hc) <;> (try (exfalso; omega))) | (refine WP.regionC (id := 0) ?_; (refine se_box rfl (by exact ⟨rfl, rfl⟩) ?_); (refine se_box rfl (by exact ⟨rfl, rfl⟩) ?_); (refine sassign rfl ?_); apply jW) | (refine WP.regionC (id := 1) ?_; (refine sfieldp rfl rfl rfl ?_); (refine sloadp rfl rfl rfl rfl ?_); apply jW) | (refine WP.regionC ?_; (refine seql rfl rfl ?_); (refine sassign rfl ?_); apply jW) | (refine WP.regionC (id := 10) ?_; (refine sassign rfl ?_); apply jW)))
    refine wp_loop (fun n => n ≤ l.length ∧ (l.take n).any (fun e => mtE (tbL T) (ruleNames f) terms s e i k) = false) (fun n => l.length - n)
      (fun n => (S 147 [(1, strsA terms), (2, tabLA T), (3, intsA s), (5, intA (i : Nat)), (6, intA (k : Nat)), (7, .ptr 0 3 0 0), (11, .ptr 1 3 0 0), (16, intA (n : Nat))] 2 [(0, some (.arr 3 [fileA f])), (1, some (.arr 3 [.agg [intA kd, strA nm, .sl 3 (l.map exprA)]]))])) 0 ⟨[0, 1], ToR.S rfl (by repeat' (first | exact rt_nil | refine rt_t rfl rfl ?_ | refine rt_e rfl rfl ?_ | refine rt_p rfl rfl (by first | (simp [AV.bd, bdL, bdL_append]; done) | fail) ?_)) (by repeat' (first | exact ro_nil | refine ro_p rfl (by first | exact rfl | fail) (by first | (simp [bdL, bdL_append, AV.bd]; done) | fail) ?_)) rfl (by (rw [hm]; exact rfl)) rfl (by (simp [bdT, AV.bd, bdL, bdL_append]; done)) (by repeat' (first | exact True.intro | refine And.intro ?_ ?_ | (simp [bdOq, bdL, bdL_append, AV.bd]; done))) (by (rw [hm]; exact Nat.le_of_ble_eq_true rfl))⟩ ⟨Nat.zero_le _, rfl⟩ ?_
    rintro n ⟨hn, hall⟩
    by_cases hnl : n < l.length
    · (repeat' (first | apply jA | apply jF | apply jH | apply jI | apply jK | apply jM | apply jN | apply jO | apply jS | (refine wp_cond rfl (fun hc => ?_) (fun hc => ?_) <;> (try simp only [sB, ne_eq, reduceCtorEq] at hc) <;> (try (exfalso; omega))) | (refine WP.regionC (id := 11) ?_; (refine smove rfl ?_); (refine sfieldp rfl rfl rfl ?_); (refine sloadp rfl rfl rfl rfl ?_); (refine slenm rfl rfl ?_); (refine slss rfl rfl ?_); apply jW) | (refine wp_draw (id := 13) 12 mixed (by kernel_rfl) (by kernel_rfl) rfl ?_ <;> (refine rd_u rfl rfl (aloadpw rfl rfl rfl rfl) ?_) <;> (refine rmove rfl ?_) <;> (refine rmove rfl ?_) <;> (refine rmove rfl ?_) <;> (refine rfieldp rfl rfl rfl ?_) <;> (refine rloadp rfl rfl rfl rfl ?_) <;> (refine rmove rfl ?_) <;> (refine rd_u rfl rfl (aidxn rfl rfl (by omega)) ?_) <;> (refine rd_u rfl rfl (aloadw rfl rfl) ?_) <;> (refine rmove rfl ?_) <;> (refine rmove rfl ?_) <;> (refine rd_call rfl rfl (by first | ((repeat' first | exact SubL.nil | refine SubL.cons ?_ ?_ | exact Sub.refl); done) | fail) (by first | (simp [bdL, bdL_append, AV.bd]; done) | fail) (hM _ (nth_mem (by omega))) ?_) <;> (refine rd_end (by kernel_rfl) ?_)) | (refine WP.regionC (id := 14) ?_; (refine sassign rfl ?_); apply jW) | (refine WP.regionC (id := 12) ?_; (refine smove rfl ?_); (refine sadd rfl rfl (by exact inr_i64_of (by omega)) ?_); (refine sassign rfl ?_); apply jW) | refine ret_b rfl ?_))
      · symm
        rw [List.any_eq_true]
        exact ⟨_, nth_mem hnl, by simpa using hc⟩
      · refine ⟨n + 1, ⟨by omega, by omega, take_any_succ hnl hall (by simpa using hc)⟩, ⟨[0, 1], ToR.S rfl (by repeat' (first | exact rt_nil | refine rt_t rfl rfl ?_ | refine rt_e rfl rfl ?_ | refine rt_p rfl rfl (by first | (simp [AV.bd, bdL, bdL_append]; done) | fail) ?_)) (by repeat' (first | exact ro_nil | refine ro_p rfl (by first | exact rfl | fail) (by first | (simp [bdL, bdL_append, AV.bd]; done) | fail) ?_)) rfl (by (rw [hm]; exact rfl)) rfl (by (simp [bdT, AV.bd, bdL, bdL_append]; done)) (by repeat' (first | exact True.intro | refine And.intro ?_ ?_ | (simp [bdOq, bdL, bdL_append, AV.bd]; done))) (by (rw [hm]; exact Nat.le_of_ble_eq_true rfl))⟩⟩
    · (repeat' (first | apply jA | apply jH | apply jJ | apply jK | apply jL | apply jM | apply jO | apply jP | apply jS | (refine wp_cond rfl (fun hc => ?_) (fun hc => ?_) <;> (try simp only [sB, ne_eq, reduceCtorEq] at hc) <;> (try (exfalso; omega))) | (refine WP.regionC (id := 11) ?_; (refine smove rfl ?_); (refine sfieldp rfl rfl rfl ?_); (refine sloadp rfl rfl rfl rfl ?_); (refine slenm rfl rfl ?_); (refine slss rfl rfl ?_); apply jW) | (refine WP.regionC (id := 15) ?_; (refine sassign rfl ?_); apply jW) | refine ret_b rfl ?_))
      rw [List.take_of_length_le (by omega)] at hall
      exact hall.symm
  rw [if_neg h3]
  obtain ⟨hl1, h456⟩ := hkk h1 h2 h3
  have hl0 : 0 < l.length := by omega
  have hH : mtH (tbL T) (ruleNames f) terms s l = mtE (tbL T) (ruleNames f) terms s (nth l (nat_lit 0)) := by funext i k; exact mtH_eq hl0 i k
  rw [hH]
  have hM0 : HM f terms T s (nth l (nat_lit 0)) (mtE (tbL T) (ruleNames f) terms s (nth l (nat_lit 0))) := hkids _ (nth_mem hl0)
  have hS0 := fun (i k : Nat) (hik : i ≤ k) (hk : k ≤ s.length) => star_fn f terms T s hs (nth l (nat_lit 0)) _ hM0 (k - i) i k rfl hik hk
  clear hkk hH hkids
  generalize mtE (tbL T) (ruleNames f) terms s (nth l (nat_lit 0)) = M at *
  by_cases h4 : kd = 4
  · rw [if_pos h4]
    have c1 := hM0 i k hik hk
    by_cases h0 : i = k
    · refine Fn.intro rfl (by kernel_rfl) Tryd.func40 rfl rfl Tryd.ntmps40 (by exact Nat.le_of_ble_eq_true rfl) ?_; intro Γ hm
      (repeat' (first | apply jA | apply jF | apply jH | apply jK | apply jM | apply jO | apply jS | (refine wp_cond rfl (fun hc => ?_) (fun hc => ?_) <;> (try simp only [sB, ne_eq, reduceCtorEq] at hc) <;> (try (exfalso; omega))) | (refine WP.regionC (id := 0) ?_; (refine se_box rfl (by exact ⟨rfl, rfl⟩) ?_); (refine se_box rfl (by exact ⟨rfl, rfl⟩) ?_); (refine sassign rfl ?_); apply jW) | (refine WP.regionC (id := 1) ?_; (refine sfieldp rfl rfl rfl ?_); (refine sloadp rfl rfl rfl rfl ?_); apply jW) | (refine WP.regionC ?_; (refine seql rfl rfl ?_); (refine sassign rfl ?_); apply jW) | (refine wp_draw (id := 17) 17 mixed (by kernel_rfl) (by kernel_rfl) rfl ?_ <;> (refine rmove rfl ?_) <;> (refine rmove rfl ?_) <;> (refine rd_u rfl rfl (aeql rfl rfl) ?_) <;> (refine rmove rfl ?_) <;> ((refine rd_split (t := 91) rfl (fun hc => ?_) (fun hc => ?_) <;> (try simp only [sB, ne_eq, reduceCtorEq] at hc) <;> (try (exfalso; omega)) <;> (refine rd_skip rfl rfl ?_))) <;> (refine rd_skip rfl rfl ?_) <;> (refine rd_skip rfl rfl ?_) <;> (refine rd_skip rfl rfl ?_) <;> (refine rd_skip rfl rfl ?_) <;> (refine rd_skip rfl rfl ?_) <;> (refine rd_skip rfl rfl ?_) <;> (refine rd_skip rfl rfl ?_) <;> (refine rd_skip rfl rfl ?_) <;> (refine rd_skip rfl rfl ?_) <;> (refine rd_skip rfl rfl ?_) <;> (refine rd_pick_t rfl rfl ?_) <;> (refine rd_u rfl rfl (aassign rfl) ?_) <;> (refine rd_end (by kernel_rfl) ?_)) | refine ret_b rfl ?_))
      all_goals simp [h0]
    · refine Fn.intro rfl (by kernel_rfl) Tryd.func40 rfl rfl Tryd.ntmps40 (by exact Nat.le_of_ble_eq_true rfl) ?_; intro Γ hm
      (repeat' (first | apply jA | apply jF | apply jH | apply jK | apply jM | apply jO | apply jS | (refine wp_cond rfl (fun hc => ?_) (fun hc => ?_) <;> (try simp only [sB, ne_eq, reduceCtorEq] at hc) <;> (try (exfalso; omega))) | (refine WP.regionC (id := 0) ?_; (refine se_box rfl (by exact ⟨rfl, rfl⟩) ?_); (refine se_box rfl (by exact ⟨rfl, rfl⟩) ?_); (refine sassign rfl ?_); apply jW) | (refine WP.regionC (id := 1) ?_; (refine sfieldp rfl rfl rfl ?_); (refine sloadp rfl rfl rfl rfl ?_); apply jW) | (refine WP.regionC ?_; (refine seql rfl rfl ?_); (refine sassign rfl ?_); apply jW) | (refine wp_draw (id := 17) 17 mixed (by kernel_rfl) (by kernel_rfl) rfl ?_ <;> (refine rmove rfl ?_) <;> (refine rmove rfl ?_) <;> (refine rd_u rfl rfl (aeql rfl rfl) ?_) <;> (refine rmove rfl ?_) <;> ((refine rd_split (t := 91) rfl (fun hc => ?_) (fun hc => ?_) <;> (try simp only [sB, ne_eq, reduceCtorEq] at hc) <;> (try (exfalso; omega)) <;> (refine rdg_u rfl rfl rfl rfl (aloadpw rfl rfl rfl rfl) ?_))) <;> (refine gmove rfl rfl rfl ?_) <;> (refine gmove rfl rfl rfl ?_) <;> (refine gmove rfl rfl rfl ?_) <;> (refine gfieldp rfl rfl rfl rfl rfl ?_) <;> (refine gloadp rfl rfl rfl rfl rfl rfl ?_) <;> (refine rdg_u rfl rfl rfl rfl (aidxn rfl rfl (by omega)) ?_) <;> (refine rdg_u rfl rfl rfl rfl (aloadw rfl rfl) ?_) <;> (refine gmove rfl rfl rfl ?_) <;> (refine gmove rfl rfl rfl ?_) <;> (refine rdg_call rfl rfl rfl rfl (by first | ((repeat' first | exact SubL.nil | refine SubL.cons ?_ ?_ | exact Sub.refl); done) | fail) (by first | (simp [bdL, bdL_append, AV.bd]; done) | fail) (c1) ?_) <;> (refine rd_pick_f rfl rfl ?_) <;> (refine rd_u rfl rfl (aassign rfl) ?_) <;> (refine rd_end (by kernel_rfl) ?_)) | refine ret_b rfl ?_))
      all_goals simp [h0]
  rw [if_neg h4]
  by_cases h5 : kd = 5
  · rw [if_pos h5]
    have c1 := hS0 i k hik hk
    refine Fn.intro rfl (by kernel_rfl) Tryd.func40 rfl rfl Tryd.ntmps40 (by exact Nat.le_of_ble_eq_true rfl) ?_; intro Γ hm
    (repeat' (first | apply jA | apply jF | apply jH | apply jK | apply jM | apply jO | apply jS | (refine wp_cond rfl (fun hc => ?_) (fun hc => ?_) <;> (try simp only [sB, ne_eq, reduceCtorEq] at hc) <;> (try (exfalso; omega))) | (refine WP.regionC (id := 0) ?_; (refine se_box rfl (by exact ⟨rfl, rfl⟩) ?_); (refine se_box rfl (by exact ⟨rfl, rfl⟩) ?_); (refine sassign rfl ?_); apply jW) | (refine WP.regionC (id := 1) ?_; (refine sfieldp rfl rfl rfl ?_); (refine sloadp rfl rfl rfl rfl ?_); apply jW) | (refine WP.regionC ?_; (refine seql rfl rfl ?_); (refine sassign rfl ?_); apply jW) | (refine wp_draw (id := 19) 12 mixed (by kernel_rfl) (by kernel_rfl) rfl ?_ <;> (refine rd_u rfl rfl (aloadpw rfl rfl rfl rfl) ?_) <;> (refine rmove rfl ?_) <;> (refine rmove rfl ?_) <;> (refine rmove rfl ?_) <;> (refine rfieldp rfl rfl rfl ?_) <;> (refine rloadp rfl rfl rfl rfl ?_) <;> (refine rd_u rfl rfl (aidxn rfl rfl (by omega)) ?_) <;> (refine rd_u rfl rfl (aloadw rfl rfl) ?_) <;> (refine rmove rfl ?_) <;> (refine rmove rfl ?_) <;> (refine rd_call rfl rfl (by first | ((repeat' first | exact SubL.nil | refine SubL.cons ?_ ?_ | exact Sub.refl); done) | fail) (by first | (simp [bdL, bdL_append, AV.bd]; done) | fail) (c1) ?_) <;> (refine rd_u rfl rfl (aassign rfl) ?_) <;> (refine rd_end (by kernel_rfl) ?_)) | exact ret_eq rfl rfl rfl))
  rw [if_neg h5]
  refine Fn.intro rfl (by kernel_rfl) Tryd.func40 rfl rfl Tryd.ntmps40 (by exact Nat.le_of_ble_eq_true rfl) ?_; intro Γ hm
  (repeat' (first | apply jA | apply jF | apply jH | apply jI | apply jN | (refine wp_cond rfl (fun hc => ?_) (fun hc => ?_) <;> (try simp only [sB, ne_eq, reduceCtorEq] at hc) <;> (try (exfalso; omega))) | (refine WP.regionC (id := 0) ?_; (refine se_box rfl (by exact ⟨rfl, rfl⟩) ?_); (refine se_box rfl (by exact ⟨rfl, rfl⟩) ?_); (refine sassign rfl ?_); apply jW) | (refine WP.regionC (id := 1) ?_; (refine sfieldp rfl rfl rfl ?_); (refine sloadp rfl rfl rfl rfl ?_); apply jW) | (refine WP.regionC ?_; (refine seql rfl rfl ?_); (refine sassign rfl ?_); apply jW) | (refine WP.regionC (id := 20) ?_; (refine smove rfl ?_); (refine sassign rfl ?_); apply jW)))
  refine wp_loop (fun m => (i ≤ m ∧ m ≤ k + 1) ∧ ∀ d, i + d < m → (M i (i + d) && starT M (i + d) k) = false) (fun m => k + 1 - m)
    (fun m => (S 147 [(1, strsA terms), (2, tabLA T), (3, intsA s), (5, intA (i : Nat)), (6, intA (k : Nat)), (7, .ptr 0 3 0 0), (11, .ptr 1 3 0 0), (17, intA (m : Nat))] 2 [(0, some (.arr 3 [fileA f])), (1, some (.arr 3 [.agg [intA kd, strA nm, .sl 3 (l.map exprA)]]))])) i ⟨[0, 1], ToR.S rfl (by repeat' (first | exact rt_nil | refine rt_t rfl rfl ?_ | refine rt_e rfl rfl ?_ | refine rt_p rfl rfl (by first | (simp [AV.bd, bdL, bdL_append]; done) | fail) ?_)) (by repeat' (first | exact ro_nil | refine ro_p rfl (by first | exact rfl | fail) (by first | (simp [bdL, bdL_append, AV.bd]; done) | fail) ?_)) rfl (by (rw [hm]; exact rfl)) rfl (by (simp [bdT, AV.bd, bdL, bdL_append]; done)) (by repeat' (first | exact True.intro | refine And.intro ?_ ?_ | (simp [bdOq, bdL, bdL_append, AV.bd]; done))) (by (rw [hm]; exact Nat.le_of_ble_eq_true rfl))⟩ ⟨by omega, fun d hd => by omega⟩ ?_
  rintro m ⟨⟨hm1, hm2⟩, hm3⟩
  by_cases hmk : m ≤ k
  · have c1 := hM0 i m (by omega) (by omega)
    have c2 := hS0 m k hmk hk
    (repeat' (first | apply jA | apply jF | apply jH | apply jI | apply jK | apply jM | apply jN | apply jO | apply jS | (refine wp_cond rfl (fun hc => ?_) (fun hc => ?_) <;> (try simp only [sB, ne_eq, reduceCtorEq] at hc) <;> (try (exfalso; omega))) | (refine WP.regionC (id := 21) ?_; (refine smove rfl ?_); (refine smove rfl ?_); (refine su (aleq rfl rfl) ?_); apply jW) | (refine wp_draw (id := 23) 24 mixed (by kernel_rfl) (by kernel_rfl) rfl ?_ <;> (refine rd_u rfl rfl (aloadpw rfl rfl rfl rfl) ?_) <;> (refine rmove rfl ?_) <;> (refine rmove rfl ?_) <;> (refine rmove rfl ?_) <;> (refine rfieldp rfl rfl rfl ?_) <;> (refine rloadp rfl rfl rfl rfl ?_) <;> (refine rd_u rfl rfl (aidxn rfl rfl (by omega)) ?_) <;> (refine rd_u rfl rfl (aloadw rfl rfl) ?_) <;> (refine rmove rfl ?_) <;> (refine rmove rfl ?_) <;> (refine rd_call rfl rfl (by first | ((repeat' first | exact SubL.nil | refine SubL.cons ?_ ?_ | exact Sub.refl); done) | fail) (by first | (simp [bdL, bdL_append, AV.bd]; done) | fail) (c1) ?_) <;> (refine rmove rfl ?_) <;> ((refine rd_split (t := 134) rfl (fun hc => ?_) (fun hc => ?_) <;> (try simp only [sB, ne_eq, reduceCtorEq] at hc) <;> (try (exfalso; omega)) <;> (first | refine rd_skip rfl rfl ?_ | refine rdg_u rfl rfl rfl rfl (aloadpw rfl rfl rfl rfl) ?_))) <;> (first | refine rd_skip rfl rfl ?_ | refine gmove rfl rfl rfl ?_) <;> (first | refine rd_skip rfl rfl ?_ | refine gmove rfl rfl rfl ?_) <;> (first | refine rd_skip rfl rfl ?_ | refine gmove rfl rfl rfl ?_) <;> (first | refine rd_skip rfl rfl ?_ | refine gfieldp rfl rfl rfl rfl rfl ?_) <;> (first | refine rd_skip rfl rfl ?_ | refine gloadp rfl rfl rfl rfl rfl rfl ?_) <;> (first | refine rd_skip rfl rfl ?_ | refine rdg_u rfl rfl rfl rfl (aidxn rfl rfl (by omega)) ?_) <;> (first | refine rd_skip rfl rfl ?_ | refine rdg_u rfl rfl rfl rfl (aloadw rfl rfl) ?_) <;> (first | refine rd_skip rfl rfl ?_ | refine gmove rfl rfl rfl ?_) <;> (first | refine rd_skip rfl rfl ?_ | refine gmove rfl rfl rfl ?_) <;> (first | refine rd_skip rfl rfl ?_ | refine rdg_call rfl rfl rfl rfl (by first | ((repeat' first | exact SubL.nil | refine SubL.cons ?_ ?_ | exact Sub.refl); done) | fail) (by first | (simp [bdL, bdL_append, AV.bd]; done) | fail) (c2) ?_) <;> (first | refine rd_pick_t rfl rfl ?_ | refine rd_pick_f rfl rfl ?_) <;> (refine rd_end (by kernel_rfl) ?_)) | (refine WP.regionC (id := 24) ?_; (refine sassign rfl ?_); apply jW) | (refine WP.regionC (id := 22) ?_; (refine smove rfl ?_); (refine sadd rfl rfl (by exact inr_i64_of (by omega)) ?_); (refine sassign rfl ?_); apply jW) | refine ret_b rfl ?_))
    · symm
      rw [List.any_eq_true]
      refine ⟨m - i, List.mem_range.2 (by omega), ?_⟩
      rw [show i + (m - i) = m by omega]
      simp [*]
    all_goals
      refine ⟨m + 1, ⟨by omega, by omega, fun d hd => ?_⟩, ⟨[0, 1], ToR.S rfl (by repeat' (first | exact rt_nil | refine rt_t rfl rfl ?_ | refine rt_e rfl rfl ?_ | refine rt_p rfl rfl (by first | (simp [AV.bd, bdL, bdL_append]; done) | fail) ?_)) (by repeat' (first | exact ro_nil | refine ro_p rfl (by first | exact rfl | fail) (by first | (simp [bdL, bdL_append, AV.bd]; done) | fail) ?_)) rfl (by (rw [hm]; exact rfl)) rfl (by (simp [bdT, AV.bd, bdL, bdL_append]; done)) (by repeat' (first | exact True.intro | refine And.intro ?_ ?_ | (simp [bdOq, bdL, bdL_append, AV.bd]; done))) (by (rw [hm]; exact Nat.le_of_ble_eq_true rfl))⟩⟩
      by_cases e : i + d = m
      · rw [e]
        simp [*]
      · exact hm3 d (by omega)
  · (repeat' (first | apply jA | apply jH | apply jJ | apply jK | apply jL | apply jP | apply jS | (refine wp_cond rfl (fun hc => ?_) (fun hc => ?_) <;> (try simp only [sB, ne_eq, reduceCtorEq] at hc) <;> (try (exfalso; omega))) | (refine WP.regionC (id := 21) ?_; (refine smove rfl ?_); (refine smove rfl ?_); (refine su (aleq rfl rfl) ?_); apply jW) | (refine WP.regionC (id := 25) ?_; (refine sassign rfl ?_); apply jW) | refine ret_b rfl ?_))
    symm
    rw [List.any_eq_false]
    intro d hd
    have hd := List.mem_range.1 hd
    rw [hm3 d (by omega)]; simp
end Go.Lg

namespace Go.Lg
theorem StarR.fold2 {M : Nat → Nat → Prop} {P : Nat → Prop} {i k : Nat} (h : StarR M i k) : (∀ a b, a ≤ b → b ≤ k → P a → M a b → P b) → P i → P k := by
  induction h with
  | refl => exact fun _ => id
  | step h1 h2 h3 ih => exact fun hP hp => ih hP (hP _ _ (by omega) h3.le hp h2)
theorem bdyP_append {R : Nat → Nat → Nat → Prop} {s : List Int} : ∀ {xs ys : List Int} {i k : Nat}, i ≤ k → (bdyP R s (xs ++ ys) i k ↔ ∃ m, i ≤ m ∧ m ≤ k ∧ bdyP R s xs i m ∧ bdyP R s ys m k)
  | [], ys, i, k, h => by
    simp only [List.nil_append, bdyP]
    exact ⟨fun h' => ⟨i, Nat.le_refl _, h, rfl, h'⟩, fun ⟨m, _, _, e, h'⟩ => e ▸ h'⟩
  | x :: xs, ys, i, k, h => by
    simp only [List.cons_append, bdyP]
    constructor
    · rintro (⟨h1, h2, h3, h4⟩ | ⟨h1, m, h2, h3, h4, h5⟩)
      · obtain ⟨m, a, b, c, d⟩ := (bdyP_append (by omega)).1 h4
        exact ⟨m, by omega, b, .inl ⟨h1, by omega, h3, c⟩, d⟩
      · obtain ⟨m', a, b, c, d⟩ := (bdyP_append h3).1 h5
        exact ⟨m', by omega, b, .inr ⟨h1, m, h2, a, h4, c⟩, d⟩
    · rintro ⟨m, a, b, (⟨h1, h2, h3, h4⟩ | ⟨h1, m', h2, h3, h4, h5⟩), d⟩
      · exact .inl ⟨h1, by omega, h3, (bdyP_append (by omega)).2 ⟨m, by omega, b, h4, d⟩⟩
      · exact .inr ⟨h1, m', h2, by omega, h4, (bdyP_append (by omega)).2 ⟨m, h3, b, h5, d⟩⟩
theorem bdyP_one {R : Nat → Nat → Nat → Prop} {s : List Int} {x : Int} {i k : Nat} (hx : x < 0) (h : i ≤ k) : bdyP R s [x] i k ↔ R (-1 - x).toNat i k := by
  simp only [bdyP]
  constructor
  · rintro (⟨h1, _⟩ | ⟨_, m, _, _, h4, h5⟩)
    · omega
    · exact h5 ▸ h4
  · intro h'; exact .inr ⟨hx, k, h, Nat.le_refl _, h', rfl⟩
theorem indexP_bd {α : Type} (p : α → Bool) (l : List α) : -1 ≤ indexP p l ∧ indexP p l < l.length := by
  unfold indexP
  cases h : l.findIdx? p with
  | none => simp; omega
  | some i => rw [List.findIdx?_eq_some_iff_getElem] at h; obtain ⟨hi, _⟩ := h; simp; omega
theorem idx_app {a b : List ByteArray} {n : ByteArray} (h : ¬ idx (a ++ b) n < 0) : 0 ≤ idx a n ∨ 0 ≤ idx b n := by
  have h1 := idx_any a n
  have h2 := idx_any b n
  have h3 := idx_any (a ++ b) n
  rw [List.any_append, h1, h2] at h3
  by_cases x : idx a n < 0
  · by_cases y : idx b n < 0
    · simp [x, y, h] at h3
    · exact .inr (by omega)
  · exact .inl (by omega)
mutual
def labE : GEx → List GEx
  | .mk k n l => if k = 1 then [] else if k = 2 then labL l else .mk k n l :: labL l
def labL : List GEx → List GEx
  | [] => []
  | e :: l => labE e ++ labL l
end
theorem labE_eq (e : GEx) : labE e = if e.kind = 1 then [] else if e.kind = 2 then labL e.kids else e :: labL e.kids := by cases e; rw [labE]; rfl
def Keep (a b : List (ByteArray × List (List Int))) : Prop := a.length ≤ b.length ∧ ∀ j, j < a.length → nth b j = nth a j
theorem Keep.refl (a : List (ByteArray × List (List Int))) : Keep a a := ⟨Nat.le_refl _, fun _ _ => rfl⟩
theorem Keep.trans {a b c : List (ByteArray × List (List Int))} (h : Keep a b) (k : Keep b c) : Keep a c := ⟨Nat.le_trans h.1 k.1, fun j hj => (k.2 j (by have := h.1; omega)).trans (h.2 j hj)⟩
theorem DEn.keepE (d : DEn) (e : GEx) : ∀ s : DSt, Keep s.extra (d.symE e s).2.extra ∧ (d.symE e s).2.extra.length = s.extra.length + (labE e).length := by
  induction e using GEx.ind with
  | h e ih =>
    have hL : ∀ l : List GEx, (∀ x, x ∈ l → x ∈ e.kids) → ∀ s : DSt, Keep s.extra (d.symL l s).2.extra ∧ (d.symL l s).2.extra.length = s.extra.length + (labL l).length := by
      intro l
      induction l with
      | nil => intro _ s; rw [DEn.symL, labL]; exact ⟨.refl _, rfl⟩
      | cons x l ihl =>
        intro hl s
        have h1 := ih x (hl x (by simp)) s
        have h2 := ihl (fun y hy => hl y (by simp [hy])) (d.symE x s).2
        rw [DEn.symL, labL]
        refine ⟨h1.1.trans h2.1, ?_⟩
        simp only [List.length_append]
        rw [h2.2, h1.2]; omega
    intro s
    rw [DEn.symE_eq, labE_eq]
    split
    · have := d.sym_len e.name s
      simp only [this.1]
      exact ⟨.refl _, rfl⟩
    · split
      · exact hL _ (fun _ h => h) s
      · have := hL e.kids (fun _ h => h) (d.start s)
        simp only [DEn.start, List.length_append, List.length_cons, List.length_nil] at this
        simp only [List.length_set, DEn.start, List.length_cons]
        refine ⟨⟨by simp only [List.length_set]; omega, fun j hj => ?_⟩, by omega⟩
        rw [nth_set (by omega), if_neg (by omega), this.1.2 j (by simp; omega)]
        exact nth_snoc_lt hj
theorem DEn.keepL (d : DEn) : ∀ (l : List GEx) (s : DSt), Keep s.extra (d.symL l s).2.extra ∧ (d.symL l s).2.extra.length = s.extra.length + (labL l).length
  | [], s => by rw [DEn.symL, labL]; exact ⟨.refl _, rfl⟩
  | x :: l, s => by
    have h1 := d.keepE x s
    have h2 := d.keepL l (d.symE x s).2
    rw [DEn.symL, labL]
    refine ⟨h1.1.trans h2.1, ?_⟩
    simp only [List.length_append]
    rw [h2.2, h1.2]; omega
def Good (d : DEn) (e : GEx) : Prop := (∃ dd, okE e dd = true) ∧ knownE (d.names ++ d.terms) e = true
theorem Good.kid {d : DEn} {e x : GEx} (h : Good d e) (hx : x ∈ e.kids) : Good d x := by
  obtain ⟨⟨dd, h1⟩, h2⟩ := h
  rw [okE_eq] at h1
  rw [knownE_eq] at h2
  simp only [Bool.and_eq_true, List.all_eq_true] at h1 h2
  exact ⟨⟨_, h1.2 x hx⟩, h2.2 x hx⟩
theorem Good.kinds {d : DEn} {e : GEx} (h : Good d e) (h1 : e.kind ≠ 1) (h2 : e.kind ≠ 2) (h3 : e.kind ≠ 3) : e.kids.length = 1 ∧ (e.kind = 4 ∨ e.kind = 5 ∨ e.kind = 6) := by
  obtain ⟨⟨dd, h0⟩, _⟩ := h
  rw [okE_eq] at h0
  simp only [Bool.and_eq_true] at h0
  exact okK_more h0.1.2 h1 h2 h3
theorem Good.name {d : DEn} {e : GEx} (h : Good d e) (h1 : e.kind = 1) : 0 ≤ idx d.names e.name ∨ 0 ≤ idx d.terms e.name := by
  obtain ⟨_, h2⟩ := h
  rw [knownE_eq] at h2
  simp only [Bool.and_eq_true, h1, decide_true, Bool.true_and, Bool.not_eq_true', decide_eq_false_iff_not] at h2
  exact idx_app h2.1
theorem Good.head {d : DEn} {e : GEx} (h : Good d e) (h1 : e.kind ≠ 1) (h2 : e.kind ≠ 2) (h3 : e.kind ≠ 3) : ∃ x, e.kids = [x] := by
  have := (h.kinds h1 h2 h3).1
  cases hk : e.kids with
  | nil => rw [hk] at this; cases this
  | cons x l => rw [hk] at this; cases l with
    | nil => exact ⟨x, rfl⟩
    | cons y l => simp at this
theorem DEn.self_at (d : DEn) (s : DSt) : d.self s < 0 ∧ (-1 - d.self s).toNat = d.names.length + s.extra.length := by unfold DEn.self; omega
section
variable {d : DEn} {s : List Int}
theorem sym_name {M R : Nat → Nat → Nat → Prop} (hR : ∀ a, a < d.names.length → ∀ i k, R a i k ↔ M a i k) {e : GEx} (hg : Good d e) (h1 : e.kind = 1) (st : DSt) {i k : Nat} (hik : i ≤ k) :
    bdyP R s [(d.sym e.name st).1] i k ↔ (if 0 ≤ idx d.names e.name then M (idx d.names e.name).toNat i k else k = i + 1 ∧ nth s i = idx d.terms e.name) := by
  unfold DEn.sym
  by_cases h0 : 0 ≤ idx d.names e.name
  · rw [if_pos h0, if_pos h0]
    rw [bdyP_one (by simp only; omega) hik]
    have : (-1 - (-1 - idx d.names e.name)).toNat = (idx d.names e.name).toNat := by congr 1; omega
    simp only [this]
    refine hR _ ?_ i k
    have : idx d.names e.name < d.names.length := (indexP_bd (fun x => decide (e.name = x)) d.names).2
    omega
  · rw [if_neg h0, if_neg h0]
    have ht := (hg.name h1).resolve_left h0
    have e1 : max (idx d.terms e.name) 0 = idx d.terms e.name := by omega
    simp only [e1, bdyP]
    constructor
    · rintro (⟨_, a, b, c⟩ | ⟨h, _⟩)
      · exact ⟨c.symm, b⟩
      · omega
    · rintro ⟨a, b⟩; exact .inl ⟨ht, by omega, b, a.symm⟩
theorem sym_mat {M R : Nat → Nat → Nat → Prop} (hR : ∀ a, a < d.names.length → ∀ i k, R a i k ↔ M a i k) (Lb : List GEx) (hL : ∀ j i k, R (d.names.length + j) i k ↔ matE M d.names d.terms s (nth Lb j) i k) (e : GEx) :
    Good d e → ∀ (st : DSt) (i k : Nat), i ≤ k → (∀ t, t < (labE e).length → nth Lb (st.extra.length + t) = nth (labE e) t) → (bdyP R s (d.symE e st).1 i k ↔ matE M d.names d.terms s e i k) := by
  induction e using GEx.ind with
  | h e ih =>
    intro hg st i k hik hlab
    rw [DEn.symE_eq]
    by_cases h1 : e.kind = 1
    · rw [if_pos h1, matE_eq, if_pos h1]
      exact sym_name hR hg h1 st hik
    · rw [if_neg h1]
      by_cases h2 : e.kind = 2
      · rw [if_pos h2, matE_eq, if_neg h1, if_pos h2]
        have hlab' : ∀ t, t < (labL e.kids).length → nth Lb (st.extra.length + t) = nth (labL e.kids) t := by
          have := hlab; rw [labE_eq, if_neg h1, if_pos h2] at this; exact this
        have hS : ∀ l : List GEx, (∀ x, x ∈ l → x ∈ e.kids) → ∀ (st : DSt) (i k : Nat), i ≤ k → (∀ t, t < (labL l).length → nth Lb (st.extra.length + t) = nth (labL l) t) → (bdyP R s (d.symL l st).1.flatten i k ↔ matS M d.names d.terms s l i k) := by
          intro l
          induction l with
          | nil => intro _ st i k _ _; rw [DEn.symL, matS]; exact Iff.rfl
          | cons x l ihl =>
            intro hl st i k hik hlab
            rw [labL] at hlab
            rw [DEn.symL, matS]
            simp only [List.flatten_cons]
            rw [bdyP_append hik]
            have hx := hl x (by simp)
            have e1 := (d.keepE x st).2
            have key : ∀ m, i ≤ m → m ≤ k → (bdyP R s (d.symE x st).1 i m ∧ bdyP R s (d.symL l (d.symE x st).2).1.flatten m k ↔ matE M d.names d.terms s x i m ∧ matS M d.names d.terms s l m k) := fun m a b => by
              rw [ih x hx (hg.kid hx) st i m a (fun t ht => by rw [hlab t (by rw [List.length_append]; omega), nth_app_lt ht]),
                ihl (fun y hy => hl y (by simp [hy])) _ m k b (fun t ht => by rw [e1, Nat.add_assoc, hlab _ (by rw [List.length_append]; omega), nth_app_ge (by omega) (by omega)]; congr 1; omega)]
            constructor
            · rintro ⟨m, a, b, c⟩; exact ⟨m, a, b, (key m a b).1 c⟩
            · rintro ⟨m, a, b, c⟩; exact ⟨m, a, b, (key m a b).2 c⟩
        exact hS e.kids (fun _ h => h) st i k hik hlab'
      · rw [if_neg h2]
        have hs := d.self_at st
        simp only
        rw [bdyP_one hs.1 hik, hs.2, hL]
        have := hlab 0 (by rw [labE_eq, if_neg h1, if_neg h2]; simp)
        rw [Nat.add_zero, labE_eq, if_neg h1, if_neg h2] at this
        rw [this]; exact Iff.rfl
theorem symL_mem {M R : Nat → Nat → Nat → Prop} (hR : ∀ a, a < d.names.length → ∀ i k, R a i k ↔ M a i k) (Lb : List GEx) (hL : ∀ j i k, R (d.names.length + j) i k ↔ matE M d.names d.terms s (nth Lb j) i k) :
    ∀ (l : List GEx), (∀ x, x ∈ l → Good d x) → ∀ (st : DSt), (∀ t, t < (labL l).length → nth Lb (st.extra.length + t) = nth (labL l) t) → ∀ b, b ∈ (d.symL l st).1 → ∃ x, x ∈ l ∧ ∀ i k, i ≤ k → (bdyP R s b i k ↔ matE M d.names d.terms s x i k)
  | [], _, st, _, b, hb => by rw [DEn.symL] at hb; simp at hb
  | x :: l, hg, st, hlab, b, hb => by
    rw [labL] at hlab
    rw [DEn.symL] at hb
    have e1 := (d.keepE x st).2
    rcases List.mem_cons.1 hb with rfl | hb
    · exact ⟨x, by simp, fun i k hik => sym_mat hR Lb hL x (hg x (by simp)) st i k hik (fun t ht => by rw [hlab t (by rw [List.length_append]; omega), nth_app_lt ht])⟩
    · obtain ⟨y, hy, h⟩ := symL_mem hR Lb hL l (fun y hy => hg y (by simp [hy])) (d.symE x st).2 (fun t ht => by rw [e1, Nat.add_assoc, hlab _ (by rw [List.length_append]; omega), nth_app_ge (by omega) (by omega)]; congr 1; omega) b hb
      exact ⟨y, by simp [hy], h⟩
theorem ext_mat {M R : Nat → Nat → Nat → Prop} (hR : ∀ a, a < d.names.length → ∀ i k, R a i k ↔ M a i k) (Lb : List GEx) (hL : ∀ j i k, R (d.names.length + j) i k ↔ matE M d.names d.terms s (nth Lb j) i k) (e : GEx) :
    Good d e → ∀ (st : DSt), (∀ t, t < (labE e).length → nth Lb (st.extra.length + t) = nth (labE e) t) → ∀ j, st.extra.length ≤ j → j < (d.symE e st).2.extra.length → ∀ b, b ∈ (nth (d.symE e st).2.extra j).2 → ∀ i k, i ≤ k → bdyP R s b i k → matE M d.names d.terms s (nth Lb j) i k := by
  induction e using GEx.ind with
  | h e ih =>
    have hS : ∀ l : List GEx, (∀ x, x ∈ l → x ∈ e.kids) → (∀ x, x ∈ l → Good d x) → ∀ (st : DSt), (∀ t, t < (labL l).length → nth Lb (st.extra.length + t) = nth (labL l) t) → ∀ j, st.extra.length ≤ j → j < (d.symL l st).2.extra.length → ∀ b, b ∈ (nth (d.symL l st).2.extra j).2 → ∀ i k, i ≤ k → bdyP R s b i k → matE M d.names d.terms s (nth Lb j) i k := by
      intro l
      induction l with
      | nil => intro _ _ st _ j hj hj2; rw [DEn.symL] at hj2; simp only at hj2; omega
      | cons x l ihl =>
        intro hl hg st hlab j hj hj2 b hb
        rw [labL] at hlab
        rw [DEn.symL] at hj2 hb
        simp only at hj2 hb
        have e1 := (d.keepE x st).2
        have k2 := (d.keepL l (d.symE x st).2).1
        by_cases hlt : j < (d.symE x st).2.extra.length
        · rw [k2.2 j hlt] at hb
          exact ih x (hl x (by simp)) (hg x (by simp)) st (fun t ht => by rw [hlab t (by rw [List.length_append]; omega), nth_app_lt ht]) j hj hlt b hb
        · exact ihl (fun y hy => hl y (by simp [hy])) (fun y hy => hg y (by simp [hy])) _ (fun t ht => by rw [e1, Nat.add_assoc, hlab _ (by rw [List.length_append]; omega), nth_app_ge (by omega) (by omega)]; congr 1; omega) j (by omega) hj2 b hb
    intro hg st hlab j hj hj2 b hb i k hik hd
    rw [DEn.symE_eq] at hj2 hb
    by_cases h1 : e.kind = 1
    · rw [if_pos h1] at hj2
      have := d.sym_len e.name st
      simp only [this.1] at hj2
      omega
    · rw [if_neg h1] at hj2 hb
      by_cases h2 : e.kind = 2
      · rw [if_pos h2] at hj2 hb
        rw [labE_eq, if_neg h1, if_pos h2] at hlab
        exact hS e.kids (fun _ h => h) (fun x hx => hg.kid hx) st hlab j hj hj2 b hb i k hik hd
      · rw [if_neg h2] at hj2 hb
        have hl0 := hlab 0 (by rw [labE_eq, if_neg h1, if_neg h2]; simp)
        rw [Nat.add_zero, labE_eq, if_neg h1, if_neg h2] at hl0
        have hl0 : nth Lb st.extra.length = e := hl0
        have hst : (d.start st).extra.length = st.extra.length + 1 := by simp [DEn.start]
        have hlab' : ∀ t, t < (labL e.kids).length → nth Lb ((d.start st).extra.length + t) = nth (labL e.kids) t := fun t ht => by
          have := hlab (t + 1) (by rw [labE_eq, if_neg h1, if_neg h2]; simp; omega)
          rw [labE_eq, if_neg h1, if_neg h2] at this
          rw [hst, show st.extra.length + 1 + t = st.extra.length + (t + 1) by omega, this]
          simp [nth]
        have hk := (d.keepL e.kids (d.start st))
        simp only [List.length_set] at hj2
        by_cases hj0 : j = st.extra.length
        · subst hj0
          rw [nth_set (by have := hk.1.1; omega), if_pos rfl] at hb
          simp only at hb
          rw [hl0]
          have hself : ∀ i m, i ≤ m → (bdyP R s [d.self st] i m ↔ matE M d.names d.terms s e i m) := fun i m him => by
            rw [bdyP_one (d.self_at st).1 him, (d.self_at st).2, hL, hl0]
          have hmem := symL_mem hR Lb hL e.kids (fun x hx => hg.kid hx) (d.start st) hlab'
          rw [matE_eq, if_neg h1, if_neg h2]
          by_cases h3 : e.kind = 3
          · rw [if_pos h3]
            have : finB e.kind (d.self st) (d.symL e.kids (d.start st)).1 = (d.symL e.kids (d.start st)).1 := by unfold finB; rw [if_neg (by omega), if_neg (by omega), if_neg (by omega)]
            rw [this] at hb
            obtain ⟨x, hx, h⟩ := hmem b hb
            exact matA_iff.2 ⟨x, hx, (h i k hik).1 hd⟩
          · rw [if_neg h3]
            obtain ⟨x, hx⟩ := hg.head h1 h2 h3
            have hkb : (d.symL e.kids (d.start st)).1 = [(d.symE x (d.start st)).1] := by rw [hx, DEn.symL, DEn.symL]
            obtain ⟨y, hy, hb0⟩ := hmem (d.symE x (d.start st)).1 (by rw [hkb]; simp)
            have : y = x := by rw [hx] at hy; simpa using hy
            subst this
            rw [hkb] at hb
            have hH : ∀ i k, matH M d.names d.terms s e.kids i k = matE M d.names d.terms s y i k := fun i k => by rw [hx, matH]
            have hHf : matH M d.names d.terms s e.kids = matE M d.names d.terms s y := by funext i k; exact hH i k
            rw [hHf]
            rcases (hg.kinds h1 h2 h3).2 with h4 | h4 | h4
            · rw [if_pos h4]
              unfold finB at hb; rw [if_pos h4] at hb
              simp only [List.headD_cons, List.mem_cons, List.not_mem_nil, or_false] at hb
              rcases hb with rfl | rfl
              · exact .inl hd
              · exact .inr ((hb0 i k hik).1 hd)
            · rw [if_neg (by omega), if_pos h4]
              unfold finB at hb; rw [if_neg (by omega), if_pos h4] at hb
              simp only [List.headD_cons, List.mem_cons, List.not_mem_nil, or_false] at hb
              rcases hb with rfl | rfl
              · have : i = k := hd
                subst this; exact .refl _
              · rw [show d.self st :: (d.symE y (d.start st)).1 = [d.self st] ++ (d.symE y (d.start st)).1 from rfl, bdyP_append hik] at hd
                obtain ⟨m, a, b, c, f⟩ := hd
                have c := (hself i m a).1 c
                rw [matE_eq, if_neg h1, if_neg h2, if_neg h3, if_neg (by omega), if_pos h4, hHf] at c
                exact c.snoc ((hb0 m k b).1 f) b
            · rw [if_neg (by omega), if_neg (by omega)]
              unfold finB at hb; rw [if_neg (by omega), if_neg (by omega), if_pos h4] at hb
              simp only [List.headD_cons, List.mem_cons, List.not_mem_nil, or_false] at hb
              rcases hb with rfl | rfl
              · exact ⟨k, hik, Nat.le_refl _, (hb0 i k hik).1 hd, .refl _⟩
              · rw [show d.self st :: (d.symE y (d.start st)).1 = [d.self st] ++ (d.symE y (d.start st)).1 from rfl, bdyP_append hik] at hd
                obtain ⟨m, a, b, c, f⟩ := hd
                have c := (hself i m a).1 c
                rw [matE_eq, if_neg h1, if_neg h2, if_neg h3, if_neg (by omega), if_neg (by omega), hHf] at c
                obtain ⟨m', p, q, u, v⟩ := c
                exact ⟨m', p, by omega, u, v.snoc ((hb0 m k b).1 f) b⟩
        · rw [nth_set (by have := hk.1.1; omega), if_neg (fun h => hj0 h.symm)] at hb
          exact hS e.kids (fun _ h => h) (fun x hx => hg.kid hx) (d.start st) hlab' j (by omega) hj2 b hb i k hik hd
def Agr (lo : Nat) (a E : List (ByteArray × List (List Int))) : Prop := a.length ≤ E.length ∧ ∀ j, lo ≤ j → j < a.length → nth E j = nth a j
theorem mat_sym {D : Nat → Nat → Nat → Prop} (N : Nat) (E : List (ByteArray × List (List Int))) (hE : ∀ j, j < E.length → ∀ b, b ∈ (nth E j).2 → ∀ i k, i ≤ k → k ≤ N → bdyP D s b i k → D (d.names.length + j) i k) (e : GEx) :
    Good d e → ∀ (st : DSt), Agr st.extra.length (d.symE e st).2.extra E → ∀ i k, i ≤ k → k ≤ N → matE D d.names d.terms s e i k → bdyP D s (d.symE e st).1 i k := by
  induction e using GEx.ind with
  | h e ih =>
    have hS : ∀ l : List GEx, (∀ x, x ∈ l → x ∈ e.kids) → (∀ x, x ∈ l → Good d x) → ∀ (st : DSt), Agr st.extra.length (d.symL l st).2.extra E → ∀ i k, i ≤ k → k ≤ N → matS D d.names d.terms s l i k → bdyP D s (d.symL l st).1.flatten i k := by
      intro l
      induction l with
      | nil => intro _ _ st _ i k _ _ h; rw [DEn.symL]; rw [matS] at h; exact h
      | cons x l ihl =>
        intro hl hg st ha i k hik hk h
        rw [DEn.symL] at ha ⊢
        rw [matS] at h
        obtain ⟨m, p, q, u, v⟩ := h
        have k1 := (d.keepE x st).1
        have k2 := (d.keepL l (d.symE x st).2).1
        simp only [List.flatten_cons]
        rw [bdyP_append hik]
        refine ⟨m, p, q, ih x (hl x (by simp)) (hg x (by simp)) st ⟨Nat.le_trans k2.1 ha.1, fun j h1 h2 => ?_⟩ i m p (by omega) u, ihl (fun y hy => hl y (by simp [hy])) (fun y hy => hg y (by simp [hy])) _ ⟨ha.1, fun j h1 h2 => ha.2 j (by have := k1.1; omega) h2⟩ m k q hk v⟩
        rw [ha.2 j h1 (by have := k2.1; simp only; omega)]; exact k2.2 j h2
    have hA : ∀ l : List GEx, (∀ x, x ∈ l → x ∈ e.kids) → (∀ x, x ∈ l → Good d x) → ∀ (st : DSt), Agr st.extra.length (d.symL l st).2.extra E → ∀ x, x ∈ l → ∃ b, b ∈ (d.symL l st).1 ∧ ∀ i k, i ≤ k → k ≤ N → matE D d.names d.terms s x i k → bdyP D s b i k := by
      intro l
      induction l with
      | nil => intro _ _ st _ x hx; simp at hx
      | cons y l ihl =>
        intro hl hg st ha x hx
        rw [DEn.symL] at ha ⊢
        have k1 := (d.keepE y st).1
        have k2 := (d.keepL l (d.symE y st).2).1
        rcases List.mem_cons.1 hx with rfl | hx
        · refine ⟨(d.symE x st).1, by simp, ih x (hl x (by simp)) (hg x (by simp)) st ⟨Nat.le_trans k2.1 ha.1, fun j h1 h2 => ?_⟩⟩
          rw [ha.2 j h1 (by have := k2.1; simp only; omega)]; exact k2.2 j h2
        · obtain ⟨b, hb, h⟩ := ihl (fun y hy => hl y (by simp [hy])) (fun y hy => hg y (by simp [hy])) (d.symE y st).2 ⟨ha.1, fun j h1 h2 => ha.2 j (by have := k1.1; omega) h2⟩ x hx
          exact ⟨b, by simp [hb], h⟩
    intro hg st ha i k hik hk h
    rw [matE_eq] at h
    rw [DEn.symE_eq] at ha ⊢
    by_cases h1 : e.kind = 1
    · rw [if_pos h1] at h ⊢
      exact (sym_name (fun _ _ _ _ => Iff.rfl) hg h1 st hik).2 h
    · rw [if_neg h1] at h ha ⊢
      by_cases h2 : e.kind = 2
      · rw [if_pos h2] at h ha ⊢
        exact hS e.kids (fun _ h => h) (fun x hx => hg.kid hx) st ha i k hik hk h
      · rw [if_neg h2] at h ha ⊢
        have hst : (d.start st).extra.length = st.extra.length + 1 := by simp [DEn.start]
        have hkp := (d.keepL e.kids (d.start st))
        have hs := d.self_at st
        obtain ⟨ha1, ha2⟩ := ha
        simp only [List.length_set] at ha1 ha2
        have ha' : Agr (d.start st).extra.length (d.symL e.kids (d.start st)).2.extra E := ⟨ha1, fun j a b => by
          rw [ha2 j (by omega) b, nth_set (by omega), if_neg (by omega)]⟩
        have hat : (nth E st.extra.length).2 = finB e.kind (d.self st) (d.symL e.kids (d.start st)).1 := by
          rw [ha2 _ (Nat.le_refl _) (by have := hkp.1.1; omega), nth_set (by have := hkp.1.1; omega), if_pos rfl]
        have hrule : ∀ b, b ∈ finB e.kind (d.self st) (d.symL e.kids (d.start st)).1 → ∀ i k, i ≤ k → k ≤ N → bdyP D s b i k → D (d.names.length + st.extra.length) i k := fun b hb => hE _ (by have := hkp.1.1; omega) b (by rw [hat]; exact hb)
        have hone : ∀ i k, i ≤ k → (bdyP D s [d.self st] i k ↔ D (d.names.length + st.extra.length) i k) := fun i k hik => by rw [bdyP_one hs.1 hik, hs.2]
        simp only
        rw [hone i k hik]
        have hmem := hA e.kids (fun _ h => h) (fun x hx => hg.kid hx) (d.start st) ha'
        by_cases h3 : e.kind = 3
        · rw [if_pos h3] at h
          obtain ⟨x, hx, h⟩ := matA_iff.1 h
          obtain ⟨b, hb, hb2⟩ := hmem x hx
          refine hrule b ?_ i k hik hk (hb2 i k hik hk h)
          unfold finB; rw [if_neg (by omega), if_neg (by omega), if_neg (by omega)]; exact hb
        · rw [if_neg h3] at h
          obtain ⟨x, hx⟩ := hg.head h1 h2 h3
          obtain ⟨b, hb, hb2⟩ := hmem x (by rw [hx]; simp)
          have hkb : (d.symL e.kids (d.start st)).1 = [b] := by
            rw [hx, DEn.symL, DEn.symL] at hb ⊢
            simp only [List.mem_cons, List.not_mem_nil, or_false] at hb
            rw [hb]
          have hHf : matH D d.names d.terms s e.kids = matE D d.names d.terms s x := by funext i k; rw [hx, matH]
          rw [hHf] at h
          rw [hkb] at hrule
          have hst2 : ∀ m k, m ≤ k → k ≤ N → d.self st :: b ∈ finB e.kind (d.self st) [b] → D (d.names.length + st.extra.length) i m → i ≤ m → StarR (matE D d.names d.terms s x) m k → D (d.names.length + st.extra.length) i k := fun m k hmk hkN hin h0 him hstar => by
            have := hstar.fold2 (P := fun c => i ≤ c ∧ D (d.names.length + st.extra.length) i c) (fun a c hac hck ⟨hia, hD⟩ hM => ⟨by omega, by
              refine hrule _ hin i c (by omega) (by omega) ?_
              rw [show d.self st :: b = [d.self st] ++ b from rfl, bdyP_append (by omega)]
              exact ⟨a, hia, hac, (hone i a hia).2 hD, hb2 a c hac (by omega) hM⟩⟩) ⟨him, h0⟩
            exact this.2
          rcases (hg.kinds h1 h2 h3).2 with h4 | h4 | h4
          · rw [if_pos h4] at h
            rcases h with rfl | h
            · exact hrule [] (by unfold finB; rw [if_pos h4]; simp) i i (Nat.le_refl _) hk rfl
            · exact hrule b (by unfold finB; rw [if_pos h4]; simp) i k hik hk (hb2 i k hik hk h)
          · rw [if_neg (by omega), if_pos h4] at h
            exact hst2 i k hik hk (by unfold finB; rw [if_neg (by omega), if_pos h4]; simp) (hrule [] (by unfold finB; rw [if_neg (by omega), if_pos h4]; simp) i i (Nat.le_refl _) (by omega) rfl) (Nat.le_refl _) h
          · rw [if_neg (by omega), if_neg (by omega)] at h
            obtain ⟨m, p, q, u, v⟩ := h
            exact hst2 m k q hk (by unfold finB; rw [if_neg (by omega), if_neg (by omega), if_pos h4]; simp) (hrule b (by unfold finB; rw [if_neg (by omega), if_neg (by omega), if_pos h4]; simp) i m p (by omega) (hb2 i m p (by omega) u)) p v
end
def stAt (f : GFi) (terms : List ByteArray) (n k : Nat) : DSt := (daltTo (envOf f terms (nth f.rules n)) n (drulTo f terms n).reset (nth f.rules n).alts k).st
theorem stAt_succ (f : GFi) (terms : List ByteArray) (n k : Nat) : stAt f terms n (k + 1) = ((envOf f terms (nth f.rules n)).symE (nth (nth f.rules n).alts k).body (stAt f terms n k)).2 := rfl
theorem stAt_zero (f : GFi) (terms : List ByteArray) (n : Nat) : (stAt f terms n 0).extra = (drulTo f terms n).st.extra := rfl
theorem stAt_last (f : GFi) (terms : List ByteArray) (n : Nat) : (stAt f terms n (nth f.rules n).alts.length) = (drulTo f terms (n + 1)).st := rfl
theorem keep_alt (f : GFi) (terms : List ByteArray) (n k : Nat) : ∀ m, Keep (stAt f terms n k).extra (stAt f terms n (k + m)).extra
  | 0 => .refl _
  | m + 1 => (keep_alt f terms n k m).trans (by rw [← Nat.add_assoc, stAt_succ]; exact (DEn.keepE _ _ _).1)
theorem keep_rul (f : GFi) (terms : List ByteArray) (n : Nat) : ∀ m, Keep (drulTo f terms n).st.extra (drulTo f terms (n + m)).st.extra
  | 0 => .refl _
  | m + 1 => (keep_rul f terms n m).trans (by
    rw [← Nat.add_assoc, ← stAt_last, ← stAt_zero]
    have := keep_alt f terms (n + m) 0 (nth f.rules (n + m)).alts.length
    rwa [Nat.zero_add] at this)
theorem keep_fin (f : GFi) (terms : List ByteArray) {n k N : Nat} (hn : n < N) (hk : k ≤ (nth f.rules n).alts.length) : Keep (stAt f terms n k).extra (drulTo f terms N).st.extra := by
  have h1 := keep_alt f terms n k ((nth f.rules n).alts.length - k)
  rw [show k + ((nth f.rules n).alts.length - k) = (nth f.rules n).alts.length by omega, stAt_last] at h1
  have h2 := keep_rul f terms (n + 1) (N - (n + 1))
  rw [show n + 1 + (N - (n + 1)) = N by omega] at h2
  exact h1.trans h2
def labAlts (l : List GAl) : Nat → List GEx
  | 0 => []
  | k + 1 => labAlts l k ++ labE (nth l k).body
def labRules (f : GFi) : Nat → List GEx
  | 0 => []
  | n + 1 => labRules f n ++ labAlts (nth f.rules n).alts (nth f.rules n).alts.length
theorem labAlts_pre (l : List GAl) (k : Nat) : ∀ m, ∃ c, labAlts l (k + m) = labAlts l k ++ c
  | 0 => ⟨[], by simp⟩
  | m + 1 => by
    obtain ⟨c, h⟩ := labAlts_pre l k m
    exact ⟨c ++ labE (nth l (k + m)).body, by rw [← Nat.add_assoc, labAlts, h, List.append_assoc]⟩
theorem labRules_pre (f : GFi) (n : Nat) : ∀ m, ∃ c, labRules f (n + m) = labRules f n ++ c
  | 0 => ⟨[], by simp⟩
  | m + 1 => by
    obtain ⟨c, h⟩ := labRules_pre f n m
    exact ⟨c ++ labAlts (nth f.rules (n + m)).alts (nth f.rules (n + m)).alts.length, by rw [← Nat.add_assoc, labRules, h, List.append_assoc]⟩
theorem len_alt (f : GFi) (terms : List ByteArray) (n : Nat) : ∀ k, (stAt f terms n k).extra.length = (drulTo f terms n).st.extra.length + (labAlts (nth f.rules n).alts k).length
  | 0 => rfl
  | k + 1 => by rw [stAt_succ, (DEn.keepE _ _ _).2, len_alt f terms n k, labAlts, List.length_append]; omega
theorem len_rul (f : GFi) (terms : List ByteArray) : ∀ n, (drulTo f terms n).st.extra.length = (labRules f n).length
  | 0 => rfl
  | n + 1 => by rw [← stAt_last, len_alt, len_rul f terms n, labRules, List.length_append]
theorem lab_at (f : GFi) (terms : List ByteArray) {n k N : Nat} (hn : n < N) (hk : k < (nth f.rules n).alts.length) : ∀ t, t < (labE (nth (nth f.rules n).alts k).body).length → nth (labRules f N) ((stAt f terms n k).extra.length + t) = nth (labE (nth (nth f.rules n).alts k).body) t := by
  intro t ht
  obtain ⟨c, hc⟩ := labRules_pre f (n + 1) (N - (n + 1))
  rw [show n + 1 + (N - (n + 1)) = N by omega] at hc
  obtain ⟨c', hc'⟩ := labAlts_pre (nth f.rules n).alts (k + 1) ((nth f.rules n).alts.length - (k + 1))
  rw [show k + 1 + ((nth f.rules n).alts.length - (k + 1)) = (nth f.rules n).alts.length by omega] at hc'
  rw [labRules, hc', labAlts] at hc
  have e : labRules f N = (labRules f n ++ labAlts (nth f.rules n).alts k) ++ (labE (nth (nth f.rules n).alts k).body ++ (c' ++ c)) := by rw [hc]; simp only [List.append_assoc]
  have hl : (stAt f terms n k).extra.length = (labRules f n ++ labAlts (nth f.rules n).alts k).length := by rw [len_alt, len_rul, List.length_append]
  rw [e, hl, nth_app_ge (by omega) (by simp only [List.length_append]; omega), nth_app_lt (by omega)]
  congr 1; omega
theorem alt_rules (d : DEn) (i : Nat) (x : DRes) (l : List GAl) : ∀ (k : Nat) (r : Rul), r ∈ (daltTo d i x l k).rules ↔ r ∈ x.rules ∨ ∃ k', k' < k ∧ r = ⟨i, (d.symE (nth l k').body (daltTo d i x l k').st).1, (nth l k').price⟩
  | 0, r => by simp [daltTo]
  | k + 1, r => by
    simp only [daltTo, stepA, List.mem_append, List.mem_singleton, alt_rules d i x l k r]
    constructor
    · rintro ((h | ⟨k', h1, h2⟩) | h)
      · exact .inl h
      · exact .inr ⟨k', by omega, h2⟩
      · exact .inr ⟨k, by omega, h⟩
    · rintro (h | ⟨k', h1, h2⟩)
      · exact .inl (.inl h)
      · by_cases e : k' = k
        · subst e; exact .inr h2
        · exact .inl (.inr ⟨k', by omega, h2⟩)
def mainR (f : GFi) (terms : List ByteArray) (n k : Nat) : Rul := ⟨n, ((envOf f terms (nth f.rules n)).symE (nth (nth f.rules n).alts k).body (stAt f terms n k)).1, (nth (nth f.rules n).alts k).price⟩
theorem main_rules (f : GFi) (terms : List ByteArray) : ∀ (N : Nat) (r : Rul), r ∈ (drulTo f terms N).rules ↔ ∃ n k, n < N ∧ k < (nth f.rules n).alts.length ∧ r = mainR f terms n k
  | 0, r => by simp [drulTo]
  | N + 1, r => by
    simp only [drulTo]
    rw [alt_rules]
    have : (drulTo f terms N).reset.rules = (drulTo f terms N).rules := rfl
    rw [this, main_rules f terms N r]
    constructor
    · rintro (⟨n, k, h1, h2, h3⟩ | ⟨k, h1, h2⟩)
      · exact ⟨n, k, by omega, h2, h3⟩
      · exact ⟨N, k, by omega, h1, h2⟩
    · rintro ⟨n, k, h1, h2, h3⟩
      by_cases e : n = N
      · subst e; exact .inr ⟨k, h2, h3⟩
      · exact .inl ⟨n, k, by omega, h2, h3⟩
theorem exts_rules (nn : Nat) (ex : List (ByteArray × List (List Int))) : ∀ (k : Nat) (r : Rul), r ∈ extsTo nn ex k ↔ ∃ j b, j < k ∧ b ∈ (nth ex j).2 ∧ r = ⟨(nn : Int) + j, b, 0⟩
  | 0, r => by simp [extsTo]
  | k + 1, r => by
    simp only [extsTo, List.mem_append, exts_rules nn ex k r, extR, List.mem_map]
    constructor
    · rintro (⟨j, b, h1, h2, h3⟩ | ⟨b, h1, h2⟩)
      · exact ⟨j, b, by omega, h2, h3⟩
      · exact ⟨k, b, by omega, h1, h2.symm⟩
    · rintro ⟨j, b, h1, h2, h3⟩
      by_cases e : j = k
      · subst e; exact .inr ⟨b, h2, h3.symm⟩
      · exact .inl ⟨j, b, by omega, h2, h3⟩
theorem ext_cov (f : GFi) (terms : List ByteArray) : ∀ (N j : Nat), j < (drulTo f terms N).st.extra.length → ∃ n k, n < N ∧ k < (nth f.rules n).alts.length ∧ (stAt f terms n k).extra.length ≤ j ∧ j < (stAt f terms n (k + 1)).extra.length
  | 0, j, h => by simp [drulTo] at h
  | N + 1, j, h => by
    by_cases hl : j < (drulTo f terms N).st.extra.length
    · obtain ⟨n, k, h1, h2⟩ := ext_cov f terms N j hl
      exact ⟨n, k, by omega, h2⟩
    · have key : ∀ k, k ≤ (nth f.rules N).alts.length → j < (stAt f terms N k).extra.length → ∃ k, k < (nth f.rules N).alts.length ∧ (stAt f terms N k).extra.length ≤ j ∧ j < (stAt f terms N (k + 1)).extra.length := by
        intro k
        induction k with
        | zero => intro _ h; rw [stAt_zero] at h; exact absurd h hl
        | succ k ih =>
          intro hk h
          by_cases h' : j < (stAt f terms N k).extra.length
          · exact ih (by omega) h'
          · exact ⟨k, by omega, by omega, h⟩
      rw [← stAt_last] at h
      obtain ⟨k, h1, h2, h3⟩ := key _ (Nat.le_refl _) h
      exact ⟨N, k, by omega, h1, h2, h3⟩
def CloM (f : GFi) (terms : List ByteArray) (s : List Int) (R : Nat → Nat → Nat → Prop) : Prop := ∀ n k, n < f.rules.length → k < (nth f.rules n).alts.length → ∀ i j, i ≤ j → j ≤ s.length → matE R (ruleNames f) terms s (nth (nth f.rules n).alts k).body i j → R n i j
def Mat (f : GFi) (terms : List ByteArray) (s : List Int) (a i k : Nat) : Prop := ∀ R, CloM f terms s R → R a i k
theorem Mat.clo (f : GFi) (terms : List ByteArray) (s : List Int) : CloM f terms s (Mat f terms s) := fun n k hn hk i j hi hj hb R hR => hR n k hn hk i j hi hj (matE_mono (fun a b c h => h R hR) _ _ _ hb)
theorem lang_same {f : GFi} {terms : List ByteArray} (hval : validF f = true) (hok : (drulTo f terms f.rules.length).st.ok = true) (s : List Int) {a i k : Nat} (ha : a < f.rules.length) :
    Der (desugarG f terms (drulTo f terms f.rules.length)) s a i k ↔ Mat f terms s a i k := by
  have hv := valid_ok hval
  have hnl : (ruleNames f).length = f.rules.length := by simp [ruleNames]
  have hgood : ∀ n k, n < f.rules.length → k < (nth f.rules n).alts.length → Good (envOf f terms (nth f.rules n)) (nth (nth f.rules n).alts k).body := fun n k hn hk => by
    refine ⟨hv _ (nth_mem hn) _ (nth_mem hk), ?_⟩
    rw [drulTo_ok f terms hv _ (Nat.le_refl _), List.take_length] at hok
    have h1 := List.all_eq_true.1 hok _ (nth_mem hn)
    unfold kRule at h1
    exact List.all_eq_true.1 h1 _ (nth_mem hk)
  generalize hX : drulTo f terms f.rules.length = X at *
  have hrules : ∀ r, r ∈ (desugarG f terms X).rules ↔ (∃ n k, n < f.rules.length ∧ k < (nth f.rules n).alts.length ∧ r = mainR f terms n k) ∨ ∃ j b, j < X.st.extra.length ∧ b ∈ (nth X.st.extra j).2 ∧ r = ⟨(f.rules.length : Int) + j, b, 0⟩ := fun r => by
    show r ∈ X.rules ++ extsTo f.rules.length X.st.extra X.st.extra.length ↔ _
    rw [List.mem_append, exts_rules, ← hX, main_rules]
  constructor
  · intro h
    have := h (fun a i k => (a < f.rules.length → Mat f terms s a i k) ∧ (f.rules.length ≤ a → matE (Mat f terms s) (ruleNames f) terms s (nth (labRules f f.rules.length) (a - f.rules.length)) i k)) fun r hr i k hik hk hb => ?_
    · exact this.1 ha
    have hR : ∀ a, a < (ruleNames f).length → ∀ i k, ((a < f.rules.length → Mat f terms s a i k) ∧ (f.rules.length ≤ a → matE (Mat f terms s) (ruleNames f) terms s (nth (labRules f f.rules.length) (a - f.rules.length)) i k)) ↔ Mat f terms s a i k := fun a ha i k =>
      ⟨fun h => h.1 (by omega), fun h => ⟨fun _ => h, fun h' => by omega⟩⟩
    have hL : ∀ j i k, (((ruleNames f).length + j < f.rules.length → Mat f terms s ((ruleNames f).length + j) i k) ∧ (f.rules.length ≤ (ruleNames f).length + j → matE (Mat f terms s) (ruleNames f) terms s (nth (labRules f f.rules.length) ((ruleNames f).length + j - f.rules.length)) i k)) ↔ matE (Mat f terms s) (ruleNames f) terms s (nth (labRules f f.rules.length) j) i k := fun j i k => by
      rw [hnl, show f.rules.length + j - f.rules.length = j by omega]
      exact ⟨fun h => h.2 (by omega), fun h => ⟨fun h' => by omega, fun _ => h⟩⟩
    rcases (hrules r).1 hr with ⟨n, m, hn, hm, rfl⟩ | ⟨j, b, hj, hbm, rfl⟩
    · refine ⟨fun _ => ?_, fun h' => ?_⟩
      · have := (sym_mat (d := envOf f terms (nth f.rules n)) hR (labRules f f.rules.length) hL _ (hgood n m hn hm) (stAt f terms n m) i k hik (lab_at f terms hn hm)).1 hb
        have := Mat.clo f terms s n m hn hm i k hik hk this
        simpa [mainR] using this
      · simp [mainR] at h'; omega
    · have hh : ((f.rules.length : Int) + j).toNat = f.rules.length + j := by omega
      simp only [hh]
      refine ⟨fun h' => by omega, fun _ => ?_⟩
      rw [show f.rules.length + j - f.rules.length = j by omega]
      rw [← hX] at hj hbm
      obtain ⟨n, m, hn, hm, h1, h2⟩ := ext_cov f terms _ j hj
      have hkp := keep_fin f terms (k := m + 1) hn hm
      rw [hkp.2 j h2] at hbm
      rw [stAt_succ] at h2 hbm
      exact ext_mat (d := envOf f terms (nth f.rules n)) hR (labRules f f.rules.length) hL _ (hgood n m hn hm) (stAt f terms n m) (lab_at f terms hn hm) j h1 h2 b hbm i k hik hb
  · intro h
    refine h _ fun n m hn hm i k hik hk hb => ?_
    have hE : ∀ j, j < X.st.extra.length → ∀ b, b ∈ (nth X.st.extra j).2 → ∀ i k, i ≤ k → k ≤ s.length → bdyP (Der (desugarG f terms X) s) s b i k → Der (desugarG f terms X) s ((envOf f terms (nth f.rules n)).names.length + j) i k := fun j hj b hb i k hik hk hd => by
      have := Der.clo (desugarG f terms X) s _ ((hrules _).2 (.inr ⟨j, b, hj, hb, rfl⟩)) i k hik hk hd
      have hh : ((f.rules.length : Int) + j).toNat = f.rules.length + j := by omega
      simp only [hh] at this
      have e : (envOf f terms (nth f.rules n)).names.length = f.rules.length := hnl
      rw [e]; exact this
    have hkp := keep_fin f terms (k := m + 1) hn hm
    rw [hX, stAt_succ] at hkp
    have := mat_sym (d := envOf f terms (nth f.rules n)) (D := Der (desugarG f terms X) s) s.length X.st.extra hE _ (hgood n m hn hm) (stAt f terms n m) ⟨hkp.1, fun j _ hj => hkp.2 j hj⟩ i k hik hk hb
    have := Der.clo (desugarG f terms X) s _ ((hrules _).2 (.inl ⟨n, m, hn, hm, rfl⟩)) i k hik hk this
    simpa [mainR] using this
end Go.Lg

namespace Go.Lg
open Go.RowKit
def lastsOk (ops : Array Oper) (m : Nat) : Bool := (List.range ops.size).all fun q => decide (q < m) || (List.range m).all fun i => bef ops i q
def doneA (m k : Nat) : Array Bool := (List.replicate m true ++ List.replicate k false).toArray
section
variable {P : Program} {Γ : Cx} {ops : Array Oper}
set_option maxHeartbeats 1000000 in
theorem WP.drawT2 {id : Nat} {l r0 : List Oper} {o' : Oper} {s : St} {Q : Exit → St → Prop} (hm : P.follows .mixedOrders = true) (he : edgeOk (l ++ o' :: r0).toArray = true) (hcl : closeOk (l ++ o' :: r0).toArray = true) (hla : lastsOk (l ++ o' :: r0).toArray l.length = true)
    (h : RunD P (l ++ o' :: r0).toArray s.objs.length 0 l { s with objs := s.objs ++ List.replicate l.length none } [] fun rs s' => freeOk (l ++ o' :: r0).toArray rs = true ∧ ∀ e, WPT P Γ (l ++ o' :: r0).toArray Q (e + (r0.length + 1)) (doneA l.length (r0.length + 1)) s') : WP P Γ (.region id (l ++ o' :: r0).toArray true) Q s := by
  intro a w hs
  obtain ⟨ρ0, hs⟩ := hs
  obtain ⟨out, st, hst0, hsteps, rs, hrl, hrec, hfree, hQ⟩ := RunD.unpack l 0 _ [] h
  simp only [Nat.zero_add, List.nil_append] at hsteps hrec hfree hQ
  have hsize : (l ++ o' :: r0).toArray.size = l.length + (r0.length + 1) := by simp
  have hget : ∀ i : Nat, i < l.length → (l ++ o' :: r0).toArray[i]? = l[i]? := fun i hi => by simp [List.getElem?_append_left hi]
  have hgetL : (l ++ o' :: r0).toArray[l.length]? = some o' := by simp
  generalize hops : (l ++ o' :: r0).toArray = ops at *
  generalize hN : s.objs.length = N at *
  let s0 : St := { s with objs := s.objs ++ List.replicate l.length none }
  let T := s.tmps.length
  let M := N + l.length
  have hlen0 : okLen T M s0 := ⟨rfl, by simp [s0, M, hN]⟩
  let act := actI ops N out
  have hstA : ∀ i, i ≤ l.length → st i = runTo act s0 (fun _ => true) i := by
    intro i
    induction i with
    | zero => intro _; exact hst0
    | succ i ih =>
      intro hi
      have ho : l[i]? = some l[i] := List.getElem?_eq_getElem (by omega)
      have := stepD_act (hsteps i _ ho)
      rw [this, ih (by omega), runTo_succ]
      simp only [if_true, act, actI, hget _ (Nat.lt_of_succ_le hi), ho, Option.bind_some]
  have hstC : ∀ i, i ≤ l.length → st i = runTo act s0 (fun j => decide (j < i)) l.length := fun i hi => by rw [hstA i hi, runTo_cut act s0 i l.length hi]
  let S (lst : Nat → Bool) : St := runTo act s0 lst l.length
  have hact : ∀ i x ℓ, okLen T M x → (act i x).at_ ℓ = (wvI ops N T M out i ℓ).getD (x.at_ ℓ) := fun i x ℓ hx => actI_at i x ℓ hx
  have hokk : ∀ i x, okLen T M x → okLen T M (act i x) := fun i x hx => actI_len i x hx
  have hSlen : ∀ lst, okLen T M (S lst) := fun lst => runTo_ok act (okLen T M) hokk hlen0 lst l.length
  have hconf : ∀ i j ℓ, i < l.length → j < l.length → i ≠ j → (wvI ops N T M out i ℓ).isSome = true →
      (∀ oj, ops[j]? = some oj → match ℓ with | .tmp t => t ∈ namesOf ops oj | .obj id => id ∈ (recOf N j (st j) oj (out j)).wr ∨ id ∈ (recOf N j (st j) oj (out j)).rd) → bef ops i j = true ∨ bef ops j i = true := by
    intro i j ℓ hi hj hne hw hn
    have hoi : l[i]? = some l[i] := List.getElem?_eq_getElem hi
    have hoj : l[j]? = some l[j] := List.getElem?_eq_getElem hj
    have hn := hn l[j] (by rw [hget _ hj]; exact hoj)
    rcases free_spec hfree (by rw [hget _ hi]; exact hoi) (by rw [hget _ hj]; exact hoj) (hrec i _ hoi) (hrec j _ hoj) hne with h1 | h1 | ⟨h1, h2⟩
    · exact .inl h1
    · exact .inr h1
    · exfalso
      cases ℓ with
      | tmp t =>
        have := wv_tmp hw
        rw [hget _ hi, hoi] at this
        exact h1 t this hn
      | obj id =>
        obtain ⟨r, hr, hid⟩ := wv_obj hw
        have := h2 id (by rw [hr]; exact hid)
        exact hn.elim this.1 this.2
  let lst (listed : Array Bool) (i : Nat) : Bool := listed.getD i false
  let AL (listed : Array Bool) (id : Nat) : Prop := id < N ∨ ∃ i, i < l.length ∧ lst listed i = true ∧ id = N + i ∧ (out i).makes = true
  let Inv (listed : Array Bool) (a : Act) (w : World) : Prop := listed.size = l.length + (r0.length + 1) ∧ (∀ q, l.length ≤ q → q < l.length + (r0.length + 1) → lst listed q = false) ∧ (∀ j k, j < l.length → k < l.length → lst listed j = true → bef ops k j = true → lst listed k = true) ∧ ∃ ρ, SRa Γ (AL listed) ρ (S (lst listed)) a w
  let unl (listed : Array Bool) : Nat := ((List.range l.length).filter fun i => !listed.getD i true).length
  have some_ready : ∀ listed a w, Inv listed a w → Region.ready .any ops listed = [] → False := by
    rintro listed a w ⟨hsz, hL, hdc, ρ, hsr⟩ hr
    have hall : ∀ n i, i < n → i < l.length → lst listed i = true := by
      intro n
      induction n with
      | zero => intro i hi; omega
      | succ n ih =>
        intro i hi hil
        by_cases hin : i < n
        · exact ih i hin hil
        · obtain rfl : i = n := by omega
          cases hl : lst listed i with
          | true => rfl
          | false =>
            exfalso
            have hoi : l[i]? = some l[i] := List.getElem?_eq_getElem hil
            have hmem : i ∈ Region.ready .any ops listed := by
              rw [mem_ready]
              refine ⟨by rw [getD_false (by omega)]; exact hl, l[i], by rw [hget _ hil]; exact hoi, fun e hee hb => ?_⟩
              have hon := (edge_spec he (by rw [hget _ hil]; exact hoi) hee hb).1
              exact ih e.on hon (by omega)
            rw [hr] at hmem
            simp at hmem
    have hmem : l.length ∈ Region.ready .any ops listed := by
      rw [mem_ready]
      refine ⟨by rw [getD_false (by omega)]; exact hL _ (Nat.le_refl _) (by omega), o', hgetL, fun e hee hb => ?_⟩
      have hon := (edge_spec he hgetL hee hb).1
      exact hall (e.on + 1) e.on (by omega) hon
    rw [hr] at hmem
    simp at hmem
  have main : ∀ fuel listed a w, Inv listed a w → unl listed + (r0.length + 1) ≤ fuel → wpAny P .any ops (fun e a' w' => ∃ s', Q e s' ∧ SR Γ s' a' w') fuel listed a w := by
    intro fuel
    induction fuel with
    | zero => intro listed a w hinv hu; omega
    | succ fuel ih =>
      intro listed a w hinv hu
      by_cases hall : ∀ k, k < l.length → lst listed k = true
      · obtain ⟨hsz, hL, hdc, ρ, hsr⟩ := hinv
        have hSt : S (lst listed) = st l.length := by
          rw [hstC l.length (Nat.le_refl _)]
          exact St.ext_at fun ℓ => runTo_same St.at_ act (wvI ops N T M out) (okLen T M) hact hokk hlen0 ℓ l.length fun i hi _ => by rw [hall i hi]; simp [hi]
        rw [hSt] at hsr
        have hSR : SR Γ (st l.length) a w := ⟨ρ, hsr.more (fun i hi => hsr.bound i hi) (fun i hi => hi)⟩
        obtain ⟨e, he⟩ : ∃ e, fuel + 1 = e + (r0.length + 1) := ⟨fuel + 1 - (r0.length + 1), by omega⟩
        have hlisted : listed = doneA l.length (r0.length + 1) := by
          apply Array.ext
          · simp [doneA, hsz]
          · intro q h1 h2
            have h1' : q < l.length + (r0.length + 1) := by omega
            have hq : listed[q] = lst listed q := by simp [lst, Array.getD, h1]
            rw [hq]
            by_cases hql : q < l.length
            · rw [hall q hql]; simp [doneA, List.getElem_append, hql]
            · rw [hL q (by omega) h1']; simp [doneA, List.getElem_append, hql]
        rw [he, hlisted]
        exact hQ e a w hSR
      refine ⟨fun hr => (some_ready listed a w hinv hr).elim, fun i hi => ?_⟩
      obtain ⟨hl, o, ho, hed⟩ := mem_ready.1 hi
      have hil' : i < l.length + (r0.length + 1) := by rw [← hsize]; exact (Array.getElem?_eq_some_iff.1 ho).1
      obtain ⟨hsz, hL, hdc, ρ, hsr⟩ := hinv
      have hlst' : ∀ j, lst (listed.setIfInBounds i true) j = if j = i then true else lst listed j := by
        intro j
        by_cases hji : j = i
        · subst hji; simp [lst, Array.getD, hsz, hil']
        · simp only [lst]; rw [getD_set_ne false (fun e => hji e.symm), if_neg hji]
      have hpre : ∀ k, k < l.length → bef ops k i = true → lst listed k = true := by
        intro k hk hb
        obtain ⟨_, e, hee, hbb, hor⟩ := close_spec hcl ho (by omega) hb
        have hon := hed e hee hbb
        rcases hor with rfl | hor
        · exact hon
        · have h1 := (edge_spec he ho hee hbb).1
          have hel : e.on < l.length := by
            by_cases h2 : e.on < l.length
            · exact h2
            · have h3 := hL e.on (by omega) (by omega)
              have hon' : lst listed e.on = true := hon
              rw [h3] at hon'; cases hon'
          exact hdc e.on k hel hk hon hor
      have hil : i < l.length := by
        by_cases hil : i < l.length
        · exact hil
        · exfalso
          refine hall fun k hk => hpre k hk ?_
          unfold lastsOk at hla
          rw [List.all_eq_true] at hla
          have h1 := hla i (List.mem_range.2 (by omega))
          rw [decide_eq_false hil, Bool.false_or, List.all_eq_true] at h1
          exact h1 k (List.mem_range.2 hk)
      have hlo : l[i]? = some o := by rw [← hget _ hil]; exact ho
      have hlf : lst listed i = false := by simp only [lst]; rw [← getD_false (by omega)]; exact hl
      have hL' : ∀ q, l.length ≤ q → q < l.length + (r0.length + 1) → lst (listed.setIfInBounds i true) q = false := fun q h1 h2 => by rw [hlst', if_neg (by omega)]; exact hL q h1 h2
      have hpost : ∀ j, j < l.length → lst listed j = true → bef ops i j = true → False := fun j hj hlj hb => by
        have := hdc j i hj hil hlj hb
        rw [hlf] at this; cases this
      have hagree : ∀ ℓ, (match ℓ with | .tmp t => t ∈ namesOf ops o | .obj id => id ∈ (recOf N i (st i) o (out i)).wr ∨ id ∈ (recOf N i (st i) o (out i)).rd) → (S (lst listed)).at_ ℓ = (st i).at_ ℓ := by
        intro ℓ hn
        rw [hstC i (by omega)]
        refine runTo_same St.at_ act (wvI ops N T M out) (okLen T M) hact hokk hlen0 ℓ l.length fun j hj hw => ?_
        by_cases hji : j = i
        · subst hji; simp [hlf]
        · rcases hconf j i ℓ hj hil hji hw (fun oj hoj => by rw [ho] at hoj; injection hoj with hoj; subst hoj; exact hn) with hb | hb
          · have h1 := hpre j hj hb
            have h2 := (close_spec hcl ho (by omega) hb).1
            simp [h1, h2]
          · have h1 : lst listed j = false := by
              cases hlj : lst listed j with
              | false => rfl
              | true => exact (hpost j hj hlj hb).elim
            obtain ⟨oj, hoj⟩ : ∃ oj, ops[j]? = some oj := ⟨l[j], by rw [hget _ hj]; exact List.getElem?_eq_getElem hj⟩
            have h2 := (close_spec hcl hoj (by omega) hb).1
            rw [h1, decide_eq_false (by omega)]
      have htmp : ∀ t, t ∈ namesOf ops o → (S (lst listed)).tmps[t]? = (st i).tmps[t]? := fun t ht => by have := hagree (.tmp t) ht; simpa [St.at_] using this
      have hop : ∀ x, x ∈ o.op.operands → (st i).op x = (S (lst listed)).op x := by
        intro x hx
        cases x with
        | tmp t => simp only [St.op, List.getD]; rw [htmp t (mem_names_op hx)]
        | _ => rfl
      have hyl : ∀ j want, o.guard = some (j, want) → yieldedA ops (S (lst listed)) j = yieldedA ops (st i) j := by
        intro j want hg
        unfold yieldedA
        cases hd : (ops[j]?).bind (·.dst) with
        | none => rfl
        | some t => simp only [Option.map_some, List.getD]; rw [htmp t (mem_names_guard hg hd)]
      have hys : ∀ j want, o.guard = some (j, want) → ((ops[j]?).bind (·.dst)).map (fun t => (S (lst listed)).tmps.getD t .any) = ((ops[j]?).bind (·.dst)).map (fun t => (st i).tmps.getD t .any) := by
        intro j want hg
        cases hd : (ops[j]?).bind (·.dst) with
        | none => rfl
        | some t => simp only [Option.map_some, List.getD]; rw [htmp t (mem_names_guard hg hd)]
      have hnext : act i (S (lst listed)) = S (lst (listed.setIfInBounds i true)) := by
        refine St.ext_at fun ℓ => ?_
        rw [hact i _ ℓ (hSlen _)]
        cases hw : wvI ops N T M out i ℓ with
        | none =>
          refine (runTo_same St.at_ act (wvI ops N T M out) (okLen T M) hact hokk hlen0 ℓ l.length fun j hj hwj => ?_)
          rw [hlst']
          by_cases hji : j = i
          · subst hji; rw [hw] at hwj; cases hwj
          · rw [if_neg hji]
        | some c =>
          refine (runTo_last St.at_ act (wvI ops N T M out) (okLen T M) hact hokk hlen0 (by rw [hlst']; simp) hw l.length hil fun j hij hj hlj => ?_).symm
          rw [hlst', if_neg (by omega)] at hlj
          cases hwj : wvI ops N T M out j ℓ with
          | none => rfl
          | some c' =>
            exfalso
            obtain ⟨oj, hoj⟩ : ∃ oj, ops[j]? = some oj := ⟨l[j], by rw [hget _ hj]; exact List.getElem?_eq_getElem hj⟩
            have hn : match (generalizing := false) ℓ with | .tmp t => t ∈ namesOf ops oj | .obj id => id ∈ (recOf N j (st j) oj (out j)).wr ∨ id ∈ (recOf N j (st j) oj (out j)).rd := by
              cases ℓ with
              | tmp t =>
                have := wv_tmp (by rw [hwj]; rfl : (wvI ops N T M out j (.tmp t)).isSome = true)
                rw [hoj] at this
                exact mem_names_dst this
              | obj id =>
                obtain ⟨r, hr, hid⟩ := wv_obj (by rw [hwj]; rfl : (wvI ops N T M out j (.obj id)).isSome = true)
                rw [hr]; exact .inl hid
            rcases hconf i j ℓ hil hj (by omega) (by rw [hw]; rfl) (fun oj' hoj' => by rw [hoj] at hoj'; injection hoj' with hoj'; subst hoj'; exact hn) with hb | hb
            · exact hpost j hj hlj hb
            · have := (close_spec hcl ho (by omega) hb).1; omega
      have hdc' : ∀ j k, j < l.length → k < l.length → lst (listed.setIfInBounds i true) j = true → bef ops k j = true → lst (listed.setIfInBounds i true) k = true := by
        intro j k hj hk hlj hb
        rw [hlst'] at hlj ⊢
        by_cases hki : k = i
        · simp [hki]
        · rw [if_neg hki]
          by_cases hji : j = i
          · subst hji; exact hpre k hk hb
          · rw [if_neg hji] at hlj; exact hdc j k hj hk hlj hb
      have hunl : unl (listed.setIfInBounds i true) + (r0.length + 1) ≤ fuel := by
        have : unl (listed.setIfInBounds i true) < unl listed := by
          refine count_lt (i := i) (by simpa using hil) (fun x hx => ?_) (by simp [hl]) (by simp [Array.getD, hsz, hil'])
          by_cases hxi : x = i
          · subst hxi; simp [Array.getD, hsz, hil'] at hx
          · rw [getD_set_ne true (fun e => hxi e.symm)] at hx; exact hx
        omega
      have hstep := hsteps i o hlo
      have hdst : (ops[i]?).bind (·.dst) = o.dst := by rw [ho]; rfl
      have hnA : ¬ AL listed (N + i) := by
        rintro (h1 | ⟨j, _, hlj, hj, _⟩)
        · omega
        · obtain rfl : j = i := by omega
          rw [hlf] at hlj; cases hlj
      unfold wpOp
      rw [ho]
      simp only
      cases hout : out i with
      | skip =>
        rw [hout] at hstep
        obtain ⟨_, j, want, hg, hy⟩ := hstep
        have hy' : yielded ops a.tmps j ≠ some want := by
          rcases hy with hy | hy
          · rw [yielded_okA hsr (by rw [hyl j want hg]; exact hy : yieldedA ops (S (lst listed)) j = some (!want))]
            cases want <;> simp
          · exact skipped_okA hsr (by rw [hys j want hg]; exact hy)
        rw [if_neg (by simp [Region.wanted, hg, hy'])]
        refine ih _ _ _ ⟨by simp [hsz], hL', hdc', ρ, ?_⟩ hunl
        have hp := hsr.put o.dst (x := skA) (v := undef) (.cond (fun h => by simp at h) (fun _ => rfl))
        have : (S (lst listed)).put o.dst skA = S (lst (listed.setIfInBounds i true)) := by rw [← hnext]; simp [act, actI, actOut, hout, hdst]
        rw [this] at hp
        refine hp.conv fun id => ?_
        simp only [AL]
        constructor
        · rintro (h1 | ⟨j, hj, hlj, hid, hmk⟩)
          · exact .inl h1
          · exact .inr ⟨j, hj, by rw [hlst']; split; rfl; exact hlj, hid, hmk⟩
        · rintro (h1 | ⟨j, hj, hlj, hid, hmk⟩)
          · exact .inl h1
          · rw [hlst'] at hlj
            by_cases hji : j = i
            · subst hji; rw [hout] at hmk; cases hmk
            · rw [if_neg hji] at hlj; exact .inr ⟨j, hj, hlj, hid, hmk⟩
      | did r =>
        rw [hout] at hstep
        obtain ⟨_, hdoes, hgd⟩ := hstep
        have hwant : Region.wanted o (yielded ops a.tmps) = true := by
          cases hg : o.guard with
          | none => simp [Region.wanted, hg]
          | some p =>
            obtain ⟨j, want⟩ := p
            rw [hg] at hgd
            have hy' := yielded_okA hsr (by rw [hyl j want hg]; exact hgd : yieldedA ops (S (lst listed)) j = some want)
            simp [Region.wanted, hg, hy']
        rw [if_pos hwant]
        refine .inl ?_
        have hdoes' : Does P (N + i) (S (lst listed)) o r := by
          rcases hdoes with hr | ⟨c, f, g, first, cap, hcop, hcf, hfv, hspec, hbd, hnone⟩
          · refine .inl ?_
            rw [← hr]
            refine (aop_local hop (fun x hx id hid => ?_)).symm
            have hid' : id ∈ (recOf N i (st i) o (out i)).rd := by
              rw [hout]
              simp only [recOf, topIds, List.mem_filterMap]
              exact ⟨x, by simpa using hx, hid⟩
            have := hagree (.obj id) (.inr hid')
            simp only [St.at_, Cont.obj.injEq] at this
            simp only [St.look, this]
          · have hfm : f ∈ o.op.operands := by rw [hcop]; simp [Op.operands, Call.operands, hcf]
            have ham : c.args.toList.map (st i).op = c.args.toList.map (S (lst listed)).op := List.map_congr_left fun x hx => hop x (by rw [hcop]; simp only [Op.operands, Call.operands, hcf]; simp at hx ⊢; exact .inr hx)
            refine .inr ⟨c, f, g, first, cap, hcop, hcf, by rw [← hop f hfm]; exact hfv, ?_, ?_, hnone⟩
            · rw [← ham]; exact hspec
            · rw [← ham]; exact hbd
        refine does_sound hsr (by rw [(hSlen _).2]; simp only [M]; omega) hnA hdoes' ?_
        intro A' ρ' a' w' hA' hs'
        refine ih _ _ _ ⟨by simp [hsz], hL', hdc', ρ', ?_⟩ hunl
        have : ((S (lst listed)).eff (N + i) r.2).put o.dst r.1 = S (lst (listed.setIfInBounds i true)) := by rw [← hnext]; simp [act, actI, actOut, hout, hdst]
        rw [this] at hs'
        refine hs'.conv fun id => ?_
        rw [hA']
        simp only [AL]
        constructor
        · rintro ((h1 | ⟨j, hj, hlj, hid, hmk⟩) | ⟨hid, hmk⟩)
          · exact .inl h1
          · exact .inr ⟨j, hj, by rw [hlst']; split; rfl; exact hlj, hid, hmk⟩
          · exact .inr ⟨i, hil, by rw [hlst']; simp, hid, by rw [hout]; exact hmk⟩
        · rintro (h1 | ⟨j, hj, hlj, hid, hmk⟩)
          · exact .inl (.inl h1)
          · rw [hlst'] at hlj
            by_cases hji : j = i
            · subst hji; rw [hout] at hmk; exact .inr ⟨hid, hmk⟩
            · rw [if_neg hji] at hlj; exact .inl (.inr ⟨j, hj, hlj, hid, hmk⟩)
  refine wp_region_any hm (main ops.size (Array.replicate ops.size false) a _ ⟨by simp [hsize], by simp [lst, Array.getD], ?_, ρ0, ?_⟩ ?_)
  · intro j k _ _ hlj
    simp [lst, Array.getD] at hlj
  · have h0 : S (lst (Array.replicate ops.size false)) = s0 := by
      have : ∀ m, runTo act s0 (lst (Array.replicate ops.size false)) m = s0 := by
        intro m
        induction m with
        | zero => rfl
        | succ m ih =>
          rw [runTo_succ, ih]
          have : lst (Array.replicate ops.size false) m = false := by simp [lst, Array.getD]
          rw [this]; rfl
      exact this _
    rw [h0]
    have := (hs.extendN l.length).drawn (w.drawn + 1)
    refine this.conv fun id => ?_
    simp only [AL]
    constructor
    · exact .inl
    · rintro (h1 | ⟨j, _, hlj, _⟩)
      · exact h1
      · simp [lst, Array.getD] at hlj
  · simp only [unl, hsize]
    have : ((List.range l.length).filter fun i => !(Array.replicate (l.length + (r0.length + 1)) false).getD i true).length ≤ (List.range l.length).length := List.length_filter_le _ _
    rw [List.length_range] at this
    omega
end
section
variable {P : Program} {Γ : Cx} {n M : Nat} {l : List (Nat × AV)} {os : List (Nat × Option AObj)} {Q : Exit → St → Prop} {ops : Array Oper} {K : St → Prop}
theorem wp_drawT2 {id : Nat} {L : List Oper} (k t : Nat) (hm : P.follows .mixedOrders = true) (he : edgeOk L.toArray = true) (hcl : closeOk L.toArray = true) (hla : lastsOk L.toArray k = true) (hlen : L.length = k + (t + 1))
    (h : RunD P L.toArray M 0 (L.take k) (S n l (M + k) ((List.range k).map (fun i => (M + i, (none : Option AObj))) ++ os)) [] fun rs s' => freeOk L.toArray rs = true ∧ ∀ e, WPT P Γ L.toArray Q (e + (t + 1)) (doneA k (t + 1)) s') : WP P Γ (.region id L.toArray true) Q (S n l M os) := by
  have hk : (L.take k).length = k := by rw [List.length_take]; omega
  obtain ⟨o', r0, ho'⟩ : ∃ o' r0, L.drop k = o' :: r0 := by
    cases hd : L.drop k with
    | nil => have : (L.drop k).length = t + 1 := by rw [List.length_drop]; omega
             rw [hd] at this; cases this
    | cons o r => exact ⟨o, r, rfl⟩
  have hr0 : r0.length = t := by
    have : (L.drop k).length = t + 1 := by rw [List.length_drop]; omega
    rw [ho'] at this; simpa using this
  have hL : L = L.take k ++ o' :: r0 := by rw [← ho', List.take_append_drop]
  generalize L.take k = p at *
  subst hL
  have hM : (S n l M os).objs.length = M := ol_length M os
  refine WP.drawT2 hm he hcl (by rw [hk]; exact hla) ?_
  rw [hM, hk, hr0, S_more]
  exact h
theorem rd_tail2 {N i t : Nat} {la : Array Bool} {s : St} {rs : List Rec} (hf : freeOk ops rs = true) (h : ∀ e, WPT P Γ ops Q (e + (t + 1)) la s) : RunD P ops N i [] s rs fun rs s' => freeOk ops rs = true ∧ ∀ e, WPT P Γ ops Q (e + (t + 1)) la s' := ⟨hf, h⟩
theorem wpo_gt {i j : Nat} {dst : Option Tmp} {op : Op} {ty : TypeId} {pos : String} {af : Array Edge} {want : Bool} {t : Tmp} (ho : ops[i]? = some ⟨dst, op, ty, pos, af, some (j, want)⟩) (ht : (ops[j]?).bind (·.dst) = some t) (hg : opq n l (.tmp t) = some (.val (.bool want)))
    (h : asemC P ops [⟨dst, op, ty, pos, af, none⟩] (S n l M os) K) : WPO P Γ ops Q i K (S n l M os) := by
  intro a w hs
  unfold wpOp
  rw [ho]
  simp only
  obtain ⟨ρ, hρ⟩ := hs
  rw [if_pos (by simp [Region.wanted, yielded_okA hρ (yielded_q ht hg)])]
  exact .inl (asemC_one (o := ⟨dst, op, ty, pos, af, none⟩) rfl ⟨ρ, hρ⟩ h)
theorem wpo_gf {i j : Nat} {d : Tmp} {op : Op} {ty : TypeId} {pos : String} {af : Array Edge} {want : Bool} {t : Tmp} (ho : ops[i]? = some ⟨some d, op, ty, pos, af, some (j, want)⟩) (ht : (ops[j]?).bind (·.dst) = some t) (hg : opq n l (.tmp t) = some (.val (.bool (!want))))
    (h : K (S n ((d, .any) :: l) M os)) : WPO P Γ ops Q i K (S n l M os) := by
  intro a w hs
  unfold wpOp
  rw [ho]
  simp only
  obtain ⟨ρ, hρ⟩ := hs
  have hy := yielded_okA hρ (yielded_q ht hg)
  rw [if_neg (by simp [Region.wanted, hy])]
  refine ⟨_, h, ρ, ?_⟩
  have := hρ.put (some d) (x := .any) (v := undef) .any
  rwa [S_put] at this
end
end Go.Lg

namespace Go.Lg
open Go.Proofs
set_option linter.unusedSimpArgs false
set_option linter.unusedVariables false
attribute [local irreducible] Ap Rq asemC WP RunD Ret Gq thenA inBlockA bodyQ noGotoA RqL RqP OpP
set_option maxHeartbeats 8000000
set_option maxRecDepth 20000
attribute [local simp] AV.cells bd_tabA
theorem StarR.monoB {M M' : Nat → Nat → Prop} {N : Nat} (h : ∀ a b, a ≤ b → b ≤ N → M a b → M' a b) {i k : Nat} (hs : StarR M i k) : k ≤ N → StarR M' i k := by
  induction hs with
  | refl => exact fun _ => .refl _
  | step h1 h2 h3 ih => exact fun hk => .step h1 (h _ _ (by omega) (by have := h3.le; omega) h2) (ih hk)
theorem matE_monoB {R R' : Nat → Nat → Nat → Prop} {nm terms : List ByteArray} {s : List Int} {N : Nat} (hR : ∀ a i k, a < nm.length → i ≤ k → k ≤ N → R a i k → R' a i k) (e : GEx) : ∀ i k, i ≤ k → k ≤ N → matE R nm terms s e i k → matE R' nm terms s e i k := by
  induction e using GEx.ind with
  | h e ih =>
    have hS : ∀ l : List GEx, (∀ x, x ∈ l → x ∈ e.kids) → ∀ i k, i ≤ k → k ≤ N → matS R nm terms s l i k → matS R' nm terms s l i k := by
      intro l
      induction l with
      | nil => intro _ i k _ _ h; rw [matS] at h ⊢; exact h
      | cons x l ihl =>
        intro hl i k hik hk h
        rw [matS] at h ⊢
        obtain ⟨m, h1, h2, h3, h4⟩ := h
        exact ⟨m, h1, h2, ih x (hl x (by simp)) _ _ h1 (by omega) h3, ihl (fun y hy => hl y (by simp [hy])) _ _ h2 hk h4⟩
    have hH : ∀ i k, i ≤ k → k ≤ N → matH R nm terms s e.kids i k → matH R' nm terms s e.kids i k := by
      intro i k hik hkN h
      cases hk : e.kids with
      | nil => rw [hk, matH] at h; exact h.elim
      | cons x l => rw [hk, matH] at h; rw [matH]; exact ih x (by rw [hk]; simp) _ _ hik hkN h
    intro i k hik hk h
    rw [matE_eq] at h ⊢
    split at h
    · rw [if_pos (by assumption)]
      split at h
      · rw [if_pos (by assumption)]
        refine hR _ _ _ ?_ hik hk h
        have : idx nm e.name < nm.length := (indexP_bd (fun x => decide (e.name = x)) nm).2
        omega
      · rw [if_neg (by assumption)]; exact h
    · rw [if_neg (by assumption)]
      split at h
      · rw [if_pos (by assumption)]; exact hS _ (fun _ h => h) _ _ hik hk h
      · rw [if_neg (by assumption)]
        split at h
        · rw [if_pos (by assumption)]
          obtain ⟨x, hx, h⟩ := matA_iff.1 h
          exact matA_iff.2 ⟨x, hx, ih x hx _ _ hik hk h⟩
        · rw [if_neg (by assumption)]
          split at h
          · rw [if_pos (by assumption)]; exact h.imp id (hH _ _ hik hk)
          · rw [if_neg (by assumption)]
            split at h
            · rw [if_pos (by assumption)]; exact h.monoB hH hk
            · rw [if_neg (by assumption)]
              obtain ⟨m, h1, h2, h3, h4⟩ := h
              exact ⟨m, h1, h2, hH _ _ h1 (by omega) h3, h4.monoB hH hk⟩
theorem mtE_congr {T U : Nat → Nat → Nat → Bool} {nm terms : List ByteArray} {s : List Int} {N : Nat} (h : ∀ a i k, a < nm.length → i ≤ k → k ≤ N → T a i k = U a i k) (e : GEx) {i k : Nat} (hik : i ≤ k) (hk : k ≤ N) : mtE T nm terms s e i k = mtE U nm terms s e i k := by
  rw [Bool.eq_iff_iff, mtE_iff e i k hik, mtE_iff e i k hik]
  exact ⟨matE_monoB (fun a i k h1 h2 h3 h4 => by rw [← h a i k h1 h2 h3]; exact h4) e i k hik hk, matE_monoB (fun a i k h1 h2 h3 h4 => by rw [h a i k h1 h2 h3]; exact h4) e i k hik hk⟩
def UnderM (f : GFi) (terms : List ByteArray) (s : List Int) (t : List Bool) : Prop := t.length = f.rules.length * (s.length + 1) * (s.length + 1) ∧ ∀ a b c, a < f.rules.length → b < s.length + 1 → c < s.length + 1 → tb (s.length + 1) t a b c = true → Mat f terms s a b c
open Classical in
noncomputable def matL (f : GFi) (terms : List ByteArray) (s : List Int) : List Bool := (List.range (f.rules.length * (s.length + 1) * (s.length + 1))).map fun j => decide (Mat f terms s (j / (s.length + 1) / (s.length + 1)) (j / (s.length + 1) % (s.length + 1)) (j % (s.length + 1)))
theorem matL_len (f : GFi) (terms : List ByteArray) (s : List Int) : (matL f terms s).length = f.rules.length * (s.length + 1) * (s.length + 1) := by simp [matL]
theorem matL_at {f : GFi} {terms : List ByteArray} {s : List Int} {a b c : Nat} (ha : a < f.rules.length) (hb : b < s.length + 1) (hc : c < s.length + 1) : tb (s.length + 1) (matL f terms s) a b c = true ↔ Mat f terms s a b c := by
  unfold tb matL
  rw [nth_range (tix_lt ha hb hc)]
  obtain ⟨h1, h2, h3⟩ := tix_div (a := a) hb hc
  rw [h1, h2, h3]; simp
def CloA (f : GFi) (terms : List ByteArray) (s : List Int) (t : List Bool) (n k : Nat) : Prop := ∀ i j, i ≤ j → j ≤ s.length → mtE (tb (s.length + 1) t) (ruleNames f) terms s (nth (nth f.rules n).alts k).body i j = true → tb (s.length + 1) t n i j = true
theorem UnderM.eq {f : GFi} {terms : List ByteArray} {s : List Int} {t : List Bool} (h : UnderM f terms s t) (hc : ∀ n k, n < f.rules.length → k < (nth f.rules n).alts.length → CloA f terms s t n k) : t = matL f terms s := by
  have hnl : (ruleNames f).length = f.rules.length := by simp [ruleNames]
  refine tb_ext (by omega) h.1 (matL_len f terms s) fun a b c ha hb hcc => ?_
  rw [matL_at ha hb hcc]
  refine ⟨h.2 a b c ha hb hcc, fun hd => ?_⟩
  exact hd (fun a b c => a < f.rules.length → c < s.length + 1 → tb (s.length + 1) t a b c = true) (fun n k hn hk i j hi hj hb _ _ => by
    refine hc n k hn hk i j hi hj ((mtE_iff _ i j hi).2 ?_)
    exact matE_monoB (N := s.length) (fun a b c h1 h2 h3 h4 => h4 (by omega) (by omega)) _ i j hi hj hb) ha hcc
theorem UnderM.set {f : GFi} {terms : List ByteArray} {s : List Int} {t : List Bool} (h : UnderM f terms s t) {n k : Nat} (hn : n < f.rules.length) (hk : k < (nth f.rules n).alts.length) {i j : Nat} (hi : i ≤ j) (hj : j ≤ s.length) (hb : mtE (tb (s.length + 1) t) (ruleNames f) terms s (nth (nth f.rules n).alts k).body i j = true) : UnderM f terms s (t.set (tix (s.length + 1) n i j) true) := by
  have hnl : (ruleNames f).length = f.rules.length := by simp [ruleNames]
  refine ⟨by rw [List.length_set]; exact h.1, fun a b c ha hb' hc ht => ?_⟩
  rw [tb_set h.1 hn (by omega) (by omega) hb' hc] at ht
  split at ht
  · rename_i e
    obtain ⟨rfl, rfl, rfl⟩ := e
    refine Mat.clo f terms s n k hn hk i j hi hj ?_
    exact matE_monoB (N := s.length) (fun a b c h1 h2 h3 h4 => h.2 a b c (by omega) (by omega) (by omega) h4) _ i j hi hj ((mtE_iff _ i j hi).1 hb)
  · exact h.2 a b c ha hb' hc ht
theorem UnderM.init (f : GFi) (terms : List ByteArray) (s : List Int) : UnderM f terms s (noT f.rules.length (s.length + 1)) := ⟨by simp [noT], fun a b c ha hb hc h => by
  rw [noT_at ha hb hc] at h; cases h⟩
structure MidM (f : GFi) (terms : List ByteArray) (s : List Int) (t u : List Bool) (mo : Bool) (P : Prop) : Prop where
  un : UnderM f terms s u
  le : falses u ≤ falses t
  t1 : mo = true → falses u < falses t
  t0 : mo = false → u = t ∧ P
theorem MidM.mono {f : GFi} {terms : List ByteArray} {s : List Int} {t u : List Bool} {mo : Bool} {P Q : Prop} (h : MidM f terms s t u mo P) (hp : P → Q) : MidM f terms s t u mo Q := ⟨h.un, h.le, h.t1, fun e => ⟨(h.t0 e).1, hp (h.t0 e).2⟩⟩
theorem MidM.set {f : GFi} {terms : List ByteArray} {s : List Int} {t u : List Bool} {mo : Bool} {P Q : Prop} (h : MidM f terms s t u mo P) {n k : Nat} (hn : n < f.rules.length) (hk : k < (nth f.rules n).alts.length) {i j : Nat} (hi : i ≤ j) (hj : j ≤ s.length)
    (hb : mtE (tb (s.length + 1) u) (ruleNames f) terms s (nth (nth f.rules n).alts k).body i j = true) (hno : tb (s.length + 1) u n i j = false) : MidM f terms s t (u.set (tix (s.length + 1) n i j) true) true Q := by
  have hf := falses_set (l := u) (i := tix (s.length + 1) n i j) (by rw [h.un.1]; exact tix_lt hn (by omega) (by omega)) hno
  have := h.le
  exact ⟨h.un.set hn hk hi hj hb, by omega, fun _ => by omega, fun e => by cases e⟩
section
variable {b : AObj} {n m x : Nat} {t : List Bool}
theorem dX_look {id : Nat} (h0 : 1 ≤ id) (h : id < dM n m + 2) : lookq (dM n m + x + 2) (dO b n m t) id = tabO 1 n m t (tabM n m) id := by rw [lookq_lt (by omega), dO_at h0 h]
theorem dX_0 : lookq (dM n m + x + 2) (dO b n m t) 1 = some (.arr 1 ((List.range n).map fun a => rfB 1 (tabM n m) (rid m a) m)) := by
  rw [dX_look (Nat.le_refl _) (by omega)]; exact tabO_0
theorem dX_r {a : Nat} (ha : a < n) : lookq (dM n m + x + 2) (dO b n m t) (1 + rid m a) = some (.arr 1 ((List.range m).map fun b => rfB 1 (tabM n m) (cid m a b) m)) := by
  rw [dX_look (by omega) (by have := rid_lt (m := m) ha; unfold tabM at this; unfold dM; omega)]; exact tabO_r
theorem dX_c {a c : Nat} (ha : a < n) (hc : c < m) : lookq (dM n m + x + 2) (dO b n m t) (1 + cid m a c) = some (.arr 1 ((List.range m).map fun d => boolA (tb m t a c d))) := by
  rw [dX_look (by omega) (by have := cid_lt ha hc; unfold tabM at this; unfold dM; omega)]; exact tabO_c hc
theorem dX_fz : Fz (lookq (dM n m + x + 2) (dO b n m t)) (.ref 1 1 0 n) (tabA n m t) :=
  fz_tab (dX_look (Nat.le_refl _) (by omega)) fun id h => dX_look (by omega) (by unfold tabM at h; unfold dM; omega)
theorem lkO_none {M i : Nat} {F : Nat → Option AObj} (h : M ≤ i) : lkO i (osF M F) = none := by
  have key : ∀ l : List Nat, (∀ j, j ∈ l → j < M) → lkO i (l.map fun i => (i, F i)) = none := by
    intro l
    induction l with
    | nil => intro _; rfl
    | cons a l ih => intro hl; rw [List.map_cons, lkO_ne (by have := hl a (by simp); omega)]; exact ih fun j hj => hl j (by simp [hj])
  exact key _ fun j hj => List.mem_range.1 hj
theorem dO_out {i : Nat} (h : dM n m + 2 ≤ i) : lkO i (dO b n m t) = none := by unfold dO; rw [lkO_ne (by omega), lkO_none h]
theorem dX_bdo (hb : bdo (dM n m + x + 2) b) : ∀ i o, i < dM n m + x + 2 → lkO i (dO b n m t) = some o → bdo (dM n m + x + 2) o := fun i o hi ho => by
  by_cases h : i = 0
  · subst h; unfold dO at ho; rw [lkO_eq] at ho; injection ho with ho; subst ho; exact hb
  · by_cases h2 : i < dM n m + 2
    · rw [dO_at (by omega) h2] at ho; exact tabO_bd (by unfold tabM dM; omega) ho
    · rw [dO_out (by omega)] at ho; cases ho
theorem dX_to {k : Nat} {l l' : List (Nat × AV)} (hb : ∀ N, bdo N b) (ht : toT l l') (hd : bdT (dM n m + x + 2) l' = true) : ∃ is, ToR 0 is (S k l (dM n m + x + 2) (dO b n m t)) (S k l' (dM n m + x + 2) (dO b n m t)) :=
  toR_same ht (fun _ _ => rfl) hd (dX_bdo (hb _)) (Nat.zero_le _)
theorem lk_nones {i M d : Nat} {os : List (Nat × Option AObj)} (h : i < M + d) (ho : M ≤ i → lkO i os = none) : lkO i (((List.range d).map fun j => (M + j, (none : Option AObj))) ++ os) = lkO i os := by
  have key : ∀ l : List Nat, lkO i ((l.map fun j => (M + j, (none : Option AObj))) ++ os) = lkO i os := by
    intro l
    induction l with
    | nil => rfl
    | cons a l ih =>
      by_cases e : M + a = i
      · subst e; rw [List.map_cons, List.cons_append, lkO_eq]; exact (ho (by omega)).symm
      · rw [List.map_cons, List.cons_append, lkO_ne e]; exact ih
  exact key _
theorem dX_drawn {k d : Nat} {l : List (Nat × AV)} : S k l (dM n m + x + 2 + d) (((List.range d).map fun j => (dM n m + x + 2 + j, (none : Option AObj))) ++ dO b n m t) = S k l (dM n m + (x + d) + 2) (dO b n m t) := by
  rw [show dM n m + x + 2 + d = dM n m + (x + d) + 2 by omega]
  unfold S
  rw [ol_congr fun i hi => lk_nones (by omega) fun h => dO_out (by omega)]
theorem dX_cell {k : Nat} {l : List (Nat × AV)} {a c d : Nat} (ht : t.length = n * m * m) (ha : a < n) (hb : c < m) (hc : d < m) :
    S k l (dM n m + x + 2) ((1 + cid m a c, some (.arr 1 (((List.range m).map fun d => boolA (tb m t a c d)).set d (boolA true)))) :: dO b n m t) = S k l (dM n m + x + 2) (dO b n m (t.set (tix m a c d) true)) := by
  unfold S
  rw [ol_congr fun i hi => ?_]
  by_cases h0 : i = 0
  · subst h0; rw [lkO_ne (by omega)]; unfold dO; rw [lkO_eq, lkO_eq]
  · by_cases h2 : i < dM n m + 2
    · rw [dO_at (by omega) h2]
      exact tabO_set ht ha hb hc (fun id h1 h2 => dO_at h1 (by unfold tabM at h2; unfold dM; omega)) i (by omega) (by unfold tabM; unfold dM at h2; omega)
    · have := cid_lt ha hb
      rw [lkO_ne (by unfold tabM at this; unfold dM at h2; omega), dO_out (by omega), dO_out (by omega)]
end
theorem matches_tb (f : GFi) (hf : f.rules.length ≤ 100000) (terms : List ByteArray) (ht : terms.length ≤ 100000) (t : List Bool) (s : List Int) (hs : s.length ≤ 1000000) (e : GEx) (he : ∃ dd, okE e dd = true) (i k : Nat) (hi : i ≤ k) (hk : k ≤ s.length) :
    Fn Tryd.prog 40 [fileA f, strsA terms, tabA f.rules.length (s.length + 1) t, intsA s, exprA e, intA (i : Nat), intA (k : Nat)] (boolA (mtE (tb (s.length + 1) t) (ruleNames f) terms s e i k)) := by
  have hnl : (ruleNames f).length = f.rules.length := by simp [ruleNames]
  rw [← rowsT_A, ← mtE_congr (T := tbL (rowsT f.rules.length (s.length + 1) t)) (N := s.length) (fun a b c h1 h2 h3 => rowsT_at (by omega) (by omega) (by omega)) e hi hk]
  exact matches_fn f hf terms ht _ s ⟨by simp [rowsT], fun a ha => by rw [rowsT, nth_range ha]; simp, fun a b ha hb => by rw [rowsT, nth_range ha, nth_range hb]; simp⟩ hs e he i k hi hk
theorem Matches_fn (f : GFi) (hf : f.rules.length ≤ 200) (hla : ∀ n, n < f.rules.length → (nth f.rules n).alts.length ≤ 100000) (hok : ∀ r, r ∈ f.rules → ∀ a, a ∈ r.alts → ∃ dd, okE a.body dd = true) (terms : List ByteArray) (ht : terms.length ≤ 100000) (s : List Int) (hs : s.length ≤ 100) :
    Fn Tryd.prog 18 [fileA f, strsA terms, intsA s] (tabA f.rules.length (s.length + 1) (matL f terms s)) := by
  refine Fn.intro (by simp [AV.bd, bdL, bdL_append]) (by kernel_rfl) Tryd.func18 rfl rfl Tryd.ntmps18 (by exact Nat.le_of_ble_eq_true rfl) ?_; intro Γ hm
  have ht := table19_fn f.rules.length s.length (by omega) (by omega)
  (repeat' (first | apply jA | apply jF | apply jH | (refine WP.regionC (id := 0) ?_; (refine se_box rfl (by exact ⟨rfl, rfl⟩) ?_); (refine sassign rfl ?_); apply jW) | (refine WP.regionC (id := 1) ?_; (refine sfieldp rfl rfl rfl ?_); (refine sloadp rfl rfl rfl rfl ?_); (refine slenm rfl rfl ?_); (refine smove rfl ?_); (refine slenm rfl rfl ?_); (refine sc_o [] rfl rfl (ht) (Lend.S (by first | ((repeat' first | exact RenL.nil | refine RenL.cons rfl ?_); done) | fail) (by first | ((repeat' (exact LendO.nil)); done) | fail) (by decide) rfl (by simp [AV.bd, bdL, bdL_append]) (by repeat' (exact True.intro))) ?_; simp only [updN, newO, AObj.ren, renL, AV.ren, apx, ap, if_true, if_false, Nat.reduceLT, Nat.reduceAdd, Nat.reduceSub, sO, intA, boolA, strA]); (refine sassign rfl ?_); apply jW) | (refine WP.regionC (id := 2) ?_; (refine sassign rfl ?_); apply jW)))
  rw [S_made]
  clear ht
  have hbx : ∀ N, bdo N (.arr 3 [fileA f]) := fun N => by simp [bdo, bdL]
  refine wp_loop (fun (z : List Bool × Bool × Nat) => UnderM f terms s z.1 ∧ (z.2.1 = false → ∀ n k, n < f.rules.length → k < (nth f.rules n).alts.length → CloA f terms s z.1 n k)) (fun z => 2 * falses z.1 + if z.2.1 then 1 else 0)
    (fun z => S 91 [(1, strsA terms), (2, intsA s), (3, .ptr 0 3 0 0), (7, .ref 1 1 0 f.rules.length), (8, boolA z.2.1)] (dM f.rules.length (s.length + 1) + z.2.2 + 2) (dO (.arr 3 [fileA f]) f.rules.length (s.length + 1) z.1)) (noT f.rules.length (s.length + 1), true, 0) ?_ ⟨UnderM.init f terms s, fun h => by cases h⟩ ?_
  · rw [hm]; exact dX_to (x := 0) hbx (by exact ⟨rfl, rfl, rfl, rfl, rfl, trivial⟩) (by simp [bdT, AV.bd])
  rintro ⟨t, mo, x⟩ ⟨hu, hcl⟩
  dsimp only at hu hcl ⊢
  cases mo with
  | false =>
    (repeat' (first | apply jA | apply jH | apply jJ | apply jK | apply jL | apply jP | apply jS | (refine wp_cond rfl (fun hc => ?_) (fun hc => ?_) <;> (try simp only [sB, ne_eq, reduceCtorEq] at hc) <;> (try (exfalso; omega))) | (refine WP.regionC (id := 3) ?_; (refine smove rfl ?_); apply jW) | (refine WP.regionC (id := 19) ?_; (refine smove rfl ?_); (refine sassign rfl ?_); apply jW)))
    rw [← UnderM.eq hu (hcl rfl)]
    exact ret_1 rfl dX_fz
  | true =>
    (repeat' (first | apply jA | apply jF | apply jH | apply jI | (refine wp_cond rfl (fun hc => ?_) (fun hc => ?_) <;> (try simp only [sB, ne_eq, reduceCtorEq] at hc) <;> (try (exfalso; omega))) | (refine WP.regionC (id := 3) ?_; (refine smove rfl ?_); apply jW) | (refine WP.regionC ?_; (refine sassign rfl ?_); apply jW)))
    refine wp_loop (fun (z : List Bool × Bool × Nat × Nat) => z.2.2.1 ≤ f.rules.length ∧ MidM f terms s t z.1 z.2.1 (∀ n k, n < z.2.2.1 → k < (nth f.rules n).alts.length → CloA f terms s t n k)) (fun z => f.rules.length - z.2.2.1)
      (fun z => S 91 [(1, strsA terms), (2, intsA s), (3, .ptr 0 3 0 0), (7, .ref 1 1 0 f.rules.length), (8, boolA z.2.1), (9, intA (z.2.2.1 : Nat))] (dM f.rules.length (s.length + 1) + z.2.2.2 + 2) (dO (.arr 3 [fileA f]) f.rules.length (s.length + 1) z.1)) (t, false, 0, x) ?_ ⟨Nat.zero_le _, ⟨hu, Nat.le_refl _, fun e => (by cases e), fun _ => ⟨rfl, fun n k hn => absurd hn (Nat.not_lt_zero n)⟩⟩⟩ ?_
    · rw [hm]; exact dX_to hbx (by exact ⟨rfl, rfl, rfl, rfl, rfl, rfl, trivial⟩) (by simp [bdT, AV.bd])
    rintro ⟨u, mo, r, x⟩ ⟨hr, hM⟩
    dsimp only at hr hM ⊢
    by_cases hrl : r < f.rules.length
    rotate_left
    · (repeat' (first | apply jA | apply jH | apply jJ | apply jL | apply jN | apply jP | (refine wp_cond rfl (fun hc => ?_) (fun hc => ?_) <;> (try simp only [sB, ne_eq, reduceCtorEq] at hc) <;> (try (exfalso; omega))) | (refine WP.regionC (id := 6) ?_; (refine smove rfl ?_); (refine sfieldp rfl rfl rfl ?_); (refine sloadp rfl rfl rfl rfl ?_); (refine slenm rfl rfl ?_); (refine slss rfl rfl ?_); apply jW)))
      refine ⟨(u, mo, x), ⟨?_, hM.un, fun e n k hn hk => ?_⟩, ?_⟩
      · have h1 := hM.le
        cases mo with
        | true => have h2 := hM.t1 rfl; simp only [if_true]; omega
        | false => simp; omega
      · obtain ⟨e1, e2⟩ := hM.t0 e
        rw [e1]; exact e2 n k (by omega) hk
      · rw [hm]; exact dX_to hbx (by exact ⟨rfl, rfl, rfl, rfl, rfl, trivial⟩) (by simp [bdT, AV.bd])
    have hla := hla r hrl
    (repeat' (first | apply jA | apply jF | apply jH | apply jI | (refine wp_cond rfl (fun hc => ?_) (fun hc => ?_) <;> (try simp only [sB, ne_eq, reduceCtorEq] at hc) <;> (try (exfalso; omega))) | (refine WP.regionC (id := 6) ?_; (refine smove rfl ?_); (refine sfieldp rfl rfl rfl ?_); (refine sloadp rfl rfl rfl rfl ?_); (refine slenm rfl rfl ?_); (refine slss rfl rfl ?_); apply jW) | (refine WP.regionC (id := 8) ?_; (refine sassign rfl ?_); apply jW)))
    refine wp_loop (fun (z : List Bool × Bool × Nat × Nat) => z.2.2.1 ≤ (nth f.rules r).alts.length ∧ MidM f terms s t z.1 z.2.1 ((∀ n k, n < r → k < (nth f.rules n).alts.length → CloA f terms s t n k) ∧ ∀ k, k < z.2.2.1 → CloA f terms s t r k)) (fun z => (nth f.rules r).alts.length - z.2.2.1)
      (fun z => S 91 [(1, strsA terms), (2, intsA s), (3, .ptr 0 3 0 0), (7, .ref 1 1 0 f.rules.length), (8, boolA z.2.1), (9, intA (r : Nat)), (10, intA (z.2.2.1 : Nat))] (dM f.rules.length (s.length + 1) + z.2.2.2 + 2) (dO (.arr 3 [fileA f]) f.rules.length (s.length + 1) z.1)) (u, mo, 0, x) ?_ ⟨Nat.zero_le _, hM.mono fun p => ⟨p, fun k hk => absurd hk (Nat.not_lt_zero k)⟩⟩ ?_
    · rw [hm]; exact dX_to hbx (by exact ⟨rfl, rfl, rfl, rfl, rfl, rfl, rfl, trivial⟩) (by simp [bdT, AV.bd])
    clear hM
    rintro ⟨u, mo, al, x⟩ ⟨hal, hM⟩
    dsimp only at hal hM ⊢
    by_cases hall : al < (nth f.rules r).alts.length
    rotate_left
    · (repeat' (first | apply jA | apply jH | apply jJ | apply jL | apply jN | apply jP | (refine wp_cond rfl (fun hc => ?_) (fun hc => ?_) <;> (try simp only [sB, ne_eq, reduceCtorEq] at hc) <;> (try (exfalso; omega))) | (refine WP.regionC (id := 9) ?_; (refine smove rfl ?_); (refine sfieldp rfl rfl rfl ?_); (refine sloadp rfl rfl rfl rfl ?_); (refine smove rfl ?_); (refine sidxn rfl rfl (by omega) ?_); (refine su (afieldi rfl rfl rfl) ?_); (refine su (aloadi rfl rfl) ?_); (refine slenm rfl rfl ?_); (refine slss rfl rfl ?_); apply jW) | (refine WP.regionC (id := 7) ?_; (refine smove rfl ?_); (refine sadd rfl rfl (by exact inr_i64_of (by omega)) ?_); (refine sassign rfl ?_); apply jW)))
      refine ⟨(u, mo, r + 1, x), ⟨by dsimp only; omega, by dsimp only; omega, hM.mono fun p n k hn hk => ?_⟩, ?_⟩
      · have hn : n < r + 1 := hn
        by_cases e : n = r
        · subst e; exact p.2 k (by omega)
        · exact p.1 n k (by omega) hk
      · rw [hm]; exact dX_to hbx (by exact ⟨rfl, rfl, rfl, rfl, rfl, rfl, trivial⟩) (by simp [bdT, AV.bd])
    (repeat' (first | apply jA | apply jF | apply jH | apply jI | (refine wp_cond rfl (fun hc => ?_) (fun hc => ?_) <;> (try simp only [sB, ne_eq, reduceCtorEq] at hc) <;> (try (exfalso; omega))) | (refine WP.regionC (id := 9) ?_; (refine smove rfl ?_); (refine sfieldp rfl rfl rfl ?_); (refine sloadp rfl rfl rfl rfl ?_); (refine smove rfl ?_); (refine sidxn rfl rfl (by omega) ?_); (refine su (afieldi rfl rfl rfl) ?_); (refine su (aloadi rfl rfl) ?_); (refine slenm rfl rfl ?_); (refine slss rfl rfl ?_); apply jW) | (refine WP.regionC (id := 11) ?_; (refine sassign rfl ?_); apply jW)))
    refine wp_loop (fun (z : List Bool × Bool × Nat × Nat) => z.2.2.1 ≤ s.length + 1 ∧ MidM f terms s t z.1 z.2.1 (((∀ n k, n < r → k < (nth f.rules n).alts.length → CloA f terms s t n k) ∧ ∀ k, k < al → CloA f terms s t r k) ∧ ∀ i j, i < z.2.2.1 → i ≤ j → j ≤ s.length → mtE (tb (s.length + 1) t) (ruleNames f) terms s (nth (nth f.rules r).alts al).body i j = true → tb (s.length + 1) t r i j = true)) (fun z => s.length + 1 - z.2.2.1)
      (fun z => S 91 [(1, strsA terms), (2, intsA s), (3, .ptr 0 3 0 0), (7, .ref 1 1 0 f.rules.length), (8, boolA z.2.1), (9, intA (r : Nat)), (10, intA (al : Nat)), (11, intA (z.2.2.1 : Nat))] (dM f.rules.length (s.length + 1) + z.2.2.2 + 2) (dO (.arr 3 [fileA f]) f.rules.length (s.length + 1) z.1)) (u, mo, 0, x) ?_ ⟨Nat.zero_le _, hM.mono fun p => ⟨p, fun i j hi => absurd hi (Nat.not_lt_zero i)⟩⟩ ?_
    · rw [hm]; exact dX_to hbx (by exact ⟨rfl, rfl, rfl, rfl, rfl, rfl, rfl, rfl, trivial⟩) (by simp [bdT, AV.bd])
    clear hM
    rintro ⟨u, mo, i, x⟩ ⟨hi, hM⟩
    dsimp only at hi hM ⊢
    by_cases hil : i < s.length + 1
    rotate_left
    · (repeat' (first | apply jA | apply jH | apply jJ | apply jL | apply jN | apply jP | (refine wp_cond rfl (fun hc => ?_) (fun hc => ?_) <;> (try simp only [sB, ne_eq, reduceCtorEq] at hc) <;> (try (exfalso; omega))) | (refine WP.regionC (id := 12) ?_; (refine smove rfl ?_); (refine smove rfl ?_); (refine slenm rfl rfl ?_); (refine su (aleq rfl rfl) ?_); apply jW) | (refine WP.regionC (id := 10) ?_; (refine smove rfl ?_); (refine sadd rfl rfl (by exact inr_i64_of (by omega)) ?_); (refine sassign rfl ?_); apply jW)))
      refine ⟨(u, mo, al + 1, x), ⟨by dsimp only; omega, by dsimp only; omega, hM.mono fun p => ⟨p.1.1, fun k hk => ?_⟩⟩, ?_⟩
      · have hk : k < al + 1 := hk
        by_cases e : k = al
        · subst e; exact fun i' j' h1 h2 hb => p.2 i' j' (by omega) h1 h2 hb
        · exact p.1.2 k (by omega)
      · rw [hm]; exact dX_to hbx (by exact ⟨rfl, rfl, rfl, rfl, rfl, rfl, rfl, trivial⟩) (by simp [bdT, AV.bd])
    (repeat' (first | apply jA | apply jF | apply jH | apply jI | (refine wp_cond rfl (fun hc => ?_) (fun hc => ?_) <;> (try simp only [sB, ne_eq, reduceCtorEq] at hc) <;> (try (exfalso; omega))) | (refine WP.regionC (id := 12) ?_; (refine smove rfl ?_); (refine smove rfl ?_); (refine slenm rfl rfl ?_); (refine su (aleq rfl rfl) ?_); apply jW) | (refine WP.regionC (id := 14) ?_; (refine smove rfl ?_); (refine sassign rfl ?_); apply jW)))
    refine wp_loop (fun (z : List Bool × Bool × Nat × Nat) => (i ≤ z.2.2.1 ∧ z.2.2.1 ≤ s.length + 1) ∧ MidM f terms s t z.1 z.2.1 ((((∀ n k, n < r → k < (nth f.rules n).alts.length → CloA f terms s t n k) ∧ ∀ k, k < al → CloA f terms s t r k) ∧ ∀ i' j, i' < i → i' ≤ j → j ≤ s.length → mtE (tb (s.length + 1) t) (ruleNames f) terms s (nth (nth f.rules r).alts al).body i' j = true → tb (s.length + 1) t r i' j = true) ∧ ∀ j, i ≤ j → j < z.2.2.1 → mtE (tb (s.length + 1) t) (ruleNames f) terms s (nth (nth f.rules r).alts al).body i j = true → tb (s.length + 1) t r i j = true)) (fun z => s.length + 1 - z.2.2.1)
      (fun z => S 91 [(1, strsA terms), (2, intsA s), (3, .ptr 0 3 0 0), (7, .ref 1 1 0 f.rules.length), (8, boolA z.2.1), (9, intA (r : Nat)), (10, intA (al : Nat)), (11, intA (i : Nat)), (12, intA (z.2.2.1 : Nat))] (dM f.rules.length (s.length + 1) + z.2.2.2 + 2) (dO (.arr 3 [fileA f]) f.rules.length (s.length + 1) z.1)) (u, mo, i, x) ?_ ⟨⟨Nat.le_refl _, hi⟩, hM.mono fun p => ⟨p, fun j h1 h2 => absurd h2 (Nat.not_lt.2 h1)⟩⟩ ?_
    · rw [hm]; exact dX_to hbx (by exact ⟨rfl, rfl, rfl, rfl, rfl, rfl, rfl, rfl, rfl, trivial⟩) (by simp [bdT, AV.bd])
    clear hM
    rintro ⟨u, mo, k, x⟩ ⟨⟨hik, hk⟩, hM⟩
    dsimp only at hik hk hM ⊢
    by_cases hkl : k < s.length + 1
    rotate_left
    · (repeat' (first | apply jA | apply jH | apply jJ | apply jL | apply jN | apply jP | (refine wp_cond rfl (fun hc => ?_) (fun hc => ?_) <;> (try simp only [sB, ne_eq, reduceCtorEq] at hc) <;> (try (exfalso; omega))) | (refine WP.regionC (id := 15) ?_; (refine smove rfl ?_); (refine smove rfl ?_); (refine slenm rfl rfl ?_); (refine su (aleq rfl rfl) ?_); apply jW) | (refine WP.regionC (id := 13) ?_; (refine smove rfl ?_); (refine sadd rfl rfl (by exact inr_i64_of (by omega)) ?_); (refine sassign rfl ?_); apply jW)))
      refine ⟨(u, mo, i + 1, x), ⟨by dsimp only; omega, by dsimp only; omega, hM.mono fun p => ⟨p.1.1, fun i' j h0 h1 h2 hb => ?_⟩⟩, ?_⟩
      · have h0 : i' < i + 1 := h0
        by_cases e : i' = i
        · subst e; exact p.2 j h1 (by omega) hb
        · exact p.1.2 i' j (by omega) h1 h2 hb
      · rw [hm]; exact dX_to hbx (by exact ⟨rfl, rfl, rfl, rfl, rfl, rfl, rfl, rfl, trivial⟩) (by simp [bdT, AV.bd])
    (repeat' (first | apply jA | apply jF | apply jH | apply jI | (refine wp_cond rfl (fun hc => ?_) (fun hc => ?_) <;> (try simp only [sB, ne_eq, reduceCtorEq] at hc) <;> (try (exfalso; omega))) | (refine WP.regionC (id := 15) ?_; (refine smove rfl ?_); (refine smove rfl ?_); (refine slenm rfl rfl ?_); (refine su (aleq rfl rfl) ?_); apply jW)))
    by_cases hb : tb (s.length + 1) u r i k = true
    · have hb : tb (s.length + 1) u r i k = true := hb
      refine wp_drawT2 (id := 17) 28 1 mixed (by kernel_rfl) (by kernel_rfl) (by kernel_rfl) rfl ?_
      rw [dX_drawn]
      refine rmove rfl ?_
      refine rmove rfl ?_
      refine rd_u rfl rfl (aidxrn rfl rfl (by omega)) ?_
      refine rloadp (y := .ref (1 + rid (s.length + 1) r) 1 0 (s.length + 1)) rfl dX_0 (by rw [← rf_r hrl]; simp [hrl]) rfl ?_
      refine rmove rfl ?_
      refine rd_u rfl rfl (aidxrn rfl rfl (by omega)) ?_
      refine rloadp (y := .ref (1 + cid (s.length + 1) r i) 1 0 (s.length + 1)) rfl (dX_r hrl) (by rw [← rf_c hrl (by omega : i < s.length + 1)]; simp [show i < s.length + 1 by omega]) rfl ?_
      refine rmove rfl ?_
      refine rd_u rfl rfl (aidxrn rfl rfl (by omega)) ?_
      refine rloadp (y := boolA true) rfl (dX_c hrl (by omega)) (by rw [← hb]; simp [hkl]) rfl ?_
      refine rd_u rfl rfl (anot rfl) ?_
      refine rmove rfl ?_
      refine rd_skip rfl rfl ?_
      refine rd_skip rfl rfl ?_
      refine rd_skip rfl rfl ?_
      refine rd_skip rfl rfl ?_
      refine rd_skip rfl rfl ?_
      refine rd_skip rfl rfl ?_
      refine rd_skip rfl rfl ?_
      refine rd_skip rfl rfl ?_
      refine rd_skip rfl rfl ?_
      refine rd_skip rfl rfl ?_
      refine rd_skip rfl rfl ?_
      refine rd_skip rfl rfl ?_
      refine rd_skip rfl rfl ?_
      refine rd_skip rfl rfl ?_
      refine rd_skip rfl rfl ?_
      refine rd_skip rfl rfl ?_
      refine rd_tail2 (by kernel_rfl) (fun e => ?_)
      refine wpt_all (rs := [28]) (by kernel_rfl) rfl ⟨?_, trivial⟩
      refine wpo_gf rfl rfl rfl ?_
      refine wpt_all (rs := [29]) (by kernel_rfl) rfl ⟨?_, trivial⟩
      refine wpo_do rfl rfl ?_
      refine pk_f (x := boolA false) rfl rfl ?_
      refine asemC_end ?_
      refine wpt_end (by kernel_rfl) ?_
      (repeat' (first | apply jH | apply jI | apply jN | (refine wp_cond rfl (fun hc => ?_) (fun hc => ?_) <;> (try simp only [sB, ne_eq, reduceCtorEq] at hc) <;> (try (exfalso; omega))) | (refine WP.regionC (id := 16) ?_; (refine smove rfl ?_); (refine sadd rfl rfl (by exact inr_i64_of (by omega)) ?_); (refine sassign rfl ?_); apply jW)))
      refine ⟨(u, mo, k + 1, x + 28), ⟨by dsimp only; omega, by dsimp only; omega, ?_⟩, ?_⟩
      · refine ⟨hM.un, hM.le, hM.t1, fun e => ⟨(hM.t0 e).1, (hM.t0 e).2.1, fun k' h1 h2 hmt => ?_⟩⟩
        have h2 : k' < k + 1 := h2
        by_cases ek : k' = k
        · subst ek
          obtain ⟨e1, _⟩ := hM.t0 e
          subst e1
          exact hb
        · exact (hM.t0 e).2.2 k' h1 (by omega) hmt
      · rw [hm]; exact dX_to hbx (by exact ⟨rfl, rfl, rfl, rfl, rfl, rfl, rfl, rfl, rfl, trivial⟩) (by simp [bdT, AV.bd])
    · have hb : tb (s.length + 1) u r i k = false := by simpa using hb
      have hoka := hok _ (nth_mem hrl) _ (nth_mem hall)
      refine wp_drawT2 (id := 17) 28 1 mixed (by kernel_rfl) (by kernel_rfl) (by kernel_rfl) rfl ?_
      rw [dX_drawn]
      refine rmove rfl ?_
      refine rmove rfl ?_
      refine rd_u rfl rfl (aidxrn rfl rfl (by omega)) ?_
      refine rloadp (y := .ref (1 + rid (s.length + 1) r) 1 0 (s.length + 1)) rfl dX_0 (by rw [← rf_r hrl]; simp [hrl]) rfl ?_
      refine rmove rfl ?_
      refine rd_u rfl rfl (aidxrn rfl rfl (by omega)) ?_
      refine rloadp (y := .ref (1 + cid (s.length + 1) r i) 1 0 (s.length + 1)) rfl (dX_r hrl) (by rw [← rf_c hrl (by omega : i < s.length + 1)]; simp [show i < s.length + 1 by omega]) rfl ?_
      refine rmove rfl ?_
      refine rd_u rfl rfl (aidxrn rfl rfl (by omega)) ?_
      refine rloadp (y := boolA false) rfl (dX_c hrl (by omega)) (by rw [← hb]; simp [hkl]) rfl ?_
      refine rd_u rfl rfl (anot rfl) ?_
      refine rmove rfl ?_
      refine rdg_u rfl rfl rfl rfl (aloadpw (x := fileA f) rfl rfl rfl rfl) ?_
      refine gmove rfl rfl rfl ?_
      refine gmove rfl rfl rfl ?_
      refine gmove rfl rfl rfl ?_
      refine gfieldp rfl rfl rfl rfl rfl ?_
      refine gloadp rfl rfl (y := fileA f) (x := grulesA f.rules) rfl rfl rfl rfl ?_
      refine gmove rfl rfl rfl ?_
      refine rdg_u rfl rfl rfl rfl (aidxn rfl rfl (by omega)) ?_
      refine rdg_u rfl rfl rfl rfl (afieldi rfl rfl rfl) ?_
      refine rdg_u rfl rfl rfl rfl (aloadi (x := altsA (nth f.rules r).alts) rfl rfl) ?_
      refine gmove rfl rfl rfl ?_
      refine rdg_u rfl rfl rfl rfl (aidxn rfl rfl (by omega)) ?_
      refine rdg_u rfl rfl rfl rfl (afieldi rfl rfl rfl) ?_
      refine rdg_u rfl rfl rfl rfl (aloadi (x := exprA (nth (nth f.rules r).alts al).body) rfl rfl) ?_
      refine gmove rfl rfl rfl ?_
      refine gmove rfl rfl rfl ?_
      refine rd_tail2 (by kernel_rfl) (fun e => ?_)
      refine wpt_all (rs := [28]) (by kernel_rfl) rfl ⟨?_, trivial⟩
      refine wpo_gt rfl rfl rfl ?_
      refine sc_b rfl rfl (FzL.cons (.reflp (bd_fileA 0 f)) (FzL.cons (.reflp (bd_strsA 0 terms)) (FzL.cons dX_fz (FzL.cons (.reflp (bd_intsA 0 s)) (FzL.cons (.reflp (bd_exprA 0 (nth (nth f.rules r).alts al).body)) (FzL.cons (.reflp rfl) (FzL.cons (.reflp rfl) .nil))))))) (matches_tb f (by omega) terms ht u s (by omega) (nth (nth f.rules r).alts al).body hoka i k hik (by omega)) rfl ?_
      refine asemC_end ?_
      refine wpt_all (rs := [29]) (by kernel_rfl) rfl ⟨?_, trivial⟩
      refine wpo_do rfl rfl ?_
      refine pk_t (x := boolA (mtE (tb (s.length + 1) u) (ruleNames f) terms s (nth (nth f.rules r).alts al).body i k)) rfl rfl ?_
      refine asemC_end ?_
      refine wpt_end (by kernel_rfl) ?_
      (repeat' (first | apply jH | apply jI | apply jN | (refine wp_cond rfl (fun hc => ?_) (fun hc => ?_) <;> (try simp only [sB, ne_eq, reduceCtorEq] at hc) <;> (try (exfalso; omega))) | (refine WP.regionC (id := 16) ?_; (refine smove rfl ?_); (refine sadd rfl rfl (by exact inr_i64_of (by omega)) ?_); (refine sassign rfl ?_); apply jW)))
      · have hc1 : mtE (tb (s.length + 1) u) (ruleNames f) terms s (nth (nth f.rules r).alts al).body i k = true := hc
        refine WP.regionC (id := 18) ?_
        refine smove rfl ?_
        refine smove rfl ?_
        refine su (aidxrn rfl rfl (by omega)) ?_
        refine sloadp (y := .ref (1 + rid (s.length + 1) r) 1 0 (s.length + 1)) rfl dX_0 (by rw [← rf_r hrl]; simp [hrl]) rfl ?_
        refine smove rfl ?_
        refine su (aidxrn rfl rfl (by omega)) ?_
        refine sloadp (y := .ref (1 + cid (s.length + 1) r i) 1 0 (s.length + 1)) rfl (dX_r hrl) (by rw [← rf_c hrl (by omega : i < s.length + 1)]; simp [show i < s.length + 1 by omega]) rfl ?_
        refine smove rfl ?_
        refine su (aidxrn rfl rfl (by omega)) ?_
        refine se_store (es := (List.range (s.length + 1)).map fun d => boolA (tb (s.length + 1) u r i d)) (ed := boolA (tb (s.length + 1) u r i k)) (ed' := boolA true) rfl (dX_c hrl (by omega)) (by simp [hkl]) rfl rfl ?_
        refine sassign rfl ?_
        refine asemC_end ?_
        rw [dX_cell hM.un.1 hrl (by omega) hkl]
        (repeat' (first | apply jH | apply jN | (refine WP.regionC (id := 16) ?_; (refine smove rfl ?_); (refine sadd rfl rfl (by exact inr_i64_of (by omega)) ?_); (refine sassign rfl ?_); apply jW)))
        refine ⟨(u.set (tix (s.length + 1) r i k) true, true, k + 1, x + 28), ⟨by dsimp only; omega, by dsimp only; omega, hM.set hrl hall hik (by omega) hc1 hb⟩, ?_⟩
        rw [hm]; exact dX_to hbx (by exact ⟨rfl, rfl, rfl, rfl, rfl, rfl, rfl, rfl, rfl, trivial⟩) (by simp [bdT, AV.bd])
      · have hc1 : mtE (tb (s.length + 1) u) (ruleNames f) terms s (nth (nth f.rules r).alts al).body i k = false := hc
        refine ⟨(u, mo, k + 1, x + 28), ⟨by dsimp only; omega, by dsimp only; omega, ?_⟩, ?_⟩
        · refine ⟨hM.un, hM.le, hM.t1, fun e => ⟨(hM.t0 e).1, (hM.t0 e).2.1, fun k' h1 h2 hmt => ?_⟩⟩
          have h2 : k' < k + 1 := h2
          by_cases ek : k' = k
          · subst ek
            obtain ⟨e1, _⟩ := hM.t0 e
            subst e1
            (rw [hc1] at hmt; cases hmt)
          · exact (hM.t0 e).2.2 k' h1 (by omega) hmt
        · rw [hm]; exact dX_to hbx (by exact ⟨rfl, rfl, rfl, rfl, rfl, rfl, rfl, rfl, rfl, trivial⟩) (by simp [bdT, AV.bd])
end Go.Lg

namespace Go.Lg
open Go.Proofs
set_option linter.unusedSimpArgs false
set_option linter.unusedVariables false
attribute [local irreducible] Ap Rq asemC WP RunD Ret Gq thenA inBlockA bodyQ noGotoA RqL RqP OpP
set_option maxHeartbeats 4000000
theorem indexFuncS_fn (l : List ByteArray) (g : FuncId) (cap : List AV) (p : ByteArray → Bool) (hcap : ∀ n, bdL n cap = true) (h : ∀ x, x ∈ l → Fn Tryd.prog g (strA x :: cap) (boolA (p x))) :
    Fn Tryd.prog 47 [strsA l, .clo (.func g) [] cap] (intA (indexP p l)) := by
  refine Fn.intro rfl (by kernel_rfl) Tryd.func47 rfl rfl Tryd.ntmps47 (by exact Nat.le_of_ble_eq_true rfl) ?_; intro Γ hm
  refine wp_lens 0 rfl fun h0 => ?_
  rw [lens_strsA] at h0
  (repeat' (first | apply jA | apply jF | apply jH | (refine WP.regionC (id := 0) ?_; (refine sassign rfl ?_); apply jW) | (refine WP.regionC (id := 1) ?_; (refine smove rfl ?_); (refine slenm rfl rfl ?_); (refine smove rfl ?_); apply jW)))
  refine wp_loop (fun k => k ≤ l.length ∧ (l.take k).any p = false) (fun k => l.length - k) (fun k => (S 19 [(0, strsA l), (1, .clo (.func g) [] cap), (7, intA (l.length : Nat)), (8, intA (k : Nat))] 0 [])) 0 ⟨[], ToR.S rfl (by repeat' (first | exact rt_nil | refine rt_e rfl rfl ?_ | refine rt_p rfl rfl (by first | (simp [AV.bd, bdL, bdL_append]; done) | (simp [AV.bd, bdL, bdL_append, *]; done) | fail) ?_)) (by repeat' (exact ro_nil)) rfl (by (rw [hm]; exact rfl)) rfl (by simp [bdT, AV.bd, bdL, bdL_append, *]) (by repeat' (exact True.intro)) (by (rw [hm]; exact Nat.le_of_ble_eq_true rfl))⟩ ⟨Nat.zero_le _, rfl⟩ ?_
  rintro k ⟨hk, hall⟩
  (repeat' (first | apply jA | apply jF | apply jH | apply jI | apply jJ | apply jK | apply jL | apply jM | apply jN | apply jO | apply jP | apply jS | (refine wp_cond rfl (fun hc => ?_) (fun hc => ?_) <;> (try simp only [sB, ne_eq, reduceCtorEq] at hc) <;> (try (exfalso; omega))) | (refine WP.regionC (id := 2) ?_; (refine slss rfl rfl ?_); apply jW) | (refine WP.regionC ?_; (refine smove rfl ?_); (refine sassign rfl ?_); apply jW) | (refine WP.regionC (id := 4) ?_; (refine smove rfl ?_); (refine smove rfl ?_); (refine smove rfl ?_); (refine sidxn rfl rfl (by omega) ?_); (refine sloadw rfl rfl ?_); (refine sc_p rfl rfl (by first | ((repeat' first | refine SubL.cons ?_ ?_ | exact SubL.rfl | exact Sub.refl); done) | fail) (by first | (simp [bdL, bdL_append, AV.bd, *]; done) | fail) (h _ (nth_mem (by omega))) ?_); apply jW) | (refine WP.regionC (id := 6) ?_; (refine sadd rfl rfl (by exact inr_i64_of (by omega)) ?_); (refine smove rfl ?_); apply jW) | (refine WP.regionC (id := 7) ?_; (refine sassign rfl ?_); apply jW) | refine ret_i rfl ?_))
  · exact (indexP_at (by omega) hall hc).symm
  · exact ⟨k + 1, ⟨by omega, by omega, take_any_succ (by omega) hall hc⟩, ⟨[], ToR.S rfl (by repeat' (first | exact rt_nil | refine rt_e rfl rfl ?_ | refine rt_p rfl rfl (by first | (simp [AV.bd, bdL, bdL_append]; done) | (simp [AV.bd, bdL, bdL_append, *]; done) | fail) ?_)) (by repeat' (exact ro_nil)) rfl (by (rw [hm]; exact rfl)) rfl (by simp [bdT, AV.bd, bdL, bdL_append, *]) (by repeat' (exact True.intro)) (by (rw [hm]; exact Nat.le_of_ble_eq_true rfl))⟩⟩
  · exact (indexP_no (by omega) hall).symm
theorem containsFuncS_fn (l : List ByteArray) (g : FuncId) (cap : List AV) (p : ByteArray → Bool) (hcap : ∀ n, bdL n cap = true) (h : ∀ x, x ∈ l → Fn Tryd.prog g (strA x :: cap) (boolA (p x))) :
    Fn Tryd.prog 26 [strsA l, .clo (.func g) [] cap] (boolA (l.any p)) := by
  refine Fn.intro rfl (by kernel_rfl) Tryd.func26 rfl rfl Tryd.ntmps26 (by exact Nat.le_of_ble_eq_true rfl) ?_; intro Γ hm
  (repeat' (first | apply jA | apply jH | apply jK | apply jS | (refine WP.regionC (id := 0) ?_; (refine sassign rfl ?_); apply jW) | (refine WP.regionC (id := 1) ?_; (refine smove rfl ?_); (refine smove rfl ?_); (refine sc_p rfl rfl (by first | ((repeat' first | exact SubL.nil | refine SubL.cons ?_ ?_ | exact Sub.refl); done) | fail) (by first | (simp [bdL, bdL_append, AV.bd, *]; done) | fail) (indexFuncS_fn _ _ _ p hcap h) ?_); (refine su (ageq rfl rfl) ?_); (refine sassign rfl ?_); apply jW) | refine ret_b rfl ?_))
  exact indexP_any
theorem desugar1_fn (terms : List ByteArray) (s : ByteArray) : Fn Tryd.prog 27 [strA s, .iptr [strsA terms] 0] (boolA (terms.any fun x => decide (s = x))) := by
  refine Fn.intro rfl (by kernel_rfl) Tryd.func27 rfl rfl Tryd.ntmps27 (by exact Nat.le_of_ble_eq_true rfl) ?_; intro Γ hm
  (repeat' (first | apply jA | apply jH | apply jK | apply jS | (refine WP.regionC (id := 0) ?_; (refine sassign rfl ?_); apply jW) | (refine WP.regionC (id := 1) ?_; (refine su (aloadi rfl rfl) ?_); (refine smove rfl ?_); (refine sc_p rfl rfl (by first | ((repeat' first | exact SubL.nil | refine SubL.cons ?_ ?_ | exact Sub.refl); done) | fail) (by first | (simp [bdL, bdL_append, AV.bd]; done) | fail) (containsS_fn _ _) ?_); (refine sassign rfl ?_); apply jW) | exact ret_eq rfl rfl rfl))
end Go.Lg
