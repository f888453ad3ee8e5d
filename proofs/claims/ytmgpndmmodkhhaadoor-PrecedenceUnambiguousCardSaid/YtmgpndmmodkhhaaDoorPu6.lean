/-
  Part 6 of the proof of PrecedenceUnambiguousCard: the logic over the model, the functions' contracts and the plain laws.
-/
import Derived.Test.YtmgpndmmodkhhaaDoorPu5
import Derived.Orders

set_option linter.unusedSimpArgs false
set_option linter.unusedVariables false
set_option linter.unusedSectionVars false
set_option linter.defProp false

namespace Go.Lg
open Go.RowKit
def AV.topId : AV -> Option Nat
 | .ref id _ _ _ => some id
 | .ptr id _ _ _ => some id
 | .map id => some id
 | .yld id => some id
 | _ => none
section
variable {P : Program} {look look' : Nat -> Option AObj} {nid : Nat} {ev ev' : Operand -> AV}
theorem loadA_local {ti : TI} {x : AV} (h : ∀ id, x.topId = some id -> look id = look' id) : loadA ti look x = loadA ti look' x := by
 cases x <;> simp only [loadA]
 rw [h _ rfl]
theorem storeA_local {ti : TI} {x y : AV} (h : ∀ id, x.topId = some id -> look id = look' id) : storeA ti look x y = storeA ti look' x y := by
 cases x <;> simp only [storeA]
 rw [h _ rfl]
theorem srcA_local {ti : TI} {x : AV} (h : ∀ id, x.topId = some id -> look id = look' id) : srcA ti look x = srcA ti look' x := by
 unfold srcA
 split
 ·rfl
 ·rw [h _ rfl]
 ·rfl
 ·rfl
 ·rfl
theorem appendA_local {ti : TI} {x y : AV} (h : ∀ id, x.topId = some id -> look id = look' id) (h' : ∀ id, y.topId = some id -> look id = look' id) : appendA ti look x y = appendA ti look' x y := by
 unfold appendA
 rw [srcA_local h']
 congr 1
 split
 ·rfl
 ·rw [h _ rfl]
 ·rfl
theorem bind_congr_r {α β : Type} {o : Option α} {f g : α -> Option β} (h : ∀ x, f x = g x) : o.bind f = o.bind g := by rw [funext h]
theorem convA_local {tj ti : TI} {x : AV} (h : ∀ id, x.topId = some id -> look id = look' id) : convA P look tj ti x = convA P look' tj ti x := by
 unfold convA
 split
 ·rfl
 ·split
  ·split
   ·rfl
   ·rfl
   ·rfl
   ·rw [h _ rfl]
   ·rfl
  ·rfl
theorem lookupA_local {d : TypeDesc} {e : TypeId} {x k : AV} {ok : Bool} (h : ∀ id, x.topId = some id -> look id = look' id) : lookupA P d e look x k ok = lookupA P d e look' x k ok := by
 unfold lookupA
 split
 ·rw [h _ rfl]
 ·rfl
theorem updateA_local {d : TypeDesc} {x k y : AV} (h : ∀ id, x.topId = some id -> look id = look' id) : updateA d look x k y = updateA d look' x k y := by
 unfold updateA
 split
 ·rw [h _ rfl]
 ·rfl
theorem lenOp_local {t : TypeId} {x : AV} (h : ∀ id, x.topId = some id -> look id = look' id) : lenOp P look t x = lenOp P look' t x := by
 unfold lenOp
 congr 1
 funext ti
 split
 ·rfl
 ·rfl
 ·rfl
 ·rfl
 ·rw [h _ rfl]
 ·rfl
theorem map_congr' {α β : Type} {f g : α -> β} {l : List α} (h : ∀ x, x ∈ l -> f x = g x) : l.map f = l.map g := List.map_congr_left h
theorem aop_local {op : Op} (he : ∀ x, x ∈ op.operands -> ev x = ev' x) (hl : ∀ x, x ∈ op.operands -> ∀ id, (ev x).topId = some id -> look id = look' id) : aop P look nid ev op = aop P look' nid ev' op := by
 cases op with
 | move x => simp only [aop]; rw [he x (by simp [Op.operands])]
 | assign x => simp only [aop]; rw [he x (by simp [Op.operands])]
 | nilCheck x => simp only [aop]; rw [he x (by simp [Op.operands])]
 | pick c x y => simp only [aop]; rw [he c (by simp [Op.operands]), he x (by simp [Op.operands]), he y (by simp [Op.operands])]
 | alloc t => rfl
 | box t x => simp only [aop]; rw [he x (by simp [Op.operands])]
 | build t ps =>
  have hp : (ps.toList.map fun p => (p.1, ev p.2)) = ps.toList.map fun p => (p.1, ev' p.2) := map_congr' fun p hp => by rw [he p.2 (by simp only [Op.operands, List.mem_toArray, List.mem_map]; exact ⟨p, hp, rfl⟩)]
  simp only [aop, hp]
 | buildSlice t n ps =>
  have hp : (ps.toList.map fun p => (p.1, ev p.2)) = ps.toList.map fun p => (p.1, ev' p.2) := map_congr' fun p hp => by rw [he p.2 (by simp only [Op.operands, List.mem_toArray, List.mem_map]; exact ⟨p, hp, rfl⟩)]
  simp only [aop, hp]
 | load t x =>
  have h0 := he x (by simp [Op.operands])
  simp only [aop]
  rw [<- h0]
  congr 1; funext ti
  rw [loadA_local (hl x (by simp [Op.operands]))]
 | store t x y =>
  simp only [aop]
  rw [<- he x (by simp [Op.operands]), <- he y (by simp [Op.operands])]
  congr 1; funext ti
  rw [storeA_local (hl x (by simp [Op.operands]))]
 | binOp op t x y t2 => simp only [aop]; rw [he x (by simp [Op.operands]), he y (by simp [Op.operands])]
 | unOp op t x => simp only [aop]; rw [he x (by simp [Op.operands])]
 | convert s t x =>
  simp only [aop]
  refine bind_congr_r fun tj => bind_congr_r fun ti => ?_
  rw [<- he x (by simp [Op.operands]), convA_local (hl x (by simp [Op.operands]))]
 | makeMap t r => cases r <;> rfl
 | lookup t x k ok =>
  simp only [aop]
  refine bind_congr_r fun d => ?_
  rw [<- he x (by simp [Op.operands]), <- he k (by simp [Op.operands]), lookupA_local (hl x (by simp [Op.operands]))]
 | mapUpdate t x k y =>
  simp only [aop]
  refine bind_congr_r fun d => ?_
  rw [<- he x (by simp [Op.operands]), <- he k (by simp [Op.operands]), <- he y (by simp [Op.operands]), updateA_local (hl x (by simp [Op.operands]))]
 | makeFunc fn xs ys =>
  simp only [aop]
  rw [map_congr' (f := ev) (g := ev') fun x hx => he x (by simp [Op.operands]; exact .inl (by simpa using hx)), map_congr' (f := ev) (g := ev') (l := ys.toList) fun x hx => he x (by simp [Op.operands]; exact .inr (by simpa using hx))]
 | makeSlice t x y => simp only [aop]; rw [he x (by simp [Op.operands]), he y (by simp [Op.operands])]
 | slice t x lo hi mx =>
  cases mx with
  | some m => rfl
  | none =>
   have h1 : lo.map ev = lo.map ev' := by cases lo with
    | none => rfl
    | some x => simp only [Option.map_some]; rw [he x (by simp [Op.operands])]
   have h2 : hi.map ev = hi.map ev' := by cases hi with
    | none => rfl
    | some x => simp only [Option.map_some]; rw [he x (by simp [Op.operands])]
   simp only [aop]; rw [he x (by simp [Op.operands]), h1, h2]
 | fieldAddr t x f => simp only [aop]; rw [he x (by simp [Op.operands])]
 | indexAddr t x i => simp only [aop]; rw [he x (by simp [Op.operands]), he i (by simp [Op.operands])]
 | index t x i => simp only [aop]; rw [he x (by simp [Op.operands]), he i (by simp [Op.operands])]
 | field t x i => simp only [aop]; rw [he x (by simp [Op.operands])]
 | extract x i => simp only [aop]; rw [he x (by simp [Op.operands])]
 | call c =>
  obtain ⟨callee, args, argTypes⟩ := c
  obtain ⟨args⟩ := args
  obtain ⟨argTypes⟩ := argTypes
  simp only [aop]
  split
  ·rename_i x t
   have hx : x ∈ (Op.call ⟨.builtin .len, ⟨[x]⟩, ⟨[t]⟩⟩).operands := by simp [Op.operands, Call.operands]
   rw [<- he x hx, lenOp_local (hl x hx)]
  ·rename_i x y t tx
   have hx : x ∈ (Op.call ⟨.builtin .append, ⟨[x, y]⟩, ⟨[t, tx]⟩⟩).operands := by simp [Op.operands, Call.operands]
   have hy : y ∈ (Op.call ⟨.builtin .append, ⟨[x, y]⟩, ⟨[t, tx]⟩⟩).operands := by simp [Op.operands, Call.operands]
   rw [<- he x hx, <- he y hy]
   have : ∀ te, appendA te look (ev x) (ev y) = appendA te look' (ev x) (ev y) := fun te => appendA_local (hl x hx) (hl y hy)
   simp only [this]
  ·rename_i x y t tx
   have hx : x ∈ (Op.call ⟨.builtin .max, ⟨[x, y]⟩, ⟨[t, tx]⟩⟩).operands := by simp [Op.operands, Call.operands]
   have hy : y ∈ (Op.call ⟨.builtin .max, ⟨[x, y]⟩, ⟨[t, tx]⟩⟩).operands := by simp [Op.operands, Call.operands]
   rw [<- he x hx, <- he y hy]
  ·rename_i x y t tx
   have hx : x ∈ (Op.call ⟨.builtin .min, ⟨[x, y]⟩, ⟨[t, tx]⟩⟩).operands := by simp [Op.operands, Call.operands]
   have hy : y ∈ (Op.call ⟨.builtin .min, ⟨[x, y]⟩, ⟨[t, tx]⟩⟩).operands := by simp [Op.operands, Call.operands]
   rw [<- he x hx, <- he y hy]
  ·rfl
 | _ => rfl
end
inductive Out where
 | skip
 | did (r : AV × Eff)
structure Rec where
 dst : Option Tmp
 wr : List Nat
 rd : List Nat
def Eff.ids (nid : Nat) : Eff -> List Nat
 | .none => []
 | .new _ => [nid]
 | .set id _ => [id]
 | .app (Option.none, _) _ => [nid]
 | .app (some id, _) _ => [id, nid]
def blindOp : Op -> Bool
 | .move _ | .assign _ | .indexAddr _ _ _ | .fieldAddr _ _ _ | .binOp _ _ _ _ _ => true
 | _ => false
def rdOps (op : Op) : List Operand := cond (blindOp op) [] op.operands.toList
theorem aop_local2 {P : Program} {nid : Nat} {look look' : Nat -> Option AObj} {ev ev' : Operand -> AV} {op : Op} (he : ∀ x, x ∈ op.operands -> ev x = ev' x) (hl : ∀ x, x ∈ rdOps op -> ∀ id, (ev x).topId = some id -> look id = look' id) : aop P look nid ev op = aop P look' nid ev' op := by
 cases hb : blindOp op with
 | false =>
  refine aop_local he fun x hx => hl x ?_
  unfold rdOps; rw [hb]; simpa using hx
 | true =>
  have h1 : aop P look nid ev op = aop P look nid ev' op := aop_local he fun _ _ _ _ => rfl
  rw [h1]
  cases op <;> first | rfl | cases hb
def topIds (s : St) (o : Oper) : List Nat := (rdOps o.op).filterMap fun x => (s.op x).topId
def FrzL (P : Program) (ev : Operand -> AV) (op : Op) (r : AV × Eff) : Prop :=
 ∃ t n ps ti e te k vs, op = .buildSlice t n ps /\ tinfo P t = some ti /\ ti.elem = some e /\ tinfo P e = some te /\ buildSliceA te n (ps.toList.map fun p => (p.1, ev p.2)) = some (.arr k vs) /\ bdL 0 vs = true /\ r = (.sl k vs, .none)
theorem FrzL.congr {P : Program} {ev ev' : Operand -> AV} {op : Op} {r : AV × Eff} (he : ∀ x, x ∈ op.operands -> ev x = ev' x) (h : FrzL P ev op r) : FrzL P ev' op r := by
 obtain ⟨t, n, ps, ti, e, te, k, vs, rfl, h1, h2, h3, h4, h5, h6⟩ := h
 refine ⟨t, n, ps, ti, e, te, k, vs, rfl, h1, h2, h3, ?_, h5, h6⟩
 rw [<- h4]
 congr 1
 refine List.map_congr_left fun p hp => ?_
 rw [he p.2 (by simp [Op.operands]; exact ⟨p.1, by simpa using hp⟩)]
def Does (P : Program) (nid : Nat) (s : St) (o : Oper) (r : AV × Eff) : Prop :=
 aop P s.look nid s.op o.op = some r \/
  (∃ c f g first cap, o.op = .call c /\ c.callee = .value f /\ s.op f = .clo (.func g) first cap /\ Spec P g (first ++ c.args.toList.map s.op ++ cap) [] (fun x _ => x = r.1 /\ x.bd 0 = true) /\ bdL 0 (first ++ c.args.toList.map s.op ++ cap) = true /\ r.2 = .none) \/
  FrzL P s.op o.op r
def skA : AV := .cond [false] .any
def SkipA (ops : Array Oper) (s : St) (j : Nat) (want : Bool) : Prop := yieldedA ops s j = some (!want) \/ ((ops[j]?).bind (·.dst)).map (fun t => s.tmps.getD t .any) = some skA
def StepD (P : Program) (ops : Array Oper) (N i : Nat) (s : St) (o : Oper) (out : Out) (s' : St) : Prop :=
  match out with
  | .skip => s' = s.put o.dst skA /\ ∃ j want, o.guard = some (j, want) /\ SkipA ops s j want
  | .did r => s' = (s.eff (N + i) r.2).put o.dst r.1 /\ Does P (N + i) s o r /\ match o.guard with
    | none => True
    | some (j, want) => yieldedA ops s j = some want
def recOf (N i : Nat) (s : St) (o : Oper) : Out -> Rec
 | .skip => ⟨o.dst, [], []⟩
 | .did r => ⟨o.dst, r.2.ids (N + i), topIds s o⟩
def RunD (P : Program) (ops : Array Oper) (N : Nat) : Nat -> List Oper -> St -> List Rec -> (List Rec -> St -> Prop) -> Prop
 | _, [], s, rs, K => K rs s
 | i, o :: rest, s, rs, K => ∃ out s', StepD P ops N i s o out s' /\ RunD P ops N (i + 1) rest s' (rs ++ [recOf N i s o out]) K
section points
variable {X L C : Type} (get : X -> L -> C) (act : Nat -> X -> X) (wv : Nat -> L -> Option C) (ok : X -> Prop)
def runTo (act : Nat -> X -> X) (x0 : X) (listed : Nat -> Bool) (m : Nat) : X := (List.range m).foldl (fun x i => if listed i then act i x else x) x0
theorem runTo_succ (x0 : X) (listed : Nat -> Bool) (m : Nat) : runTo act x0 listed (m + 1) = if listed m then act m (runTo act x0 listed m) else runTo act x0 listed m := by
 simp [runTo, List.range_succ]
variable (hact : ∀ i x ℓ, ok x -> get (act i x) ℓ = (wv i ℓ).getD (get x ℓ)) (hok : ∀ i x, ok x -> ok (act i x))
include hok
theorem runTo_ok {x0 : X} (h0 : ok x0) (listed : Nat -> Bool) : ∀ m, ok (runTo act x0 listed m)
  | 0 => h0
  | m + 1 => by
    rw [runTo_succ]; split
    · exact hok _ _ (runTo_ok h0 listed m)
    · exact runTo_ok h0 listed m
include hact
theorem runTo_same {x0 : X} (h0 : ok x0) {listed listed' : Nat -> Bool} (ℓ : L) : ∀ m, (∀ i, i < m -> (wv i ℓ).isSome = true -> listed i = listed' i) -> get (runTo act x0 listed m) ℓ = get (runTo act x0 listed' m) ℓ
  | 0, _ => rfl
  | m + 1, h => by
    have ih := runTo_same h0 ℓ m fun i hi => h i (by omega)
    rw [runTo_succ, runTo_succ]
    cases hw : wv m ℓ with
    | none =>
      have e : ∀ l : Nat -> Bool, get (if l m then act m (runTo act x0 l m) else runTo act x0 l m) ℓ = get (runTo act x0 l m) ℓ := fun l => by
        split
        · rw [hact _ _ _ (runTo_ok act ok hok h0 l m), hw]; rfl
        · rfl
      rw [e, e, ih]
    | some c =>
      rw [h m (by omega) (by simp [hw])]
      split
      · rw [hact _ _ _ (runTo_ok act ok hok h0 _ m), hact _ _ _ (runTo_ok act ok hok h0 _ m), hw]; rfl
      · exact ih
theorem runTo_last {x0 : X} (h0 : ok x0) {listed : Nat -> Bool} {ℓ : L} {i : Nat} {c : C} (hl : listed i = true) (hw : wv i ℓ = some c) : ∀ m, i < m -> (∀ j, i < j -> j < m -> listed j = true -> wv j ℓ = none) -> get (runTo act x0 listed m) ℓ = c
  | 0, h, _ => by omega
  | m + 1, h, hn => by
    rw [runTo_succ]
    by_cases hi : i = m
    · subst hi
      rw [if_pos hl, hact _ _ _ (runTo_ok act ok hok h0 _ _), hw]; rfl
    · have ih := runTo_last h0 hl hw m (by omega) fun j hj hj' => hn j hj (by omega)
      split
      · rename_i hlm
        rw [hact _ _ _ (runTo_ok act ok hok h0 _ _), hn m (by omega) (by omega) hlm]
        exact ih
      · exact ih
end points
def bef (ops : Array Oper) (i j : Nat) : Bool := ((Region.before ops).getD j 0).testBit i
def closeOk (ops : Array Oper) : Bool :=
 (List.range ops.size).all fun j => (List.range ops.size).all fun k => !bef ops k j ||
  (decide (k < j) && match ops[j]? with
   | some o => o.after.any fun e => Region.binds .any e && (e.on == k || bef ops k e.on)
   | none => false)
def namesOf (ops : Array Oper) (o : Oper) : List Tmp :=
 o.dst.toList ++ (o.op.operands.toList.filterMap fun | .tmp t => some t | _ => none) ++ match o.guard with
  | some (j, _) => ((ops[j]?).bind (·.dst)).toList
  | none => []
def freeOk (ops : Array Oper) (rs : List Rec) : Bool :=
 (List.range ops.size).all fun i => (List.range ops.size).all fun j => i == j || bef ops i j || bef ops j i ||
  match ops[i]?, ops[j]?, rs[i]?, rs[j]? with
  | some oi, some oj, some ri, some rj => (match oi.dst with | some t => !(namesOf ops oj).contains t | none => true) && (match ri.dst with | some t => !(namesOf ops oj).contains t | none => true) &&
    ri.wr.all fun id => !(rj.wr.contains id) && !(rj.rd.contains id)
  | _, _, _, _ => false
theorem free_spec {ops : Array Oper} {rs : List Rec} (h : freeOk ops rs = true) {i j : Nat} {oi oj : Oper} {ri rj : Rec} (hi : ops[i]? = some oi) (hj : ops[j]? = some oj) (hri : rs[i]? = some ri) (hrj : rs[j]? = some rj) (hne : i ≠ j) :
  bef ops i j = true \/ bef ops j i = true \/ ((∀ t, oi.dst = some t -> t ∉ namesOf ops oj) /\ ∀ id, id ∈ ri.wr -> id ∉ rj.wr /\ id ∉ rj.rd) := by
 unfold freeOk at h
 rw [List.all_eq_true] at h
 have h1 := h i (List.mem_range.2 (Array.getElem?_eq_some_iff.1 hi).1)
 rw [List.all_eq_true] at h1
 have h2 := h1 j (List.mem_range.2 (Array.getElem?_eq_some_iff.1 hj).1)
 simp only [hi, hj, hri, hrj, Bool.or_eq_true, beq_iff_eq, hne, false_or, Bool.and_eq_true, List.all_eq_true, Bool.not_eq_true'] at h2
 rcases h2 with (h2 | h2) | h2
 ·exact .inl h2
 ·exact .inr (.inl h2)
 ·refine .inr (.inr ⟨fun t ht hm => ?_, fun id hid => ?_⟩)
  ·have := h2.1.1
   rw [ht] at this
   simp at this
   exact this hm
  ·have := h2.2 id hid
   simp at this
   exact this
theorem close_spec {ops : Array Oper} (h : closeOk ops = true) {k j : Nat} {o : Oper} (hj : ops[j]? = some o) (hk : k < ops.size) (hb : bef ops k j = true) :
  k < j /\ ∃ e, e ∈ o.after /\ Region.binds .any e = true /\ (e.on = k \/ bef ops k e.on = true) := by
 unfold closeOk at h
 rw [List.all_eq_true] at h
 have h1 := h j (List.mem_range.2 (Array.getElem?_eq_some_iff.1 hj).1)
 rw [List.all_eq_true] at h1
 have h2 := h1 k (List.mem_range.2 hk)
 simp only [hb, Bool.not_true, Bool.false_or, hj, Bool.and_eq_true, decide_eq_true_eq] at h2
 refine ⟨h2.1, ?_⟩
 obtain ⟨e, he, hbe⟩ := Array.any_eq_true'.1 h2.2
 simp only [Bool.and_eq_true, Bool.or_eq_true, beq_iff_eq] at hbe
 exact ⟨e, he, hbe.1, hbe.2⟩
inductive Loc where
 | tmp (t : Nat)
 | obj (id : Nat)
inductive Cont where
 | tmp (x : Option AV)
 | obj (x : Option (Option AObj))
def St.at_ (s : St) : Loc -> Cont
 | .tmp t => .tmp s.tmps[t]?
 | .obj id => .obj s.objs[id]?
theorem St.ext_at {s s' : St} (h : ∀ ℓ, s.at_ ℓ = s'.at_ ℓ) : s = s' := by
 obtain ⟨t, o⟩ := s
 obtain ⟨t', o'⟩ := s'
 have h1 : t = t' := List.ext_getElem? fun i => by have := h (.tmp i); simpa [St.at_] using this
 have h2 : o = o' := List.ext_getElem? fun i => by have := h (.obj i); simpa [St.at_] using this
 rw [h1, h2]
def actOut (N i : Nat) (dst : Option Tmp) : Out -> St -> St
 | .skip, s => s.put dst skA
 | .did r, s => (s.eff (N + i) r.2).put dst r.1
def effAt (nid : Nat) : Eff -> Nat -> Option (Option AObj)
 | .none, _ => none
 | .new o, id => if nid = id then some (some o) else none
 | .set i o, id => if i = id then some (some o) else none
 | .app (Option.none, xs) k, id => if nid = id then some (some (.arr k xs)) else none
 | .app (Option.some i, xs) k, id => if nid = id then some (some (.arr k xs)) else if i = id then some Option.none else Option.none
def outAt (N i T M : Nat) (dst : Option Tmp) (out : Out) : Loc -> Option Cont
 | .tmp t => if dst = some t /\ t < T then some (.tmp (some (match out with | .skip => skA | .did r => r.1))) else none
 | .obj id => if id < M then (match out with | .skip => none | .did r => (effAt (N + i) r.2 id).map fun x => .obj (some x)) else none
theorem eff_tmps (s : St) (nid : Nat) (e : Eff) : (s.eff nid e).tmps = s.tmps := by
 cases e with
 | app r k => obtain ⟨q, xs⟩ := r; cases q <;> rfl
 | _ => rfl
theorem eff_at (s : St) (nid : Nat) (e : Eff) (id : Nat) (hid : id < s.objs.length) : (s.eff nid e).objs[id]? = ((effAt nid e id).map some).getD s.objs[id]? := by
 cases e with
 | none => rfl
 | new o => simp only [St.eff, St.set, effAt, List.getElem?_set]; split <;> simp_all
 | set i o => simp only [St.eff, St.set, effAt, List.getElem?_set]; split <;> simp_all
 | app r k =>
  obtain ⟨q, xs⟩ := r
  cases q with
  | none => simp only [St.eff, St.appended, St.set, effAt, List.getElem?_set]; split <;> simp_all
  | some i =>
   simp only [St.eff, St.appended, St.grow, St.set, effAt, List.getElem?_set, List.length_set]
   split
   ·simp_all
   ·split <;> simp_all
theorem eff_len (s : St) (nid : Nat) (e : Eff) : (s.eff nid e).objs.length = s.objs.length := by
 cases e with
 | app r k => obtain ⟨q, xs⟩ := r; cases q <;> simp [St.eff, St.appended, St.grow]
 | _ => simp [St.eff]
theorem put_len (s : St) (d : Option Tmp) (x : AV) : (s.put d x).tmps.length = s.tmps.length := by cases d <;> simp [St.put]
theorem put_at (s : St) (d : Option Tmp) (x : AV) (t : Nat) (ht : t < s.tmps.length) : (s.put d x).tmps[t]? = if d = some t then some x else s.tmps[t]? := by
 cases d with
 | none => simp [St.put]
 | some d => simp only [St.put, List.getElem?_set, Option.some.injEq]; split <;> simp_all
def okLen (T M : Nat) (s : St) : Prop := s.tmps.length = T /\ s.objs.length = M
theorem act_len {N i T M : Nat} {dst : Option Tmp} {out : Out} {s : St} (h : okLen T M s) : okLen T M (actOut N i dst out s) := by
 cases out with
 | skip => exact ⟨by simp only [actOut, put_len]; exact h.1, by simp only [actOut, St.put_objs]; exact h.2⟩
 | did r => exact ⟨by simp only [actOut, put_len, eff_tmps]; exact h.1, by simp only [actOut, St.put_objs, eff_len]; exact h.2⟩
theorem act_at {N i T M : Nat} {dst : Option Tmp} {out : Out} {s : St} (h : okLen T M s) (ℓ : Loc) : (actOut N i dst out s).at_ ℓ = (outAt N i T M dst out ℓ).getD (s.at_ ℓ) := by
 cases ℓ with
 | tmp t =>
  simp only [St.at_, outAt]
  by_cases ht : t < T
  ·have ht' : t < s.tmps.length := by rw [h.1]; exact ht
   cases out with
   | skip => simp only [actOut, put_at _ _ _ _ ht']; split <;> simp_all
   | did r =>
    have : t < (s.eff (N + i) r.2).tmps.length := by rw [eff_tmps]; exact ht'
    simp only [actOut, put_at _ _ _ _ this, eff_tmps]; split <;> simp_all
  ·have h1 : (actOut N i dst out s).tmps[t]? = none := List.getElem?_eq_none (by rw [(act_len h).1]; omega)
   have h2 : s.tmps[t]? = none := List.getElem?_eq_none (by rw [h.1]; omega)
   rw [h1, h2, if_neg (by omega)]; rfl
 | obj id =>
  simp only [St.at_, outAt]
  by_cases hid : id < M
  ·rw [if_pos hid]
   cases out with
   | skip => simp [actOut]
   | did r =>
    simp only [actOut, St.put_objs]
    rw [eff_at _ _ _ _ (by rw [h.2]; exact hid)]
    cases effAt (N + i) r.2 id <;> rfl
  ·have h1 : (actOut N i dst out s).objs[id]? = none := List.getElem?_eq_none (by rw [(act_len h).2]; omega)
   have h2 : s.objs[id]? = none := List.getElem?_eq_none (by rw [h.2]; omega)
   rw [h1, h2, if_neg hid]; rfl
section
variable {P : Program} {Γ : Cx} {A : Nat -> Prop} {ρ : Nat -> Option Nat} {s : St} {a : Act} {w : World}
theorem SRa.more (h : SRa Γ A ρ s a w) {A' : Nat -> Prop} (hA : ∀ id, A id -> A' id) (hb : ∀ id, A' id -> id < s.objs.length) : SRa Γ A' ρ s a w :=
 h.turn rfl (fun id hid => ⟨hA id hid, rfl⟩) (fun _ hb => ⟨hb, rfl⟩) (fun _ _ hn => hn) (fun id o hl => (h.obj id o hl).mono (fun id hid => ⟨hA id hid, rfl⟩) (fun _ hb => ⟨hb, rfl⟩) (fun _ _ hn => hn) (fun _ _ => rfl)) (fun id o hl => hA _ (h.made id o hl)) hb h.own h.inj h.fr
theorem SRa.extendN (h : SRa Γ A ρ s a w) : ∀ n, SRa Γ A ρ { s with objs := s.objs ++ List.replicate n none } a w
  | 0 => by simpa using h
  | n + 1 => by
    have := (h.extendN n).extend
    simp only [St.ext, List.append_assoc] at this
    rwa [<- List.replicate_succ'] at this
theorem skipped_okA (h : SRa Γ A ρ s a w) {ops : Array Oper} {j : Nat} {want : Bool} (hy : ((ops[j]?).bind (·.dst)).map (fun t => s.tmps.getD t .any) = some skA) : yielded ops a.tmps j ≠ some want := by
 unfold yielded
 cases hd : (ops[j]?).bind (·.dst) with
 | none => simp [hd] at hy
 | some t =>
  simp only [hd, Option.map_some, Option.some.injEq] at hy
  simp only [Option.bind_some]
  have ht : t < s.tmps.length := by
   rcases Nat.lt_or_ge t s.tmps.length with h1 | h1
   ·exact h1
   ·simp [List.getD, List.getElem?_eq_none h1, skA] at hy
  have h1 : s.tmps[t]? = some skA := by
   rw [List.getElem?_eq_getElem ht]; simp [List.getD, ht] at hy; rw [hy]
  have h2 : a.tmps[t]? = some (a.tmps[t]'(by rw [h.len]; exact ht)) := Array.getElem?_eq_getElem (by rw [h.len]; exact ht)
  have h3 := h.tmp t _ _ h1 h2
  unfold skA at h3
  cases h3 with
  | cond _ hu =>
   rw [h2, hu rfl]
   simp [undef]
theorem yielded_okA (h : SRa Γ A ρ s a w) {ops : Array Oper} {j : Nat} {b : Bool} (hy : yieldedA ops s j = some b) : yielded ops a.tmps j = some b := by
 unfold yieldedA at hy
 unfold yielded
 cases hd : (ops[j]?).bind (·.dst) with
 | none => simp [hd] at hy
 | some t =>
  simp only [hd, Option.map_some] at hy
  simp only [Option.bind_some]
  split at hy
  ·rename_i b' hb
   injection hb with hb
   injection hy with hy
   subst hy
   have ht : t < s.tmps.length := by
    rcases Nat.lt_or_ge t s.tmps.length with h1 | h1
    ·exact h1
    ·simp [List.getD, List.getElem?_eq_none h1] at hb
   have h1 : s.tmps[t]? = some (.val (.bool b')) := by
    rw [List.getElem?_eq_getElem ht]; simp [List.getD, ht] at hb; rw [hb]
   have h2 : a.tmps[t]? = some (a.tmps[t]'(by rw [h.len]; exact ht)) := Array.getElem?_eq_getElem (by rw [h.len]; exact ht)
   have := (h.tmp t _ _ h1 h2).val_eq
   rw [h2, this]
  ·cases hy
theorem buildSlice_run {P : Program} {Γ : Cx} {A : Nat -> Prop} {ρ : Nat -> Option Nat} {s : St} {w : World} {t e : TypeId} {ti te : TI} (ht : tinfo P t = some ti) (he : ti.elem = some e) (hte : tinfo P e = some te) {n : Nat} {parts : List (Nat × AV)} {pv : Array (Nat × Value)}
  (hl : pv.size = parts.length) (hr : ∀ (m : Nat) p q, parts[m]? = some p -> pv[m]? = some q -> q.1 = p.1 /\ RV A ρ (Im Γ ρ s w) w p.2 q.2) {k : Nat} {es : List AV} (ho : buildSliceA te n parts = some (.arr k es)) :
  ∃ cs, (Instr.buildSlice t n pv).run P w = .ok (.slice (some ⟨w.heap.size, 0, none⟩) n n) (w.alloc (.cells cs e)) /\ Row A ρ (Im Γ ρ s w) w k es cs /\ es.length = n /\ n <= maxLen := by
 have hu := elem_spec ht he
 unfold buildSliceA at ho
 split at ho
 ·rename_i h0
  subst h0
  split at ho
  ·rename_i hp
   injection ho with ho
   injection ho with ho1 ho2
   subst ho1 ho2
   have hpv : pv = #[] := by
    have : parts = [] := by simpa using hp
    subst this
    exact Array.eq_empty_of_size_eq_zero (by simpa using hl)
   subst hpv
   refine ⟨#[], ?_, ⟨by simp [flat], by simp, by simp [flat], by simp [flat]⟩, rfl, by simp⟩
   have h00 : ∀ g : Nat -> Value, (Array.range 0).map g = #[] := fun g => by apply Array.eq_empty_of_size_eq_zero; simp
   simp only [Instr.buildSlice, Sem.run_bind, run_underlying hu, Result.andThen_ok, run_sizeOf hte, Nat.zero_mul, h00]
   simp [Instr.fill, newRow]
  ·cases ho
 ·rename_i h0
  obtain ⟨z, hz, ho⟩ := bind_some ho
  split at ho
  ·rename_i hbig
   obtain ⟨es', hes, hoo⟩ := Option.map_eq_some_iff.1 ho
   injection hoo with ho1 ho2
   subst ho1 ho2
   obtain ⟨zv, hrun, hzc, hcells, hall, hlen, hs0, hst, i, hi, hzi, hsz, hby⟩ := zeroA_spec hte hz
   have hzs : zv.cells.size = te.size := by rw [<- Array.length_toList, hzc, hlen]
   have hcr : CR A ρ (Im Γ ρ s w) w (flat (List.replicate n z)) (madeCells zv.cells (n * te.size)).toList := by
    rw [made_eq zv n te.size hzs hs0]; exact cr_replicate (by rw [hcells, hzc]) (by rw [hzc]; exact hall) n
   have hw : ∀ e, e ∈ List.replicate n z -> e.cells.length = te.size := fun e he => by rw [(List.mem_replicate.1 he).2, hcells]; simpa using hlen
   obtain ⟨cs', hcs, hcr', hk', hlen'⟩ := fillE_sound parts pv.toList (List.replicate n z) es' (madeCells zv.cells (n * te.size)) hw hcr (by simpa using hl) (fun m p q hp hq => hr m p q hp (by simpa using hq)) hes
   have hrow := hcr'.row hk' []
   simp only [List.append_nil, Array.toArray_toList] at hrow
   have hnpos : ¬ n * te.size = 0 := by simp only [Nat.mul_eq_zero]; omega
   have hmx : n <= maxLen := by
    have : n * 1 <= n * te.size := Nat.mul_le_mul_left _ (by omega)
    simp only [maxLen]; omega
   refine ⟨cs', ?_, hrow, by rw [hlen']; simp, hmx⟩
   have hnb : ¬ (16777216 < n * te.size) := by omega
   have hfill : Instr.fill (fun i => some (i * te.size, te.size)) ((Array.range (n * te.size)).map (zv.cells[· % zv.cells.size]!)) pv.toList = some cs' := hcs
   simp only [Instr.buildSlice, Sem.run_bind, run_underlying hu, Result.andThen_ok, run_sizeOf hte]
   rw [if_neg (by simpa using hnb), if_neg hnpos]
   simp [hrun, hfill, newRow]
  ·cases ho
theorem SRa.newFrz {Γ : Cx} {A : Nat -> Prop} {ρ : Nat -> Option Nat} {s : St} {a : Act} {w : World} (h : SRa Γ A ρ s a w) {k n : Nat} {es : List AV} {cs : Array Value} (t : TypeId) (hr : Row A ρ (Im Γ ρ s w) w k es cs) (hb : bdL 0 es = true) (hl : es.length = n) (hmx : n <= maxLen) :
  SRa Γ A ρ s a (w.alloc (.cells cs t)) /\ RV A ρ (Im Γ ρ s (w.alloc (.cells cs t))) (w.alloc (.cells cs t)) (.sl k es) (.slice (some ⟨w.heap.size, 0, none⟩) n n) := by
 have hblk : ∀ id o b, s.live id o -> ρ id = some b -> b < w.heap.size := by
  intro id o b hl hb
  have := h.obj id o hl
  rw [hb] at this
  cases o with
  | arr k es => obtain ⟨cs, t, h1, _⟩ := this; exact World.lt_of_block h1
  | map m => obtain ⟨cs, t, h1, _⟩ := this; exact World.lt_of_block h1
  | bytes l => obtain ⟨cs, h1, _⟩ := this; exact World.lt_of_block h1
  | bld T x => obtain ⟨p, v, h1, _⟩ := this; exact World.lt_of_block h1
  | lop c ts => obtain ⟨tm, df, h1, _⟩ := this; exact World.lt_of_block h1
  | itr i n l => obtain ⟨b', sn, h1, _⟩ := this; exact World.lt_of_block h1
 have hI : ∀ b, Im Γ ρ s w b -> Im Γ ρ s (w.alloc (.cells cs t)) b /\ (w.alloc (.cells cs t)).heap[b]? = w.heap[b]? := by
  rintro b ⟨h1, h2, h3⟩
  exact ⟨⟨h1, by simp; omega, h3⟩, Below.heap_alloc _ _ _ h2⟩
 refine ⟨h.turn rfl (fun _ hi => ⟨hi, rfl⟩) hI (csize_alloc w _) (fun id o hl => (h.obj id o hl).mono (fun _ hi => ⟨hi, rfl⟩) hI (csize_alloc w _) (fun c hc => Below.heap_alloc _ _ _ (hblk id o c hl hc))) (fun id o hl => h.made id o hl) h.bound h.own h.inj (h.fr.alloc _), ?_⟩
 have hblk0 := heap_alloc_new w (.cells cs t)
 have hIb : Im Γ ρ s (w.alloc (.cells cs t)) w.heap.size := by
  refine ⟨.inr h.fr.size, World.lt_of_block hblk0, fun i o hl hr => ?_⟩
  have := hblk i o _ hl hr
  omega
 have hflat := flat_length hr.wide
 have key : RV A ρ (Im Γ ρ s (w.alloc (.cells cs t))) (w.alloc (.cells cs t)) (.sl k es) (.slice (some ⟨w.heap.size, 0 * k, none⟩) es.length n) := by
  refine .sl (fun j => cs.getD j undef) ⟨by omega, by omega⟩ hIb (fun e he => hr.wide e he) (fun j hj => ?_) (fun j hj => ?_) (fun j x hx => ?_)
  ·have : j < cs.size := Nat.lt_of_lt_of_le hj hr.len
   rw [cell_of_block hblk0]; simp [Array.getD, this]
  ·have : j < cs.size := Nat.lt_of_lt_of_le hj hr.len
   exact hr.atoms j _ hj (by simp [Array.getD, this])
  ·have hj := (List.getElem?_eq_some_iff.1 hx).1
   have : j < cs.size := Nat.lt_of_lt_of_le hj hr.len
   exact (hr.vals j x _ hx (by simp [Array.getD, this])).pure (flat_bd hb x (List.mem_of_getElem? hx)) hI (csize_alloc w _)
 rw [hl, Nat.zero_mul] at key
 exact key
def Out.makes : Out -> Bool
 | .did (_, .new _) | .did (_, .app _ _) => true
 | _ => false
theorem does_sound (h : SRa Γ A ρ s a w) {nid : Nat} (hn : nid < s.objs.length) (hA : ¬ A nid) {o : Oper} {r : AV × Eff} (hd : Does P nid s o r) {K : Act -> World -> Prop} {QQ : Exit -> Act -> World -> Prop}
  (hK : ∀ (A' : Nat -> Prop) ρ' a' w', (∀ id, A' id ↔ A id \/ (id = nid /\ (Out.did r).makes = true)) -> SRa Γ A' ρ' ((s.eff nid r.2).put o.dst r.1) a' w' -> K a' w') : o.wp P a w K QQ := by
 rcases hd with hr | ⟨c, f, g, first, cap, hop, hf, hfv, hspec, hbd, hnone⟩ | ⟨t, n, ps, ti, e, te, k, vs, hop, ht, he, hte, hbs, hbd, rfl⟩
 ·obtain ⟨nx, v, w', ρ', hrun, hnx, hs, hv⟩ := aop_sound (P := P) h hn hA hr
  have hput := hs.put o.dst hv
  have hiff : ∀ id, Eff.made A nid r.2 id ↔ A id \/ (id = nid /\ (Out.did r).makes = true) := by
   intro id
   obtain ⟨x, e⟩ := r
   cases e <;> simp [Eff.made, Out.makes]
  unfold Oper.wp
  rw [hrun]
  rcases hnx with rfl | ⟨rfl, rfl⟩
  ·exact hK _ ρ' _ _ hiff hput
  ·exact hK _ ρ' _ _ hiff hput
 ·obtain ⟨x, e⟩ := r
  simp only at hnone hspec
  subst hnone
  have hfe := h.eval f
  rw [hfv] at hfe
  obtain ⟨us, hrun, hcall⟩ := call_core (post := fun y => y = x) hspec hbd h hfe (vs := c.args.toList.map a.eval) (by simp) (fun i y v hy hv => by
   simp only [List.getElem?_map, Option.map_eq_some_iff] at hy hv
   obtain ⟨p, hp, rfl⟩ := hy
   obtain ⟨q, hq, rfl⟩ := hv
   rw [hp] at hq; injection hq with hq; subst hq
   exact h.eval p)
  unfold Oper.wp
  have hex : (execOp a.eval o).run P w = .ok (.enter g us) w := by
   have e1 : (c.args.map a.eval) = (c.args.toList.map a.eval).toArray := by apply Array.ext'; simp
   rw [<- hrun w]
   simp only [execOp, hop, resolve, hf, e1]
  rw [hex]
  simp only [Oper.upon]
  refine hcall.mono ?_
  rintro e w' ⟨y, v, rfl, rfl, hw', hrv⟩
  exact hK A ρ _ _ (fun id => by simp [Out.makes]) (hw'.put o.dst hrv)
 ·obtain ⟨cs, hrun, hrow, hlen, hmx⟩ := buildSlice_run (Γ := Γ) (A := A) (ρ := ρ) (s := s) (w := w) (pv := ps.map fun p => (p.1, a.eval p.2)) ht he hte (by simp) (fun m p q hp hq => by
   simp only [List.getElem?_map, Option.map_eq_some_iff] at hp
   simp only [Array.getElem?_map, Option.map_eq_some_iff] at hq
   obtain ⟨u, hu, rfl⟩ := hp
   obtain ⟨v, hv, rfl⟩ := hq
   rw [Array.getElem?_toList] at hu
   rw [hu] at hv; injection hv with hv; subst hv
   exact ⟨rfl, h.eval u.2⟩) hbs
  obtain ⟨h1, h2⟩ := h.newFrz e hrow hbd hlen hmx
  unfold Oper.wp
  have hex : (execOp a.eval o).run P w = .ok (.value (.slice (some ⟨w.heap.size, 0, none⟩) n n)) (w.alloc (.cells cs e)) := by
   simp [execOp, hop, hrun]
  rw [hex]
  exact hK A ρ _ _ (fun id => by simp [Out.makes]) (h1.put o.dst h2)
end
section
variable {P : Program} {ops : Array Oper} {N : Nat} {K : List Rec -> St -> Prop}
theorem stepD_act {i : Nat} {s s' : St} {o : Oper} {out : Out} (h : StepD P ops N i s o out s') : s' = actOut N i o.dst out s := by
 cases out with
 | skip => exact h.1
 | did r => exact h.1
theorem RunD.unpack : ∀ (rest : List Oper) (i : Nat) (s : St) (rs : List Rec), RunD P ops N i rest s rs K ->
    ∃ (out : Nat -> Out) (st : Nat -> St), st i = s /\ (∀ m o, rest[m]? = some o -> StepD P ops N (i + m) (st (i + m)) o (out (i + m)) (st (i + m + 1))) /\
      ∃ rs', rs'.length = rest.length /\ (∀ m o, rest[m]? = some o -> rs'[m]? = some (recOf N (i + m) (st (i + m)) o (out (i + m)))) /\ K (rs ++ rs') (st (i + rest.length))
  | [], i, s, rs, h => ⟨fun _ => .skip, fun _ => s, rfl, by simp, [], rfl, by simp, by simpa [RunD] using h⟩
  | o :: rest, i, s, rs, h => by
    obtain ⟨out0, s1, hstep, h⟩ := h
    obtain ⟨out, st, hst, hsteps, rs', hlen, hrec, hK⟩ := RunD.unpack rest (i + 1) s1 _ h
    refine ⟨fun m => if m = i then out0 else out m, fun m => if m = i then s else st m, by simp, ?_, recOf N i s o out0 :: rs', by simp [hlen], ?_, ?_⟩
    · intro m o' ho'
      cases m with
      | zero =>
        simp only [List.getElem?_cons_zero, Option.some.injEq] at ho'
        subst ho'
        simpa [hst] using hstep
      | succ m =>
        have := hsteps m o' (by simpa using ho')
        simp only [show i + (m + 1) = i + 1 + m by omega]
        rw [if_neg (by omega), if_neg (by omega), if_neg (by omega)]
        exact this
    · intro m o' ho'
      cases m with
      | zero =>
        simp only [List.getElem?_cons_zero, Option.some.injEq] at ho'
        subst ho'
        simp
      | succ m =>
        have := hrec m o' (by simpa using ho')
        simp only [show i + (m + 1) = i + 1 + m by omega]
        rw [if_neg (by omega), if_neg (by omega)]
        simpa using this
    · simp only [List.length_cons, show i + (rest.length + 1) = i + 1 + rest.length by omega]
      rw [if_neg (by omega)]
      simpa using hK
end
def edgeOk (ops : Array Oper) : Bool :=
 (List.range ops.size).all fun i => match ops[i]? with
  | some o => o.after.all fun e => !Region.binds .any e || (decide (e.on < i) && bef ops e.on i)
  | none => true
theorem edge_spec {ops : Array Oper} (h : edgeOk ops = true) {i : Nat} {o : Oper} (hi : ops[i]? = some o) {e : Edge} (he : e ∈ o.after) (hb : Region.binds .any e = true) : e.on < i /\ bef ops e.on i = true := by
 unfold edgeOk at h
 rw [List.all_eq_true] at h
 have h1 := h i (List.mem_range.2 (Array.getElem?_eq_some_iff.1 hi).1)
 simp only [hi] at h1
 have h2 := Array.all_eq_true_iff_forall_mem.1 h1 e he
 simpa [hb] using h2
theorem count_lt {p q : Nat -> Bool} : ∀ {l : List Nat} {i : Nat}, i ∈ l -> (∀ x, q x = true -> p x = true) -> p i = true -> q i = false -> (l.filter q).length < (l.filter p).length
  | x :: l, i, hi, hpq, hp, hq => by
    have mono : ∀ l : List Nat, (l.filter q).length <= (l.filter p).length := by
      intro l
      induction l with
      | nil => simp
      | cons y l ih =>
        simp only [List.filter_cons]
        cases hqy : q y with
        | true => rw [hpq y hqy]; simpa using ih
        | false =>
          simp only [Bool.false_eq_true, if_false]
          split
          · simp only [List.length_cons]; omega
          · exact ih
    rcases List.mem_cons.1 hi with rfl | hi
    · simp only [List.filter_cons, hp, hq, if_true, Bool.false_eq_true, if_false, List.length_cons]
      have := mono l; omega
    · have ih := count_lt hi hpq hp hq
      simp only [List.filter_cons]
      cases hqx : q x with
      | true => rw [hpq x hqx]; simpa using ih
      | false =>
        simp only [Bool.false_eq_true, if_false]
        split
        · simp only [List.length_cons]; omega
        · exact ih
section
variable {P : Program} {Γ : Cx} {ops : Array Oper} {N T M : Nat} {out : Nat -> Out} {s0 : St}
def actI (ops : Array Oper) (N : Nat) (out : Nat -> Out) (i : Nat) : St -> St := actOut N i ((ops[i]?).bind (·.dst)) (out i)
def wvI (ops : Array Oper) (N T M : Nat) (out : Nat -> Out) (i : Nat) : Loc -> Option Cont := outAt N i T M ((ops[i]?).bind (·.dst)) (out i)
theorem actI_at (i : Nat) (x : St) (ℓ : Loc) (h : okLen T M x) : (actI ops N out i x).at_ ℓ = (wvI ops N T M out i ℓ).getD (x.at_ ℓ) := act_at h ℓ
theorem actI_len (i : Nat) (x : St) (h : okLen T M x) : okLen T M (actI ops N out i x) := act_len h
theorem runTo_cut (act : Nat -> St -> St) (x0 : St) (i : Nat) : ∀ n, i <= n -> runTo act x0 (fun j => decide (j < i)) n = runTo act x0 (fun _ => true) i
  | 0, h => by
    obtain rfl : i = 0 := by omega
    rfl
  | n + 1, h => by
    rw [runTo_succ]
    by_cases hi : i = n + 1
    · subst hi
      simp only [show n < n + 1 by omega, decide_true, if_true]
      rw [runTo_succ]
      simp only [if_true]
      congr 1
      clear h
      have : ∀ m, m <= n -> runTo act x0 (fun j => decide (j < n + 1)) m = runTo act x0 (fun _ => true) m := by
        intro m
        induction m with
        | zero => intro _; rfl
        | succ m ih =>
          intro hm
          rw [runTo_succ, runTo_succ, ih (by omega)]
          simp only [show m < n + 1 by omega, decide_true, if_true]
      exact this n (Nat.le_refl _)
    · rw [if_neg (by simp; omega)]
      exact runTo_cut act x0 i n (by omega)
theorem mem_names_op {ops : Array Oper} {o : Oper} {t : Tmp} (h : Operand.tmp t ∈ o.op.operands) : t ∈ namesOf ops o := by
 simp only [namesOf, List.mem_append, List.mem_filterMap]
 exact .inl (.inr ⟨.tmp t, by simpa using h, rfl⟩)
theorem mem_names_dst {ops : Array Oper} {o : Oper} {t : Tmp} (h : o.dst = some t) : t ∈ namesOf ops o := by
 simp [namesOf, h]
theorem mem_names_guard {ops : Array Oper} {o : Oper} {t : Tmp} {j : Nat} {want : Bool} (hg : o.guard = some (j, want)) (h : (ops[j]?).bind (·.dst) = some t) : t ∈ namesOf ops o := by
 simp [namesOf, hg, h]
theorem effAt_ids {nid : Nat} {e : Eff} {id : Nat} (h : (effAt nid e id).isSome = true) : id ∈ e.ids nid := by
 cases e with
 | none => simp [effAt] at h
 | new o => simp only [effAt] at h; split at h <;> simp_all [Eff.ids]
 | set i o => simp only [effAt] at h; split at h <;> simp_all [Eff.ids]
 | app r k =>
  obtain ⟨q, xs⟩ := r
  cases q with
  | none => simp only [effAt] at h; split at h <;> simp_all [Eff.ids]
  | some i =>
   simp only [effAt] at h
   split at h
   ·simp_all [Eff.ids]
   ·split at h <;> simp_all [Eff.ids]
theorem wv_tmp {i t : Nat} (h : (wvI ops N T M out i (.tmp t)).isSome = true) : (ops[i]?).bind (·.dst) = some t := by
 simp only [wvI, outAt] at h
 split at h
 ·rename_i hc; exact hc.1
 ·cases h
theorem wv_obj {i id : Nat} (h : (wvI ops N T M out i (.obj id)).isSome = true) : ∃ r, out i = .did r /\ id ∈ r.2.ids (N + i) := by
 simp only [wvI, outAt] at h
 split at h
 ·cases ho : out i with
  | skip => simp [ho] at h
  | did r => exact ⟨r, rfl, effAt_ids (by simpa [ho] using h)⟩
 ·cases h
theorem getD_false {listed : Array Bool} {i : Nat} (h : i < listed.size) : listed.getD i true = listed.getD i false := by simp [Array.getD, h]
set_option maxHeartbeats 1000000 in
theorem draw_any {l : List Oper} {s : St} {Q : Exit -> St -> Prop} (he : edgeOk l.toArray = true) (hcl : closeOk l.toArray = true)
  (h : RunD P l.toArray s.objs.length 0 l { s with objs := s.objs ++ List.replicate l.length none } [] fun rs s' => freeOk l.toArray rs = true /\ Q .normal s') (a : Act) (w : World) (hs : SR Γ s a w) :
  wpAny P .any l.toArray (fun e a' w' => ∃ s', Q e s' /\ SR Γ s' a' w') l.toArray.size (Array.replicate l.toArray.size false) a { w with drawn := w.drawn + 1 } := by
 obtain ⟨ρ0, hs⟩ := hs
 obtain ⟨out, st, hst0, hsteps, rs, hrl, hrec, hfree, hQ⟩ := RunD.unpack l 0 _ [] h
 simp only [Nat.zero_add, List.nil_append] at hsteps hrec hfree hQ
 generalize hops : l.toArray = ops at *
 have hget : ∀ i : Nat, ops[i]? = l[i]? := fun i => by rw [<- hops]; simp
 have hsize : ops.size = l.length := by rw [<- hops]; simp
 generalize hN : s.objs.length = N at *
 let s0 : St := { s with objs := s.objs ++ List.replicate l.length none }
 let T := s.tmps.length
 let M := N + l.length
 have hlen0 : okLen T M s0 := ⟨rfl, by simp [s0, M, hN]⟩
 let act := actI ops N out
 have hstA : ∀ i, i <= l.length -> st i = runTo act s0 (fun _ => true) i := by
  intro i
  induction i with
  | zero => intro _; exact hst0
  | succ i ih =>
   intro hi
   have ho : l[i]? = some l[i] := List.getElem?_eq_getElem (by omega)
   have := stepD_act (hsteps i _ ho)
   rw [this, ih (by omega), runTo_succ]
   simp only [if_true, act, actI, hget, ho, Option.bind_some]
 have hstC : ∀ i, i <= l.length -> st i = runTo act s0 (fun j => decide (j < i)) l.length := fun i hi => by rw [hstA i hi, runTo_cut act s0 i l.length hi]
 let S (lst : Nat -> Bool) : St := runTo act s0 lst l.length
 have hact : ∀ i x ℓ, okLen T M x -> (act i x).at_ ℓ = (wvI ops N T M out i ℓ).getD (x.at_ ℓ) := fun i x ℓ hx => actI_at i x ℓ hx
 have hokk : ∀ i x, okLen T M x -> okLen T M (act i x) := fun i x hx => actI_len i x hx
 have hSlen : ∀ lst, okLen T M (S lst) := fun lst => runTo_ok act (okLen T M) hokk hlen0 lst l.length
 have hconf : ∀ i j ℓ, i < l.length -> j < l.length -> i ≠ j -> (wvI ops N T M out i ℓ).isSome = true ->
   (∀ oj, ops[j]? = some oj -> match ℓ with | .tmp t => t ∈ namesOf ops oj | .obj id => id ∈ (recOf N j (st j) oj (out j)).wr \/ id ∈ (recOf N j (st j) oj (out j)).rd) -> bef ops i j = true \/ bef ops j i = true := by
  intro i j ℓ hi hj hne hw hn
  have hoi : l[i]? = some l[i] := List.getElem?_eq_getElem hi
  have hoj : l[j]? = some l[j] := List.getElem?_eq_getElem hj
  have hn := hn l[j] (by rw [hget]; exact hoj)
  rcases free_spec hfree (by rw [hget]; exact hoi) (by rw [hget]; exact hoj) (hrec i _ hoi) (hrec j _ hoj) hne with h1 | h1 | ⟨h1, h2⟩
  ·exact .inl h1
  ·exact .inr h1
  ·exfalso
   cases ℓ with
   | tmp t =>
    have := wv_tmp hw
    rw [hget, hoi] at this
    exact h1 t this hn
   | obj id =>
    obtain ⟨r, hr, hid⟩ := wv_obj hw
    have := h2 id (by rw [hr]; exact hid)
    exact hn.elim this.1 this.2
 let lst (listed : Array Bool) (i : Nat) : Bool := listed.getD i false
 let AL (listed : Array Bool) (id : Nat) : Prop := id < N \/ ∃ i, i < l.length /\ lst listed i = true /\ id = N + i /\ (out i).makes = true
 let Inv (listed : Array Bool) (a : Act) (w : World) : Prop := listed.size = l.length /\ (∀ j k, j < l.length -> k < l.length -> lst listed j = true -> bef ops k j = true -> lst listed k = true) /\ ∃ ρ, SRa Γ (AL listed) ρ (S (lst listed)) a w
 let unl (listed : Array Bool) : Nat := ((List.range l.length).filter fun i => !listed.getD i true).length
 have fin : ∀ listed a w, Inv listed a w -> Region.ready .any ops listed = [] -> (fun e a' w' => ∃ s', Q e s' /\ SR Γ s' a' w') Exit.normal a w := by
  rintro listed a w ⟨hsz, hdc, ρ, hsr⟩ hr
  have hall : ∀ n i, i < n -> i < l.length -> lst listed i = true := by
   intro n
   induction n with
   | zero => intro i hi; omega
   | succ n ih =>
    intro i hi hil
    by_cases hin : i < n
    ·exact ih i hin hil
    ·obtain rfl : i = n := by omega
     cases hl : lst listed i with
     | true => rfl
     | false =>
      exfalso
      have hoi : l[i]? = some l[i] := List.getElem?_eq_getElem hil
      have hmem : i ∈ Region.ready .any ops listed := by
       rw [mem_ready]
       refine ⟨by rw [getD_false (by omega)]; exact hl, l[i], by rw [hget]; exact hoi, fun e hee hb => ?_⟩
       have hon := (edge_spec he (by rw [hget]; exact hoi) hee hb).1
       exact ih e.on hon (by omega)
      rw [hr] at hmem
      simp at hmem
  have hSt : S (lst listed) = st l.length := by
   rw [hstC l.length (Nat.le_refl _)]
   exact St.ext_at fun ℓ => runTo_same St.at_ act (wvI ops N T M out) (okLen T M) hact hokk hlen0 ℓ l.length fun i hi _ => by rw [hall (i + 1) i (by omega) hi]; simp [hi]
  rw [hSt] at hsr
  have hlenst : (st l.length).objs.length = M := by rw [hstC l.length (Nat.le_refl _)]; exact (runTo_ok act (okLen T M) hokk hlen0 _ _).2
  refine ⟨st l.length, hQ, ρ, hsr.more (fun i hi => hsr.bound i hi) (fun i hi => hi)⟩
 have main : ∀ fuel listed a w, Inv listed a w -> unl listed <= fuel -> wpAny P .any ops (fun e a' w' => ∃ s', Q e s' /\ SR Γ s' a' w') fuel listed a w := by
  intro fuel
  induction fuel with
  | zero =>
   intro listed a w hinv hu
   have hr : Region.ready .any ops listed = [] := by
    cases hr : Region.ready .any ops listed with
    | nil => rfl
    | cons i rest =>
     exfalso
     have hmem : i ∈ Region.ready .any ops listed := by rw [hr]; simp
     obtain ⟨hl, o, ho, _⟩ := mem_ready.1 hmem
     have hil : i < l.length := by rw [<- hsize]; exact (Array.getElem?_eq_some_iff.1 ho).1
     have : i ∈ (List.range l.length).filter fun i => !listed.getD i true := List.mem_filter.2 ⟨List.mem_range.2 hil, by rw [hl]; rfl⟩
     have := List.length_pos_of_mem this
     simp only [unl] at hu
     omega
   exact ⟨hr, fin listed a w hinv hr⟩
  | succ fuel ih =>
   intro listed a w hinv hu
   refine ⟨fin listed a w hinv, fun i hi => ?_⟩
   obtain ⟨hl, o, ho, hed⟩ := mem_ready.1 hi
   have hil : i < l.length := by rw [<- hsize]; exact (Array.getElem?_eq_some_iff.1 ho).1
   have hlo : l[i]? = some o := by rw [<- hget]; exact ho
   obtain ⟨hsz, hdc, ρ, hsr⟩ := hinv
   have hlf : lst listed i = false := by simp only [lst]; rw [<- getD_false (by omega)]; exact hl
   have hlst' : ∀ j, lst (listed.setIfInBounds i true) j = if j = i then true else lst listed j := by
    intro j
    by_cases hji : j = i
    ·subst hji; simp [lst, Array.getD, hsz, hil]
    ·simp only [lst]; rw [getD_set_ne false (fun e => hji e.symm), if_neg hji]
   have hpre : ∀ k, k < l.length -> bef ops k i = true -> lst listed k = true := by
    intro k hk hb
    obtain ⟨_, e, hee, hbb, hor⟩ := close_spec hcl ho (by omega) hb
    have hon := hed e hee hbb
    rcases hor with rfl | hor
    ·exact hon
    ·exact hdc e.on k (by have := (edge_spec he ho hee hbb).1; omega) hk hon hor
   have hpost : ∀ j, j < l.length -> lst listed j = true -> bef ops i j = true -> False := fun j hj hlj hb => by
    have := hdc j i hj hil hlj hb
    rw [hlf] at this; cases this
   have hagree : ∀ ℓ, (match ℓ with | .tmp t => t ∈ namesOf ops o | .obj id => id ∈ (recOf N i (st i) o (out i)).wr \/ id ∈ (recOf N i (st i) o (out i)).rd) -> (S (lst listed)).at_ ℓ = (st i).at_ ℓ := by
    intro ℓ hn
    rw [hstC i (by omega)]
    refine runTo_same St.at_ act (wvI ops N T M out) (okLen T M) hact hokk hlen0 ℓ l.length fun j hj hw => ?_
    by_cases hji : j = i
    ·subst hji; simp [hlf]
    ·rcases hconf j i ℓ hj hil hji hw (fun oj hoj => by rw [ho] at hoj; injection hoj with hoj; subst hoj; exact hn) with hb | hb
     ·have h1 := hpre j hj hb
      have h2 := (close_spec hcl ho (by omega) hb).1
      simp [h1, h2]
     ·have h1 : lst listed j = false := by
       cases hlj : lst listed j with
       | false => rfl
       | true => exact (hpost j hj hlj hb).elim
      obtain ⟨oj, hoj⟩ : ∃ oj, ops[j]? = some oj := ⟨l[j], by rw [hget]; exact List.getElem?_eq_getElem hj⟩
      have h2 := (close_spec hcl hoj (by omega) hb).1
      rw [h1, decide_eq_false (by omega)]
   have htmp : ∀ t, t ∈ namesOf ops o -> (S (lst listed)).tmps[t]? = (st i).tmps[t]? := fun t ht => by have := hagree (.tmp t) ht; simpa [St.at_] using this
   have hop : ∀ x, x ∈ o.op.operands -> (st i).op x = (S (lst listed)).op x := by
    intro x hx
    cases x with
    | tmp t => simp only [St.op, List.getD]; rw [htmp t (mem_names_op hx)]
    | _ => rfl
   have hyl : ∀ j want, o.guard = some (j, want) -> yieldedA ops (S (lst listed)) j = yieldedA ops (st i) j := by
    intro j want hg
    unfold yieldedA
    cases hd : (ops[j]?).bind (·.dst) with
    | none => rfl
    | some t => simp only [Option.map_some, List.getD]; rw [htmp t (mem_names_guard hg hd)]
   have hys : ∀ j want, o.guard = some (j, want) -> ((ops[j]?).bind (·.dst)).map (fun t => (S (lst listed)).tmps.getD t .any) = ((ops[j]?).bind (·.dst)).map (fun t => (st i).tmps.getD t .any) := by
    intro j want hg
    cases hd : (ops[j]?).bind (·.dst) with
    | none => rfl
    | some t => simp only [Option.map_some, List.getD]; rw [htmp t (mem_names_guard hg hd)]
   have hnext : act i (S (lst listed)) = S (lst (listed.setIfInBounds i true)) := by
    refine St.ext_at fun ℓ => ?_
    rw [hact i _ ℓ (hSlen _)]
    cases hw : wvI ops N T M out i ℓ with
    | none =>
     refine (runTo_same St.at_ act (wvI ops N T M out) (okLen T M) hact hokk hlen0 ℓ l.length fun j hj hwj => ?_)
     rw [hlst']
     by_cases hji : j = i
     ·subst hji; rw [hw] at hwj; cases hwj
     ·rw [if_neg hji]
    | some c =>
     refine (runTo_last St.at_ act (wvI ops N T M out) (okLen T M) hact hokk hlen0 (by rw [hlst']; simp) hw l.length hil fun j hij hj hlj => ?_).symm
     rw [hlst', if_neg (by omega)] at hlj
     cases hwj : wvI ops N T M out j ℓ with
     | none => rfl
     | some c' =>
      exfalso
      obtain ⟨oj, hoj⟩ : ∃ oj, ops[j]? = some oj := ⟨l[j], by rw [hget]; exact List.getElem?_eq_getElem hj⟩
      have hn : match (generalizing := false) ℓ with | .tmp t => t ∈ namesOf ops oj | .obj id => id ∈ (recOf N j (st j) oj (out j)).wr \/ id ∈ (recOf N j (st j) oj (out j)).rd := by
       cases ℓ with
       | tmp t =>
        have := wv_tmp (by rw [hwj]; rfl : (wvI ops N T M out j (.tmp t)).isSome = true)
        rw [hoj] at this
        exact mem_names_dst this
       | obj id =>
        obtain ⟨r, hr, hid⟩ := wv_obj (by rw [hwj]; rfl : (wvI ops N T M out j (.obj id)).isSome = true)
        rw [hr]; exact .inl hid
      rcases hconf i j ℓ hil hj (by omega) (by rw [hw]; rfl) (fun oj' hoj' => by rw [hoj] at hoj'; injection hoj' with hoj'; subst hoj'; exact hn) with hb | hb
      ·exact hpost j hj hlj hb
      ·have := (close_spec hcl ho (by omega) hb).1; omega
   have hdc' : ∀ j k, j < l.length -> k < l.length -> lst (listed.setIfInBounds i true) j = true -> bef ops k j = true -> lst (listed.setIfInBounds i true) k = true := by
    intro j k hj hk hlj hb
    rw [hlst'] at hlj ⊢
    by_cases hki : k = i
    ·simp [hki]
    ·rw [if_neg hki]
     by_cases hji : j = i
     ·subst hji; exact hpre k hk hb
     ·rw [if_neg hji] at hlj; exact hdc j k hj hk hlj hb
   have hunl : unl (listed.setIfInBounds i true) <= fuel := by
    have : unl (listed.setIfInBounds i true) < unl listed := by
     refine count_lt (i := i) (by simpa using hil) (fun x hx => ?_) (by simp [hl]) (by simp [Array.getD, hsz, hil])
     by_cases hxi : x = i
     ·subst hxi; simp [Array.getD, hsz, hil] at hx
     ·rw [getD_set_ne true (fun e => hxi e.symm)] at hx; exact hx
    omega
   have hstep := hsteps i o hlo
   have hdst : (ops[i]?).bind (·.dst) = o.dst := by rw [ho]; rfl
   have hnA : ¬ AL listed (N + i) := by
    rintro (h1 | ⟨j, _, hlj, hj, _⟩)
    ·omega
    ·obtain rfl : j = i := by omega
     rw [hlf] at hlj; cases hlj
   unfold wpOp
   rw [ho]
   simp only
   cases hout : out i with
   | skip =>
    rw [hout] at hstep
    obtain ⟨_, j, want, hg, hy⟩ := hstep
    have hy' : yielded ops a.tmps j ≠ some want := by
     rcases hy with hy | hy
     ·rw [yielded_okA hsr (by rw [hyl j want hg]; exact hy : yieldedA ops (S (lst listed)) j = some (!want))]
      cases want <;> simp
     ·exact skipped_okA hsr (by rw [hys j want hg]; exact hy)
    rw [if_neg (by simp [Region.wanted, hg, hy'])]
    refine ih _ _ _ ⟨by simp [hsz], hdc', ρ, ?_⟩ hunl
    have hp := hsr.put o.dst (x := skA) (v := undef) (.cond (fun h => by simp at h) (fun _ => rfl))
    have : (S (lst listed)).put o.dst skA = S (lst (listed.setIfInBounds i true)) := by rw [<- hnext]; simp [act, actI, actOut, hout, hdst]
    rw [this] at hp
    refine hp.conv fun id => ?_
    simp only [AL]
    constructor
    ·rintro (h1 | ⟨j, hj, hlj, hid, hmk⟩)
     ·exact .inl h1
     ·exact .inr ⟨j, hj, by rw [hlst']; split; rfl; exact hlj, hid, hmk⟩
    ·rintro (h1 | ⟨j, hj, hlj, hid, hmk⟩)
     ·exact .inl h1
     ·rw [hlst'] at hlj
      by_cases hji : j = i
      ·subst hji; rw [hout] at hmk; cases hmk
      ·rw [if_neg hji] at hlj; exact .inr ⟨j, hj, hlj, hid, hmk⟩
   | did r =>
    rw [hout] at hstep
    obtain ⟨_, hdoes, hgd⟩ := hstep
    have hwant : Region.wanted o (yielded ops a.tmps) = true := by
     cases hg : o.guard with
     | none => simp [Region.wanted, hg]
     | some p =>
      obtain ⟨j, want⟩ := p
      rw [hg] at hgd
      have hy' := yielded_okA hsr (by rw [hyl j want hg]; exact hgd : yieldedA ops (S (lst listed)) j = some want)
      simp [Region.wanted, hg, hy']
    rw [if_pos hwant]
    refine .inl ?_
    have hdoes' : Does P (N + i) (S (lst listed)) o r := by
     rcases hdoes with hr | ⟨c, f, g, first, cap, hcop, hcf, hfv, hspec, hbd, hnone⟩ | hfz
     ·refine .inl ?_
      rw [<- hr]
      refine (aop_local2 hop (fun x hx id hid => ?_)).symm
      have hid' : id ∈ (recOf N i (st i) o (out i)).rd := by
       rw [hout]
       simp only [recOf, topIds, List.mem_filterMap]
       exact ⟨x, hx, hid⟩
      have := hagree (.obj id) (.inr hid')
      simp only [St.at_, Cont.obj.injEq] at this
      simp only [St.look, this]
     ·have hfm : f ∈ o.op.operands := by rw [hcop]; simp [Op.operands, Call.operands, hcf]
      have ham : c.args.toList.map (st i).op = c.args.toList.map (S (lst listed)).op := List.map_congr_left fun x hx => hop x (by rw [hcop]; simp only [Op.operands, Call.operands, hcf]; simp at hx ⊢; exact .inr hx)
      refine .inr (.inl ⟨c, f, g, first, cap, hcop, hcf, by rw [<- hop f hfm]; exact hfv, ?_, ?_, hnone⟩)
      ·rw [<- ham]; exact hspec
      ·rw [<- ham]; exact hbd
     ·exact .inr (.inr (hfz.congr hop))
    refine does_sound hsr (by rw [(hSlen _).2]; simp only [M]; omega) hnA hdoes' ?_
    intro A' ρ' a' w' hA' hs'
    refine ih _ _ _ ⟨by simp [hsz], hdc', ρ', ?_⟩ hunl
    have : ((S (lst listed)).eff (N + i) r.2).put o.dst r.1 = S (lst (listed.setIfInBounds i true)) := by rw [<- hnext]; simp [act, actI, actOut, hout, hdst]
    rw [this] at hs'
    refine hs'.conv fun id => ?_
    rw [hA']
    simp only [AL]
    constructor
    ·rintro ((h1 | ⟨j, hj, hlj, hid, hmk⟩) | ⟨hid, hmk⟩)
     ·exact .inl h1
     ·exact .inr ⟨j, hj, by rw [hlst']; split; rfl; exact hlj, hid, hmk⟩
     ·exact .inr ⟨i, hil, by rw [hlst']; simp, hid, by rw [hout]; exact hmk⟩
    ·rintro (h1 | ⟨j, hj, hlj, hid, hmk⟩)
     ·exact .inl (.inl h1)
     ·rw [hlst'] at hlj
      by_cases hji : j = i
      ·subst hji; rw [hout] at hmk; exact .inr ⟨hid, hmk⟩
      ·rw [if_neg hji] at hlj; exact .inl (.inr ⟨j, hj, hlj, hid, hmk⟩)
 refine main ops.size (Array.replicate ops.size false) a _ ⟨by simp [hsize], ?_, ρ0, ?_⟩ ?_
 ·intro j k _ _ hlj
  simp [lst, Array.getD] at hlj
 ·have h0 : S (lst (Array.replicate ops.size false)) = s0 := by
   have : ∀ m, runTo act s0 (lst (Array.replicate ops.size false)) m = s0 := by
    intro m
    induction m with
    | zero => rfl
    | succ m ih =>
     rw [runTo_succ, ih]
     have : lst (Array.replicate ops.size false) m = false := by simp [lst, Array.getD]
     rw [this]; rfl
   exact this _
  rw [h0]
  have := (hs.extendN l.length).drawn (w.drawn + 1)
  refine this.conv fun id => ?_
  simp only [AL]
  constructor
  ·exact .inl
  ·rintro (h1 | ⟨j, _, hlj, _⟩)
   ·exact h1
   ·simp [lst, Array.getD] at hlj
 ·simp only [unl, hsize]
  calc _ <= (List.range l.length).length := List.length_filter_le _ _
   _ = l.length := by simp
theorem WP.draw {id : Nat} {l : List Oper} {s : St} {Q : Exit -> St -> Prop} (hm : P.follows .mixedOrders = true) (he : edgeOk l.toArray = true) (hcl : closeOk l.toArray = true)
  (h : RunD P l.toArray s.objs.length 0 l { s with objs := s.objs ++ List.replicate l.length none } [] fun rs s' => freeOk l.toArray rs = true /\ Q .normal s') : WP P Γ (.region id l.toArray true) Q s :=
 fun a w hs => wp_region_any hm (draw_any he hcl h a w hs)
end
section
variable {P : Program} {Γ : Cx} {ops : Array Oper} {N i : Nat} {s : St} {rs : List Rec} {K : List Rec -> St -> Prop} {o : Oper} {rest : List Oper}
theorem WP.drawN {id : Nat} {l : List Oper} {s : St} {Q : Exit -> St -> Prop} (N n : Nat) (hm : P.follows .mixedOrders = true) (he : edgeOk l.toArray = true) (hcl : closeOk l.toArray = true) (hN : s.objs.length = N) (hn : l.length = n)
  (h : RunD P l.toArray N 0 l { s with objs := s.objs ++ List.replicate n none } [] fun rs s' => freeOk l.toArray rs = true /\ Q .normal s') : WP P Γ (.region id l.toArray true) Q s := by
 subst hN hn
 exact WP.draw hm he hcl h
theorem runD_nil (h : K rs s) : RunD P ops N i [] s rs K := h
theorem draw_end {l : List Rec} {Q : Exit -> St -> Prop} (hf : freeOk ops l = true) (h : Q .normal s) : freeOk ops l = true /\ Q .normal s := ⟨hf, h⟩
theorem runD_call {c : Go.Call} {f : Operand} {g : FuncId} {first cap as : List AV} (x : AV) (hop : o.op = .call c) (hf : c.callee = .value f) (hg : o.guard = none) (hfv : s.op f = .clo (.func g) first cap) (has : c.args.toList.map s.op = as)
  (hspec : Spec P g (first ++ as ++ cap) [] fun y _ => y = x /\ y.bd 0 = true) (hbd : bdL 0 (first ++ as ++ cap) = true) (h : RunD P ops N (i + 1) rest (s.put o.dst x) (rs ++ [⟨o.dst, [], topIds s o⟩]) K) : RunD P ops N i (o :: rest) s rs K := by
 subst has
 exact ⟨.did (x, .none), _, ⟨rfl, .inr (.inl ⟨c, f, g, first, cap, hop, hf, hfv, hspec, hbd, rfl⟩), by rw [hg]; trivial⟩, h⟩
end
inductive Fz (look : Nat -> Option AObj) : AV -> AV -> Prop
 | pure {x : AV} (h : x.bd 0 = true) : Fz look x x
 | nil {k : Nat} : Fz look (.val (.slice none 0 0)) (.sl k [])
 | agg {cs cs' : List AV} (hl : cs'.length = cs.length) (h : ∀ (i : Nat) x y, cs[i]? = some x -> cs'[i]? = some y -> Fz look x y) : Fz look (.agg cs) (.agg cs')
 | tup {cs cs' : List AV} (hl : cs'.length = cs.length) (h : ∀ (i : Nat) x y, cs[i]? = some x -> cs'[i]? = some y -> Fz look x y) : Fz look (.tup cs) (.tup cs')
 | ref {id k off len : Nat} {es ys : List AV} (hlook : look id = some (.arr k es)) (hle : off + len <= es.length) (hl : ys.length = len) (hk : ∀ e, e ∈ ys -> e.cells.length = k) (hf : (flat ys).length = (flat ((es.drop off).take len)).length)
   (h : ∀ (j : Nat) u v, (flat ((es.drop off).take len))[j]? = some u -> (flat ys)[j]? = some v -> Fz look u v) : Fz look (.ref id k off len) (.sl k ys)
 | ptr {id k i j : Nat} {es : List AV} {e : AV} {ys : List AV} (hlook : look id = some (.arr k es)) (he : es[i]? = some e) (hl : ys.length = e.cells.length) (h : ∀ (m : Nat) u v, e.cells[m]? = some u -> ys[m]? = some v -> Fz look u v) : Fz look (.ptr id k i j) (.iptr ys j)
 | clo {fn : Fn} {xs ys xs' ys' : List AV} (h1 : xs'.length = xs.length) (h2 : ys'.length = ys.length) (h3 : ∀ (i : Nat) x y, xs[i]? = some x -> xs'[i]? = some y -> Fz look x y) (h4 : ∀ (i : Nat) x y, ys[i]? = some x -> ys'[i]? = some y -> Fz look x y) : Fz look (.clo fn xs ys) (.clo fn xs' ys')
theorem Fz.row {look : Nat -> Option AObj} {id k n : Nat} {es : List AV} (hlook : look id = some (.arr k es)) (hn : es.length = n) (hb : bdL 0 es = true) (hk : ∀ e, e ∈ es -> e.cells.length = k) : Fz look (.ref id k 0 n) (.sl k es) := by
 have hl : ((es.drop 0).take n) = es := by rw [List.drop_zero, List.take_of_length_le (by omega)]
 refine .ref hlook (by omega) hn hk (by rw [hl]) fun j u v hu hv => ?_
 rw [hl] at hu
 rw [hu] at hv; injection hv with hv; subst hv
 exact .pure (flat_bd hb u (List.mem_of_getElem? hu))
theorem Fz.cells {look : Nat -> Option AObj} {x y : AV} (h : Fz look x y) : y.cells.length = x.cells.length /\ ∀ (j : Nat) u v, x.cells[j]? = some u -> y.cells[j]? = some v -> Fz look u v := by
 cases h with
 | pure hb =>
  refine ⟨rfl, fun j u v hu hv => ?_⟩
  rw [hu] at hv; injection hv with hv; subst hv
  exact .pure (cells_bd hb u (List.mem_of_getElem? hu))
 | @nil k =>
  refine ⟨rfl, fun j u v hu hv => ?_⟩
  cases j with
  | zero => simp [AV.cells] at hu hv; subst hu hv; exact .nil
  | succ j => simp [AV.cells] at hu
 | agg hl h => exact ⟨hl, h⟩
 | tup hl h =>
  refine ⟨rfl, fun j u v hu hv => ?_⟩
  cases j with
  | zero => simp [AV.cells] at hu hv; subst hu hv; exact .tup hl h
  | succ j => simp [AV.cells] at hu
 | ref hlook hle hl hk hf h =>
  refine ⟨rfl, fun j u v hu hv => ?_⟩
  cases j with
  | zero => simp [AV.cells] at hu hv; subst hu hv; exact .ref hlook hle hl hk hf h
  | succ j => simp [AV.cells] at hu
 | ptr hlook he hl h =>
  refine ⟨rfl, fun j u v hu hv => ?_⟩
  cases j with
  | zero => simp [AV.cells] at hu hv; subst hu hv; exact .ptr hlook he hl h
  | succ j => simp [AV.cells] at hu
 | clo h1 h2 h3 h4 =>
  refine ⟨rfl, fun j u v hu hv => ?_⟩
  cases j with
  | zero => simp [AV.cells] at hu hv; subst hu hv; exact .clo h1 h2 h3 h4
  | succ j => simp [AV.cells] at hu
section
variable {P : Program} {Γ : Cx} {A : Nat -> Prop} {ρ : Nat -> Option Nat} {s : St} {a : Act} {w : World}
def Rd (Γ : Cx) (ρ : Nat -> Option Nat) (s : St) (w : World) (b : Nat) : Prop := b < w.heap.size /\ (Im Γ ρ s w b \/ ∃ id o, s.live id o /\ ρ id = some b)
theorem sub_flat {k : Nat} {es : List AV} (hk : ∀ e, e ∈ es -> e.cells.length = k) {off len : Nat} (hle : off + len <= es.length) :
  ∀ j, j < (flat ((es.drop off).take len)).length -> (flat ((es.drop off).take len))[j]? = (flat es)[off * k + j]? := by
 intro j hj
 have e1 : es = es.take off ++ ((es.drop off).take len ++ (es.drop off).drop len) := by rw [List.take_append_drop, List.take_append_drop]
 have h1 : (flat (es.take off)).length = off * k := by
  rw [flat_length (k := k) (fun e he => hk e (List.mem_of_mem_take he)), List.length_take, Nat.min_eq_left (by omega)]
 conv => rhs; rw [e1]
 rw [flat_append, flat_append, List.getElem?_append_right (by omega), h1, Nat.add_sub_cancel_left, List.getElem?_append_left hj]
theorem fz_sound (h : SRa Γ A ρ s a w) {x y : AV} (hz : Fz s.look x y) : ∀ {v : Value}, RV A ρ (Im Γ ρ s w) w x v -> RV (fun _ => False) ρ (Rd Γ ρ s w) w y v := by
 have hRd : ∀ b, Im Γ ρ s w b -> Rd Γ ρ s w b /\ w.heap[b]? = w.heap[b]? := fun b hb => ⟨⟨hb.2.1, .inl hb⟩, rfl⟩
 induction hz with
 | pure hb => exact fun hx => hx.pure hb hRd (fun _ _ hn => hn)
 | nil => intro v hx; rw [hx.val_eq]; exact .nils
 | @agg cs cs' hl _ ih =>
  intro v hx
  cases hx with
  | agg hlv ha hr =>
   refine .agg (by omega) ha fun i y u hy hu => ?_
   have hi : i < cs.length := by rw [<- hl]; exact (List.getElem?_eq_some_iff.1 hy).1
   exact ih i _ y (List.getElem?_eq_getElem hi) hy (hr i _ u (List.getElem?_eq_getElem hi) hu)
 | @tup cs cs' hl _ ih =>
  intro v hx
  cases hx with
  | tup hlv hr =>
   refine .tup (by omega) fun i y u hy hu => ?_
   have hi : i < cs.length := by rw [<- hl]; exact (List.getElem?_eq_some_iff.1 hy).1
   exact ih i _ y (List.getElem?_eq_getElem hi) hy (hr i _ u (List.getElem?_eq_getElem hi) hu)
 | @ref id k off len es ys hlook hle hl hkys hfl _ ih =>
  intro v hx
  cases hx with
  | @ref _ _ _ _ cap b hA hb hlc hcs hm =>
   obtain ⟨cs, t, hblk, hrow⟩ := h.row hlook hb
   have hlen : ((es.drop off).take len).length = len := by simp; omega
   have hk' : ∀ e, e ∈ (es.drop off).take len -> e.cells.length = k := fun e he => hrow.wide e (List.mem_of_mem_drop (List.mem_of_mem_take he))
   have hbd : off * k + (flat ((es.drop off).take len)).length <= cs.size := by
    have h1 := flat_length hrow.wide
    have h2 := flat_length hk'
    have h3 := hrow.len
    rw [h2, hlen, <- Nat.add_mul]
    have := Nat.mul_le_mul_right k hle
    omega
   have hget : ∀ j, j < (flat ys).length -> cs[off * k + j]? = some (cs.getD (off * k + j) undef) := fun j hj => by
    have : off * k + j < cs.size := by omega
    simp [Array.getD, this]
   have key : ∀ j, j < (flat ys).length -> ∃ u, (flat es)[off * k + j]? = some u /\ ((flat ((es.drop off).take len))[j]? = some u) := fun j hj => by
    have hj' : j < (flat ((es.drop off).take len)).length := by omega
    refine ⟨(flat ((es.drop off).take len))[j], ?_, List.getElem?_eq_getElem hj'⟩
    rw [<- sub_flat hrow.wide hle j hj']; exact List.getElem?_eq_getElem hj'
   rw [<- hl]
   refine .sl (fun j => cs.getD (off * k + j) undef) ⟨by omega, hm⟩ ⟨World.lt_of_block hblk, .inr ⟨id, _, St.look_some.1 hlook, hb⟩⟩ hkys (fun j hj => by rw [cell_of_block hblk]; exact hget j hj) (fun j hj => ?_) (fun j y hy => ?_)
   ·obtain ⟨u, hu, _⟩ := key j hj
    exact hrow.atoms _ _ (List.getElem?_eq_some_iff.1 hu).1 (hget j hj)
   ·have hj : j < (flat ys).length := (List.getElem?_eq_some_iff.1 hy).1
    obtain ⟨u, hu, hu'⟩ := key j hj
    exact ih j u y hu' hy (hrow.vals _ u _ hu (hget j hj))
  | refn hA hb =>
   have : ys = [] := List.eq_nil_of_length_eq_zero hl
   subst this
   exact .nils
 | @ptr id k i j es e ys hlook he hl _ ih =>
  intro v hx
  cases hx with
  | @ptr _ _ _ _ b hA hb =>
   obtain ⟨cs, t, hblk, hrow⟩ := h.row hlook hb
   have hek := hrow.wide e (List.mem_of_getElem? he)
   have hget : ∀ m, m < ys.length -> (flat es)[i * k + m]? = some (e.cells[m]?.getD .any) /\ e.cells[m]? = some (e.cells[m]?.getD .any) := fun m hm => by
    have h1 := flat_get hrow.wide i m e he (by omega)
    have h2 : e.cells[m]? = some (e.cells[m]'(by omega)) := List.getElem?_eq_getElem (by omega)
    rw [h1, h2]; exact ⟨rfl, rfl⟩
   have hlt : ∀ m, m < ys.length -> i * k + m < cs.size := fun m hm => Nat.lt_of_lt_of_le (List.getElem?_eq_some_iff.1 (hget m hm).1).1 hrow.len
   refine .iptr (o := i * k) (fun m => cs.getD (i * k + m) undef) ⟨World.lt_of_block hblk, .inr ⟨id, _, St.look_some.1 hlook, hb⟩⟩ (fun m hm => ?_) (fun m hm => ?_) (fun m y hy => ?_)
   ·rw [cell_of_block hblk]; simp [Array.getD, hlt m hm]
   ·exact hrow.atoms _ _ (List.getElem?_eq_some_iff.1 (hget m hm).1).1 (by simp [Array.getD, hlt m hm])
   ·have hm : m < ys.length := (List.getElem?_eq_some_iff.1 hy).1
    exact ih m _ y (hget m hm).2 hy (hrow.vals _ _ _ (hget m hm).1 (by simp [Array.getD, hlt m hm]))
 | @clo fn xs ys xs' ys' h1 h2 _ _ ih3 ih4 =>
  intro v hx
  cases hx with
  | clo g1 g2 g3 g4 =>
   refine .clo (by omega) (by omega) (fun i y u hy hu => ?_) (fun i y u hy hu => ?_)
   ·have hi : i < xs.length := by rw [<- h1]; exact (List.getElem?_eq_some_iff.1 hy).1
    exact ih3 i _ y (List.getElem?_eq_getElem hi) hy (g3 i _ u (List.getElem?_eq_getElem hi) hu)
   ·have hi : i < ys.length := by rw [<- h2]; exact (List.getElem?_eq_some_iff.1 hy).1
    exact ih4 i _ y (List.getElem?_eq_getElem hi) hy (g4 i _ u (List.getElem?_eq_getElem hi) hu)
end
mutual
def AV.ren (π : Nat -> Nat) : AV -> AV
 | .any => .any
 | .val v => .val v
 | .agg cs => .agg (renL π cs)
 | .tup cs => .tup (renL π cs)
 | .sl k es => .sl k (renL π es)
 | .ref id k off len => .ref (π id) k off len
 | .ptr id k i j => .ptr (π id) k i j
 | .iptr cs j => .iptr (renL π cs) j
 | .clo f xs ys => .clo f (renL π xs) (renL π ys)
 | .map id => .map (π id)
 | .yld id => .yld (π id)
 | .cond l x => .cond l (x.ren π)
def renL (π : Nat -> Nat) : List AV -> List AV
 | [] => []
 | x :: xs => x.ren π :: renL π xs
end
theorem renL_eq {π : Nat -> Nat} : ∀ l, renL π l = l.map (AV.ren π)
 | [] => rfl
 | x :: xs => by simp [renL, renL_eq xs]
mutual
theorem ren_pure {π : Nat -> Nat} : ∀ {x : AV}, x.bd 0 = true -> x.ren π = x
 | .any, _ => rfl
 | .val _, _ => rfl
 | .agg cs, h => by simp only [AV.ren, renL_pure (l := cs) h]
 | .tup cs, h => by simp only [AV.ren, renL_pure (l := cs) h]
 | .sl k es, h => by simp only [AV.ren, renL_pure (l := es) h]
 | .ref _ _ _ _, h => by simp [AV.bd] at h
 | .ptr _ _ _ _, h => by simp [AV.bd] at h
 | .iptr cs j, h => by simp only [AV.ren, renL_pure (l := cs) h]
 | .clo f xs ys, h => by simp only [AV.bd, Bool.and_eq_true] at h; simp only [AV.ren, renL_pure (l := xs) h.1, renL_pure (l := ys) h.2]
 | .map _, h => by simp [AV.bd] at h
 | .yld _, h => by simp [AV.bd] at h
 | .cond l x, h => by simp only [AV.ren, ren_pure (x := x) h]
theorem renL_pure {π : Nat -> Nat} : ∀ {l : List AV}, bdL 0 l = true -> renL π l = l
 | [], _ => rfl
 | x :: xs, h => by simp only [bdL, Bool.and_eq_true] at h; simp only [renL, ren_pure (x := x) h.1, renL_pure (l := xs) h.2]
end
theorem renL_map {α : Type} {π : Nat -> Nat} {f : α -> AV} (hf : ∀ x, (f x).bd 0 = true) (l : List α) : renL π (l.map f) = l.map f := renL_pure (bdL_map hf l)
theorem cells_ren {π : Nat -> Nat} (x : AV) : (x.ren π).cells = x.cells.map (AV.ren π) := by cases x <;> simp [AV.ren, AV.cells, renL_eq]
theorem flat_ren {π : Nat -> Nat} (l : List AV) : flat (renL π l) = (flat l).map (AV.ren π) := by
 induction l with
 | nil => rfl
 | cons x xs ih => simp only [flat] at ih; simp [flat, renL, cells_ren, ih]
def AObj.ren (π : Nat -> Nat) : AObj -> AObj
 | .arr k es => .arr k (renL π es)
 | .map m => .map (m.map fun p => (p.1, p.2.ren π))
 | .bytes l => .bytes l
 | .bld T x => .bld T (x.ren π)
 | .lop c ts => .lop c (renL π ts)
 | .itr id n l => .itr (π id) n l
section
variable {A A' : Nat -> Prop} {ρ ρ' : Nat -> Option Nat} {I I' : Nat -> Prop} {w w' : World} {π : Nat -> Nat}
theorem RV.reren (hA : ∀ id, A id -> A' (π id) /\ ρ' (π id) = ρ id) (hI : ∀ b, I b -> I' b /\ w'.heap[b]? = w.heap[b]?) (hs : ∀ b n, csize w b = some n -> csize w' b = some n)
    {x : AV} {v : Value} (h : RV A ρ I w x v) : RV A' ρ' I' w' (x.ren π) v := by
  have lst : ∀ {cs : List AV} {i : Nat} {x : AV}, (renL π cs)[i]? = some x -> ∃ y, cs[i]? = some y /\ y.ren π = x := fun h => by simpa [renL_eq] using h
  induction h with
  | any => exact .any
  | val h => exact .val h
  | agg hl ha _ ih => exact .agg (by simpa [renL_eq] using hl) ha fun i x v hx hv => by obtain ⟨y, hy, rfl⟩ := lst hx; exact ih i y v hy hv
  | tup hl _ ih => exact .tup (by simpa [renL_eq] using hl) fun i x v hx hv => by obtain ⟨y, hy, rfl⟩ := lst hx; exact ih i y v hy hv
  | nils => exact .nils
  | @sl k es b o c f hn hb hk hc ha _ ih =>
    have e1 : (renL π es).length = es.length := by simp [renL_eq]
    have e2 : (flat (renL π es)).length = (flat es).length := by simp [flat_ren]
    have := RV.sl (A := A') (ρ := ρ') (I := I') (w := w') (k := k) (es := renL π es) (b := b) (o := o) (c := c) f (by omega) (hI _ hb).1 (fun e he => by
      rw [renL_eq] at he; obtain ⟨e0, he0, rfl⟩ := List.mem_map.1 he; rw [cells_ren]; simpa using hk e0 he0) (fun j hj => (World.cell?_of_block (hI _ hb).2).trans (hc j (by omega))) (fun j hj => ha j (by omega)) (fun j x hx => by
      rw [flat_ren] at hx; simp only [List.getElem?_map, Option.map_eq_some_iff] at hx; obtain ⟨y, hy, rfl⟩ := hx; exact ih j y hy)
    rw [e1] at this
    exact this
  | ref h hb hl hcs hm => exact .ref (hA _ h).1 ((hA _ h).2.trans hb) hl (hs _ _ hcs) hm
  | refn h hb => exact .refn (hA _ h).1 ((hA _ h).2.trans hb)
  | ptr h hb => exact .ptr (hA _ h).1 ((hA _ h).2.trans hb)
  | @iptr cs j b o f hb hc ha _ ih =>
    have e1 : (renL π cs).length = cs.length := by simp [renL_eq]
    exact .iptr f (hI _ hb).1 (fun i hi => (World.cell?_of_block (hI _ hb).2).trans (hc i (by omega))) (fun i hi => ha i (by omega)) fun i x hx => by obtain ⟨y, hy, rfl⟩ := lst hx; exact ih i y hy
  | clo h1 h2 _ _ ih3 ih4 =>
    exact .clo (by simpa [renL_eq] using h1) (by simpa [renL_eq] using h2) (fun i x v hx hv => by obtain ⟨y, hy, rfl⟩ := lst hx; exact ih3 i y v hy hv) (fun i x v hx hv => by obtain ⟨y, hy, rfl⟩ := lst hx; exact ih4 i y v hy hv)
  | map h hb => exact .map (hA _ h).1 ((hA _ h).2.trans hb)
  | yld h hb => exact .yld (hA _ h).1 ((hA _ h).2.trans hb)
  | cond _ h2 ih => exact .cond ih h2
theorem RV.unren {n : Nat} (hρ : ∀ id, id < n -> ρ' id = ρ (π id)) (hI : ∀ b, I b -> I' b /\ w'.heap[b]? = w.heap[b]?) (hs : ∀ b n, csize w b = some n -> csize w' b = some n)
    {x : AV} {v : Value} (h : RV A ρ I w x v) : ∀ {y : AV}, x = y.ren π -> y.bd n = true -> RV (fun id => id < n) ρ' I' w' y v := by
  have lst : ∀ {cs cs' : List AV} {i : Nat} {y : AV}, cs = renL π cs' -> cs'[i]? = some y -> cs[i]? = some (y.ren π) := fun h hy => by rw [h, renL_eq]; simp [hy]
  have bd : ∀ {cs : List AV} {i : Nat} {y : AV}, bdL n cs = true -> cs[i]? = some y -> y.bd n = true := fun h hy => bdL_iff.1 h _ (List.mem_of_getElem? hy)
  induction h with
  | any => intro y hy hb; cases y <;> simp [AV.ren] at hy; exact .any
  | val h => intro y hy hb; cases y <;> simp [AV.ren] at hy; subst hy; exact .val h
  | agg hl ha _ ih =>
    intro y hy hb; cases y <;> simp only [AV.ren, AV.agg.injEq, reduceCtorEq] at hy
    subst hy
    exact .agg (by simpa [renL_eq] using hl) ha fun i x v hx hv => ih i _ v (lst rfl hx) hv rfl (bd (by simpa [AV.bd] using hb) hx)
  | tup hl _ ih =>
    intro y hy hb; cases y <;> simp only [AV.ren, AV.tup.injEq, reduceCtorEq] at hy
    subst hy
    exact .tup (by simpa [renL_eq] using hl) fun i x v hx hv => ih i _ v (lst rfl hx) hv rfl (bd (by simpa [AV.bd] using hb) hx)
  | @nils k a c =>
    intro y hy hb; cases y <;> simp only [AV.ren, AV.sl.injEq, reduceCtorEq] at hy
    obtain ⟨rfl, hy⟩ := hy
    rename_i es
    have : es = [] := by cases es with | nil => rfl | cons e es => simp [renL] at hy
    subst this
    exact .nils
  | @sl k es b o c f hn hb hk hc ha _ ih =>
    intro y hy hbd; cases y <;> simp only [AV.ren, AV.sl.injEq, reduceCtorEq] at hy
    rename_i es'
    obtain ⟨rfl, rfl⟩ := hy
    have e1 : (renL π es').length = es'.length := by simp [renL_eq]
    have e2 : (flat (renL π es')).length = (flat es').length := by simp [flat_ren]
    rw [e1]
    refine .sl f (by omega) (hI _ hb).1 (fun e he => ?_) (fun j hj => (World.cell?_of_block (hI _ hb).2).trans (hc j (by omega))) (fun j hj => ha j (by omega)) fun j x hx => ih j (x.ren π) (by rw [flat_ren]; simp [hx]) rfl (flat_bd (by simpa [AV.bd] using hbd) x (List.mem_of_getElem? hx))
    have := hk (e.ren π) (by rw [renL_eq]; exact List.mem_map_of_mem he)
    rw [cells_ren] at this; simpa using this
  | ref h hb hl hcs hm =>
    intro y hy hbd; cases y <;> simp only [AV.ren, AV.ref.injEq, reduceCtorEq] at hy
    obtain ⟨rfl, rfl, rfl, rfl⟩ := hy
    have hlt := of_decide_eq_true (by simpa only [AV.bd] using hbd)
    exact .ref hlt ((hρ _ hlt).trans hb) hl (hs _ _ hcs) hm
  | refn h hb =>
    intro y hy hbd; cases y <;> simp only [AV.ren, AV.ref.injEq, reduceCtorEq] at hy
    obtain ⟨rfl, rfl, rfl, rfl⟩ := hy
    have hlt := of_decide_eq_true (by simpa only [AV.bd] using hbd)
    exact .refn hlt ((hρ _ hlt).trans hb)
  | ptr h hb =>
    intro y hy hbd; cases y <;> simp only [AV.ren, AV.ptr.injEq, reduceCtorEq] at hy
    obtain ⟨rfl, rfl, rfl, rfl⟩ := hy
    have hlt := of_decide_eq_true (by simpa only [AV.bd] using hbd)
    exact .ptr hlt ((hρ _ hlt).trans hb)
  | @iptr cs j b o f hb hc ha _ ih =>
    intro y hy hbd; cases y <;> simp only [AV.ren, AV.iptr.injEq, reduceCtorEq] at hy
    rename_i cs' _
    obtain ⟨rfl, rfl⟩ := hy
    have e1 : (renL π cs').length = cs'.length := by simp [renL_eq]
    exact .iptr f (hI _ hb).1 (fun i hi => (World.cell?_of_block (hI _ hb).2).trans (hc i (by omega))) (fun i hi => ha i (by omega)) fun i x hx => ih i _ (lst rfl hx) rfl (bd (by simpa [AV.bd] using hbd) hx)
  | clo h1 h2 _ _ ih3 ih4 =>
    intro y hy hbd; cases y <;> simp only [AV.ren, AV.clo.injEq, reduceCtorEq] at hy
    obtain ⟨rfl, rfl, rfl⟩ := hy
    simp only [AV.bd, Bool.and_eq_true] at hbd
    exact .clo (by simpa [renL_eq] using h1) (by simpa [renL_eq] using h2) (fun i x v hx hv => ih3 i _ v (lst rfl hx) hv rfl (bd hbd.1 hx)) (fun i x v hx hv => ih4 i _ v (lst rfl hx) hv rfl (bd hbd.2 hx))
  | map h hb =>
    intro y hy hbd; cases y <;> simp only [AV.ren, AV.map.injEq, reduceCtorEq] at hy
    subst hy
    have hlt := of_decide_eq_true (by simpa only [AV.bd] using hbd)
    exact .map hlt ((hρ _ hlt).trans hb)
  | yld h hb =>
    intro y hy hbd; cases y <;> simp only [AV.ren, AV.yld.injEq, reduceCtorEq] at hy
    subst hy
    have hlt := of_decide_eq_true (by simpa only [AV.bd] using hbd)
    exact .yld hlt ((hρ _ hlt).trans hb)
  | cond _ h2 ih =>
    intro y hy hbd; cases y <;> simp only [AV.ren, AV.cond.injEq, reduceCtorEq] at hy
    obtain ⟨rfl, rfl⟩ := hy
    exact .cond (fun he => ih he rfl (by simpa only [AV.bd] using hbd)) h2
def bdo (n : Nat) : AObj -> Prop
 | .arr _ es => bdL n es = true
 | .map m => ∀ p, p ∈ m -> p.2.bd n = true
 | .bytes _ => True
 | .bld _ x => x.bd n = true
 | .lop _ ts => bdL n ts = true
 | .itr i _ _ => decide (i < n) = true
theorem OR.unren {n : Nat} (hρ : ∀ id, id < n -> ρ' id = ρ (π id)) (hI : ∀ b, I b -> I' b /\ w'.heap[b]? = w.heap[b]?) (hs : ∀ b n, csize w b = some n -> csize w' b = some n)
    {c : Option Nat} (hb : ∀ d, c = some d -> w'.heap[d]? = w.heap[d]?) {o : AObj} (h : OR A ρ I w c (o.ren π))
    (hbd : bdo n o) : OR (fun id => id < n) ρ' I' w' c o := by
  cases c with
  | none =>
    rcases h with hk | ⟨k, hk⟩
    · cases o with
      | bytes l => exact .inl hk
      | _ => simp [AObj.ren] at hk
    cases o with
    | bytes l => simp [AObj.ren] at hk
    | bld T x => simp [AObj.ren] at hk
    | lop c ts => simp [AObj.ren] at hk
    | itr i m l => simp [AObj.ren] at hk
    | arr k' es =>
      simp only [AObj.ren, AObj.arr.injEq] at hk
      obtain ⟨rfl, hk⟩ := hk
      have : es = [] := by cases es with | nil => rfl | cons e es => simp [renL] at hk
      exact .inr ⟨k', by rw [this]⟩
    | map m => simp [AObj.ren] at hk
  | some d =>
    have hb := hb d rfl
    cases o with
    | arr k es =>
      obtain ⟨cs, t, h1, h2, h3, h4, h5⟩ := h
      refine ⟨cs, t, hb.trans h1, by rw [flat_ren, List.length_map] at h2; exact h2, fun e he => ?_, fun j v hj hv => h4 j v (by rw [flat_ren, List.length_map]; exact hj) hv, fun j x v hx hv => (h5 j (x.ren π) v (by rw [flat_ren]; simp [hx]) hv).unren hρ hI hs rfl (flat_bd hbd x (List.mem_of_getElem? hx))⟩
      have := h3 (e.ren π) (by rw [renL_eq]; exact List.mem_map_of_mem he)
      rw [cells_ren] at this; simpa using this
    | map m =>
      obtain ⟨es, t, h1, h2, h3, h4⟩ := h
      refine ⟨es, t, hb.trans h1, by simpa using h2, fun j e p he hp => ?_, h4⟩
      obtain ⟨g1, g2⟩ := h3 j e (p.1, p.2.ren π) he (by simp [hp])
      exact ⟨g1, g2.unren hρ hI hs rfl (hbd p (List.mem_of_getElem? hp))⟩
    | bytes l => obtain ⟨cs, h1, h2, h3⟩ := h; exact ⟨cs, hb.trans h1, h2, h3⟩
    | bld T x => obtain ⟨p, v, h1, h2, h3, h4⟩ := h; exact ⟨p, v, hb.trans h1, h2, h3, h4.unren hρ hI hs rfl hbd⟩
    | lop c ts =>
      obtain ⟨tm, df, h1, h2, h3⟩ := h
      exact ⟨tm, df, hb.trans h1, by simpa [renL_eq] using h2, fun i x v hx hv => (h3 i (x.ren π) v (by rw [renL_eq]; simp [hx]) hv).unren hρ hI hs rfl (bdL_iff.1 hbd x (List.mem_of_getElem? hx))⟩
    | itr i m l =>
      obtain ⟨b', sn, h1, h2, h3, h4⟩ := h
      have hlt := of_decide_eq_true hbd
      exact ⟨b', sn, hb.trans h1, h2, hlt, (hρ _ hlt).trans h4⟩
end
def ap (l : List Nat) (i : Nat) : Nat := l.getD i 0
def wkR (π : Nat -> Nat) : List AV -> List AV -> Prop
 | [], [] => True
 | x :: xs, y :: ys => (y = .any \/ x = y.ren π) /\ wkR π xs ys
 | _, _ => False
def wkRO (π : Nat -> Nat) (l : List (Option AObj)) : List Nat -> List (Option AObj) -> Prop
 | [], [] => True
 | i :: is, y :: ys => i < l.length /\ (y = none \/ l[i]? = some (y.map (AObj.ren π))) /\ wkRO π l is ys
 | _, _ => False
theorem wkR_len {π : Nat -> Nat} : ∀ {xs ys : List AV}, wkR π xs ys -> ys.length = xs.length
 | [], [], _ => rfl
 | _ :: _, _ :: _, h => by simp [wkR_len h.2]
 | [], _ :: _, h => h.elim
 | _ :: _, [], h => h.elim
theorem wkR_get {π : Nat -> Nat} : ∀ {xs ys : List AV}, wkR π xs ys -> ∀ (i : Nat) x y, xs[i]? = some x -> ys[i]? = some y -> y = .any \/ x = y.ren π
 | _ :: _, _ :: _, h, 0, x, y, hx, hy => by simp at hx hy; subst hx hy; exact h.1
 | _ :: _, _ :: _, h, i + 1, x, y, hx, hy => wkR_get h.2 i x y (by simpa using hx) (by simpa using hy)
 | [], _, _, _, _, _, hx, _ => by simp at hx
 | _ :: _, [], h, _, _, _, _, _ => h.elim
theorem wkRO_len {π : Nat -> Nat} {l : List (Option AObj)} : ∀ {is : List Nat} {ys : List (Option AObj)}, wkRO π l is ys -> ys.length = is.length
 | [], [], _ => rfl
 | _ :: _, _ :: _, h => by simp [wkRO_len h.2.2]
 | [], _ :: _, h => h.elim
 | _ :: _, [], h => h.elim
theorem wkRO_get {π : Nat -> Nat} {l : List (Option AObj)} : ∀ {is : List Nat} {ys : List (Option AObj)}, wkRO π l is ys -> ∀ (j : Nat) o, ys[j]? = some (some o) -> l[is.getD j 0]? = some (some (o.ren π))
  | _ :: _, _ :: _, h, 0, o, hy => by
    simp at hy; subst hy
    rcases h.2.1 with h1 | h1
    · cases h1
    · simpa using h1
  | _ :: _, _ :: _, h, i + 1, o, hy => by simpa using wkRO_get h.2.2 i o (by simpa using hy)
  | [], [], _, _, _, hy => by simp at hy
  | _ :: _, [], h, _, _, _ => h.elim
  | [], _ :: _, h, _, _, _ => h.elim
theorem wkRO_lt {π : Nat -> Nat} {l : List (Option AObj)} : ∀ {is : List Nat} {ys : List (Option AObj)}, wkRO π l is ys -> ∀ (j : Nat), j < is.length -> is.getD j 0 < l.length
 | _ :: _, _ :: _, h, 0, _ => by simpa using h.1
 | _ :: _, _ :: _, h, i + 1, hj => by simpa using wkRO_lt h.2.2 i (by simpa using hj)
 | [], _, _, _, hj => by simp at hj
 | _ :: _, [], h, _, _ => h.elim
def ToR (m : Nat) (l : List Nat) (s t : St) : Prop := wkR (ap l) s.tmps t.tmps /\ wkRO (ap l) s.objs l t.objs /\ (∀ i j o o', St.live t i o -> St.live t j o' -> ap l i = ap l j -> i = j) /\ l.take m = List.range m /\ bdL t.objs.length t.tmps = true /\ bdO t.objs.length t.objs = true /\ m <= t.objs.length
section
variable {P : Program} {Γ : Cx} {A : Nat -> Prop} {ρ : Nat -> Option Nat} {s t : St} {a : Act} {w : World}
theorem SR.toR (h : SR Γ s a w) {l : List Nat} (ht : ToR Γ.m l s t) : SR Γ t a w := by
 obtain ⟨ρ, h⟩ := h
 obtain ⟨h1, h2, h3, h4, h5, h6, h7⟩ := ht
 have hlen := wkRO_len h2
 have hlive : ∀ j o, t.live j o -> s.live (ap l j) (o.ren (ap l)) := fun j o hl => wkRO_get h2 j o hl
 have hlt : ∀ j o, t.live j o -> j < l.length := fun j o hl => by rw [<- hlen]; exact (List.getElem?_eq_some_iff.1 hl).1
 have hI : ∀ b, Im Γ ρ s w b -> Im Γ (fun j => ρ (ap l j)) t w b /\ w.heap[b]? = w.heap[b]? := fun b ⟨g1, g2, g3⟩ => ⟨⟨g1, g2, fun id o hl => g3 _ _ (hlive id o hl)⟩, rfl⟩
 refine ⟨fun j => ρ (ap l j), fun i hi => ⟨by omega, ?_⟩, by rw [wkR_len h1]; exact h.len, ?_, fun id o hl => ?_, fun id o hl => (List.getElem?_eq_some_iff.1 hl).1, fun _ hid => hid, fun id o b hl hb => h.own _ _ b (hlive id o hl) hb, fun i j o o' b g1 g2 g3 g4 => ?_, h.defers.mono hI, h.fr⟩
 ·have : ap l i = i := by
   have e : (l.take Γ.m)[i]? = some i := by rw [h4]; simp [hi]
   rw [List.getElem?_take, if_pos hi] at e
   simp [ap, List.getD, e]
  show ρ (ap l i) = _
  rw [this]; exact (h.ext i hi).2
 ·intro i y v hy hv
  have hi : i < s.tmps.length := by rw [<- wkR_len h1]; exact (List.getElem?_eq_some_iff.1 hy).1
  have hx := List.getElem?_eq_getElem hi
  rcases wkR_get h1 i _ y hx hy with rfl | hxy
  ·exact .any
  ·exact (h.tmp i _ v hx hv).unren (π := ap l) (fun _ _ => rfl) hI (fun _ _ hn => hn) hxy (bdL_iff.1 h5 _ (List.mem_of_getElem? hy))
 ·exact (h.obj _ _ (hlive id o hl)).unren (π := ap l) (fun _ _ => rfl) hI (fun _ _ hn => hn) (fun _ _ => rfl) (by have := bdO_get h6 id o hl; cases o <;> exact this)
 ·have e := h.inj _ _ _ _ b (hlive i o g1) (hlive j o' g2) g3 g4
  exact h3 i j o o' g1 g2 e
theorem WP.toR {c : Code} {Q : Exit -> St -> Prop} (l : List Nat) (t : St) (ht : ToR Γ.m l s t) (h : WP P Γ c Q t) : WP P Γ c Q s := fun a w hs => h a w (hs.toR ht)
theorem WP.loopR {c : Code} {Q : Exit -> St -> Prop} (J : Nat -> St -> Prop) (n₀ : Nat) (h₀ : ∃ l t, ToR Γ.m l s t /\ J n₀ t) (round : ∀ n s, J n s -> WP P Γ c (thenA (fun s' => ∃ n' l t, n' < n /\ ToR Γ.m l s' t /\ J n' t) Q) s) : WP P Γ (.loop c) Q s := fun a w hs => by
 obtain ⟨l, t, ht, hj⟩ := h₀
 refine wp_loop_ghost (fun n a w => ∃ s, J n s /\ SR Γ s a w) n₀ ⟨t, hj, hs.toR ht⟩ ?_
 rintro n a w ⟨s, hj, hs⟩
 refine wp_mono (round n s hj a w hs) ?_
 rintro e a' w' ⟨s', h1, h2⟩
 cases e with
 | normal => obtain ⟨n', l, t, hlt, ht, hj'⟩ := h1; exact ⟨n', hlt, t, hj', h2.toR ht⟩
 | _ => exact ⟨s', h1, h2⟩
theorem SRa.room (h : SRa Γ A ρ s a w) : SRa Γ A ρ { s with objs := s.objs ++ [none] } a w := by
 have hlv : ∀ id o, St.live { s with objs := s.objs ++ [none] } id o -> s.live id o := by
  intro id o hl
  unfold St.live at hl ⊢
  simp only at hl
  rw [List.getElem?_append] at hl
  split at hl
  ·exact hl
  ·cases he : id - s.objs.length with
   | zero => simp [he] at hl
   | succ n => simp [he] at hl
 have hI : ∀ b, Im Γ ρ s w b -> Im Γ ρ { s with objs := s.objs ++ [none] } w b /\ w.heap[b]? = w.heap[b]? := fun b ⟨g1, g2, g3⟩ => ⟨⟨g1, g2, fun id o hl => g3 _ _ (hlv id o hl)⟩, rfl⟩
 exact h.turn rfl (fun _ hA => ⟨hA, rfl⟩) hI (fun _ _ hn => hn) (fun id o hl => (h.obj id o (hlv id o hl)).mono (fun _ hA => ⟨hA, rfl⟩) hI (fun _ _ hn => hn) (fun _ _ => rfl)) (fun id o hl => h.made id o (hlv id o hl))
  (fun id hA => by have := h.bound id hA; simp; omega) (fun id o b hl hb => h.own id o b (hlv id o hl) hb) (fun i j o o' b g1 g2 => h.inj i j o o' b (hlv i o g1) (hlv j o' g2)) h.fr
theorem WP.nil {c : Code} {Q : Exit -> St -> Prop} (i k : Nat) (hi : s.tmps[i]? = some (.val (.slice none 0 0))) (h : WP P Γ c Q ⟨s.tmps.set i (.ref s.objs.length k 0 0), s.objs ++ [some (.arr k [])]⟩) : WP P Γ c Q s := fun a w hs => by
 refine h a w ?_
 obtain ⟨ρ, hs⟩ := hs
 have hlt : i < s.tmps.length := (List.getElem?_eq_some_iff.1 hi).1
 have hv : a.tmps[i]? = some (a.tmps[i]'(by rw [hs.len]; exact hlt)) := Array.getElem?_eq_getElem (by rw [hs.len]; exact hlt)
 have hvv := (hs.tmp i _ _ hi hv).val_eq
 have h1 := (hs.room.newNil (nid := s.objs.length) (by simp) (fun h => by omega) k)
 have e1 : ({ s with objs := s.objs ++ [none] } : St).set s.objs.length (some (.arr k [])) = ⟨s.tmps, s.objs ++ [some (.arr k [])]⟩ := by
  simp [St.set]
 rw [e1] at h1
 have h2 := h1.put (some i) (x := .ref s.objs.length k 0 0) (v := .slice none 0 0) (.refn (.inr rfl) (by simp))
 have e2 : a.put (some i) (.slice none 0 0) = a := by
  have : a.tmps.setIfInBounds i (.slice none 0 0) = a.tmps := by
   apply Array.ext (by simp)
   intro j hj1 hj2
   rw [Array.getElem_setIfInBounds hj2]
   split
   ·rename_i e; subst e; rw [<- hvv]
   ·rfl
  cases a
  simp only [Act.put] at this ⊢
  rw [this]
 rw [e2] at h2
 refine ⟨_, fun i hi => ⟨by have := (h2.ext i hi).1; simp; omega, (h2.ext i hi).2⟩, h2.len, ?_, ?_, ?_, ?_, h2.own, h2.inj, h2.defers, h2.fr⟩
 ·intro j x v hx hv
  exact (h2.tmp j x v hx hv).mono (fun id hA => ⟨by rcases hA with hA | hA <;> simp <;> omega, rfl⟩) (fun b hb => ⟨hb, rfl⟩) (fun _ _ hn => hn)
 ·intro id o hl
  exact (h2.obj id o hl).mono (fun id hA => ⟨by rcases hA with hA | hA <;> simp <;> omega, rfl⟩) (fun b hb => ⟨hb, rfl⟩) (fun _ _ hn => hn) (fun _ _ => rfl)
 ·intro id o hl
  exact (List.getElem?_eq_some_iff.1 hl).1
 ·intro id hid; exact hid
end
end Go.Lg
namespace Go.Lg
open Go.RowKit
mutual
def AV.fz (id k : Nat) (es : List AV) : AV -> AV
 | .any => .any
 | .val v => .val v
 | .agg cs => .agg (fzL id k es cs)
 | .tup cs => .tup (fzL id k es cs)
 | .sl k' xs => .sl k' (fzL id k es xs)
 | .ref id' k' off len => if id' = id /\ k' = k /\ off + len <= es.length then .sl k ((es.drop off).take len) else .ref id' k' off len
 | .ptr id' k' i j => .ptr id' k' i j
 | .iptr cs j => .iptr (fzL id k es cs) j
 | .clo f xs ys => .clo f (fzL id k es xs) (fzL id k es ys)
 | .map id' => .map id'
 | .yld id' => .yld id'
 | .cond l x => .cond l (x.fz id k es)
def fzL (id k : Nat) (es : List AV) : List AV -> List AV
 | [] => []
 | x :: xs => x.fz id k es :: fzL id k es xs
end
theorem fzL_eq {id k : Nat} {es : List AV} : ∀ l, fzL id k es l = l.map (AV.fz id k es)
 | [] => rfl
 | x :: xs => by simp [fzL, fzL_eq xs]
theorem cells_fz {id k : Nat} {es : List AV} (x : AV) : (x.fz id k es).cells = x.cells.map (AV.fz id k es) := by
 cases x with
 | ref id' k' off len =>
  simp only [AV.fz, AV.cells, List.map_cons, List.map_nil]
  by_cases h : id' = id /\ k' = k /\ off + len <= es.length
  ·simp only [if_pos h]
  ·simp only [if_neg h]
 | _ => simp only [AV.fz, AV.cells, fzL_eq, List.map_cons, List.map_nil]
theorem flat_fz {id k : Nat} {es : List AV} (l : List AV) : flat (fzL id k es l) = (flat l).map (AV.fz id k es) := by
 induction l with
 | nil => rfl
 | cons x xs ih => simp only [flat] at ih; simp [flat, fzL, cells_fz, ih]
def AObj.fz (id k : Nat) (es : List AV) : AObj -> AObj
 | .arr k' xs => .arr k' (fzL id k es xs)
 | .map m => .map (m.map fun p => (p.1, p.2.fz id k es))
 | .bytes l => .bytes l
 | .bld T x => .bld T (x.fz id k es)
 | .lop c ts => .lop c (fzL id k es ts)
 | .itr i n l => .itr i n l
section
variable {A : Nat -> Prop} {ρ : Nat -> Option Nat} {I I' : Nat -> Prop} {w : World} {id k : Nat} {es : List AV}
theorem RV.fz (hI : ∀ b, I b -> I' b) (hrow : ∀ b, ρ id = some b -> I' b /\ ∃ cs t, w.heap[b]? = some (.cells cs t (0, 0)) /\ Row A ρ I w k es cs)
    {x : AV} {v : Value} (h : RV A ρ I w x v) : RV A ρ I' w (x.fz id k es) v := by
  have lst : ∀ {cs : List AV} {i : Nat} {x : AV}, (fzL id k es cs)[i]? = some x -> ∃ y, cs[i]? = some y /\ y.fz id k es = x := fun h => by simpa [fzL_eq] using h
  have mono : ∀ {x v}, RV A ρ I w x v -> RV A ρ I' w x v := fun h => h.mono (fun _ hA => ⟨hA, rfl⟩) (fun b hb => ⟨hI b hb, rfl⟩) (fun _ _ hn => hn)
  induction h with
  | any => exact .any
  | val h => exact .val h
  | agg hl ha _ ih => exact .agg (by simpa [fzL_eq] using hl) ha fun i x v hx hv => by obtain ⟨y, hy, rfl⟩ := lst hx; exact ih i y v hy hv
  | tup hl _ ih => exact .tup (by simpa [fzL_eq] using hl) fun i x v hx hv => by obtain ⟨y, hy, rfl⟩ := lst hx; exact ih i y v hy hv
  | nils => exact .nils
  | @sl k' xs b o c f hn hb hk hc ha _ ih =>
    have e1 : (fzL id k es xs).length = xs.length := by simp [fzL_eq]
    have e2 : (flat (fzL id k es xs)).length = (flat xs).length := by simp [flat_fz]
    have := RV.sl (A := A) (ρ := ρ) (I := I') (w := w) (k := k') (es := fzL id k es xs) (b := b) (o := o) (c := c) f (by omega) (hI _ hb) (fun e he => by
      rw [fzL_eq] at he; obtain ⟨e0, he0, rfl⟩ := List.mem_map.1 he; rw [cells_fz]; simpa using hk e0 he0) (fun j hj => hc j (by omega)) (fun j hj => ha j (by omega)) (fun j x hx => by
      rw [flat_fz] at hx; simp only [List.getElem?_map, Option.map_eq_some_iff] at hx; obtain ⟨y, hy, rfl⟩ := hx; exact ih j y hy)
    rw [e1] at this
    exact this
  | @ref id' k' off len cap b hA hb hl hcs hm =>
    simp only [AV.fz]
    split
    · rename_i hc
      obtain ⟨rfl, rfl, hle⟩ := hc
      obtain ⟨hIb, cs, t, hblk, hr⟩ := hrow b hb
      have hlen : ((es.drop off).take len).length = len := by simp; omega
      have hk' : ∀ e, e ∈ (es.drop off).take len -> e.cells.length = k' := fun e he => hr.wide e (List.mem_of_mem_drop (List.mem_of_mem_take he))
      have hbd : off * k' + (flat ((es.drop off).take len)).length <= (flat es).length := by
        have h1 := flat_length hr.wide
        have h2 := flat_length hk'
        rw [h2, hlen, <- Nat.add_mul, h1]
        exact Nat.mul_le_mul_right k' hle
      have hget : ∀ j, j < (flat ((es.drop off).take len)).length -> cs[off * k' + j]? = some (cs.getD (off * k' + j) undef) := fun j hj => by
        have : off * k' + j < cs.size := by have := hr.len; omega
        simp [Array.getD, this]
      have := RV.sl (A := A) (ρ := ρ) (I := I') (w := w) (k := k') (es := (es.drop off).take len) (b := b) (o := off * k') (c := cap) (fun j => cs.getD (off * k' + j) undef) (by omega) hIb hk'
        (fun j hj => by rw [cell_of_block hblk]; exact hget j hj) (fun j hj => hr.atoms _ _ (by omega) (hget j hj)) (fun j x hx => by
          have hj := (List.getElem?_eq_some_iff.1 hx).1
          rw [sub_flat hr.wide hle j hj] at hx
          exact mono (hr.vals _ x _ hx (hget j hj)))
      rw [hlen] at this
      exact this
    · exact .ref hA hb hl hcs hm
  | @refn id' k' hA hb =>
    simp only [AV.fz]
    split
    · simp only [List.take_zero]; exact .nils
    · exact .refn hA hb
  | ptr h hb => exact .ptr h hb
  | @iptr cs j b o f hb hc ha _ ih =>
    have e1 : (fzL id k es cs).length = cs.length := by simp [fzL_eq]
    exact .iptr f (hI _ hb) (fun i hi => hc i (by omega)) (fun i hi => ha i (by omega)) fun i x hx => by obtain ⟨y, hy, rfl⟩ := lst hx; exact ih i y hy
  | clo h1 h2 _ _ ih3 ih4 =>
    exact .clo (by simpa [fzL_eq] using h1) (by simpa [fzL_eq] using h2) (fun i x v hx hv => by obtain ⟨y, hy, rfl⟩ := lst hx; exact ih3 i y v hy hv) (fun i x v hx hv => by obtain ⟨y, hy, rfl⟩ := lst hx; exact ih4 i y v hy hv)
  | map h hb => exact .map h hb
  | yld h hb => exact .yld h hb
  | cond _ h2 ih => exact .cond ih h2
theorem OR.fz (hI : ∀ b, I b -> I' b) (hrow : ∀ b, ρ id = some b -> I' b /\ ∃ cs t, w.heap[b]? = some (.cells cs t (0, 0)) /\ Row A ρ I w k es cs)
    {c : Option Nat} {o : AObj} (h : OR A ρ I w c o) : OR A ρ I' w c (o.fz id k es) := by
  cases c with
  | none => rcases h with rfl | ⟨k', rfl⟩
            · exact .inl rfl
            · exact .inr ⟨k', by simp [AObj.fz, fzL]⟩
  | some b =>
    cases o with
    | arr k' xs =>
      obtain ⟨cs, t, h1, h2, h3, h4, h5⟩ := h
      have e2 : (flat (fzL id k es xs)).length = (flat xs).length := by simp [flat_fz]
      refine ⟨cs, t, h1, by omega, fun e he => ?_, fun j v hj hv => h4 j v (by omega) hv, fun j x v hx hv => ?_⟩
      · rw [fzL_eq] at he; obtain ⟨e0, he0, rfl⟩ := List.mem_map.1 he; rw [cells_fz]; simpa using h3 e0 he0
      · rw [flat_fz] at hx; simp only [List.getElem?_map, Option.map_eq_some_iff] at hx; obtain ⟨y, hy, rfl⟩ := hx; exact (h5 j y v hy hv).fz hI hrow
    | map m =>
      obtain ⟨ms, t, h1, h2, h3, h4⟩ := h
      refine ⟨ms, t, h1, by simpa using h2, fun j e p he hp => ?_, h4⟩
      simp only [List.getElem?_map, Option.map_eq_some_iff] at hp
      obtain ⟨q, hq, rfl⟩ := hp
      exact ⟨(h3 j e q he hq).1, (h3 j e q he hq).2.fz hI hrow⟩
    | bytes l => exact h
    | bld T x =>
      obtain ⟨p, v, h1, h2, h3, h4⟩ := h
      exact ⟨p, v, h1, h2, h3, h4.fz hI hrow⟩
    | lop c ts =>
      obtain ⟨tm, df, h1, h2, h3⟩ := h
      refine ⟨tm, df, h1, by simpa [fzL_eq] using h2, fun i x v hx hv => ?_⟩
      rw [fzL_eq] at hx; simp only [List.getElem?_map, Option.map_eq_some_iff] at hx; obtain ⟨y, hy, rfl⟩ := hx; exact (h3 i y v hy hv).fz hI hrow
    | itr i m l => exact h
end
section
variable {P : Program} {Γ : Cx} {s : St} {a : Act} {w : World}
end
end Go.Lg
namespace Go.Lg
open Go.RowKit
def resA (P : Program) (s : St) : ResultVar -> Option AV
 | .tmp t => some (s.tmps.getD t .any)
 | .cell a t => (tinfo P t).bind fun ti => loadA ti s.look (s.tmps.getD a .any)
def resL (P : Program) (s : St) : List ResultVar -> Option (List AV)
 | [] => some []
 | r :: rs => (resA P s r).bind fun x => (resL P s rs).map fun xs => x :: xs
def tupA : List AV -> AV
 | [x] => x
 | xs => .tup xs
def resN (P : Program) (s : St) (rs : List ResultVar) : Option AV := (resL P s rs).map tupA
def rdv (tmps : Array Value) (r : ResultVar) : Sem Value :=
 match r with
 | .tmp t => pure (tmps.getD t undef)
 | .cell c t => do loadVar t (<- asAddr (tmps.getD c undef))
theorem results_rdv (fn : Func) (tmps : Array Value) : results fn tmps = (do let vs <- fn.results.mapM (rdv tmps); pure (if h : vs.size = 1 then vs[0] else .tuple vs)) := by
 unfold results
 congr 1
section
variable {P : Program} {Γ : Cx} {A : Nat -> Prop} {ρ : Nat -> Option Nat} {s : St} {a : Act} {w : World}
theorem resA_sound (h : SRa Γ A ρ s a w) {r : ResultVar} {x : AV} (hr : resA P s r = some x) :
  ∃ v, (rdv a.tmps r).run P w = .ok v w /\ RV A ρ (Im Γ ρ s w) w x v := by
 cases r with
 | tmp t =>
  injection hr with hr
  subst hr
  exact ⟨_, rfl, h.eval (.tmp t)⟩
 | cell c t =>
  obtain ⟨ti, ht, hl⟩ := bind_some hr
  have hx := h.eval (.tmp c)
  simp only [St.op, Act.eval] at hx
  obtain ⟨u, hu, hru⟩ := loadA_sound h ht hx hl
  refine ⟨u, ?_, hru⟩
  show (do loadVar t (<- asAddr (a.tmps.getD c undef)) : Sem Value).run P w = .ok u w
  generalize s.tmps.getD c .any = y at hx hl
  generalize a.tmps.getD c undef = v at hx hu
  cases hx with
  | ptr => simpa [Instr.loadAt, Instr.sureAddr, asAddr] using hu
  | iptr => simpa [Instr.loadAt, Instr.sureAddr, asAddr] using hu
  | _ => simp [loadA] at hl
theorem resL_sound (h : SRa Γ A ρ s a w) : ∀ {rs : List ResultVar} {xs : List AV}, resL P s rs = some xs -> ∃ vs, (rs.mapM (rdv a.tmps)).run P w = .ok vs w /\
      vs.length = xs.length /\ ∀ (i : Nat) x v, xs[i]? = some x -> vs[i]? = some v -> RV A ρ (Im Γ ρ s w) w x v
  | [], xs, hr => by injection hr with hr; subst hr; exact ⟨[], rfl, rfl, by simp⟩
  | r :: rs, xs, hr => by
    obtain ⟨x, hx, hr⟩ := bind_some hr
    obtain ⟨ys, hys, rfl⟩ := Option.map_eq_some_iff.1 hr
    obtain ⟨v, hv, hrv⟩ := resA_sound h hx
    obtain ⟨vs, hvs, hl, hrs⟩ := resL_sound h hys
    refine ⟨v :: vs, ?_, by simp [hl], fun i y u hy hu => ?_⟩
    · rw [List.mapM_cons]
      simp [hv, hvs]
    · cases i with
      | zero => simp at hy hu; subst hy hu; exact hrv
      | succ i => exact hrs i y u (by simpa using hy) (by simpa using hu)
theorem resN_sound (h : SRa Γ A ρ s a w) {fn : Func} {rs : List ResultVar} (hf : fn.results.toList = rs) {x : AV} (hr : resN P s rs = some x) : ∃ v, (results fn a.tmps).run P w = .ok v w /\ RV A ρ (Im Γ ρ s w) w x v := by
 obtain ⟨xs, hxs, rfl⟩ := Option.map_eq_some_iff.1 hr
 obtain ⟨vs, hvs, hl, hrs⟩ := resL_sound h hxs
 have key : (results fn a.tmps).run P w = .ok (if h : vs.toArray.size = 1 then vs.toArray[0] else .tuple vs.toArray) w := by
  rw [results_rdv, Array.mapM_eq_mapM_toList, hf]
  simp only [Sem.run_bind, Sem.run_map]
  rw [hvs]; rfl
 refine ⟨_, key, ?_⟩
 clear hxs hvs key hr
 match xs, vs, hl, hrs with
 | [], [], _, _ => exact .tup (by simp) (by simp)
 | [x], [v], _, hrs => exact hrs 0 x v rfl rfl
 | x :: y :: xs, v :: u :: vs, hl, hrs =>
  have : ¬ ((v :: u :: vs).toArray.size = 1) := by simp
  rw [dif_neg this]
  exact .tup (by simpa using hl.symm) fun i x v hx hv => hrs i x v hx (by simpa using hv)
theorem SR.out (h : SR Γ s a w) (hd : Γ.ds = []) (hm : Γ.m = 0) {x y : AV} {v : Value} (hz : Fz s.look x y) (hx : ∀ ρ, SRa Γ (fun id => id < s.objs.length) ρ s a w -> RV (fun id => id < s.objs.length) ρ (Im Γ ρ s w) w x v) : SR Γ ⟨[y], []⟩ ⟨#[v], []⟩ w := by
 obtain ⟨ρ, h⟩ := h
 have hv := fz_sound h hz (hx ρ h)
 refine ⟨ρ, fun i hi => by omega, rfl, ?_, fun id o hl => by simp [St.live] at hl, fun id o hl => by simp [St.live] at hl, fun id hid => hid, fun id o b hl => by simp [St.live] at hl, fun i j o o' b hl => by simp [St.live] at hl, .nil hd.symm, h.fr⟩
 intro i z u hz hu
 cases i with
 | succ n => simp at hz
 | zero =>
  simp at hz hu
  subst hz hu
  refine hv.mono (fun _ hA => hA.elim) (fun b hb => ⟨?_, rfl⟩) (fun _ _ hn => hn)
  refine ⟨?_, hb.1, fun id o hl => by simp [St.live] at hl⟩
  rcases hb.2 with hb | ⟨id, o, hl, hρ⟩
  ·exact hb.1
  ·rcases h.own id o b hl hρ with g | ⟨i, hi, _⟩
   ·exact .inr g
   ·omega
theorem Spec.introF {f : FuncId} {fn : Func} {c : Code} {args : List AV} {post : AV -> List (Option AObj) -> Prop} (he : enterable P f = true) (hf : P.funcs[f]? = some fn) (hb : fn.body = some c) {rs : List ResultVar} (hrs : fn.results.toList = rs)
  (h : ∀ Γ : Cx, Γ.m = 0 -> WP P Γ c (bodyQ fun s => ∃ x y, resN P s rs = some x /\ Fz s.look x y /\ post y []) ⟨args ++ List.replicate (fn.ntmps - args.length) .any, []⟩) : Spec P f args [] post := by
 refine ⟨he, fun Γ vs hm hs => calls_of_wp hf hb ?_⟩
 obtain ⟨ρ, hs⟩ := hs
 have hlen : vs.size = args.length := hs.len
 have h0 : SR Γ ⟨args ++ List.replicate (fn.ntmps - args.length) .any, []⟩ ⟨vs ++ Array.replicate (fn.ntmps - vs.size) undef, []⟩ Γ.w0 := by
  refine ⟨ρ, hs.ext, by simp [hlen], ?_, hs.obj, hs.made, hs.bound, hs.own, hs.inj, hs.defers, hs.fr⟩
  intro i x v hx hv
  simp only at hx hv
  by_cases hi : i < args.length
  ·rw [List.getElem?_append_left hi] at hx
   rw [Array.getElem?_append_left (by omega)] at hv
   exact hs.tmp i x v hx hv
  ·rw [List.getElem?_append_right (by omega)] at hx
   have hm := List.mem_of_getElem? hx
   rw [(List.mem_replicate.1 hm).2]
   exact .any
 have hm0 : Γ.m = 0 := hm.1
 refine wp_mono (h Γ hm0 _ _ h0) ?_
 rintro e a' w' ⟨s', hq, hs'⟩
 have fin : (∃ x y, resN P s' rs = some x /\ Fz s'.look x y /\ post y []) -> a'.defers = [] /\ ∃ v, (results fn a'.tmps).run P w' = .ok v w' /\ ∃ r objs' v', Ending.returned v = .returned v' /\ post r objs' /\ SR Γ ⟨[r], objs'⟩ ⟨#[v'], []⟩ w' := by
  rintro ⟨x, y, hx, hz, hp⟩
  obtain ⟨ρ', hs''⟩ := hs'
  obtain ⟨v, hv, _⟩ := resN_sound hs'' hrs hx
  refine ⟨(hs''.defers.eq hm.2).trans (hs.defers.eq hm.2).symm, v, hv, y, [], v, rfl, hp, SR.out ⟨ρ', hs''⟩ (hs.defers.eq hm.2).symm hm0 hz fun ρ2 h2 => ?_⟩
  obtain ⟨v2, hv2, hr2⟩ := resN_sound h2 hrs hx
  rw [hv] at hv2
  injection hv2 with e1
  subst e1
  exact hr2
 cases e with
 | normal => exact fin hq
 | ret => exact fin hq
 | _ => exact hq.elim
theorem Spec.introR {f : FuncId} {fn : Func} {c : Code} {args : List AV} {objs : List (Option AObj)} {post : AV -> List (Option AObj) -> Prop} (he : enterable P f = true) (hf : P.funcs[f]? = some fn) (hb : fn.body = some c) {rs : List ResultVar} (hrs : fn.results.toList = rs)
  (h : ∀ Γ : Cx, Γ.m = objs.length -> WP P Γ c (bodyQ fun s => ∃ x y l t, resN P s rs = some x /\ ToR objs.length l ⟨[x], s.objs⟩ ⟨[y], t⟩ /\ post y t) ⟨args ++ List.replicate (fn.ntmps - args.length) .any, objs⟩) : Spec P f args objs post := by
 refine ⟨he, fun Γ vs hm hs => calls_of_wp hf hb ?_⟩
 obtain ⟨ρ, hs⟩ := hs
 have hlen : vs.size = args.length := hs.len
 have h0 : SR Γ ⟨args ++ List.replicate (fn.ntmps - args.length) .any, objs⟩ ⟨vs ++ Array.replicate (fn.ntmps - vs.size) undef, []⟩ Γ.w0 := by
  refine ⟨ρ, hs.ext, by simp [hlen], ?_, hs.obj, hs.made, hs.bound, hs.own, hs.inj, hs.defers, hs.fr⟩
  intro i x v hx hv
  simp only at hx hv
  by_cases hi : i < args.length
  ·rw [List.getElem?_append_left hi] at hx
   rw [Array.getElem?_append_left (by omega)] at hv
   exact hs.tmp i x v hx hv
  ·rw [List.getElem?_append_right (by omega)] at hx
   have hm := List.mem_of_getElem? hx
   rw [(List.mem_replicate.1 hm).2]
   exact .any
 refine wp_mono (h Γ hm.1 _ _ h0) ?_
 rintro e a' w' ⟨s', hq, hs'⟩
 have fin : (∃ x y l t, resN P s' rs = some x /\ ToR objs.length l ⟨[x], s'.objs⟩ ⟨[y], t⟩ /\ post y t) -> a'.defers = [] /\ ∃ v, (results fn a'.tmps).run P w' = .ok v w' /\ ∃ r objs' v', Ending.returned v = .returned v' /\ post r objs' /\ SR Γ ⟨[r], objs'⟩ ⟨#[v'], []⟩ w' := by
  rintro ⟨x, y, l, t, hx, ht, hp⟩
  obtain ⟨ρ', hs''⟩ := hs'
  obtain ⟨v, hv, _⟩ := resN_sound hs'' hrs hx
  refine ⟨(hs''.defers.eq hm.2).trans (hs.defers.eq hm.2).symm, v, hv, y, t, v, rfl, hp, ?_⟩
  have h1 : SR Γ ⟨[x], s'.objs⟩ ⟨#[v], []⟩ w' := SR.result ⟨ρ', hs''⟩ (hs.defers.eq hm.2).symm fun ρ2 h2 => by
   obtain ⟨v2, hv2, hr2⟩ := resN_sound h2 hrs hx
   rw [hv] at hv2
   injection hv2 with e1
   subst e1
   exact hr2
  exact h1.toR (by rw [hm.1]; exact ht)
 cases e with
 | normal => exact fin hq
 | ret => exact fin hq
 | _ => exact hq.elim
end
def AV.scal1 : AV -> Bool
 | .any | .val _ => true
 | _ => false
def AV.scal : AV -> Bool
 | .any | .val _ => true
 | .agg cs | .tup cs => cs.all AV.scal1
 | _ => false
def Fzs (look : Nat -> Option AObj) : List AV -> List AV -> Prop
 | [], [] => True
 | x :: xs, y :: ys => Fz look x y /\ Fzs look xs ys
 | _, _ => False
theorem Fzs_len {look : Nat -> Option AObj} : ∀ {xs ys : List AV}, Fzs look xs ys -> ys.length = xs.length
 | [], [], _ => rfl
 | _ :: _, _ :: _, h => by simp [Fzs_len h.2]
 | [], _ :: _, h => h.elim
 | _ :: _, [], h => h.elim
theorem Fzs_get {look : Nat -> Option AObj} : ∀ {xs ys : List AV}, Fzs look xs ys -> ∀ (i : Nat) x y, xs[i]? = some x -> ys[i]? = some y -> Fz look x y
 | _ :: _, _ :: _, h, 0, x, y, hx, hy => by simp at hx hy; subst hx hy; exact h.1
 | _ :: _, _ :: _, h, i + 1, x, y, hx, hy => Fzs_get h.2 i x y (by simpa using hx) (by simpa using hy)
 | [], _, _, _, _, _, hx, _ => by simp at hx
 | _ :: _, [], h, _, _, _, _, _ => h.elim
section
variable {A A' : Nat -> Prop} {ρ ρ' : Nat -> Option Nat} {I I' : Nat -> Prop} {w w' : World}
theorem RV.scal1 {x : AV} {v : Value} (h : RV A ρ I w x v) (hx : x.scal1 = true) : RV A' ρ' I' w' x v := by
 cases h <;> first | exact .any | (rename_i h; exact .val h) | (simp [AV.scal1] at hx; done)
theorem RV.scal {x : AV} {v : Value} (h : RV A ρ I w x v) (hx : x.scal = true) : RV A' ρ' I' w' x v := by
 cases h with
 | any => exact .any
 | val h => exact .val h
 | agg hl ha hr => exact .agg hl ha fun i x v hy hv => (hr i x v hy hv).scal1 (by simp only [AV.scal, List.all_eq_true] at hx; exact hx x (List.mem_of_getElem? hy))
 | tup hl hr => exact .tup hl fun i x v hy hv => (hr i x v hy hv).scal1 (by simp only [AV.scal, List.all_eq_true] at hx; exact hx x (List.mem_of_getElem? hy))
 | _ => simp [AV.scal] at hx
theorem OR.reren {π : Nat -> Nat} (hA : ∀ id, A id -> A' (π id) /\ ρ' (π id) = ρ id) (hI : ∀ b, I b -> I' b /\ w'.heap[b]? = w.heap[b]?) (hs : ∀ b n, csize w b = some n -> csize w' b = some n)
    {c : Option Nat} (hb : ∀ d, c = some d -> w'.heap[d]? = w.heap[d]?) {o : AObj} (h : OR A ρ I w c o) : OR A' ρ' I' w' c (o.ren π) := by
  cases c with
  | none => rcases h with rfl | ⟨k', rfl⟩
            · exact .inl rfl
            · exact .inr ⟨k', by simp [AObj.ren, renL]⟩
  | some b =>
    have hb := hb b rfl
    cases o with
    | arr k' xs =>
      obtain ⟨cs, t, h1, h2, h3, h4, h5⟩ := h
      have e2 : (flat (renL π xs)).length = (flat xs).length := by simp [flat_ren]
      refine ⟨cs, t, hb.trans h1, by omega, fun e he => ?_, fun j v hj hv => h4 j v (by omega) hv, fun j x v hx hv => ?_⟩
      · rw [renL_eq] at he; obtain ⟨e0, he0, rfl⟩ := List.mem_map.1 he; rw [cells_ren]; simpa using h3 e0 he0
      · rw [flat_ren] at hx; simp only [List.getElem?_map, Option.map_eq_some_iff] at hx; obtain ⟨y, hy, rfl⟩ := hx; exact (h5 j y v hy hv).reren hA hI hs
    | map m =>
      obtain ⟨ms, t, h1, h2, h3, h4⟩ := h
      refine ⟨ms, t, hb.trans h1, by simpa using h2, fun j e p he hp => ?_, h4⟩
      simp only [List.getElem?_map, Option.map_eq_some_iff] at hp
      obtain ⟨q, hq, rfl⟩ := hp
      exact ⟨(h3 j e q he hq).1, (h3 j e q he hq).2.reren hA hI hs⟩
    | bytes l => obtain ⟨cs, h1, h2, h3⟩ := h; exact ⟨cs, hb.trans h1, h2, h3⟩
    | bld T x => obtain ⟨p, v, h1, h2, h3, h4⟩ := h; exact ⟨p, v, hb.trans h1, h2, h3, h4.reren hA hI hs⟩
    | lop c ts =>
      obtain ⟨tm, df, h1, h2, h3⟩ := h
      refine ⟨tm, df, hb.trans h1, by simpa [renL_eq] using h2, fun i x v hx hv => ?_⟩
      rw [renL_eq] at hx; simp only [List.getElem?_map, Option.map_eq_some_iff] at hx; obtain ⟨y, hy, rfl⟩ := hx; exact (h3 i y v hy hv).reren hA hI hs
    | itr i m l =>
      obtain ⟨b', sn, h1, h2, h3, h4⟩ := h
      exact ⟨b', sn, hb.trans h1, h2, (hA _ h3).1, (hA _ h3).2.trans h4⟩
end
section
variable {P : Program} {Γ : Cx} {A : Nat -> Prop} {ρ : Nat -> Option Nat} {s : St} {a : Act} {w : World}
theorem call_args {g : FuncId} {first cap args : List AV} {I : Nat -> Prop} {f : Value} {vs : List Value} (he : enterable P g = true) (hf : RV A ρ I w (.clo (.func g) first cap) f) (hl : vs.length = args.length)
  (hv : ∀ (i : Nat) x v, args[i]? = some x -> vs[i]? = some v -> RV A ρ I w x v) :
  ∃ us : Array Value, (∀ w : World, (do let d <- Deferred.ofValue f vs.toArray; invoke d.target d.args : Sem Next).run P w = .ok (.enter g us) w) /\ us.size = (first ++ args ++ cap).length /\
   ∀ (i : Nat) x v, (first ++ args ++ cap)[i]? = some x -> us[i]? = some v -> RV A ρ I w x v := by
 cases hf with
 | @clo _ _ _ fs cs h1 h2 h3 h4 =>
  refine ⟨fs ++ vs.toArray ++ cs, run_enter he fs cs vs, by simp; omega, ?_⟩
  intro i x v hx hu
  rw [List.append_assoc] at hx
  rw [Array.append_assoc] at hu
  by_cases hi : i < first.length
  ·rw [List.getElem?_append_left hi] at hx
   rw [Array.getElem?_append_left (by omega)] at hu
   exact h3 i x v hx hu
  ·rw [List.getElem?_append_right (by omega)] at hx
   rw [Array.getElem?_append_right (by omega)] at hu
   by_cases hi2 : i - first.length < args.length
   ·rw [List.getElem?_append_left hi2] at hx
    rw [Array.getElem?_append_left (by simp; omega)] at hu
    exact hv _ x v hx (by rw [<- h1] at hu; simpa using hu)
   ·rw [List.getElem?_append_right (by omega)] at hx
    rw [Array.getElem?_append_right (by simp; omega)] at hu
    refine h4 (i - first.length - args.length) x v hx ?_
    rw [<- hu]; congr 1; simp; omega
theorem Call.borrow {g : FuncId} {first cap args ys : List AV} {K : AV -> St -> Prop} {post : AV -> Prop} (hspec : Spec P g ys [] fun r _ => post r /\ r.scal = true) (hz : Fzs s.look (first ++ args ++ cap) ys) (hK : ∀ r, post r -> K r s) :
  Call P (.clo (.func g) first cap) args s K := by
 intro Γ a w f vs hs hfv
 obtain ⟨ρ, h⟩ := hs
 obtain ⟨hf, hl, hv⟩ := hfv ρ h
 obtain ⟨us, hrun, hsz, hrv⟩ := call_args hspec.1 hf hl hv
 refine ⟨g, us, hrun, ?_⟩
 have hlen := Fzs_len hz
 have h0 : SR ⟨w, Rd Γ ρ s w, 0, fun _ => none, h.fr.next.1, h.fr.next.2, fun i hi => absurd hi (Nat.not_lt_zero i), [], fun i hi => absurd hi (Nat.not_lt_zero i), false⟩ ⟨ys, []⟩ ⟨us, []⟩ w := by
  refine ⟨fun _ => none, fun i hi => absurd hi (Nat.not_lt_zero i), by simp; omega, ?_, fun id o hl => by simp [St.live] at hl, fun id o hl => by simp [St.live] at hl, fun id hid => hid, fun id o b hl => by simp [St.live] at hl, fun i j o o' b hl => by simp [St.live] at hl, .nil rfl, ⟨Nat.le_refl _, rfl, rfl, rfl, fun _ _ _ => rfl, fun _ _ hn => hn⟩⟩
  intro i y v hy hu
  simp only at hy hu
  have hi : i < (first ++ args ++ cap).length := by rw [<- hlen]; exact (List.getElem?_eq_some_iff.1 hy).1
  have hx := List.getElem?_eq_getElem hi
  refine (fz_sound h (Fzs_get hz i _ y hx hy) (hrv i _ v hx hu)).mono (fun _ hA => hA.elim) (fun b hb => ⟨⟨.inl hb, hb.1, fun id o hl => by simp [St.live] at hl⟩, rfl⟩) (fun _ _ hn => hn)
 refine (hspec.2 ⟨w, Rd Γ ρ s w, 0, fun _ => none, h.fr.next.1, h.fr.next.2, fun i hi => absurd hi (Nat.not_lt_zero i), [], fun i hi => absurd hi (Nat.not_lt_zero i), false⟩ us ⟨rfl, rfl⟩ h0).mono ?_
 rintro e w' ⟨r, objs', v, rfl, ⟨hpost, hrb⟩, ρ', hs'⟩
 have hfr := hs'.fr
 have hw' := h.same hfr.size hfr.os hfr.tape hfr.output fun b hb => hfr.block b hb (fun i hi => absurd hi (Nat.not_lt_zero i))
 have hr : RV (fun id => id < s.objs.length) ρ (Im Γ ρ s w') w' r v := (hs'.tmp 0 r v rfl rfl).scal hrb
 exact ⟨r, s, v, rfl, hK r hpost, ⟨ρ, hw'⟩, fun dst => ⟨ρ, by simpa using hw'.put dst hr⟩⟩
def apx (n : Nat) (l : List Nat) (j : Nat) : Nat := if j < l.length then ap l j else n + (j - l.length)
def updO (π : Nat -> Nat) : List (Option AObj) -> List Nat -> List (Option AObj) -> List (Option AObj)
 | l, i :: is, o :: os => updO π (l.set i (o.map (AObj.ren π))) is os
 | l, [], os => l ++ os.map (Option.map (AObj.ren π))
 | l, _ :: _, [] => l
theorem updO_len {π : Nat -> Nat} : ∀ {is : List Nat} {l os : List (Option AObj)}, is.length <= os.length -> (updO π l is os).length = l.length + (os.length - is.length)
 | [], l, os, _ => by simp [updO]
 | i :: is, l, o :: os, h => by simp only [updO]; rw [updO_len (by simpa using h)]; simp
 | _ :: _, l, [], h => by simp at h
theorem updO_get {π : Nat -> Nat} {id : Nat} {o : AObj} : ∀ {is : List Nat} {l os : List (Option AObj)}, is.length <= os.length -> (∀ (j : Nat) i, is[j]? = some i -> i < l.length) -> is.Nodup -> (updO π l is os)[id]? = some (some o) ->
    (id < l.length /\ l[id]? = some (some o) /\ id ∉ is) \/ ∃ j o0, os[j]? = some (some o0) /\ o = o0.ren π /\ id = (if j < is.length then ap is j else l.length + (j - is.length))
  | [], l, os, _, _, _, h => by
    simp only [updO] at h
    rw [List.getElem?_append] at h
    split at h
    · rename_i hlt; exact .inl ⟨hlt, h, by simp⟩
    · rename_i hge
      simp only [List.getElem?_map, Option.map_eq_some_iff] at h
      obtain ⟨x, hx, hxo⟩ := h
      cases x with
      | none => simp at hxo
      | some o0 =>
        have hxo : o0.ren π = o := by simpa using hxo
        exact .inr ⟨_, o0, hx, hxo.symm, by simp; omega⟩
  | i :: is, l, x :: os, hle, hlt, hnd, h => by
    simp only [updO] at h
    have hnd' := List.nodup_cons.1 hnd
    rcases updO_get (is := is) (by simpa using hle) (fun j k hk => by simpa using hlt (j + 1) k (by simpa using hk)) hnd'.2 h with ⟨h1, h2, h3⟩ | ⟨j, o0, h1, h2, h3⟩
    · by_cases hi : i = id
      · subst hi
        have hil : i < l.length := by simpa using h1
        rw [List.getElem?_set_self (by simpa using hil)] at h2
        cases x with
        | none => simp at h2
        | some o0 => exact .inr ⟨0, o0, rfl, by simpa using h2.symm, by simp [ap]⟩
      · rw [List.getElem?_set_ne hi] at h2
        exact .inl ⟨by simpa using h1, h2, by simp only [List.mem_cons, not_or]; exact ⟨fun e => hi e.symm, h3⟩⟩
    · refine .inr ⟨j + 1, o0, by simpa using h1, h2, ?_⟩
      rw [h3]
      by_cases hj : j < is.length
      · simp [hj, ap]
      · simp [hj]
  | _ :: _, l, [], hle, _, _, _ => by simp at hle
def Lend (l : List Nat) (s : St) (xs ys : List AV) (os : List AObj) : Prop := wkR (ap l) xs ys /\ wkRO (ap l) s.objs l (os.map some) /\ l.Nodup /\ bdL os.length ys = true /\ bdO os.length (os.map some) = true
theorem Call.via {g : FuncId} {first cap args ys : List AV} {os : List AObj} (l : List Nat) {K : AV -> St -> Prop} {post : AV -> List (Option AObj) -> Prop} (hspec : Spec P g ys (os.map some) post) (hL : Lend l s (first ++ args ++ cap) ys os)
  (hK : ∀ r objs', post r objs' -> os.length <= objs'.length /\ r.bd objs'.length = true /\ K (r.ren (apx s.objs.length l)) ⟨s.tmps, updO (apx s.objs.length l) s.objs l objs'⟩) : Call P (.clo (.func g) first cap) args s K := by
 intro Γ a w f vs hs hfv
 obtain ⟨ρ, h⟩ := hs
 obtain ⟨hf, hl, hv⟩ := hfv ρ h
 obtain ⟨us, hrun, hsz, hrv⟩ := call_args hspec.1 hf hl hv
 refine ⟨g, us, hrun, ?_⟩
 obtain ⟨h1, h2, h3, h5, h6⟩ := hL
 have hm : os.length = l.length := by simpa using wkRO_len h2
 have hlive : ∀ j o, os[j]? = some o -> s.live (ap l j) (o.ren (ap l)) := fun j o ho => wkRO_get h2 j o (by simp [ho])
 have hlive' : ∀ j, j < l.length -> ∃ o, s.live (ap l j) o := fun j hj => ⟨_, hlive j _ (List.getElem?_eq_getElem (by omega))⟩
 have hlt : ∀ j, j < l.length -> ap l j < s.objs.length := fun j hj => wkRO_lt h2 j hj
 have happ : ∀ j, j < l.length -> ap l j ∈ l := fun j hj => by simp [ap, List.getD, List.getElem?_eq_getElem hj]
 let Γ' : Cx := ⟨w, fun b => Im Γ ρ s w b \/ ∃ j, j < l.length /\ ρ (ap l j) = some b, os.length, fun j => ρ (ap l j), h.fr.next.1, h.fr.next.2, fun j hj b hb => by
  obtain ⟨o, ho⟩ := hlive' j (by omega)
  rcases h.own _ o b ho hb with q | ⟨i, hi, q⟩
  ·exact Nat.le_trans Γ.hgl q
  ·exact Γ.hext i hi b q, [], fun j hj b hb => .inl (.inr ⟨j, by omega, hb⟩), false⟩
 have hst : ∀ id o, St.live ⟨ys, os.map some⟩ id o -> os[id]? = some o := fun id o hl => by
  unfold St.live at hl
  simp only [List.getElem?_map, Option.map_eq_some_iff] at hl
  obtain ⟨x, hx, hxo⟩ := hl
  injection hxo with hxo; subst hxo; exact hx
 have hI0 : ∀ b, Im Γ ρ s w b -> Im Γ' (fun j => ρ (ap l j)) ⟨ys, os.map some⟩ w b /\ w.heap[b]? = w.heap[b]? := fun b hb => ⟨⟨.inl (.inl hb), hb.2.1, fun id o hl => hb.2.2 _ _ (hlive id o (hst id o hl))⟩, rfl⟩
 have h0 : SR Γ' ⟨ys, os.map some⟩ ⟨us, []⟩ w := by
  refine ⟨fun j => ρ (ap l j), fun i hi => ⟨by simpa using hi, rfl⟩, by simp only; rw [hsz, wkR_len h1], ?_, fun id o hl => ?_, fun id o hl => (List.getElem?_eq_some_iff.1 hl).1, fun _ hid => hid, fun id o b hl hb => .inr ⟨id, (List.getElem?_eq_some_iff.1 (hst id o hl)).1, hb⟩, fun i j o o' b g1 g2 g3 g4 => ?_, .nil rfl, ⟨Nat.le_refl _, rfl, rfl, rfl, fun _ _ _ => rfl, fun _ _ hn => hn⟩⟩
  ·intro i y v hy hu
   simp only at hy hu
   have hi : i < (first ++ args ++ cap).length := by rw [<- wkR_len h1]; exact (List.getElem?_eq_some_iff.1 hy).1
   have hx := List.getElem?_eq_getElem hi
   rcases wkR_get h1 i _ y hx hy with rfl | hxy
   ·exact .any
   ·have := (hrv i _ v hx hu).unren (π := ap l) (n := os.length) (ρ' := fun j => ρ (ap l j)) (fun _ _ => rfl) hI0 (fun _ _ hn => hn) hxy (bdL_iff.1 h5 _ (List.mem_of_getElem? hy))
    simpa using this
  ·have := (h.obj _ _ (hlive id o (hst id o hl))).unren (π := ap l) (n := os.length) (ρ' := fun j => ρ (ap l j)) (fun _ _ => rfl) hI0 (fun _ _ hn => hn) (fun _ _ => rfl) (by have := bdO_get h6 id o (by simp [hst id o hl]); cases o <;> exact this)
   simpa using this
  ·have e := h.inj _ _ _ _ b (hlive i o (hst i o g1)) (hlive j o' (hst j o' g2)) g3 g4
   have hi := (List.getElem?_eq_some_iff.1 (hst i o g1)).1
   have hj := (List.getElem?_eq_some_iff.1 (hst j o' g2)).1
   rw [hm] at hi hj
   simp only [ap, List.getD, List.getElem?_eq_getElem hi, List.getElem?_eq_getElem hj, Option.getD_some] at e
   exact (List.getElem_inj h3).1 e
 refine (hspec.2 Γ' us (by simp [Γ']) h0).mono ?_
 rintro e w' ⟨r, objs', v, rfl, hpost, ρ'', hs'⟩
 obtain ⟨hle, hrb, hKr⟩ := hK r objs' hpost
 have hfr := hs'.fr
 have hext : ∀ j, j < l.length -> ρ'' j = ρ (ap l j) := fun j hj => (hs'.ext j (by simp only [Γ']; omega)).2
 generalize hs2 : (⟨s.tmps, updO (apx s.objs.length l) s.objs l objs'⟩ : St) = s2 at hKr
 let ρn : Nat -> Option Nat := fun id => if id < s.objs.length then ρ id else ρ'' (id - s.objs.length + l.length)
 have hρold : ∀ id, id < s.objs.length -> ρn id = ρ id := fun id hid => if_pos hid
 have hρnew : ∀ j, ρn (apx s.objs.length l j) = ρ'' j := fun j => by
  unfold apx
  split
  ·rename_i hj; rw [hρold _ (hlt j hj)]; exact (hext j hj).symm
  ·rename_i hj
   simp only [ρn]
   rw [if_neg (by omega)]
   congr 1; omega
 have hn2 : s2.objs.length = s.objs.length + (objs'.length - l.length) := by rw [<- hs2]; exact updO_len (by omega)
 have hapx : ∀ j, j < objs'.length -> apx s.objs.length l j < s2.objs.length := fun j hj => by
  rw [hn2]; unfold apx
  split
  ·rename_i h; have := hlt j h; omega
  ·omega
 have cases2 : ∀ id o, s2.live id o -> (id < s.objs.length /\ s.live id o /\ id ∉ l) \/ ∃ j o0, St.live ⟨[r], objs'⟩ j o0 /\ o = o0.ren (apx s.objs.length l) /\ id = apx s.objs.length l j := by
  intro id o ho
  rw [<- hs2] at ho
  exact updO_get (os := objs') (show l.length <= objs'.length by omega) (fun j i hi => by
   have hj := (List.getElem?_eq_some_iff.1 hi).1
   have := hlt j hj
   simpa [ap, List.getD, hi] using this) h3 ho
 have hblk : ∀ b, b < w.heap.size -> (∀ j, j < l.length -> ρ (ap l j) ≠ some b) -> w'.heap[b]? = w.heap[b]? := fun b hb hne => hfr.block b hb (fun i hi => hne i (by simp only [Γ'] at hi; omega))
 have hIold : ∀ b, Im Γ ρ s w b -> Im Γ ρn s2 w' b /\ w'.heap[b]? = w.heap[b]? := by
  rintro b ⟨g1, g2, g3⟩
  refine ⟨⟨g1, Nat.lt_of_lt_of_le g2 hfr.size, fun id o ho => ?_⟩, hblk b g2 fun j hj => ?_⟩
  ·rcases cases2 id o ho with ⟨c1, c2, _⟩ | ⟨j, o0, c1, _, rfl⟩
   ·rw [hρold id c1]; exact g3 id o c2
   ·rw [hρnew]
    intro hb
    rcases hs'.own j o0 b c1 hb with q | ⟨i, hi, q⟩
    ·simp only [Γ'] at q; omega
    ·simp only [Γ'] at hi q
     obtain ⟨o', ho'⟩ := hlive' i (by omega)
     exact g3 _ _ ho' q
  ·obtain ⟨o', ho'⟩ := hlive' j hj
   exact g3 _ _ ho'
 have hInew : ∀ b, Im Γ' ρ'' ⟨[r], objs'⟩ w' b -> Im Γ ρn s2 w' b /\ w'.heap[b]? = w'.heap[b]? := by
  rintro b ⟨g1, g2, g3⟩
  refine ⟨⟨?_, g2, fun id o ho => ?_⟩, rfl⟩
  ·rcases g1 with (g1 | ⟨j1, q1, q2⟩) | g1
   ·exact g1.1
   ·obtain ⟨o', ho'⟩ := hlive' j1 q1
    rcases h.own _ o' b ho' q2 with q | ⟨i, hi, q⟩
    ·exact .inr q
    ·exact Γ.hin i hi b q
   ·exact .inr (Nat.le_trans h.fr.size g1)
  ·rcases cases2 id o ho with ⟨c1, c2, c3⟩ | ⟨j, o0, c1, _, rfl⟩
   ·rw [hρold id c1]
    intro hb
    have := live_block h c2 hb
    rcases g1 with (g1 | ⟨j1, q1, q2⟩) | g1
    ·exact g1.2.2 id o c2 hb
    ·obtain ⟨o', ho'⟩ := hlive' j1 q1
     have := h.inj _ _ _ _ b c2 ho' hb q2
     exact c3 (this ▸ happ j1 q1)
    ·simp only [Γ'] at g1; omega
   ·rw [hρnew]; exact g3 j o0 c1
 have hown : ∀ j o0 b, St.live ⟨[r], objs'⟩ j o0 -> ρ'' j = some b -> w.heap.size <= b \/ ∃ i, i < l.length /\ ρ (ap l i) = some b := fun j o0 b c1 hb => by
  rcases hs'.own j o0 b c1 hb with q | ⟨i, hi, q⟩
  ·exact .inl q
  ·exact .inr ⟨i, by simp only [Γ'] at hi; omega, q⟩
 have hw' : SRa Γ (fun id => id < s2.objs.length) ρn s2 a w' := by
  refine ⟨fun i hi => ?_, by rw [<- hs2]; exact h.len, ?_, ?_, fun id o ho => (List.getElem?_eq_some_iff.1 ho).1, fun _ hid => hid, ?_, ?_, h.defers.mono hIold, h.fr.turn hfr.size hfr.os hfr.tape hfr.output ?_ hfr.csize⟩
  ·have g := h.ext i hi
   exact ⟨by have := g.1; omega, (hρold i g.1).trans g.2⟩
  ·intro i x u hx hu
   exact (h.tmp i x u (by rw [<- hs2] at hx; exact hx) hu).mono (fun id hid => ⟨by omega, hρold id hid⟩) hIold hfr.csize
  ·intro id o ho
   rcases cases2 id o ho with ⟨c1, c2, c3⟩ | ⟨j, o0, c1, rfl, rfl⟩
   ·rw [hρold id c1]
    refine (h.obj id o c2).mono (fun id hid => ⟨by omega, hρold id hid⟩) hIold hfr.csize fun c hc => hblk c (live_block h c2 hc) fun j hj hj' => ?_
    obtain ⟨o', ho'⟩ := hlive' j hj
    have := h.inj _ _ _ _ c c2 ho' hc hj'
    exact c3 (this ▸ happ j hj)
   ·rw [hρnew]
    exact (hs'.obj j o0 c1).reren (fun id hid => ⟨hapx id hid, hρnew id⟩) hInew (fun _ _ hn => hn) (fun _ _ => rfl)
  ·intro id o b ho hb
   rcases cases2 id o ho with ⟨c1, c2, c3⟩ | ⟨j, o0, c1, rfl, rfl⟩
   ·rw [hρold id c1] at hb; exact h.own id o b c2 hb
   ·rw [hρnew] at hb
    rcases hown j o0 b c1 hb with q | ⟨i, hi, q⟩
    ·exact .inl (Nat.le_trans h.fr.size q)
    ·obtain ⟨o', ho'⟩ := hlive' i hi
     exact h.own _ _ b ho' q
  ·have mix : ∀ id o b j o0, s.live id o -> id ∉ l -> ρ id = some b -> St.live ⟨[r], objs'⟩ j o0 -> ρ'' j = some b -> False := by
    intro id o b j o0 c2 c3 hb c1 hb'
    rcases hown j o0 b c1 hb' with q | ⟨i, hi, q⟩
    ·have := live_block h c2 hb; omega
    ·obtain ⟨o', ho'⟩ := hlive' i hi
     have := h.inj _ _ _ _ b c2 ho' hb q
     exact c3 (this ▸ happ i hi)
   intro id id' o o' b ho ho' hb hb'
   rcases cases2 id o ho with ⟨c1, c2, c3⟩ | ⟨j, o0, c1, rfl, rfl⟩ <;> rcases cases2 id' o' ho' with ⟨d1, d2, d3⟩ | ⟨j', o0', d1, rfl, rfl⟩
   ·rw [hρold id c1] at hb; rw [hρold id' d1] at hb'
    exact h.inj _ _ _ _ b c2 d2 hb hb'
   ·rw [hρold id c1] at hb; rw [hρnew] at hb'
    exact (mix _ _ _ _ _ c2 c3 hb d1 hb').elim
   ·rw [hρnew] at hb; rw [hρold id' d1] at hb'
    exact (mix _ _ _ _ _ d2 d3 hb' c1 hb).elim
   ·rw [hρnew] at hb hb'
    rw [hs'.inj _ _ _ _ b c1 d1 hb hb']
  ·intro b hb
   by_cases hj : ∃ j, j < l.length /\ ρ (ap l j) = some b
   ·obtain ⟨j, hj, hjb⟩ := hj
    obtain ⟨o', ho'⟩ := hlive' j hj
    exact .inr (h.own _ _ b ho' hjb)
   ·exact .inl (hblk b hb fun j hj' he => hj ⟨j, hj', he⟩)
 have hr : RV (fun id => id < s2.objs.length) ρn (Im Γ ρn s2 w') w' (r.ren (apx s.objs.length l)) v := (hs'.tmp 0 r v rfl rfl).reren (fun id hid => ⟨hapx id hid, hρnew id⟩) hInew (fun _ _ hn => hn)
 exact ⟨_, s2, v, rfl, hKr, ⟨ρn, hw'⟩, fun dst => ⟨ρn, by simpa using hw'.put dst hr⟩⟩
end
def boolOf (x : AV) : Option Bool := match x with
 | .val (.bool b) => some b
 | _ => none
def AV.res (e : List Bool) : AV -> AV
 | .cond l x => if l.isPrefixOf e then x else .any
 | x => x
def lit (b want : Bool) : Bool := if want then b else !b
def gcond (want : Bool) : AV -> Option (List Bool)
 | .val (.bool b) => some [lit b want]
 | .cond l (.val (.bool b)) => some (l ++ [lit b want])
 | _ => none
def apure (P : Program) (look : Nat -> Option AObj) (sop : Operand -> AV) (e : List Bool) : Op -> Option AV
  | .move x => some ((sop x).res e)
  | .assign x => some ((sop x).res e)
  | .nilCheck x => nilcA ((sop x).res e)
  | .pick c x y => match (sop c).res e with
    | .val (.bool b) => pickA (.val (.bool b)) ((sop x).res (e ++ [b])) ((sop y).res (e ++ [!b]))
    | _ => none
  | .load t x => (tinfo P t).bind fun ti => loadA ti look ((sop x).res e)
  | .binOp op t x y _ => binT P op t ((sop x).res e) ((sop y).res e)
  | .unOp op _ x => unA op ((sop x).res e)
  | .fieldAddr t x f => (tinfo P t).bind fun ti => fieldA ti f ((sop x).res e)
  | .indexAddr t x i => (tinfo P t).bind fun ti => ti.elem.bind fun e' => (tinfo P e').bind fun te => indexA te ((sop x).res e) ((sop i).res e)
  | .index t x i => (tinfo P t).bind fun ti => if ti.sh = .string then sindexA ((sop x).res e) ((sop i).res e) else none
  | .field t x i => fieldVA P t i ((sop x).res e)
  | .extract x i => extractA ((sop x).res e) i
  | .build t ps => (tinfo P t).bind fun ti => buildA ti (ps.toList.map fun p => (p.1, (sop p.2).res e))
  | .convert src t x => (tinfo P src).bind fun tj => (tinfo P t).bind fun ti => if b8 P ti then none else convA P look tj ti ((sop x).res e)
  | .lookup t x k ok => (mapKE P t).bind fun d => lookupA P d.1 d.2.2 look ((sop x).res e) ((sop k).res e) ok
  | .makeFunc fn xs ys => some (.clo fn (xs.toList.map fun x => (sop x).res e) (ys.toList.map fun x => (sop x).res e))
  | .slice t x lo hi none => (tinfo P t).bind fun ti => match ti.sh with
    | .string => ssliceA ((sop x).res e) (lo.map fun x => (sop x).res e) (hi.map fun x => (sop x).res e)
    | .slice => ti.elem.bind fun e' => (tinfo P e').bind fun te => sliceA te ((sop x).res e) (lo.map fun x => (sop x).res e) (hi.map fun x => (sop x).res e)
    | _ => none
  | .call c => match c.callee, c.args.toList, c.argTypes.toList with
    | .builtin .len, [x], [t] => lenOp P look t ((sop x).res e)
    | .builtin .max, [x, y], [_, _] => mmA true ((sop x).res e) ((sop y).res e)
    | .builtin .min, [x, y], [_, _] => mmA false ((sop x).res e) ((sop y).res e)
    | _, _, _ => none
  | _ => none
theorem prefix_all {l e : List Bool} (h : l.isPrefixOf e = true) (he : e.all id = true) : l.all id = true := by
 obtain ⟨t, rfl⟩ := List.isPrefixOf_iff_prefix.1 h
 rw [List.all_append] at he
 simp only [Bool.and_eq_true] at he
 exact he.1
section
variable {P : Program} {Γ : Cx} {A : Nat -> Prop} {ρ : Nat -> Option Nat} {I : Nat -> Prop} {s : St} {a : Act} {w : World}
theorem RV.res {e : List Bool} (he : e.all id = true) {x : AV} {v : Value} (h : RV A ρ I w x v) : RV A ρ I w (x.res e) v := by
 cases h with
 | @cond l x _ h1 h2 =>
  simp only [AV.res]
  split
  ·rename_i hp; exact h1 (prefix_all hp he)
  ·exact .any
 | any => exact .any
 | val h => exact .val h
 | agg h1 h2 h3 => exact .agg h1 h2 h3
 | tup h1 h2 => exact .tup h1 h2
 | nils => exact .nils
 | sl f h1 h2 h3 h4 h5 h6 => exact .sl f h1 h2 h3 h4 h5 h6
 | ref h1 h2 h3 h4 h5 => exact .ref h1 h2 h3 h4 h5
 | refn h1 h2 => exact .refn h1 h2
 | ptr h1 h2 => exact .ptr h1 h2
 | iptr f h1 h2 h3 h4 => exact .iptr f h1 h2 h3 h4
 | clo h1 h2 h3 h4 => exact .clo h1 h2 h3 h4
 | map h1 h2 => exact .map h1 h2
 | yld h1 h2 => exact .yld h1 h2
theorem pure_sound (h : SRa Γ A ρ s a w) {e : List Bool} (he : e.all id = true) {o : Oper} {x : AV} (hr : apure P s.look s.op e o.op = some x) : ∃ v, (execOp a.eval o).run P w = .ok (.value v) w /\ RV A ρ (Im Γ ρ s w) w x v := by
 obtain ⟨dst, op, type, pos, after, guard⟩ := o
 simp only at hr
 have ev : ∀ x, RV A ρ (Im Γ ρ s w) w ((s.op x).res e) (a.eval x) := fun x => (h.eval x).res he
 have wrap : ∀ {m : Sem Value} {x : AV}, (∃ v, m.run P w = .ok v w /\ RV A ρ (Im Γ ρ s w) w x v) -> ∃ v, (do pure (.value (<- m)) : Sem Next).run P w = .ok (.value v) w /\ RV A ρ (Im Γ ρ s w) w x v := by
  rintro m x ⟨v, hv, hr⟩
  exact ⟨v, by simp [hv], hr⟩
 cases op with
 | move x =>
  simp only [apure, Option.some.injEq] at hr
  subst hr
  exact ⟨a.eval x, by simp [execOp], ev x⟩
 | assign x =>
  simp only [apure, Option.some.injEq] at hr
  subst hr
  exact ⟨a.eval x, by simp [execOp], ev x⟩
 | nilCheck x =>
  simp only [apure] at hr
  have hx := ev x
  generalize (s.op x).res e = y at hx hr
  generalize hv : a.eval x = v at hx
  cases y with
  | ptr id k i j =>
   simp only [nilcA, Option.some.injEq] at hr
   subst hr
   cases hx with
   | ptr h1 h2 => exact ⟨_, by simp [execOp, hv], .ptr h1 h2⟩
  | _ => simp [nilcA] at hr
 | pick c x y =>
  simp only [apure] at hr
  split at hr
  ·rename_i b hb
   have hc := ev c
   rw [hb] at hc
   have hcv := hc.val_eq
   refine ⟨if b then a.eval x else a.eval y, by cases b <;> simp [execOp, hcv, asBool], ?_⟩
   have hx : b = true -> RV A ρ (Im Γ ρ s w) w ((s.op x).res (e ++ [b])) (a.eval x) := fun hb => (h.eval x).res (by rw [List.all_append, he, hb]; rfl)
   have hy : b = false -> RV A ρ (Im Γ ρ s w) w ((s.op y).res (e ++ [!b])) (a.eval y) := fun hb => (h.eval y).res (by rw [List.all_append, he, hb]; rfl)
   generalize (s.op x).res (e ++ [b]) = x' at hx hr
   generalize (s.op y).res (e ++ [!b]) = y' at hy hr
   simp only [pickA] at hr
   split at hr
   ·injection hr with hr
    subst hr
    cases b with
    | true => simpa using hx rfl
    | false => simpa using hy rfl
   ·injection hr with hr
    subst hr
    cases b with
    | true => simpa using hx rfl
    | false => simpa using hy rfl
  ·cases hr
 | load t x =>
  obtain ⟨ti, ht, hr⟩ := bind_some hr
  exact wrap (loadA_sound h ht (ev x) hr)
 | binOp op t x y t2 => exact wrap (binT_sound (ev x) (ev y) t hr x y)
 | unOp op t x => exact wrap (unA_sound (ev x) hr)
 | fieldAddr t x f =>
  obtain ⟨ti, ht, hr⟩ := bind_some hr
  exact wrap (fieldA_sound ht (ev x) hr)
 | indexAddr t x i =>
  obtain ⟨ti, ht, hr⟩ := bind_some hr
  obtain ⟨e', he', hr⟩ := bind_some hr
  obtain ⟨te, hte, hr⟩ := bind_some hr
  exact wrap (indexA_sound ht he' hte (ev x) (ev i) hr)
 | index t x i =>
  obtain ⟨ti, ht, hr⟩ := bind_some hr
  split at hr
  ·rename_i hs
   exact wrap (sindexA_sound (sh_string ht hs) (ev x) (ev i) hr)
  ·cases hr
 | field t x i => exact wrap (fieldVA_sound (ev x) hr)
 | extract x i => exact wrap (extractA_sound (ev x) hr)
 | build t ps =>
  obtain ⟨ti, ht, hr⟩ := bind_some hr
  refine wrap (buildA_sound ht (by simp) (fun m p q hp hq => ?_) hr)
  simp only [List.getElem?_map, Option.map_eq_some_iff, Array.getElem?_toList] at hp
  simp only [Array.getElem?_map, Option.map_eq_some_iff] at hq
  obtain ⟨x, hx, rfl⟩ := hp
  obtain ⟨y, hy, rfl⟩ := hq
  rw [hx] at hy
  injection hy with hy
  subst hy
  exact ⟨rfl, ev _⟩
 | convert src t x =>
  obtain ⟨tj, htj, hr⟩ := bind_some hr
  obtain ⟨ti, ht, hr⟩ := bind_some hr
  split at hr
  ·cases hr
  ·exact wrap (convA_sound h htj ht (ev x) hr)
 | lookup t x k ok =>
  obtain ⟨⟨d, kt, e⟩, ht, hr⟩ := bind_some hr
  exact wrap (lookupA_sound h ht (ev x) (ev k) hr)
 | makeFunc fn xs ys =>
  simp only [apure, Option.some.injEq] at hr
  subst hr
  refine ⟨.func fn (xs.map a.eval) (ys.map a.eval), by simp [execOp, Instr.makeFunc], .clo (by simp) (by simp) ?_ ?_⟩
  ·intro i x v hx hv
   simp only [List.getElem?_map, Option.map_eq_some_iff, Array.getElem?_toList] at hx
   simp only [Array.getElem?_map, Option.map_eq_some_iff] at hv
   obtain ⟨p, hp, rfl⟩ := hx
   obtain ⟨q, hq, rfl⟩ := hv
   rw [hp] at hq; injection hq with hq; subst hq
   exact ev p
  ·intro i x v hx hv
   simp only [List.getElem?_map, Option.map_eq_some_iff, Array.getElem?_toList] at hx
   simp only [Array.getElem?_map, Option.map_eq_some_iff] at hv
   obtain ⟨p, hp, rfl⟩ := hx
   obtain ⟨q, hq, rfl⟩ := hv
   rw [hp] at hq; injection hq with hq; subst hq
   exact ev p
 | slice t x lo hi mx =>
  have eo : ∀ o : Option Operand, okOpt (RV A ρ (Im Γ ρ s w) w) (o.map fun x => (s.op x).res e) (o.map a.eval) := fun o => by
   cases o with
   | none => trivial
   | some x => exact ev x
  cases mx with
  | some m => simp [apure] at hr
  | none =>
   obtain ⟨ti, ht, hr⟩ := bind_some hr
   split at hr
   ·rename_i hs
    exact wrap (ssliceA_sound (sh_string ht hs) (ev x) (eo lo) (eo hi) hr)
   ·rename_i hs
    obtain ⟨e', he', hr⟩ := bind_some hr
    obtain ⟨te, hte, hr⟩ := bind_some hr
    exact wrap (sliceA_sound ht he' hte (ev x) (eo lo) (eo hi) hr)
   ·cases hr
 | call c =>
  obtain ⟨callee, args, argTypes⟩ := c
  obtain ⟨args⟩ := args
  obtain ⟨argTypes⟩ := argTypes
  simp only [apure] at hr
  split at hr
  ·rename_i x t
   obtain ⟨u, hu, hrv⟩ := lenOp_sound (P := P) (ty := type) h (ev x) hr
   subst_vars
   exact ⟨u, by simp_all [execOp, resolve, invoke, builtin], hrv⟩
  ·rename_i x y t t2
   obtain ⟨u, hu, hrv⟩ := (mmA_sound (P := P) (ev x) (ev y) #[t, t2] type).1 hr
   subst_vars
   exact ⟨u, by simp_all [execOp, resolve, invoke, builtin], hrv⟩
  ·rename_i x y t t2
   obtain ⟨u, hu, hrv⟩ := (mmA_sound (P := P) (ev x) (ev y) #[t, t2] type).2 hr
   subst_vars
   exact ⟨u, by simp_all [execOp, resolve, invoke, builtin], hrv⟩
  ·cases hr
 | _ => simp [apure] at hr
end
def condStep (P : Program) (s : St) (o : Oper) (e : List Bool) (K : St -> Prop) : Prop :=
 (∃ x, (e.all id = true -> apure P s.look s.op e o.op = some x) /\ K (s.put o.dst (.cond e x))) \/
 (∃ x c f, o.op = .call c /\ c.callee = .value f /\ (e.all id = true -> Call P ((s.op f).res e) (c.args.toList.map fun y => (s.op y).res e) s fun r s' => r = x /\ s' = s) /\ K (s.put o.dst (.cond e x)))
def OpS (P : Program) (s : St) (o : Oper) (K : St -> Prop) : Prop :=
 ∀ (Γ : Cx) (a : Act) (w : World), SR Γ s a w -> (∃ s1 v w', K s1 /\ (execOp a.eval o).run P w = .ok (.value v) w' /\ SR Γ s1 (a.put o.dst v) w') \/ ∃ s1 w', o.dst = none /\ K s1 /\ (execOp a.eval o).run P w = .ok .skip w' /\ SR Γ s1 a w'
theorem OpS.of {P : Program} {s : St} {o : Oper} {K : St -> Prop} (h : ∃ s1, K s1 /\ ∀ (Γ : Cx) (a : Act) (w : World), SR Γ s a w -> ∃ v w', (execOp a.eval o).run P w = .ok (.value v) w' /\ SR Γ s1 (a.put o.dst v) w') : OpS P s o K := fun Γ a w hs => by
 obtain ⟨s1, hk, h⟩ := h
 obtain ⟨v, w', h1, h2⟩ := h Γ a w hs
 exact .inl ⟨s1, v, w', hk, h1, h2⟩
theorem OpS.skip {P : Program} {s : St} {o : Oper} {K : St -> Prop} (ho : o.dst = none) (h : ∃ s1, K s1 /\ ∀ (Γ : Cx) (a : Act) (w : World), SR Γ s a w -> ∃ w', (execOp a.eval o).run P w = .ok .skip w' /\ SR Γ s1 a w') : OpS P s o K := fun Γ a w hs => by
 obtain ⟨s1, hk, h⟩ := h
 obtain ⟨w', h1, h2⟩ := h Γ a w hs
 exact .inr ⟨s1, w', ho, hk, h1, h2⟩
def asemC (P : Program) (ops : Array Oper) : List Oper -> St -> (St -> Prop) -> Prop
  | [], s, K => K s
  | o :: rest, s, K => match o.guard with
    | none => (execA P s o fun s' => asemC P ops rest s' K) \/ (∃ x, apure P s.look s.op [] o.op = some x /\ asemC P ops rest (s.put o.dst x) K) \/ OpS P s o fun s' => asemC P ops rest s' K
    | some (j, want) => (∃ b, yieldedA ops s j = some b /\ (b = want -> execA P (s.put ((ops[j]?).bind (·.dst)) (.val (.bool want))) o fun s' => asemC P ops rest s' K) /\
        (b = !want -> asemC P ops rest ((s.put ((ops[j]?).bind (·.dst)) (.val (.bool !want))).put o.dst .any) K)) \/
      ∃ t e, (ops[j]?).bind (·.dst) = some t /\ gcond want (s.tmps.getD t .any) = some e /\ condStep P s o e fun s' => asemC P ops rest s' K
section
variable {P : Program} {Γ : Cx} {s : St} {a : Act} {w : World} {Q : Exit -> St -> Prop}
theorem gcond_ok (h : SR Γ s a w) {ops : Array Oper} {j : Nat} {want : Bool} {t : Tmp} {e : List Bool} (ht : (ops[j]?).bind (·.dst) = some t) (hg : gcond want (s.tmps.getD t .any) = some e) : (yielded ops a.tmps j == some want) = e.all id := by
 obtain ⟨ρ, h⟩ := h
 have hlt : t < s.tmps.length := by
  rcases Nat.lt_or_ge t s.tmps.length with h1 | h1
  ·exact h1
  ·simp [List.getD, List.getElem?_eq_none h1, gcond] at hg
 have hv : a.tmps[t]? = some (a.tmps[t]'(by rw [h.len]; exact hlt)) := Array.getElem?_eq_getElem (by rw [h.len]; exact hlt)
 have hx : s.tmps[t]? = some (s.tmps.getD t .any) := by simp [List.getD, List.getElem?_eq_getElem hlt]
 have hr := h.tmp t _ _ hx hv
 unfold yielded
 rw [ht]
 simp only [Option.bind_some]
 rw [hv]
 generalize s.tmps.getD t .any = x at hg hr
 generalize a.tmps[t]'(by rw [h.len]; exact hlt) = v at hr
 unfold gcond at hg
 split at hg
 ·rename_i b
  injection hg with hg
  subst hg
  rw [hr.val_eq]
  cases b <;> cases want <;> rfl
 ·rename_i l b
  injection hg with hg
  subst hg
  cases hr with
  | cond h1 h2 =>
   rw [List.all_append]
   cases hl : l.all id with
   | true =>
    rw [(h1 hl).val_eq]
    cases b <;> cases want <;> rfl
   | false => rw [h2 hl]; rfl
 ·cases hg
theorem asemC_sound {ops : Array Oper} {K : St -> Prop} {QQ : Exit -> Act -> World -> Prop} (hK : ∀ s a w, K s -> SR Γ s a w -> QQ .normal a w) : ∀ (l : List Oper) (s : St) (a : Act) (w : World), SR Γ s a w -> asemC P ops l s K -> wpList P ops QQ l a w
  | [], s, a, w, h, hk => hK s a w hk h
  | o :: rest, s, a, w, h, hk => by
    simp only [asemC] at hk
    refine wpList_step fun KK hKK => ?_
    split at hk
    · rename_i hg
      rw [if_pos (by simp [Region.wanted, hg])]
      rcases hk with hk | ⟨x, hx, hk⟩ | hs1
      · exact exec_sound h hk fun s' a' w' hk' hs' => hKK _ _ (asemC_sound hK rest s' a' w' hs' hk')
      · obtain ⟨ρ, hρ⟩ := h
        obtain ⟨v, hrun, hrv⟩ := pure_sound (P := P) hρ (e := []) rfl hx
        unfold Oper.wp
        rw [hrun]
        exact hKK _ _ (asemC_sound hK rest _ _ _ ⟨ρ, by simpa using hρ.put o.dst hrv⟩ hk)
      · rcases hs1 Γ a w h with ⟨s1, v, w', hk, hrun, hsr⟩ | ⟨s1, w', hd, hk, hrun, hsr⟩
        · unfold Oper.wp
          rw [hrun]
          exact hKK _ _ (asemC_sound hK rest _ _ _ hsr hk)
        · unfold Oper.wp
          rw [hrun]
          refine hKK _ _ (asemC_sound hK rest _ _ _ ?_ hk)
          first | exact hsr | (rw [hd]; exact hsr) | (simpa [hd, Act.put] using hsr)
    · rename_i j want hg
      rcases hk with ⟨b, hy, h1, h2⟩ | ⟨t, e, ht, hge, hk⟩
      · have hy' := yielded_ok h hy
        by_cases hb : b = want
        · rw [if_pos (by simp [Region.wanted, hg, hy', hb])]
          have h1 := h1 hb
          rw [<- hb, put_yielded hy] at h1
          exact exec_sound h h1 fun s' a' w' hk' hs' => hKK _ _ (asemC_sound hK rest s' a' w' hs' hk')
        · rw [if_neg (by simp [Region.wanted, hg, hy', hb])]
          have hb' : b = !want := by cases b <;> cases want <;> simp_all
          have h2 := h2 hb'
          rw [<- hb', put_yielded hy] at h2
          exact hKK _ _ (asemC_sound hK rest _ _ w (h.skipped o.dst) h2)
      · have hy := gcond_ok h ht hge
        have skip : e.all id = false -> ∀ x, SR Γ (s.put o.dst (.cond e x)) (a.put o.dst undef) w := fun he x => by
          obtain ⟨ρ, hρ⟩ := h
          exact ⟨ρ, by simpa using hρ.put o.dst (x := .cond e x) (v := undef) (.cond (fun h => by rw [he] at h; cases h) fun _ => rfl)⟩
        cases he : e.all id with
        | true =>
          rw [if_pos (by simp only [Region.wanted, hg]; rw [hy, he])]
          rcases hk with ⟨x, hx, hk⟩ | ⟨x, c, f, hop, hf, hcall, hk⟩
          · obtain ⟨ρ, hρ⟩ := h
            obtain ⟨v, hrun, hrv⟩ := pure_sound (P := P) hρ he (hx he)
            unfold Oper.wp
            rw [hrun]
            exact hKK _ _ (asemC_sound hK rest _ _ _ ⟨ρ, by simpa using hρ.put o.dst (x := .cond e x) (.cond (fun _ => hrv) fun h => by rw [he] at h; cases h)⟩ hk)
          · obtain ⟨g, us, hrun, hcall⟩ := hcall he Γ a w (a.eval f) (c.args.toList.map a.eval) h (fun ρ' h' => ⟨(h'.eval f).res he, by simp, fun i x v hx hv => by
              simp only [List.getElem?_map, Option.map_eq_some_iff] at hx hv
              obtain ⟨p, hp, rfl⟩ := hx
              obtain ⟨q, hq, rfl⟩ := hv
              rw [hp] at hq; injection hq with hq; subst hq
              exact (h'.eval p).res he⟩)
            unfold Oper.wp
            have hex : (execOp a.eval o).run P w = .ok (.enter g us) w := by
              have e1 : (c.args.map a.eval) = (c.args.toList.map a.eval).toArray := by apply Array.ext'; simp
              rw [<- hrun w]
              simp only [execOp, hop, resolve, hf, e1]
            rw [hex]
            simp only [Oper.upon]
            refine hcall.mono ?_
            rintro e' w' ⟨r, s', v, rfl, ⟨rfl, rfl⟩, hs0, hs⟩
            refine hKK _ _ (asemC_sound hK rest _ _ _ ?_ hk)
            cases hd : o.dst with
            | none => have := hs none; simpa [St.put, Act.put] using this
            | some d =>
              obtain ⟨ρ, hρ⟩ := hs (some d)
              refine ⟨ρ, ?_⟩
              by_cases hlt : d < s'.tmps.length
              · have hlen : a.tmps.size = s'.tmps.length := by have := hρ.len; simpa [St.put, Act.put] using this
                have hrv : RV (fun id => id < s'.objs.length) ρ (Im Γ ρ s' w') w' r v := by
                  have := hρ.tmp d r v (by simp [St.put, hlt]) (by simp [Act.put, hlen, hlt])
                  rw [Im_put] at this
                  simpa using this
                have := hρ.put (some d) (x := .cond e r) (v := v) (by rw [Im_put]; simpa using RV.cond (fun _ => hrv) (fun h => by rw [he] at h; cases h))
                simpa [St.put, Act.put] using this
              · have e1 : s'.put (some d) (.cond e r) = s'.put (some d) r := by
                  have hlt : s'.tmps.length <= d := Nat.le_of_not_lt hlt
                  simp only [St.put]; rw [List.set_eq_of_length_le hlt, List.set_eq_of_length_le hlt]
                rw [e1]; exact hρ
        | false =>
          rw [if_neg (by simp only [Region.wanted, hg]; rw [hy, he]; simp)]
          refine hKK _ _ ?_
          rcases hk with ⟨x, hx, hk⟩ | ⟨x, c, f, hop, hf, hcall, hk⟩
          · exact asemC_sound hK rest _ _ _ (skip he x) hk
          · exact asemC_sound hK rest _ _ _ (skip he x) hk
theorem WP.regionC {id : Nat} {l : List Oper} (h : asemC P l.toArray l s (Q .normal)) : WP P Γ (.region id l.toArray false) Q s := fun a w hs =>
 wp_region_lit (asemC_sound (K := Q .normal) (QQ := fun e a' w' => ∃ s', Q e s' /\ SR Γ s' a' w') (fun s _ _ hk hs => ⟨s, hk, hs⟩) l s a w hs h)
end
section
variable {P : Program} {ops : Array Oper} {o : Oper} {rest : List Oper} {s : St} {K : St -> Prop} {j : Nat} {want : Bool} {t : Tmp}
end
def lk (i : Nat) : List (Nat × AV) -> AV
 | [] => .any
 | (j, x) :: l => if j = i then x else lk i l
def tl (n : Nat) (l : List (Nat × AV)) : List AV := (List.range n).map fun i => lk i l
def enumA (i : Nat) : List AV -> List (Nat × AV)
 | [] => []
 | x :: xs => (i, x) :: enumA (i + 1) xs
theorem tl_length (n : Nat) (l : List (Nat × AV)) : (tl n l).length = n := by simp [tl]
theorem tl_get {n i : Nat} (l : List (Nat × AV)) (h : i < n) : (tl n l)[i]? = some (lk i l) := by simp [tl, h]
theorem tl_getD {n i : Nat} (l : List (Nat × AV)) (h : i < n) : (tl n l).getD i .any = lk i l := by simp [tl, List.getD, h]
theorem tl_set (n d : Nat) (l : List (Nat × AV)) (x : AV) : (tl n l).set d x = tl n ((d, x) :: l) := by
 apply List.ext_getElem?
 intro i
 rw [List.getElem?_set]
 by_cases hi : i < n
 ·rw [tl_get _ hi]
  by_cases hd : d = i
  ·subst hd; rw [if_pos rfl, if_pos (by rw [tl_length]; exact hi), tl_get _ hi]; simp [lk]
  ·simp only [if_neg hd, tl_get _ hi, lk]
 ·have e1 : (tl n ((d, x) :: l))[i]? = none := List.getElem?_eq_none (by rw [tl_length]; omega)
  have e2 : (tl n l)[i]? = none := List.getElem?_eq_none (by rw [tl_length]; omega)
  rw [e1, e2, tl_length]
  split
  ·rw [if_neg (by omega)]
  ·rfl
theorem lk_enum (i : Nat) : ∀ (xs : List AV) (k : Nat), lk (k + i) (enumA k xs) = xs.getD i .any := by
 intro xs
 induction xs generalizing i with
 | nil => intro k; simp [enumA, lk]
 | cons x xs ih =>
  intro k
  simp only [enumA, lk]
  cases i with
  | zero => simp
  | succ i => rw [if_neg (by omega), show k + (i + 1) = (k + 1) + i by omega, ih]; simp
theorem tl_start (n : Nat) (args : List AV) (h : args.length <= n) : args ++ List.replicate (n - args.length) .any = tl n (enumA 0 args) := by
 apply List.ext_getElem?
 intro i
 by_cases hi : i < n
 ·rw [tl_get _ hi]
  have := lk_enum i args 0
  rw [Nat.zero_add] at this
  rw [this]
  by_cases hj : i < args.length
  ·rw [List.getElem?_append_left hj]; simp [List.getD, hj]
  ·rw [List.getElem?_append_right (by omega), List.getElem?_replicate, if_pos (by omega)]
   simp [List.getD, List.getElem?_eq_none (Nat.le_of_not_lt hj)]
 ·rw [List.getElem?_eq_none (by simp; omega), List.getElem?_eq_none (by rw [tl_length]; omega)]
def toT (l : List (Nat × AV)) : List (Nat × AV) -> Prop
 | [] => True
 | (i, y) :: r => y = lk i l /\ toT l r
def toRT (π : Nat -> Nat) (l : List (Nat × AV)) : List (Nat × AV) -> Prop
 | [] => True
 | (i, y) :: r => lk i l = y.ren π /\ toRT π l r
def bdT (n : Nat) : List (Nat × AV) -> Bool
 | [] => true
 | (_, y) :: r => y.bd n && bdT n r
theorem toT_lk {l : List (Nat × AV)} : ∀ {r : List (Nat × AV)}, toT l r -> ∀ i, lk i r = .any \/ lk i r = lk i l
  | [], _, _ => .inl rfl
  | (j, y) :: r, h, i => by
    simp only [lk]
    split
    · rename_i e; subst e; exact .inr h.1
    · exact toT_lk h.2 i
theorem toRT_lk {π : Nat -> Nat} {l : List (Nat × AV)} : ∀ {r : List (Nat × AV)}, toRT π l r -> ∀ i, lk i r = .any \/ lk i l = (lk i r).ren π
  | [], _, _ => .inl rfl
  | (j, y) :: r, h, i => by
    simp only [lk]
    split
    · rename_i e; subst e; exact .inr h.1
    · exact toRT_lk h.2 i
theorem bdT_lk {n : Nat} : ∀ {r : List (Nat × AV)}, bdT n r = true -> ∀ i, (lk i r).bd n = true
  | [], _, _ => rfl
  | (j, y) :: r, h, i => by
    simp only [bdT, Bool.and_eq_true] at h
    simp only [lk]
    split
    · exact h.1
    · exact bdT_lk h.2 i
theorem wkT_map {f g : Nat -> AV} (h : ∀ i, g i = .any \/ g i = f i) : ∀ r : List Nat, wkT (r.map f) (r.map g)
 | [] => trivial
 | i :: r => ⟨h i, wkT_map h r⟩
theorem wkR_map {π : Nat -> Nat} {f g : Nat -> AV} (h : ∀ i, g i = .any \/ f i = (g i).ren π) : ∀ r : List Nat, wkR π (r.map f) (r.map g)
 | [] => trivial
 | i :: r => ⟨h i, wkR_map h r⟩
theorem bdL_tl {n m : Nat} {l : List (Nat × AV)} (h : bdT m l = true) : bdL m (tl n l) = true := by
 rw [bdL_iff]; intro x hx
 obtain ⟨i, _, rfl⟩ := List.mem_map.1 hx
 exact bdT_lk h i
section
variable {P : Program} {Γ : Cx} {n : Nat} {l : List (Nat × AV)} {os : List (Option AObj)} {Q : Exit -> St -> Prop} {c : Code}
end
class TIc (P : Program) (t : TypeId) (ti : outParam TI) : Prop where
 h : tinfo P t = some ti
class TEl (P : Program) (t : TypeId) (te : outParam TI) (k bt : outParam Nat) : Prop where
 h : ∃ ti el, tinfo P t = some ti /\ ti.elem = some el /\ ti.sh = .slice /\ tinfo P el = some te /\ te.size = k /\ te.bytes = bt
def nth {α : Type} [Inhabited α] (l : List α) (i : Nat) : α := l.getD i default
theorem nth_eq {α : Type} [Inhabited α] {l : List α} {i : Nat} (h : i < l.length) : nth l i = l[i] := by simp [nth, List.getD, List.getElem?_eq_getElem h]
theorem get_nth {α : Type} [Inhabited α] {l : List α} {i : Nat} (h : i < l.length) : l[i]? = some (nth l i) := by rw [nth_eq h, List.getElem?_eq_getElem h]
theorem map_nth {α : Type} [Inhabited α] {f : α -> AV} {L : List α} {i : Nat} (hi : i < L.length) : (L.map f)[i]? = some (f (nth L i)) := by rw [List.getElem?_map, get_nth hi]; rfl
def lkq (i : Nat) : List (Nat × AV) -> Option AV
 | [] => none
 | (j, x) :: l => bif Nat.beq j i then some x else lkq i l
theorem lkq_lk {i : Nat} {x : AV} : ∀ {l : List (Nat × AV)}, lkq i l = some x -> lk i l = x
  | [], h => by simp [lkq] at h
  | (j, y) :: l, h => by
    simp only [lkq] at h
    simp only [lk]
    cases hb : Nat.beq j i with
    | true => rw [hb] at h; rw [if_pos (Nat.eq_of_beq_eq_true hb)]; exact Option.some.inj h
    | false => rw [hb] at h; rw [if_neg (Nat.ne_of_beq_eq_false hb)]; exact lkq_lk h
def lkO (i : Nat) : List (Nat × Option AObj) -> Option AObj
 | [] => none
 | (j, o) :: l => bif Nat.beq j i then o else lkO i l
theorem lkO_eq (i : Nat) (o : Option AObj) (os : List (Nat × Option AObj)) : lkO i ((i, o) :: os) = o := by
 have : Nat.beq i i = true := by simp
 unfold lkO; rw [this]; rfl
def ol (M : Nat) (os : List (Nat × Option AObj)) : List (Option AObj) := (List.range M).map fun i => lkO i os
def S (n : Nat) (l : List (Nat × AV)) (M : Nat) (os : List (Nat × Option AObj)) : St := ⟨tl n l, ol M os⟩
theorem ol_length (M : Nat) (os : List (Nat × Option AObj)) : (ol M os).length = M := by simp [ol]
theorem ol_get {M i : Nat} (os : List (Nat × Option AObj)) (h : i < M) : (ol M os)[i]? = some (lkO i os) := by simp [ol, h]
theorem blt_t {a b : Nat} (h : a < b) : Nat.blt a b = true := by rw [Nat.blt_eq]; exact h
theorem blt_of {a b : Nat} (h : Nat.blt a b = true) : a < b := by rw [Nat.blt_eq] at h; exact h
def lookq (M : Nat) (os : List (Nat × Option AObj)) (id : Nat) : Option AObj := bif Nat.blt id M then lkO id os else none
theorem S_look (n : Nat) (l : List (Nat × AV)) (M : Nat) (os : List (Nat × Option AObj)) (id : Nat) : (S n l M os).look id = lookq M os id := by
 simp only [St.look, S, lookq]
 by_cases h : id < M
 ·rw [ol_get os h, blt_t h]; rfl
 ·rw [List.getElem?_eq_none (by rw [ol_length]; omega)]
  have : Nat.blt id M = false := by
   cases hb : Nat.blt id M with
   | false => rfl
   | true => exact absurd (blt_of hb) h
  rw [this]; rfl
theorem S_look' (n : Nat) (l : List (Nat × AV)) (M : Nat) (os : List (Nat × Option AObj)) : (S n l M os).look = lookq M os := funext fun _ => S_look n l M os _
theorem ol_set (M id : Nat) (os : List (Nat × Option AObj)) (o : Option AObj) : (ol M os).set id o = ol M ((id, o) :: os) := by
 apply List.ext_getElem?
 intro i
 rw [List.getElem?_set]
 by_cases hi : i < M
 ·rw [ol_get _ hi]
  by_cases hd : id = i
  ·subst hd; rw [if_pos rfl, if_pos (by rw [ol_length]; exact hi), ol_get _ hi, lkO_eq]
  ·rw [if_neg hd, ol_get _ hi]
   have : Nat.beq id i = false := by cases hb : Nat.beq id i with
    | false => rfl
    | true => exact absurd (Nat.eq_of_beq_eq_true hb) hd
   simp [lkO, this]
 ·rw [ol_length, List.getElem?_eq_none (by rw [ol_length]; omega : (ol M ((id, o) :: os)).length <= i)]
  split
  ·rw [if_neg (by omega)]
  ·exact List.getElem?_eq_none (by rw [ol_length]; omega)
theorem ol_push (M : Nat) (os : List (Nat × Option AObj)) (o : Option AObj) : ol M os ++ [o] = ol (M + 1) ((M, o) :: os) := by
 apply List.ext_getElem?
 intro i
 by_cases hi : i < M
 ·rw [List.getElem?_append_left (by rw [ol_length]; exact hi), ol_get _ hi, ol_get _ (by omega)]
  have : Nat.beq M i = false := by cases hb : Nat.beq M i with
   | false => rfl
   | true => have := Nat.eq_of_beq_eq_true hb; omega
  simp [lkO, this]
 ·rw [List.getElem?_append_right (by rw [ol_length]; omega), ol_length]
  by_cases he : i = M
  ·subst he
   rw [ol_get _ (by omega), lkO_eq]
   simp
  ·rw [List.getElem?_eq_none (by simp; omega), List.getElem?_eq_none (by rw [ol_length]; omega)]
theorem S_put (n : Nat) (l : List (Nat × AV)) (M : Nat) (os : List (Nat × Option AObj)) (d : Tmp) (x : AV) : (S n l M os).put (some d) x = S n ((d, x) :: l) M os := by
 simp [S, St.put, tl_set]
def opq (n : Nat) (l : List (Nat × AV)) : Operand -> Option AV
 | .tmp t => bif Nat.blt t n then lkq t l else none
 | .const v => bif atom v then some (.val v) else none
 | .global g => some (.val (.pointer (some ⟨g, 0, none⟩)))
 | .func f => some (.clo (.func f) [] [])
def opqL (n : Nat) (l : List (Nat × AV)) : List Operand -> Option (List AV)
  | [] => some []
  | x :: xs => match opq n l x, opqL n l xs with
    | some y, some ys => some (y :: ys)
    | _, _ => none
theorem opq_op {n M : Nat} {l : List (Nat × AV)} {os : List (Nat × Option AObj)} {a : Operand} {x : AV} (h : opq n l a = some x) : (S n l M os).op a = x := by
 cases a with
 | tmp t =>
  simp only [opq] at h
  cases hb : Nat.blt t n with
  | false => rw [hb] at h; simp at h
  | true =>
   rw [hb] at h
   simp only [St.op, S]
   rw [tl_getD l (blt_of hb)]
   exact lkq_lk (by simpa using h)
 | const v =>
  simp only [opq] at h
  simp only [St.op]
  cases hb : atom v with
  | false => rw [hb] at h; simp at h
  | true => rw [hb] at h; simpa using h
 | global g => simpa [opq, St.op] using h
 | func f => simpa [opq, St.op] using h
theorem opqL_op {n M : Nat} {l : List (Nat × AV)} {os : List (Nat × Option AObj)} : ∀ {as : List Operand} {xs : List AV}, opqL n l as = some xs -> as.map (S n l M os).op = xs
  | [], xs, h => by simp [opqL] at h; simp [h]
  | a :: as, xs, h => by
    simp only [opqL] at h
    split at h
    · rename_i y ys h1 h2
      injection h with h; subst h
      rw [List.map_cons, opq_op h1, opqL_op h2]
    · cases h
def AV.plain : AV -> Bool
 | .cond _ _ => false
 | _ => true
theorem res_plain {x : AV} (e : List Bool) (h : x.plain = true) : x.res e = x := by cases x <;> first | rfl | simp [AV.plain] at h
theorem res_pre (l t : List Bool) (x : AV) : (AV.cond l x).res (l ++ t) = x := by
 simp only [AV.res]
 rw [if_pos (List.isPrefixOf_iff_prefix.2 ⟨t, rfl⟩)]
def Rq (n : Nat) (l : List (Nat × AV)) (e : List Bool) (a : Operand) (x : AV) : Prop := ∃ y, opq n l a = some y /\ y.res e = x
section
variable {P : Program} {n M : Nat} {l : List (Nat × AV)} {os : List (Nat × Option AObj)} {e l' t : List Bool} {a b c d : Operand} {x y : AV}
theorem rq_p (h : opq n l a = some x) (hc : x.plain = true) : Rq n l e a x := ⟨x, h, res_plain e hc⟩
theorem rq_c (h : opq n l a = some (.cond l' x)) (he : e = l' ++ t) : Rq n l e a x := ⟨_, h, by rw [he]; exact res_pre l' t x⟩
theorem Rq.op (h : Rq n l e a x) : ((S n l M os).op a).res e = x := by obtain ⟨y, h1, h2⟩ := h; rw [opq_op h1, h2]
def Ap (P : Program) (n : Nat) (l : List (Nat × AV)) (M : Nat) (os : List (Nat × Option AObj)) (e : List Bool) (op : Op) (x : AV) : Prop := apure P (S n l M os).look (S n l M os).op e op = some x
theorem ap_move (h : Rq n l e a x) : Ap P n l M os e (.move a) x := by simp only [Ap, apure, h.op]
theorem ap_assign (h : Rq n l e a x) : Ap P n l M os e (.assign a) x := by simp only [Ap, apure, h.op]
section
variable {k : IntKind} {p q : Int} {ty ty2 : TypeId} {s u : ByteArray}
theorem ap_add (ha : Rq n l e a (.val (.int k p))) (hb : Rq n l e b (.val (.int k q))) (h : inr k (p + q)) : Ap P n l M os e (.binOp .add ty a b ty2) (.val (.int k (p + q))) := by simp [Ap, apure, ha.op, hb.op, binT, binA, h]
theorem ap_sub (ha : Rq n l e a (.val (.int k p))) (hb : Rq n l e b (.val (.int k q))) (h : inr k (p - q)) : Ap P n l M os e (.binOp .sub ty a b ty2) (.val (.int k (p - q))) := by simp [Ap, apure, ha.op, hb.op, binT, binA, h]
theorem ap_mul (ha : Rq n l e a (.val (.int k p))) (hb : Rq n l e b (.val (.int k q))) (h : inr k (p * q)) : Ap P n l M os e (.binOp .mul ty a b ty2) (.val (.int k (p * q))) := by simp [Ap, apure, ha.op, hb.op, binT, binA, h]
theorem ap_rem (ha : Rq n l e a (.val (.int k p))) (hb : Rq n l e b (.val (.int k q))) (h : q ≠ 0) : Ap P n l M os e (.binOp .rem ty a b ty2) (.val (.int k (p.tmod q))) := by simp [Ap, apure, ha.op, hb.op, binT, binA, h]
theorem ap_eql (ha : Rq n l e a (.val (.int k p))) (hb : Rq n l e b (.val (.int k q))) : Ap P n l M os e (.binOp .eql ty a b ty2) (.val (.bool (decide (p = q)))) := by simp [Ap, apure, ha.op, hb.op, binT, binA]
theorem ap_neq (ha : Rq n l e a (.val (.int k p))) (hb : Rq n l e b (.val (.int k q))) : Ap P n l M os e (.binOp .neq ty a b ty2) (.val (.bool (!decide (p = q)))) := by simp [Ap, apure, ha.op, hb.op, binT, binA]
theorem ap_lss (ha : Rq n l e a (.val (.int k p))) (hb : Rq n l e b (.val (.int k q))) : Ap P n l M os e (.binOp .lss ty a b ty2) (.val (.bool (decide (p < q)))) := by simp [Ap, apure, ha.op, hb.op, binT, binA]
theorem ap_leq (ha : Rq n l e a (.val (.int k p))) (hb : Rq n l e b (.val (.int k q))) : Ap P n l M os e (.binOp .leq ty a b ty2) (.val (.bool (decide (p <= q)))) := by simp [Ap, apure, ha.op, hb.op, binT, binA]
theorem ap_gtr (ha : Rq n l e a (.val (.int k p))) (hb : Rq n l e b (.val (.int k q))) : Ap P n l M os e (.binOp .gtr ty a b ty2) (.val (.bool (decide (q < p)))) := by simp [Ap, apure, ha.op, hb.op, binT, binA]
theorem ap_geq (ha : Rq n l e a (.val (.int k p))) (hb : Rq n l e b (.val (.int k q))) : Ap P n l M os e (.binOp .geq ty a b ty2) (.val (.bool (decide (q <= p)))) := by simp [Ap, apure, ha.op, hb.op, binT, binA]
theorem ap_eqs (ha : Rq n l e a (.val (.string s))) (hb : Rq n l e b (.val (.string u))) : Ap P n l M os e (.binOp .eql ty a b ty2) (.val (.bool (decide (s = u)))) := by simp [Ap, apure, ha.op, hb.op, binT, binA]
theorem ap_nes (ha : Rq n l e a (.val (.string s))) (hb : Rq n l e b (.val (.string u))) : Ap P n l M os e (.binOp .neq ty a b ty2) (.val (.bool (!decide (s = u)))) := by simp [Ap, apure, ha.op, hb.op, binT, binA]
theorem ap_cat (ha : Rq n l e a (.val (.string s))) (hb : Rq n l e b (.val (.string u))) (h : s.size + u.size <= 9223372036854775807) : Ap P n l M os e (.binOp .add ty a b ty2) (.val (.string (s ++ u))) := by simp [Ap, apure, ha.op, hb.op, binT, binA, h]
theorem ap_not {p : Bool} (ha : Rq n l e a (.val (.bool p))) : Ap P n l M os e (.unOp .not ty a) (.val (.bool !p)) := by simp [Ap, apure, ha.op, unA]
theorem ap_neg (ha : Rq n l e a (.val (.int k p))) (h : inr k (0 - p)) : Ap P n l M os e (.unOp .neg ty a) (.val (.int k (0 - p))) := by simp only [Ap, apure, ha.op, unA, if_pos h]
end
theorem ap_or {p q : Bool} (hc : Rq n l e c (.val (.bool p))) (hb : Rq n l (e ++ [!p]) b (.val (.bool q))) : Ap P n l M os e (.pick c (.const (.bool true)) b) (.val (.bool (p || q))) := by
 have hk : ((S n l M os).op (.const (.bool true))).res (e ++ [p]) = .val (.bool true) := rfl
 simp only [Ap, apure, hc.op, hb.op, hk, pickA]
 cases p <;> rfl
theorem ap_and {p q : Bool} (hc : Rq n l e c (.val (.bool p))) (hb : Rq n l (e ++ [p]) b (.val (.bool q))) : Ap P n l M os e (.pick c b (.const (.bool false))) (.val (.bool (p && q))) := by
 have hk : ((S n l M os).op (.const (.bool false))).res (e ++ [!p]) = .val (.bool false) := rfl
 simp only [Ap, apure, hc.op, hb.op, hk, pickA]
 cases p <;> rfl
section
variable {ti tj te : TI} {ty ty2 el : TypeId} {cs es : List AV} {i j k id off sz len : Nat} {ed : AV} {b' : Bool}
theorem ap_load_w [h : TIc P ty ti] (ha : Rq n l e a (.iptr (AV.cells x) 0)) (hp : part ti x.cells 0 = some x) : Ap P n l M os e (.load ty a) x := by simp [Ap, apure, ha.op, h.h, loadA, hp]
theorem ap_load_i [h : TIc P ty ti] (ha : Rq n l e a (.iptr cs j)) (hp : part ti cs j = some x) : Ap P n l M os e (.load ty a) x := by simp [Ap, apure, ha.op, h.h, loadA, hp]
theorem ap_load_pw [h : TIc P ty ti] (ha : Rq n l e a (.ptr id k i 0)) (ho : lookq M os id = some (.arr k es)) (hi : es[i]? = some x) (hp : part ti x.cells 0 = some x) : Ap P n l M os e (.load ty a) x := by simp [Ap, apure, ha.op, h.h, loadA, S_look, ho, hi, hp]
theorem ap_load_p [h : TIc P ty ti] (ha : Rq n l e a (.ptr id k i j)) (ho : lookq M os id = some (.arr k es)) (hi : es[i]? = some y) (hp : part ti y.cells j = some x) : Ap P n l M os e (.load ty a) x := by simp [Ap, apure, ha.op, h.h, loadA, S_look, ho, hi, hp]
theorem ap_load_pt {α : Type} [Inhabited α] {f : α -> AV} {L : List α} [h : TIc P ty ti] (ha : Rq n l e a (.ptr id k i 0)) (ho : lookq M os id = some (.arr k (L.map f))) (hi : i < L.length) (hp : part ti (f (nth L i)).cells 0 = some (f (nth L i))) : Ap P n l M os e (.load ty a) (f (nth L i)) := by
 simp [Ap, apure, ha.op, h.h, loadA, S_look, ho, get_nth hi, hp]
theorem ap_load_ptf {α : Type} [Inhabited α] {f : α -> AV} {L : List α} [h : TIc P ty ti] (ha : Rq n l e a (.ptr id k i j)) (ho : lookq M os id = some (.arr k (L.map f))) (hi : i < L.length) (hp : part ti (f (nth L i)).cells j = some x) : Ap P n l M os e (.load ty a) x := by
 simp [Ap, apure, ha.op, h.h, loadA, S_look, ho, get_nth hi, hp]
theorem ap_field_p [h : TIc P ty ti] {f : Nat} (ha : Rq n l e a (.ptr id k i j)) (hf : ti.fields[f]? = some (off, sz)) (hs : Nat.beq sz 0 = false) : Ap P n l M os e (.fieldAddr ty a f) (.ptr id k i (j + off)) := by
 have : ¬ sz = 0 := Nat.ne_of_beq_eq_false hs
 simp [Ap, apure, ha.op, h.h, fieldA, hf, this]
theorem ap_field_i [h : TIc P ty ti] {f : Nat} (ha : Rq n l e a (.iptr cs j)) (hf : ti.fields[f]? = some (off, sz)) (hs : Nat.beq sz 0 = false) : Ap P n l M os e (.fieldAddr ty a f) (.iptr cs (j + off)) := by
 have : ¬ sz = 0 := Nat.ne_of_beq_eq_false hs
 simp [Ap, apure, ha.op, h.h, fieldA, hf, this]
theorem ap_idx_n {α : Type} [Inhabited α] {f : α -> AV} {L : List α} {kk : IntKind} {i : Nat} {bt : Nat} [h : TEl P ty te k bt] (ha : Rq n l e a (.sl k (L.map f))) (hb : Rq n l e b (.val (.int kk (i : Int)))) (hi : i < L.length) :
  Ap P n l M os e (.indexAddr ty a b) (.iptr (AV.cells (f (nth L i))) 0) := by
 obtain ⟨ti, el, h1, h2, h3, h4, hk, h5⟩ := h.h
 simp [Ap, apure, ha.op, hb.op, h1, h4, h2, indexA, hk, get_nth hi]
theorem ap_idx_z {α : Type} [Inhabited α] {f : α -> AV} {L : List α} {kk : IntKind} {i : Int} {bt : Nat} [h : TEl P ty te k bt] (ha : Rq n l e a (.sl k (L.map f))) (hb : Rq n l e b (.val (.int kk i))) (hi : 0 <= i /\ i < L.length) :
  Ap P n l M os e (.indexAddr ty a b) (.iptr (AV.cells (f (nth L i.toNat))) 0) := by
 obtain ⟨ti, el, h1, h2, h3, h4, hk, h5⟩ := h.h
 have hi' : i.toNat < L.length := by omega
 simp [Ap, apure, ha.op, hb.op, h1, h4, h2, indexA, hk, hi.1, get_nth hi']
theorem ap_idxr_n {kk : IntKind} {i : Nat} {bt : Nat} [h : TEl P ty te k bt] (ha : Rq n l e a (.ref id k 0 len)) (hb : Rq n l e b (.val (.int kk (i : Int)))) (hi : i < len) :
  Ap P n l M os e (.indexAddr ty a b) (.ptr id k i 0) := by
 obtain ⟨ti, el, h1, h2, h3, h4, hk, h5⟩ := h.h
 simp [Ap, apure, ha.op, hb.op, h1, h4, h2, indexA, hk, hi]
theorem ap_idxr_z {kk : IntKind} {i : Int} {bt : Nat} [h : TEl P ty te k bt] (ha : Rq n l e a (.ref id k 0 len)) (hb : Rq n l e b (.val (.int kk i))) (hi : 0 <= i /\ i < len) :
  Ap P n l M os e (.indexAddr ty a b) (.ptr id k i.toNat 0) := by
 obtain ⟨ti, el, h1, h2, h3, h4, hk, h5⟩ := h.h
 have hi' : i.toNat < len := by omega
 simp [Ap, apure, ha.op, hb.op, h1, h4, h2, indexA, hk, hi, hi']
def bAt (s : ByteArray) (i : Nat) : Int := ((s.data.toList.getD i 0).toNat : Int)
theorem bAt_bd (s : ByteArray) (i : Nat) : 0 <= bAt s i /\ bAt s i < 256 := by
 unfold bAt
 have := (s.data.toList.getD i 0).toNat_lt
 omega
theorem bget_at {s : ByteArray} {i : Nat} (h : i < s.size) : bget s i = some (s.data.toList.getD i 0) := by
 have h' : i < s.data.toList.length := by simpa using h
 simp [bget, List.getD, List.getElem?_eq_getElem h']
theorem ap_sidx_n {s : ByteArray} {kk : IntKind} {i : Nat} [h : TIc P ty ti] (ha : Rq n l e a (.val (.string s))) (hb : Rq n l e b (.val (.int kk (i : Int)))) (hs : ti.sh = .string) (hi : i < s.size) : Ap P n l M os e (.index ty a b) (.val (.int .u8 (bAt s i))) := by
 simp [Ap, apure, ha.op, hb.op, h.h, hs, sindexA, bget_at hi, bAt]
theorem ap_len_m {α : Type} {f : α -> AV} {L : List α} [h : TIc P ty ti] (hs : ti.sh = .slice) (ha : Rq n l e a (.sl k (L.map f))) : Ap P n l M os e (.call ⟨.builtin .len, #[a], #[ty]⟩) (.val (.int .i64 (L.length : Int))) := by
 simp [Ap, apure, ha.op, lenOp, h.h, hs]
theorem ap_len_r [h : TIc P ty ti] (hs : ti.sh = .slice) (ha : Rq n l e a (.ref id k off len)) : Ap P n l M os e (.call ⟨.builtin .len, #[a], #[ty]⟩) (.val (.int .i64 (len : Int))) := by
 simp [Ap, apure, ha.op, lenOp, h.h, hs]
theorem ap_len_str {s : ByteArray} [h : TIc P ty ti] (hs : ti.sh = .string) (ha : Rq n l e a (.val (.string s))) : Ap P n l M os e (.call ⟨.builtin .len, #[a], #[ty]⟩) (.val (.int .i64 (s.size : Int))) := by
 simp [Ap, apure, ha.op, lenOp, h.h, hs]
theorem ap_min {k k2 : IntKind} {p q : Int} {t1 t2 : TypeId} (ha : Rq n l e a (.val (.int k p))) (hb : Rq n l e b (.val (.int k2 q))) : Ap P n l M os e (.call ⟨.builtin .min, #[a, b], #[t1, t2]⟩) (.val (.int k (min p q))) := by
 simp [Ap, apure, ha.op, hb.op, mmA]
class TFd (P : Program) (t : TypeId) (i : Nat) (off : outParam Nat) (ti : outParam TI) : Prop where
 h : (match P.underlying t with | some (.struct fields) => (fields[i]?).map fun f => (f.offset, tinfo P f.type) | _ => none) = some (off, some ti)
theorem ap_extract {vs : List AV} (ha : Rq n l e a (.tup vs)) (hi : vs[i]? = some x) : Ap P n l M os e (.extract a i) x := by simp [Ap, apure, ha.op, extractA, hi]
def RqP (n : Nat) (l : List (Nat × AV)) (e : List Bool) : List (Nat × Operand) -> List (Nat × AV) -> Prop
 | [], [] => True
 | (i, a) :: r, (j, x) :: r' => j = i /\ Rq n l e a x /\ RqP n l e r r'
 | _, _ => False
theorem RqP.op : ∀ {ps : List (Nat × Operand)} {xs : List (Nat × AV)}, RqP n l e ps xs -> (ps.map fun p => (p.1, ((S n l M os).op p.2).res e)) = xs
 | [], [], _ => rfl
 | (i, a) :: r, (j, x) :: r', h => by obtain ⟨h1, h2, h3⟩ := h; subst h1; simp [h2.op, RqP.op h3]
 | [], _ :: _, h => h.elim
 | _ :: _, [], h => h.elim
def RqL (n : Nat) (l : List (Nat × AV)) (e : List Bool) : List Operand -> List AV -> Prop
 | [], [] => True
 | a :: r, x :: r' => Rq n l e a x /\ RqL n l e r r'
 | _, _ => False
theorem RqL.op : ∀ {ps : List Operand} {xs : List AV}, RqL n l e ps xs -> (ps.map fun p => ((S n l M os).op p).res e) = xs
 | [], [], _ => rfl
 | a :: r, x :: r', h => by obtain ⟨h2, h3⟩ := h; simp [h2.op, RqL.op h3]
 | [], _ :: _, h => h.elim
 | _ :: _, [], h => h.elim
theorem RqL.nil : RqL n l e [] [] := trivial
theorem RqL.cons {r : List Operand} {r' : List AV} (h : Rq n l e a x) (h' : RqL n l e r r') : RqL n l e (a :: r) (x :: r') := ⟨h, h'⟩
theorem RqP.nil : RqP n l e [] [] := trivial
theorem RqP.cons {r : List (Nat × Operand)} {r' : List (Nat × AV)} (h : Rq n l e a x) (h' : RqP n l e r r') : RqP n l e ((i, a) :: r) ((i, x) :: r') := ⟨rfl, h, h'⟩
theorem ap_build {ps : Array (Nat × Operand)} {xs : List (Nat × AV)} [h : TIc P ty ti] (hp : RqP n l e ps.toList xs) (hx : buildA ti xs = some x) : Ap P n l M os e (.build ty ps) x := by
 have := hp.op (M := M) (os := os)
 simp only [Ap, apure, h.h, Option.bind_some, this, hx]
theorem ap_clo {fn : Fn} {fs cs : Array Operand} {xs ys : List AV} (h1 : RqL n l e fs.toList xs) (h2 : RqL n l e cs.toList ys) : Ap P n l M os e (.makeFunc fn fs cs) (.clo fn xs ys) := by
 have h1 := h1.op (M := M) (os := os)
 have h2 := h2.op (M := M) (os := os)
 simp only [Ap, apure, h1, h2]
theorem ap_conv {src : TypeId} {k kk : IntKind} {p : Int} [h0 : TIc P src tj] [h : TIc P ty ti] (ha : Rq n l e a (.val (.int kk p))) (hk : ti.kind = some k) (hb : b8 P ti = false) (hr : inr k p) : Ap P n l M os e (.convert src ty a) (.val (.int k p)) := by
 simp [Ap, apure, ha.op, h0.h, h.h, convA, hk, hr, hb]
theorem ap_conv_is {src : TypeId} {kk : IntKind} {p : Int} [h0 : TIc P src tj] [h : TIc P ty ti] (ha : Rq n l e a (.val (.int kk p))) (hk : ti.kind = none) (hs : ti.sh = .string) (hb : b8 P ti = false) : Ap P n l M os e (.convert src ty a) (.val (.string (Utf8.encode p))) := by
 simp [Ap, apure, ha.op, h0.h, h.h, convA, hk, hs, hb]
class TMp (P : Program) (t : TypeId) (d : outParam TypeDesc) (e : outParam TypeId) (z : outParam AV) : Prop where
 h : ∃ k, mapKE P t = some (d, k, e) /\ zeroM P e = some z
class KeyF (d : TypeDesc) {κ : Type} (kf : κ -> Value) [DecidableEq κ] : Prop where
 ok : ∀ a, isKeyB d (kf a) = true
 same : ∀ a b, (Instr.sameNow d (kf a) (kf b) = some true) ↔ a = b
def intK (n : Int) : Value := .int .i64 n
def strK (s : ByteArray) : Value := .string s
def unitA (_ : Unit) : AV := .agg []
instance : KeyF (.int .i64) intK where
 ok _ := by simp [isKeyB, intK]
 same a b := by simp [Instr.sameNow, intK]
instance : KeyF .string strK where
 ok _ := by simp [isKeyB, strK]
 same a b := by
  obtain ⟨r, h1, h2⟩ := MapKept.sameNow_of_keys (d := .string) (a := .string a) (b := .string b) trivial trivial
  unfold strK
  rw [h1]
  constructor
  ·intro h; injection h with h; have := h2.1 h; injection this
  ·rintro rfl; rw [h2.2 rfl]
section
variable {κ α : Type} [DecidableEq κ]
def afind (k : κ) : List (κ × α) -> Nat -> Option (Nat × α)
 | [], _ => none
 | p :: m, i => if k = p.1 then some (i, p.2) else afind k m (i + 1)
def aget (m : List (κ × α)) (k : κ) : Option α := (afind k m 0).map (·.2)
def aset (m : List (κ × α)) (k : κ) (v : α) : List (κ × α) :=
 match afind k m 0 with
 | some (j, _) => m.set j (k, v)
 | none => m ++ [(k, v)]
def mapA (kf : κ -> Value) (f : α -> AV) (m : List (κ × α)) : List (Value × AV) := m.map fun p => (kf p.1, f p.2)
theorem mfind_map {d : TypeDesc} {kf : κ -> Value} [hk : KeyF d kf] {f : α -> AV} (k : κ) : ∀ (m : List (κ × α)) (i : Nat), mfind d (kf k) (mapA kf f m) i = (afind k m i).map fun p => (p.1, f p.2)
  | [], _ => rfl
  | p :: m, i => by
    have ih := mfind_map (d := d) (kf := kf) (f := f) k m (i + 1)
    simp only [mapA] at ih
    simp only [mapA, List.map_cons, mfind, afind, KeyF.same (d := d) (kf := kf)]
    split
    · rfl
    · exact ih
theorem keys_map {d : TypeDesc} {kf : κ -> Value} [hk : KeyF d kf] {f : α -> AV} (m : List (κ × α)) : ((mapA kf f m).all fun p => isKeyB d p.1) = true := by
 simp [mapA, KeyF.ok (d := d) (kf := kf)]
end
theorem ap_look {κ α : Type} [DecidableEq κ] {kf : κ -> Value} {f : α -> AV} {m : List (κ × α)} {k : κ} {z0 : α} {z : AV} {d : TypeDesc} {el : TypeId} {id : Nat} [hm : TMp P ty d el z] [hk : KeyF d kf] (ha : Rq n l e a (.map id)) (ho : lookq M os id = some (.map (mapA kf f m))) (hb : Rq n l e b (.val (kf k))) (hz : z = f z0) : Ap P n l M os e (.lookup ty a b false) (f ((aget m k).getD z0)) := by
 obtain ⟨kt, h1, h2⟩ := hm.h
 simp only [Ap, apure, h1, Option.bind_some, ha.op, hb.op, lookupA, S_look, ho, KeyF.ok (d := d) (kf := kf), keys_map, and_self, if_true, mfind_map, aget]
 cases afind k m 0 with
 | none => simp [h2, hz]
 | some p => simp
theorem ap_look2 {κ α : Type} [DecidableEq κ] {kf : κ -> Value} {f : α -> AV} {m : List (κ × α)} {k : κ} {z0 : α} {z : AV} {d : TypeDesc} {el : TypeId} {id : Nat} [hm : TMp P ty d el z] [hk : KeyF d kf] (ha : Rq n l e a (.map id)) (ho : lookq M os id = some (.map (mapA kf f m))) (hb : Rq n l e b (.val (kf k))) (hz : z = f z0) : Ap P n l M os e (.lookup ty a b true) (.tup [f ((aget m k).getD z0), .val (.bool (aget m k).isSome)]) := by
 obtain ⟨kt, h1, h2⟩ := hm.h
 simp only [Ap, apure, h1, Option.bind_some, ha.op, hb.op, lookupA, S_look, ho, KeyF.ok (d := d) (kf := kf), keys_map, and_self, if_true, mfind_map, aget]
 cases afind k m 0 with
 | none => simp [h2, hz]
 | some p => simp
def Bq (n : Nat) (l : List (Nat × AV)) (e : List Bool) (o : Option Operand) (d : Nat) (r : Int) : Prop := match o with
 | none => r = d
 | some a => ∃ kk, Rq n l e a (.val (.int kk r))
theorem Bq.bound {o : Option Operand} {d : Nat} {r : Int} (h : Bq n l e o d r) (h0 : 0 <= r) : bound (o.map fun x => ((S n l M os).op x).res e) d = some r.toNat := by
 cases o with
 | none => have h : r = d := h; subst h; simp [Lg.bound]
 | some a => obtain ⟨kk, h⟩ := h; simp [Lg.bound, h.op, h0]
theorem bq_none {d : Nat} : Bq n l e none d d := rfl
theorem bq_some {d : Nat} {kk : IntKind} {r : Int} (h : Rq n l e a (.val (.int kk r))) : Bq n l e (some a) d r := ⟨kk, h⟩
theorem ap_slice_s {lo hi : Option Operand} {r r' : Int} {s : ByteArray} [h : TIc P ty ti] (hs : ti.sh = .string) (ha : Rq n l e a (.val (.string s))) (h1 : Bq n l e lo 0 r) (h2 : Bq n l e hi s.size r') (hr : 0 <= r /\ r <= r' /\ r' <= s.size) :
  Ap P n l M os e (.slice ty a lo hi none) (.val (.string (s.extract r.toNat r'.toNat))) := by
 have h1 := h1.bound (M := M) (os := os) hr.1
 have h2 := h2.bound (M := M) (os := os) (by omega)
 simp only [Ap, apure, h.h, Option.bind_some, hs, ha.op, ssliceA, h1, h2]
 rw [if_pos (by omega)]
theorem ap_slice_m {α : Type} {f : α -> AV} {L : List α} {lo hi : Option Operand} {r r' : Int} {bt : Nat} [h : TEl P ty te k bt] (ha : Rq n l e a (.sl k (L.map f))) (h1 : Bq n l e lo 0 r) (h2 : Bq n l e hi (L.map f).length r') (hr : 0 <= r /\ r <= r' /\ r' <= L.length) :
  Ap P n l M os e (.slice ty a lo hi none) (.sl k (((L.take r'.toNat).drop r.toNat).map f)) := by
 obtain ⟨ti, el, g1, he, hs, g4, hk, g5⟩ := h.h
 have h1 := h1.bound (M := M) (os := os) hr.1
 have h2 := h2.bound (M := M) (os := os) (by omega)
 simp only [Ap, apure, g1, Option.bind_some, hs, he, g4, ha.op, sliceA, h1, h2, hk, if_true]
 rw [if_pos (by simp; omega)]
 simp
theorem ap_slice_r {lo hi : Option Operand} {r r' : Int} {bt : Nat} [h : TEl P ty te k bt] (ha : Rq n l e a (.ref id k off len)) (h1 : Bq n l e lo 0 r) (h2 : Bq n l e hi len r') (hr : 0 <= r /\ r < r' /\ r' <= len) :
  Ap P n l M os e (.slice ty a lo hi none) (.ref id k (off + r.toNat) (r'.toNat - r.toNat)) := by
 obtain ⟨ti, el, g1, he, hs, g4, hk, g5⟩ := h.h
 have h1 := h1.bound (M := M) (os := os) hr.1
 have h2 := h2.bound (M := M) (os := os) (by omega)
 simp only [Ap, apure, g1, Option.bind_some, hs, he, g4, ha.op, sliceA, h1, h2, hk, if_true]
 rw [if_pos (by omega)]
end
end
class TSz (P : Program) (t : TypeId) (k bt : outParam Nat) : Prop where
 h : ∀ ti, tinfo P t = some ti -> ti.size = k
 hb : ∀ ti, tinfo P t = some ti -> ti.bytes = bt
section
variable {P : Program} {Γ : Cx} {n M : Nat} {l : List (Nat × AV)} {os : List (Nat × Option AObj)} {e l' : List Bool} {a b c : Operand} {x y : AV} {op : Op} {d t : Tmp} {ty : TypeId} {pos : String} {af : Array Edge} {ops : Array Oper} {rest : List Oper} {K : St -> Prop} {Q : Exit -> St -> Prop} {j : Nat} {want p : Bool}
theorem su (h : Ap P n l M os [] op x) (hk : asemC P ops rest (S n ((d, x) :: l) M os) K) : asemC P ops (⟨some d, op, ty, pos, af, none⟩ :: rest) (S n l M os) K := by
 simp only [asemC]
 exact .inr (.inl ⟨x, h, by rw [S_put]; exact hk⟩)
def Gq (ops : Array Oper) (n : Nat) (l : List (Nat × AV)) (j : Nat) (want : Bool) (e : List Bool) : Prop := ∃ t x, (ops[j]?).bind (·.dst) = some t /\ opq n l (.tmp t) = some x /\ gcond want x = some e
theorem gq_vt (ht : (ops[j]?).bind (·.dst) = some t) (h : opq n l (.tmp t) = some (.val (.bool p))) : Gq ops n l j true [p] := ⟨t, _, ht, h, rfl⟩
theorem gq_vf (ht : (ops[j]?).bind (·.dst) = some t) (h : opq n l (.tmp t) = some (.val (.bool p))) : Gq ops n l j false [!p] := ⟨t, _, ht, h, rfl⟩
theorem gq_ct (ht : (ops[j]?).bind (·.dst) = some t) (h : opq n l (.tmp t) = some (.cond l' (.val (.bool p)))) : Gq ops n l j true (l' ++ [p]) := ⟨t, _, ht, h, rfl⟩
theorem gq_cf (ht : (ops[j]?).bind (·.dst) = some t) (h : opq n l (.tmp t) = some (.cond l' (.val (.bool p)))) : Gq ops n l j false (l' ++ [!p]) := ⟨t, _, ht, h, rfl⟩
theorem sg (hg : Gq ops n l j want e) (h : e.all id = true -> Ap P n l M os e op x) (hk : asemC P ops rest (S n ((d, .cond e x) :: l) M os) K) : asemC P ops (⟨some d, op, ty, pos, af, some (j, want)⟩ :: rest) (S n l M os) K := by
 obtain ⟨t, y, ht, hy, hc⟩ := hg
 simp only [asemC]
 have hop := opq_op (M := M) (os := os) hy
 simp only [St.op] at hop
 exact .inr ⟨t, e, ht, by rw [hop]; exact hc, .inl ⟨x, h, by rw [S_put]; exact hk⟩⟩
theorem asemC_end (h : K (S n l M os)) : asemC P ops [] (S n l M os) K := h
theorem se_new {o : AObj} (hc : ∀ c f, op = .call c -> c.callee ≠ .value f) (h : aop P (S n l M os).look M (S n l M os).op op = some (x, .new o)) (hk : asemC P ops rest (S n ((d, x) :: l) (M + 1) ((M, some o) :: os)) K) : asemC P ops (⟨some d, op, ty, pos, af, none⟩ :: rest) (S n l M os) K := by
 simp only [asemC]
 refine .inl ?_
 have hl : (S n l M os).objs.length = M := ol_length M os
 have hs : (S n l M os).after (some d) (x, .new o) = S n ((d, x) :: l) (M + 1) ((M, some o) :: os) := by
  simp only [St.after, S, St.put, ol_push, tl_set]
 unfold execA
 split
 ·rename_i c hop
  simp only at hop
  split
  ·rename_i f hf; exact absurd hf (hc c f hop)
  ·exact ⟨_, by rw [hl, <- hop]; exact h, by rw [hs]; exact hk⟩
 ·exact ⟨_, by rw [hl]; exact h, by rw [hs]; exact hk⟩
theorem se_alloc {ti : TI} {o : AObj} {k bt : Nat} [ht : TIc P ty ti] [hz : TSz P ty k bt] (ho : allocA ti = some o) {ty2 : TypeId} (hk : asemC P ops rest (S n ((d, .ptr M k 0 0) :: l) (M + 1) ((M, some o) :: os)) K) :
  asemC P ops (⟨some d, .alloc ty, ty2, pos, af, none⟩ :: rest) (S n l M os) K := by
 refine se_new (x := .ptr M k 0 0) (o := o) (by rintro c f h; cases h) ?_ hk
 simp [aop, ht.h, ho, hz.h ti ht.h, allocA_unit ht.h ho]
theorem se_box {ti : TI} {k bt : Nat} [ht : TIc P ty ti] [hz : TSz P ty k bt] (ha : opq n l a = some x) (hc : x.cells.length = ti.size /\ x.store = true) {ty2 : TypeId} (hk : asemC P ops rest (S n ((d, .ptr M k 0 0) :: l) (M + 1) ((M, some (.arr k [x])) :: os)) K) :
  asemC P ops (⟨some d, .box ty a, ty2, pos, af, none⟩ :: rest) (S n l M os) K := by
 refine se_new (x := .ptr M k 0 0) (by rintro c f h; cases h) ?_ hk
 have hb : boxA ti x = some (.arr k [x]) := by unfold boxA; rw [if_pos hc, hz.h ti ht.h]
 simp [aop, ht.h, opq_op ha, hz.h ti ht.h, hb]
theorem se_make {te : TI} {k bt : Nat} {z : AV} {kk k2 : IntKind} {m : Nat} [ht : TEl P ty te k bt] (ha : opq n l a = some (.val (.int kk (m : Int)))) (hb : opq n l b = some (.val (.int k2 (m : Int)))) (hzero : zeroA te = some z) (hbb : Nat.beq bt 0 = false)
  (hm : bt * m <= 281474976710656) {ty2 : TypeId} (hk : asemC P ops rest (S n ((d, .ref M k 0 m) :: l) (M + 1) ((M, some (.arr k (List.replicate m z))) :: os)) K) :
  asemC P ops (⟨some d, .makeSlice ty a b, ty2, pos, af, none⟩ :: rest) (S n l M os) K := by
 obtain ⟨ti, el, g1, he, hs, g4, hsz, hbz⟩ := ht.h
 refine se_new (x := .ref M k 0 m) (by rintro c f h; cases h) ?_ hk
 have hb0 : te.bytes ≠ 0 := by rw [hbz]; exact Nat.ne_of_beq_eq_false hbb
 have hm' : (te.bytes : Int) * m <= 281474976710656 := by rw [hbz, <- Int.natCast_mul]; omega
 have hmk : makeSliceA te (.val (.int kk (m : Int))) (.val (.int k2 (m : Int))) = some (.arr k (List.replicate m z), m) := by
  simp only [makeSliceA, hzero, Option.bind_some]
  rw [if_pos ⟨Int.natCast_nonneg m, Int.le_refl _, hm', hb0⟩, hsz]; rw [Int.toNat_natCast]
 simp only [aop, g1, he, g4, Option.bind_some, opq_op ha, opq_op hb, hmk, Option.map_some, hsz]
def OpP (n : Nat) (l : List (Nat × AV)) : List (Nat × Operand) -> List (Nat × AV) -> Prop
 | [], [] => True
 | (i, a) :: r, (j, x) :: r' => j = i /\ opq n l a = some x /\ OpP n l r r'
 | _, _ => False
theorem OpP.get : ∀ {ps : List (Nat × Operand)} {xs : List (Nat × AV)}, OpP n l ps xs -> (ps.map fun p => (p.1, (S n l M os).op p.2)) = xs
 | [], [], _ => rfl
 | (i, a) :: r, (j, x) :: r', h => by obtain ⟨h1, h2, h3⟩ := h; subst h1; simp [opq_op h2, OpP.get h3]
 | [], _ :: _, h => h.elim
 | _ :: _, [], h => h.elim
theorem OpP.nil : OpP n l [] [] := trivial
theorem OpP.cons {i : Nat} {r : List (Nat × Operand)} {r' : List (Nat × AV)} (h : opq n l a = some x) (h' : OpP n l r r') : OpP n l ((i, a) :: r) ((i, x) :: r') := ⟨rfl, h, h'⟩
def seqv : Nat -> List (Nat × AV) -> Option (List AV)
  | _, [] => some []
  | i, (j, x) :: r => bif Nat.beq j i then (match seqv (i + 1) r with
    | some xs => some (x :: xs)
    | none => none) else none
theorem seqv_fill {k : Nat} {z : AV} : ∀ (parts : List (Nat × AV)) (pre xs : List AV), seqv pre.length parts = some xs -> (∀ x, x ∈ xs -> x.cells.length = k /\ x.store = true) -> fillE k (pre ++ List.replicate parts.length z) parts = some (pre ++ xs)
  | [], pre, xs, h, _ => by simp [seqv] at h; subst h; simp [fillE]
  | (j, x) :: r, pre, xs, h, hx => by
    simp only [seqv] at h
    cases hb : Nat.beq j pre.length with
    | false => simp [hb] at h
    | true =>
      have hj := Nat.eq_of_beq_eq_true hb
      rw [hb] at h
      simp only [cond_true] at h
      split at h
      · rename_i ys hys
        injection h with h; subst h
        have h1 := hx x (by simp)
        subst hj
        simp only [fillE, List.length_append, List.length_replicate, List.length_cons]
        rw [if_pos ⟨h1.1, by omega, h1.2⟩]
        have : (pre ++ List.replicate (r.length + 1) z).set pre.length x = (pre ++ [x]) ++ List.replicate r.length z := by
          rw [List.set_append_right _ _ (Nat.le_refl _), List.replicate_succ]; simp
        rw [this, seqv_fill r (pre ++ [x]) ys (by simpa using hys) (fun y hy => hx y (by simp [hy]))]
        simp
      · cases h
theorem se_lit {te : TI} {k m bt : Nat} {z : AV} {ps : Array (Nat × Operand)} {xs : List (Nat × AV)} {vs : List AV} [ht : TEl P ty te k bt] (hp : OpP n l ps.toList xs) (hv : seqv 0 xs = some vs) (hl : xs.length = m) (h0 : Nat.beq m 0 = false) (hbig : Nat.ble (m * k) 16777216 = true) (hzero : zeroA te = some z)
  (hc : (vs.all fun x => Nat.beq x.cells.length k && x.store) = true) {ty2 : TypeId} (hk : asemC P ops rest (S n ((d, .ref M k 0 m) :: l) (M + 1) ((M, some (.arr k vs)) :: os)) K) :
  asemC P ops (⟨some d, .buildSlice ty m ps, ty2, pos, af, none⟩ :: rest) (S n l M os) K := by
 obtain ⟨ti, el, g1, he, hs, g4, hsz, hbz⟩ := ht.h
 refine se_new (x := .ref M k 0 m) (by rintro c f h; cases h) ?_ hk
 have hp' := hp.get (M := M) (os := os)
 have hb : buildSliceA te m xs = some (.arr k vs) := by
  have hne : m ≠ 0 := Nat.ne_of_beq_eq_false h0
  simp only [buildSliceA, if_neg hne, hzero, Option.bind_some, hsz, if_pos (Nat.le_of_ble_eq_true hbig)]
  have := seqv_fill (k := k) (z := z) xs [] vs hv (fun x hx => by
   have := List.all_eq_true.1 hc x hx
   simp only [Bool.and_eq_true] at this
   exact ⟨Nat.eq_of_beq_eq_true this.1, this.2⟩)
  simp only [List.nil_append, hl] at this
  rw [this]; rfl
 simp only [aop, g1, he, g4, Option.bind_some, hp', hb, Option.map_some, hsz]
theorem se_app {te tj : TI} {tx : TypeId} {k bt id len : Nat} {es ys : List AV} [ht : TEl P ty te k bt] [h3 : TIc P tx tj] (hsh : (match tj.sh with | .int => false | _ => true) = true) (ha : opq n l a = some (.ref id k 0 len)) (ho : lookq M os id = some (.arr k es)) (hl : es.length = len)
  (hb : opq n l b = some y) (hy : srcA te (lookq M os) y = some ys) (hz0 : (zeroA te).isSome = true) (hbt : Nat.beq bt 0 = false) (hr : (es.length + ys.length) * bt <= 140737488355328) {ty2 : TypeId} (hk : asemC P ops rest (S n ((d, .ref M k 0 (es ++ ys).length) :: l) (M + 1) ((M, some (.arr k (es ++ ys))) :: (id, none) :: os)) K) :
  asemC P ops (⟨some d, .call ⟨.builtin .append, #[a, b], #[ty, tx]⟩, ty2, pos, af, none⟩ :: rest) (S n l M os) K := by
 obtain ⟨ti, el, g1, he, hs, g4, hsz, hbz⟩ := ht.h
 simp only [asemC]
 refine .inl ?_
 have hb0 : te.bytes ≠ 0 := by rw [hbz]; exact Nat.ne_of_beq_eq_false hbt
 have hrm : room te (es.length + ys.length) := ⟨by rw [hbz]; exact hr, hb0⟩
 have happ : appendA te (lookq M os) (.ref id k 0 len) y = some (some id, es ++ ys) := by
  simp only [appendA, hz0, if_true, ho, hsz]
  rw [if_pos ⟨trivial, trivial, trivial, hl⟩, hy, Option.bind_some, if_pos hrm]
 have hsh' : ¬ tj.sh = .int := by intro h; rw [h] at hsh; cases hsh
 have hls : (S n l M os).objs.length = M := ol_length M os
 unfold execA
 simp only
 refine ⟨(.ref M k 0 (es ++ ys).length, .app (some id, es ++ ys) k), ?_, ?_⟩
 ·simp only [aop, g1, he, g4, h3.h, Option.bind_some, if_neg hsh', opq_op ha, opq_op hb, S_look', happ, Option.map_some, hls, hsz]
 ·have : (S n l M os).after (some d) (.ref M k 0 (es ++ ys).length, .app (some id, es ++ ys) k) = S n ((d, .ref M k 0 (es ++ ys).length) :: l) (M + 1) ((M, some (.arr k (es ++ ys))) :: (id, none) :: os) := by
   simp only [St.after, S, St.put, ol_set, ol_push, tl_set]
  rw [this]; exact hk
theorem se_app1 {α : Type} {f : α -> AV} {L : List α} {v : α} {te tj : TI} {tx : TypeId} {k bt id id2 len : Nat} [ht : TEl P ty te k bt] [h3 : TIc P tx tj] (hsh : (match tj.sh with | .int => false | _ => true) = true) (ha : opq n l a = some (.ref id k 0 len)) (ho : lookq M os id = some (.arr k (L.map f))) (hl : L.length = len)
  (hb : opq n l b = some (.ref id2 k 0 1)) (ho2 : lookq M os id2 = some (.arr k [f v])) (hz0 : (zeroA te).isSome = true) (hbt : Nat.beq bt 0 = false) (hr : (L.length + 1) * bt <= 140737488355328) {ty2 : TypeId} (hk : asemC P ops rest (S n ((d, .ref M k 0 (L ++ [v]).length) :: l) (M + 1) ((M, some (.arr k ((L ++ [v]).map f))) :: (id, none) :: os)) K) :
  asemC P ops (⟨some d, .call ⟨.builtin .append, #[a, b], #[ty, tx]⟩, ty2, pos, af, none⟩ :: rest) (S n l M os) K := by
 obtain ⟨ti, el, g1, he, hs, g4, hsz, hbz⟩ := ht.h
 refine se_app (es := L.map f) (ys := [f v]) (k := k) (len := len) hsh ha ho (by simpa using hl) hb (by simp [srcA, ho2, hsz]) hz0 hbt (by simpa using hr) ?_
 have e1 : List.map f L ++ [f v] = (L ++ [v]).map f := by simp
 rw [e1, List.length_map]; exact hk
theorem se_appL {α : Type} {f : α -> AV} {L L2 : List α} {te tj : TI} {tx : TypeId} {k bt id len : Nat} [ht : TEl P ty te k bt] [h3 : TIc P tx tj] (hsh : (match tj.sh with | .int => false | _ => true) = true) (ha : opq n l a = some (.ref id k 0 len)) (ho : lookq M os id = some (.arr k (L.map f))) (hl : L.length = len)
  (hb : opq n l b = some (.sl k (L2.map f))) (hz0 : (zeroA te).isSome = true) (hbt : Nat.beq bt 0 = false) (hr : (L.length + L2.length) * bt <= 140737488355328) {ty2 : TypeId} (hk : asemC P ops rest (S n ((d, .ref M k 0 (L ++ L2).length) :: l) (M + 1) ((M, some (.arr k ((L ++ L2).map f))) :: (id, none) :: os)) K) :
  asemC P ops (⟨some d, .call ⟨.builtin .append, #[a, b], #[ty, tx]⟩, ty2, pos, af, none⟩ :: rest) (S n l M os) K := by
 obtain ⟨ti, el, g1, he, hs, g4, hsz, hbz⟩ := ht.h
 refine se_app (es := L.map f) (ys := L2.map f) (k := k) (len := len) hsh ha ho (by simpa using hl) hb (by simp [srcA, hsz]) hz0 hbt (by simpa using hr) ?_
 have e1 : List.map f L ++ List.map f L2 = (L ++ L2).map f := by simp
 rw [e1, List.length_map]; exact hk
theorem se_appN {te tj : TI} {tx : TypeId} {k bt : Nat} {ys : List AV} [ht : TEl P ty te k bt] [h3 : TIc P tx tj] (hsh : (match tj.sh with | .int => false | _ => true) = true) (ha : opq n l a = some (.val (.slice none 0 0)))
  (hb : opq n l b = some y) (hy : srcA te (lookq M os) y = some ys) (hz0 : (zeroA te).isSome = true) (hbt : Nat.beq bt 0 = false) (hr : ys.length * bt <= 140737488355328) {ty2 : TypeId} (hk : asemC P ops rest (S n ((d, .ref M k 0 ys.length) :: l) (M + 1) ((M, some (.arr k ys)) :: os)) K) :
  asemC P ops (⟨some d, .call ⟨.builtin .append, #[a, b], #[ty, tx]⟩, ty2, pos, af, none⟩ :: rest) (S n l M os) K := by
 obtain ⟨ti, el, g1, he, hs, g4, hsz, hbz⟩ := ht.h
 simp only [asemC]
 refine .inl ?_
 have hb0 : te.bytes ≠ 0 := by rw [hbz]; exact Nat.ne_of_beq_eq_false hbt
 have hrm : room te ys.length := ⟨by rw [hbz]; exact hr, hb0⟩
 have happ : appendA te (lookq M os) (.val (.slice none 0 0)) y = some (none, ys) := by
  simp only [appendA, hz0, if_true, hy, Option.bind_some, if_pos hrm]
 have hsh' : ¬ tj.sh = .int := by intro h; rw [h] at hsh; cases hsh
 have hls : (S n l M os).objs.length = M := ol_length M os
 unfold execA
 simp only
 refine ⟨(.ref M k 0 ys.length, .app (none, ys) k), ?_, ?_⟩
 ·simp only [aop, g1, he, g4, h3.h, Option.bind_some, if_neg hsh', opq_op ha, opq_op hb, S_look', happ, Option.map_some, hls, hsz]
 ·have : (S n l M os).after (some d) (.ref M k 0 ys.length, .app (none, ys) k) = S n ((d, .ref M k 0 ys.length) :: l) (M + 1) ((M, some (.arr k ys)) :: os) := by
   simp only [St.after, S, St.put, ol_push, tl_set]
  rw [this]; exact hk
theorem se_appNL {α : Type} {f : α -> AV} {L2 : List α} {te tj : TI} {tx : TypeId} {k bt : Nat} [ht : TEl P ty te k bt] [h3 : TIc P tx tj] (hsh : (match tj.sh with | .int => false | _ => true) = true) (ha : opq n l a = some (.val (.slice none 0 0)))
  (hb : opq n l b = some (.sl k (L2.map f))) (hz0 : (zeroA te).isSome = true) (hbt : Nat.beq bt 0 = false) (hr : L2.length * bt <= 140737488355328) {ty2 : TypeId} (hk : asemC P ops rest (S n ((d, .ref M k 0 L2.length) :: l) (M + 1) ((M, some (.arr k (L2.map f))) :: os)) K) :
  asemC P ops (⟨some d, .call ⟨.builtin .append, #[a, b], #[ty, tx]⟩, ty2, pos, af, none⟩ :: rest) (S n l M os) K := by
 obtain ⟨ti, el, g1, he, hs, g4, hsz, hbz⟩ := ht.h
 refine se_appN (ys := L2.map f) (k := k) hsh ha hb (by simp [srcA, hsz]) hz0 hbt (by simpa using hr) ?_
 rw [List.length_map]; exact hk
theorem se_store {ti : TI} {id k i j : Nat} {es : List AV} {ed ed' : AV} [ht : TIc P ty ti] (ha : opq n l a = some (.ptr id k i j)) (ho : lookq M os id = some (.arr k es)) (hi : es[i]? = some ed) (hb : opq n l b = some y) (hs : splice ti ed j y = some ed') {ty2 : TypeId}
  (hk : asemC P ops rest (S n l M ((id, some (.arr k (es.set i ed'))) :: os)) K) : asemC P ops (⟨none, .store ty a b, ty2, pos, af, none⟩ :: rest) (S n l M os) K := by
 simp only [asemC]
 refine .inl ?_
 unfold execA
 simp only
 refine ⟨(.any, .set id (.arr k (es.set i ed'))), ?_, ?_⟩
 ·simp [aop, ht.h, opq_op ha, opq_op hb, storeA, S_look, ho, hi, hs]
 ·have : (S n l M os).after none (.any, .set id (.arr k (es.set i ed'))) = S n l M ((id, some (.arr k (es.set i ed'))) :: os) := by
   simp only [St.after, S, St.put, St.set, ol_set]
  rw [this]; exact hk
theorem se_store_b {ti : TI} {id k j : Nat} {ed ed' : AV} [ht : TIc P ty ti] (ha : opq n l a = some (.ptr id k 0 j)) (ho : lookq M os id = some (.arr k [ed])) (hb : opq n l b = some y) (hs : splice ti ed j y = some ed') {ty2 : TypeId}
  (hk : asemC P ops rest (S n l M ((id, some (.arr k [ed'])) :: os)) K) : asemC P ops (⟨none, .store ty a b, ty2, pos, af, none⟩ :: rest) (S n l M os) K :=
 se_store ha ho (by rfl) hb hs hk
theorem map_set' {α : Type} (f : α -> AV) (L : List α) (i : Nat) (v : α) : (L.map f).set i (f v) = (L.set i v).map f := by rw [List.map_set]
theorem se_store_t {α : Type} [Inhabited α] {f : α -> AV} {L : List α} {v : α} {ti : TI} {id k i : Nat} [ht : TIc P ty ti] (ha : opq n l a = some (.ptr id k i 0)) (ho : lookq M os id = some (.arr k (L.map f))) (hi : i < L.length) (hb : opq n l b = some (f v)) (hs : splice ti (f (nth L i)) 0 (f v) = some (f v)) {ty2 : TypeId}
  (hk : asemC P ops rest (S n l M ((id, some (.arr k ((L.set i v).map f))) :: os)) K) : asemC P ops (⟨none, .store ty a b, ty2, pos, af, none⟩ :: rest) (S n l M os) K :=
 se_store ha ho (map_nth hi) hb hs (by rw [map_set']; exact hk)
theorem se_val (hc : ∀ c, op ≠ .call c) (h : aop P (lookq M os) M (S n l M os).op op = some (x, .none)) (hk : asemC P ops rest (S n ((d, x) :: l) M os) K) : asemC P ops (⟨some d, op, ty, pos, af, none⟩ :: rest) (S n l M os) K := by
 simp only [asemC]
 refine .inl ?_
 have hl : (S n l M os).objs.length = M := ol_length M os
 have hs : (S n l M os).after (some d) (x, .none) = S n ((d, x) :: l) M os := by
  simp only [St.after, S, St.put, tl_set]
 unfold execA
 split
 ·rename_i c hop; exact absurd hop (hc c)
 ·exact ⟨_, by rw [hl, S_look']; exact h, by rw [hs]; exact hk⟩
theorem se_mkmap {ty2 : TypeId} {mk : TypeDesc} {me : TypeId} {mz : AV} [hm : TMp P ty mk me mz] (hk : asemC P ops rest (S n ((d, .map M) :: l) (M + 1) ((M, some (.map [])) :: os)) K) :
  asemC P ops (⟨some d, .makeMap ty none, ty2, pos, af, none⟩ :: rest) (S n l M os) K := by
 obtain ⟨k, h1, _⟩ := hm.h
 refine se_new (x := .map M) (by rintro c f h; cases h) ?_ hk
 simp [aop, h1]
theorem aset_map {κ α : Type} [DecidableEq κ] {mk : TypeDesc} {kf : κ -> Value} [hk : KeyF mk kf] {f : α -> AV} {m : List (κ × α)} {k : κ} {v : α} : (match mfind mk (kf k) (mapA kf f m) 0 with
  | some (j, _) => some (AObj.map ((mapA kf f m).set j (kf k, f v)))
  | none => some (AObj.map (mapA kf f m ++ [(kf k, f v)]))) = some (AObj.map (mapA kf f (aset m k v))) := by
 rw [mfind_map]
 unfold aset
 cases afind k m 0 with
 | none => simp [mapA]
 | some p => simp [mapA]
theorem se_mapset {κ α : Type} [DecidableEq κ] {kf : κ -> Value} {f : α -> AV} {m : List (κ × α)} {k : κ} {v : α} {id : Nat} {mk : TypeDesc} {me : TypeId} {mz : AV} [hm : TMp P ty mk me mz] [hkf : KeyF mk kf] (ha : opq n l a = some (.map id)) (ho : lookq M os id = some (.map (mapA kf f m))) (hb : opq n l b = some (.val (kf k))) (hc : opq n l c = some (f v)) {ty2 : TypeId}
  (hk : asemC P ops rest (S n l M ((id, some (.map (mapA kf f (aset m k v)))) :: os)) K) : asemC P ops (⟨none, .mapUpdate ty a b c, ty2, pos, af, none⟩ :: rest) (S n l M os) K := by
 obtain ⟨kt, h1, _⟩ := hm.h
 simp only [asemC]
 refine .inl ?_
 unfold execA
 simp only
 refine ⟨(.any, .set id (.map (mapA kf f (aset m k v)))), ?_, ?_⟩
 ·have h2 := aset_map (mk := mk) (kf := kf) (f := f) (m := m) (k := k) (v := v)
  simp only [aop, h1, Option.bind_some, opq_op ha, opq_op hb, opq_op hc, updateA, S_look, ho, KeyF.ok (d := mk) (kf := kf), keys_map, and_self, if_true]
  revert h2
  cases mfind mk (kf k) (mapA kf f m) 0 with
  | none => intro h2; injection h2 with h2; simp [h2]
  | some p => intro h2; injection h2 with h2; simp [h2]
 ·have : (S n l M os).after none (.any, .set id (.map (mapA kf f (aset m k v)))) = S n l M ((id, some (.map (mapA kf f (aset m k v)))) :: os) := by
   simp only [St.after, S, St.put, St.set, ol_set]
  rw [this]; exact hk
theorem se_unit_alloc {ty2 : TypeId} (hu : unitT P ty = true) (hk : asemC P ops rest (S n ((d, .ptr M 0 0 0) :: l) (M + 1) ((M, some (.arr 0 [.agg []])) :: os)) K) :
  asemC P ops (⟨some d, .alloc ty, ty2, pos, af, none⟩ :: rest) (S n l M os) K := by
 refine se_new (x := .ptr M 0 0 0) (by rintro c f h; cases h) ?_ hk
 simp [aop, hu]
theorem se_unit_build {ty2 : TypeId} (hu : unitT P ty = true) (hk : asemC P ops rest (S n ((d, .agg []) :: l) M os) K) :
  asemC P ops (⟨some d, .build ty #[], ty2, pos, af, none⟩ :: rest) (S n l M os) K :=
 se_val (by rintro c h; cases h) (by simp [aop, hu]) hk
theorem se_s2b {src : TypeId} {tj ti : TI} {s : ByteArray} [h0 : TIc P src tj] [h : TIc P ty ti] (hb : b8 P ti = true) (ha : opq n l a = some (.val (.string s))) (hs : s.size <= 4611686018427387904) {ty2 : TypeId} (hk : asemC P ops rest (S n ((d, .sl 1 (s.data.toList.map byteA)) :: l) M os) K) :
  asemC P ops (⟨some d, .convert src ty a, ty2, pos, af, none⟩ :: rest) (S n l M os) K :=
 se_val (by rintro c h; cases h) (by simp [aop, h0.h, h.h, hb, opq_op ha, s2bA, hs, pure']) hk
end
structure Fn (P : Program) (f : FuncId) (args : List AV) (X : AV) : Prop where
 spec : Spec P f args [] fun r _ => r = X /\ r.bd 0 = true
 bd : X.bd 0 = true
inductive Sub : AV -> AV -> Prop
 | refl {x : AV} : Sub x x
 | nil {k : Nat} : Sub (.val (.slice none 0 0)) (.sl k [])
 | agg {xs ys : List AV} (hl : ys.length = xs.length) (h : ∀ (i : Nat) x y, xs[i]? = some x -> ys[i]? = some y -> Sub x y) : Sub (.agg xs) (.agg ys)
inductive SubL : List AV -> List AV -> Prop
 | nil : SubL [] []
 | cons {x y : AV} {xs ys : List AV} (h : Sub x y) (t : SubL xs ys) : SubL (x :: xs) (y :: ys)
theorem SubL.rfl : ∀ {xs : List AV}, SubL xs xs
 | [] => .nil
 | _ :: _ => .cons .refl SubL.rfl
theorem SubL.len {xs ys : List AV} (h : SubL xs ys) : ys.length = xs.length := by
 induction h with
 | nil => rfl
 | cons _ _ ih => simp [ih]
theorem SubL.get {xs ys : List AV} (h : SubL xs ys) : ∀ (i : Nat) x y, xs[i]? = some x -> ys[i]? = some y -> Sub x y := by
 induction h with
 | nil => intro i x y hx; simp at hx
 | cons h _ ih =>
  intro i x y hx hy
  cases i with
  | zero => simp at hx hy; subst hx hy; exact h
  | succ i => exact ih i x y (by simpa using hx) (by simpa using hy)
theorem Sub.aggL {xs ys : List AV} (h : SubL xs ys) : Sub (.agg xs) (.agg ys) := .agg h.len h.get
section
variable {P : Program} {Γ : Cx} {A : Nat -> Prop} {ρ : Nat -> Option Nat} {I : Nat -> Prop} {s : St} {w : World}
theorem RV.sub {x y : AV} (h : Sub x y) : ∀ {v : Value}, RV A ρ I w x v -> RV A ρ I w y v := by
 induction h with
 | refl => exact id
 | nil => intro v hv; rw [hv.val_eq]; exact .nils
 | agg hl _ ih =>
  intro v hv
  cases hv with
  | agg hlv ha hr =>
   refine .agg (by omega) ha fun i y u hy hu => ?_
   rename_i xs ys _ _
   have hi : i < xs.length := by rw [<- hl]; exact (List.getElem?_eq_some_iff.1 hy).1
   exact ih i _ y (List.getElem?_eq_getElem hi) hy (hr i _ u (List.getElem?_eq_getElem hi) hu)
theorem Call.sub {fv : AV} {as as' : List AV} {K : AV -> St -> Prop} (h : SubL as as') (hc : Call P fv as' s K) : Call P fv as s K := by
 intro Γ a w f vs hs hfv
 refine hc Γ a w f vs hs fun ρ h0 => ?_
 obtain ⟨h1, h2, h3⟩ := hfv ρ h0
 refine ⟨h1, by rw [h2, h.len], fun i y v hy hv => ?_⟩
 have hi : i < as.length := by rw [<- h.len]; exact (List.getElem?_eq_some_iff.1 hy).1
 exact (h3 i _ v (List.getElem?_eq_getElem hi) hv).sub (h.get i _ y (List.getElem?_eq_getElem hi) hy)
end
section
variable {P : Program} {Γ : Cx} {n M : Nat} {l : List (Nat × AV)} {os : List (Nat × Option AObj)} {e l' : List Bool} {a b c : Operand} {x y X : AV} {op : Op} {d t : Tmp} {ty : TypeId} {pos : String} {af : Array Edge} {ops : Array Oper} {rest : List Oper} {K : St -> Prop} {Q : Exit -> St -> Prop} {j : Nat} {want p : Bool} {g : FuncId} {first cap as as' : List AV} {f : Operand} {args : Array Operand} {tys : Array TypeId}
theorem Spec.sub {xs ys : List AV} {post : AV -> List (Option AObj) -> Prop} (h : Spec P g ys [] post) (hs : SubL xs ys) : Spec P g xs [] post := by
 refine ⟨h.1, fun Γ vs hm hr => h.2 Γ vs hm ?_⟩
 obtain ⟨ρ, hr⟩ := hr
 refine ⟨ρ, hr.ext, by rw [hr.len]; exact hs.len.symm, ?_, fun id o hl => by simp [St.live] at hl, fun id o hl => by simp [St.live] at hl, hr.bound, fun id o b hl => by simp [St.live] at hl, fun i j o o' b hl => by simp [St.live] at hl, hr.defers, hr.fr⟩
 intro i y v hy hv
 have hi : i < xs.length := by rw [<- hs.len]; exact (List.getElem?_eq_some_iff.1 hy).1
 exact (hr.tmp i _ v (List.getElem?_eq_getElem hi) hv).sub (hs.get i _ y (List.getElem?_eq_getElem hi) hy)
theorem Fn.sub {xs ys : List AV} (h : Fn P g ys X) (hs : SubL xs ys) : Fn P g xs X := ⟨h.spec.sub hs, h.bd⟩
theorem sc_p (hf : opq n l f = some (.clo (.func g) first cap)) (has : opqL n l args.toList = some as) (hsub : SubL (first ++ as ++ cap) as') (hp : bdL 0 (first ++ as ++ cap) = true) (hspec : Fn P g as' X) (hk : asemC P ops rest (S n ((d, X) :: l) M os) K) :
  asemC P ops (⟨some d, .call ⟨.value f, args, tys⟩, ty, pos, af, none⟩ :: rest) (S n l M os) K := by
 simp only [asemC]
 refine .inl ?_
 simp only [execA, opq_op hf, opqL_op has]
 refine Call.pure (post := fun r => r = X) (hspec.sub hsub).spec hp ?_
 rintro r rfl
 rw [S_put]; exact hk
inductive FzL (look : Nat -> Option AObj) : List AV -> List AV -> Prop
 | nil : FzL look [] []
 | cons {x y : AV} {xs ys : List AV} (h : Fz look x y) (t : FzL look xs ys) : FzL look (x :: xs) (y :: ys)
theorem FzL.fzs {look : Nat -> Option AObj} {xs ys : List AV} (h : FzL look xs ys) : Fzs look xs ys := by
 induction h with
 | nil => trivial
 | cons h _ ih => exact ⟨h, ih⟩
theorem Fz.reflp {look : Nat -> Option AObj} (h : x.bd 0 = true) : Fz look x x := .pure h
theorem Fz.list {α : Type} {look : Nat -> Option AObj} {id k len : Nat} {f : α -> AV} {L : List α} (ho : look id = some (.arr k (L.map f))) (hl : L.length = len) (hb : ∀ x, (f x).bd 0 = true) (hk : ∀ x, (f x).cells.length = k) : Fz look (.ref id k 0 len) (.sl k (L.map f)) :=
 .row ho (by simpa using hl) (bdL_map hb L) fun e he => by obtain ⟨x, _, rfl⟩ := List.mem_map.1 he; exact hk x
theorem Fz.aggL {look : Nat -> Option AObj} {xs ys : List AV} (h : FzL look xs ys) : Fz look (.agg xs) (.agg ys) := .agg (Fzs_len h.fzs) (Fzs_get h.fzs)
theorem Fz.ptrL {look : Nat -> Option AObj} {id k i j : Nat} {es : List AV} {e : AV} {ys : List AV} (hlook : look id = some (.arr k es)) (he : es[i]? = some e) (h : FzL look e.cells ys) : Fz look (.ptr id k i j) (.iptr ys j) := .ptr hlook he (Fzs_len h.fzs) (Fzs_get h.fzs)
theorem Fz.cloL {look : Nat -> Option AObj} {fn : Go.Fn} {xs ys xs' ys' : List AV} (h1 : FzL look xs xs') (h2 : FzL look ys ys') : Fz look (.clo fn xs ys) (.clo fn xs' ys') := .clo (Fzs_len h1.fzs) (Fzs_len h2.fzs) (Fzs_get h1.fzs) (Fzs_get h2.fzs)
theorem Fz.tupL {look : Nat -> Option AObj} {xs ys : List AV} (h : FzL look xs ys) : Fz look (.tup xs) (.tup ys) := .tup (Fzs_len h.fzs) (Fzs_get h.fzs)
theorem sc_b (hf : opq n l f = some (.clo (.func g) first cap)) (has : opqL n l args.toList = some as) (hz : FzL (lookq M os) (first ++ as ++ cap) as') (hspec : Fn P g as' X) (hx : X.scal = true) (hk : asemC P ops rest (S n ((d, X) :: l) M os) K) :
  asemC P ops (⟨some d, .call ⟨.value f, args, tys⟩, ty, pos, af, none⟩ :: rest) (S n l M os) K := by
 simp only [asemC]
 refine .inl ?_
 simp only [execA, opq_op hf, opqL_op has]
 refine Call.borrow (post := fun r => r = X) (hspec.spec.mono ?_) (by rw [S_look']; exact hz.fzs) ?_
 ·rintro r _ ⟨rfl, _⟩; exact ⟨rfl, hx⟩
 ·rintro r rfl
  rw [S_put]; exact hk
theorem sg_p (hg : Gq ops n l j want e) (hc : e.all id = true -> Rq n l e f (.clo (.func g) first cap) /\ RqL n l e args.toList as /\ SubL (first ++ as ++ cap) as' /\ bdL 0 (first ++ as ++ cap) = true /\ Fn P g as' X) (hk : asemC P ops rest (S n ((d, .cond e X) :: l) M os) K) :
  asemC P ops (⟨some d, .call ⟨.value f, args, tys⟩, ty, pos, af, some (j, want)⟩ :: rest) (S n l M os) K := by
 obtain ⟨t, y, ht, hy, hcd⟩ := hg
 simp only [asemC]
 have hop := opq_op (M := M) (os := os) hy
 simp only [St.op] at hop
 refine .inr ⟨t, e, ht, by rw [hop]; exact hcd, .inr ⟨X, _, f, rfl, rfl, fun he => ?_, by rw [S_put]; exact hk⟩⟩
 obtain ⟨h1, h2, h5, h4, h3⟩ := hc he
 rw [h1.op, h2.op]
 refine Call.pure (post := fun r => r = X) (h3.sub h5).spec h4 ?_
 rintro r rfl
 exact ⟨rfl, rfl⟩
theorem sg_b (hg : Gq ops n l j want e) (hc : e.all id = true -> Rq n l e f (.clo (.func g) first cap) /\ RqL n l e args.toList as /\ FzL (lookq M os) (first ++ as ++ cap) as' /\ Fn P g as' X /\ X.scal = true) (hk : asemC P ops rest (S n ((d, .cond e X) :: l) M os) K) :
  asemC P ops (⟨some d, .call ⟨.value f, args, tys⟩, ty, pos, af, some (j, want)⟩ :: rest) (S n l M os) K := by
 obtain ⟨t, y, ht, hy, hcd⟩ := hg
 simp only [asemC]
 have hop := opq_op (M := M) (os := os) hy
 simp only [St.op] at hop
 refine .inr ⟨t, e, ht, by rw [hop]; exact hcd, .inr ⟨X, _, f, rfl, rfl, fun he => ?_, by rw [S_put]; exact hk⟩⟩
 obtain ⟨h1, h2, h4, h3, h5⟩ := hc he
 rw [h1.op, h2.op]
 refine Call.borrow (post := fun r => r = X) (h3.spec.mono ?_) (by rw [S_look']; exact h4.fzs) ?_
 ·rintro r _ ⟨rfl, _⟩; exact ⟨rfl, h5⟩
 ·rintro r rfl
  exact ⟨rfl, rfl⟩
theorem wp_cond {x y : Code} (h : opq n l c = some (.val (.bool p))) (ht : p = true -> WP P Γ x Q (S n l M os)) (hf : p = false -> WP P Γ y Q (S n l M os)) : WP P Γ (.cond c x y) Q (S n l M os) :=
 WP.cond (opq_op h) ht hf
def Ret (P : Program) (rs : List ResultVar) (X : AV) (s : St) : Prop := ∃ x, resN P s rs = some x /\ Fz s.look x X
theorem ret_1 (h : opq n l (.tmp t) = some x) (hz : Fz (lookq M os) x X) : Ret P [.tmp t] X (S n l M os) := by
 refine ⟨x, ?_, by rw [S_look']; exact hz⟩
 have := opq_op (M := M) (os := os) h
 simp only [St.op] at this
 simp only [resN, resL, resA, tupA, this, Option.bind_some, Option.map_some]
def tmpsOf : List ResultVar -> Option (List Operand)
 | [] => some []
 | .tmp t :: r => (tmpsOf r).map fun l => Operand.tmp t :: l
 | _ => none
theorem ret_b {B : Bool} (h : opq n l (.tmp t) = some (.val (.bool p))) (hp : p = B) : Ret P [.tmp t] (.val (.bool B)) (S n l M os) := ret_1 h (by rw [hp]; exact .pure rfl)
theorem ret_i {k : IntKind} {u v : Int} (h : opq n l (.tmp t) = some (.val (.int k u))) (hp : u = v) : Ret P [.tmp t] (.val (.int k v)) (S n l M os) := ret_1 h (by rw [hp]; exact .pure rfl)
theorem ret_eq (h : opq n l (.tmp t) = some x) (hb : x.bd 0 = true) (he : x = X) : Ret P [.tmp t] X (S n l M os) := ret_1 h (by rw [<- he]; exact .pure hb)
theorem ret_sl {α : Type} {f : α -> AV} {L L' : List α} {id k len : Nat} (h : opq n l (.tmp t) = some (.ref id k 0 len)) (ho : lookq M os id = some (.arr k (L.map f))) (hl : L.length = len) (hb : ∀ x, (f x).bd 0 = true) (hk : ∀ x, (f x).cells.length = k) (he : L = L') : Ret P [.tmp t] (.sl k (L'.map f)) (S n l M os) := by
 subst he; exact ret_1 h (Fz.list ho hl hb hk)
theorem inr_i64_of {u : Int} (h : -9223372036854775808 <= u /\ u <= 9223372036854775807) : inr .i64 u := (inr_i64 u).2 h
theorem inr_u8_of {u : Int} (h : 0 <= u /\ u <= 255) : inr .u8 u := (inr_u8 u).2 h
theorem Fn.intro {f : FuncId} {fn : Func} {c : Code} {args : List AV} {X : AV} {rs : List ResultVar} {n : Nat} (hX : X.bd 0 = true) (he : enterable P f = true) (hf : P.funcs[f]? = some fn) (hb : fn.body = some c) (hrs : fn.results = rs.toArray) (hn : fn.ntmps = n) (hl : args.length <= n)
  (h : ∀ Γ : Cx, Γ.m = 0 -> WP P Γ c (bodyQ (Ret P rs X)) (S n (enumA 0 args) 0 [])) : Fn P f args X := by
 refine ⟨Spec.introF he hf hb (rs := rs) (by rw [hrs]) fun Γ hm => ?_, hX⟩
 subst hn
 rw [tl_start _ _ hl]
 refine WP.mono (h Γ hm) ?_
 intro e s hq
 cases e with
 | normal => obtain ⟨x, h1, h2⟩ := hq; exact ⟨x, X, h1, h2, rfl, hX⟩
 | ret => obtain ⟨x, h1, h2⟩ := hq; exact ⟨x, X, h1, h2, rfl, hX⟩
 | _ => exact hq
def toO (os : List (Nat × Option AObj)) : List (Nat × Option AObj) -> Prop
 | [] => True
 | (i, o) :: r => o = lkO i os /\ toO os r
def bdOq (M : Nat) : List (Nat × Option AObj) -> Prop
 | [] => True
 | (_, none) :: r => bdOq M r
 | (_, some (.arr _ es)) :: r => bdL M es = true /\ bdOq M r
 | (_, some (.map m)) :: r => (m.all fun p => p.2.bd M) = true /\ bdOq M r
 | (_, some (.bytes _)) :: r => True /\ bdOq M r
 | (_, some (.bld _ x)) :: r => x.bd M = true /\ bdOq M r
 | (_, some (.lop _ ts)) :: r => bdL M ts = true /\ bdOq M r
 | (_, some (.itr i _ _)) :: r => decide (i < M) = true /\ bdOq M r
theorem toO_lk {os : List (Nat × Option AObj)} : ∀ {r : List (Nat × Option AObj)}, toO os r -> ∀ i, lkO i r = none \/ lkO i r = lkO i os
  | [], _, _ => .inl rfl
  | (j, o) :: r, h, i => by
    simp only [lkO.eq_2 i j]
    cases hb : Nat.beq j i with
    | true => have := Nat.eq_of_beq_eq_true hb; subst this; exact .inr h.1
    | false => exact toO_lk h.2 i
theorem bdOq_lk {M : Nat} : ∀ {r : List (Nat × Option AObj)}, bdOq M r -> ∀ i o, lkO i r = some o -> match o with
    | .arr _ es => bdL M es = true
    | .map m => (m.all fun p => p.2.bd M) = true
    | .bytes _ => True
    | .bld _ x => x.bd M = true
    | .lop _ ts => bdL M ts = true
    | .itr i _ _ => decide (i < M) = true
  | [], _, _, _, h => by simp [lkO] at h
  | (j, o') :: r, h, i, o, hl => by
    unfold lkO at hl
    cases hb : Nat.beq j i with
    | true =>
      rw [hb] at hl
      simp only [cond_true] at hl
      subst hl
      cases o with
      | arr k es => exact h.1
      | map m => exact h.1
      | bytes l => trivial
      | bld T x => exact h.1
      | lop c ts => exact h.1
      | itr i m l => exact h.1
    | false =>
      rw [hb] at hl
      simp only [cond_false] at hl
      refine bdOq_lk (r := r) ?_ i o hl
      cases o' with
      | none => exact h
      | some o' => cases o' <;> exact h.2
theorem bdO_ol {B : Nat} {M : Nat} {os : List (Nat × Option AObj)} (h : bdOq B os) : bdO B (ol M os) = true := by
 have : ∀ r : List Nat, bdO B (r.map fun i => lkO i os) = true := by
  intro r
  induction r with
  | nil => rfl
  | cons i r ih =>
   have hi := bdOq_lk h i
   simp only [List.map_cons]
   cases ho : lkO i os with
   | none => exact ih
   | some o =>
    have := hi o ho
    cases o with
    | arr k es => simp only [bdO, ih, Bool.and_true]; exact this
    | map m => simp only [bdO, ih, Bool.and_true]; exact this
    | bytes l => simp only [bdO, ih, Bool.and_true]
    | bld T x => simp only [bdO, ih, Bool.and_true]; exact this
    | lop c ts => simp only [bdO, ih, Bool.and_true]; exact this
    | itr i m l => simp only [bdO, ih, Bool.and_true]; exact this
 exact this _
theorem wkO_ol {M M' : Nat} {os os' : List (Nat × Option AObj)} (hM : M' <= M) (h : toO os os') : wkO (ol M os) (ol M' os') := by
 have gen : ∀ (r r' : List Nat), wkO ((r ++ r').map fun i => lkO i os) (r.map fun i => lkO i os') := by
  intro r r'
  induction r with
  | nil => simp [wkO]
  | cons i r ih => exact ⟨toO_lk h i, ih⟩
 have := gen (List.range M') ((List.range (M - M')).map (M' + ·))
 rw [<- List.range_add, Nat.add_sub_cancel' hM] at this
 exact this
theorem To.S {m M1 : Nat} {l1 : List (Nat × AV)} {os1 : List (Nat × Option AObj)} (h1 : toT l l1) (h2 : toO os os1) (h3 : bdT M1 l1 = true) (h4 : bdOq M1 os1) (hM : M1 <= M) (h5 : m <= M1) : To m (S n l M os) (S n l1 M1 os1) :=
 ⟨wkT_map (toT_lk h1) _, wkO_ol hM h2, by rw [show (Lg.S n l1 M1 os1).objs.length = M1 from ol_length _ _]; exact bdL_tl h3, by rw [show (Lg.S n l1 M1 os1).objs.length = M1 from ol_length _ _]; exact bdO_ol h4, by rw [show (Lg.S n l1 M1 os1).objs.length = M1 from ol_length _ _]; exact h5⟩
def toRO (π : Nat -> Nat) (os : List (Nat × Option AObj)) (is : List Nat) : List (Nat × Option AObj) -> Prop
  | [] => True
  | (i, o) :: r => (match o with
    | some o => lkO (is.getD i 0) os = some (o.ren π)
    | none => True) /\ toRO π os is r
theorem toRO_lk {π : Nat -> Nat} {os : List (Nat × Option AObj)} {is : List Nat} : ∀ {r : List (Nat × Option AObj)}, toRO π os is r -> ∀ i o, lkO i r = some o -> lkO (is.getD i 0) os = some (o.ren π)
  | [], _, _, _, h => by simp [lkO] at h
  | (j, o') :: r, h, i, o, hl => by
    unfold lkO at hl
    cases hb : Nat.beq j i with
    | true =>
      have := Nat.eq_of_beq_eq_true hb; subst this
      rw [hb] at hl
      simp only [cond_true] at hl
      subst hl
      exact h.1
    | false =>
      rw [hb] at hl
      exact toRO_lk h.2 i o hl
theorem wkRO_ol {π : Nat -> Nat} {M : Nat} {os os1 : List (Nat × Option AObj)} {is : List Nat} (h : toRO π os is os1) (hlt : ∀ i, i ∈ is -> i < M) : wkRO π (ol M os) is (ol is.length os1) := by
 have gen : ∀ (is1 : List Nat) (k : Nat), (∀ i, i ∈ is1 -> i < M) -> (∀ j o, lkO (k + j) os1 = some o -> ∀ i, is1[j]? = some i -> lkO i os = some (o.ren π)) -> wkRO π (ol M os) is1 ((List.range is1.length).map fun i => lkO (k + i) os1) := by
  intro is1
  induction is1 with
  | nil => intro k _ _; simp [wkRO]
  | cons i is1 ih =>
   intro k hm hh
   rw [List.length_cons, List.range_succ_eq_map, List.map_cons, List.map_map]
   refine ⟨?_, ?_, ?_⟩
   ·rw [ol_length]; exact hm i (by simp)
   ·cases ho : lkO (k + 0) os1 with
    | none => exact .inl rfl
    | some o =>
     have := hh 0 o ho i rfl
     rw [ol_get _ (hm i (by simp)), this]; exact .inr rfl
   ·have := ih (k + 1) (fun i hi => hm i (by simp [hi])) (fun j o ho i hi => hh (j + 1) o (by rw [<- ho]; congr 1; omega) i (by simpa using hi))
    have e1 : ((fun i => lkO (k + 1 + i) os1) : Nat -> Option AObj) = ((fun i => lkO (k + i) os1) ∘ Nat.succ) := by funext i; simp only [Function.comp]; congr 1; omega
    rw [e1] at this
    exact this
 have := gen is 0 hlt (fun j o ho i hi => by
  rw [Nat.zero_add] at ho
  have := toRO_lk h j o ho
  rwa [List.getD, hi] at this)
 have e1 : ((fun i => lkO (0 + i) os1) : Nat -> Option AObj) = fun i => lkO i os1 := by funext i; rw [Nat.zero_add]
 rw [e1] at this
 exact this
def dupFree (os : List (Nat × Option AObj)) (x : Nat) : Nat -> List Nat -> Bool
 | _, [] => true
 | i, y :: r => (bif Nat.beq x y then (lkO i os).isNone else true) && dupFree os x (i + 1) r
def dupOk (os : List (Nat × Option AObj)) : Nat -> List Nat -> Bool
 | _, [] => true
 | i, x :: r => ((lkO i os).isNone || dupFree os x (i + 1) r) && dupOk os (i + 1) r
theorem dupFree_at {os : List (Nat × Option AObj)} {x : Nat} : ∀ {r : List Nat} {i : Nat}, dupFree os x i r = true -> ∀ j, r[j]? = some x -> (lkO (i + j) os).isNone = true
  | [], _, _, j, hj => by simp at hj
  | y :: r, i, h, 0, hj => by
    simp only [dupFree, Bool.and_eq_true] at h
    simp at hj; subst hj
    have := h.1
    rw [show Nat.beq y y = true by simp] at this
    simpa using this
  | y :: r, i, h, j + 1, hj => by
    simp only [dupFree, Bool.and_eq_true] at h
    have := dupFree_at h.2 j (by simpa using hj)
    rwa [show i + 1 + j = i + (j + 1) by omega] at this
theorem dupOk_at {os : List (Nat × Option AObj)} : ∀ {is : List Nat} {k : Nat}, dupOk os k is = true -> ∀ i j x, i < j -> is[i]? = some x -> is[j]? = some x -> (lkO (k + i) os).isNone = true \/ (lkO (k + j) os).isNone = true
  | [], _, _, i, j, x, _, hi, _ => by simp at hi
  | y :: is, k, h, 0, j + 1, x, _, hi, hj => by
    simp only [dupOk, Bool.and_eq_true, Bool.or_eq_true] at h
    simp at hi; subst hi
    rcases h.1 with h1 | h1
    · exact .inl (by simpa using h1)
    · have := dupFree_at h1 j (by simpa using hj)
      exact .inr (by rwa [show k + 1 + j = k + (j + 1) by omega] at this)
  | y :: is, k, h, i + 1, j + 1, x, hlt, hi, hj => by
    simp only [dupOk, Bool.and_eq_true] at h
    have := dupOk_at h.2 i j x (by omega) (by simpa using hi) (by simpa using hj)
    rwa [show k + 1 + i = k + (i + 1) by omega, show k + 1 + j = k + (j + 1) by omega] at this
  | _ :: _, _, _, _, 0, _, hlt, _, _ => by omega
theorem dupOk_inj {os : List (Nat × Option AObj)} {is : List Nat} {M : Nat} {l : List AV} (hM : is.length = M) (h : dupOk os 0 is = true) : ∀ i j o o', St.live ⟨l, ol M os⟩ i o -> St.live ⟨l, ol M os⟩ j o' -> ap is i = ap is j -> i = j := by
 subst hM
 have lv : ∀ i o, St.live ⟨l, ol is.length os⟩ i o -> i < is.length /\ lkO i os = some o := by
  intro i o hl
  have hi : i < is.length := by have := (List.getElem?_eq_some_iff.1 hl).1; rwa [ol_length] at this
  unfold St.live at hl
  simp only [ol_get os hi, Option.some.injEq] at hl
  exact ⟨hi, hl⟩
 intro i j o o' h1 h2 e
 obtain ⟨i1, i2⟩ := lv i o h1
 obtain ⟨j1, j2⟩ := lv j o' h2
 have ei : is[i]? = some (ap is i) := by simp [ap, List.getD, List.getElem?_eq_getElem i1]
 have ej : is[j]? = some (ap is i) := by rw [e]; simp [ap, List.getD, List.getElem?_eq_getElem j1]
 rcases Nat.lt_trichotomy i j with hlt | heq | hgt
 ·have := dupOk_at h i j _ hlt ei ej
  simp [i2, j2] at this
 ·exact heq
 ·have := dupOk_at h j i _ hgt ej ei
  simp [i2, j2] at this
theorem ToR.S {m M1 : Nat} {is : List Nat} {l1 : List (Nat × AV)} {os1 : List (Nat × Option AObj)} (hM : is.length = M1) (h1 : toRT (ap is) l l1) (h2 : toRO (ap is) os is os1) (hn : dupOk os1 0 is = true) (hm : is.take m = List.range m) (hlt : (is.all fun i => Nat.blt i M) = true) (h3 : bdT M1 l1 = true) (h4 : bdOq M1 os1) (h5 : m <= M1) : ToR m is (S n l M os) (S n l1 M1 os1) := by
 subst hM
 refine ⟨wkR_map (toRT_lk h1) _, wkRO_ol h2 (fun i hi => blt_of (List.all_eq_true.1 hlt i hi)), dupOk_inj rfl hn, hm, ?_, ?_, ?_⟩
 ·rw [show (Lg.S n l1 is.length os1).objs.length = is.length from ol_length _ _]; exact bdL_tl h3
 ·rw [show (Lg.S n l1 is.length os1).objs.length = is.length from ol_length _ _]; exact bdO_ol h4
 ·rw [show (Lg.S n l1 is.length os1).objs.length = is.length from ol_length _ _]; exact h5
theorem wp_loop {α : Type} (J : α -> Prop) (μ : α -> Nat) (σ : α -> St) (x0 : α) {c : Code} {s : St} (h0 : ∃ is, ToR Γ.m is s (σ x0)) (hj : J x0) (round : ∀ x, J x -> WP P Γ c (thenA (fun s' => ∃ y, (μ y < μ x /\ J y) /\ ∃ is, ToR Γ.m is s' (σ y)) Q) (σ x)) : WP P Γ (.loop c) Q s := by
 obtain ⟨is, h0⟩ := h0
 refine WP.loopR (fun n s => ∃ x, n = μ x /\ J x /\ s = σ x) (μ x0) ⟨is, σ x0, h0, x0, rfl, hj, rfl⟩ ?_
 rintro n s ⟨x, rfl, hx, rfl⟩
 refine WP.mono (round x hx) ?_
 intro e s' h
 cases e with
 | normal => obtain ⟨y, ⟨h1, h2⟩, is, h3⟩ := h; exact ⟨μ y, is, σ y, h1, h3, y, rfl, h2, rfl⟩
 | _ => exact h
end
section
variable {P : Program} {Γ : Cx} {n M N i : Nat} {l l1 : List (Nat × AV)} {os os1 : List (Nat × Option AObj)} {a b c : Operand} {x y X : AV} {op : Op} {d t : Tmp} {ty : TypeId} {pos : String} {af : Array Edge} {ops : Array Oper} {rest : List Oper} {K : List Rec -> St -> Prop} {Q : Exit -> St -> Prop} {j : Nat} {rs : List Rec} {π : Nat -> Nat}
theorem rt_nil : toRT π l [] := trivial
theorem rt_p (h : lkq j l = some x) (hx : x = y) (hy : y.bd 0 = true) (hr : toRT π l l1) : toRT π l ((j, y) :: l1) := ⟨by rw [lkq_lk h, hx, ren_pure hy], hr⟩
theorem rt_r {id id' k off len : Nat} (h : lkq j l = some (.ref id' k off len)) (hi : π id = id') (hr : toRT π l l1) : toRT π l ((j, .ref id k off len) :: l1) := ⟨by rw [lkq_lk h]; simp [AV.ren, hi], hr⟩
theorem rt_t {id id' k e f : Nat} (h : lkq j l = some (.ptr id' k e f)) (hi : π id = id') (hr : toRT π l l1) : toRT π l ((j, .ptr id k e f) :: l1) := ⟨by rw [lkq_lk h]; simp [AV.ren, hi], hr⟩
theorem rt_m {id id' : Nat} (h : lkq j l = some (.map id')) (hi : π id = id') (hr : toRT π l l1) : toRT π l ((j, .map id) :: l1) := ⟨by rw [lkq_lk h]; simp [AV.ren, hi], hr⟩
theorem rt_e (h : lkq j l = some x) (hx : x = y.ren π) (hr : toRT π l l1) : toRT π l ((j, y) :: l1) := ⟨by rw [lkq_lk h, hx], hr⟩
theorem ro_nil {is : List Nat} : toRO π os is [] := trivial
theorem ro_p {is : List Nat} {k : Nat} {es es' : List AV} (h : lkO (is.getD j 0) os = some (.arr k es')) (he : es' = es) (hb : bdL 0 es = true) (hr : toRO π os is os1) : toRO π os is ((j, some (.arr k es)) :: os1) := ⟨by rw [h, he]; simp [AObj.ren, renL_pure hb], hr⟩
theorem ro_e {is : List Nat} {k : Nat} {es es' : List AV} (h : lkO (is.getD j 0) os = some (.arr k es')) (he : es' = renL π es) (hr : toRO π os is os1) : toRO π os is ((j, some (.arr k es)) :: os1) := ⟨by rw [h, he]; simp [AObj.ren], hr⟩
theorem ro_m {is : List Nat} {m m' : List (Value × AV)} (h : lkO (is.getD j 0) os = some (.map m')) (he : m' = m) (hb : ∀ p, p ∈ m -> p.2.bd 0 = true) (hr : toRO π os is os1) : toRO π os is ((j, some (.map m)) :: os1) := ⟨by
 rw [h, he]
 have : m.map (fun p => (p.1, p.2.ren π)) = m := by
  conv => rhs; rw [<- List.map_id m]
  exact List.map_congr_left fun p hp => by rw [ren_pure (hb p hp)]; rfl
 simp [AObj.ren, this], hr⟩
theorem S_more (k : Nat) : { S n l M os with objs := (S n l M os).objs ++ List.replicate k none } = S n l (M + k) ((List.range k).map (fun i => (M + i, (none : Option AObj))) ++ os) := by
 induction k with
 | zero => simp [S]
 | succ k ih =>
  have e1 : (S n l M os).objs ++ List.replicate (k + 1) none = ((S n l M os).objs ++ List.replicate k none) ++ [none] := by
   rw [List.append_assoc, <- List.replicate_succ']
  have e2 : ((S n l M os).objs ++ List.replicate k none) = ol (M + k) ((List.range k).map (fun i => (M + i, (none : Option AObj))) ++ os) := congrArg St.objs ih
  have e3 : ∀ os' : List (Nat × Option AObj), ol (M + (k + 1)) ((M + k, none) :: ((List.range k).map (fun i => (M + i, (none : Option AObj))) ++ os)) = ol (M + (k + 1)) ((List.range (k + 1)).map (fun i => (M + i, (none : Option AObj))) ++ os) := by
   intro os'
   have key : ∀ (i : Nat), lkO i ((M + k, none) :: ((List.range k).map (fun i => (M + i, (none : Option AObj))) ++ os)) = lkO i ((List.range (k + 1)).map (fun i => (M + i, (none : Option AObj))) ++ os) := by
    intro i
    have gen : ∀ (r : List Nat) (z : List (Nat × Option AObj)), lkO i (r.map (fun i => (M + i, (none : Option AObj))) ++ z) = if i ∈ r.map (M + ·) then none else lkO i z := by
     intro r z
     induction r with
     | nil => simp
     | cons q r ih =>
      simp only [List.map_cons, List.cons_append, lkO, ih]
      by_cases hq : M + q = i
      ·have : Nat.beq (M + q) i = true := by subst hq; simp
       simp [this, hq]
      ·have : Nat.beq (M + q) i = false := by cases hb : Nat.beq (M + q) i with
        | false => rfl
        | true => exact absurd (Nat.eq_of_beq_eq_true hb) hq
       simp only [this, cond_false, List.mem_cons]
       have : ¬ i = M + q := fun e => hq e.symm
       simp [this]
    have h1 := gen (k :: List.range k) os
    have h2 := gen (List.range (k + 1)) os
    simp only [List.map_cons, List.cons_append] at h1
    rw [h1, h2]
    have : (i ∈ ((M + k) :: (List.range k).map (M + ·))) ↔ i ∈ (List.range (k + 1)).map (M + ·) := by
     simp only [List.mem_cons, List.mem_map, List.mem_range]
     constructor
     ·rintro (h | ⟨q, hq, rfl⟩)
      ·exact ⟨k, by omega, h.symm⟩
      ·exact ⟨q, by omega, rfl⟩
     ·rintro ⟨q, hq, rfl⟩
      by_cases hqk : q = k
      ·exact .inl (by rw [hqk])
      ·exact .inr ⟨q, by omega, rfl⟩
    by_cases hi : i ∈ (List.range (k + 1)).map (M + ·)
    ·rw [if_pos (this.2 hi), if_pos hi]
    ·rw [if_neg (fun h => hi (this.1 h)), if_neg hi]
   simp only [ol, key]
  show St.mk (tl n l) ((S n l M os).objs ++ List.replicate (k + 1) none) = St.mk (tl n l) _
  rw [e1, e2, ol_push, show M + k + 1 = M + (k + 1) from rfl, e3 []]
theorem wp_draw {id : Nat} {l' : List Oper} (k : Nat) (hm : P.follows .mixedOrders = true) (he : edgeOk l'.toArray = true) (hcl : closeOk l'.toArray = true) (hk : l'.length = k)
  (h : RunD P l'.toArray M 0 l' (S n l (M + k) ((List.range k).map (fun i => (M + i, (none : Option AObj))) ++ os)) [] fun rs s' => freeOk l'.toArray rs = true /\ Q .normal s') : WP P Γ (.region id l'.toArray true) Q (S n l M os) :=
 WP.drawN M k hm he hcl (ol_length M os) hk (by rw [S_more]; exact h)
def topq (n : Nat) (l : List (Nat × AV)) (as : List Operand) : List Nat := as.filterMap fun a => match opq n l a with
 | some x => x.topId
 | none => none
theorem topq_ids {o : Oper} : topIds (S n l M os) o = topq n l (rdOps o.op) := by
 unfold topIds topq
 congr 1
 funext a
 cases h : opq n l a with
 | some x => rw [opq_op h]
 | none =>
  cases a with
  | tmp t =>
   have : (S n l M os).op (.tmp t) = .any := by
    simp only [opq] at h
    cases hb : Nat.blt t n with
    | false =>
     simp only [St.op, S, List.getD]
     rw [List.getElem?_eq_none]
     ·rfl
     ·rw [tl_length]
      rcases Nat.lt_or_ge t n with h1 | h1
      ·rw [blt_t h1] at hb; cases hb
      ·exact h1
    | true =>
     rw [hb] at h
     simp only [cond_true] at h
     simp only [St.op, S]
     rw [tl_getD l (blt_of hb)]
     clear hb
     induction l with
     | nil => rfl
     | cons p l ih =>
      obtain ⟨q, y⟩ := p
      simp only [lkq] at h
      simp only [lk]
      cases hb : Nat.beq q t with
      | true => rw [hb] at h; simp at h
      | false => rw [hb] at h; rw [if_neg (Nat.ne_of_beq_eq_false hb)]; exact ih h
   rw [this]; rfl
  | const v =>
   simp only [opq] at h
   cases hb : atom v with
   | true => rw [hb] at h; simp at h
   | false => simp [St.op, hb, AV.topId]
  | global g => simp [opq] at h
  | func f => simp [opq] at h
theorem rd (r : AV × Eff) (hr : aop P (lookq M os) (N + i) (S n l M os).op op = some r)
  (hk : RunD P ops N (i + 1) rest (((S n l M os).eff (N + i) r.2).put (some d) r.1) (rs ++ [⟨some d, r.2.ids (N + i), topq n l (rdOps op)⟩]) K) : RunD P ops N i (⟨some d, op, ty, pos, af, none⟩ :: rest) (S n l M os) rs K :=
 ⟨.did r, _, ⟨rfl, .inl (by rw [S_look']; exact hr), trivial⟩, by rw [recOf, topq_ids]; exact hk⟩
theorem rd0 (r : AV × Eff) (hr : aop P (lookq M os) (N + i) (S n l M os).op op = some r)
  (hk : RunD P ops N (i + 1) rest ((S n l M os).eff (N + i) r.2) (rs ++ [⟨none, r.2.ids (N + i), topq n l (rdOps op)⟩]) K) : RunD P ops N i (⟨none, op, ty, pos, af, none⟩ :: rest) (S n l M os) rs K :=
 ⟨.did r, _, ⟨rfl, .inl (by rw [S_look']; exact hr), trivial⟩, by rw [recOf, topq_ids]; exact hk⟩
def plainq (n : Nat) (l : List (Nat × AV)) (as : List Operand) : Bool := as.all fun a => match opq n l a with
 | some x => x.plain
 | none => false
theorem plainq_res {as : List Operand} (h : plainq n l as = true) : ∀ a, a ∈ as -> ((S n l M os).op a).res [] = (S n l M os).op a := by
 intro a ha
 have := List.all_eq_true.1 h a ha
 cases hx : opq n l a with
 | none => simp [hx] at this
 | some x => rw [hx] at this; rw [opq_op hx]; exact res_plain [] this
theorem apure_aop {look : Nat -> Option AObj} {sop : Operand -> AV} {nid : Nat} (hp : ∀ a, a ∈ op.operands.toList -> (sop a).res [] = sop a) (hpk : ∀ c a b, op ≠ .pick c a b) (h : apure P look sop [] op = some x) : aop P look nid sop op = some (x, .none) := by
 cases op with
 | pick c a b => exact absurd rfl (hpk c a b)
 | move a => simp only [apure, hp a (by simp [Op.operands])] at h; simpa [aop] using h
 | assign a => simp only [apure, hp a (by simp [Op.operands])] at h; simpa [aop] using h
 | nilCheck a => simp only [apure, hp a (by simp [Op.operands])] at h; simp [aop, h, pure']
 | load t a => simp only [apure, hp a (by simp [Op.operands])] at h; obtain ⟨ti, h1, h2⟩ := bind_some h; simp [aop, h1, h2, pure']
 | binOp o t a b t2 => simp only [apure, hp a (by simp [Op.operands]), hp b (by simp [Op.operands])] at h; simp [aop, h, pure']
 | unOp o t a => simp only [apure, hp a (by simp [Op.operands])] at h; simp [aop, h, pure']
 | fieldAddr t a f => simp only [apure, hp a (by simp [Op.operands])] at h; obtain ⟨ti, h1, h2⟩ := bind_some h; simp [aop, h1, h2, pure']
 | indexAddr t a b =>
  simp only [apure, hp a (by simp [Op.operands]), hp b (by simp [Op.operands])] at h
  obtain ⟨ti, h1, h⟩ := bind_some h; obtain ⟨e, h2, h⟩ := bind_some h; obtain ⟨te, h3, h⟩ := bind_some h; simp [aop, h1, h2, h3, h, pure']
 | index t a b =>
  simp only [apure, hp a (by simp [Op.operands]), hp b (by simp [Op.operands])] at h
  obtain ⟨ti, h1, h⟩ := bind_some h
  split at h
  ·rename_i hs; simp [aop, h1, hs, h, pure']
  ·cases h
 | extract a k => simp only [apure, hp a (by simp [Op.operands])] at h; simp [aop, h, pure']
 | convert s t a =>
  simp only [apure, hp a (by simp [Op.operands])] at h
  obtain ⟨tj, h0, h⟩ := bind_some h
  obtain ⟨ti, h1, h2⟩ := bind_some h
  split at h2
  ·cases h2
  ·rename_i hb; simp [aop, h0, h1, h2, hb, pure']
 | lookup t a k ok =>
  simp only [apure, hp a (by simp [Op.operands]), hp k (by simp [Op.operands])] at h
  obtain ⟨d, h0, h⟩ := bind_some h
  simp [aop, h0, h, pure']
 | build t ps =>
  simp only [apure] at h
  obtain ⟨ti, h1, h⟩ := bind_some h
  have : (ps.toList.map fun p => (p.1, (sop p.2).res [])) = ps.toList.map fun p => (p.1, sop p.2) := List.map_congr_left fun p hpp => by
   rw [hp p.2 (by simp only [Op.operands, Array.toList_map]; exact List.mem_map.2 ⟨p, hpp, rfl⟩)]
  rw [this] at h
  have hnu : ¬ (unitT P t = true /\ ps = #[]) := fun hu => by rw [buildA_unit hu.1 h1] at h; cases h
  simp only [aop, if_neg hnu, h1, Option.bind_some, h, pure', Option.map_some]
 | field t a i =>
  simp only [apure, hp a (by simp [Op.operands])] at h
  simp [aop, h, pure']
 | makeFunc fn xs ys =>
  simp only [apure, Option.some.injEq] at h
  have e1 : (xs.toList.map fun a => (sop a).res []) = xs.toList.map sop := List.map_congr_left fun a ha => hp a (by simp only [Op.operands, Array.toList_append, List.mem_append]; exact .inl ha)
  have e2 : (ys.toList.map fun a => (sop a).res []) = ys.toList.map sop := List.map_congr_left fun a ha => hp a (by simp only [Op.operands, Array.toList_append, List.mem_append]; exact .inr ha)
  rw [e1, e2] at h
  simp only [aop, h]
 | slice t a lo hi mx =>
  cases mx with
  | some m => simp [apure] at h
  | none =>
   have ha := hp a (by simp [Op.operands])
   have e1 : (lo.map fun a => (sop a).res []) = lo.map sop := by
    cases lo with
    | none => rfl
    | some q => simp [hp q (by simp [Op.operands])]
   have e2 : (hi.map fun a => (sop a).res []) = hi.map sop := by
    cases hi with
    | none => rfl
    | some q => simp [hp q (by simp [Op.operands])]
   simp only [apure, ha, e1, e2] at h
   obtain ⟨ti, h1, h⟩ := bind_some h
   split at h
   ·rename_i hs; simp [aop, h1, hs, h, pure']
   ·rename_i hs; obtain ⟨e, h2, h⟩ := bind_some h; obtain ⟨te, h3, h⟩ := bind_some h; simp [aop, h1, hs, h2, h3, h, pure']
   ·cases h
 | call c =>
  obtain ⟨callee, args, argTypes⟩ := c
  obtain ⟨args⟩ := args
  obtain ⟨argTypes⟩ := argTypes
  simp only [apure] at h
  split at h
  ·rename_i x' t'
   have := hp x' (by simp [Op.operands, Call.operands])
   rw [this] at h
   subst_vars
   simp_all [aop, pure']
  ·rename_i x' y' t' t2'
   have h1 := hp x' (by simp_all [Op.operands, Call.operands])
   have h2 := hp y' (by simp_all [Op.operands, Call.operands])
   rw [h1, h2] at h
   subst_vars
   simp_all [aop, pure']
  ·rename_i x' y' t' t2'
   have h1 := hp x' (by simp_all [Op.operands, Call.operands])
   have h2 := hp y' (by simp_all [Op.operands, Call.operands])
   rw [h1, h2] at h
   subst_vars
   simp_all [aop, pure']
  ·cases h
 | _ => simp [apure] at h
theorem rd_u (hp : plainq n l op.operands.toList = true) (hpk : (match op with | .pick _ _ _ => false | _ => true) = true) (h : Ap P n l M os [] op x) (hk : RunD P ops N (i + 1) rest (S n ((d, x) :: l) M os) (rs ++ [⟨some d, [], topq n l (rdOps op)⟩]) K) :
  RunD P ops N i (⟨some d, op, ty, pos, af, none⟩ :: rest) (S n l M os) rs K := by
 refine rd (x, .none) (apure_aop (plainq_res hp) (by rintro c a b rfl; cases hpk) (by unfold Ap at h; rw [S_look'] at h; exact h)) ?_
 simp only [St.eff, S_put, Eff.ids]
 exact hk
theorem rd_call {g : FuncId} {first cap as as' : List AV} {f : Operand} {args : Array Operand} {tys : Array TypeId} (hf : opq n l f = some (.clo (.func g) first cap)) (has : opqL n l args.toList = some as) (hsub : SubL (first ++ as ++ cap) as') (hp : bdL 0 (first ++ as ++ cap) = true) (hspec : Fn P g as' X)
  (hk : RunD P ops N (i + 1) rest (S n ((d, X) :: l) M os) (rs ++ [⟨some d, [], topq n l (Op.operands (.call ⟨.value f, args, tys⟩)).toList⟩]) K) : RunD P ops N i (⟨some d, .call ⟨.value f, args, tys⟩, ty, pos, af, none⟩ :: rest) (S n l M os) rs K := by
 refine runD_call X rfl rfl rfl (opq_op hf) (opqL_op has) (hspec.sub hsub).spec hp ?_
 rw [topq_ids, S_put]
 exact hk
theorem rd_store {ti : TI} {id k e f : Nat} {es : List AV} {ed ed' : AV} [ht : TIc P ty ti] (ha : opq n l a = some (.ptr id k e f)) (ho : lookq M os id = some (.arr k es)) (hi : es[e]? = some ed) (hb : opq n l b = some y) (hs : splice ti ed f y = some ed') {ty2 : TypeId}
  (hk : RunD P ops N (i + 1) rest (S n l M ((id, some (.arr k (es.set e ed'))) :: os)) (rs ++ [⟨none, [id], topq n l [a, b]⟩]) K) : RunD P ops N i (⟨none, .store ty a b, ty2, pos, af, none⟩ :: rest) (S n l M os) rs K := by
 refine rd0 (.any, .set id (.arr k (es.set e ed'))) (by simp [aop, ht.h, opq_op ha, opq_op hb, storeA, ho, hi, hs]) ?_
 have : ((S n l M os).eff (N + i) (.set id (.arr k (es.set e ed')))) = S n l M ((id, some (.arr k (es.set e ed'))) :: os) := by
  simp only [St.eff, St.set, S, ol_set]
 rw [this]; exact hk
theorem rd_store_b {ti : TI} {id k f : Nat} {ed ed' : AV} [ht : TIc P ty ti] (ha : opq n l a = some (.ptr id k 0 f)) (ho : lookq M os id = some (.arr k [ed])) (hb : opq n l b = some y) (hs : splice ti ed f y = some ed') {ty2 : TypeId}
  (hk : RunD P ops N (i + 1) rest (S n l M ((id, some (.arr k [ed'])) :: os)) (rs ++ [⟨none, [id], topq n l [a, b]⟩]) K) : RunD P ops N i (⟨none, .store ty a b, ty2, pos, af, none⟩ :: rest) (S n l M os) rs K :=
 rd_store ha ho (by rfl) hb hs hk
theorem rd_store_t {α : Type} [Inhabited α] {f : α -> AV} {L : List α} {v : α} {ti : TI} {id k e : Nat} [ht : TIc P ty ti] (ha : opq n l a = some (.ptr id k e 0)) (ho : lookq M os id = some (.arr k (L.map f))) (hi : e < L.length) (hb : opq n l b = some (f v)) (hs : splice ti (f (nth L e)) 0 (f v) = some (f v)) {ty2 : TypeId}
  (hk : RunD P ops N (i + 1) rest (S n l M ((id, some (.arr k ((L.set e v).map f))) :: os)) (rs ++ [⟨none, [id], topq n l [a, b]⟩]) K) : RunD P ops N i (⟨none, .store ty a b, ty2, pos, af, none⟩ :: rest) (S n l M os) rs K :=
 rd_store ha ho (map_nth hi) hb hs (by rw [map_set']; exact hk)
theorem rd_end {s : St} (hf : freeOk ops rs = true) (h : Q .normal s) : RunD P ops N i [] s rs fun rs s' => freeOk ops rs = true /\ Q .normal s' := ⟨hf, h⟩
end
mutual
def AV.lens : AV -> Prop
 | .sl _ es => es.length <= 9223372036854775807 /\ lensL es
 | .agg cs => lensL cs
 | _ => True
def lensL : List AV -> Prop
 | [] => True
 | x :: xs => x.lens /\ lensL xs
end
theorem lensL_iff : ∀ {l : List AV}, lensL l ↔ ∀ x, x ∈ l -> x.lens
 | [] => by simp [lensL]
 | x :: xs => by simp [lensL, lensL_iff (l := xs)]
theorem lensL_map {α : Type} {f : α -> AV} {L : List α} : lensL (L.map f) ↔ ∀ x, x ∈ L -> (f x).lens := by
 rw [lensL_iff]; simp
theorem cells_lens {x : AV} (h : ∀ y, y ∈ x.cells -> y.lens) : x.lens := by
 cases x with
 | agg cs => simp only [AV.lens]; rw [lensL_iff]; exact h
 | _ => exact h _ (by simp [AV.cells])
section
variable {P : Program} {Γ : Cx} {A : Nat -> Prop} {ρ : Nat -> Option Nat} {I : Nat -> Prop} {w : World}
theorem RV.lens {x : AV} {v : Value} (h : RV A ρ I w x v) : x.lens := by
 induction h with
 | agg hl ha _ ih =>
  simp only [AV.lens]; rw [lensL_iff]
  intro y hy
  obtain ⟨i, hi, rfl⟩ := List.getElem_of_mem hy
  exact ih i _ _ (List.getElem?_eq_getElem hi) (Array.getElem?_eq_getElem (by omega))
 | nils => simp [AV.lens, lensL]
 | @sl k es b o c f hn hI hk hc ha _ ih =>
  simp only [AV.lens]
  refine ⟨by have := hn.1; have := hn.2; simp only [maxLen] at this; omega, ?_⟩
  rw [lensL_iff]
  intro e he
  refine cells_lens fun y hy => ?_
  have : y ∈ flat es := List.mem_flatMap.2 ⟨e, he, hy⟩
  obtain ⟨j, hj, rfl⟩ := List.getElem_of_mem this
  exact ih j _ (List.getElem?_eq_getElem hj)
 | _ => simp [AV.lens]
theorem wp_lens {n M : Nat} {l : List (Nat × AV)} {os : List (Nat × Option AObj)} {c : Code} {Q : Exit -> St -> Prop} (j : Nat) {x : AV} (h : opq n l (.tmp j) = some x) (hk : x.lens -> WP P Γ c Q (S n l M os)) : WP P Γ c Q (S n l M os) := fun a w hs => by
 refine hk ?_ a w hs
 obtain ⟨ρ, hs⟩ := hs
 have := hs.eval (.tmp j)
 rw [opq_op h] at this
 exact this.lens
end
section
variable {P : Program} {Γ : Cx} {n M N i : Nat} {l l1 : List (Nat × AV)} {os os1 : List (Nat × Option AObj)} {a b c : Operand} {x y X : AV} {op : Op} {d t : Tmp} {ty : TypeId} {pos : String} {af : Array Edge} {ops : Array Oper} {o : Oper} {rest : List Oper} {K : List Rec -> St -> Prop} {Q : Exit -> St -> Prop} {j : Nat} {rs : List Rec} {want p : Bool}
theorem S_lit (h : opq n l (.tmp t) = some x) : S n ((t, x) :: l) M os = S n l M os := by
 have hx : lkq t l = some x := by
  simp only [opq] at h
  cases hb : Nat.blt t n with
  | false => rw [hb] at h; simp at h
  | true => rw [hb] at h; exact h
 have hk := lkq_lk hx
 simp only [S, St.mk.injEq, and_true]
 simp only [tl]
 apply List.map_congr_left
 intro i _
 simp only [lk]
 split
 ·rename_i e; subst e; exact hk.symm
 ·rfl
theorem rd_split (hg : opq n l (.tmp t) = some (.val (.bool p))) (h1 : p = true -> RunD P ops N i rest (S n ((t, .val (.bool true)) :: l) M os) rs K) (h2 : p = false -> RunD P ops N i rest (S n ((t, .val (.bool false)) :: l) M os) rs K) : RunD P ops N i rest (S n l M os) rs K := by
 cases p with
 | true => have := h1 rfl; rwa [S_lit hg] at this
 | false => have := h2 rfl; rwa [S_lit hg] at this
theorem yielded_q (ht : (ops[j]?).bind (·.dst) = some t) (hg : opq n l (.tmp t) = some (.val (.bool p))) : yieldedA ops (S n l M os) j = some p := by
 have := opq_op (M := M) (os := os) hg
 simp only [St.op] at this
 simp only [yieldedA, ht, Option.map_some, this]
theorem rd_skip (ht : (ops[j]?).bind (·.dst) = some t) (hg : opq n l (.tmp t) = some (.val (.bool (!want)))) (hk : RunD P ops N (i + 1) rest (S n ((d, skA) :: l) M os) (rs ++ [⟨some d, [], []⟩]) K) : RunD P ops N i (⟨some d, op, ty, pos, af, some (j, want)⟩ :: rest) (S n l M os) rs K :=
 ⟨.skip, _, ⟨rfl, j, want, rfl, .inl (yielded_q ht hg)⟩, by rw [S_put]; exact hk⟩
theorem rd_skip2 (ht : (ops[j]?).bind (·.dst) = some t) (hg : opq n l (.tmp t) = some skA) (hk : RunD P ops N (i + 1) rest (S n ((d, skA) :: l) M os) (rs ++ [⟨some d, [], []⟩]) K) : RunD P ops N i (⟨some d, op, ty, pos, af, some (j, want)⟩ :: rest) (S n l M os) rs K := by
 have := opq_op (M := M) (os := os) hg
 simp only [St.op] at this
 exact ⟨.skip, _, ⟨rfl, j, want, rfl, .inr (by rw [ht, Option.map_some, this])⟩, by rw [S_put]; exact hk⟩
theorem rdg (r : AV × Eff) (ht : (ops[j]?).bind (·.dst) = some t) (hg : opq n l (.tmp t) = some (.val (.bool want))) (hr : aop P (lookq M os) (N + i) (S n l M os).op op = some r)
  (hk : RunD P ops N (i + 1) rest (((S n l M os).eff (N + i) r.2).put (some d) r.1) (rs ++ [⟨some d, r.2.ids (N + i), topq n l (rdOps op)⟩]) K) : RunD P ops N i (⟨some d, op, ty, pos, af, some (j, want)⟩ :: rest) (S n l M os) rs K :=
 ⟨.did r, _, ⟨rfl, .inl (by rw [S_look']; exact hr), yielded_q ht hg⟩, by rw [recOf, topq_ids]; exact hk⟩
theorem rdg_u (ht : (ops[j]?).bind (·.dst) = some t) (hg : opq n l (.tmp t) = some (.val (.bool want))) (hp : plainq n l op.operands.toList = true) (hpk : (match op with | .pick _ _ _ => false | _ => true) = true) (h : Ap P n l M os [] op x) (hk : RunD P ops N (i + 1) rest (S n ((d, x) :: l) M os) (rs ++ [⟨some d, [], topq n l (rdOps op)⟩]) K) :
  RunD P ops N i (⟨some d, op, ty, pos, af, some (j, want)⟩ :: rest) (S n l M os) rs K := by
 refine rdg (x, .none) ht hg (apure_aop (plainq_res hp) (by rintro c a b rfl; cases hpk) (by unfold Ap at h; rw [S_look'] at h; exact h)) ?_
 simp only [St.eff, S_put, Eff.ids]
 exact hk
theorem rd_pick_t (hc : opq n l c = some (.val (.bool true))) (ha : opq n l a = some x) (hk : RunD P ops N (i + 1) rest (S n ((d, x) :: l) M os) (rs ++ [⟨some d, [], topq n l [c, a, b]⟩]) K) : RunD P ops N i (⟨some d, .pick c a b, ty, pos, af, none⟩ :: rest) (S n l M os) rs K := by
 refine rd (x, .none) ?_ ?_
 ·simp only [aop, opq_op hc, opq_op ha, pickA, pure']
  split <;> simp_all
 ·simp only [St.eff, S_put, Eff.ids]; exact hk
theorem rd_pick_f (hc : opq n l c = some (.val (.bool false))) (hb : opq n l b = some x) (hk : RunD P ops N (i + 1) rest (S n ((d, x) :: l) M os) (rs ++ [⟨some d, [], topq n l [c, a, b]⟩]) K) : RunD P ops N i (⟨some d, .pick c a b, ty, pos, af, none⟩ :: rest) (S n l M os) rs K := by
 refine rd (x, .none) ?_ ?_
 ·simp only [aop, opq_op hc, opq_op hb, pickA, pure']
  split <;> simp_all
 ·simp only [St.eff, S_put, Eff.ids]; exact hk
theorem rd_alloc {ti : TI} {o : AObj} {k bt : Nat} [ht : TIc P ty ti] [hz : TSz P ty k bt] (ho : allocA ti = some o) {ty2 : TypeId} (hk : RunD P ops N (i + 1) rest (S n ((d, .ptr (N + i) k 0 0) :: l) M ((N + i, some o) :: os)) (rs ++ [⟨some d, [N + i], []⟩]) K) :
  RunD P ops N i (⟨some d, .alloc ty, ty2, pos, af, none⟩ :: rest) (S n l M os) rs K := by
 refine rd (.ptr (N + i) k 0 0, .new o) (by simp [aop, ht.h, hz.h ti ht.h, ho, allocA_unit ht.h ho]) ?_
 have : ((S n l M os).eff (N + i) (.new o)).put (some d) (.ptr (N + i) k 0 0) = S n ((d, .ptr (N + i) k 0 0) :: l) M ((N + i, some o) :: os) := by
  simp only [St.eff, St.set, S, St.put, ol_set, tl_set]
 rw [this]; exact hk
theorem rd_lit {te : TI} {k m bt : Nat} {z : AV} {ps : Array (Nat × Operand)} {xs : List (Nat × AV)} {vs : List AV} [ht : TEl P ty te k bt] (hp : OpP n l ps.toList xs) (hv : seqv 0 xs = some vs) (hl : xs.length = m) (h0 : Nat.beq m 0 = false) (hbig : Nat.ble (m * k) 16777216 = true) (hzero : zeroA te = some z)
  (hc : (vs.all fun x => Nat.beq x.cells.length k && x.store) = true) {ty2 : TypeId} (hk : RunD P ops N (i + 1) rest (S n ((d, .ref (N + i) k 0 m) :: l) M ((N + i, some (.arr k vs)) :: os)) (rs ++ [⟨some d, [N + i], topq n l (Op.operands (.buildSlice ty m ps)).toList⟩]) K) :
  RunD P ops N i (⟨some d, .buildSlice ty m ps, ty2, pos, af, none⟩ :: rest) (S n l M os) rs K := by
 obtain ⟨ti, el, g1, he, hs, g4, hsz, hbz⟩ := ht.h
 have hp' := hp.get (M := M) (os := os)
 have hb : buildSliceA te m xs = some (.arr k vs) := by
  have hne : m ≠ 0 := Nat.ne_of_beq_eq_false h0
  simp only [buildSliceA, if_neg hne, hzero, Option.bind_some, hsz, if_pos (Nat.le_of_ble_eq_true hbig)]
  have := seqv_fill (k := k) (z := z) xs [] vs hv (fun x hx => by
   have := List.all_eq_true.1 hc x hx
   simp only [Bool.and_eq_true] at this
   exact ⟨Nat.eq_of_beq_eq_true this.1, this.2⟩)
  simp only [List.nil_append, hl] at this
  rw [this]; rfl
 refine rd (.ref (N + i) k 0 m, .new (.arr k vs)) (by simp only [aop, g1, he, g4, Option.bind_some, hp', hb, Option.map_some, hsz]) ?_
 have : ((S n l M os).eff (N + i) (.new (.arr k vs))).put (some d) (.ref (N + i) k 0 m) = S n ((d, .ref (N + i) k 0 m) :: l) M ((N + i, some (.arr k vs)) :: os) := by
  simp only [St.eff, St.set, S, St.put, ol_set, tl_set]
 rw [this]; exact hk
theorem rd_app {te tj : TI} {tx : TypeId} {k bt id len : Nat} {es ys : List AV} [ht : TEl P ty te k bt] [h3 : TIc P tx tj] (hsh : (match tj.sh with | .int => false | _ => true) = true) (ha : opq n l a = some (.ref id k 0 len)) (ho : lookq M os id = some (.arr k es)) (hl : es.length = len)
  (hb : opq n l b = some y) (hy : srcA te (lookq M os) y = some ys) (hz0 : (zeroA te).isSome = true) (hbt : Nat.beq bt 0 = false) (hr : (es.length + ys.length) * bt <= 140737488355328) {ty2 : TypeId}
  (hk : RunD P ops N (i + 1) rest (S n ((d, .ref (N + i) k 0 (es ++ ys).length) :: l) M ((N + i, some (.arr k (es ++ ys))) :: (id, none) :: os)) (rs ++ [⟨some d, [id, N + i], topq n l [a, b]⟩]) K) :
  RunD P ops N i (⟨some d, .call ⟨.builtin .append, #[a, b], #[ty, tx]⟩, ty2, pos, af, none⟩ :: rest) (S n l M os) rs K := by
 obtain ⟨ti, el, g1, he, hs, g4, hsz, hbz⟩ := ht.h
 have hb0 : te.bytes ≠ 0 := by rw [hbz]; exact Nat.ne_of_beq_eq_false hbt
 have hrm : room te (es.length + ys.length) := ⟨by rw [hbz]; exact hr, hb0⟩
 have happ : appendA te (lookq M os) (.ref id k 0 len) y = some (some id, es ++ ys) := by
  simp only [appendA, hz0, if_true, ho, hsz]
  rw [if_pos ⟨trivial, trivial, trivial, hl⟩, hy, Option.bind_some, if_pos hrm]
 have hsh' : ¬ tj.sh = .int := by intro h; rw [h] at hsh; cases hsh
 refine rd (.ref (N + i) k 0 (es ++ ys).length, .app (some id, es ++ ys) k) ?_ ?_
 ·simp only [aop, g1, he, g4, h3.h, Option.bind_some, if_neg hsh', opq_op ha, opq_op hb, happ, Option.map_some, hsz]
 ·have : ((S n l M os).eff (N + i) (.app (some id, es ++ ys) k)).put (some d) (.ref (N + i) k 0 (es ++ ys).length) = S n ((d, .ref (N + i) k 0 (es ++ ys).length) :: l) M ((N + i, some (.arr k (es ++ ys))) :: (id, none) :: os) := by
   simp only [St.eff, St.appended, St.grow, St.set, S, St.put, ol_set, tl_set]
  rw [this]; exact hk
theorem rd_app1 {α : Type} {f : α -> AV} {L : List α} {v : α} {te tj : TI} {tx : TypeId} {k bt id id2 len : Nat} [ht : TEl P ty te k bt] [h3 : TIc P tx tj] (hsh : (match tj.sh with | .int => false | _ => true) = true) (ha : opq n l a = some (.ref id k 0 len)) (ho : lookq M os id = some (.arr k (L.map f))) (hl : L.length = len)
  (hb : opq n l b = some (.ref id2 k 0 1)) (ho2 : lookq M os id2 = some (.arr k [f v])) (hz0 : (zeroA te).isSome = true) (hbt : Nat.beq bt 0 = false) (hr : (L.length + 1) * bt <= 140737488355328) {ty2 : TypeId}
  (hk : RunD P ops N (i + 1) rest (S n ((d, .ref (N + i) k 0 (L ++ [v]).length) :: l) M ((N + i, some (.arr k ((L ++ [v]).map f))) :: (id, none) :: os)) (rs ++ [⟨some d, [id, N + i], topq n l [a, b]⟩]) K) :
  RunD P ops N i (⟨some d, .call ⟨.builtin .append, #[a, b], #[ty, tx]⟩, ty2, pos, af, none⟩ :: rest) (S n l M os) rs K := by
 obtain ⟨ti, el, g1, he, hs, g4, hsz, hbz⟩ := ht.h
 refine rd_app (es := L.map f) (ys := [f v]) (k := k) (len := len) hsh ha ho (by simpa using hl) hb (by simp [srcA, ho2, hsz]) hz0 hbt (by simpa using hr) ?_
 have e1 : List.map f L ++ [f v] = (L ++ [v]).map f := by simp
 rw [e1, List.length_map]; exact hk
end
theorem take_all_succ {α : Type} [Inhabited α] {l : List α} {f : α -> Bool} {k : Nat} (hk : k < l.length) (h : (l.take k).all f = true) (hf : f (nth l k) = true) : (l.take (k + 1)).all f = true := by
 rw [List.take_succ_eq_append_getElem hk, List.all_append, h]; rw [nth_eq hk] at hf; simp [hf]
theorem all_of_take' {α : Type} {l : List α} {f : α -> Bool} {k : Nat} (hk : l.length <= k) (h : (l.take k).all f = true) : l.all f = true := by
 rwa [List.take_of_length_le hk] at h
theorem nth_mem {α : Type} [Inhabited α] {l : List α} {k : Nat} (hk : k < l.length) : nth l k ∈ l := by rw [nth_eq hk]; exact List.getElem_mem hk
theorem all_nth_no {α : Type} [Inhabited α] {l : List α} {f : α -> Bool} {k : Nat} (hk : k < l.length) (hf : f (nth l k) = false) : l.all f = false := by
 rw [List.all_eq_false]; exact ⟨nth l k, nth_mem hk, by simp [hf]⟩
theorem take_succ_nth {α : Type} [Inhabited α] {l : List α} {k : Nat} (hk : k < l.length) : l.take (k + 1) = l.take k ++ [nth l k] := by rw [List.take_succ_eq_append_getElem hk, nth_eq hk]
end Go.Lg
namespace Go.Lg
theorem rgC {P : Program} {Γ : Cx} {s : St} {Q : Exit -> St -> Prop} (id : Nat) {l : List Oper} (h : asemC P l.toArray l s (Q .normal)) : WP P Γ (.region id l.toArray false) Q s := WP.regionC h
theorem nle {a b : Nat} (h : Nat.ble a b = true) : a <= b := Nat.le_of_ble_eq_true h
theorem zq1 {p : Prop} (h : p := by first | ((repeat' first | exact SubL.nil | refine SubL.cons ?_ ?_ | exact Sub.refl); done) | fail) : p := h
theorem zq2 {p : Prop} (h : p := by first | ((repeat' first | exact LendO.nil | refine LendO.arr rfl (by (refine (renL_pure ?_).symm; (simp [AV.bd, bdL, bdL_append]; done))) ?_); done) | fail) : p := h
theorem zq3 {p : Prop} (h : p := by repeat' (first | exact True.intro | refine And.intro ?_ ?_ | (simp [bdOq, bdL, bdL_append, AV.bd]; done))) : p := h
theorem zq4 {p : Prop} (h : p := by (simp [bdT, AV.bd, bdL, bdL_append]; done)) : p := h
theorem zq5 {p : Prop} (h : p := by first | (simp [bdL, bdL_append, AV.bd]; done) | fail) : p := h
end Go.Lg
