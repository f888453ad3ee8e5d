/-
  Part 2 of the proof of PrecedenceUnambiguousCard: the logic over the model, the functions' contracts and the plain laws.
-/
import Derived.Test.YtmgpndmmodkhhaaDoorPu1
import Derived.WalkKit
import Derived.KernelRfl
import Derived.Maps.AppendAt

set_option linter.unusedSimpArgs false
set_option linter.unusedVariables false
set_option linter.unusedSectionVars false
set_option linter.defProp false

namespace Go.Lg
open Go.RowKit
abbrev atom : Value -> Bool := Value.oneCell'
inductive AV where
 | any
 | val (v : Value)
 | agg (cs : List AV)
 | tup (vs : List AV)
 | sl (k : Nat) (es : List AV)
 | ref (id k off len : Nat)
 | ptr (id k i j : Nat)
 | iptr (cs : List AV) (j : Nat)
 | clo (f : Fn) (first captured : List AV)
 | map (id : Nat)
 | yld (id : Nat)
 | cond (l : List Bool) (x : AV)
 deriving Inhabited
def AV.cells : AV -> List AV
 | .agg cs => cs
 | x => [x]
def flat (es : List AV) : List AV := es.flatMap AV.cells
structure LoopC where
 state : LoopState := .ready
 pending : Option Code := none
 fn : FuncId
 params : Array Tmp
 assign : Code
 body : Code
inductive AObj where
 | arr (k : Nat) (es : List AV)
 | map (m : List (Value × AV))
 | bytes (l : List UInt8)
 | bld (T : TypeId) (x : AV)
 | lop (c : LoopC) (ts : List AV)
 | itr (id n : Nat) (seen : List Nat)
 deriving Inhabited
structure St where
 tmps : List AV
 objs : List (Option AObj)
def csize (w : World) (b : Nat) : Option Nat :=
 match w.heap[b]? with
 | some (.cells c _ _) => some c.size
 | _ => none
section
variable (A : Nat -> Prop) (ρ : Nat -> Option Nat) (I : Nat -> Prop) (w : World)
inductive RV : AV -> Value -> Prop
 | any {v : Value} : RV .any v
 | val {v : Value} (h : atom v = true) : RV (.val v) v
 | agg {cs : List AV} {vs : Array Value} (hl : cs.length = vs.size) (ha : ∀ (i : Nat) v, vs[i]? = some v -> atom v = true)
   (h : ∀ (i : Nat) x v, cs[i]? = some x -> vs[i]? = some v -> RV x v) : RV (.agg cs) (.agg vs)
 | tup {cs : List AV} {vs : Array Value} (hl : cs.length = vs.size)
   (h : ∀ (i : Nat) x v, cs[i]? = some x -> vs[i]? = some v -> RV x v) : RV (.tup cs) (.tuple vs)
 | nils {k : Nat} {a : Option Addr} {c : Nat} : RV (.sl k []) (.slice a 0 c)
 | sl {k : Nat} {es : List AV} {b o c : Nat} (f : Nat -> Value) (hn : es.length <= c /\ c <= maxLen) (hI : I b) (hk : ∀ e, e ∈ es -> e.cells.length = k)
   (hc : ∀ j, j < (flat es).length -> w.cell? ⟨b, o + j, none⟩ = some (f j)) (ha : ∀ j, j < (flat es).length -> atom (f j) = true)
   (hr : ∀ (j : Nat) x, (flat es)[j]? = some x -> RV x (f j)) : RV (.sl k es) (.slice (some ⟨b, o, none⟩) es.length c)
 | ref {id k off len cap b : Nat} (hA : A id) (hb : ρ id = some b) (hl : len <= cap) (hs : csize w b = some ((off + cap) * k)) (hm : cap <= maxLen) : RV (.ref id k off len) (.slice (some ⟨b, off * k, none⟩) len cap)
 | refn {id k : Nat} (hA : A id) (hb : ρ id = none) : RV (.ref id k 0 0) (.slice none 0 0)
 | ptr {id k i j b : Nat} (hA : A id) (hb : ρ id = some b) : RV (.ptr id k i j) (.pointer (some ⟨b, i * k + j, none⟩))
 | iptr {cs : List AV} {j b o : Nat} (f : Nat -> Value) (hI : I b) (hc : ∀ i, i < cs.length -> w.cell? ⟨b, o + i, none⟩ = some (f i)) (ha : ∀ i, i < cs.length -> atom (f i) = true)
   (hr : ∀ (i : Nat) x, cs[i]? = some x -> RV x (f i)) : RV (.iptr cs j) (.pointer (some ⟨b, o + j, none⟩))
 | clo {fn : Fn} {xs ys : List AV} {fs cs : Array Value} (h1 : xs.length = fs.size) (h2 : ys.length = cs.size)
   (h3 : ∀ (i : Nat) x v, xs[i]? = some x -> fs[i]? = some v -> RV x v) (h4 : ∀ (i : Nat) x v, ys[i]? = some x -> cs[i]? = some v -> RV x v) : RV (.clo fn xs ys) (.func fn fs cs)
 | map {id b : Nat} (hA : A id) (hb : ρ id = some b) : RV (.map id) (.map (some b))
 | yld {id b : Nat} (hA : A id) (hb : ρ id = some b) : RV (.yld id) (.func (.yield b) #[] #[])
 | cond {l : List Bool} {x : AV} {v : Value} (h1 : l.all id = true -> RV x v) (h2 : l.all id = false -> v = undef) : RV (.cond l x) v
def ORb (b : Nat) : AObj -> Prop
 | .arr k es => ∃ (cs : Array Value) (t : TypeId), w.heap[b]? = some (.cells cs t (0, 0)) /\ (flat es).length <= cs.size /\ (∀ e, e ∈ es -> e.cells.length = k) /\
   (∀ (j : Nat) v, j < (flat es).length -> cs[j]? = some v -> atom v = true) /\ ∀ (j : Nat) x v, (flat es)[j]? = some x -> cs[j]? = some v -> RV A ρ I w x v
 | .map m => ∃ (es : Array MapEntry) (clock : Nat), w.heap[b]? = some (.map es clock) /\ es.size = m.length /\
   (∀ (j : Nat) e p, es[j]? = some e -> m[j]? = some p -> e.key = p.1 /\ RV A ρ I w p.2 e.val) /\ clock = es.size /\ ∀ (j : Nat) e, es[j]? = some e -> e.born = j
 | .bytes l => ∃ cs : Array Value, w.heap[b]? = some (.cells cs GB (0, 0)) /\ l.length <= cs.size /\ ∀ (j : Nat) x, l[j]? = some x -> cs[j]? = some (.int .u8 x.toNat)
 | .bld T x => ∃ p v, w.heap[b]? = some (.cells #[p, v] T (0, 0)) /\ (p = .pointer none \/ p = .pointer (some ⟨b, 0, none⟩)) /\ atom v = true /\ RV A ρ I w x v
 | .lop c ts => ∃ (tmps : Array Value) (df : Nat), w.heap[b]? = some (.loop { state := c.state, pending := c.pending, fn := c.fn, tmps, params := c.params, assign := c.assign, body := c.body, defers := df }) /\ ts.length = tmps.size /\ ∀ (i : Nat) x v, ts[i]? = some x -> tmps[i]? = some v -> RV A ρ I w x v
 | .itr id n seen => ∃ (b' : Nat) (sn : Array Nat), w.heap[b]? = some (.mapIter (some b') n sn n) /\ sn.toList = seen /\ A id /\ ρ id = some b'
def OR (b : Option Nat) (o : AObj) : Prop :=
 match b with
 | some b => ORb A ρ I w b o
 | none => o = .bytes [] \/ ∃ k, o = .arr k []
end
theorem World.lt_of_block {w : World} {b : Nat} {o : Obj} (h : w.heap[b]? = some o) : b < w.heap.size := (Array.getElem?_eq_some_iff.1 h).1
theorem csize_lt {w : World} {b n : Nat} (h : csize w b = some n) : b < w.heap.size := by
 unfold csize at h
 split at h
 ·rename_i hb; exact World.lt_of_block hb
 ·cases h
section
variable {A A' : Nat -> Prop} {ρ ρ' : Nat -> Option Nat} {I I' : Nat -> Prop} {w w' : World}
theorem RV.mono (hA : ∀ id, A id -> A' id /\ ρ' id = ρ id) (hI : ∀ b, I b -> I' b /\ w'.heap[b]? = w.heap[b]?) (hs : ∀ b n, csize w b = some n -> csize w' b = some n)
    {x : AV} {v : Value} (h : RV A ρ I w x v) : RV A' ρ' I' w' x v := by
  induction h with
  | any => exact .any
  | val h => exact .val h
  | agg hl ha _ ih => exact .agg hl ha ih
  | tup hl _ ih => exact .tup hl ih
  | nils => exact .nils
  | sl f hn hb hk hc ha _ ih => exact .sl f hn (hI _ hb).1 hk (fun j hj => (World.cell?_of_block (hI _ hb).2).trans (hc j hj)) ha ih
  | ref h hb hl hcs hm => exact .ref (hA _ h).1 ((hA _ h).2.trans hb) hl (hs _ _ hcs) hm
  | refn h hb => exact .refn (hA _ h).1 ((hA _ h).2.trans hb)
  | ptr h hb => exact .ptr (hA _ h).1 ((hA _ h).2.trans hb)
  | iptr f hb hc ha _ ih => exact .iptr f (hI _ hb).1 (fun i hi => (World.cell?_of_block (hI _ hb).2).trans (hc i hi)) ha ih
  | clo h1 h2 _ _ ih3 ih4 => exact .clo h1 h2 ih3 ih4
  | map h hb => exact .map (hA _ h).1 ((hA _ h).2.trans hb)
  | yld h hb => exact .yld (hA _ h).1 ((hA _ h).2.trans hb)
  | cond _ h2 ih => exact .cond ih h2
theorem ORb.mono (hA : ∀ id, A id -> A' id /\ ρ' id = ρ id) (hI : ∀ b, I b -> I' b /\ w'.heap[b]? = w.heap[b]?) (hs : ∀ b n, csize w b = some n -> csize w' b = some n)
    {b : Nat} (hb : w'.heap[b]? = w.heap[b]?) {o : AObj} (h : ORb A ρ I w b o) : ORb A' ρ' I' w' b o := by
  cases o with
  | arr k es =>
    obtain ⟨cs, t, h1, h2, h3, h4, h5⟩ := h
    exact ⟨cs, t, hb.trans h1, h2, h3, h4, fun j x v hx hv => (h5 j x v hx hv).mono hA hI hs⟩
  | map m =>
    obtain ⟨es, c, h1, h2, h3, h4⟩ := h
    exact ⟨es, c, hb.trans h1, h2, fun j e p he hp => ⟨(h3 j e p he hp).1, (h3 j e p he hp).2.mono hA hI hs⟩, h4⟩
  | bytes l =>
    obtain ⟨cs, h1, h2, h3⟩ := h
    exact ⟨cs, hb.trans h1, h2, h3⟩
  | bld T x =>
    obtain ⟨p, v, h1, h2, h3, h4⟩ := h
    exact ⟨p, v, hb.trans h1, h2, h3, h4.mono hA hI hs⟩
  | lop c ts =>
    obtain ⟨tm, df, h1, h2, h3⟩ := h
    exact ⟨tm, df, hb.trans h1, h2, fun i x v hx hv => (h3 i x v hx hv).mono hA hI hs⟩
  | itr i n l =>
    obtain ⟨b', sn, h1, h2, h3, h4⟩ := h
    exact ⟨b', sn, hb.trans h1, h2, (hA _ h3).1, (hA _ h3).2.trans h4⟩
theorem OR.mono (hA : ∀ id, A id -> A' id /\ ρ' id = ρ id) (hI : ∀ b, I b -> I' b /\ w'.heap[b]? = w.heap[b]?) (hs : ∀ b n, csize w b = some n -> csize w' b = some n)
    {b : Option Nat} (hb : ∀ c, b = some c -> w'.heap[c]? = w.heap[c]?) {o : AObj} (h : OR A ρ I w b o) : OR A' ρ' I' w' b o := by
  cases b with
  | none => exact h
  | some c => exact ORb.mono hA hI hs (hb c rfl) h
end
structure Cx where
 w0 : World
 I0 : Nat -> Prop
 m : Nat
 ρ0 : Nat -> Option Nat
 hG : GW w0
 hgl : GL <= w0.heap.size
 hext : ∀ i, i < m -> ∀ b, ρ0 i = some b -> GL <= b
 ds : List Deferred
 hin : ∀ i, i < m -> ∀ b, ρ0 i = some b -> I0 b \/ w0.heap.size <= b
 mrk : Bool
def St.live (s : St) (id : Nat) (o : AObj) : Prop := s.objs[id]? = some (some o)
def Im (Γ : Cx) (ρ : Nat -> Option Nat) (s : St) (w : World) (b : Nat) : Prop := (Γ.I0 b \/ Γ.w0.heap.size <= b) /\ b < w.heap.size /\ ∀ id o, s.live id o -> ρ id ≠ some b
structure Fr (Γ : Cx) (w : World) : Prop where
 size : Γ.w0.heap.size <= w.heap.size
 os : w.os = Γ.w0.os
 tape : w.tape = Γ.w0.tape
 output : w.output = Γ.w0.output
 block : ∀ b, b < Γ.w0.heap.size -> (∀ i, i < Γ.m -> Γ.ρ0 i ≠ some b) -> w.heap[b]? = Γ.w0.heap[b]?
 csize : ∀ b n, csize Γ.w0 b = some n -> csize w b = some n
theorem Fr.next {Γ : Cx} {w : World} (h : Fr Γ w) : GW w /\ GL <= w.heap.size :=
 ⟨GW_loc (fun b hb => h.block b (Nat.lt_of_lt_of_le hb Γ.hgl) fun i hi e => by have := Γ.hext i hi b e; omega) Γ.hG, Nat.le_trans Γ.hgl h.size⟩
def mkD (D : Nat) : Deferred := { target := .collected D, args := #[] }
def DefOk (Γ : Cx) (ds : List Deferred) (I : Nat -> Prop) (w : World) : Prop := (Γ.mrk = false -> ds = Γ.ds) /\ ∃ Ds : List Nat, ds = Ds.map mkD ++ Γ.ds /\ Ds.Nodup /\ ∀ D, D ∈ Ds -> Γ.w0.heap.size <= D /\ I D /\ w.heap[D]? = some (.deferred (some []))
theorem DefOk.nil {Γ : Cx} {ds : List Deferred} {I : Nat -> Prop} {w : World} (h : ds = Γ.ds) : DefOk Γ ds I w := ⟨fun _ => h, [], by simpa using h, by simp, by simp⟩
theorem DefOk.none {Γ : Cx} {I I' : Nat -> Prop} {w w' : World} (h : DefOk Γ [] I w) : DefOk Γ [] I' w' := .nil (by
 obtain ⟨_, Ds, h1, _⟩ := h
 have h2 := (List.append_eq_nil_iff.1 h1.symm).2
 exact h2.symm)
theorem DefOk.eq {Γ : Cx} {ds : List Deferred} {I : Nat -> Prop} {w : World} (h : DefOk Γ ds I w) (hk : Γ.mrk = false) : ds = Γ.ds := h.1 hk
theorem DefOk.mono {Γ : Cx} {ds : List Deferred} {I I' : Nat -> Prop} {w w' : World} (h : DefOk Γ ds I w) (hI : ∀ b, I b -> I' b /\ w'.heap[b]? = w.heap[b]?) : DefOk Γ ds I' w' := by
 obtain ⟨h0, Ds, h1, hn, h2⟩ := h
 exact ⟨h0, Ds, h1, hn, fun D hD => ⟨(h2 D hD).1, (hI D (h2 D hD).2.1).1, (hI D (h2 D hD).2.1).2.trans (h2 D hD).2.2⟩⟩
structure SRa (Γ : Cx) (A : Nat -> Prop) (ρ : Nat -> Option Nat) (s : St) (a : Act) (w : World) : Prop where
 ext : ∀ i, i < Γ.m -> A i /\ ρ i = Γ.ρ0 i
 len : a.tmps.size = s.tmps.length
 tmp : ∀ (i : Nat) x v, s.tmps[i]? = some x -> a.tmps[i]? = some v -> RV A ρ (Im Γ ρ s w) w x v
 obj : ∀ id o, s.live id o -> OR A ρ (Im Γ ρ s w) w (ρ id) o
 made : ∀ id o, s.live id o -> A id
 bound : ∀ id, A id -> id < s.objs.length
 own : ∀ id o b, s.live id o -> ρ id = some b -> Γ.w0.heap.size <= b \/ ∃ i, i < Γ.m /\ Γ.ρ0 i = some b
 inj : ∀ id id' o o' b, s.live id o -> s.live id' o' -> ρ id = some b -> ρ id' = some b -> id = id'
 defers : DefOk Γ a.defers (Im Γ ρ s w) w
 fr : Fr Γ w
def SR (Γ : Cx) (s : St) (a : Act) (w : World) : Prop := ∃ ρ, SRa Γ (fun id => id < s.objs.length) ρ s a w
def St.put (s : St) (dst : Option Tmp) (x : AV) : St :=
 match dst with
 | some d => { s with tmps := s.tmps.set d x }
 | none => s
def St.op (s : St) : Operand -> AV
 | .tmp t => s.tmps.getD t .any
 | .const v => if atom v then .val v else .any
 | .global g => .val (.pointer (some ⟨g, 0, none⟩))
 | .func f => .clo (.func f) [] []
@[simp] theorem St.put_objs (s : St) (d : Option Tmp) (x : AV) : (s.put d x).objs = s.objs := by cases d <;> rfl
theorem St.live_put {s : St} {d : Option Tmp} {x : AV} {id : Nat} {o : AObj} : (s.put d x).live id o ↔ s.live id o := by simp [St.live]
theorem Im_put {Γ : Cx} {ρ : Nat -> Option Nat} {s : St} {d : Option Tmp} {x : AV} {w : World} : Im Γ ρ (s.put d x) w = Im Γ ρ s w := by
 funext b; simp [Im, St.live_put]
section
variable {Γ : Cx} {A : Nat -> Prop} {ρ : Nat -> Option Nat} {s : St} {a : Act} {w : World}
theorem SRa.eval (h : SRa Γ A ρ s a w) (x : Operand) : RV A ρ (Im Γ ρ s w) w (s.op x) (a.eval x) := by
 cases x with
 | tmp t =>
  simp only [St.op, Act.eval]
  by_cases ht : t < s.tmps.length
  ·have h1 : s.tmps[t]? = some s.tmps[t] := List.getElem?_eq_getElem ht
   have h2 : a.tmps[t]? = some (a.tmps[t]'(by rw [h.len]; exact ht)) := Array.getElem?_eq_getElem (by rw [h.len]; exact ht)
   have := h.tmp t _ _ h1 h2
   simpa [List.getD, h1, Array.getD, h.len, ht] using this
  ·have h1 : s.tmps[t]? = none := List.getElem?_eq_none (Nat.le_of_not_lt ht)
   simp only [List.getD, h1]; exact .any
 | const v =>
  simp only [St.op, Act.eval]
  split
  ·rename_i hv; exact .val hv
  ·exact .any
 | global g => exact .val rfl
 | func f => exact .clo (by simp) (by simp) (by simp) (by simp)
theorem SRa.put (h : SRa Γ A ρ s a w) (d : Option Tmp) {x : AV} {v : Value} (hv : RV A ρ (Im Γ ρ s w) w x v) : SRa Γ A ρ (s.put d x) (a.put d v) w := by
 cases d with
 | none => exact h
 | some d =>
  refine ⟨h.ext, by simp [Act.put, St.put, h.len], ?_, fun id o hl => ?_, fun id o hl => h.made id o hl, fun id hA => h.bound id hA, fun id o b hl hb => h.own id o b hl hb, fun id id' o o' b h1 h2 => h.inj id id' o o' b h1 h2, by rw [Im_put]; exact h.defers, h.fr⟩
  ·intro i y u hy hu
   rw [Im_put]
   simp only [St.put, Act.put] at hy hu
   by_cases hi : d = i
   ·subst hi
    rw [List.getElem?_set] at hy
    rw [Array.getElem?_setIfInBounds] at hu
    simp only [if_true] at hy hu
    split at hy
    ·injection hy with hy; subst hy
     split at hu
     ·injection hu with hu; subst hu; exact hv
     ·cases hu
    ·cases hy
   ·rw [List.getElem?_set_ne hi] at hy
    rw [Array.getElem?_setIfInBounds_ne hi] at hu
    exact h.tmp i y u hy hu
  ·rw [Im_put]; exact h.obj id o hl
theorem SR.put_any (h : SR Γ s a w) (d : Option Tmp) (v : Value) : SR Γ (s.put d .any) (a.put d v) w := by
 obtain ⟨ρ, h⟩ := h
 exact ⟨ρ, by simpa using h.put d .any⟩
theorem SRa.drawn (h : SRa Γ A ρ s a w) (n : Nat) : SRa Γ A ρ s a { w with drawn := n } := by
 have hm : ∀ {x v}, RV A ρ (Im Γ ρ s w) w x v -> RV A ρ (Im Γ ρ s { w with drawn := n }) { w with drawn := n } x v := fun hx => RV.mono (w := w) (w' := { w with drawn := n }) (I := Im Γ ρ s w) (fun id hA => ⟨hA, rfl⟩) (fun b hb => ⟨hb, rfl⟩) (fun b k hk => hk) hx
 exact ⟨h.ext, h.len, fun i x v hx hv => hm (h.tmp i x v hx hv), fun id o hl => OR.mono (w := w) (w' := { w with drawn := n }) (I := Im Γ ρ s w) (fun id hA => ⟨hA, rfl⟩) (fun b hb => ⟨hb, rfl⟩) (fun b k hk => hk) (fun _ _ => rfl) (h.obj id o hl), h.made, h.bound, h.own, h.inj, h.defers.mono (w' := { w with drawn := n }) fun b hb => ⟨hb, rfl⟩,
  ⟨h.fr.size, h.fr.os, h.fr.tape, h.fr.output, h.fr.block, h.fr.csize⟩⟩
theorem SR.drawn (h : SR Γ s a w) (n : Nat) : SR Γ s a { w with drawn := n } := let ⟨ρ, h⟩ := h; ⟨ρ, h.drawn n⟩
end
section
variable (A : Nat -> Prop) (ρ : Nat -> Option Nat) (I : Nat -> Prop) (w : World)
structure Row (k : Nat) (es : List AV) (cs : Array Value) : Prop where
 len : (flat es).length <= cs.size
 wide : ∀ e, e ∈ es -> e.cells.length = k
 atoms : ∀ (j : Nat) v, j < (flat es).length -> cs[j]? = some v -> atom v = true
 vals : ∀ (j : Nat) x v, (flat es)[j]? = some x -> cs[j]? = some v -> RV A ρ I w x v
end
theorem flat_length {k : Nat} : ∀ {es : List AV}, (∀ e, e ∈ es -> e.cells.length = k) -> (flat es).length = es.length * k
  | [], _ => by simp [flat]
  | e :: es, h => by
    have h1 := h e (by simp)
    have h2 := flat_length (es := es) (fun e he => h e (by simp [he]))
    simp only [flat] at h2
    simp only [flat, List.flatMap_cons, List.length_append, h2, h1, List.length_cons]
    rw [Nat.add_mul, Nat.one_mul, Nat.add_comm]
theorem flat_get {k : Nat} : ∀ {es : List AV}, (∀ e, e ∈ es -> e.cells.length = k) -> ∀ (i j : Nat) e, es[i]? = some e -> j < k -> (flat es)[i * k + j]? = e.cells[j]?
  | [], _, _, _, _, he, _ => by simp at he
  | e :: es, h, 0, j, e', he, hj => by
    simp only [List.getElem?_cons_zero, Option.some.injEq] at he
    subst he
    have h1 := h e (by simp)
    simp only [flat, List.flatMap_cons, Nat.zero_mul, Nat.zero_add]
    rw [List.getElem?_append_left (by omega)]
  | e :: es, h, i + 1, j, e', he, hj => by
    have h1 := h e (by simp)
    have h2 := flat_get (es := es) (fun e he => h e (by simp [he])) i j e' (by simpa using he) hj
    simp only [flat] at h2
    simp only [flat, List.flatMap_cons]
    rw [List.getElem?_append_right (by rw [h1, Nat.add_mul]; omega), <- h2]
    congr 1
    rw [h1, Nat.add_mul]; omega
theorem flat_append (xs ys : List AV) : flat (xs ++ ys) = flat xs ++ flat ys := by simp [flat]
section
variable {A A' : Nat -> Prop} {ρ ρ' : Nat -> Option Nat} {I I' : Nat -> Prop} {w w' : World}
theorem Row.mono (hA : ∀ id, A id -> A' id /\ ρ' id = ρ id) (hI : ∀ b, I b -> I' b /\ w'.heap[b]? = w.heap[b]?) (hs : ∀ b n, csize w b = some n -> csize w' b = some n)
    {k : Nat} {es : List AV} {cs : Array Value} (h : Row A ρ I w k es cs) : Row A' ρ' I' w' k es cs :=
  ⟨h.len, h.wide, h.atoms, fun j x v hx hv => (h.vals j x v hx hv).mono hA hI hs⟩
theorem Row.or {k : Nat} {es : List AV} {cs : Array Value} {t : TypeId} {b : Nat} (h : Row A ρ I w k es cs) (hb : w.heap[b]? = some (.cells cs t (0, 0))) : ORb A ρ I w b (.arr k es) :=
 ⟨cs, t, hb, h.len, h.wide, h.atoms, h.vals⟩
theorem ORb.row {k : Nat} {es : List AV} {b : Nat} (h : ORb A ρ I w b (.arr k es)) : ∃ cs t, w.heap[b]? = some (.cells cs t (0, 0)) /\ Row A ρ I w k es cs := by
 obtain ⟨cs, t, h1, h2, h3, h4, h5⟩ := h
 exact ⟨cs, t, h1, h2, h3, h4, h5⟩
end
def St.set (s : St) (id : Nat) (o : Option AObj) : St := { s with objs := s.objs.set id o }
@[simp] theorem St.set_tmps (s : St) (id : Nat) (o : Option AObj) : (s.set id o).tmps = s.tmps := rfl
@[simp] theorem St.set_objs (s : St) (id : Nat) (o : Option AObj) : (s.set id o).objs = s.objs.set id o := rfl
theorem St.live_set {s : St} {nid : Nat} {o : AObj} {id : Nat} {o' : AObj} (h : (s.set nid (some o)).live id o') : (id = nid /\ o' = o) \/ (id ≠ nid /\ s.live id o') := by
 simp only [St.live, St.set_objs] at h
 by_cases hi : nid = id
 ·subst hi
  rw [List.getElem?_set] at h
  simp only [if_true] at h
  split at h
  ·simp only [Option.some.injEq] at h; exact .inl ⟨rfl, h.symm⟩
  ·cases h
 ·rw [List.getElem?_set_ne hi] at h
  exact .inr ⟨fun e => hi e.symm, h⟩
theorem St.live_kill {s : St} {nid : Nat} {id : Nat} {o' : AObj} (h : (s.set nid none).live id o') : id ≠ nid /\ s.live id o' := by
 simp only [St.live, St.set_objs] at h
 by_cases hi : nid = id
 ·subst hi
  rw [List.getElem?_set] at h
  simp only [if_true] at h
  split at h <;> simp at h
 ·rw [List.getElem?_set_ne hi] at h
  exact ⟨fun e => hi e.symm, h⟩
section
variable {Γ : Cx} {A : Nat -> Prop} {ρ : Nat -> Option Nat} {s : St} {a : Act} {w : World}
theorem SRa.turn (h : SRa Γ A ρ s a w) {A' : Nat -> Prop} {ρ' : Nat -> Option Nat} {s' : St} {w' : World} (ht : s'.tmps = s.tmps)
  (hA : ∀ id, A id -> A' id /\ ρ' id = ρ id) (hI : ∀ b, Im Γ ρ s w b -> Im Γ ρ' s' w' b /\ w'.heap[b]? = w.heap[b]?) (hs : ∀ b n, csize w b = some n -> csize w' b = some n)
  (hobj : ∀ id o, s'.live id o -> OR A' ρ' (Im Γ ρ' s' w') w' (ρ' id) o) (hmade : ∀ id o, s'.live id o -> A' id) (hbound : ∀ id, A' id -> id < s'.objs.length)
  (hown : ∀ id o b, s'.live id o -> ρ' id = some b -> Γ.w0.heap.size <= b \/ ∃ i, i < Γ.m /\ Γ.ρ0 i = some b)
  (hinj : ∀ id id' o o' b, s'.live id o -> s'.live id' o' -> ρ' id = some b -> ρ' id' = some b -> id = id') (hfr : Fr Γ w') : SRa Γ A' ρ' s' a w' :=
 ⟨fun i hi => ⟨(hA i (h.ext i hi).1).1, (hA i (h.ext i hi).1).2.trans (h.ext i hi).2⟩, by rw [ht]; exact h.len, fun i x v hx hv => (h.tmp i x v (by rw [<- ht]; exact hx) hv).mono hA hI hs, hobj, hmade, hbound, hown, hinj, h.defers.mono hI, hfr⟩
theorem Fr.turn (h : Fr Γ w) {w' : World} (hsz : w.heap.size <= w'.heap.size) (ho : w'.os = w.os) (ht : w'.tape = w.tape) (hp : w'.output = w.output)
  (hb : ∀ b, b < w.heap.size -> w'.heap[b]? = w.heap[b]? \/ Γ.w0.heap.size <= b \/ ∃ i, i < Γ.m /\ Γ.ρ0 i = some b) (hs : ∀ b n, Lg.csize w b = some n -> Lg.csize w' b = some n) : Fr Γ w' :=
 ⟨Nat.le_trans h.size hsz, ho.trans h.os, ht.trans h.tape, hp.trans h.output, fun b hlt hne => by
  rcases hb b (Nat.lt_of_lt_of_le hlt h.size) with e | e | ⟨i, hi, e⟩
  ·exact e.trans (h.block b hlt hne)
  ·omega
  ·exact absurd e (hne i hi), fun b n hn => hs b n (h.csize b n hn)⟩
theorem csize_alloc (w : World) (o : Obj) (b n : Nat) (h : csize w b = some n) : csize (w.alloc o) b = some n := by
 have := csize_lt h
 unfold csize at *
 rw [Below.heap_alloc w o b this]; exact h
theorem Fr.alloc (h : Fr Γ w) (o : Obj) : Fr Γ (w.alloc o) :=
 h.turn (by simp) rfl rfl rfl (fun b hb => .inl (Below.heap_alloc w o b hb)) (csize_alloc w o)
theorem SRa.new (h : SRa Γ A ρ s a w) {nid : Nat} (hn : nid < s.objs.length) (hA : ¬ A nid) {o : AObj} {ob : Obj}
  (ho : ∀ (A' : Nat -> Prop) (ρ' : Nat -> Option Nat) (I' : Nat -> Prop), (∀ id, A id -> A' id /\ ρ' id = ρ id) -> (∀ b, Im Γ ρ s w b -> I' b /\ (w.alloc ob).heap[b]? = w.heap[b]?) ->
   ORb A' ρ' I' (w.alloc ob) w.heap.size o) :
  SRa Γ (fun i => A i \/ i = nid) (fun i => if i = nid then some w.heap.size else ρ i) (s.set nid (some o)) a (w.alloc ob) := by
 have hne : ∀ id, A id -> id ≠ nid := fun id hi e => hA (e ▸ hi)
 have hA' : ∀ id, A id -> (A id \/ id = nid) /\ (if id = nid then some w.heap.size else ρ id) = ρ id := fun id hi => ⟨.inl hi, if_neg (hne id hi)⟩
 have hblk : ∀ id o b, s.live id o -> ρ id = some b -> b < w.heap.size := by
  intro id o b hl hb
  have := h.obj id o hl
  rw [hb] at this
  cases o with
  | arr k es => obtain ⟨cs, t, h1, _⟩ := this; exact World.lt_of_block h1
  | map m => obtain ⟨cs, t, h1, _⟩ := this; exact World.lt_of_block h1
  | bytes l => obtain ⟨cs, h1, _⟩ := this; exact World.lt_of_block h1
  | bld T x => obtain ⟨p, v, h1, _⟩ := this; exact World.lt_of_block h1
  | lop c ts => obtain ⟨tm, df, h1, _⟩ := this; exact World.lt_of_block h1
  | itr i n l => obtain ⟨b', sn, h1, _⟩ := this; exact World.lt_of_block h1
 have hI : ∀ b, Im Γ ρ s w b -> Im Γ (fun i => if i = nid then some w.heap.size else ρ i) (s.set nid (some o)) (w.alloc ob) b /\ (w.alloc ob).heap[b]? = w.heap[b]? := by
  rintro b ⟨h1, h2, h3⟩
  refine ⟨⟨h1, by simp; omega, ?_⟩, Below.heap_alloc _ _ _ h2⟩
  intro id o' hl
  rcases St.live_set hl with ⟨rfl, _⟩ | ⟨hi, hl⟩
  ·simp; omega
  ·simp only [if_neg hi]; exact h3 id o' hl
 refine h.turn rfl hA' hI (csize_alloc w ob) ?_ ?_ ?_ ?_ ?_ (h.fr.alloc ob)
 ·intro id o' hl
  rcases St.live_set hl with ⟨rfl, rfl⟩ | ⟨hi, hl⟩
  ·simp only [if_true]; exact ho _ _ _ hA' hI
  ·simp only [if_neg hi]
   exact (h.obj id o' hl).mono hA' hI (csize_alloc w ob) (fun c hc => Below.heap_alloc _ _ _ (hblk id o' c hl hc))
 ·intro id o' hl
  rcases St.live_set hl with ⟨rfl, _⟩ | ⟨hi, hl⟩
  ·exact .inr rfl
  ·exact .inl (h.made id o' hl)
 ·rintro id (hi | rfl)
  ·simpa using h.bound id hi
  ·simpa using hn
 ·intro id o' b hl hb
  rcases St.live_set hl with ⟨rfl, _⟩ | ⟨hi, hl⟩
  ·simp at hb; subst hb; exact .inl h.fr.size
  ·simp only [if_neg hi] at hb; exact h.own id o' b hl hb
 ·intro id id' o1 o2 b hl hl' hb hb'
  rcases St.live_set hl with ⟨rfl, _⟩ | ⟨hi, hx⟩ <;> rcases St.live_set hl' with ⟨rfl, _⟩ | ⟨hi', hx'⟩
  ·rfl
  ·simp only [if_true, Option.some.injEq] at hb
   simp only [if_neg hi'] at hb'
   have := hblk _ _ _ hx' hb'; omega
  ·simp only [if_true, Option.some.injEq] at hb'
   simp only [if_neg hi] at hb
   have := hblk _ _ _ hx hb; omega
  ·simp only [if_neg hi] at hb
   simp only [if_neg hi'] at hb'
   exact h.inj _ _ _ _ b hx hx' hb hb'
theorem SRa.newRow (h : SRa Γ A ρ s a w) {nid : Nat} (hn : nid < s.objs.length) (hA : ¬ A nid) {k : Nat} {es : List AV} {cs : Array Value} (t : TypeId) (hr : Row A ρ (Im Γ ρ s w) w k es cs) :
  SRa Γ (fun i => A i \/ i = nid) (fun i => if i = nid then some w.heap.size else ρ i) (s.set nid (some (.arr k es))) a (w.alloc (.cells cs t)) :=
 h.new hn hA fun _ _ _ h1 h2 => (hr.mono h1 h2 (csize_alloc w _)).or (heap_alloc_new w _)
theorem SRa.kill (h : SRa Γ A ρ s a w) (id : Nat) : SRa Γ A ρ (s.set id none) a w := by
 have hI : ∀ b, Im Γ ρ s w b -> Im Γ ρ (s.set id none) w b /\ w.heap[b]? = w.heap[b]? := fun b ⟨h1, h2, h3⟩ => ⟨⟨h1, h2, fun i o hl => h3 i o (St.live_kill hl).2⟩, rfl⟩
 exact h.turn rfl (fun i hi => ⟨hi, rfl⟩) hI (fun _ _ hn => hn) (fun i o hl => (h.obj i o (St.live_kill hl).2).mono (fun i hi => ⟨hi, rfl⟩) hI (fun _ _ hn => hn) (fun _ _ => rfl))
  (fun i o hl => h.made i o (St.live_kill hl).2) (fun i hi => by simpa using h.bound i hi) (fun i o b hl hb => h.own i o b (St.live_kill hl).2 hb)
  (fun i j o o' b hl hl' => h.inj i j o o' b (St.live_kill hl).2 (St.live_kill hl').2) h.fr
theorem SRa.rename (h : SRa Γ A ρ s a w) {id nid : Nat} {o : AObj} (hl : s.live id o) (hn : nid < s.objs.length) (hA : ¬ A nid) :
  SRa Γ (fun i => A i \/ i = nid) (fun i => if i = nid then ρ id else ρ i) ((s.set id none).set nid (some o)) a w := by
 have hne : ∀ i, A i -> i ≠ nid := fun i hi e => hA (e ▸ hi)
 have hid : id ≠ nid := hne id (h.made id o hl)
 have hA' : ∀ i, A i -> (A i \/ i = nid) /\ (if i = nid then ρ id else ρ i) = ρ i := fun i hi => ⟨.inl hi, if_neg (hne i hi)⟩
 have hI : ∀ b, Im Γ ρ s w b -> Im Γ (fun i => if i = nid then ρ id else ρ i) ((s.set id none).set nid (some o)) w b /\ w.heap[b]? = w.heap[b]? := by
  rintro b ⟨h1, h2, h3⟩
  refine ⟨⟨h1, h2, fun i o' hl' => ?_⟩, rfl⟩
  rcases St.live_set hl' with ⟨rfl, _⟩ | ⟨hi, hl'⟩
  ·simp only [if_true]; exact h3 id o hl
  ·simp only [if_neg hi]; exact h3 i o' (St.live_kill hl').2
 refine h.turn rfl hA' hI (fun _ _ hn => hn) ?_ ?_ ?_ ?_ ?_ h.fr
 ·intro i o' hl'
  rcases St.live_set hl' with ⟨rfl, rfl⟩ | ⟨hi, hl'⟩
  ·simp only [if_true]; exact (h.obj id _ hl).mono hA' hI (fun _ _ hn => hn) (fun _ _ => rfl)
  ·simp only [if_neg hi]; exact (h.obj i o' (St.live_kill hl').2).mono hA' hI (fun _ _ hn => hn) (fun _ _ => rfl)
 ·intro i o' hl'
  rcases St.live_set hl' with ⟨rfl, _⟩ | ⟨hi, hl'⟩
  ·exact .inr rfl
  ·exact .inl (h.made i o' (St.live_kill hl').2)
 ·rintro i (hi | rfl)
  ·simpa using h.bound i hi
  ·simpa using hn
 ·intro i o' b hl' hb
  rcases St.live_set hl' with ⟨rfl, _⟩ | ⟨hi, hl'⟩
  ·simp only [if_true] at hb; exact h.own id o b hl hb
  ·simp only [if_neg hi] at hb; exact h.own i o' b (St.live_kill hl').2 hb
 ·intro i j o1 o2 b h1 h2 hb hb'
  rcases St.live_set h1 with ⟨rfl, _⟩ | ⟨hi, hx⟩ <;> rcases St.live_set h2 with ⟨rfl, _⟩ | ⟨hj, hy⟩
  ·rfl
  ·simp only [if_true] at hb
   simp only [if_neg hj] at hb'
   exact absurd (h.inj id j o o2 b hl (St.live_kill hy).2 hb hb') (fun e => (St.live_kill hy).1 e.symm)
  ·simp only [if_true] at hb'
   simp only [if_neg hi] at hb
   exact absurd (h.inj i id o1 o b (St.live_kill hx).2 hl hb hb') (St.live_kill hx).1
  ·simp only [if_neg hi] at hb
   simp only [if_neg hj] at hb'
   exact h.inj i j o1 o2 b (St.live_kill hx).2 (St.live_kill hy).2 hb hb'
theorem SRa.write (h : SRa Γ A ρ s a w) {id b : Nat} {o o' : AObj} (hl : s.live id o) (hb : ρ id = some b) {w' : World} (hsz : w'.heap.size = w.heap.size) (hos : w'.os = w.os) (htp : w'.tape = w.tape) (hout : w'.output = w.output)
  (hoth : ∀ c, c ≠ b -> w'.heap[c]? = w.heap[c]?) (hcs : ∀ n, csize w b = some n -> csize w' b = some n)
  (ho : ∀ I' : Nat -> Prop, (∀ c, Im Γ ρ s w c -> I' c /\ w'.heap[c]? = w.heap[c]?) -> (∀ c n, csize w c = some n -> csize w' c = some n) -> ORb A ρ I' w' b o') : SRa Γ A ρ (s.set id (some o')) a w' := by
 have hs : ∀ c n, csize w c = some n -> csize w' c = some n := by
  intro c n hn
  by_cases hc : c = b
  ·subst hc; exact hcs n hn
  ·unfold csize at *; rw [hoth c hc]; exact hn
 have hI : ∀ c, Im Γ ρ s w c -> Im Γ ρ (s.set id (some o')) w' c /\ w'.heap[c]? = w.heap[c]? := by
  rintro c ⟨h1, h2, h3⟩
  refine ⟨⟨h1, by omega, fun i o1 hl1 => ?_⟩, hoth c (fun e => h3 id o hl (by rw [hb, e]))⟩
  rcases St.live_set hl1 with ⟨rfl, _⟩ | ⟨_, hl1⟩
  ·exact h3 _ o hl
  ·exact h3 i o1 hl1
 have hA : ∀ i, A i -> A i /\ ρ i = ρ i := fun i hi => ⟨hi, rfl⟩
 refine h.turn rfl hA hI hs ?_ ?_ (fun i hi => by simpa using h.bound i hi) ?_ ?_ (h.fr.turn (by omega) hos htp hout (fun c _ => ?_) hs)
 ·intro i o1 hl1
  rcases St.live_set hl1 with ⟨rfl, rfl⟩ | ⟨hi, hl1⟩
  ·rw [hb]; exact ho _ hI hs
  ·exact (h.obj i o1 hl1).mono hA hI hs (fun c hc => hoth c (fun e => hi (h.inj i id o1 o b hl1 hl (by rw [hc, e]) hb)))
 ·intro i o1 hl1
  rcases St.live_set hl1 with ⟨rfl, _⟩ | ⟨_, hl1⟩
  ·exact h.made _ o hl
  ·exact h.made i o1 hl1
 ·intro i o1 c hl1 hc
  rcases St.live_set hl1 with ⟨rfl, _⟩ | ⟨_, hl1⟩
  ·exact h.own _ o c hl hc
  ·exact h.own i o1 c hl1 hc
 ·intro i j o1 o2 c h1 h2 hc hc'
  have e1 : ∃ o3, s.live i o3 := by
   rcases St.live_set h1 with ⟨rfl, _⟩ | ⟨_, h1⟩
   ·exact ⟨o, hl⟩
   ·exact ⟨o1, h1⟩
  have e2 : ∃ o3, s.live j o3 := by
   rcases St.live_set h2 with ⟨rfl, _⟩ | ⟨_, h2⟩
   ·exact ⟨o, hl⟩
   ·exact ⟨o2, h2⟩
  obtain ⟨o3, e1⟩ := e1
  obtain ⟨o4, e2⟩ := e2
  exact h.inj i j o3 o4 c e1 e2 hc hc'
 ·by_cases hc : c = b
  ·subst hc; exact .inr (h.own id o c hl hb)
  ·exact .inl (hoth c hc)
theorem SRa.writeRow (h : SRa Γ A ρ s a w) {id b : Nat} {o : AObj} (hl : s.live id o) (hb : ρ id = some b) {w' : World} (hsz : w'.heap.size = w.heap.size) (hos : w'.os = w.os) (htp : w'.tape = w.tape) (hout : w'.output = w.output)
    (hoth : ∀ c, c ≠ b -> w'.heap[c]? = w.heap[c]?) {cs cs' : Array Value} {t : TypeId} (hold : w.heap[b]? = some (.cells cs t (0, 0))) (hnew : w'.heap[b]? = some (.cells cs' t (0, 0))) (hcs : cs'.size = cs.size)
    {k : Nat} {es : List AV} (hr : Row A ρ (Im Γ ρ s w) w k es cs') : SRa Γ A ρ (s.set id (some (.arr k es))) a w' :=
  h.write hl hb hsz hos htp hout hoth (fun n hn => by simp only [csize, hold] at hn; simp only [csize, hnew]; rw [hcs]; exact hn) (fun _ hI hs => (hr.mono (fun i hi => ⟨hi, rfl⟩) hI hs).or hnew)
end
inductive Sh where
 | slice | string | map | int | arr | other
 deriving DecidableEq
def shD : TypeDesc -> Sh
 | .slice _ => .slice
 | .string => .string
 | .map _ _ => .map
 | .array _ _ => .arr
 | .int _ => .int
 | _ => .other
structure TI where
 agg : Bool
 size : Nat
 bytes : Nat
 zero : List Value
 elem : Option TypeId
 fields : List (Nat × Nat)
 kind : Option IntKind
 whole : Bool
 sh : Sh
def isAggD : TypeDesc -> Bool
 | .struct _ | .array _ _ => true
 | _ => false
def elemD : TypeDesc -> Option TypeId
 | .slice e => some e
 | _ => none
def fieldsD (P : Program) : TypeDesc -> List (Nat × Nat)
 | .struct fs => fs.toList.map fun f => (f.offset, ((P.info? f.type).map (·.size)).getD 0)
 | _ => []
def wholeD (P : Program) : TypeDesc -> Bool
 | .struct fs => (fs.toList.mapM fun f => (P.info? f.type).map fun i => (f.offset, i.size)).isSome
 | .array _ e => decide ((P.info? e).map (·.size) = some 1)
 | _ => false
def kindD : TypeDesc -> Option IntKind
 | .int k => some k
 | _ => none
def tinfo (P : Program) (t : TypeId) : Option TI :=
 match P.underlying t, P.info? t with
 | some d, some i => some ⟨isAggD d, i.size, i.bytes, (i.zero.map fun z => z.cells.toList).getD [], elemD d, fieldsD P d, kindD d, wholeD P d, shD d⟩
 | _, _ => none
section
variable {P : Program} {t : TypeId} {ti : TI}
theorem tinfo_of (h : tinfo P t = some ti) : ∃ d i, P.underlying t = some d /\ P.info? t = some i /\ ti = ⟨isAggD d, i.size, i.bytes, (i.zero.map fun z => z.cells.toList).getD [], elemD d, fieldsD P d, kindD d, wholeD P d, shD d⟩ := by
 unfold tinfo at h
 split at h
 ·rename_i d i hd hi
  exact ⟨d, i, hd, hi, by injection h with h; exact h.symm⟩
 ·cases h
theorem sh_slice (h : tinfo P t = some ti) (hs : ti.sh = .slice) : ∃ e, P.underlying t = some (.slice e) := by
 obtain ⟨d, i, hd, hi, rfl⟩ := tinfo_of h
 cases d <;> simp [shD] at hs
 exact ⟨_, hd⟩
theorem sh_string (h : tinfo P t = some ti) (hs : ti.sh = .string) : P.underlying t = some .string := by
 obtain ⟨d, i, hd, hi, rfl⟩ := tinfo_of h
 cases d <;> simp [shD] at hs
 exact hd
theorem sh_map (h : tinfo P t = some ti) (hs : ti.sh = .map) : ∃ k e, P.underlying t = some (.map k e) := by
 obtain ⟨d, i, hd, hi, rfl⟩ := tinfo_of h
 cases d <;> simp [shD] at hs
 exact ⟨_, _, hd⟩
theorem kind_int (h : tinfo P t = some ti) {k : IntKind} (hs : ti.kind = some k) : P.underlying t = some (.int k) := by
 obtain ⟨d, i, hd, hi, rfl⟩ := tinfo_of h
 cases d <;> simp [kindD] at hs
 subst hs; exact hd
theorem sh_not_int (h : tinfo P t = some ti) (hs : ti.sh ≠ .int) : ∃ d, P.underlying t = some d /\ ∀ k, d ≠ .int k := by
 obtain ⟨d, i, hd, hi, rfl⟩ := tinfo_of h
 exact ⟨d, hd, fun k e => by subst e; exact hs rfl⟩
theorem run_isAgg (h : tinfo P t = some ti) (w : World) : (isAgg t).run P w = .ok ti.agg w := by
 obtain ⟨d, i, hd, hi, rfl⟩ := tinfo_of h
 simp only [isAgg, Sem.run_bind, run_underlying hd, Result.andThen_ok]
 cases d <;> rfl
theorem run_sizeOf (h : tinfo P t = some ti) (w : World) : (sizeOf t).run P w = .ok ti.size w := by
 obtain ⟨d, i, hd, hi, rfl⟩ := tinfo_of h
 simp [sizeOf, typeInfo, hi]
end
def St.look (s : St) (id : Nat) : Option AObj := (s.objs[id]?).join
theorem St.look_some {s : St} {id : Nat} {o : AObj} : s.look id = some o ↔ s.live id o := by
 unfold St.look St.live
 cases s.objs[id]? with
 | none => simp
 | some x => cases x <;> simp
def AV.one : AV -> Bool
 | .val _ | .sl _ _ | .ref _ _ _ _ | .ptr _ _ _ _ | .iptr _ _ | .clo _ _ _ | .map _ | .yld _ => true
 | _ => false
section
variable {A : Nat -> Prop} {ρ : Nat -> Option Nat} {I : Nat -> Prop} {w : World}
theorem RV.atom_of {x : AV} {v : Value} (h : RV A ρ I w x v) (hx : x.one = true) : atom v = true := by
 cases h <;> first | rfl | (simp [AV.one] at hx; done) | assumption
end
theorem add_lit (b o n : Nat) : (⟨b, o, none⟩ : Addr).add n = ⟨b, o + n, none⟩ := by
 unfold Addr.add; split
 ·subst_vars; rfl
 ·rfl
def part (ti : TI) (cs : List AV) (j : Nat) : Option AV :=
 if ti.agg then (if j + ti.size <= cs.length then some (.agg ((cs.drop j).take ti.size)) else none) else cs[j]?
def loadA (ti : TI) (look : Nat -> Option AObj) : AV -> Option AV
  | .ptr id k i j => match look id with
    | some (.arr k' es) => if k = k' then (es[i]?).bind fun e => part ti e.cells j else none
    | _ => none
  | .iptr cs j => part ti cs j
  | _ => none
section
variable {P : Program} {t : TypeId} {ti : TI} {A : Nat -> Prop} {ρ : Nat -> Option Nat} {I : Nat -> Prop} {w : World}
theorem run_loadVar (ht : tinfo P t = some ti) (b o : Nat) (n : Nat) (f : Nat -> Value) (hc : ∀ i, i < n -> w.cell? ⟨b, o + i, none⟩ = some (f i)) (ha : ti.agg = true -> ti.size <= n) (hb : ti.agg = false -> 0 < n) :
  (loadVar t ⟨b, o, none⟩).run P w = .ok (if ti.agg then .agg ((List.range ti.size).map f).toArray else f 0) w := by
 unfold loadVar
 simp only [Sem.run_bind, run_isAgg ht, Result.andThen_ok]
 cases hg : ti.agg with
 | true =>
  simp only [if_true, Sem.run_bind, run_sizeOf ht, Result.andThen_ok]
  rw [run_loadCells w ⟨b, o, none⟩ ti.size f (fun j hj => by rw [add_lit]; exact hc j (by have := ha hg; omega))]
  rfl
 | false =>
  have h0 := hc 0 (hb hg)
  simp only [Nat.add_zero] at h0
  simp [run_load, h0]
theorem rangeGet {n i : Nat} {g : Nat -> Value} {v : Value} (h : (((List.range n).map g).toArray)[i]? = some v) : i < n /\ g i = v := by
 simp only [List.getElem?_toArray, List.getElem?_map, Option.map_eq_some_iff] at h
 obtain ⟨j, hj, rfl⟩ := h
 obtain ⟨hlt, he⟩ := List.getElem?_eq_some_iff.1 hj
 simp at hlt he
 subst he
 exact ⟨hlt, rfl⟩
theorem part_sound (ht : tinfo P t = some ti) {cs : List AV} {j b o : Nat} {x : AV} (f : Nat -> Value) (hc : ∀ i, i < cs.length -> w.cell? ⟨b, o + i, none⟩ = some (f i)) (ha : ∀ i, i < cs.length -> atom (f i) = true)
  (hr : ∀ (i : Nat) x, cs[i]? = some x -> RV A ρ I w x (f i)) (hp : part ti cs j = some x) : ∃ v, (loadVar t ⟨b, o + j, none⟩).run P w = .ok v w /\ RV A ρ I w x v := by
 unfold part at hp
 cases hg : ti.agg with
 | true =>
  rw [hg] at hp
  simp only [if_true] at hp
  split at hp
  ·rename_i hle
   injection hp with hp
   subst hp
   rw [run_loadVar ht b (o + j) (cs.length - j) (fun i => f (j + i)) (fun i hi => by rw [Nat.add_assoc]; exact hc _ (by omega)) (fun _ => by omega) (fun h => by rw [hg] at h; cases h)]
   rw [hg]
   refine ⟨_, rfl, .agg (by simp; omega) ?_ ?_⟩
   ·intro i v hv
    obtain ⟨hi, rfl⟩ := rangeGet hv
    exact ha _ (by omega)
   ·intro i y v hy hv
    obtain ⟨hi, rfl⟩ := rangeGet hv
    rw [List.getElem?_take, if_pos hi, List.getElem?_drop] at hy
    exact hr _ _ hy
  ·cases hp
 | false =>
  rw [hg] at hp
  simp only [Bool.false_eq_true, if_false] at hp
  have hj : j < cs.length := (List.getElem?_eq_some_iff.1 hp).1
  rw [run_loadVar ht b (o + j) (cs.length - j) (fun i => f (j + i)) (fun i hi => by rw [Nat.add_assoc]; exact hc _ (by omega)) (fun h => by rw [hg] at h; cases h) (fun _ => by omega)]
  rw [hg]
  exact ⟨_, rfl, by simpa using hr j x hp⟩
end
section
variable {P : Program} {t : TypeId} {ti : TI} {Γ : Cx} {A : Nat -> Prop} {ρ : Nat -> Option Nat} {s : St} {a : Act} {w : World}
theorem SRa.row (h : SRa Γ A ρ s a w) {id k b : Nat} {es : List AV} (hl : s.look id = some (.arr k es)) (hb : ρ id = some b) :
  ∃ cs t, w.heap[b]? = some (.cells cs t (0, 0)) /\ Row A ρ (Im Γ ρ s w) w k es cs := by
 have := h.obj id _ (St.look_some.1 hl)
 rw [hb] at this
 exact ORb.row this
theorem cell_of_block {b : Nat} {cs : Array Value} {t : TypeId} (h : w.heap[b]? = some (.cells cs t (0, 0))) (i : Nat) : w.cell? ⟨b, i, none⟩ = cs[i]? := cell_of_row w b i cs t (0, 0) h
theorem Row.elem {I : Nat -> Prop} {k : Nat} {es : List AV} {cs : Array Value} (h : Row A ρ I w k es cs) {i : Nat} {e : AV} (he : es[i]? = some e) :
  (∀ j, j < e.cells.length -> cs[i * k + j]? = some (cs.getD (i * k + j) undef)) /\ (∀ j, j < e.cells.length -> atom (cs.getD (i * k + j) undef) = true) /\
   ∀ (j : Nat) x, e.cells[j]? = some x -> RV A ρ I w x (cs.getD (i * k + j) undef) := by
 have hk : e.cells.length = k := h.wide e (List.mem_of_getElem? he)
 have hfl := flat_length h.wide
 have hi : i < es.length := (List.getElem?_eq_some_iff.1 he).1
 have hbound : ∀ j, j < k -> i * k + j < (flat es).length := by
  intro j hj
  rw [hfl]
  calc i * k + j < i * k + k := by omega
   _ = (i + 1) * k := by rw [Nat.add_mul]; omega
   _ <= es.length * k := Nat.mul_le_mul_right _ hi
 have hget : ∀ j, j < k -> cs[i * k + j]? = some (cs.getD (i * k + j) undef) := by
  intro j hj
  have := hbound j hj
  have hlt : i * k + j < cs.size := Nat.lt_of_lt_of_le this h.len
  simp [Array.getD, hlt]
 refine ⟨fun j hj => hget j (by omega), fun j hj => h.atoms _ _ (hbound j (by omega)) (hget j (by omega)), fun j x hx => ?_⟩
 have hj : j < k := by rw [<- hk]; exact (List.getElem?_eq_some_iff.1 hx).1
 exact h.vals _ x _ (by rw [flat_get h.wide i j e he hj]; exact hx) (hget j hj)
theorem loadA_sound (h : SRa Γ A ρ s a w) (ht : tinfo P t = some ti) {x : AV} {v : Value} (hx : RV A ρ (Im Γ ρ s w) w x v) {y : AV} (hl : loadA ti s.look x = some y) :
  ∃ u, (Instr.loadAt t v).run P w = .ok u w /\ RV A ρ (Im Γ ρ s w) w y u := by
 cases hx with
 | @ptr id k i j b hA hb =>
  simp only [loadA] at hl
  split at hl
  ·rename_i k' es hlook
   split at hl
   ·rename_i hkk
    subst hkk
    cases he : es[i]? with
    | none => simp [he] at hl
    | some e =>
     rw [he] at hl
     simp only [Option.bind_some] at hl
     obtain ⟨cs, t', hblk, hrow⟩ := h.row hlook hb
     obtain ⟨h1, h2, h3⟩ := hrow.elem he
     obtain ⟨u, hu, hru⟩ := part_sound (P := P) (b := b) (o := i * k) ht (fun j => cs.getD (i * k + j) undef) (fun j hj => by rw [cell_of_block hblk]; exact h1 j hj) h2 h3 hl
     exact ⟨u, by simpa [Instr.loadAt, Instr.sureAddr] using hu, hru⟩
   ·cases hl
  ·cases hl
 | @iptr cs j b o f hI hc ha hr =>
  obtain ⟨u, hu, hru⟩ := part_sound (P := P) (b := b) (o := o) ht f hc ha hr hl
  exact ⟨u, by simpa [Instr.loadAt, Instr.sureAddr] using hu, hru⟩
 | _ => simp [loadA] at hl
end
def splice (ti : TI) (e : AV) (j : Nat) (x : AV) : Option AV :=
 if ti.agg then
  match e, x with
  | .agg cs, .agg xs => if xs.length = ti.size /\ j + xs.length <= cs.length then some (.agg (cs.take j ++ xs ++ cs.drop (j + xs.length))) else none
  | _, _ => none
 else if x.one && decide (ti.size = 1) then
  match e with
  | .agg cs => if j < cs.length then some (.agg (cs.set j x)) else none
  | e => if e.one && decide (j = 0) then some x else none
 else none
def storeA (ti : TI) (look : Nat -> Option AObj) (x y : AV) : Option (Nat × AObj) :=
  match x with
  | .ptr id k i j => match look id with
    | some (.arr k' es) => if k = k' then (es[i]?).bind fun e => (splice ti e j y).map fun e' => (id, .arr k (es.set i e')) else none
    | _ => none
  | _ => none
theorem seg_get {α : Type} (l xs : List α) (q p : Nat) (h : q + xs.length <= l.length) :
  (l.take q ++ xs ++ l.drop (q + xs.length))[p]? = if p < q then l[p]? else if p < q + xs.length then xs[p - q]? else l[p]? := by
 have h1 : (l.take q).length = q := by simp; omega
 rw [List.append_assoc, List.getElem?_append, h1]
 split
 ·rename_i hp; rw [List.getElem?_take, if_pos hp]
 ·rename_i hp
  rw [List.getElem?_append]
  by_cases hx : p < q + xs.length
  ·rw [if_pos (by omega), if_pos hx]
  ·rw [if_neg (by omega), if_neg hx, List.getElem?_drop]
   congr 1; omega
theorem flat_set {k : Nat} : ∀ {es : List AV}, (∀ e, e ∈ es -> e.cells.length = k) -> ∀ (i j : Nat) (e e' : AV) (xs : List AV), es[i]? = some e -> j + xs.length <= k -> e'.cells = e.cells.take j ++ xs ++ e.cells.drop (j + xs.length) ->
    flat (es.set i e') = (flat es).take (i * k + j) ++ xs ++ (flat es).drop (i * k + j + xs.length)
  | [], _, _, _, _, _, _, he, _, _ => by simp at he
  | e0 :: es, h, 0, j, e, e', xs, he, hj, hc => by
    simp only [List.getElem?_cons_zero, Option.some.injEq] at he
    subst he
    have h1 := h e0 (by simp)
    simp only [flat, List.set_cons_zero, List.flatMap_cons, Nat.zero_mul, Nat.zero_add, hc]
    rw [List.take_append_of_le_length (by omega), List.drop_append_of_le_length (by omega)]
    simp
  | e0 :: es, h, i + 1, j, e, e', xs, he, hj, hc => by
    have h1 := h e0 (by simp)
    have ih := flat_set (es := es) (fun e he => h e (by simp [he])) i j e e' xs (by simpa using he) hj hc
    simp only [flat] at ih
    have hq : (i + 1) * k + j = e0.cells.length + (i * k + j) := by rw [h1, Nat.add_mul]; omega
    simp only [flat, List.set_cons_succ, List.flatMap_cons, ih, hq]
    rw [Nat.add_assoc e0.cells.length, List.take_length_add_append, List.drop_length_add_append]
    simp
theorem flat_bound {k : Nat} {es : List AV} (h : ∀ e, e ∈ es -> e.cells.length = k) {i : Nat} (hi : i < es.length) {j : Nat} (hj : j <= k) : i * k + j <= (flat es).length := by
 rw [flat_length h]
 calc i * k + j <= i * k + k := by omega
  _ = (i + 1) * k := by rw [Nat.add_mul]; omega
  _ <= es.length * k := Nat.mul_le_mul_right _ hi
section
variable {A : Nat -> Prop} {ρ : Nat -> Option Nat} {I : Nat -> Prop} {w : World}
theorem Row.put {k : Nat} {es : List AV} {cs : Array Value} (h : Row A ρ I w k es cs) {i j : Nat} {e e' : AV} {xs : List AV} {vs : List Value} (he : es[i]? = some e) (hj : j + xs.length <= k)
  (hc : e'.cells = e.cells.take j ++ xs ++ e.cells.drop (j + xs.length)) (hl : vs.length = xs.length) (ha : ∀ v, v ∈ vs -> atom v = true) (hr : ∀ (m : Nat) x v, xs[m]? = some x -> vs[m]? = some v -> RV A ρ I w x v) :
  Row A ρ I w k (es.set i e') (cs.toList.take (i * k + j) ++ vs ++ cs.toList.drop (i * k + j + vs.length)).toArray := by
 have hi : i < es.length := (List.getElem?_eq_some_iff.1 he).1
 have hb := flat_bound h.wide hi hj
 have hf := flat_set h.wide i j e e' xs he hj hc
 have hek := h.wide e (List.mem_of_getElem? he)
 have hle : i * k + j + vs.length <= cs.toList.length := by have := h.len; simp; omega
 have hfl : (flat (es.set i e')).length = (flat es).length := by rw [hf]; simp; omega
 refine ⟨?_, ?_, ?_, ?_⟩
 ·rw [hfl]; have := h.len; simp; simp at hle; omega
 ·intro x hx
  rcases List.mem_or_eq_of_mem_set hx with hx | rfl
  ·exact h.wide x hx
  ·rw [hc]; simp; omega
 ·intro p v hp hv
  rw [hfl] at hp
  simp only [List.getElem?_toArray] at hv
  rw [seg_get _ _ _ _ hle] at hv
  split at hv
  ·exact h.atoms p v hp (by simpa using hv)
  ·split at hv
   ·exact ha v (List.mem_of_getElem? hv)
   ·exact h.atoms p v hp (by simpa using hv)
 ·intro p x v hx hv
  rw [hf, seg_get _ _ _ _ (by omega)] at hx
  simp only [List.getElem?_toArray] at hv
  rw [seg_get _ _ _ _ hle, hl] at hv
  split at hx
  ·rename_i hp; rw [if_pos hp] at hv; exact h.vals p x v hx (by simpa using hv)
  ·rename_i hp
   rw [if_neg hp] at hv
   split at hx
   ·rename_i hp2; rw [if_pos hp2] at hv; exact hr _ x v hx hv
   ·rename_i hp2; rw [if_neg hp2] at hv; exact h.vals p x v hx (by simpa using hv)
end
theorem one_cells {x : AV} (h : x.one = true) : x.cells = [x] := by cases x <;> first | rfl | (simp [AV.one] at h; done)
theorem atom_cells {v : Value} (h : atom v = true) : v.cells = #[v] := by cases v <;> first | rfl | (simp [atom, Value.oneCell'] at h; done)
theorem splice_spec {ti : TI} {e x e' : AV} {j : Nat} (h : splice ti e j x = some e') :
  ∃ xs, x.cells = xs /\ xs.length = ti.size /\ j + xs.length <= e.cells.length /\ e'.cells = e.cells.take j ++ xs ++ e.cells.drop (j + xs.length) /\ ((∃ ys, x = .agg ys) \/ x.one = true) := by
 unfold splice at h
 split at h
 ·split at h
  ·rename_i cs xs
   split at h
   ·rename_i hc
    injection h with h
    subst h
    exact ⟨xs, rfl, hc.1, hc.2, rfl, .inl ⟨xs, rfl⟩⟩
   ·cases h
  ·cases h
 ·split at h
  ·rename_i h1
   simp only [Bool.and_eq_true, decide_eq_true_eq] at h1
   refine ⟨[x], one_cells h1.1, by simp [h1.2], ?_⟩
   split at h
   ·rename_i cs
    split at h
    ·rename_i hj
     injection h with h
     subst h
     refine ⟨by simp [AV.cells]; omega, ?_, .inr h1.1⟩
     simp only [AV.cells]
     rw [List.set_eq_take_append_cons_drop, if_pos hj]
     simp
    ·cases h
   ·rename_i e0 _
    split at h
    ·rename_i hj
     simp only [Bool.and_eq_true, decide_eq_true_eq] at hj
     injection h with h
     subst h
     rw [one_cells hj.1, one_cells h1.1, hj.2]
     exact ⟨by simp, by simp, .inr h1.1⟩
    ·cases h
  ·cases h
section
variable {P : Program} {t : TypeId} {ti : TI} {Γ : Cx} {A : Nat -> Prop} {ρ : Nat -> Option Nat} {s : St} {a : Act} {w : World}
theorem setRow_grow (w : World) (b c : Nat) (cs : Array Value) (h : c ≠ b) : (w.setRow b cs).heap[c]? = w.heap[c]? := setRow_other w b c cs h
theorem storeA_sound (h : SRa Γ A ρ s a w) (ht : tinfo P t = some ti) {x y : AV} {v u : Value} (hx : RV A ρ (Im Γ ρ s w) w x v) (hy : RV A ρ (Im Γ ρ s w) w y u) {id : Nat} {o : AObj} (hl : storeA ti s.look x y = some (id, o)) :
  ∃ w', (Instr.storeAt t v u).run P w = .ok () w' /\ SRa Γ A ρ (s.set id (some o)) a w' := by
 cases hx with
 | @ptr id0 k i j b hA hb =>
  simp only [storeA] at hl
  split at hl
  ·rename_i k' es hlook
   split at hl
   ·rename_i hkk
    subst hkk
    cases he : es[i]? with
    | none => simp [he] at hl
    | some e =>
     rw [he] at hl
     simp only [Option.bind_some, Option.map_eq_some_iff] at hl
     obtain ⟨e', hsp, hid⟩ := hl
     simp only [Prod.mk.injEq] at hid
     obtain ⟨rfl, rfl⟩ := hid
     obtain ⟨cs, t', hblk, hrow⟩ := h.row hlook hb
     obtain ⟨xs, hxs, hxl, hxj, hcells, hform⟩ := splice_spec hsp
     have hek := hrow.wide e (List.mem_of_getElem? he)
     have hi : i < es.length := (List.getElem?_eq_some_iff.1 he).1
     have hb1 := flat_bound hrow.wide hi (j := j + xs.length) (by omega)
     have hu : u.cells.toList.length = xs.length /\ (∀ v, v ∈ u.cells.toList -> atom v = true) /\ ∀ (m : Nat) x v, xs[m]? = some x -> u.cells.toList[m]? = some v -> RV A ρ (Im Γ ρ s w) w x v := by
      rcases hform with ⟨ys, rfl⟩ | h1
      ·cases hy with
       | agg hl ha hr =>
        subst hxs
        refine ⟨by simpa [Value.cells, AV.cells] using hl.symm, ?_, ?_⟩
        ·intro v hv
         obtain ⟨m, hm⟩ := List.getElem?_of_mem hv
         exact ha m v (by simpa [Value.cells] using hm)
        ·intro m x v hx hv
         exact hr m x v hx (by simpa [Value.cells] using hv)
      ·have hat := hy.atom_of h1
       rw [one_cells h1] at hxs
       subst hxs
       rw [atom_cells hat]
       refine ⟨by simp, by simp [hat], ?_⟩
       intro m x v hx hv
       cases m with
       | zero => simp at hx hv; subst hx hv; exact hy
       | succ m => simp at hx
     obtain ⟨hu1, hu2, hu3⟩ := hu
     have hst := run_storeCells_at P b (i * k + j) t' u.cells.toList 0 cs w hblk (by have := hrow.len; simp only [Nat.add_zero]; omega) hu2
     simp only [Nat.add_zero] at hst
     refine ⟨w.setRow b (cs.toList.take (i * k + j) ++ u.cells.toList ++ cs.toList.drop (i * k + j + u.cells.toList.length)).toArray, ?_, ?_⟩
     ·have hsz : u.cells.size = ti.size := by rw [<- hxl, <- hu1]; simp
      simp only [Instr.storeAt, Instr.sureAddr, pure_bind, storeVar, Sem.run_bind, run_sizeOf ht, Result.andThen_ok, hsz, ne_eq, not_true_eq_false, if_false]
      exact hst
     ·refine h.writeRow (w' := w.setRow b _) (St.look_some.1 hlook) hb (by simp [World.setRow]) rfl rfl rfl (fun c hc => setRow_grow w b c _ hc) hblk (setRow_heap w b cs _ t' (0, 0) hblk) ?_ (hrow.put he (by omega) hcells hu1 hu2 hu3)
      have := hrow.len
      have e1 : u.cells.toList.length = u.cells.size := by simp
      simp only [List.size_toArray, List.length_append, List.length_take, List.length_drop, Array.length_toList]
      omega
   ·cases hl
  ·cases hl
 | _ => simp [storeA] at hl
end
end Go.Lg
