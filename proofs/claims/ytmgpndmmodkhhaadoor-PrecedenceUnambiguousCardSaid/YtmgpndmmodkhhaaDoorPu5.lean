/-
  Part 5 of the proof of PrecedenceUnambiguousCard: the logic over the model, the functions' contracts and the plain laws.
-/
import Derived.Test.YtmgpndmmodkhhaaDoorPu4
import Derived.Deep.LoopGhost

set_option linter.unusedSimpArgs false
set_option linter.unusedVariables false
set_option linter.unusedSectionVars false
set_option linter.defProp false

namespace Go.Lg
open Go.RowKit
def St.ext (s : St) : St := { s with objs := s.objs ++ [none] }
def St.after (s : St) (dst : Option Tmp) (r : AV × Eff) : St :=
 (match r.2 with
  | .none => s
  | .set id o => s.set id (some o)
  | .new o => { s with objs := s.objs ++ [some o] }
  | .app (none, xs) k => { s with objs := s.objs ++ [some (AObj.arr k xs)] }
  | .app (some id, xs) k => { s with objs := s.objs.set id none ++ [some (AObj.arr k xs)] }).put dst r.1
section
variable {P : Program} {Γ : Cx} {A : Nat -> Prop} {ρ : Nat -> Option Nat} {s : St} {a : Act} {w : World}
theorem ext_live {id : Nat} {o : AObj} : s.ext.live id o ↔ s.live id o := by
 simp only [St.live, St.ext]
 by_cases h : id < s.objs.length
 ·rw [List.getElem?_append_left h]
 ·rw [List.getElem?_append_right (by omega), List.getElem?_eq_none (by omega : s.objs.length <= id)]
  constructor
  ·intro hx
   cases hk : id - s.objs.length with
   | zero => simp [hk] at hx
   | succ n => simp [hk] at hx
  ·intro hx; cases hx
theorem ext_look : s.ext.look = s.look := by
 funext id
 cases h : s.look id with
 | some o => exact St.look_some.2 (ext_live.2 (St.look_some.1 h))
 | none =>
  cases h' : s.ext.look id with
  | none => rfl
  | some o => rw [St.look_some.2 (ext_live.1 (St.look_some.1 h'))] at h; cases h
theorem ext_op (x : Operand) : s.ext.op x = s.op x := by cases x <;> rfl
theorem ext_Im : Im Γ ρ s.ext w = Im Γ ρ s w := by
 funext b; simp only [Im, ext_live]
theorem SRa.extend (h : SRa Γ A ρ s a w) : SRa Γ A ρ s.ext a w := by
 have hI : ∀ b, Im Γ ρ s w b -> Im Γ ρ s.ext w b /\ w.heap[b]? = w.heap[b]? := fun b hb => ⟨by rw [ext_Im]; exact hb, rfl⟩
 exact h.turn rfl (fun _ hA => ⟨hA, rfl⟩) hI (fun _ _ hn => hn) (fun id o hl => (h.obj id o (ext_live.1 hl)).mono (fun _ hA => ⟨hA, rfl⟩) hI (fun _ _ hn => hn) (fun _ _ => rfl)) (fun id o hl => h.made id o (ext_live.1 hl))
  (fun id hA => by have := h.bound id hA; simp [St.ext]; omega) (fun id o b hl hb => h.own id o b (ext_live.1 hl) hb) (fun i j o o' b h1 h2 => h.inj i j o o' b (ext_live.1 h1) (ext_live.1 h2)) h.fr
theorem SRa.conv {A' : Nat -> Prop} (h : SRa Γ A ρ s a w) (hA : ∀ id, A id ↔ A' id) : SRa Γ A' ρ s a w := by
 have : A = A' := funext fun id => propext (hA id)
 rw [<- this]; exact h
theorem step_sound (h : SR Γ s a w) {o : Oper} {r : AV × Eff} (hr : aop P s.look s.objs.length s.op o.op = some r) :
  ∃ nx v w', (execOp a.eval o).run P w = .ok nx w' /\ (nx = .value v \/ (nx = .skip /\ v = undef)) /\ SR Γ (s.after o.dst r) (a.put o.dst v) w' := by
 obtain ⟨ρ, h⟩ := h
 have hn : s.objs.length < s.ext.objs.length := by simp [St.ext]
 have hA : ¬ (fun id => id < s.objs.length) s.objs.length := by simp
 have hop : s.ext.op = s.op := funext ext_op
 obtain ⟨nx, v, w', ρ', hrun, hnx, hs, hv⟩ := aop_sound (P := P) h.extend hn hA (o := o) (r := r) (by rw [ext_look, hop]; exact hr)
 refine ⟨nx, v, w', hrun, hnx, ρ', ?_⟩
 obtain ⟨x, e⟩ := r
 cases e with
 | none =>
  simp only [Eff.made, St.eff] at hs hv
  have hI : ∀ b, Im Γ ρ' s.ext w' b -> Im Γ ρ' s w' b /\ w'.heap[b]? = w'.heap[b]? := fun b hb => ⟨by rw [ext_Im] at hb; exact hb, rfl⟩
  have h0 : SRa Γ (fun id => id < s.objs.length) ρ' s a w' := hs.turn (s' := s) rfl (fun _ hA => ⟨hA, rfl⟩) hI (fun _ _ hn => hn) (fun id o hl => (hs.obj id o (ext_live.2 hl)).mono (fun _ hA => ⟨hA, rfl⟩) hI (fun _ _ hn => hn) (fun _ _ => rfl)) (fun id o hl => hs.made id o (ext_live.2 hl))
   (fun id hA => hA) (fun id o b hl hb => hs.own id o b (ext_live.2 hl) hb) (fun i j o o' b h1 h2 => hs.inj i j o o' b (ext_live.2 h1) (ext_live.2 h2)) hs.fr
  have hv' : RV (fun id => id < s.objs.length) ρ' (Im Γ ρ' s w') w' x v := by rw [<- ext_Im]; exact hv
  simpa [St.after] using h0.put o.dst hv'
 | set id ob =>
  simp only [Eff.made, St.eff] at hs hv
  have hlt : ∀ i o', (s.set id (some ob)).live i o' -> (s.ext.set id (some ob)).live i o' := by
   intro i o' hl
   rcases St.live_set hl with ⟨rfl, rfl⟩ | ⟨hi, hl'⟩
   ·have : i < s.objs.length := by
     have := live_len hl; simpa using this
    have hx : s.ext.objs.length = s.objs.length + 1 := by simp [St.ext]
    simp only [St.live, St.set_objs]
    rw [List.getElem?_set_self (by omega)]
   ·have := ext_live.2 hl'
    simp only [St.live, St.set_objs, List.getElem?_set_ne (fun e => hi e.symm)]
    exact this
  have hgt : ∀ i o', (s.ext.set id (some ob)).live i o' -> i < s.objs.length -> (s.set id (some ob)).live i o' := by
   intro i o' hl hi
   rcases St.live_set hl with ⟨rfl, rfl⟩ | ⟨hi', hl'⟩
   ·simp [St.live, hi]
   ·have := ext_live.1 hl'
    simp only [St.live, St.set_objs, List.getElem?_set_ne (fun e => hi' e.symm)]
    exact this
  have hI : ∀ b, Im Γ ρ' (s.ext.set id (some ob)) w' b -> Im Γ ρ' (s.set id (some ob)) w' b /\ w'.heap[b]? = w'.heap[b]? := fun b hb => ⟨⟨hb.1, hb.2.1, fun i o' hl => hb.2.2 i o' (hlt i o' hl)⟩, rfl⟩
  have h0 : SRa Γ (fun id => id < s.objs.length) ρ' (s.set id (some ob)) a w' := hs.turn (s' := s.set id (some ob)) rfl (fun _ hA => ⟨hA, rfl⟩) hI (fun _ _ hn => hn) (fun i o hl => (hs.obj i o (hlt i o hl)).mono (fun _ hA => ⟨hA, rfl⟩) hI (fun _ _ hn => hn) (fun _ _ => rfl))
   (fun i o hl => hs.made i o (hlt i o hl)) (fun i hA => by simpa using hA) (fun i o b hl hb => hs.own i o b (hlt i o hl) hb) (fun i j o o' b h1 h2 => hs.inj i j o o' b (hlt i o h1) (hlt j o' h2)) hs.fr
  have := h0.put o.dst (hv.mono (fun _ hA => ⟨hA, rfl⟩) hI (fun _ _ hn => hn))
  simpa [St.after] using this
 | new ob =>
  have he : s.ext.eff s.objs.length (.new ob) = { s with objs := s.objs ++ [some ob] } := by
   simp only [St.eff, St.set, St.ext]; congr 1; rw [List.set_append_right _ _ (Nat.le_refl _)]; simp
  have hm : ∀ id, Eff.made (fun id => id < s.objs.length) s.objs.length (.new ob) id ↔ id < ({ s with objs := s.objs ++ [some ob] } : St).objs.length := fun id => by simp [Eff.made]; omega
  have := (hs.put o.dst hv).conv hm
  rw [he] at this
  simpa [St.after] using this
 | app r k =>
  obtain ⟨q, xs⟩ := r
  have he : s.ext.eff s.objs.length (.app (q, xs) k) = { s with objs := (match q with | none => s.objs | some id => s.objs.set id none) ++ [some (.arr k xs)] } := by
   cases q with
   | none => simp only [St.eff, St.appended, St.set, St.ext]; congr 1; rw [List.set_append_right _ _ (Nat.le_refl _)]; simp
   | some id =>
    simp only [St.eff, St.appended, St.grow, St.set, St.ext]
    congr 1
    by_cases hid : id < s.objs.length
    ·rw [List.set_append_left _ _ hid, List.set_append_right _ _ (by simp)]; simp
    ·have : s.objs.set id none = s.objs := List.set_eq_of_length_le (by omega)
     rw [this, List.set_append_right _ _ (by omega), List.set_append_right _ _ (Nat.le_refl _)]
     cases hz : id - s.objs.length <;> simp
  have hm : ∀ id, Eff.made (fun id => id < s.objs.length) s.objs.length (.app (q, xs) k) id ↔ id < ({ s with objs := (match q with | none => s.objs | some id => s.objs.set id none) ++ [some (.arr k xs)] } : St).objs.length := fun id => by
   cases q <;> simp [Eff.made] <;> omega
  have := (hs.put o.dst hv).conv hm
  rw [he] at this
  cases q <;> simpa [St.after] using this
end
def enterable (P : Program) (f : FuncId) : Bool :=
 match P.funcs[f]? with
 | some fn => fn.body.isSome && !(fn.name == "runtime.NumGoroutine")
 | none => false
def Spec (P : Program) (f : FuncId) (args : List AV) (objs : List (Option AObj)) (post : AV -> List (Option AObj) -> Prop) : Prop :=
 enterable P f = true /\ ∀ (Γ : Cx) (vs : Array Value), Γ.m = objs.length /\ Γ.mrk = false -> SR Γ ⟨args, objs⟩ ⟨vs, []⟩ Γ.w0 ->
  Calls P f vs Γ.w0 fun e w' => ∃ r objs' v, e = .returned v /\ post r objs' /\ SR Γ ⟨[r], objs'⟩ ⟨#[v], []⟩ w'
theorem Spec.mono {P : Program} {f : FuncId} {args : List AV} {objs : List (Option AObj)} {post post' : AV -> List (Option AObj) -> Prop} (h : Spec P f args objs post) (hp : ∀ r o, post r o -> post' r o) : Spec P f args objs post' :=
 ⟨h.1, fun Γ vs hm hs => (h.2 Γ vs hm hs).mono fun _ _ ⟨r, o, v, he, hq, hr⟩ => ⟨r, o, v, he, hp r o hq, hr⟩⟩
def Call (P : Program) (fv : AV) (args : List AV) (s : St) (K : AV -> St -> Prop) : Prop :=
 ∀ (Γ : Cx) (a : Act) (w : World) (f : Value) (vs : List Value), SR Γ s a w -> (∀ ρ, SRa Γ (fun id => id < s.objs.length) ρ s a w -> RV (fun id => id < s.objs.length) ρ (Im Γ ρ s w) w fv f /\ vs.length = args.length /\
   ∀ (i : Nat) x v, args[i]? = some x -> vs[i]? = some v -> RV (fun id => id < s.objs.length) ρ (Im Γ ρ s w) w x v) ->
  ∃ g us, (∀ w : World, (do let d <- Deferred.ofValue f vs.toArray; invoke d.target d.args : Sem Next).run P w = .ok (.enter g us) w) /\
   Calls P g us w fun e w' => ∃ r s' v, e = .returned v /\ K r s' /\ SR Γ (s'.put none r) a w' /\ (∀ dst, SR Γ (s'.put dst r) (a.put dst v) w')
def execA (P : Program) (s : St) (o : Oper) (K : St -> Prop) : Prop :=
  match o.op with
  | .call c => match c.callee with
    | .value f => Call P (s.op f) (c.args.toList.map s.op) s fun r s' => K (s'.put o.dst r)
    | _ => ∃ r, aop P s.look s.objs.length s.op (.call c) = some r /\ K (s.after o.dst r)
  | op => ∃ r, aop P s.look s.objs.length s.op op = some r /\ K (s.after o.dst r)
def yieldedA (ops : Array Oper) (s : St) (j : Nat) : Option Bool :=
 match ((ops[j]?).bind (·.dst)).map fun t => s.tmps.getD t .any with
 | some (.val (.bool b)) => some b
 | _ => none
def asem (P : Program) (ops : Array Oper) : List Oper -> St -> (St -> Prop) -> Prop
  | [], s, K => K s
  | o :: rest, s, K => match o.guard with
    | none => execA P s o fun s' => asem P ops rest s' K
    | some (j, want) => ∃ b, yieldedA ops s j = some b /\ (b = want -> execA P (s.put ((ops[j]?).bind (·.dst)) (.val (.bool want))) o fun s' => asem P ops rest s' K) /\
      (b = !want -> asem P ops rest ((s.put ((ops[j]?).bind (·.dst)) (.val (.bool !want))).put o.dst .any) K)
def WP (P : Program) (Γ : Cx) (c : Code) (Q : Exit -> St -> Prop) (s : St) : Prop :=
 ∀ a w, SR Γ s a w -> c.wp P (fun e a' w' => ∃ s', Q e s' /\ SR Γ s' a' w') a w
def thenA (next : St -> Prop) (Q : Exit -> St -> Prop) : Exit -> St -> Prop
 | .normal, s => next s
 | e, s => Q e s
def inBlockA (id : Nat) (Q : Exit -> St -> Prop) : Exit -> St -> Prop
 | .exit id', s => if id' = id then Q .normal s else Q (.exit id') s
 | e, s => Q e s
section
variable {P : Program} {Γ : Cx} {s : St} {a : Act} {w : World} {Q : Exit -> St -> Prop}
theorem WP.mono {c : Code} {Q' : Exit -> St -> Prop} (h : WP P Γ c Q s) (hq : ∀ e s, Q e s -> Q' e s) : WP P Γ c Q' s :=
 fun a w hs => wp_mono (h a w hs) fun e _ _ ⟨s', h1, h2⟩ => ⟨s', hq e s' h1, h2⟩
theorem WP.skip (h : Q .normal s) : WP P Γ .skip Q s := fun _ _ hs => wp_skip ⟨s, h, hs⟩
theorem WP.ret (h : Q .ret s) : WP P Γ .ret Q s := fun _ _ hs => wp_ret ⟨s, h, hs⟩
theorem WP.exit {id : Nat} (h : Q (.exit id) s) : WP P Γ (.exit id) Q s := fun _ _ hs => wp_exit ⟨s, h, hs⟩
theorem WP.seq {x y : Code} (h : WP P Γ x (thenA (WP P Γ y Q) Q) s) : WP P Γ (.seq x y) Q s := fun a w hs => by
 refine wp_seq (wp_mono (h a w hs) ?_)
 rintro e a' w' ⟨s', h1, h2⟩
 cases e with
 | normal => exact h1 a' w' h2
 | _ => exact ⟨s', h1, h2⟩
theorem WP.block {id : Nat} {c : Code} (h : WP P Γ c (inBlockA id Q) s) : WP P Γ (.block id c) Q s := fun a w hs => by
 refine wp_block (wp_mono (h a w hs) ?_)
 rintro e a' w' ⟨s', h1, h2⟩
 cases e with
 | exit id' =>
  simp only [Exit.inBlock, inBlockA] at h1 ⊢
  split
  ·rename_i he; rw [if_pos he] at h1; exact ⟨s', h1, h2⟩
  ·rename_i he; rw [if_neg he] at h1; exact ⟨s', h1, h2⟩
 | _ => exact ⟨s', h1, h2⟩
theorem SR.eval_bool (h : SR Γ s a w) {c : Operand} {b : Bool} (hc : s.op c = .val (.bool b)) : a.eval c = .bool b := by
 obtain ⟨ρ, h⟩ := h
 have := h.eval c
 rw [hc] at this
 exact this.val_eq
theorem WP.cond {c : Operand} {x y : Code} {b : Bool} (hc : s.op c = .val (.bool b)) (ht : b = true -> WP P Γ x Q s) (hf : b = false -> WP P Γ y Q s) : WP P Γ (.cond c x y) Q s := fun a w hs =>
 wp_cond_split (hs.eval_bool hc) (fun hb => ht hb a w hs) (fun hb => hf hb a w hs)
theorem WP.loop {c : Code} (J : Nat -> St -> Prop) (n₀ : Nat) (h₀ : J n₀ s) (round : ∀ n s, J n s -> WP P Γ c (thenA (fun s' => ∃ n', n' < n /\ J n' s') Q) s) : WP P Γ (.loop c) Q s := fun a w hs => by
 refine wp_loop_ghost (fun n a w => ∃ s, J n s /\ SR Γ s a w) n₀ ⟨s, h₀, hs⟩ ?_
 rintro n a w ⟨s, hj, hs⟩
 refine wp_mono (round n s hj a w hs) ?_
 rintro e a' w' ⟨s', h1, h2⟩
 cases e with
 | normal => obtain ⟨n', hlt, hj'⟩ := h1; exact ⟨n', hlt, s', hj', h2⟩
 | _ => exact ⟨s', h1, h2⟩
theorem yielded_ok (h : SR Γ s a w) {ops : Array Oper} {j : Nat} {b : Bool} (hy : yieldedA ops s j = some b) : yielded ops a.tmps j = some b := by
 obtain ⟨ρ, h⟩ := h
 unfold yieldedA at hy
 unfold yielded
 cases hd : (ops[j]?).bind (·.dst) with
 | none => simp [hd] at hy
 | some t =>
  simp only [hd, Option.map_some] at hy
  simp only [Option.bind_some]
  split at hy
  ·rename_i b' hb
   injection hb with hb
   injection hy with hy
   subst hy
   have ht : t < s.tmps.length := by
    rcases Nat.lt_or_ge t s.tmps.length with h1 | h1
    ·exact h1
    ·simp [List.getD, List.getElem?_eq_none h1] at hb
   have h1 : s.tmps[t]? = some (.val (.bool b')) := by
    rw [List.getElem?_eq_getElem ht]; simp [List.getD, ht] at hb; rw [hb]
   have h2 : a.tmps[t]? = some (a.tmps[t]'(by rw [h.len]; exact ht)) := Array.getElem?_eq_getElem (by rw [h.len]; exact ht)
   have := (h.tmp t _ _ h1 h2).val_eq
   rw [h2, this]
  ·cases hy
theorem put_yielded {ops : Array Oper} {j : Nat} {b : Bool} (hy : yieldedA ops s j = some b) : s.put ((ops[j]?).bind (·.dst)) (.val (.bool b)) = s := by
 unfold yieldedA at hy
 cases hd : (ops[j]?).bind (·.dst) with
 | none => simp [hd] at hy
 | some t =>
  simp only [hd, Option.map_some] at hy
  split at hy
  ·rename_i b' hb
   injection hb with hb
   injection hy with hy
   subst hy
   have ht : t < s.tmps.length := by
    rcases Nat.lt_or_ge t s.tmps.length with h1 | h1
    ·exact h1
    ·simp [List.getD, List.getElem?_eq_none h1] at hb
   have h1 : s.tmps[t] = .val (.bool b') := by simp [List.getD, ht] at hb; exact hb
   simp only [St.put]
   rw [<- h1, List.set_getElem_self]
  ·cases hy
theorem SR.skipped (h : SR Γ s a w) (d : Option Tmp) : SR Γ (s.put d .any) (a.put d undef) w := h.put_any d undef
theorem exec_sound (h : SR Γ s a w) {o : Oper} {K : St -> Prop} (hk : execA P s o K) {next : Act -> World -> Prop} {QQ : Exit -> Act -> World -> Prop} (hn : ∀ s' a' w', K s' -> SR Γ s' a' w' -> next a' w') : o.wp P a w next QQ := by
 have plain : ∀ r, aop P s.look s.objs.length s.op o.op = some r -> K (s.after o.dst r) -> o.wp P a w next QQ := by
  intro r hr hK
  obtain ⟨nx, v, w', hrun, hnx, hs⟩ := step_sound (P := P) h hr
  unfold Oper.wp
  rw [hrun]
  rcases hnx with rfl | ⟨rfl, rfl⟩
  ·exact hn _ _ _ hK hs
  ·exact hn _ _ _ hK hs
 unfold execA at hk
 split at hk
 ·rename_i c hop
  split at hk
  ·rename_i f hf
   obtain ⟨ρ, hρ⟩ := h
   obtain ⟨g, us, hrun, hcall⟩ := hk Γ a w (a.eval f) (c.args.toList.map a.eval) ⟨ρ, hρ⟩ (fun ρ' h' => ⟨h'.eval f, by simp, fun i x v hx hv => by
    simp only [List.getElem?_map, Option.map_eq_some_iff] at hx hv
    obtain ⟨p, hp, rfl⟩ := hx
    obtain ⟨q, hq, rfl⟩ := hv
    rw [hp] at hq; injection hq with hq; subst hq
    exact h'.eval p⟩)
   unfold Oper.wp
   have hex : (execOp a.eval o).run P w = .ok (.enter g us) w := by
    have e1 : (c.args.map a.eval) = (c.args.toList.map a.eval).toArray := by apply Array.ext'; simp
    rw [<- hrun w]
    simp only [execOp, hop, resolve, hf, e1]
   rw [hex]
   simp only [Oper.upon]
   refine hcall.mono ?_
   rintro e w' ⟨r, s', v, rfl, hK, _, hs⟩
   exact hn _ _ _ hK (hs o.dst)
  ·obtain ⟨r, hr, hK⟩ := hk
   exact plain r (by rw [hop]; exact hr) hK
 ·obtain ⟨r, hr, hK⟩ := hk
  exact plain r hr hK
theorem asem_sound {ops : Array Oper} {K : St -> Prop} {QQ : Exit -> Act -> World -> Prop} (hK : ∀ s a w, K s -> SR Γ s a w -> QQ .normal a w) : ∀ (l : List Oper) (s : St) (a : Act) (w : World), SR Γ s a w -> asem P ops l s K -> wpList P ops QQ l a w
  | [], s, a, w, h, hk => hK s a w hk h
  | o :: rest, s, a, w, h, hk => by
    simp only [asem] at hk
    refine wpList_step fun KK hKK => ?_
    split at hk
    · rename_i hg
      rw [if_pos (by simp [Region.wanted, hg])]
      exact exec_sound h hk fun s' a' w' hk' hs' => hKK _ _ (asem_sound hK rest s' a' w' hs' hk')
    · rename_i j want hg
      obtain ⟨b, hy, h1, h2⟩ := hk
      have hy' := yielded_ok h hy
      by_cases hb : b = want
      · rw [if_pos (by simp [Region.wanted, hg, hy', hb])]
        have h1 := h1 hb
        rw [<- hb, put_yielded hy] at h1
        exact exec_sound h h1 fun s' a' w' hk' hs' => hKK _ _ (asem_sound hK rest s' a' w' hs' hk')
      · rw [if_neg (by simp [Region.wanted, hg, hy', hb])]
        have hb' : b = !want := by cases b <;> cases want <;> simp_all
        have h2 := h2 hb'
        rw [<- hb', put_yielded hy] at h2
        exact hKK _ _ (asem_sound hK rest _ _ w (h.skipped o.dst) h2)
theorem WP.region {id : Nat} {l : List Oper} (h : asem P l.toArray l s (Q .normal)) : WP P Γ (.region id l.toArray false) Q s := fun a w hs =>
 wp_region_lit (asem_sound (K := Q .normal) (QQ := fun e a' w' => ∃ s', Q e s' /\ SR Γ s' a' w') (fun s _ _ hk hs => ⟨s, hk, hs⟩) l s a w hs h)
end
def bodyQ (R : St -> Prop) : Exit -> St -> Prop
 | .normal, s | .ret, s => R s
 | _, _ => False
section
variable {P : Program} {Γ : Cx} {s : St} {next : St -> Prop} {Q : Exit -> St -> Prop} {R : St -> Prop}
theorem go_n (h : next s) : thenA next Q .normal s := h
theorem go_x {id : Nat} (h : Q (.exit id) s) : thenA next Q (.exit id) s := h
theorem go_r (h : Q .ret s) : thenA next Q .ret s := h
theorem bl_n {id : Nat} (h : Q .normal s) : inBlockA id Q .normal s := h
theorem bl_r {id : Nat} (h : Q .ret s) : inBlockA id Q .ret s := h
theorem bl_x {id : Nat} (h : Q .normal s) : inBlockA id Q (.exit id) s := by simp [inBlockA, h]
theorem bl_y {id id' : Nat} (hne : (id' == id) = false) (h : Q (.exit id') s) : inBlockA id Q (.exit id') s := by
 have : id' ≠ id := by simpa using hne
 simp [inBlockA, this, h]
theorem bo_n (h : R s) : bodyQ R .normal s := h
theorem bo_r (h : R s) : bodyQ R .ret s := h
end
section
variable {P : Program} {Γ : Cx} {s : St} {a : Act} {w : World}
theorem SR.result (h : SR Γ s a w) (hd : Γ.ds = []) {r : AV} {v : Value} (hr : ∀ ρ, SRa Γ (fun id => id < s.objs.length) ρ s a w -> RV (fun id => id < s.objs.length) ρ (Im Γ ρ s w) w r v) : SR Γ ⟨[r], s.objs⟩ ⟨#[v], []⟩ w := by
 obtain ⟨ρ, h⟩ := h
 refine ⟨ρ, h.ext, rfl, ?_, h.obj, h.made, h.bound, h.own, h.inj, .nil hd.symm, h.fr⟩
 intro i x u hx hu
 cases i with
 | zero => simp at hx hu; subst hx hu; exact hr ρ h
 | succ n => simp at hx
theorem Spec.intro {f : FuncId} {fn : Func} {c : Code} {args : List AV} {objs : List (Option AObj)} {post : AV -> List (Option AObj) -> Prop} (he : enterable P f = true) (hf : P.funcs[f]? = some fn) (hb : fn.body = some c)
    {r : St -> Option AV} (hr : ∀ (Γ : Cx) s a w, SR Γ s a w -> Γ.ds = [] -> ∀ x, r s = some x -> ∃ v, (results fn a.tmps).run P w = .ok v w /\ SR Γ ⟨[x], s.objs⟩ ⟨#[v], []⟩ w)
    (h : ∀ Γ : Cx, Γ.m = objs.length -> WP P Γ c (bodyQ fun s => ∃ x, r s = some x /\ post x s.objs) ⟨args ++ List.replicate (fn.ntmps - args.length) .any, objs⟩) : Spec P f args objs post := by
  refine ⟨he, fun Γ vs hm hs => calls_of_wp hf hb ?_⟩
  obtain ⟨ρ, hs⟩ := hs
  have hlen : vs.size = args.length := hs.len
  have h0 : SR Γ ⟨args ++ List.replicate (fn.ntmps - args.length) .any, objs⟩ ⟨vs ++ Array.replicate (fn.ntmps - vs.size) undef, []⟩ Γ.w0 := by
    refine ⟨ρ, hs.ext, by simp [hlen], ?_, hs.obj, hs.made, hs.bound, hs.own, hs.inj, hs.defers, hs.fr⟩
    intro i x v hx hv
    simp only at hx hv
    by_cases hi : i < args.length
    · rw [List.getElem?_append_left hi] at hx
      rw [Array.getElem?_append_left (by omega)] at hv
      exact hs.tmp i x v hx hv
    · rw [List.getElem?_append_right (by omega)] at hx
      have hm := List.mem_of_getElem? hx
      rw [(List.mem_replicate.1 hm).2]
      exact .any
  refine wp_mono (h Γ hm.1 _ _ h0) ?_
  rintro e a' w' ⟨s', hq, hs'⟩
  have fin : (∃ x, r s' = some x /\ post x s'.objs) -> a'.defers = [] /\ ∃ v, (results fn a'.tmps).run P w' = .ok v w' /\ ∃ r objs' v', Ending.returned v = .returned v' /\ post r objs' /\ SR Γ ⟨[r], objs'⟩ ⟨#[v'], []⟩ w' := by
    rintro ⟨x, hx, hp⟩
    obtain ⟨v, hv, hsv⟩ := hr Γ s' a' w' hs' (hs.defers.eq hm.2).symm x hx
    obtain ⟨ρ', hs''⟩ := hs'
    exact ⟨(hs''.defers.eq hm.2).trans (hs.defers.eq hm.2).symm, v, hv, x, s'.objs, v, rfl, hp, hsv⟩
  cases e with
  | normal => exact fin hq
  | ret => exact fin hq
  | _ => exact hq.elim
theorem SR.getD (_ : SR Γ s a w) (t : Tmp) : ∀ ρ, SRa Γ (fun id => id < s.objs.length) ρ s a w -> RV (fun id => id < s.objs.length) ρ (Im Γ ρ s w) w (s.tmps.getD t .any) (a.tmps.getD t undef) := fun _ h => h.eval (.tmp t)
end
mutual
def AV.bd (n : Nat) : AV -> Bool
 | .any => true
 | .val _ => true
 | .agg cs => bdL n cs
 | .tup cs => bdL n cs
 | .sl _ es => bdL n es
 | .ref id _ _ _ => decide (id < n)
 | .ptr id _ _ _ => decide (id < n)
 | .iptr cs _ => bdL n cs
 | .clo _ xs ys => bdL n xs && bdL n ys
 | .map id => decide (id < n)
 | .yld id => decide (id < n)
 | .cond _ x => x.bd n
def bdL (n : Nat) : List AV -> Bool
 | [] => true
 | x :: xs => x.bd n && bdL n xs
end
theorem bdL_iff {n : Nat} : ∀ {l : List AV}, bdL n l = true ↔ ∀ x, x ∈ l -> x.bd n = true
 | [] => by simp [bdL]
 | x :: xs => by simp [bdL, bdL_iff (l := xs)]
theorem bdL_append {n : Nat} (xs ys : List AV) : bdL n (xs ++ ys) = (bdL n xs && bdL n ys) := by
 rw [Bool.eq_iff_iff]; simp only [bdL_iff, Bool.and_eq_true, List.mem_append]
 exact ⟨fun h => ⟨fun x hx => h x (.inl hx), fun x hx => h x (.inr hx)⟩, fun h x hx => hx.elim (h.1 x) (h.2 x)⟩
theorem bdL_map {α : Type} {n : Nat} {f : α -> AV} (hf : ∀ x, (f x).bd n = true) (l : List α) : bdL n (l.map f) = true := by
 rw [bdL_iff]; intro x hx
 obtain ⟨y, _, rfl⟩ := List.mem_map.1 hx
 exact hf y
theorem cells_bd {n : Nat} {e : AV} (h : e.bd n = true) : ∀ x, x ∈ e.cells -> x.bd n = true := by
 cases e with
 | agg cs => simpa [AV.bd, bdL_iff, AV.cells] using h
 | _ => intro x hx; simp only [AV.cells, List.mem_singleton] at hx; subst hx; exact h
theorem flat_bd {n : Nat} {es : List AV} (h : bdL n es = true) : ∀ x, x ∈ flat es -> x.bd n = true := by
 intro x hx
 simp only [flat, List.mem_flatMap] at hx
 obtain ⟨e, he, hx⟩ := hx
 exact cells_bd (bdL_iff.1 h e he) x hx
section
variable {A : Nat -> Prop} {ρ : Nat -> Option Nat} {I : Nat -> Prop} {w : World}
theorem RV.bd {n : Nat} {x : AV} {v : Value} (h : RV A ρ I w x v) (hb : x.bd n = true) : RV (fun id => id < n) ρ I w x v := by
 induction h with
 | any => exact .any
 | val h => exact .val h
 | agg hl ha _ ih => exact .agg hl ha fun i x v hx hv => ih i x v hx hv (bdL_iff.1 hb x (List.mem_of_getElem? hx))
 | tup hl _ ih => exact .tup hl fun i x v hx hv => ih i x v hx hv (bdL_iff.1 hb x (List.mem_of_getElem? hx))
 | nils => exact .nils
 | sl f hn hI hk hc ha _ ih => exact .sl f hn hI hk hc ha fun j x hx => ih j x hx (flat_bd (by simpa [AV.bd] using hb) x (List.mem_of_getElem? hx))
 | ref _ h1 h2 h3 h4 => exact .ref (by simpa [AV.bd] using hb) h1 h2 h3 h4
 | refn _ h1 => exact .refn (by simpa [AV.bd] using hb) h1
 | ptr _ h1 => exact .ptr (by simpa [AV.bd] using hb) h1
 | iptr f hI hc ha _ ih => exact .iptr f hI hc ha fun i x hx => ih i x hx (bdL_iff.1 (by simpa [AV.bd] using hb) x (List.mem_of_getElem? hx))
 | clo h1 h2 _ _ ih3 ih4 =>
  simp only [AV.bd, Bool.and_eq_true] at hb
  exact .clo h1 h2 (fun i x v hx hv => ih3 i x v hx hv (bdL_iff.1 hb.1 x (List.mem_of_getElem? hx))) (fun i x v hx hv => ih4 i x v hx hv (bdL_iff.1 hb.2 x (List.mem_of_getElem? hx)))
 | map _ h1 => exact .map (by simpa [AV.bd] using hb) h1
 | yld _ h1 => exact .yld (by simpa [AV.bd] using hb) h1
 | cond _ h2 ih => exact .cond (fun he => ih he (by simpa only [AV.bd] using hb)) h2
theorem RV.pure {x : AV} {v : Value} (h : RV A ρ I w x v) (hb : x.bd 0 = true) {A' : Nat -> Prop} {ρ' : Nat -> Option Nat} {I' : Nat -> Prop} {w' : World} (hI : ∀ b, I b -> I' b /\ w'.heap[b]? = w.heap[b]?) (hs : ∀ b n, csize w b = some n -> csize w' b = some n) : RV A' ρ' I' w' x v :=
 (h.bd hb).mono (fun id hid => absurd hid (Nat.not_lt_zero id)) hI hs
end
section
variable {P : Program} {Γ : Cx} {A : Nat -> Prop} {ρ : Nat -> Option Nat} {s : St} {a : Act} {w : World}
theorem live_block (h : SRa Γ A ρ s a w) {id : Nat} {o : AObj} {b : Nat} (hl : s.live id o) (hb : ρ id = some b) : b < w.heap.size := by
 have := h.obj id o hl
 rw [hb] at this
 cases o with
 | arr k es => obtain ⟨cs, t, h1, _⟩ := this; exact World.lt_of_block h1
 | map m => obtain ⟨cs, t, h1, _⟩ := this; exact World.lt_of_block h1
 | bytes l => obtain ⟨cs, h1, _⟩ := this; exact World.lt_of_block h1
 | bld T x => obtain ⟨p, v, h1, _⟩ := this; exact World.lt_of_block h1
 | lop c ts => obtain ⟨tm, df, h1, _⟩ := this; exact World.lt_of_block h1
 | itr i n l => obtain ⟨b', sn, h1, _⟩ := this; exact World.lt_of_block h1
theorem run_enter {g : FuncId} (he : enterable P g = true) (fs cs : Array Value) (vs : List Value) (w : World) :
  (do let d <- Deferred.ofValue (.func (.func g) fs cs) vs.toArray; invoke d.target d.args : Sem Next).run P w = .ok (.enter g (fs ++ vs.toArray ++ cs)) w := by
 unfold enterable at he
 cases hg : P.funcs[g]? with
 | none => simp [hg] at he
 | some fn =>
  simp only [hg, Bool.and_eq_true, Bool.not_eq_true'] at he
  have h2 : fn.body.isNone = false := by cases hb : fn.body <;> simp_all
  simp only [Deferred.ofValue, pure_bind, invoke, callFunc, Sem.run_bind, run_program, Result.andThen_ok, hg]
  simp [he.2, h2]
theorem SRa.same (h : SRa Γ A ρ s a w) {w' : World} (hsz : w.heap.size <= w'.heap.size) (hos : w'.os = w.os) (htp : w'.tape = w.tape) (hout : w'.output = w.output) (hb : ∀ b, b < w.heap.size -> w'.heap[b]? = w.heap[b]?) : SRa Γ A ρ s a w' := by
 have hs : ∀ b n, csize w b = some n -> csize w' b = some n := fun b n hn => by have := csize_lt hn; unfold csize at *; rw [hb b this]; exact hn
 have hI : ∀ b, Im Γ ρ s w b -> Im Γ ρ s w' b /\ w'.heap[b]? = w.heap[b]? := fun b ⟨h1, h2, h3⟩ => ⟨⟨h1, by omega, h3⟩, hb b h2⟩
 refine h.turn rfl (fun _ hA => ⟨hA, rfl⟩) hI hs (fun id o hl => (h.obj id o hl).mono (fun _ hA => ⟨hA, rfl⟩) hI hs (fun c hc => hb c ?_)) h.made h.bound h.own h.inj (h.fr.turn hsz hos htp hout (fun b hlt => .inl (hb b hlt)) hs)
 have := h.obj id o hl
 rw [hc] at this
 cases o with
 | arr k es => obtain ⟨cs, t, h1, _⟩ := this; exact World.lt_of_block h1
 | map m => obtain ⟨cs, t, h1, _⟩ := this; exact World.lt_of_block h1
 | bytes l => obtain ⟨cs, h1, _⟩ := this; exact World.lt_of_block h1
 | bld T x => obtain ⟨p, v, h1, _⟩ := this; exact World.lt_of_block h1
 | lop c ts => obtain ⟨tm, df, h1, _⟩ := this; exact World.lt_of_block h1
 | itr i n l => obtain ⟨b', sn, h1, _⟩ := this; exact World.lt_of_block h1
theorem call_core {g : FuncId} {first cap args : List AV} {post : AV -> Prop} (hspec : Spec P g (first ++ args ++ cap) [] fun r _ => post r /\ r.bd 0 = true) (hp : bdL 0 (first ++ args ++ cap) = true)
  (h : SRa Γ A ρ s a w) {f : Value} {vs : List Value} (hf : RV A ρ (Im Γ ρ s w) w (.clo (.func g) first cap) f) (hl : vs.length = args.length) (hv : ∀ (i : Nat) x v, args[i]? = some x -> vs[i]? = some v -> RV A ρ (Im Γ ρ s w) w x v) :
  ∃ us, (∀ w : World, (do let d <- Deferred.ofValue f vs.toArray; invoke d.target d.args : Sem Next).run P w = .ok (.enter g us) w) /\
   Calls P g us w fun e w' => ∃ r v, e = .returned v /\ post r /\ SRa Γ A ρ s a w' /\ RV A ρ (Im Γ ρ s w') w' r v := by
 cases hf with
 | @clo _ _ _ fs cs h1 h2 h3 h4 =>
  refine ⟨fs ++ vs.toArray ++ cs, run_enter hspec.1 fs cs vs, ?_⟩
  have hI0 : ∀ b, Im Γ ρ s w b -> Im ⟨w, Im Γ ρ s w, 0, fun _ => none, h.fr.next.1, h.fr.next.2, fun i hi => absurd hi (Nat.not_lt_zero i), [], fun i hi => absurd hi (Nat.not_lt_zero i), false⟩ (fun _ => none) ⟨first ++ args ++ cap, []⟩ w b /\ w.heap[b]? = w.heap[b]? := fun b hb => ⟨⟨.inl hb, hb.2.1, fun id o hl => by simp [St.live] at hl⟩, rfl⟩
  have h0 : SR ⟨w, Im Γ ρ s w, 0, fun _ => none, h.fr.next.1, h.fr.next.2, fun i hi => absurd hi (Nat.not_lt_zero i), [], fun i hi => absurd hi (Nat.not_lt_zero i), false⟩ ⟨first ++ args ++ cap, []⟩ ⟨fs ++ vs.toArray ++ cs, []⟩ w := by
   refine ⟨fun _ => none, fun i hi => absurd hi (Nat.not_lt_zero i), by simp; omega, ?_, fun id o hl => by simp [St.live] at hl, fun id o hl => by simp [St.live] at hl, fun id hid => hid, fun id o b hl => by simp [St.live] at hl, fun i j o o' b hl => by simp [St.live] at hl, .nil rfl, ⟨Nat.le_refl _, rfl, rfl, rfl, fun _ _ _ => rfl, fun _ _ hn => hn⟩⟩
   intro i x v hx hu
   have hb : x.bd 0 = true := bdL_iff.1 hp x (List.mem_of_getElem? hx)
   have key : RV A ρ (Im Γ ρ s w) w x v := by
    simp only at hx hu
    rw [List.append_assoc] at hx
    rw [Array.append_assoc] at hu
    by_cases hi : i < first.length
    ·rw [List.getElem?_append_left hi] at hx
     rw [Array.getElem?_append_left (by omega)] at hu
     exact h3 i x v hx hu
    ·rw [List.getElem?_append_right (by omega)] at hx
     rw [Array.getElem?_append_right (by omega)] at hu
     by_cases hi2 : i - first.length < args.length
     ·rw [List.getElem?_append_left hi2] at hx
      rw [Array.getElem?_append_left (by simp; omega)] at hu
      exact hv _ x v hx (by rw [<- h1] at hu; simpa using hu)
     ·rw [List.getElem?_append_right (by omega)] at hx
      rw [Array.getElem?_append_right (by simp; omega)] at hu
      refine h4 (i - first.length - args.length) x v hx ?_
      rw [<- hu]; congr 1; simp; omega
   exact key.pure hb hI0 (fun _ _ hn => hn)
  refine (hspec.2 ⟨w, Im Γ ρ s w, 0, fun _ => none, h.fr.next.1, h.fr.next.2, fun i hi => absurd hi (Nat.not_lt_zero i), [], fun i hi => absurd hi (Nat.not_lt_zero i), false⟩ _ ⟨rfl, rfl⟩ h0).mono ?_
  rintro e w' ⟨r, objs', v, rfl, ⟨hpost, hrb⟩, ρ', hs'⟩
  have hfr := hs'.fr
  have hblk : ∀ b, b < w.heap.size -> w'.heap[b]? = w.heap[b]? := fun b hb => hfr.block b hb (fun i hi => absurd hi (Nat.not_lt_zero i))
  have hw' := h.same hfr.size hfr.os hfr.tape hfr.output hblk
  have hrv := hs'.tmp 0 r v rfl rfl
  have hrv' : RV A ρ (Im Γ ρ s w') w' r v := hrv.pure hrb (fun b ⟨hb1, hb2, _⟩ => ⟨by
   rcases hb1 with hb1 | hb1
   ·exact ⟨hb1.1, hb2, hb1.2.2⟩
   ·refine ⟨.inr (Nat.le_trans h.fr.size hb1), hb2, fun id o hl hρ => ?_⟩
    have := live_block h hl hρ
    simp only at hb1
    omega, rfl⟩) (fun _ _ hn => hn)
  exact ⟨r, v, rfl, hpost, hw', hrv'⟩
theorem Call.pure {g : FuncId} {first cap args : List AV} {K : AV -> St -> Prop} {post : AV -> Prop} (hspec : Spec P g (first ++ args ++ cap) [] fun r _ => post r /\ r.bd 0 = true) (hp : bdL 0 (first ++ args ++ cap) = true) (hK : ∀ r, post r -> K r s) :
  Call P (.clo (.func g) first cap) args s K := by
 intro Γ a w f vs hs hfv
 obtain ⟨ρ, h⟩ := hs
 obtain ⟨hf, hl, hv⟩ := hfv ρ h
 obtain ⟨us, hrun, hcall⟩ := call_core hspec hp h hf hl hv
 refine ⟨g, us, hrun, hcall.mono ?_⟩
 rintro e w' ⟨r, v, rfl, hpost, hw', hrv⟩
 exact ⟨r, s, v, rfl, hK r hpost, ⟨ρ, hw'⟩, fun dst => ⟨ρ, by simpa using hw'.put dst hrv⟩⟩
structure Wk (s s' : St) : Prop where
 len : s'.tmps.length = s.tmps.length
 tmps : ∀ (i : Nat) x y, s.tmps[i]? = some x -> s'.tmps[i]? = some y -> y = .any \/ y = x
 objs : s'.objs.length <= s.objs.length
 obj : ∀ (i : Nat) o, s'.objs[i]? = some (some o) -> s.objs[i]? = some (some o)
 bdt : bdL s'.objs.length s'.tmps = true
 bdo : ∀ (i : Nat) o, s'.objs[i]? = some (some o) -> match o with
  | .arr _ es => bdL s'.objs.length es = true
  | .map m => ∀ p, p ∈ m -> p.2.bd s'.objs.length = true
  | .bytes _ => True
  | .bld _ x => x.bd s'.objs.length = true
  | .lop _ ts => bdL s'.objs.length ts = true
  | .itr i _ _ => decide (i < s'.objs.length) = true
def wkT : List AV -> List AV -> Prop
 | [], [] => True
 | x :: xs, y :: ys => (y = .any \/ y = x) /\ wkT xs ys
 | _, _ => False
def wkO : List (Option AObj) -> List (Option AObj) -> Prop
 | _, [] => True
 | x :: xs, y :: ys => (y = none \/ y = x) /\ wkO xs ys
 | _, _ => False
def bdO (n : Nat) : List (Option AObj) -> Bool
 | [] => true
 | none :: r => bdO n r
 | some (.arr _ es) :: r => bdL n es && bdO n r
 | some (.map m) :: r => (m.all fun p => p.2.bd n) && bdO n r
 | some (.bytes _) :: r => true && bdO n r
 | some (.bld _ x) :: r => x.bd n && bdO n r
 | some (.lop _ ts) :: r => bdL n ts && bdO n r
 | some (.itr i _ _) :: r => decide (i < n) && bdO n r
theorem wkT_len : ∀ {xs ys : List AV}, wkT xs ys -> ys.length = xs.length
 | [], [], _ => rfl
 | _ :: _, _ :: _, h => by simp [wkT_len h.2]
 | [], _ :: _, h => h.elim
 | _ :: _, [], h => h.elim
theorem wkT_get : ∀ {xs ys : List AV}, wkT xs ys -> ∀ (i : Nat) x y, xs[i]? = some x -> ys[i]? = some y -> y = .any \/ y = x
 | _ :: _, _ :: _, h, 0, x, y, hx, hy => by simp at hx hy; subst hx hy; exact h.1
 | _ :: _, _ :: _, h, i + 1, x, y, hx, hy => wkT_get h.2 i x y (by simpa using hx) (by simpa using hy)
 | [], _, _, _, _, _, hx, _ => by simp at hx
 | _ :: _, [], h, _, _, _, _, _ => h.elim
theorem wkO_len : ∀ {xs ys : List (Option AObj)}, wkO xs ys -> ys.length <= xs.length
 | _, [], _ => by simp
 | _ :: _, _ :: _, h => by simpa using wkO_len h.2
 | [], _ :: _, h => h.elim
theorem wkO_get : ∀ {xs ys : List (Option AObj)}, wkO xs ys -> ∀ (i : Nat) o, ys[i]? = some (some o) -> xs[i]? = some (some o)
  | _ :: _, _ :: _, h, 0, o, hy => by
    simp at hy; subst hy
    rcases h.1 with h1 | h1
    · cases h1
    · simp [h1]
  | _ :: _, _ :: _, h, i + 1, o, hy => by simpa using wkO_get h.2 i o (by simpa using hy)
  | _, [], _, _, _, hy => by simp at hy
  | [], _ :: _, h, _, _, _ => h.elim
theorem bdO_get {n : Nat} : ∀ {l : List (Option AObj)}, bdO n l = true -> ∀ (i : Nat) o, l[i]? = some (some o) -> match o with
    | .arr _ es => bdL n es = true
    | .map m => ∀ p, p ∈ m -> p.2.bd n = true
    | .bytes _ => True
    | .bld _ x => x.bd n = true
    | .lop _ ts => bdL n ts = true
    | .itr i _ _ => decide (i < n) = true
  | x :: r, h, 0, o, hy => by
    simp at hy; subst hy
    cases o with
    | arr k es => simp only [bdO, Bool.and_eq_true] at h; exact h.1
    | map m => simp only [bdO, Bool.and_eq_true, List.all_eq_true] at h; exact h.1
    | bytes l => trivial
    | bld T x => simp only [bdO, Bool.and_eq_true] at h; exact h.1
    | lop c ts => simp only [bdO, Bool.and_eq_true] at h; exact h.1
    | itr i m l => simp only [bdO, Bool.and_eq_true] at h; exact h.1
  | x :: r, h, i + 1, o, hy => by
    refine bdO_get (l := r) ?_ i o (by simpa using hy)
    cases x with
    | none => exact h
    | some x => cases x <;> (simp only [bdO, Bool.and_eq_true] at h; exact h.2)
  | [], _, _, _, hy => by simp at hy
theorem Wk.of {s s' : St} (h1 : wkT s.tmps s'.tmps) (h2 : wkO s.objs s'.objs) (h3 : bdL s'.objs.length s'.tmps = true) (h4 : bdO s'.objs.length s'.objs = true) : Wk s s' :=
 ⟨wkT_len h1, wkT_get h1, wkO_len h2, wkO_get h2, h3, bdO_get h4⟩
def To (m : Nat) (s t : St) : Prop := wkT s.tmps t.tmps /\ wkO s.objs t.objs /\ bdL t.objs.length t.tmps = true /\ bdO t.objs.length t.objs = true /\ m <= t.objs.length
theorem WP.len {c : Code} {Q : Exit -> St -> Prop} (i : Nat) {k : Nat} {es : List AV} (hi : s.tmps[i]? = some (.sl k es)) (h : es.length <= 9223372036854775807 -> WP P Γ c Q s) : WP P Γ c Q s := fun a w hs => by
 refine h ?_ a w hs
 obtain ⟨ρ, hs⟩ := hs
 have hlt : i < s.tmps.length := (List.getElem?_eq_some_iff.1 hi).1
 have hv : a.tmps[i]? = some (a.tmps[i]'(by rw [hs.len]; exact hlt)) := Array.getElem?_eq_getElem (by rw [hs.len]; exact hlt)
 have := hs.tmp i _ _ hi hv
 generalize a.tmps[i]'(by rw [hs.len]; exact hlt) = v at this
 cases this with
 | nils => simp
 | sl f hn => simp only [maxLen] at hn; omega
end
end Go.Lg
