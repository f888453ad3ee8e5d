/-
  Part 23 of the proof of TreeLiftStratifiedCard: the logic over the model, the functions' contracts and the plain laws.
-/
import Derived.Test.YtfaoljcgigkonabDoorTs22
import Derived.Recover
set_option linter.unusedSimpArgs false
set_option linter.unusedVariables false
set_option linter.unusedSectionVars false
set_option linter.defProp false
set_option maxRecDepth 20000
set_option maxHeartbeats 8000000
namespace Go.Lg
open Go.RowKit
def DefD (P : Program) (g : FuncId) (ys : List AV) (os : List AObj) (u : FrameMode) (os' : List AObj) : Prop :=
 enterable P g = true /\ os.length = os'.length /\ ∀ (Γ : Cx) (vs : Array Value), Γ.m = os.length /\ Γ.mrk = false -> Γ.ds = [] -> SR Γ ⟨ys, os.map some⟩ ⟨vs, []⟩ Γ.w0 ->
  CallsD P g vs u Γ.w0 fun e u' w' => (∃ v, e = .returned v) /\ settle u' = .returning /\ SR Γ ⟨[.tup []], os'.map some⟩ ⟨#[.tuple #[]], []⟩ w'
section
variable {P : Program} {Γ : Cx} {A : Nat -> Prop} {ρ : Nat -> Option Nat} {s : St} {a : Act} {w : World} {n M : Nat} {l : List (Nat × AV)} {os : List (Nat × Option AObj)} {c : Code} {Q : Exit -> St -> Prop} {g : FuncId} {ys : List AV}
theorem SRa.boxes (h : SRa Γ A ρ s a w) (hm0 : Γ.m = 0) (hds : Γ.ds = []) (m : Nat) (hl : ∀ i, i < m -> ∃ o, s.live i o) (d : Deferred) :
  ∃ Γ' : Cx, Γ'.m = m /\ Γ'.ds = [d] /\ Γ'.mrk = false /\ Γ'.ρ0 = ρ /\ SRa Γ' A ρ s { a with defers := [d] } w /\ ∀ s a w, SR Γ' s a w -> SR Γ s { a with defers := [] } w := by
 have hnew : ∀ i, i < m -> ∀ b, ρ i = some b -> Γ.w0.heap.size <= b := fun i hi b hb => by
  obtain ⟨o, ho⟩ := hl i hi
  rcases h.own i o b ho hb with h1 | ⟨j, hj, _⟩
  ·exact h1
  ·omega
 refine ⟨⟨Γ.w0, Γ.I0, m, ρ, Γ.hG, Γ.hgl, fun i hi b hb => Nat.le_trans Γ.hgl (hnew i hi b hb), [d], fun i hi b hb => .inr (hnew i hi b hb), false⟩, rfl, rfl, rfl, rfl, ?_, ?_⟩
 ·refine ⟨fun i hi => ⟨(hl i hi).elim fun o ho => h.made i o ho, rfl⟩, h.len, h.tmp, h.obj, h.made, h.bound, fun id o b ho hb => ?_, h.inj, .nil rfl, ⟨h.fr.size, h.fr.os, h.fr.tape, h.fr.output, fun b hb _ => h.fr.block b hb fun i hi => by omega, h.fr.csize⟩⟩
  rcases h.own id o b ho hb with h1 | ⟨j, hj, _⟩
  ·exact .inl h1
  ·omega
 ·rintro s a w ⟨ρ', h'⟩
  refine ⟨ρ', fun i hi => by omega, h'.len, h'.tmp, h'.obj, h'.made, h'.bound, fun id o b ho hb => ?_, h'.inj, .nil hds.symm, ⟨h'.fr.size, h'.fr.os, h'.fr.tape, h'.fr.output, fun b hb _ => h'.fr.block b hb fun i hi e => ?_, h'.fr.csize⟩⟩
  ·rcases h'.own id o b ho hb with h1 | ⟨j, hj, h1⟩
   ·exact .inl h1
   ·exact .inl (hnew j hj b h1)
  ·have := hnew i hi b e
   omega
def modeOf : Exit -> Option FrameMode
 | .normal | .ret => some .returning
 | .panic ch => some (.panicking ch)
 | _ => none
def bodyD (P : Program) (rs : List ResultVar) (gc : FuncId) (capA : List AV) (X : AV) (e : Exit) (s : St) : Prop :=
 ∃ u, modeOf e = some u /\ ∃ (is : List Nat) (ys' : List AV) (mid fin : List AObj), Lend is s ([] ++ [] ++ capA) ys' mid /\ DefD P gc ys' mid u fin /\ Ret P rs X ⟨s.tmps, updO (apx s.objs.length is) s.objs is (fin.map some)⟩
theorem FnD.intro {fn : Func} {c0 c2 : Code} {id : Nat} {d : Tmp} {gc : FuncId} {caps : Array Operand} {t1 t2 : TypeId} {p1 p2 : String} {af1 af2 : Array Edge} {rs : List ResultVar} {X : AV} {l1 : List (Nat × AV)} {M1 : Nat} {os1 : List (Nat × Option AObj)} {capA : List AV}
  (hX : X.bd 0 = true) (he : enterable P g = true) (hf : P.funcs[g]? = some fn) (hb : fn.body = some (.seq c0 (.seq (.region id [⟨some d, .makeFunc (.func gc) #[] caps, t1, p1, af1, none⟩, ⟨none, .defer ⟨.value (.tmp d), #[], #[]⟩, t2, p2, af2, none⟩].toArray false) c2)))
  (hrs : fn.results = rs.toArray) (hn : fn.ntmps = n) (hl : ys.length <= n) (hdn : d < n) (hcap : opqL n l1 caps.toList = some capA) (hptr : ∀ x, x ∈ capA -> ∃ i k, x = .ptr i k 0 0 /\ i < M1) (hlive : ∀ i, i < M1 -> (lookq M1 os1 i).isSome = true)
  (h0 : ∀ Γ : Cx, Γ.m = 0 -> WP P Γ c0 (fun e s => e = .normal /\ s = S n l1 M1 os1) (S n (enumA 0 ys) 0 (enumO 0 [])))
  (h2 : ∀ Γ : Cx, Γ.m = M1 -> WP P Γ c2 (bodyD P rs gc capA X) (S n ((d, .clo (.func gc) [] capA) :: l1) M1 os1)) : Fn P g ys X := by
 refine ⟨⟨he, fun Γ vs hm hs => calls_of_wp_defers hf hb ?_⟩, hX⟩
 simp only [List.length_nil] at hm
 obtain ⟨ρ, hs⟩ := hs
 have hds : Γ.ds = [] := (hs.defers.eq hm.2).symm
 have hlen : vs.size = ys.length := hs.len
 have hst : SR Γ ⟨ys ++ List.replicate (fn.ntmps - ys.length) .any, ([] : List AObj).map some⟩ ⟨vs ++ Array.replicate (fn.ntmps - vs.size) undef, []⟩ Γ.w0 := by
  refine ⟨ρ, hs.ext, by simp [hlen], ?_, hs.obj, hs.made, hs.bound, hs.own, hs.inj, hs.defers, hs.fr⟩
  intro i x v hx hv
  simp only at hx hv
  by_cases hi : i < ys.length
  ·rw [List.getElem?_append_left hi] at hx
   rw [Array.getElem?_append_left (by omega)] at hv
   exact hs.tmp i x v hx hv
  ·rw [List.getElem?_append_right (by omega)] at hx
   have hm := List.mem_of_getElem? hx
   rw [(List.mem_replicate.1 hm).2]
   exact .any
 subst hn
 rw [tl_start _ _ hl] at hst
 have hw0 := h0 Γ hm.1
 have hst2 : SR Γ (S fn.ntmps (enumA 0 ys) 0 (enumO 0 ([] : List AObj))) ⟨vs ++ Array.replicate (fn.ntmps - vs.size) undef, []⟩ Γ.w0 := hst
 refine wp_seq (wp_mono (hw0 _ _ hst2) ?_)
 rintro e a1 w1 ⟨s1, ⟨rfl, rfl⟩, hs1⟩
 refine wp_seq ?_
 refine wp_region_lit (wpList_plain rfl fun K hK => ?_)
 obtain ⟨ρ1, hρ1⟩ := hs1
 have hcv : ∀ (i : Nat) x v, capA[i]? = some x -> (caps.toList.map a1.eval)[i]? = some v -> RV (fun id => id < (S fn.ntmps l1 M1 os1).objs.length) ρ1 (Im Γ ρ1 (S fn.ntmps l1 M1 os1) w1) w1 x v := by
  intro i x v hx hv
  have hq := opqL_op (M := M1) (os := os1) hcap
  rw [<- hq] at hx
  simp only [List.getElem?_map, Option.map_eq_some_iff] at hx hv
  obtain ⟨p, hp, rfl⟩ := hx
  obtain ⟨q, hq', rfl⟩ := hv
  rw [hp] at hq'; injection hq' with hq'; subst hq'
  exact hρ1.eval p
 have hcl : capA.length = (caps.map a1.eval).size := by
  have hq := opqL_op (M := M1) (os := os1) hcap
  rw [<- hq]; simp
 have hrvc : RV (fun id => id < (S fn.ntmps l1 M1 os1).objs.length) ρ1 (Im Γ ρ1 (S fn.ntmps l1 M1 os1) w1) w1 (.clo (.func gc) [] capA) (.func (.func gc) #[] (caps.map a1.eval)) :=
  .clo rfl hcl (fun i x v hx => by simp at hx) (fun i x v hx hv => hcv i x v hx (by simpa using hv))
 unfold Oper.wp
 have hex : (execOp a1.eval ⟨some d, .makeFunc (.func gc) #[] caps, t1, p1, af1, none⟩).run P w1 = .ok (.value (.func (.func gc) #[] (caps.map a1.eval))) w1 := by
  simp [execOp, Instr.makeFunc]
 rw [hex]
 simp only [Oper.upon]
 refine hK _ _ ?_
 refine wpList_plain rfl fun K2 hK2 => ?_
 have hput := hρ1.put (some d) hrvc
 rw [S_put] at hput
 have hdval : (a1.put (some d) (.func (.func gc) #[] (caps.map a1.eval))).eval (.tmp d) = .func (.func gc) #[] (caps.map a1.eval) := by
  have hsz : a1.tmps.size = fn.ntmps := by rw [hρ1.len]; simp [S, tl_length]
  simp [Act.eval, Act.put, hsz, hdn]
 unfold Oper.wp
 generalize ha1 : a1.put (some d) (.func (.func gc) #[] (caps.map a1.eval)) = a1' at *
 have hex2 : (execOp a1'.eval ⟨none, .defer ⟨.value (.tmp d), #[], #[]⟩, t2, p2, af2, none⟩).run P w1 = .ok (.defer ⟨.fn (.func gc) (caps.map a1.eval), #[]⟩) w1 := by
  simp [execOp, resolve, hdval, Deferred.ofValue]
 rw [hex2]
 simp only [Oper.upon]
 refine hK2 _ _ ?_
 refine wpList_nil ?_
 have hda : a1'.defers = [] := (hput.defers.eq hm.2).trans hds
 have hlv : ∀ i, i < M1 -> ∃ o, (S fn.ntmps ((d, .clo (.func gc) [] capA) :: l1) M1 os1).live i o := fun i hi => by
  obtain ⟨o, ho⟩ := Option.isSome_iff_exists.1 (hlive i hi)
  exact ⟨o, St.look_some.1 (by rw [S_look]; exact ho)⟩
 have hMl : ∀ l : List (Nat × AV), (S fn.ntmps l M1 os1).objs.length = M1 := fun l => ol_length M1 os1
 obtain ⟨Γ', hm', hds', hk', hρ0', hsr', hdown⟩ := SRa.boxes (A := fun id => id < M1) (by simpa [hMl] using hput) hm.1 hds M1 hlv ⟨.fn (.func gc) (caps.map a1.eval), #[]⟩
 have hact : ({ a1' with defers := (⟨.fn (.func gc) (caps.map a1.eval), #[]⟩ : Deferred) :: a1'.defers } : Act).put none undef = { a1' with defers := [⟨.fn (.func gc) (caps.map a1.eval), #[]⟩] } := by rw [hda]; rfl
 rw [hact]
 refine wp_mono (h2 Γ' hm' _ _ ⟨ρ1, by simpa [hMl] using hsr'⟩) ?_
 rintro e a' w' ⟨s', ⟨u, hu, is, ys', mid, fin, hL, hD, x0, hres, hz⟩, ρ', hs'⟩
 have hda' : a'.defers = [⟨.fn (.func gc) (caps.map a1.eval), #[]⟩] := (hs'.defers.eq hk').trans hds'
 have hrun : u ≠ .run := by cases e <;> simp [modeOf] at hu <;> subst hu <;> simp
 have hcv' : ∀ (i : Nat) x v, capA[i]? = some x -> (caps.map a1.eval)[i]? = some v -> RV (fun id => id < s'.objs.length) ρ' (Im Γ' ρ' s' w') w' x v := by
  intro i x v hx hv
  obtain ⟨j, k, rfl, hj⟩ := hptr x (List.mem_of_getElem? hx)
  have h1 := hcv i _ v hx (by simpa using hv)
  obtain ⟨hjA, hjρ⟩ := hs'.ext j (by omega)
  cases h1 with
  | ptr hA hb => exact .ptr hjA (by rw [hjρ, hρ0']; exact hb)
 have hrvc' : RV (fun id => id < s'.objs.length) ρ' (Im Γ' ρ' s' w') w' (.clo (.func gc) [] capA) (.func (.func gc) #[] (caps.map a1.eval)) :=
  .clo rfl hcl (fun i x v hx => by simp at hx) hcv'
 obtain ⟨us, hrn, Γ'', hm'', hw'', hds'', hk'', hsr'', hback⟩ := hs'.view is (args := []) (vs := []) hD.1 hrvc' rfl (fun i x v hx => by simp at hx) hL
 have hleaves : Leaves P fn a'.tmps (fun e w' => ∃ r objs' v, e = .returned v /\ (r = X /\ r.bd 0 = true) /\ SR Γ ⟨[r], objs'⟩ ⟨#[v], []⟩ w') a'.defers u w' := by
  rw [hda']
  refine leaves_cons (f := gc) (args := us) hrun (by have := hrn w'; simpa [Deferred.ofValue] using this) ?_
  have hlenL : is.length = mid.length := by have := wkRO_len hL.2.1; simpa using this.symm
  have hDs := hD.2.2 Γ'' us ⟨hm'', hk''⟩ hds'' (by rw [hw'']; exact hsr'')
  rw [hw''] at hDs
  refine hDs.mono ?_
  rintro e2 u2 w2 ⟨⟨v2, rfl⟩, hset, hsr2⟩
  simp only
  rw [hset]
  have hb2 := hback _ _ _ _ (by rw [List.length_map]; exact Nat.le_of_eq hD.2.1) hsr2
  have hfin := hdown _ _ _ hb2
  obtain ⟨ρ3, h3⟩ := hfin
  obtain ⟨v, hv, _⟩ := resN_sound h3 (by rw [hrs]) hres
  refine ⟨v, hv, X, [], v, rfl, ⟨rfl, hX⟩, SR.out ⟨ρ3, h3⟩ hds hm.1 hz fun ρ4 h4 => ?_⟩
  obtain ⟨v4, hv4, hr4⟩ := resN_sound h4 (by rw [hrs]) hres
  rw [hv] at hv4
  injection hv4 with e1
  subst e1
  exact hr4
 cases e with
 | normal => simp only [modeOf, Option.some.injEq] at hu; subst hu; exact hleaves
 | ret => simp only [modeOf, Option.some.injEq] at hu; subst hu; exact hleaves
 | panic ch => simp only [modeOf, Option.some.injEq] at hu; subst hu; exact hleaves
 | _ => simp [modeOf] at hu
theorem bd_end {rs : List ResultVar} {gc : FuncId} {capA ys' : List AV} {X : AV} {e : Exit} {u : FrameMode} (is : List Nat) {mid fin : List AObj} (hu : modeOf e = some u) (hL : Lend is (S n l M os) ([] ++ [] ++ capA) ys' mid) (hD : DefD P gc ys' mid u fin) (hr : Ret P rs X (S n l M (updN (apx M is) M is (fin.map some) os))) : bodyD P rs gc capA X e (S n l M os) := by
 refine ⟨u, hu, is, ys', mid, fin, hL, hD, ?_⟩
 have hM : (S n l M os).objs.length = M := ol_length M os
 have hil : is.length = mid.length := by have := wkRO_len hL.2.1; simpa using this.symm
 have h1 := hD.2.1
 have e1 : (⟨(S n l M os).tmps, updO (apx (S n l M os).objs.length is) (S n l M os).objs is (fin.map some)⟩ : St) = S n l M (updN (apx M is) M is (fin.map some) os) := by
  rw [hM]
  simp only [S]
  rw [updN_ol is (fin.map some) os (by simp; omega)]
  simp [hil, h1]
 rw [e1]
 exact hr
def upd0 : List Nat -> List (Nat × List AV) -> List (Nat × Option AObj) -> List (Nat × Option AObj)
 | i :: is, (k, vs) :: fs, os => upd0 is fs ((i, some (.arr k vs)) :: os)
 | _, _, os => os
theorem updN_pure {π : Nat -> Nat} : ∀ (is : List Nat) (fs : List (Nat × List AV)) (os : List (Nat × Option AObj)), is.length = fs.length -> (fs.all fun p => bdL 0 p.2) = true -> updN π M is (fs.map fun p => some (.arr p.1 p.2)) os = upd0 is fs os
  | [], [], os, _, _ => by simp [updN, newO, upd0]
  | i :: is, (k, vs) :: fs, os, h, hb => by
    simp only [List.all_cons, Bool.and_eq_true] at hb
    simp only [List.map_cons, updN, Option.map_some, AObj.ren, renL_pure hb.1, upd0]
    exact updN_pure is fs _ (by simpa using h) hb.2
  | [], _ :: _, _, h, _ => by simp at h
  | _ :: _, [], _, h, _ => by simp at h
theorem bd_endp {rs : List ResultVar} {gc : FuncId} {capA ys' : List AV} {X : AV} {e : Exit} {u : FrameMode} (is : List Nat) {mid : List AObj} (fs : List (Nat × List AV)) (hu : modeOf e = some u) (hL : Lend is (S n l M os) ([] ++ [] ++ capA) ys' mid) (hD : DefD P gc ys' mid u (fs.map fun p => .arr p.1 p.2)) (hb : (fs.all fun p => bdL 0 p.2) = true)
  (hr : Ret P rs X (S n l M (upd0 is fs os))) : bodyD P rs gc capA X e (S n l M os) := by
 refine bd_end is hu hL hD ?_
 have hil : is.length = mid.length := by have := wkRO_len hL.2.1; simpa using this.symm
 have h1 := hD.2.1
 rw [List.length_map] at h1
 rw [List.map_map]
 have := updN_pure (M := M) (π := apx M is) is fs os (by omega) hb
 rw [show (some ∘ fun p : Nat × List AV => AObj.arr p.1 p.2) = fun p => some (.arr p.1 p.2) from rfl, this]
 exact hr
theorem DefD.intro {fn : Func} {c2 : Code} {id : Nat} {d x : Tmp} {t1 t2 : TypeId} {p1 p2 : String} {af1 af2 : Array Edge} {aos fin : List AObj} {u u2 : FrameMode} {rv : Value} (he : enterable P g = true) (hlen : aos.length = fin.length) (hf : P.funcs[g]? = some fn)
  (hb : fn.body = some (.seq (.region id [⟨some d, .call ⟨.builtin .recover, #[], #[]⟩, t1, p1, af1, none⟩, ⟨some x, .assign (.tmp d), t2, p2, af2, none⟩].toArray false) c2)) (hrs : fn.results = #[]) (hn : fn.ntmps = n) (hl : ys.length <= n) (hdn : d < n) (hat : atom rv = true)
  (hrec : ∀ (c₀ : Frame) (cs : List Frame), c₀.mode = u -> (recoverD (c₀ :: cs) = some (rv, { c₀ with mode := u2 } :: cs)) \/ (recoverD (c₀ :: cs) = none /\ rv = .nilIface /\ u2 = u)) (hset : settle u2 = .returning)
  (h2 : ∀ Γ : Cx, Γ.m = aos.length -> WP P Γ c2 (bodyQ (RetO P [] aos.length (.tup []) (fin.map some))) (S n ((x, .val rv) :: (d, .val rv) :: enumA 0 ys) aos.length (enumO 0 aos))) : DefD P g ys aos u fin := by
 refine ⟨he, hlen, fun Γ vs hm hds hs => callsD_of_wpS hf hb fun c₀ cs hc => ?_⟩
 obtain ⟨ρ, hs⟩ := hs
 have hlen' : vs.size = ys.length := hs.len
 have hst : SR Γ ⟨ys ++ List.replicate (fn.ntmps - ys.length) .any, aos.map some⟩ ⟨vs ++ Array.replicate (fn.ntmps - vs.size) undef, []⟩ Γ.w0 := by
  refine ⟨ρ, hs.ext, by simp [hlen'], ?_, hs.obj, hs.made, hs.bound, hs.own, hs.inj, hs.defers, hs.fr⟩
  intro i x v hx hv
  simp only at hx hv
  by_cases hi : i < ys.length
  ·rw [List.getElem?_append_left hi] at hx
   rw [Array.getElem?_append_left (by omega)] at hv
   exact hs.tmp i x v hx hv
  ·rw [List.getElem?_append_right (by omega)] at hx
   have hm := List.mem_of_getElem? hx
   rw [(List.mem_replicate.1 hm).2]
   exact .any
 subst hn
 rw [tl_start _ _ hl, ol_enum] at hst
 generalize hact : (⟨vs ++ Array.replicate (fn.ntmps - vs.size) undef, []⟩ : Act) = a0 at *
 have hst2 : SR Γ (S fn.ntmps (enumA 0 ys) aos.length (enumO 0 aos)) a0 Γ.w0 := hst
 obtain ⟨ρ', h0⟩ := hst2
 have h1 := h0.put (some d) (x := .val rv) (v := rv) (.val hat)
 rw [S_put] at h1
 have hev : (a0.put (some d) rv).eval (.tmp d) = rv := by
  have hsz : a0.tmps.size = fn.ntmps := by rw [h0.len]; simp [S, tl_length]
  simp [Act.eval, Act.put, hsz, hdn]
 generalize ha1 : a0.put (some d) rv = a1 at *
 have h3 : SRa Γ (fun id => id < (S fn.ntmps (enumA 0 ys) aos.length (enumO 0 aos)).objs.length) ρ' (S fn.ntmps ((x, .val rv) :: (d, .val rv) :: enumA 0 ys) aos.length (enumO 0 aos)) (a1.put (some x) rv) Γ.w0 := by
  have := SRa.put (s := S fn.ntmps ((d, .val rv) :: enumA 0 ys) aos.length (enumO 0 aos)) (by simpa [S, ol_length] using h1) (some x) (x := .val rv) (v := rv) (.val hat)
  rw [S_put] at this
  simpa [S, ol_length] using this
 have key : ∀ cs', cs' = { c₀ with mode := u2 } :: cs -> c2.wpS P (bodyPostS P fn c₀ cs fun e u' w' => (∃ v, e = .returned v) /\ settle u' = .returning /\ SR Γ ⟨[.tup []], fin.map some⟩ ⟨#[.tuple #[]], []⟩ w') (a1.put (some x) rv) cs' Γ.w0 := by
  rintro cs' rfl
  refine wpS_of_wp (wp_mono (h2 Γ hm.1 _ _ ⟨ρ', by simpa [S, ol_length] using h3⟩) ?_)
  rintro e a' w' ⟨s', hq, ρ2, hs'⟩
  have fin2 : RetO P [] aos.length (.tup []) (fin.map some) s' -> bodyPostS P fn c₀ cs (fun e u' w' => (∃ v, e = .returned v) /\ settle u' = .returning /\ SR Γ ⟨[.tup []], fin.map some⟩ ⟨#[.tuple #[]], []⟩ w') .ret a' ({ c₀ with mode := u2 } :: cs) w' := by
   rintro ⟨y, is, hy, hT⟩
   obtain ⟨v, hv, _⟩ := resN_sound hs' (by rw [hrs]) hy
   have hv0 : v = .tuple #[] := by
    rw [results_rdv, hrs] at hv
    simp at hv
    exact hv.symm
   have hy0 : y = .tup [] := by simp [resN, resL, tupA] at hy; exact hy.symm
   subst hy0
   refine ⟨(hs'.defers.eq hm.2).trans hds, u2, rfl, v, hv, ⟨v, rfl⟩, hset, ?_⟩
   have h5 : SR Γ ⟨[.tup []], s'.objs⟩ ⟨#[v], []⟩ w' := SR.result ⟨ρ2, hs'⟩ hds fun ρ4 h4 => by
    obtain ⟨v4, hv4, hr4⟩ := resN_sound h4 (by rw [hrs]) hy
    rw [hv] at hv4
    injection hv4 with e1
    subst e1
    exact hr4
   subst hv0
   exact h5.toR (by rw [hm.1]; exact hT)
  cases e with
  | normal => exact fin2 hq
  | ret => exact fin2 hq
  | _ => exact hq.elim
 refine wpS_seq (wpS_region ?_)
 have hrange : List.range [(⟨some d, .call ⟨.builtin .recover, #[], #[]⟩, t1, p1, af1, none⟩ : Oper), ⟨some x, .assign (.tmp d), t2, p2, af2, none⟩].toArray.size = [0, 1] := rfl
 rw [hrange]
 have hex : (execOp a0.eval ⟨some d, .call ⟨.builtin .recover, #[], #[]⟩, t1, p1, af1, none⟩).run P Γ.w0 = .ok .recover Γ.w0 := by
  simp [execOp, resolve, invoke, builtin]
 have hex2 : (execOp a1.eval ⟨some x, .assign (.tmp d), t2, p2, af2, none⟩).run P Γ.w0 = .ok (.value rv) Γ.w0 := by
  simp [execOp, hev]
 rcases hrec c₀ cs hc with hr | ⟨hr, hrv, hu⟩
 ·simp only [wpOpsS, List.getElem?_toArray, List.getElem?_cons_zero, List.getElem?_cons_succ, Region.wanted, if_true, hex, hr, ha1, hex2, Oper.upon]
  exact key _ rfl
 ·simp only [wpOpsS, List.getElem?_toArray, List.getElem?_cons_zero, List.getElem?_cons_succ, Region.wanted, if_true, hex, hr, <- hrv, ha1, hex2, Oper.upon]
  refine key _ ?_
  rw [hu, <- hc]
variable {d t : Tmp} {ty ty2 tx : TypeId} {pos : String} {af : Array Edge} {ops : Array Oper} {rest : List Oper} {K : St -> Prop} {o1 : Operand} {T : TypeId} {v : Value}
def isIf (P : Program) (tx : TypeId) : Bool := match P.underlying tx with
 | some (.interface _) => true
 | _ => false
theorem equal_iface_nil (h : isIf P tx = true) (w : World) : (Op.equal tx (.iface T v) .nilIface).run P w = .ok false w := by
 unfold isIf at h
 cases hu : P.underlying tx with
 | none => rw [hu] at h; cases h
 | some D =>
  rw [hu] at h
  cases D with
  | interface ms =>
   unfold Op.equal
   obtain ⟨d, hd⟩ : ∃ d, Op.maxDepth = d + 1 := ⟨_, rfl⟩
   rw [hd]
   unfold Op.equalIn
   simp only [Sem.run_bind, run_underlying hu, Result.andThen_ok, Sem.run_pure]
  | _ => cases h
theorem equal_nil_nil (h : isIf P tx = true) (w : World) : (Op.equal tx .nilIface .nilIface).run P w = .ok true w := by
 unfold isIf at h
 cases hu : P.underlying tx with
 | none => rw [hu] at h; cases h
 | some D =>
  rw [hu] at h
  cases D with
  | interface ms =>
   unfold Op.equal
   obtain ⟨d, hd⟩ : ∃ d, Op.maxDepth = d + 1 := ⟨_, rfl⟩
   rw [hd]
   unfold Op.equalIn
   simp only [Sem.run_bind, run_underlying hu, Result.andThen_ok, Sem.run_pure]
  | _ => cases h
theorem run_neq_iface (h : isIf P tx = true) (ρ : Operand -> Value) (hv : ρ o1 = .iface T v) (hn : ρ (.const .nilIface) = .nilIface) (w : World) : (execOp ρ ⟨some d, .binOp .neq tx o1 (.const .nilIface) ty2, ty, pos, af, none⟩).run P w = .ok (.value (.bool true)) w := by
 have e1 : execOp ρ ⟨some d, .binOp .neq tx o1 (.const .nilIface) ty2, ty, pos, af, none⟩ = (do let x <- (do eqGuard .neq tx o1 (.const .nilIface) (ρ o1) (ρ (.const .nilIface)); binOp .neq tx (ρ o1) (ρ (.const .nilIface)) : Sem Value); pure (.value x)) := rfl
 rw [e1, hv, hn]
 have e2 : (eqGuard .neq tx o1 (.const .nilIface) (.iface T v) .nilIface : Sem Unit) = pure () := rfl
 have e3 : binOp .neq tx (.iface T v) .nilIface = (do let b <- Op.equal tx (.iface T v) .nilIface; pure (.bool (!b)) : Sem Value) := rfl
 rw [e2, e3]
 simp only [Sem.run_bind, Sem.run_pure, Result.andThen_ok, equal_iface_nil h, Bool.not_false]
theorem run_neq_nil (h : isIf P tx = true) (ρ : Operand -> Value) (hv : ρ o1 = .nilIface) (hn : ρ (.const .nilIface) = .nilIface) (w : World) : (execOp ρ ⟨some d, .binOp .neq tx o1 (.const .nilIface) ty2, ty, pos, af, none⟩).run P w = .ok (.value (.bool false)) w := by
 have e1 : execOp ρ ⟨some d, .binOp .neq tx o1 (.const .nilIface) ty2, ty, pos, af, none⟩ = (do let x <- (do eqGuard .neq tx o1 (.const .nilIface) (ρ o1) (ρ (.const .nilIface)); binOp .neq tx (ρ o1) (ρ (.const .nilIface)) : Sem Value); pure (.value x)) := rfl
 rw [e1, hv, hn]
 have e2 : (eqGuard .neq tx o1 (.const .nilIface) .nilIface .nilIface : Sem Unit) = pure () := by
  cases o1 <;> rfl
 have e3 : binOp .neq tx .nilIface .nilIface = (do let b <- Op.equal tx .nilIface .nilIface; pure (.bool (!b)) : Sem Value) := rfl
 rw [e2, e3]
 simp only [Sem.run_bind, Sem.run_pure, Result.andThen_ok, equal_nil_nil h, Bool.not_true]
theorem se_neq_iface (hty : isIf P tx = true) (ha : opq n l o1 = some (.val (.iface T v))) (hk : asemC P ops rest (S n ((d, .val (.bool true)) :: l) M os) K) :
  asemC P ops (⟨some d, .binOp .neq tx o1 (.const .nilIface) ty2, ty, pos, af, none⟩ :: rest) (S n l M os) K := by
 simp only [asemC]
 refine .inr (.inr ⟨_, hk, fun Γ ac w hs => ?_⟩)
 obtain ⟨ρ, hs⟩ := hs
 have hv : ac.eval o1 = .iface T v := by
  have := hs.eval o1
  rw [opq_op ha] at this
  exact this.val_eq
 refine ⟨.bool true, w, run_neq_iface hty _ hv rfl w, ρ, ?_⟩
 have := hs.put (some d) (x := .val (.bool true)) (v := .bool true) (.val rfl)
 rw [S_put] at this
 exact this
theorem se_neq_nil (hty : isIf P tx = true) (ha : opq n l o1 = some (.val .nilIface)) (hk : asemC P ops rest (S n ((d, .val (.bool false)) :: l) M os) K) :
  asemC P ops (⟨some d, .binOp .neq tx o1 (.const .nilIface) ty2, ty, pos, af, none⟩ :: rest) (S n l M os) K := by
 simp only [asemC]
 refine .inr (.inr ⟨_, hk, fun Γ ac w hs => ?_⟩)
 obtain ⟨ρ, hs⟩ := hs
 have hv : ac.eval o1 = .nilIface := by
  have := hs.eval o1
  rw [opq_op ha] at this
  exact this.val_eq
 refine ⟨.bool false, w, run_neq_nil hty _ hv rfl w, ρ, ?_⟩
 have := hs.put (some d) (x := .val (.bool false)) (v := .bool false) (.val rfl)
 rw [S_put] at this
 exact this
def notIf (P : Program) (tx : TypeId) : Bool := match P.underlying tx with
 | some (.interface _) => false
 | some _ => true
 | none => false
theorem run_assert (h : notIf P T = true) (ρ : Operand -> Value) (hv : ρ o1 = .iface T v) (w : World) : (execOp ρ ⟨some d, .typeAssert o1 tx T false, ty, pos, af, none⟩).run P w = .ok (.value v) w := by
 unfold notIf at h
 cases hu : P.underlying T with
 | none => rw [hu] at h; cases h
 | some D =>
  rw [hu] at h
  cases D <;> first
   | (simp at h; done)
   | (simp only [execOp, Instr.typeAssert, hv, Sem.run_bind, run_underlying hu, Result.andThen_ok, Sem.run_pure, if_true]; rfl)
theorem se_assert (h : notIf P T = true) (ha : opq n l o1 = some (.val (.iface T v))) (hat : atom v = true) (hk : asemC P ops rest (S n ((d, .val v) :: l) M os) K) :
  asemC P ops (⟨some d, .typeAssert o1 tx T false, ty, pos, af, none⟩ :: rest) (S n l M os) K := by
 simp only [asemC]
 refine .inr (.inr ⟨_, hk, fun Γ ac w hs => ?_⟩)
 obtain ⟨ρ, hs⟩ := hs
 have hv : ac.eval o1 = .iface T v := by
  have := hs.eval o1
  rw [opq_op ha] at this
  exact this.val_eq
 refine ⟨v, w, run_assert h _ hv w, ρ, ?_⟩
 have := hs.put (some d) (x := .val v) (v := v) (.val hat)
 rw [S_put] at this
 exact this
end
end Go.Lg
namespace Go.Lg
open Go.Proofs
attribute [local irreducible] Ap Rq asemC WP RunD Ret Gq thenA inBlockA bodyQ noGotoA RqL RqP OpP
attribute [local simp] AV.cells
def boxT (x : AV) : AObj := .arr 3 [x]
def boxN (x : Int) : AObj := .arr 1 [.val (.int .i64 x)]
def nilT : AV := .agg [intA 0, intA 0, .val (.slice none 0 0)]
theorem def_retY (xa xb xc : AV) (ha : ∀ n, xa.bd n = true) (hb : ∀ n, xb.bd n = true) (hc' : ∀ n, xc.bd n = true) (o r : Int) : DefD Tryd.prog 34 [.ptr 0 3 0 0, .ptr 1 1 0 0, .ptr 2 1 0 0] [boxT (.agg [xa, xb, xc]), boxN o, boxN r] .returning [boxT (.agg [xa, xb, xc]), boxN o, boxN r] := by
 refine DefD.intro (u2 := .returning) (rv := .nilIface) (by kernel_rfl) rfl Tryd.func34 rfl rfl Tryd.ntmps34 (by exact nle rfl) (by decide) rfl (fun c₀ cs hc => .inr ⟨by simp only [recoverD, hc], rfl, rfl⟩) rfl ?_
 intro Γ hm
 (repeat' (first | apply jA | apply jH | apply jI | apply jR | (refine wp_cond rfl (fun hc => ?_) (fun hc => ?_) <;> (try simp only [sB, ne_eq, reduceCtorEq] at hc) <;> (try (exfalso; omega))) | (refine rgC 1 ?_; (refine smove rfl ?_); (refine se_neq_nil (by kernel_rfl) rfl ?_); apply jW)))
 ·refine retO_L (x := .tup []) (k := 3) (os1 := [(0, some (boxT (.agg [xa, xb, xc]))), (1, some (boxN o)), (2, some (boxN r))]) .nil rfl ⟨[0, 1, 2], ToR.S rfl (by repeat' (first | exact rt_nil | refine rt_e rfl rfl ?_)) (by repeat' (first | exact ro_nil | refine ro_e rfl rfl ?_ | refine ro_p rfl (by first | exact rfl | fail) (by first | (simp [bdL, bdL_append, AV.bd, *]; done) | fail) ?_)) rfl rfl rfl zq4 (by repeat' (first | exact True.intro | exact rfl | refine And.intro ?_ ?_ | simp [bdOq, bdL, bdL_append, AV.bd, *])) (by exact nle rfl)⟩ rfl
theorem def_panicY (xa xb xc : AV) (ha : ∀ n, xa.bd n = true) (hb : ∀ n, xb.bd n = true) (hc' : ∀ n, xc.bd n = true) (o r p : Int) : DefD Tryd.prog 34 [.ptr 0 3 0 0, .ptr 1 1 0 0, .ptr 2 1 0 0] [boxT (.agg [xa, xb, xc]), boxN o, boxN r] (.panicking [{ v := synY p, recovered := false }]) [boxT nilT, boxN p, boxN 3] := by
 refine DefD.intro (u2 := .panicking [{ v := synY p, recovered := true }]) (rv := synY p) (by kernel_rfl) rfl Tryd.func34 rfl rfl Tryd.ntmps34 (by exact nle rfl) (by decide) rfl (fun c₀ cs hc => .inl (by simp only [recoverD, hc])) rfl ?_
 intro Γ hm
 (repeat' (first | apply jA | apply jH | apply jR | (refine wp_cond rfl (fun hc => ?_) (fun hc => ?_) <;> (try simp only [sB, ne_eq, reduceCtorEq] at hc) <;> (try (exfalso; omega))) | (refine rgC 1 ?_; (refine smove rfl ?_); (refine se_neq_iface (by kernel_rfl) rfl ?_); apply jW) | (refine wp_tree (id := 2) 6 mixed rfl ?_ <;> (refine wpt_take 1 rfl still_move (by exact ap_move (rq_p rfl rfl)) (by kernel_rfl) (by kernel_rfl) (by kernel_rfl) (by repeat (exact pind_q)) ?_; (refine wpt_all (rs := [0, 2]) (by kernel_rfl) rfl ⟨?_, ?_, trivial⟩ <;> (first | (refine wpo_do (i := 0) rfl rfl ?_; (refine su (ap_build (RqP.nil) rfl) ?_); apply jW; (refine wpt_all (rs := [2, 3]) (by kernel_rfl) rfl ⟨?_, ?_, trivial⟩ <;> (first | (refine wpo_do (i := 2) rfl rfl ?_; (refine se_assert (by kernel_rfl) rfl (by kernel_rfl) ?_); apply jW; (refine wpt_all (rs := [3]) (by kernel_rfl) rfl ⟨?_, trivial⟩; (refine wpo_do (i := 3) rfl rfl ?_; (refine se_store_b rfl rfl rfl rfl ?_); apply jW; (refine wpt_all (rs := [4]) (by kernel_rfl) rfl ⟨?_, trivial⟩; (refine wpo_do (i := 4) rfl rfl ?_; (refine se_store_b rfl rfl rfl rfl ?_); apply jW; (refine wpt_all (rs := [5]) (by kernel_rfl) rfl ⟨?_, trivial⟩; (refine wpo_do (i := 5) rfl rfl ?_; (refine se_store_b rfl rfl rfl rfl ?_); apply jW; (refine wpt_end (by kernel_rfl) ?_)))))))) | (refine wpo_do (i := 3) rfl rfl ?_; (refine se_store_b rfl rfl rfl rfl ?_); apply jW; (refine wpt_all (rs := [2]) (by kernel_rfl) rfl ⟨?_, trivial⟩; (refine wpo_do (i := 2) rfl rfl ?_; (refine se_assert (by kernel_rfl) rfl (by kernel_rfl) ?_); apply jW; (refine wpt_all (rs := [4]) (by kernel_rfl) rfl ⟨?_, trivial⟩; (refine wpo_do (i := 4) rfl rfl ?_; (refine se_store_b rfl rfl rfl rfl ?_); apply jW; (refine wpt_all (rs := [5]) (by kernel_rfl) rfl ⟨?_, trivial⟩; (refine wpo_do (i := 5) rfl rfl ?_; (refine se_store_b rfl rfl rfl rfl ?_); apply jW; (refine wpt_end (by kernel_rfl) ?_))))))))))) | (refine wpo_do (i := 2) rfl rfl ?_; (refine se_assert (by kernel_rfl) rfl (by kernel_rfl) ?_); apply jW; (refine wpt_all (rs := [0]) (by kernel_rfl) rfl ⟨?_, trivial⟩; (refine wpo_do (i := 0) rfl rfl ?_; (refine su (ap_build (RqP.nil) rfl) ?_); apply jW; (refine wpt_all (rs := [3]) (by kernel_rfl) rfl ⟨?_, trivial⟩; (refine wpo_do (i := 3) rfl rfl ?_; (refine se_store_b rfl rfl rfl rfl ?_); apply jW; (refine wpt_all (rs := [4]) (by kernel_rfl) rfl ⟨?_, trivial⟩; (refine wpo_do (i := 4) rfl rfl ?_; (refine se_store_b rfl rfl rfl rfl ?_); apply jW; (refine wpt_all (rs := [5]) (by kernel_rfl) rfl ⟨?_, trivial⟩; (refine wpo_do (i := 5) rfl rfl ?_; (refine se_store_b rfl rfl rfl rfl ?_); apply jW; (refine wpt_end (by kernel_rfl) ?_))))))))))))))))
 all_goals refine retO_L (x := .tup []) (k := 3) (os1 := [(0, some (boxT nilT)), (1, some (boxN p)), (2, some (boxN 3))]) .nil rfl ⟨[0, 1, 2], ToR.S rfl (by repeat' (first | exact rt_nil | refine rt_e rfl rfl ?_)) (by repeat' (first | exact ro_nil | refine ro_e rfl rfl ?_)) rfl rfl rfl zq4 (by repeat' (first | exact True.intro | exact rfl | refine And.intro ?_ ?_)) (by exact nle rfl)⟩ rfl
end Go.Lg
namespace Go.Lg
def initU (g : Gram) : List Bool := (nob g.nonterms.length).set g.start.toNat true
theorem initU_len (g : Gram) : (initU g).length = g.nonterms.length := by simp [initU, nob]
def UnderU (g : Gram) (is out : List Bool) : Prop := leB (initU g) out /\ ∀ S : List Bool, leB (initU g) S -> leB (stepU g is S) S -> leB out S
theorem UnderU.len {g : Gram} {is out : List Bool} (h : UnderU g is out) : out.length = g.nonterms.length := by rw [<- h.1.1, initU_len]
theorem UnderU.set {g : Gram} {is out : List Bool} (hv : GVal g) (h : UnderU g is out) {r : Rul} (hr : r ∈ g.rules) (h1 : nth out r.head.toNat = true) (h2 : r.body.all (okSym is) = true) {x : Int} (hx : x ∈ r.body) (h0 : x < 0) : UnderU g is (out.set (-1 - x).toNat true) := by
 refine ⟨h.1.trans leB_set_up, fun S hS hc => leB_set (h.2 S hS hc) ?_⟩
 have hn : S.length = g.nonterms.length := by rw [<- hS.1, initU_len]
 exact stepU_closes hc hr ((h.2 S hS hc).2 _ h1) h2 hx h0 (by rw [hn]; exact (hv.rule r hr).lo x hx)
def ClosedU (is out : List Bool) (r : Rul) : Prop := nth out r.head.toNat = true -> r.body.all (okSym is) = true -> ∀ x, x ∈ r.body -> x < 0 -> nth out (-1 - x).toNat = true
theorem UnderU.eq {g : Gram} {is out : List Bool} (h : UnderU g is out) (hc : ∀ r, r ∈ g.rules -> ClosedU is out r) : out = usefulG g is :=
 (lfpB_eq (stepU_mono g is _) (initU_len g) h.1 (stepU_closed hc) (fun S h1 h2 => h.2 S h1 h2)).symm
structure MidU (g : Gram) (is out o : List Bool) (mo : Bool) (i : Nat) : Prop where
 u : UnderU g is o
 hi : i <= g.rules.length
 t : mo = true -> falses o < falses out
 f : mo = false -> o = out /\ ∀ j, j < i -> ClosedU is out (nth g.rules j)
structure InU (g : Gram) (is out o p : List Bool) (mo mp : Bool) (i k : Nat) : Prop where
 u : UnderU g is p
 hk : k <= (nth g.rules i).body.length
 le : leB o p
 t : mp = true -> falses p < falses out
 f : mp = false -> mo = false /\ p = o /\ ∀ j, j < k -> nth (nth g.rules i).body j < 0 -> nth p (-1 - nth (nth g.rules i).body j).toNat = true
section
variable {g : Gram} {is out o p : List Bool} {mo mp : Bool} {i k : Nat}
theorem MidU.start (h : UnderU g is out) : MidU g is out out false 0 := ⟨h, Nat.zero_le _, by simp, by simp⟩
theorem MidU.fo (h : MidU g is out o mo i) : falses o <= falses out := by
 cases mo with
 | true => have := h.t rfl; omega
 | false => rw [(h.f rfl).1]; exact Nat.le_refl _
theorem MidU.skip (h : MidU g is out o mo i) (hi : i < g.rules.length) (hc : nth o (nth g.rules i).head.toNat = false \/ (nth g.rules i).body.all (okSym is) = false) : MidU g is out o mo (i + 1) :=
 ⟨h.u, hi, h.t, fun hm => ⟨(h.f hm).1, fun j hj => by
  by_cases e : j = i
  ·subst e
   intro h1 h2
   rw [(h.f hm).1] at hc
   rcases hc with hc | hc
   ·rw [hc] at h1; cases h1
   ·rw [hc] at h2; cases h2
  ·exact (h.f hm).2 j (by omega)⟩⟩
theorem InU.start (h : MidU g is out o mo i) : InU g is out o o mo mo i 0 := ⟨h.u, Nat.zero_le _, .refl _, h.t, fun hm => ⟨hm, rfl, by simp⟩⟩
theorem InU.set (hv : GVal g) (h : InU g is out o p mo mp i k) (hi : i < g.rules.length) (hm : MidU g is out o mo i) (h1 : nth o (nth g.rules i).head.toNat = true) (h2 : (nth g.rules i).body.all (okSym is) = true) (hk : k < (nth g.rules i).body.length) (h0 : nth (nth g.rules i).body k < 0) (hn : nth p (-1 - nth (nth g.rules i).body k).toNat = false) :
  InU g is out o (p.set (-1 - nth (nth g.rules i).body k).toNat true) mo true i (k + 1) := by
 refine ⟨h.u.set hv (nth_mem hi) (h.le.2 _ h1) h2 (nth_mem hk) h0, hk, h.le.trans leB_set_up, fun _ => ?_, by simp⟩
 have hlo := (hv.rule _ (nth_mem hi)).lo _ (nth_mem hk)
 have := falses_set (l := p) (i := (-1 - nth (nth g.rules i).body k).toNat) (by rw [h.u.len]; omega) hn
 have h3 := falses_mono h.le
 have h4 := hm.fo
 omega
theorem InU.skip (h : InU g is out o p mo mp i k) (hk : k < (nth g.rules i).body.length) (hc : 0 <= nth (nth g.rules i).body k \/ nth p (-1 - nth (nth g.rules i).body k).toNat = true) : InU g is out o p mo mp i (k + 1) :=
 ⟨h.u, hk, h.le, h.t, fun hm => ⟨(h.f hm).1, (h.f hm).2.1, fun j hj h0 => by
  by_cases e : j = k
  ·subst e; rcases hc with hc | hc
   ·omega
   ·exact hc
  ·exact (h.f hm).2.2 j (by omega) h0⟩⟩
end
open Go.Proofs
attribute [local irreducible] Ap Rq asemC WP RunD Ret Gq thenA inBlockA bodyQ noGotoA RqL RqP OpP
end Go.Lg
namespace Go.Lg
open Go.Proofs
attribute [local irreducible] Ap Rq asemC WP RunD Ret Gq thenA inBlockA bodyQ noGotoA RqL RqP OpP
end Go.Lg
namespace Go.Lg
open Go.Proofs
attribute [local irreducible] Ap Rq asemC WP RunD Ret Gq thenA inBlockA bodyQ noGotoA RqL RqP OpP
end Go.Lg
namespace Go.Lg
open Go.Proofs
attribute [local irreducible] Ap Rq asemC WP RunD Ret Gq thenA inBlockA bodyQ noGotoA RqL RqP OpP
theorem all_fn (l : List Int) (g : FuncId) (cap : List AV) (p : Int -> Bool) (hcap : ∀ n, bdL n cap = true) (h : ∀ x, x ∈ l -> Fn Tryd.prog g (intA x :: cap) (boolA (p x))) :
  Fn Tryd.prog 62 [intsA l, .clo (.func g) [] cap] (boolA (l.all p)) := by
 refine Fn.intro rfl (by kernel_rfl) Tryd.func62 rfl rfl Tryd.ntmps62 (by exact nle rfl) ?_; intro Γ hm
 refine wp_lens 0 rfl fun h0 => ?_
 rw [lens_intsA] at h0
 (repeat' (first | apply jA | apply jF | apply jH | (refine rgC 0 ?_; (refine sassign rfl ?_); apply jW) | (refine rgC 1 ?_; (refine smove rfl ?_); (refine slenm rfl rfl ?_); (refine smove rfl ?_); apply jW)))
 refine wp_loop (fun k => k <= l.length /\ (l.take k).all p = true) (fun k => l.length - k) (fun k => (S 18 [(1, .clo (.func g) [] cap), (7, intsA l), (8, intA (l.length : Nat)), (9, intA (k : Nat))] 0 [])) 0 ⟨[], ToR.S rfl (by repeat' (first | exact rt_nil | refine rt_e rfl rfl ?_ | refine rt_p rfl rfl (by first | (simp [AV.bd, bdL, bdL_append]; done) | (simp [AV.bd, bdL, bdL_append, *]; done) | fail) ?_)) (by repeat' (exact ro_nil)) rfl (by (rw [hm]; exact rfl)) rfl (by simp [bdT, AV.bd, bdL, bdL_append, *]) (by repeat' (exact True.intro)) (by (rw [hm]; exact nle rfl))⟩ ⟨Nat.zero_le _, rfl⟩ ?_
 rintro k ⟨hk, hall⟩
 (repeat' (first | apply jA | apply jF | apply jH | apply jI | apply jJ | apply jK | apply jL | apply jM | apply jN | apply jO | apply jP | apply jS | (refine wp_cond rfl (fun hc => ?_) (fun hc => ?_) <;> (try simp only [sB, ne_eq, reduceCtorEq] at hc) <;> (try (exfalso; omega))) | (refine rgC 2 ?_; (refine slss rfl rfl ?_); apply jW) | (refine rgC 3 ?_; (refine sidxn rfl rfl (by omega) ?_); (refine sloadw rfl rfl ?_); (refine sassign rfl ?_); apply jW) | (refine rgC 4 ?_; (refine smove rfl ?_); (refine smove rfl ?_); (refine sc_p rfl rfl (by first | ((repeat' first | refine SubL.cons ?_ ?_ | exact SubL.rfl | exact Sub.refl); done) | fail) (by first | (simp [bdL, bdL_append, AV.bd, *]; done) | fail) (h _ (nth_mem (by omega))) ?_); (refine su (anot rfl) ?_); apply jW) | (refine WP.regionC ?_; (refine sassign rfl ?_); apply jW) | (refine rgC 6 ?_; (refine sadd rfl rfl (by exact inr_i64_of (by omega)) ?_); (refine smove rfl ?_); apply jW) | refine ret_b rfl ?_))
 ·rw [all_nth_no (k := k) (by omega) hc]
 ·exact ⟨k + 1, ⟨by omega, by omega, take_all_succ (by omega) hall hc⟩, ⟨[], ToR.S rfl (by repeat' (first | exact rt_nil | refine rt_e rfl rfl ?_ | refine rt_p rfl rfl (by first | (simp [AV.bd, bdL, bdL_append]; done) | (simp [AV.bd, bdL, bdL_append, *]; done) | fail) ?_)) (by repeat' (exact ro_nil)) rfl (by (rw [hm]; exact rfl)) rfl (by simp [bdT, AV.bd, bdL, bdL_append, *]) (by repeat' (exact True.intro)) (by (rw [hm]; exact nle rfl))⟩⟩
 ·rw [all_of_take' (by omega) hall]
theorem heads11_fn (out : List Bool) (x : Int) (hn : out.length <= 9223372036854775807) (hx : -(out.length : Int) <= x) : Fn Tryd.prog 63 [intA x, .iptr [boolA true] 0, .iptr [boolsA out] 0] (boolA (okSym out x)) := by
 refine Fn.intro rfl (by kernel_rfl) Tryd.func63 rfl rfl Tryd.ntmps63 (by exact nle rfl) ?_; intro Γ hm
 (repeat' (first | apply jA | apply jH | apply jK | apply jS | (refine rgC 0 ?_; (refine sassign rfl ?_); apply jW) | (refine rgC 1 ?_; (refine smove rfl ?_); (refine su (ageq rfl rfl) ?_); (refine smove rfl ?_); (refine sg (gq_vt rfl rfl) (fun he => ap_load_i (rq_p rfl rfl) rfl) ?_); (refine su (ap_and (rq_p rfl rfl) (rq_c rfl rfl)) ?_); (refine smove rfl ?_); (refine sg (gq_vf rfl rfl) (fun he => ap_move (rq_p rfl rfl)) ?_); (refine sg (gq_vf rfl rfl) (fun he => ap_lss (rq_c rfl rfl) (rq_p rfl rfl)) ?_); (refine sg (gq_vf rfl rfl) (fun he => ap_move (rq_c rfl rfl)) ?_); (refine sg (gq_ct rfl rfl) (fun he => ap_load_i (rq_p rfl rfl) rfl) ?_); (refine sg (gq_ct rfl rfl) (fun he => ap_move (rq_p rfl rfl)) ?_); (refine sg (gq_ct rfl rfl) (fun he => ap_sub (rq_p rfl rfl) (rq_c rfl rfl) (by (try simp only [sH, id, sB, ne_eq, reduceCtorEq] at he); exact inr_i64_of (by omega))) ?_); (refine sg (gq_ct rfl rfl) (fun he => ap_idx_z (rq_c rfl rfl) (rq_c rfl rfl) (by (try simp only [sH, id, sB, ne_eq, reduceCtorEq] at he); omega)) ?_); (refine sg (gq_ct rfl rfl) (fun he => ap_load_w (rq_c rfl rfl) rfl) ?_); (refine sg (gq_vf rfl rfl) (fun he => ap_and (rq_c rfl rfl) (rq_c rfl rfl)) ?_); (refine su (ap_or (rq_p rfl rfl) (rq_c rfl rfl)) ?_); (refine sassign rfl ?_); apply jW) | refine ret_b rfl ?_))
 simp only [okSym]
 by_cases h : 0 <= x
 ·have : ¬ x < 0 := by omega
  simp [h, this]
 ·have : x < 0 := by omega
  simp [h, this]
def objH (n : Nat) (out : List Bool) : List AObj := [.arr 1 [.ref 1 1 0 n], .arr 1 (out.map boolA), .arr 1 [boolA true]]
@[simp] theorem objH_len (n : Nat) (out : List Bool) : (objH n out).length = 3 := rfl
def firesP (out : List Bool) (r : Rul) : Bool := !nth out r.head.toNat && r.body.all (okSym out)
def afterP (out : List Bool) (r : Rul) : List Bool := if firesP out r then out.set r.head.toNat true else out
theorem heads1_fn (n : Nat) (out : List Bool) (r : Rul) (hln : out.length = n) (hn : n <= 120) (h0 : 0 <= r.head) (h1 : r.head < out.length) (hlo : ∀ x, x ∈ r.body -> -(out.length : Int) <= x) :
  FnM Tryd.prog 61 [ruleA r, .ptr 0 1 0 0, .ptr 2 1 0 0] (objH n out) fun x os' => x = boolA (firesP out r) /\ os' = objH n (afterP out r) := by
 refine FnM.intro (by kernel_rfl) Tryd.func61 rfl rfl Tryd.ntmps61 (by exact nle rfl) ?_; intro Γ hm
 (repeat' (first | apply jA | apply jH | apply jI | apply jK | apply jM | apply jS | (refine wp_cond rfl (fun hc => ?_) (fun hc => ?_) <;> (try simp only [sB, ne_eq, reduceCtorEq] at hc) <;> (try (exfalso; omega))) | (refine rgC 0 ?_; (refine se_box rfl (by exact ⟨rfl, rfl⟩) ?_); (refine sassign rfl ?_); apply jW) | (refine rgC 1 ?_; (refine sloadpw rfl rfl rfl rfl ?_); (refine sfieldp rfl rfl rfl ?_); (refine sloadp rfl rfl rfl rfl ?_); (refine su (aidxrz rfl rfl (by omega)) ?_); (refine su (aloadpt rfl rfl (by omega) rfl) ?_); (refine smove rfl ?_); (refine sg (gq_vf rfl rfl) (fun he => ap_field_p (rq_p rfl rfl) rfl rfl) ?_); (refine sg (gq_vf rfl rfl) (fun he => ap_load_p (rq_c rfl rfl) rfl rfl rfl) ?_); (refine sg (gq_vf rfl rfl) (fun he => ap_clo (RqL.nil) (RqL.cons (rq_p rfl rfl) (RqL.cons (rq_p rfl rfl) (RqL.nil)))) ?_); (refine sg_b (gq_vf rfl rfl) (fun he => ⟨(rq_p rfl rfl), (RqL.cons (rq_c rfl rfl) (RqL.cons (rq_c rfl rfl) (RqL.nil))), (by first | ((repeat' first | exact FzL.nil | refine FzL.cons ?_ ?_ | (exact Fz.list rfl (by assumption) (fun _ => by simp [AV.bd, bdL, bdL_append]) (fun _ => rfl)) | (exact Fz.reflp (by simp [AV.bd, bdL, bdL_append])) | refine Fz.ptrL rfl rfl ?_ | refine Fz.cloL ?_ ?_); done) | fail), all_fn _ _ _ (okSym out) (fun n => by simp [bdL, AV.bd]) (fun x hx => heads11_fn out x (by omega) (hlo x hx)), rfl⟩) ?_); (refine sg (gq_vf rfl rfl) (fun he => ap_not (rq_c rfl rfl)) ?_); (refine su (ap_or (rq_p rfl rfl) (rq_c rfl rfl)) ?_); apply jW) | (refine WP.regionC ?_; (refine sassign rfl ?_); apply jW) | (refine rgC 3 ?_; (refine sloadpw rfl rfl rfl rfl ?_); (refine sfieldp rfl rfl rfl ?_); (refine sloadp rfl rfl rfl rfl ?_); (refine su (aidxrz rfl rfl (by omega)) ?_); (refine se_store_t rfl rfl (by omega) rfl rfl ?_); apply jW)))
 ·have hf : firesP out r = false := by
   unfold firesP; rcases hc with hc | hc
   ·simp [hc]
   ·simp [hc]
  exact retM_1 (os1 := [(0, some (.arr 1 [.ref 1 1 0 n])), (1, some (.arr 1 (out.map boolA))), (2, some (.arr 1 [boolA true]))]) (objH n out) rfl rfl ⟨[0, 1, 2], ToR.S rfl (by repeat' (exact rt_nil)) (by repeat' (first | exact ro_nil | refine ro_e rfl rfl ?_ | refine ro_p rfl (by first | exact rfl | fail) (by first | exact bdL_map (fun _ => by exact rfl) _ | fail) ?_)) rfl rfl rfl zq4 (by repeat' (first | exact True.intro | exact rfl | refine And.intro ?_ ?_ | exact bdL_map (fun _ => by exact rfl) _)) (by exact nle rfl)⟩ rfl ⟨by rw [hf]; rfl, by rw [afterP, if_neg (by simp [hf])]⟩
 ·have hf : firesP out r = true := by unfold firesP; simp [hc]
  exact retM_1 (os1 := [(0, some (.arr 1 [.ref 1 1 0 n])), (1, some (.arr 1 ((out.set r.head.toNat true).map boolA))), (2, some (.arr 1 [boolA true]))]) [.arr 1 [.ref 1 1 0 n], .arr 1 ((out.set r.head.toNat true).map boolA), .arr 1 [boolA true]] rfl rfl ⟨[0, 1, 2], ToR.S rfl (by repeat' (exact rt_nil)) (by repeat' (first | exact ro_nil | refine ro_e rfl rfl ?_ | refine ro_p rfl (by first | exact rfl | fail) (by first | exact bdL_map (fun _ => by exact rfl) _ | fail) ?_)) rfl rfl rfl zq4 (by repeat' (first | exact True.intro | exact rfl | refine And.intro ?_ ?_ | exact bdL_map (fun _ => by exact rfl) _)) (by exact nle rfl)⟩ rfl ⟨by rw [hf]; rfl, by rw [afterP, if_pos hf]; simp [objH]⟩
def yesB (n : Nat) : List Bool := List.replicate n true
def objR (n : Nat) (out : List Bool) : List AObj := [.arr 1 [.ref 1 1 0 n], .arr 1 (out.map boolA)]
@[simp] theorem objR_len (n : Nat) (out : List Bool) : (objR n out).length = 2 := rfl
structure StepR (g : Gram) (r : Rul) (out out' : List Bool) (ch : Bool) : Prop where
 len : out'.length = out.length
 u : UnderU g (yesB g.nonterms.length) out -> UnderU g (yesB g.nonterms.length) out'
 le : leB out out'
 t : ch = true -> falses out' < falses out
 f : ch = false -> out' = out /\ ClosedU (yesB g.nonterms.length) out r
structure StepK (g : Gram) (r : Rul) (out o : List Bool) (ch : Bool) (k : Nat) : Prop where
 hk : k <= r.body.length
 u : UnderU g (yesB g.nonterms.length) out -> UnderU g (yesB g.nonterms.length) o
 le : leB out o
 h : nth out r.head.toNat = false -> o = out /\ ch = false
 t : ch = true -> falses o < falses out
 f : ch = false -> o = out /\ (nth out r.head.toNat = true -> ∀ j, j < k -> nth r.body j < 0 -> nth out (-1 - nth r.body j).toNat = true)
end Go.Lg
namespace Go.Lg
def jB := @WP.label
def jD := @ng_r
def jG := @WP.scope
open Go.Proofs
attribute [local irreducible] Ap Rq asemC WP RunD Ret Gq thenA inBlockA bodyQ noGotoA RqL RqP OpP
theorem firesP_no {g : Gram} {out : List Bool} (h : ∀ j, j < g.rules.length -> firesP out (nth g.rules j) = false) : ∀ r, r ∈ g.rules -> r.body.all (okSym out) = true -> nth out r.head.toNat = true := by
 intro r hr hb
 obtain ⟨j, hj, rfl⟩ := List.getElem_of_mem hr
 have := h j hj
 rw [nth_eq hj] at this
 unfold firesP at this
 rw [hb] at this
 simpa using this
theorem fixH_fn (g : Gram) (hv : GVal g) :
  FnM Tryd.prog 60 [gramA g, .clo (.func 61) [] [.ptr 0 1 0 0, .ptr 2 1 0 0]] (objH g.nonterms.length (nob g.nonterms.length)) fun _ os' => os' = objH g.nonterms.length (prodG g) := by
 refine FnM.intro (by kernel_rfl) Tryd.func60 rfl rfl Tryd.ntmps60 (by exact nle rfl) ?_; intro Γ hm
 have hr2 := hv.r2
 have hn2 := hv.n2
 (repeat' (first | apply jA | apply jB | apply jF | apply jG | apply jH | (refine rgC 0 ?_; (refine se_box rfl (by exact ⟨rfl, rfl⟩) ?_); apply jW)))
 refine wp_loop (fun (out : List Bool) => UnderP g out) (fun out => falses out)
  (fun out => (S 17 [(1, .clo (.func 61) [] [.ptr 0 1 0 0, .ptr 2 1 0 0]), (2, .ptr 3 4 0 0)] 4 [(0, some (.arr 1 [.ref 1 1 0 g.nonterms.length])), (1, some (.arr 1 (out.map boolA))), (2, some (.arr 1 [boolA true])), (3, some (.arr 4 [gramA g]))])) (nob g.nonterms.length) ⟨[0, 1, 2, 3], ToR.S rfl (by repeat' (first | exact rt_nil | refine rt_t rfl rfl ?_ | refine rt_e rfl rfl ?_)) (by repeat' (first | exact ro_nil | refine ro_e rfl rfl ?_ | refine ro_p rfl (by first | exact rfl | fail) (by first | exact bdL_map (fun _ => by exact rfl) _ | (simp [bdL, bdL_append, AV.bd]; done) | fail) ?_)) rfl (by (rw [hm]; exact rfl)) rfl zq4 (by repeat' (first | exact True.intro | exact rfl | refine And.intro ?_ ?_ | exact bdL_map (fun _ => by exact rfl) _ | (simp [bdOq, bdL, bdL_append, AV.bd]; done))) (by (rw [hm]; exact nle rfl))⟩ (UnderP.nob g) ?_
 rintro out hu
 have hol := hu.1
 (repeat' (first | apply jA | apply jF | apply jH | (refine rgC 1 ?_; (refine sfieldp rfl rfl rfl ?_); (refine sloadp rfl rfl rfl rfl ?_); (refine slenm rfl rfl ?_); (refine smove rfl ?_); apply jW)))
 refine wp_loop (fun (i : Nat) => i <= g.rules.length /\ ∀ j, j < i -> firesP out (nth g.rules j) = false) (fun i => g.rules.length - i)
  (fun i => (S 17 [(1, .clo (.func 61) [] [.ptr 0 1 0 0, .ptr 2 1 0 0]), (2, .ptr 3 4 0 0), (7, rulesA g.rules), (8, intA (g.rules.length : Nat)), (9, intA (i : Nat))] 4 [(0, some (.arr 1 [.ref 1 1 0 g.nonterms.length])), (1, some (.arr 1 (out.map boolA))), (2, some (.arr 1 [boolA true])), (3, some (.arr 4 [gramA g]))])) 0 ⟨[0, 1, 2, 3], ToR.S rfl (by repeat' (first | exact rt_nil | refine rt_t rfl rfl ?_ | refine rt_e rfl rfl ?_ | refine rt_p rfl rfl (by first | (simp [AV.bd, bdL, bdL_append]; done) | fail) ?_)) (by repeat' (first | exact ro_nil | refine ro_e rfl rfl ?_ | refine ro_p rfl (by first | exact rfl | fail) (by first | exact bdL_map (fun _ => by exact rfl) _ | (simp [bdL, bdL_append, AV.bd]; done) | fail) ?_)) rfl (by (rw [hm]; exact rfl)) rfl zq4 (by repeat' (first | exact True.intro | exact rfl | refine And.intro ?_ ?_ | exact bdL_map (fun _ => by exact rfl) _ | (simp [bdOq, bdL, bdL_append, AV.bd]; done))) (by (rw [hm]; exact nle rfl))⟩ ⟨Nat.zero_le _, by simp⟩ ?_
 rintro i ⟨hi, hall⟩
 by_cases hlt : i < g.rules.length
 ·have hr := hv.rule _ (nth_mem hlt)
  have h0 := hr.h0
  have h1 := hr.hn
  have hlo : ∀ x, x ∈ (nth g.rules i).body -> -(out.length : Int) <= x := fun x hx => by have := hr.lo x hx; omega
  (repeat' (first | apply jA | apply jF | apply jH | apply jI | apply jJ | apply jL | apply jN | apply jP | refine bl_y rfl ?_ | (refine wp_cond rfl (fun hc => ?_) (fun hc => ?_) <;> (try simp only [sB, ne_eq, reduceCtorEq] at hc) <;> (try (exfalso; omega))) | (refine rgC 2 ?_; (refine slss rfl rfl ?_); apply jW) | (refine rgC 3 ?_; (refine sidxn rfl rfl (by omega) ?_); (refine sloadw rfl rfl ?_); (refine se_alloc rfl ?_); (refine se_store_b rfl rfl rfl rfl ?_); apply jW) | (refine rgC 4 ?_; (refine smove rfl ?_); (refine sloadpw rfl rfl rfl rfl ?_); (refine sc_v [0, 1, 2] rfl rfl (heads1_fn g.nonterms.length out (nth g.rules i) hol hn2 h0 (by omega) hlo) (Lend.S (by first | ((repeat' first | exact RenL.nil | refine RenL.cons (by first | exact rfl | exact ren_p (by simp [AV.bd, bdL, bdL_append])) ?_); done) | fail) (by first | ((repeat' first | exact LendO.nil | refine LendO.arr rfl (by first | exact rfl | (refine (renL_pure ?_).symm; exact bdL_map (fun _ => by exact rfl) _)) ?_); done) | fail) (by decide) rfl (by simp [AV.bd, bdL, bdL_append]) (by repeat' (first | exact True.intro | refine And.intro ?_ ?_ | exact bdL_map (fun _ => by exact rfl) _ | simp [AV.bd, bdL, bdL_append]))) ?_; rintro r os' hlen ⟨rfl, rfl⟩; simp only [objH, upd, AObj.ren, renL, AV.ren, renL_pure, bdL_boolA, bdL_intA, bdL_strA, bd_boolA, bd_intA, bd_strA, apx, ap, List.length_cons, List.length_nil, List.getD_cons_zero, List.getD_cons_succ, Nat.lt_irrefl, if_true, if_false, Nat.zero_lt_succ, Nat.reduceLT, Nat.reduceAdd, intA, boolA, strA]); apply jW) | (refine rgC 5 ?_; (refine sadd rfl rfl (by exact inr_i64_of (by omega)) ?_); (refine smove rfl ?_); apply jW)))
  ·have hf := hc
   simp only [firesP, Bool.and_eq_true, Bool.not_eq_true'] at hf
   have e : afterP out (nth g.rules i) = out.set (nth g.rules i).head.toNat true := by rw [afterP, if_pos hc]
   have hl : (afterP out (nth g.rules i)).length = out.length := by rw [e]; simp
   refine ⟨afterP out (nth g.rules i), ⟨?_, ?_⟩, ⟨[0, 1, 2, 3], ToR.S rfl (by repeat' (first | exact rt_nil | refine rt_t rfl rfl ?_ | refine rt_e rfl rfl ?_)) (by repeat' (first | exact ro_nil | refine ro_e rfl rfl ?_ | refine ro_p rfl (by first | exact rfl | fail) (by first | exact bdL_map (fun _ => by exact rfl) _ | (simp [bdL, bdL_append, AV.bd]; done) | fail) ?_)) rfl (by (rw [hm]; exact rfl)) rfl zq4 (by repeat' (first | exact True.intro | exact rfl | refine And.intro ?_ ?_ | exact bdL_map (fun _ => by exact rfl) _ | (simp [bdOq, bdL, bdL_append, AV.bd]; done))) (by (rw [hm]; exact nle rfl))⟩⟩
   ·have := falses_set (l := out) (i := (nth g.rules i).head.toNat) (by omega) hf.1
    rw [e]; omega
   ·rw [e]; exact hu.set hv (nth_mem hlt) hf.2
  ·have e : afterP out (nth g.rules i) = out := by rw [afterP, if_neg (by simp [hc])]
   refine ⟨i + 1, ⟨by omega, by omega, fun j hj => ?_⟩, by rw [e]; exact ⟨[0, 1, 2, 3], ToR.S rfl (by repeat' (first | exact rt_nil | refine rt_t rfl rfl ?_ | refine rt_e rfl rfl ?_ | refine rt_p rfl rfl (by first | (simp [AV.bd, bdL, bdL_append]; done) | fail) ?_)) (by repeat' (first | exact ro_nil | refine ro_e rfl rfl ?_ | refine ro_p rfl (by first | exact rfl | fail) (by first | exact bdL_map (fun _ => by exact rfl) _ | (simp [bdL, bdL_append, AV.bd]; done) | fail) ?_)) rfl (by (rw [hm]; exact rfl)) rfl zq4 (by repeat' (first | exact True.intro | exact rfl | refine And.intro ?_ ?_ | exact bdL_map (fun _ => by exact rfl) _ | (simp [bdOq, bdL, bdL_append, AV.bd]; done))) (by (rw [hm]; exact nle rfl))⟩⟩
   by_cases q : j = i
   ·subst q; exact hc
   ·exact hall j (by omega)
 ·(repeat' (first | apply jA | apply jD | apply jH | apply jJ | apply jK | apply jL | apply jM | apply jO | apply jP | apply jS | (refine wp_cond rfl (fun hc => ?_) (fun hc => ?_) <;> (try simp only [sB, ne_eq, reduceCtorEq] at hc) <;> (try (exfalso; omega))) | (refine rgC 2 ?_; (refine slss rfl rfl ?_); apply jW)))
  have e : out = prodG g := hu.eq (firesP_no fun j hj => hall j (by omega))
  exact retM_0 (os1 := [(0, some (.arr 1 [.ref 1 1 0 g.nonterms.length])), (1, some (.arr 1 (out.map boolA))), (2, some (.arr 1 [boolA true]))]) (objH g.nonterms.length out) ⟨[0, 1, 2], ToR.S rfl (by repeat' (exact rt_nil)) (by repeat' (first | exact ro_nil | refine ro_e rfl rfl ?_ | refine ro_p rfl (by first | exact rfl | fail) (by first | exact bdL_map (fun _ => by exact rfl) _ | fail) ?_)) rfl rfl rfl zq4 (by repeat' (first | exact True.intro | exact rfl | refine And.intro ?_ ?_ | exact bdL_map (fun _ => by exact rfl) _)) (by exact nle rfl)⟩ rfl (by rw [e])
theorem heads_fn (g : Gram) (hv : GVal g) : Fn Tryd.prog 49 [gramA g, boolA true] (boolsA (prodG g)) := by
 refine Fn.intro (by simp [AV.bd, bdL, bdL_append]) (by kernel_rfl) Tryd.func49 rfl rfl Tryd.ntmps49 (by exact nle rfl) ?_; intro Γ hm
 have hpl := prodG_len g
 have hn2 := hv.n2
 (repeat' (first | apply jA | apply jH | apply jK | apply jS | (refine rgC 0 ?_; (refine se_box rfl (by exact ⟨rfl, rfl⟩) ?_); (refine se_box rfl (by exact ⟨rfl, rfl⟩) ?_); (refine sassign rfl ?_); apply jW) | (refine rgC 1 ?_; (refine sfieldp rfl rfl rfl ?_); (refine sloadp rfl rfl rfl rfl ?_); (refine slenm rfl rfl ?_); (refine se_makeT boolA false rfl rfl rfl rfl rfl (by omega) ?_); (refine se_alloc rfl ?_); (refine se_store_b rfl rfl rfl rfl ?_); apply jW) | (refine rgC 2 ?_; (refine sloadpw rfl rfl rfl rfl ?_); (refine su (ap_clo (RqL.nil) (RqL.cons (rq_p rfl rfl) (RqL.cons (rq_p rfl rfl) (RqL.nil)))) ?_); (refine sc_v [3, 2, 1] rfl rfl (fixH_fn g hv) (Lend.S (by first | ((repeat' first | exact RenL.nil | refine RenL.cons (by first | exact rfl | exact ren_p (by simp [AV.bd, bdL, bdL_append])) ?_); done) | fail) (by first | ((repeat' first | exact LendO.nil | refine LendO.arr rfl (by first | exact rfl | (refine (renL_pure ?_).symm; exact bdL_map (fun _ => by exact rfl) _)) ?_); done) | fail) (by decide) rfl (by simp [AV.bd, bdL, bdL_append]) (by repeat' (first | exact True.intro | refine And.intro ?_ ?_ | exact bdL_map (fun _ => by exact rfl) _ | simp [AV.bd, bdL, bdL_append]))) ?_; rintro r os' hlen rfl; simp only [objH, upd, AObj.ren, renL, AV.ren, renL_pure, bdL_boolA, bdL_intA, bdL_strA, bd_boolA, bd_intA, bd_strA, apx, ap, List.length_cons, List.length_nil, List.getD_cons_zero, List.getD_cons_succ, Nat.lt_irrefl, if_true, if_false, Nat.zero_lt_succ, Nat.reduceLT, Nat.reduceAdd, intA, boolA, strA]); apply jW) | (refine rgC 3 ?_; (refine sloadpw rfl rfl rfl rfl ?_); (refine sassign rfl ?_); apply jW) | refine ret_sl rfl rfl (by first | exact rfl | assumption) (fun _ => by exact rfl) (fun _ => rfl) ?_))
 rfl
theorem productive_an (g : Gram) (hv : GVal g) : Fn Tryd.prog 35 [gramA g] (boolsA (prodG g)) := by
 refine Fn.intro (by simp [AV.bd, bdL, bdL_append]) (by kernel_rfl) Tryd.func35 rfl rfl Tryd.ntmps35 (by exact nle rfl) ?_; intro Γ hm
 (repeat' (first | apply jA | apply jH | apply jK | apply jS | (refine rgC 0 ?_; (refine se_box rfl (by exact ⟨rfl, rfl⟩) ?_); (refine sassign rfl ?_); apply jW) | (refine rgC 1 ?_; (refine sloadpw rfl rfl rfl rfl ?_); (refine sc_p rfl rfl zq1 zq5 (heads_fn g hv) ?_); (refine sassign rfl ?_); apply jW) | exact ret_eq rfl (by (simp [AV.bd, bdL, bdL_append]; done)) rfl))
end Go.Lg
namespace Go.Lg
open Go.Proofs
attribute [local irreducible] Ap Rq asemC WP RunD Ret Gq thenA inBlockA bodyQ noGotoA RqL RqP OpP
attribute [local simp] AV.cells rdT
def parseTA (x : Tre × Int × Int) : AV := .tup [treA x.1, intA x.2.1, intA x.2.2]
theorem tparse_fn {g : Gram} (hv : GVal g) (hnt : ∀ x, x ∈ g.terms -> x.size <= 48) (hnm : ∀ x, x ∈ g.nonterms -> x.size <= 48) (s : ByteArray) (hs : s.size <= 100000) (hpl : (prodG g).length = g.nonterms.length) (hz : ∀ t a, treeT g (prodG g) (bl s) = .ok t a -> szT t <= 1000000) :
  Fn Tryd.prog 16 [gramA g, strA s] (parseTA (parT g (prodG g) (bl s))) := by
 refine FnD.intro (l1 := [(6, .ptr 3 1 0 0), (5, .ptr 2 1 0 0), (4, .ptr 1 3 0 0), (2, .ptr 0 4 0 0), (0, gramA g), (1, strA s)]) (M1 := 4) (os1 := [(3, some (boxN 0)), (2, some (boxN 0)), (1, some (boxT nilT)), (0, some (.arr 4 [gramA g]))]) (capA := [.ptr 1 3 0 0, .ptr 2 1 0 0, .ptr 3 1 0 0]) (rs := [.cell 4 29, .cell 5 3, .cell 6 34])
  (by simp [parseTA, AV.bd, bdL]) (by kernel_rfl) Tryd.func16 rfl rfl Tryd.ntmps16 (by exact nle rfl) (by decide) rfl ?_ ?_ ?_ ?_
 ·simp
 ·intro i hi
  match i, hi with
  | 0, _ => rfl
  | 1, _ => rfl
  | 2, _ => rfl
  | 3, _ => rfl
 ·intro Γ hm
  (repeat' ((refine rgC 0 ?_; (refine se_box rfl (by exact ⟨rfl, rfl⟩) ?_); (refine se_alloc rfl ?_); (refine se_alloc rfl ?_); (refine se_alloc rfl ?_); refine asemC_end ?_)))
  exact ⟨rfl, rfl⟩
 ·intro Γ hm
  skip
  have hpr := productive_an g hv
  have htr := tree_fn hv hnt hnm s hs (prodG g) hpl
  unfold rdT at htr
  unfold parT
  cases hq : treeT g (prodG g) (bl s) with
  | err e =>
   rw [hq] at htr
   have hX : FnX Tryd.prog _ _ _ _ := htr
   (repeat' (first | apply jA | apply jH | (refine wp_draw (id := 2) 7 mixed (by kernel_rfl) (by kernel_rfl) rfl ?_ <;> (refine rd_u rfl rfl (aloadpw rfl rfl rfl rfl) ?_) <;> (refine rmove rfl ?_) <;> (refine rd_u rfl rfl (aloadpw rfl rfl rfl rfl) ?_) <;> (refine rd_call rfl rfl zq1 zq5 (productive_an _ (by assumption)) ?_) <;> (refine rd_u rfl rfl (ap_build (RqP.cons (rq_p rfl rfl) (RqP.cons (rq_p rfl rfl) (RqP.cons (rq_p rfl rfl) (RqP.nil)))) rfl) ?_) <;> (refine rd_box rfl (by exact ⟨rfl, rfl⟩) ?_) <;> (refine rd_u rfl rfl (aassign rfl) ?_) <;> (refine rd_end (by kernel_rfl) ?_))))
   refine wp_st ((S 22 [(2, .ptr 0 4 0 0), (4, .ptr 1 3 0 0), (5, .ptr 2 1 0 0), (6, .ptr 3 1 0 0), (7, .ptr 4 7 0 0)] 5 [(0, some (.arr 4 [gramA g])), (1, some (.arr 3 [.agg [intA 0, intA 0, .val (.slice none 0 0)]])), (2, some (.arr 1 [.val (.int .i64 0)])), (3, some (.arr 1 [.val (.int .i64 0)])), (4, some (.arr 7 [.agg [strsA g.terms, strsA g.nonterms, intA g.start, rulesA g.rules, strA s, intA 0, boolsA (prodG g)]]))])) ⟨[0, 1, 2, 3, 9], ToR.S rfl (by repeat' (first | exact rt_nil | refine rt_t rfl rfl ?_)) (by repeat' (first | exact ro_nil | refine ro_e rfl rfl ?_ | refine ro_p rfl (by first | exact rfl | fail) zq5 ?_)) rfl (by (rw [hm]; exact rfl)) rfl zq4 (by repeat' (first | exact True.intro | exact rfl | refine And.intro ?_ ?_ | (simp [bdOq, bdL, bdL_append, AV.bd]; done))) (by (rw [hm]; exact nle rfl))⟩ ?_
   (repeat' (first | apply jT | (refine wpl_region (id := 3) ?_; (refine wpl_step rfl ?_; (refine smove rfl ?_); apply jW; ((refine wpl_x [4] rfl rfl (hX) (Lend.S (by first | ((repeat' first | exact RenL.nil | refine RenL.cons rfl ?_); done) | fail) zq2 (by decide) rfl (by simp [AV.bd, bdL, bdL_append]) (by repeat' (first | exact True.intro | refine And.intro ?_ ?_ | simp [AV.bd, bdL, bdL_append]))) ?_))))))
   refine bd_endp (ys' := [.ptr 0 3 0 0, .ptr 1 1 0 0, .ptr 2 1 0 0]) (mid := [boxT nilT, boxN 0, boxN 0]) [1, 2, 3] [(3, [nilT]), (1, [.val (.int .i64 _)]), (1, [.val (.int .i64 3)])] rfl (Lend.S (by first | ((repeat' first | exact RenL.nil | refine RenL.cons rfl ?_); done) | fail) (by first | ((repeat' first | exact LendO.nil | refine LendO.arr rfl rfl ?_); done) | fail) (by decide) rfl (by simp [AV.bd, bdL, bdL_append]) (by repeat' (first | exact True.intro | refine And.intro ?_ ?_ | simp [AV.bd, bdL, bdL_append] | exact rfl))) (def_panicY _ _ _ (fun _ => by simp [AV.bd]) (fun _ => by simp [AV.bd]) (fun _ => by simp [AV.bd]) _ _ _) (by simp [nilT, AV.bd, bdL]) ?_
   simp only [parseTA, zT]
   rw [treA_kids]
   exact ret_many (xs := [nilT, .val (.int .i64 _), .val (.int .i64 3)]) (.cellT rfl rfl rfl rfl (.cellT rfl rfl rfl rfl (.cellT rfl rfl rfl rfl .nil))) (by exact nle rfl) (by first | ((repeat' first | exact FzL.nil | refine FzL.cons ?_ ?_ | exact Fz.nil | (exact Fz.reflp (by simp [AV.bd, bdL, bdL_append])) | refine Fz.aggL ?_); done) | fail)
  | ok t a =>
   rw [hq] at htr
   have hO : FnO Tryd.prog _ _ _ _ _ := htr
   unfold rdT at hO
   have hd := depth_fn t (hz t a hq)
   rw [treA_kids] at hO hd
   simp only
   (repeat' (first | apply jA | apply jH | (refine wp_draw (id := 2) 7 mixed (by kernel_rfl) (by kernel_rfl) rfl ?_ <;> (refine rd_u rfl rfl (aloadpw rfl rfl rfl rfl) ?_) <;> (refine rmove rfl ?_) <;> (refine rd_u rfl rfl (aloadpw rfl rfl rfl rfl) ?_) <;> (refine rd_call rfl rfl zq1 zq5 (productive_an _ (by assumption)) ?_) <;> (refine rd_u rfl rfl (ap_build (RqP.cons (rq_p rfl rfl) (RqP.cons (rq_p rfl rfl) (RqP.cons (rq_p rfl rfl) (RqP.nil)))) rfl) ?_) <;> (refine rd_box rfl (by exact ⟨rfl, rfl⟩) ?_) <;> (refine rd_u rfl rfl (aassign rfl) ?_) <;> (refine rd_end (by kernel_rfl) ?_))))
   refine wp_st ((S 22 [(2, .ptr 0 4 0 0), (4, .ptr 1 3 0 0), (5, .ptr 2 1 0 0), (6, .ptr 3 1 0 0), (7, .ptr 4 7 0 0)] 5 [(0, some (.arr 4 [gramA g])), (1, some (.arr 3 [.agg [intA 0, intA 0, .val (.slice none 0 0)]])), (2, some (.arr 1 [.val (.int .i64 0)])), (3, some (.arr 1 [.val (.int .i64 0)])), (4, some (.arr 7 [.agg [strsA g.terms, strsA g.nonterms, intA g.start, rulesA g.rules, strA s, intA 0, boolsA (prodG g)]]))])) ⟨[0, 1, 2, 3, 9], ToR.S rfl (by repeat' (first | exact rt_nil | refine rt_t rfl rfl ?_)) (by repeat' (first | exact ro_nil | refine ro_e rfl rfl ?_ | refine ro_p rfl (by first | exact rfl | fail) zq5 ?_)) rfl (by (rw [hm]; exact rfl)) rfl zq4 (by repeat' (first | exact True.intro | exact rfl | refine And.intro ?_ ?_ | (simp [bdOq, bdL, bdL_append, AV.bd]; done))) (by (rw [hm]; exact nle rfl))⟩ ?_
   by_cases hl : 30 < depT t
   ·rw [if_pos hl]
    simp only [parseTA, zT]
    rw [treA_kids]
    (repeat' (first | apply jA | apply jH | apply jK | apply jM | (refine wp_cond rfl (fun hc => ?_) (fun hc => ?_) <;> (try simp only [sB, ne_eq, reduceCtorEq] at hc) <;> (try (exfalso; omega))) | (refine rgC 3 ?_; (refine smove rfl ?_); (refine sc_o [4] rfl rfl (hO) (Lend.S (by first | ((repeat' first | exact RenL.nil | refine RenL.cons rfl ?_); done) | fail) zq2 (by decide) rfl (by simp [AV.bd, bdL, bdL_append]) (by repeat' (first | exact True.intro | refine And.intro ?_ ?_ | simp [AV.bd, bdL, bdL_append]))) ?_; simp only [updN, newO, AObj.ren, renL, AV.ren, apx, ap, if_true, if_false, Nat.reduceLT, Nat.reduceAdd, Nat.reduceSub, sO, intA, boolA, strA, ren_rulesY, ren_boolsY, ren_tresY]); (refine se_store_b rfl rfl rfl rfl ?_); apply jW) | (refine rgC 4 ?_; (refine sloadpw rfl rfl rfl rfl ?_); (refine sc_p rfl rfl zq1 zq5 (hd) ?_); (refine su (agtr rfl rfl) ?_); apply jW) | (refine rgC 5 ?_; (refine su (ap_build (RqP.nil) rfl) ?_); (refine se_store_b rfl rfl rfl rfl ?_); (refine se_store_b rfl rfl rfl rfl ?_); (refine se_store_b rfl rfl rfl rfl ?_); apply jW)))
    all_goals try (exfalso; omega)
    refine bd_endp (ys' := [.ptr 0 3 0 0, .ptr 1 1 0 0, .ptr 2 1 0 0]) (mid := [boxT nilT, boxN 0, boxN 11]) [1, 2, 3] [(3, [nilT]), (1, [.val (.int .i64 0)]), (1, [.val (.int .i64 11)])] rfl (Lend.S (by first | ((repeat' first | exact RenL.nil | refine RenL.cons rfl ?_); done) | fail) (by first | ((repeat' first | exact LendO.nil | refine LendO.arr rfl rfl ?_); done) | fail) (by decide) rfl (by simp [AV.bd, bdL, bdL_append]) (by repeat' (first | exact True.intro | refine And.intro ?_ ?_ | simp [AV.bd, bdL, bdL_append] | exact rfl))) (def_retY _ _ _ (fun _ => by simp [AV.bd]) (fun _ => by simp [AV.bd]) (fun _ => by simp [AV.bd]) _ _) (by simp [nilT, AV.bd, bdL]) ?_
    exact ret_many (xs := [nilT, .val (.int .i64 0), .val (.int .i64 11)]) (.cellT rfl rfl rfl rfl (.cellT rfl rfl rfl rfl (.cellT rfl rfl rfl rfl .nil))) (by exact nle rfl) (by first | ((repeat' first | exact FzL.nil | refine FzL.cons ?_ ?_ | exact Fz.nil | (exact Fz.reflp (by simp [AV.bd, bdL, bdL_append])) | refine Fz.aggL ?_); done) | fail)
   ·rw [if_neg hl]
    simp only [parseTA]
    rw [treA_kids]
    (repeat' (first | apply jA | apply jH | apply jI | apply jK | (refine wp_cond rfl (fun hc => ?_) (fun hc => ?_) <;> (try simp only [sB, ne_eq, reduceCtorEq] at hc) <;> (try (exfalso; omega))) | (refine rgC 3 ?_; (refine smove rfl ?_); (refine sc_o [4] rfl rfl (hO) (Lend.S (by first | ((repeat' first | exact RenL.nil | refine RenL.cons rfl ?_); done) | fail) zq2 (by decide) rfl (by simp [AV.bd, bdL, bdL_append]) (by repeat' (first | exact True.intro | refine And.intro ?_ ?_ | simp [AV.bd, bdL, bdL_append]))) ?_; simp only [updN, newO, AObj.ren, renL, AV.ren, apx, ap, if_true, if_false, Nat.reduceLT, Nat.reduceAdd, Nat.reduceSub, sO, intA, boolA, strA, ren_rulesY, ren_boolsY, ren_tresY]); (refine se_store_b rfl rfl rfl rfl ?_); apply jW) | (refine rgC 4 ?_; (refine sloadpw rfl rfl rfl rfl ?_); (refine sc_p rfl rfl zq1 zq5 (hd) ?_); (refine su (agtr rfl rfl) ?_); apply jW) | (refine rgC 6 ?_; (refine sloadpw rfl rfl rfl rfl ?_); (refine se_store_b rfl rfl rfl rfl ?_); (refine se_store_b rfl rfl rfl rfl ?_); (refine se_store_b rfl rfl rfl rfl ?_); apply jW)))
    all_goals try (exfalso; omega)
    refine bd_endp (ys' := [.ptr 0 3 0 0, .ptr 1 1 0 0, .ptr 2 1 0 0]) (mid := [boxT (.agg [intA t.rule, intA t.term, tresA t.kids]), boxN 0, boxN 0]) [1, 2, 3] [(3, [(.agg [intA t.rule, intA t.term, tresA t.kids])]), (1, [.val (.int .i64 0)]), (1, [.val (.int .i64 0)])] rfl (Lend.S (by first | ((repeat' first | exact RenL.nil | refine RenL.cons rfl ?_); done) | fail) (by first | ((repeat' first | exact LendO.nil | refine LendO.arr rfl (by first | exact rfl | (refine (renL_pure ?_).symm; (simp [AV.bd, bdL, bdL_append]; done))) ?_); done) | fail) (by decide) rfl (by simp [AV.bd, bdL, bdL_append]) (by repeat' (first | exact True.intro | refine And.intro ?_ ?_ | simp [AV.bd, bdL, bdL_append]))) (def_retY _ _ _ (fun _ => by simp [AV.bd]) (fun _ => by simp [AV.bd]) (fun _ => by simp [AV.bd]) _ _) (by simp [nilT, AV.bd, bdL]) ?_
    exact ret_many (xs := [(.agg [intA t.rule, intA t.term, tresA t.kids]), .val (.int .i64 0), .val (.int .i64 0)]) (.cellT rfl rfl rfl rfl (.cellT rfl rfl rfl rfl (.cellT rfl rfl rfl rfl .nil))) (by exact nle rfl) (by first | ((repeat' first | exact FzL.nil | refine FzL.cons ?_ ?_ | (exact Fz.reflp (by simp [AV.bd, bdL, bdL_append]))); done) | fail)
end Go.Lg
namespace Go.Lg
open Go.Proofs
attribute [local irreducible] Ap Rq asemC WP RunD Ret Gq thenA inBlockA bodyQ noGotoA RqL RqP OpP
attribute [local simp] AV.cells
@[simp] theorem bd_parseTA (n : Nat) (x : Tre × Int × Int) : (parseTA x).bd n = true := by simp [parseTA, AV.bd, bdL]
end Go.Lg
namespace Go.Lg
open Go.Proofs
attribute [local irreducible] Ap Rq asemC WP RunD Ret Gq thenA inBlockA bodyQ noGotoA RqL RqP OpP
attribute [local simp] AV.cells
def exg : Gram := ⟨[⟨#[97]⟩, ⟨#[98]⟩], [⟨#[83]⟩], 0, [⟨0, [0, -1, 1], 4⟩, ⟨0, [], 1⟩]⟩
def ext : Tre := .mk 0 0 [.mk (-1) 0 [], .mk 1 0 [], .mk (-1) 1 []]
def exs : ByteArray := ⟨#[40, 83, 58, 48, 32, 97, 32, 40, 83, 58, 49, 41, 32, 98, 41]⟩
def exz : ByteArray := ⟨#[40, 83, 58, 48, 32, 97, 32, 98]⟩
theorem exg_val : validG exg = true := by decide +kernel
theorem exg_gv : GVal exg := validG_iff.1 exg_val
theorem exg_nv : NVal exg := NVal.of exg_val
theorem ext_ok : okT exg (-1) ext = true := by decide +kernel
theorem ext_tok : tokT exg ext := .inr ⟨by decide, by decide, ext_ok⟩
theorem lab0 : labelT exg 0 = [83, 58, 48] := by
 show bl (⟨#[83]⟩ : ByteArray) ++ 58 :: Lib.itoa ((0 : Nat) : Int) = _
 rw [itoa_nat, dd_lt (by decide)]; rfl
theorem lab1 : labelT exg 1 = [83, 58, 49] := by
 show bl (⟨#[83]⟩ : ByteArray) ++ 58 :: Lib.itoa ((1 : Nat) : Int) = _
 rw [itoa_nat, dd_lt (by decide)]; rfl
theorem ext_fmt : fmtT exg ext = bl exs := by
 simp only [ext, fmtT, fmtTL]
 rw [show ((0 : Int)).toNat = 0 from rfl, show ((1 : Int)).toNat = 1 from rfl, lab0, lab1]
 decide +kernel
theorem prod_closed (g : Gram) (hv : GVal g) : ∀ r, r ∈ g.rules -> r.body.all (okSym (prodG g)) = true -> nth (prodG g) r.head.toNat = true := fun r hr hb =>
 stepP_closes (S := prodG g) (by rw [show stepP g (prodG g) = prodG g from lfpB_fix (stepP_mono g _) (nob_len _)]; exact .refl _) hr (hv.rule r hr).h0 (by rw [prodG_len]; exact (hv.rule r hr).hn) hb
theorem exs_par : parT exg (prodG exg) (bl exs) = (ext, 0, 0) := by
 rw [<- ext_fmt, par_read exg_nv (prod_closed exg exg_gv) ext_tok, if_neg (by decide +kernel)]
theorem exg_prod : prodG exg = [true] := by decide +kernel
theorem ch0 : chT exg 0 = ([40, 83, 58, 48, 32], .mk 0 0 []) := by unfold chT; rw [lab0]; rfl
theorem ch1 : chT exg 1 = ([40, 83, 58, 49, 41], .mk 1 0 []) := by unfold chT; rw [lab1]; rfl
theorem exg_chR (h : Int) (hh : h = -1 \/ h = 0) : chR exg [true] h 2 = [([40, 83, 58, 48, 32], .mk 0 0 []), ([40, 83, 58, 49, 41], .mk 1 0 [])] := by
 rw [<- ch0, <- ch1]
 rcases hh with rfl | rfl <;> rfl
theorem exz_tree : treeT exg (prodG exg) (bl exz) = .err 7 := by
 rw [exg_prod]
 unfold treeT
 rw [show termT (bl exz) exg.terms 0 0 = .inr 0 by decide +kernel]
 simp only [Nat.lt_irrefl, if_false]
 rw [show exg.rules.length = 2 from rfl, exg_chR _ (.inl rfl)]
 rw [show chooseT (bl exz) 0 [([40, 83, 58, 48, 32], .mk 0 0 []), ([40, 83, 58, 49, 41], .mk 1 0 [])] 0 = .ok (.mk 0 0 []) 5 from rfl]
 simp only
 rw [show (bl exz).length + 1 = 8 + 1 from rfl, kidsT]
 rw [show (nth exg.rules (Tre.mk 0 0 []).rule.toNat).body = [0, -1, 1] from rfl]
 simp only [bodyT, symT, Int.le_refl, if_true]
 rw [show chooseT ((bl exz).drop 5) 5 [(bl (nth exg.terms (0 : Int).toNat) ++ folT ([-1, 1] : List Int).isEmpty, .mk (-1) 0 [])] 0 = .ok (.mk (-1) 0 []) 7 from rfl]
 simp only
 rw [if_neg (by decide), show (-1 : Int) - -1 = 0 from rfl, show exg.rules.length = 2 from rfl, exg_chR _ (.inr rfl)]
 rw [show chooseT ((bl exz).drop 7) 7 [([40, 83, 58, 48, 32], .mk 0 0 []), ([40, 83, 58, 49, 41], .mk 1 0 [])] 0 = .err 7 from rfl]
theorem exz_par : parT exg (prodG exg) (bl exz) = (zT, 7, 3) := by
 unfold parT
 rw [exz_tree]; rfl
theorem ext_lift : liftR ext [7, -1] = (.mk 7 0 [.mk (-1) 0 [], .mk (-1) 1 []], 0) := by
 unfold liftR
 rw [if_pos (by decide), if_pos (by decide +kernel)]
 rfl
theorem example23_fn : Fn Tryd.prog 15 [] (.tup [gramA exg, treA ext]) := by
 refine Fn.intro rfl (by kernel_rfl) Tryd.func15 rfl rfl Tryd.ntmps15 (by exact nle rfl) ?_; intro Γ hm
 (repeat' (first | apply jA | apply jH | apply jK | apply jS | (refine rgC 0 ?_; (refine se_alloc rfl ?_); (refine se_alloc rfl ?_); apply jW) | (refine wpl_region (id := 1) ?_; (refine wpl_step rfl ?_); (refine se_lit (OpP.cons rfl (OpP.cons rfl (OpP.nil))) rfl rfl rfl rfl rfl rfl ?_); (apply jW); (refine wpl_step rfl ?_); (refine se_lit (OpP.cons rfl (OpP.nil)) rfl rfl rfl rfl rfl rfl ?_); (apply jW); (refine wpl_step rfl ?_); (refine se_lit (OpP.cons rfl (OpP.cons rfl (OpP.cons rfl (OpP.nil)))) rfl rfl rfl rfl rfl rfl ?_); (apply jW); (refine wpl_frz 5 hm rfl rfl (by first | exact rfl | fail) (by first | exact rfl | fail) rfl ?_); (refine wpl_step rfl ?_); (refine su (ap_build (RqP.cons (rq_p rfl rfl) (RqP.cons (rq_p rfl rfl) (RqP.nil))) rfl) ?_); (apply jW); (refine wpl_step rfl ?_); (refine su (ap_build (RqP.cons (rq_p rfl rfl) (RqP.nil)) rfl) ?_); (apply jW); (refine wpl_step rfl ?_); (refine se_lit (OpP.cons rfl (OpP.cons rfl (OpP.nil))) rfl rfl rfl rfl rfl rfl ?_); (apply jW); (refine wpl_step rfl ?_); (refine su (ap_build (RqP.cons (rq_p rfl rfl) (RqP.cons (rq_p rfl rfl) (RqP.cons (rq_p rfl rfl) (RqP.nil)))) rfl) ?_); (apply jW); (refine wpl_step rfl ?_); (refine se_alloc rfl ?_); (apply jW); (refine wpl_step rfl ?_); (refine se_store_b rfl rfl rfl rfl ?_); (apply jW); (apply jX)) | (refine rgC 2 ?_; (refine sloadpw rfl rfl rfl rfl ?_); (refine su (ap_build (RqP.cons (rq_p rfl rfl) (RqP.nil)) rfl) ?_); (refine su (ap_build (RqP.cons (rq_p rfl rfl) (RqP.nil)) rfl) ?_); (refine su (ap_build (RqP.cons (rq_p rfl rfl) (RqP.cons (rq_p rfl rfl) (RqP.nil))) rfl) ?_); (refine se_lit (OpP.cons rfl (OpP.cons rfl (OpP.cons rfl (OpP.nil)))) rfl rfl rfl rfl rfl rfl ?_); (refine su (ap_build (RqP.cons (rq_p rfl rfl) (RqP.nil)) rfl) ?_); (refine se_store_b rfl rfl rfl rfl ?_); (refine se_store_b rfl rfl rfl rfl ?_); apply jW)))
 exact ret_many (.cellT rfl rfl rfl rfl (.cellT rfl rfl rfl rfl .nil)) (nle rfl) (by first | ((repeat' first | exact FzL.nil | refine FzL.cons ?_ ?_ | exact Fz.nil | (exact Fz.list rfl rfl (fun _ => by simp [AV.bd, bdL, bdL_append]) (fun _ => rfl)) | (exact Fz.reflp (by simp [AV.bd, bdL, bdL_append])) | refine Fz.rowL rfl rfl rfl ?_ | refine Fz.aggL ?_); done) | fail)
theorem parse_hz {g : Gram} (hv : GVal g) {s : ByteArray} (hs : s.size <= 100000) : ∀ t a, treeT g (prodG g) (bl s) = .ok t a -> szT t <= 1000000 := fun t a h => by
 have := (tree_back hv h).2.2
 rw [bl_len] at this; omega
theorem awake23_fn : Fn Tryd.prog 6 [] (boolA true) := by
 have hn : ∀ x, x ∈ exg.terms -> x.size <= 48 := by decide +kernel
 have hm : ∀ x, x ∈ exg.nonterms -> x.size <= 48 := by decide +kernel
 have hp1 := tparse_fn exg_gv hn hm exs (by decide) (prodG_len exg) (parse_hz exg_gv (by decide))
 rw [exs_par] at hp1
 have hp2 := tparse_fn exg_gv hn hm exz (by decide) (prodG_len exg) (parse_hz exg_gv (by decide))
 rw [exz_par] at hp2
 have hl := tlift_fn ext [7, -1] (by decide) (by decide +kernel)
 rw [ext_lift] at hl
 have hv := tvalid_fn exg ext
 rw [show validT exg ext = true by decide +kernel] at hv
 have hr1 := root_fn exg_gv ext (.inr (by decide))
 rw [show rootT exg ext = -1 from rfl] at hr1
 have hr2 := root_fn exg_gv (.mk (-1) 1 []) (.inl rfl)
 rw [show rootT exg (.mk (-1) 1 []) = 1 from rfl] at hr2
 have hy := tyield_fn ext (by decide +kernel)
 rw [show leavesT ext = [0, 1] by decide +kernel] at hy
 have hpr := tprice_fn exg_gv ext (-1) ext_ok (by decide +kernel)
 rw [show priceT exg ext = 5 by decide +kernel] at hpr
 have hsz := tsize_fn ext (by decide +kernel)
 rw [show nodN ext = 4 by decide +kernel] at hsz
 have hf := tformat_fn exg_gv hm ext (-1) ext_ok (by decide) (by rw [ext_fmt]; decide)
 rw [ext_fmt, tx_bl] at hf
 have heq := tequal_fn ext ext
 rw [decide_eq_true rfl] at heq
 have hsame := same20_fn [0, 1] [0, 1]
 rw [decide_eq_true rfl] at hsame
 simp only [parseTA, liftA] at hp1 hp2 hl
 refine Fn.intro rfl (by kernel_rfl) Tryd.func6 rfl rfl Tryd.ntmps6 (by exact nle rfl) ?_; intro Γ hm
 (repeat' (first | apply jA | apply jH | (refine rgC 0 ?_; (refine sassign rfl ?_); apply jW) | (refine rgC 1 ?_; (refine sc_p rfl rfl (by first | ((repeat' (exact SubL.nil)); done) | fail) zq5 (example23_fn) ?_); (refine smove rfl ?_); (refine su (aextract rfl rfl) ?_); (refine su (aextract rfl rfl) ?_); (refine se_alloc rfl ?_); (refine se_alloc rfl ?_); (refine se_store_b rfl rfl rfl rfl ?_); (refine se_store_b rfl rfl rfl rfl ?_); apply jW) | (refine rgC 2 ?_; (refine sloadpw rfl rfl rfl rfl ?_); (refine sc_p rfl rfl zq1 zq5 (hp1) ?_); (refine smove rfl ?_); (refine su (aextract rfl rfl) ?_); (refine su (aextract rfl rfl) ?_); (refine su (aextract rfl rfl) ?_); (refine se_alloc rfl ?_); (refine se_store_b rfl rfl rfl rfl ?_); (refine sassign rfl ?_); (refine sassign rfl ?_); apply jW) | (refine rgC 3 ?_; (refine sloadpw rfl rfl rfl rfl ?_); (refine sc_p rfl rfl zq1 zq5 (hp2) ?_); (refine smove rfl ?_); (refine su (aextract rfl rfl) ?_); (refine su (aextract rfl rfl) ?_); (refine su (aextract rfl rfl) ?_); (refine se_alloc rfl ?_); (refine se_store_b rfl rfl rfl rfl ?_); (refine sassign rfl ?_); (refine sassign rfl ?_); apply jW) | (refine wpl_region (id := 4) ?_; (refine wpl_step rfl ?_); (refine sloadpw rfl rfl rfl rfl ?_); (apply jW); (refine wpl_step rfl ?_); (refine se_lit (OpP.cons rfl (OpP.cons rfl (OpP.nil))) rfl rfl rfl rfl rfl rfl ?_); (apply jW); (refine wpl_frz 29 hm rfl rfl (by first | exact rfl | fail) (by first | exact rfl | fail) rfl ?_); (refine wpl_step rfl ?_); (refine sc_p rfl rfl zq1 zq5 (hl) ?_); (apply jW); (refine wpl_step rfl ?_); (refine smove rfl ?_); (apply jW); (refine wpl_step rfl ?_); (refine su (aextract rfl rfl) ?_); (apply jW); (refine wpl_step rfl ?_); (refine su (aextract rfl rfl) ?_); (apply jW); (refine wpl_step rfl ?_); (refine se_alloc rfl ?_); (apply jW); (refine wpl_step rfl ?_); (refine se_store_b rfl rfl rfl rfl ?_); (apply jW); (refine wpl_step rfl ?_); (refine sassign rfl ?_); (apply jW); (apply jX))))
 (repeat' (first | apply jH | apply jK | apply jS | (refine wp_draw (id := 5) 74 mixed (by kernel_rfl) (by kernel_rfl) rfl ?_ <;> (refine rd_u rfl rfl (aloadpw rfl rfl rfl rfl) ?_) <;> (refine rd_u rfl rfl (aloadpw rfl rfl rfl rfl) ?_) <;> (refine rd_call rfl rfl zq1 zq5 (hv) ?_) <;> (refine rmove rfl ?_) <;> (refine rdg_u rfl rfl rfl rfl (aloadpw rfl rfl rfl rfl) ?_) <;> (refine rdg_u rfl rfl rfl rfl (aloadpw rfl rfl rfl rfl) ?_) <;> (refine rdg_call rfl rfl rfl rfl zq1 zq5 (hr1) ?_) <;> (refine rdg_u rfl rfl rfl rfl (aeql rfl rfl) ?_) <;> (refine rd_pick_t rfl rfl ?_) <;> (refine rmove rfl ?_) <;> (refine rdg_u rfl rfl rfl rfl (aloadpw rfl rfl rfl rfl) ?_) <;> (refine gfieldp rfl rfl rfl rfl rfl ?_) <;> (refine gloadp rfl rfl rfl rfl rfl rfl ?_) <;> (refine rdg_u rfl rfl rfl rfl (aidxl rfl rfl rfl) ?_) <;> (refine rdg_u rfl rfl rfl rfl (aloadw rfl rfl) ?_) <;> (refine rdg_call rfl rfl rfl rfl zq1 zq5 (hr2) ?_) <;> (refine rdg_u rfl rfl rfl rfl (aeql rfl rfl) ?_) <;> (refine rd_pick_t rfl rfl ?_) <;> (refine rmove rfl ?_) <;> (refine rdg_u rfl rfl rfl rfl (aloadpw rfl rfl rfl rfl) ?_) <;> (refine rdg_call rfl rfl rfl rfl zq1 zq5 (hy) ?_) <;> (refine rdg_frzl rfl rfl (OpP.cons rfl (OpP.cons rfl (OpP.nil))) rfl rfl rfl rfl rfl rfl (by first | exact rfl | fail) ?_) <;> (refine rdg_call rfl rfl rfl rfl zq1 zq5 (hsame) ?_) <;> (refine rd_pick_t rfl rfl ?_) <;> (refine rmove rfl ?_) <;> (refine rdg_u rfl rfl rfl rfl (aloadpw rfl rfl rfl rfl) ?_) <;> (refine rdg_u rfl rfl rfl rfl (aloadpw rfl rfl rfl rfl) ?_) <;> (refine rdg_call rfl rfl rfl rfl zq1 zq5 (hpr) ?_) <;> (refine rdg_u rfl rfl rfl rfl (aeql rfl rfl) ?_) <;> (refine rd_pick_t rfl rfl ?_) <;> (refine rmove rfl ?_) <;> (refine rdg_u rfl rfl rfl rfl (aloadpw rfl rfl rfl rfl) ?_) <;> (refine rdg_call rfl rfl rfl rfl zq1 zq5 (hsz) ?_) <;> (refine rdg_u rfl rfl rfl rfl (aeql rfl rfl) ?_) <;> (refine rd_pick_t rfl rfl ?_) <;> (refine rmove rfl ?_) <;> (refine rdg_u rfl rfl rfl rfl (aloadpw rfl rfl rfl rfl) ?_) <;> (refine rdg_u rfl rfl rfl rfl (aloadpw rfl rfl rfl rfl) ?_) <;> (refine rdg_call rfl rfl rfl rfl zq1 zq5 (hf) ?_) <;> (refine rdg_u rfl rfl rfl rfl (aeqs rfl rfl) ?_) <;> (refine rd_pick_t rfl rfl ?_) <;> (refine rmove rfl ?_) <;> (refine gmove rfl rfl rfl ?_) <;> (refine rdg_u rfl rfl rfl rfl (aeql rfl rfl) ?_) <;> (refine rd_pick_t rfl rfl ?_) <;> (refine rmove rfl ?_) <;> (refine rdg_u rfl rfl rfl rfl (aloadpw rfl rfl rfl rfl) ?_) <;> (refine rdg_u rfl rfl rfl rfl (aloadpw rfl rfl rfl rfl) ?_) <;> (refine rdg_call rfl rfl rfl rfl zq1 zq5 (heq) ?_) <;> (refine rd_pick_t rfl rfl ?_) <;> (refine rmove rfl ?_) <;> (refine gmove rfl rfl rfl ?_) <;> (refine rdg_u rfl rfl rfl rfl (aeql rfl rfl) ?_) <;> (refine rd_pick_t rfl rfl ?_) <;> (refine rmove rfl ?_) <;> (refine gmove rfl rfl rfl ?_) <;> (refine rdg_u rfl rfl rfl rfl (aeql rfl rfl) ?_) <;> (refine rd_pick_t rfl rfl ?_) <;> (refine rmove rfl ?_) <;> (refine gmove rfl rfl rfl ?_) <;> (refine rdg_u rfl rfl rfl rfl (aeql rfl rfl) ?_) <;> (refine rd_pick_t rfl rfl ?_) <;> (refine rmove rfl ?_) <;> (refine gfieldp rfl rfl rfl rfl rfl ?_) <;> (refine gloadp rfl rfl rfl rfl rfl rfl ?_) <;> (refine rdg_u rfl rfl rfl rfl (aeql rfl rfl) ?_) <;> (refine rd_pick_t rfl rfl ?_) <;> (refine rmove rfl ?_) <;> (refine gfieldp rfl rfl rfl rfl rfl ?_) <;> (refine gloadp rfl rfl rfl rfl rfl rfl ?_) <;> (refine rdg_u rfl rfl rfl rfl (alens rfl rfl) ?_) <;> (refine rdg_u rfl rfl rfl rfl (aeql rfl rfl) ?_) <;> (refine rd_pick_t rfl rfl ?_) <;> (refine rd_u rfl rfl (aassign rfl) ?_) <;> (refine rd_end (by kernel_rfl) ?_)) | exact ret_eq rfl rfl rfl))
end Go.Lg
namespace Go.Lg
open Go.Proofs
attribute [local irreducible] Ap Rq asemC WP RunD Ret Gq thenA inBlockA bodyQ noGotoA RqL RqP OpP
attribute [local simp] AV.cells
theorem leaves_sz (t : Tre) : (leavesT t).length <= szT t := by
 induction t using Tre.ind with
 | h t ih =>
  rw [leavesT_eq, szT_eq]
  split
  ·simp
  ·have key : ∀ l : List Tre, (∀ x, x ∈ l -> x ∈ t.kids) -> (leavesTL l).length <= szTL l := by
    intro l
    induction l with
    | nil => intro _; simp [leavesTL]
    | cons a l ihl =>
     intro hl
     have h1 := ih a (hl a (by simp))
     have h2 := ihl fun x hx => hl x (by simp [hx])
     rw [leavesTL, szTL, List.length_append]; omega
   have := key t.kids fun _ h => h
   omega
theorem validT_ok {g : Gram} {t : Tre} (h : validT g t = true) : GVal g /\ tokT g t /\ (t.rule = -1 \/ (0 <= t.rule /\ t.rule < g.rules.length)) /\ ∃ x, okT g x t = true /\ x < g.terms.length := by
 unfold validT at h
 rw [Bool.and_eq_true] at h
 have hv := validG_iff.1 h.1
 have hin := vT_in h.2
 have h2 := h.2
 unfold vT at h2
 refine ⟨hv, ?_, hin, rootT g t, ?_, ?_⟩
 ·split at h2
  ·rename_i hr
   simp only [Bool.and_eq_true, decide_eq_true_eq] at h2
   exact .inl ⟨hr, h2.1.1, h2.1.2, List.eq_nil_of_length_eq_zero h2.2⟩
  ·rename_i hr
   simp only [Bool.and_eq_true, decide_eq_true_eq] at h2
   unfold rootT at h2
   rw [if_neg hr] at h2
   exact .inr ⟨h2.1.1, h2.1.2, h2.2⟩
 ·split at h2
  ·rename_i hr
   simp only [Bool.and_eq_true, decide_eq_true_eq] at h2
   unfold rootT
   rw [if_pos hr, okT_eq, if_pos h2.1.1]
   simp only [Bool.and_eq_true, decide_eq_true_eq]
   exact ⟨⟨hr, by trivial⟩, h2.2⟩
  ·simp only [Bool.and_eq_true] at h2
   exact h2.2
 ·split at h2
  ·rename_i hr
   simp only [Bool.and_eq_true, decide_eq_true_eq] at h2
   unfold rootT
   rw [if_pos hr]; exact h2.1.2
  ·rename_i hr
   simp only [Bool.and_eq_true, decide_eq_true_eq] at h2
   have h0 := (hv.rule _ (nth_mem (show t.rule.toNat < g.rules.length by omega))).h0
   unfold rootT
   rw [if_neg hr]; omega
end Go.Lg
namespace Go.Lg
open Go.Proofs
attribute [local irreducible] Ap Rq asemC WP RunD Ret Gq thenA inBlockA bodyQ noGotoA RqL RqP OpP
attribute [local simp] AV.cells
theorem strat20_fn (g : Gram) (l : List GLe) (hf : FewL l) : Fn Tryd.prog 7 [gramA g, levelsA l] (stratA (stratR g l)) := by
 by_cases h : checkG g l = 0
 ·exact strat20_yes l hf h
 ·exact strat20_no l hf h
theorem tok_valid {g : Gram} (hv : GVal g) {t : Tre} (h : tokT g t) : validT g t = true := by
 unfold validT
 rw [validG_iff.2 hv, Bool.true_and]
 unfold vT
 rcases h with ⟨h1, h2, h3, h4⟩ | ⟨h1, h2, h3⟩
 ·rw [if_pos h1]
  simp only [Bool.and_eq_true, decide_eq_true_eq]
  exact ⟨⟨h2, h3⟩, by rw [h4]; rfl⟩
 ·rw [if_neg (by omega)]
  simp only [Bool.and_eq_true, decide_eq_true_eq]
  refine ⟨⟨h1, h2⟩, ?_⟩
  unfold rootT
  rw [if_neg (by omega)]; exact h3
theorem tok_ok {g : Gram} {t : Tre} (h : tokT g t) : ∃ x, okT g x t = true := by
 rcases h with ⟨h1, h2, h3, h4⟩ | ⟨h1, h2, h3⟩
 ·exact ⟨t.term, by rw [okT_leaf h2]; exact Tre.ext' h1 rfl h4⟩
 ·exact ⟨_, h3⟩
theorem law_tstrat (g : Gram) (l : List GLe) (t : Tre) : Fn Tryd.prog 3 [gramA g, levelsA l, treA t] (boolA true) := by
 have h1 := few20_fn g l 20 (by decide) (by decide)
 have h2 := fewT_fn t 100 (by decide) (by decide)
 have haw := awake23_fn
 cases hfl : fewG g l 20 with
 | false =>
  rw [hfl] at h1
  rw [treA_kids] at *
  refine Fn.intro rfl (by kernel_rfl) Tryd.func3 rfl rfl Tryd.ntmps3 (by exact nle rfl) ?_; intro Γ hm
  (repeat' (first | apply jA | apply jH | apply jK | apply jM | apply jS | (refine wp_cond rfl (fun hc => ?_) (fun hc => ?_) <;> (try simp only [sB, ne_eq, reduceCtorEq] at hc) <;> (try (exfalso; omega))) | (refine rgC 0 ?_; (refine se_box rfl (by exact ⟨rfl, rfl⟩) ?_); (refine se_box rfl (by exact ⟨rfl, rfl⟩) ?_); (refine sassign rfl ?_); apply jW) | (refine rgC 1 ?_; (refine sloadpw rfl rfl rfl rfl ?_); (refine smove rfl ?_); (refine sc_p rfl rfl zq1 zq5 (h1) ?_); (refine su (anot rfl) ?_); (refine smove rfl ?_); (refine sg (gq_vf rfl rfl) (fun he => ap_load_pw (rq_p rfl rfl) rfl rfl rfl) ?_); (refine sk_no rfl rfl ?_); (refine sk_no rfl rfl ?_); (refine pk_t rfl rfl ?_); apply jW) | (refine rgC 2 ?_; (refine sc_p rfl rfl (by first | ((repeat' (exact SubL.nil)); done) | fail) zq5 (haw) ?_); (refine sassign rfl ?_); apply jW) | exact ret_eq rfl rfl rfl))
  all_goals (rfl)
 | true =>
  rw [hfl] at h1
  have hf := FewL.of hfl
  have hS := strat20_fn g l hf
  unfold stratA at hS
  cases hft : fewT t 100 with
  | false =>
   rw [hft] at h2
   rw [treA_kids] at *
   refine Fn.intro rfl (by kernel_rfl) Tryd.func3 rfl rfl Tryd.ntmps3 (by exact nle rfl) ?_; intro Γ hm
   (repeat' (first | apply jA | apply jH | apply jI | apply jK | apply jM | apply jS | (refine wp_cond rfl (fun hc => ?_) (fun hc => ?_) <;> (try simp only [sB, ne_eq, reduceCtorEq] at hc) <;> (try (exfalso; omega))) | (refine rgC 0 ?_; (refine se_box rfl (by exact ⟨rfl, rfl⟩) ?_); (refine se_box rfl (by exact ⟨rfl, rfl⟩) ?_); (refine sassign rfl ?_); apply jW) | (refine rgC 1 ?_; (refine sloadpw rfl rfl rfl rfl ?_); (refine smove rfl ?_); (refine sc_p rfl rfl zq1 zq5 (h1) ?_); (refine su (anot rfl) ?_); (refine smove rfl ?_); (refine sg (gq_vf rfl rfl) (fun he => ap_load_pw (rq_p rfl rfl) rfl rfl rfl) ?_); (refine sg_p (gq_vf rfl rfl) (fun he => ⟨(rq_p rfl rfl), (RqL.cons (rq_c rfl rfl) (RqL.cons (rq_p rfl rfl) (RqL.nil))), zq1, zq5, h2⟩) ?_); (refine sg (gq_vf rfl rfl) (fun he => ap_not (rq_c rfl rfl)) ?_); (refine su (ap_or (rq_p rfl rfl) (rq_c rfl rfl)) ?_); apply jW) | (refine rgC 2 ?_; (refine sc_p rfl rfl (by first | ((repeat' (exact SubL.nil)); done) | fail) zq5 (haw) ?_); (refine sassign rfl ?_); apply jW) | exact ret_eq rfl rfl rfl))
   all_goals ((exfalso; simp at hc; done))
  | true =>
   rw [hft] at h2
   have hs := few_sz hft
   by_cases hok : checkG g l = 0 /\ validG (stratG g l) = true
   ·obtain ⟨hc0, hvs⟩ := hok
    have gv := (check_facts hc0).1
    have gvs := validG_iff.1 hvs
    have hR : stratR g l = (stratG g l, fromG g l, 0) := by unfold stratR; rw [if_pos hc0, if_pos hvs]
    rw [hR] at hS
    simp only at hS
    have hvt := rvalid23_fn (stratG g l) t
    have hfl2 := fromG_len g l
    have hr2s := gvs.r2
    cases hvv : validT (stratG g l) t with
    | false =>
     rw [hvv] at hvt
     generalize stratG g l = s at *
     generalize fromG g l = fr at *
     rw [treA_kids] at *
     refine Fn.intro rfl (by kernel_rfl) Tryd.func3 rfl rfl Tryd.ntmps3 (by exact nle rfl) ?_; intro Γ hm
     (repeat' (first | apply jA | apply jH | apply jI | apply jK | apply jM | apply jS | (refine wp_cond rfl (fun hc => ?_) (fun hc => ?_) <;> (try simp only [sB, ne_eq, reduceCtorEq] at hc) <;> (try (exfalso; omega))) | (refine rgC 0 ?_; (refine se_box rfl (by exact ⟨rfl, rfl⟩) ?_); (refine se_box rfl (by exact ⟨rfl, rfl⟩) ?_); (refine sassign rfl ?_); apply jW) | (refine rgC 1 ?_; (refine sloadpw rfl rfl rfl rfl ?_); (refine smove rfl ?_); (refine sc_p rfl rfl zq1 zq5 (h1) ?_); (refine su (anot rfl) ?_); (refine smove rfl ?_); (refine sg (gq_vf rfl rfl) (fun he => ap_load_pw (rq_p rfl rfl) rfl rfl rfl) ?_); (refine sg_p (gq_vf rfl rfl) (fun he => ⟨(rq_p rfl rfl), (RqL.cons (rq_c rfl rfl) (RqL.cons (rq_p rfl rfl) (RqL.nil))), zq1, zq5, h2⟩) ?_); (refine sg (gq_vf rfl rfl) (fun he => ap_not (rq_c rfl rfl)) ?_); (refine su (ap_or (rq_p rfl rfl) (rq_c rfl rfl)) ?_); apply jW) | (refine rgC 3 ?_; (refine sloadpw rfl rfl rfl rfl ?_); (refine smove rfl ?_); (refine sc_p rfl rfl zq1 zq5 (hS) ?_); (refine smove rfl ?_); (refine su (aextract rfl rfl) ?_); (refine su (aextract rfl rfl) ?_); (refine su (aextract rfl rfl) ?_); (refine se_alloc rfl ?_); (refine se_store_b rfl rfl rfl rfl ?_); (refine sassign rfl ?_); (refine sassign rfl ?_); apply jW) | (refine rgC 4 ?_; (refine smove rfl ?_); (refine su (aneq rfl rfl) ?_); (refine smove rfl ?_); (refine sg (gq_vf rfl rfl) (fun he => ap_load_pw (rq_p rfl rfl) rfl rfl rfl) ?_); (refine sg (gq_vf rfl rfl) (fun he => ap_load_pw (rq_p rfl rfl) rfl rfl rfl) ?_); (refine sg_p (gq_vf rfl rfl) (fun he => ⟨(rq_p rfl rfl), (RqL.cons (rq_c rfl rfl) (RqL.cons (rq_c rfl rfl) (RqL.nil))), zq1, zq5, hvt⟩) ?_); (refine sg (gq_vf rfl rfl) (fun he => ap_not (rq_c rfl rfl)) ?_); (refine su (ap_or (rq_p rfl rfl) (rq_c rfl rfl)) ?_); (refine smove rfl ?_); (refine sg (gq_vf rfl rfl) (fun he => ap_field_p (rq_p rfl rfl) rfl rfl) ?_); (refine sg (gq_vf rfl rfl) (fun he => ap_load_p (rq_c rfl rfl) rfl rfl rfl) ?_); (refine sg (gq_vf rfl rfl) (fun he => ap_lss (rq_c rfl rfl) (rq_p rfl rfl)) ?_); (refine su (ap_or (rq_p rfl rfl) (rq_c rfl rfl)) ?_); apply jW) | (refine rgC 5 ?_; (refine sc_p rfl rfl (by first | ((repeat' (exact SubL.nil)); done) | fail) zq5 (haw) ?_); (refine sassign rfl ?_); apply jW) | exact ret_eq rfl rfl rfl))
     all_goals ((exfalso; simp at hc; done))
    | true =>
     rw [hvv] at hvt
     have htok := (validT_ok hvv).2.1
     by_cases hr0 : 0 <= t.rule
     ·obtain ⟨x, a1, a2, a3, a4, a5⟩ := strat_law (l := l) gv hr0 htok
      have hl := tlift_fn t (fromG g l) (by omega) (by omega)
      rw [a1] at hl
      unfold liftA at hl
      simp only at hl
      have hx := tvalid_fn g x
      rw [tok_valid gv a2] at hx
      obtain ⟨y1, hy1⟩ := tok_ok a2
      obtain ⟨y2, hy2⟩ := tok_ok htok
      have hL := leaves_sz t
      have hL2 := leaves_sz x
      have ya := tyield_fn x (by omega)
      have yb := tyield_fn t (by omega)
      rw [a4] at ya
      have pa := tprice_fn gv x y1 hy1 (by omega)
      have pb := tprice_fn gvs t y2 hy2 (by omega)
      rw [a3] at pa
      have hsm := same20_fn (leavesT t) (leavesT t)
      rw [decide_eq_true rfl] at hsm
      generalize priceT (stratG g l) t = pr at *
      generalize leavesT t = L at *
      generalize stratG g l = s at *
      generalize fromG g l = fr at *
      rw [treA_kids t] at *
      rw [treA_kids x] at *
      refine Fn.intro rfl (by kernel_rfl) Tryd.func3 rfl rfl Tryd.ntmps3 (by exact nle rfl) ?_; intro Γ hm
      (repeat' (first | apply jA | apply jH | apply jI | apply jK | apply jS | (refine wp_cond rfl (fun hc => ?_) (fun hc => ?_) <;> (try simp only [sB, ne_eq, reduceCtorEq] at hc) <;> (try (exfalso; omega))) | (refine rgC 0 ?_; (refine se_box rfl (by exact ⟨rfl, rfl⟩) ?_); (refine se_box rfl (by exact ⟨rfl, rfl⟩) ?_); (refine sassign rfl ?_); apply jW) | (refine rgC 1 ?_; (refine sloadpw rfl rfl rfl rfl ?_); (refine smove rfl ?_); (refine sc_p rfl rfl zq1 zq5 (h1) ?_); (refine su (anot rfl) ?_); (refine smove rfl ?_); (refine sg (gq_vf rfl rfl) (fun he => ap_load_pw (rq_p rfl rfl) rfl rfl rfl) ?_); (refine sg_p (gq_vf rfl rfl) (fun he => ⟨(rq_p rfl rfl), (RqL.cons (rq_c rfl rfl) (RqL.cons (rq_p rfl rfl) (RqL.nil))), zq1, zq5, h2⟩) ?_); (refine sg (gq_vf rfl rfl) (fun he => ap_not (rq_c rfl rfl)) ?_); (refine su (ap_or (rq_p rfl rfl) (rq_c rfl rfl)) ?_); apply jW) | (refine rgC 3 ?_; (refine sloadpw rfl rfl rfl rfl ?_); (refine smove rfl ?_); (refine sc_p rfl rfl zq1 zq5 (hS) ?_); (refine smove rfl ?_); (refine su (aextract rfl rfl) ?_); (refine su (aextract rfl rfl) ?_); (refine su (aextract rfl rfl) ?_); (refine se_alloc rfl ?_); (refine se_store_b rfl rfl rfl rfl ?_); (refine sassign rfl ?_); (refine sassign rfl ?_); apply jW) | (refine rgC 4 ?_; (refine smove rfl ?_); (refine su (aneq rfl rfl) ?_); (refine smove rfl ?_); (refine sg (gq_vf rfl rfl) (fun he => ap_load_pw (rq_p rfl rfl) rfl rfl rfl) ?_); (refine sg (gq_vf rfl rfl) (fun he => ap_load_pw (rq_p rfl rfl) rfl rfl rfl) ?_); (refine sg_p (gq_vf rfl rfl) (fun he => ⟨(rq_p rfl rfl), (RqL.cons (rq_c rfl rfl) (RqL.cons (rq_c rfl rfl) (RqL.nil))), zq1, zq5, hvt⟩) ?_); (refine sg (gq_vf rfl rfl) (fun he => ap_not (rq_c rfl rfl)) ?_); (refine su (ap_or (rq_p rfl rfl) (rq_c rfl rfl)) ?_); (refine smove rfl ?_); (refine sg (gq_vf rfl rfl) (fun he => ap_field_p (rq_p rfl rfl) rfl rfl) ?_); (refine sg (gq_vf rfl rfl) (fun he => ap_load_p (rq_c rfl rfl) rfl rfl rfl) ?_); (refine sg (gq_vf rfl rfl) (fun he => ap_lss (rq_c rfl rfl) (rq_p rfl rfl)) ?_); (refine su (ap_or (rq_p rfl rfl) (rq_c rfl rfl)) ?_); apply jW) | (refine rgC 6 ?_; (refine sloadpw rfl rfl rfl rfl ?_); (refine smove rfl ?_); (refine sc_p rfl rfl zq1 zq5 (hl) ?_); (refine smove rfl ?_); (refine su (aextract rfl rfl) ?_); (refine su (aextract rfl rfl) ?_); (refine se_alloc rfl ?_); (refine se_store_b rfl rfl rfl rfl ?_); (refine sassign rfl ?_); apply jW) | (refine wp_draw (id := 7) 27 mixed (by kernel_rfl) (by kernel_rfl) rfl ?_ <;> (refine rd_call rfl rfl (by first | ((repeat' (exact SubL.nil)); done) | fail) zq5 (haw) ?_) <;> (refine rmove rfl ?_) <;> (refine gmove rfl rfl rfl ?_) <;> (refine rdg_u rfl rfl rfl rfl (aeql rfl rfl) ?_) <;> (refine rd_pick_t rfl rfl ?_) <;> (refine rmove rfl ?_) <;> (refine rdg_u rfl rfl rfl rfl (aloadpw rfl rfl rfl rfl) ?_) <;> (refine rdg_u rfl rfl rfl rfl (aloadpw rfl rfl rfl rfl) ?_) <;> (refine rdg_call rfl rfl rfl rfl zq1 zq5 (hx) ?_) <;> (refine rd_pick_t rfl rfl ?_) <;> (refine rmove rfl ?_) <;> (refine rdg_u rfl rfl rfl rfl (aloadpw rfl rfl rfl rfl) ?_) <;> (refine rdg_call rfl rfl rfl rfl zq1 zq5 (ya) ?_) <;> (refine rdg_u rfl rfl rfl rfl (aloadpw rfl rfl rfl rfl) ?_) <;> (refine rdg_call rfl rfl rfl rfl zq1 zq5 (yb) ?_) <;> (refine rdg_call rfl rfl rfl rfl zq1 zq5 (hsm) ?_) <;> (refine rd_pick_t rfl rfl ?_) <;> (refine rmove rfl ?_) <;> (refine rdg_u rfl rfl rfl rfl (aloadpw rfl rfl rfl rfl) ?_) <;> (refine rdg_u rfl rfl rfl rfl (aloadpw rfl rfl rfl rfl) ?_) <;> (refine rdg_call rfl rfl rfl rfl zq1 zq5 (pa) ?_) <;> (refine rdg_u rfl rfl rfl rfl (aloadpw rfl rfl rfl rfl) ?_) <;> (refine rdg_u rfl rfl rfl rfl (aloadpw rfl rfl rfl rfl) ?_) <;> (refine rdg_call rfl rfl rfl rfl zq1 zq5 (pb) ?_) <;> (refine rdg_u rfl rfl rfl rfl (aeql rfl rfl) ?_) <;> (refine rd_pick_t rfl rfl ?_) <;> (refine rd_u rfl rfl (aassign rfl) ?_) <;> (refine rd_end (by kernel_rfl) ?_)) | refine ret_b rfl ?_))
      all_goals (first | (exfalso; simp at hc; done) | (exfalso; simp at hc; omega) | simp)
     ·generalize stratG g l = s at *
      generalize fromG g l = fr at *
      rw [treA_kids] at *
      refine Fn.intro rfl (by kernel_rfl) Tryd.func3 rfl rfl Tryd.ntmps3 (by exact nle rfl) ?_; intro Γ hm
      (repeat' (first | apply jA | apply jH | apply jI | apply jK | apply jM | apply jS | (refine wp_cond rfl (fun hc => ?_) (fun hc => ?_) <;> (try simp only [sB, ne_eq, reduceCtorEq] at hc) <;> (try (exfalso; omega))) | (refine rgC 0 ?_; (refine se_box rfl (by exact ⟨rfl, rfl⟩) ?_); (refine se_box rfl (by exact ⟨rfl, rfl⟩) ?_); (refine sassign rfl ?_); apply jW) | (refine rgC 1 ?_; (refine sloadpw rfl rfl rfl rfl ?_); (refine smove rfl ?_); (refine sc_p rfl rfl zq1 zq5 (h1) ?_); (refine su (anot rfl) ?_); (refine smove rfl ?_); (refine sg (gq_vf rfl rfl) (fun he => ap_load_pw (rq_p rfl rfl) rfl rfl rfl) ?_); (refine sg_p (gq_vf rfl rfl) (fun he => ⟨(rq_p rfl rfl), (RqL.cons (rq_c rfl rfl) (RqL.cons (rq_p rfl rfl) (RqL.nil))), zq1, zq5, h2⟩) ?_); (refine sg (gq_vf rfl rfl) (fun he => ap_not (rq_c rfl rfl)) ?_); (refine su (ap_or (rq_p rfl rfl) (rq_c rfl rfl)) ?_); apply jW) | (refine rgC 3 ?_; (refine sloadpw rfl rfl rfl rfl ?_); (refine smove rfl ?_); (refine sc_p rfl rfl zq1 zq5 (hS) ?_); (refine smove rfl ?_); (refine su (aextract rfl rfl) ?_); (refine su (aextract rfl rfl) ?_); (refine su (aextract rfl rfl) ?_); (refine se_alloc rfl ?_); (refine se_store_b rfl rfl rfl rfl ?_); (refine sassign rfl ?_); (refine sassign rfl ?_); apply jW) | (refine rgC 4 ?_; (refine smove rfl ?_); (refine su (aneq rfl rfl) ?_); (refine smove rfl ?_); (refine sg (gq_vf rfl rfl) (fun he => ap_load_pw (rq_p rfl rfl) rfl rfl rfl) ?_); (refine sg (gq_vf rfl rfl) (fun he => ap_load_pw (rq_p rfl rfl) rfl rfl rfl) ?_); (refine sg_p (gq_vf rfl rfl) (fun he => ⟨(rq_p rfl rfl), (RqL.cons (rq_c rfl rfl) (RqL.cons (rq_c rfl rfl) (RqL.nil))), zq1, zq5, hvt⟩) ?_); (refine sg (gq_vf rfl rfl) (fun he => ap_not (rq_c rfl rfl)) ?_); (refine su (ap_or (rq_p rfl rfl) (rq_c rfl rfl)) ?_); (refine smove rfl ?_); (refine sg (gq_vf rfl rfl) (fun he => ap_field_p (rq_p rfl rfl) rfl rfl) ?_); (refine sg (gq_vf rfl rfl) (fun he => ap_load_p (rq_c rfl rfl) rfl rfl rfl) ?_); (refine sg (gq_vf rfl rfl) (fun he => ap_lss (rq_c rfl rfl) (rq_p rfl rfl)) ?_); (refine su (ap_or (rq_p rfl rfl) (rq_c rfl rfl)) ?_); apply jW) | (refine rgC 5 ?_; (refine sc_p rfl rfl (by first | ((repeat' (exact SubL.nil)); done) | fail) zq5 (haw) ?_); (refine sassign rfl ?_); apply jW) | exact ret_eq rfl rfl rfl))
      all_goals ((exfalso; simp at hc; done))
   ·have hR : ∃ e, e ≠ 0 /\ stratR g l = (zG, [], e) := by
     unfold stratR
     by_cases hc0 : checkG g l = 0
     ·rw [if_pos hc0, if_neg (fun h => hok ⟨hc0, h⟩)]
      exact ⟨11, by decide, rfl⟩
     ·rw [if_neg hc0]
      exact ⟨_, hc0, rfl⟩
    obtain ⟨e, he0, hR⟩ := hR
    rw [hR] at hS
    simp only at hS
    have hvt := rvalid23_fn zG t
    rw [treA_kids] at *
    refine Fn.intro rfl (by kernel_rfl) Tryd.func3 rfl rfl Tryd.ntmps3 (by exact nle rfl) ?_; intro Γ hm
    (repeat' (first | apply jA | apply jH | apply jI | apply jK | apply jM | apply jS | (refine wp_cond rfl (fun hc => ?_) (fun hc => ?_) <;> (try simp only [sB, ne_eq, reduceCtorEq] at hc) <;> (try (exfalso; omega))) | (refine rgC 0 ?_; (refine se_box rfl (by exact ⟨rfl, rfl⟩) ?_); (refine se_box rfl (by exact ⟨rfl, rfl⟩) ?_); (refine sassign rfl ?_); apply jW) | (refine rgC 1 ?_; (refine sloadpw rfl rfl rfl rfl ?_); (refine smove rfl ?_); (refine sc_p rfl rfl zq1 zq5 (h1) ?_); (refine su (anot rfl) ?_); (refine smove rfl ?_); (refine sg (gq_vf rfl rfl) (fun he => ap_load_pw (rq_p rfl rfl) rfl rfl rfl) ?_); (refine sg_p (gq_vf rfl rfl) (fun he => ⟨(rq_p rfl rfl), (RqL.cons (rq_c rfl rfl) (RqL.cons (rq_p rfl rfl) (RqL.nil))), zq1, zq5, h2⟩) ?_); (refine sg (gq_vf rfl rfl) (fun he => ap_not (rq_c rfl rfl)) ?_); (refine su (ap_or (rq_p rfl rfl) (rq_c rfl rfl)) ?_); apply jW) | (refine rgC 3 ?_; (refine sloadpw rfl rfl rfl rfl ?_); (refine smove rfl ?_); (refine sc_p rfl rfl zq1 zq5 (hS) ?_); (refine smove rfl ?_); (refine su (aextract rfl rfl) ?_); (refine su (aextract rfl rfl) ?_); (refine su (aextract rfl rfl) ?_); (refine se_alloc rfl ?_); (refine se_store_b rfl rfl rfl rfl ?_); (refine sassign rfl ?_); (refine sassign rfl ?_); apply jW) | (refine rgC 4 ?_; (refine smove rfl ?_); (refine su (aneq rfl rfl) ?_); (refine smove rfl ?_); (refine sg (gq_vf rfl rfl) (fun he => ap_load_pw (rq_p rfl rfl) rfl rfl rfl) ?_); (refine sg (gq_vf rfl rfl) (fun he => ap_load_pw (rq_p rfl rfl) rfl rfl rfl) ?_); (refine sg_p (gq_vf rfl rfl) (fun he => ⟨(rq_p rfl rfl), (RqL.cons (rq_c rfl rfl) (RqL.cons (rq_c rfl rfl) (RqL.nil))), zq1, zq5, hvt⟩) ?_); (refine sg (gq_vf rfl rfl) (fun he => ap_not (rq_c rfl rfl)) ?_); (refine su (ap_or (rq_p rfl rfl) (rq_c rfl rfl)) ?_); (refine smove rfl ?_); (refine sg (gq_vf rfl rfl) (fun he => ap_field_p (rq_p rfl rfl) rfl rfl) ?_); (refine sg (gq_vf rfl rfl) (fun he => ap_load_p (rq_c rfl rfl) rfl rfl rfl) ?_); (refine sg (gq_vf rfl rfl) (fun he => ap_lss (rq_c rfl rfl) (rq_p rfl rfl)) ?_); (refine su (ap_or (rq_p rfl rfl) (rq_c rfl rfl)) ?_); apply jW) | (refine rgC 5 ?_; (refine sc_p rfl rfl (by first | ((repeat' (exact SubL.nil)); done) | fail) zq5 (haw) ?_); (refine sassign rfl ?_); apply jW) | exact ret_eq rfl rfl rfl))
    all_goals ((exfalso; simp at hc; done))
end Go.Lg
