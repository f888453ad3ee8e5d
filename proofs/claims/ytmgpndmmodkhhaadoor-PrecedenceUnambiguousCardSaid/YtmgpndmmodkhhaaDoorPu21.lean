/-
  Part 21 of the proof of PrecedenceUnambiguousCard: the logic over the model, the functions' contracts and the plain laws.
-/
import Derived.Test.YtmgpndmmodkhhaaDoorPu20
import Derived.Recover

set_option linter.unusedSimpArgs false
set_option linter.unusedVariables false
set_option linter.unusedSectionVars false
set_option linter.defProp false
set_option maxRecDepth 20000
set_option maxHeartbeats 8000000

namespace Go.Lg
open Go.RowKit
def DefD (P : Program) (g : FuncId) (ys : List AV) (os : List AObj) (u : FrameMode) (os' : List AObj) : Prop :=
 enterable P g = true /\ os.length = os'.length /\ ∀ (Γ : Cx) (vs : Array Value), Γ.m = os.length /\ Γ.mrk = false -> Γ.ds = [] -> SR Γ ⟨ys, os.map some⟩ ⟨vs, []⟩ Γ.w0 ->
  CallsD P g vs u Γ.w0 fun e u' w' => (∃ v, e = .returned v) /\ settle u' = .returning /\ SR Γ ⟨[.tup []], os'.map some⟩ ⟨#[.tuple #[]], []⟩ w'
section
variable {P : Program} {Γ : Cx} {A : Nat -> Prop} {ρ : Nat -> Option Nat} {s : St} {a : Act} {w : World} {n M : Nat} {l : List (Nat × AV)} {os : List (Nat × Option AObj)} {c : Code} {Q : Exit -> St -> Prop} {g : FuncId} {ys : List AV}
theorem SRa.boxes (h : SRa Γ A ρ s a w) (hm0 : Γ.m = 0) (hds : Γ.ds = []) (m : Nat) (hl : ∀ i, i < m -> ∃ o, s.live i o) (d : Deferred) :
  ∃ Γ' : Cx, Γ'.m = m /\ Γ'.ds = [d] /\ Γ'.mrk = false /\ Γ'.ρ0 = ρ /\ SRa Γ' A ρ s { a with defers := [d] } w /\ ∀ s a w, SR Γ' s a w -> SR Γ s { a with defers := [] } w := by
 have hnew : ∀ i, i < m -> ∀ b, ρ i = some b -> Γ.w0.heap.size <= b := fun i hi b hb => by
  obtain ⟨o, ho⟩ := hl i hi
  rcases h.own i o b ho hb with h1 | ⟨j, hj, _⟩
  ·exact h1
  ·omega
 refine ⟨⟨Γ.w0, Γ.I0, m, ρ, Γ.hG, Γ.hgl, fun i hi b hb => Nat.le_trans Γ.hgl (hnew i hi b hb), [d], fun i hi b hb => .inr (hnew i hi b hb), false⟩, rfl, rfl, rfl, rfl, ?_, ?_⟩
 ·refine ⟨fun i hi => ⟨(hl i hi).elim fun o ho => h.made i o ho, rfl⟩, h.len, h.tmp, h.obj, h.made, h.bound, fun id o b ho hb => ?_, h.inj, .nil rfl, ⟨h.fr.size, h.fr.os, h.fr.tape, h.fr.output, fun b hb _ => h.fr.block b hb fun i hi => by omega, h.fr.csize⟩⟩
  rcases h.own id o b ho hb with h1 | ⟨j, hj, _⟩
  ·exact .inl h1
  ·omega
 ·rintro s a w ⟨ρ', h'⟩
  refine ⟨ρ', fun i hi => by omega, h'.len, h'.tmp, h'.obj, h'.made, h'.bound, fun id o b ho hb => ?_, h'.inj, .nil hds.symm, ⟨h'.fr.size, h'.fr.os, h'.fr.tape, h'.fr.output, fun b hb _ => h'.fr.block b hb fun i hi e => ?_, h'.fr.csize⟩⟩
  ·rcases h'.own id o b ho hb with h1 | ⟨j, hj, h1⟩
   ·exact .inl h1
   ·exact .inl (hnew j hj b h1)
  ·have := hnew i hi b e
   omega
def modeOf : Exit -> Option FrameMode
 | .normal | .ret => some .returning
 | .panic ch => some (.panicking ch)
 | _ => none
def bodyD (P : Program) (rs : List ResultVar) (gc : FuncId) (capA : List AV) (X : AV) (e : Exit) (s : St) : Prop :=
 ∃ u, modeOf e = some u /\ ∃ (is : List Nat) (ys' : List AV) (mid fin : List AObj), Lend is s ([] ++ [] ++ capA) ys' mid /\ DefD P gc ys' mid u fin /\ Ret P rs X ⟨s.tmps, updO (apx s.objs.length is) s.objs is (fin.map some)⟩
theorem FnD.intro {fn : Func} {c0 c2 : Code} {id : Nat} {d : Tmp} {gc : FuncId} {caps : Array Operand} {t1 t2 : TypeId} {p1 p2 : String} {af1 af2 : Array Edge} {rs : List ResultVar} {X : AV} {l1 : List (Nat × AV)} {M1 : Nat} {os1 : List (Nat × Option AObj)} {capA : List AV}
  (hX : X.bd 0 = true) (he : enterable P g = true) (hf : P.funcs[g]? = some fn) (hb : fn.body = some (.seq c0 (.seq (.region id [⟨some d, .makeFunc (.func gc) #[] caps, t1, p1, af1, none⟩, ⟨none, .defer ⟨.value (.tmp d), #[], #[]⟩, t2, p2, af2, none⟩].toArray false) c2)))
  (hrs : fn.results = rs.toArray) (hn : fn.ntmps = n) (hl : ys.length <= n) (hdn : d < n) (hcap : opqL n l1 caps.toList = some capA) (hptr : ∀ x, x ∈ capA -> ∃ i k, x = .ptr i k 0 0 /\ i < M1) (hlive : ∀ i, i < M1 -> (lookq M1 os1 i).isSome = true)
  (h0 : ∀ Γ : Cx, Γ.m = 0 -> WP P Γ c0 (fun e s => e = .normal /\ s = S n l1 M1 os1) (S n (enumA 0 ys) 0 (enumO 0 [])))
  (h2 : ∀ Γ : Cx, Γ.m = M1 -> WP P Γ c2 (bodyD P rs gc capA X) (S n ((d, .clo (.func gc) [] capA) :: l1) M1 os1)) : Fn P g ys X := by
 refine ⟨⟨he, fun Γ vs hm hs => calls_of_wp_defers hf hb ?_⟩, hX⟩
 simp only [List.length_nil] at hm
 obtain ⟨ρ, hs⟩ := hs
 have hds : Γ.ds = [] := (hs.defers.eq hm.2).symm
 have hlen : vs.size = ys.length := hs.len
 have hst : SR Γ ⟨ys ++ List.replicate (fn.ntmps - ys.length) .any, ([] : List AObj).map some⟩ ⟨vs ++ Array.replicate (fn.ntmps - vs.size) undef, []⟩ Γ.w0 := by
  refine ⟨ρ, hs.ext, by simp [hlen], ?_, hs.obj, hs.made, hs.bound, hs.own, hs.inj, hs.defers, hs.fr⟩
  intro i x v hx hv
  simp only at hx hv
  by_cases hi : i < ys.length
  ·rw [List.getElem?_append_left hi] at hx
   rw [Array.getElem?_append_left (by omega)] at hv
   exact hs.tmp i x v hx hv
  ·rw [List.getElem?_append_right (by omega)] at hx
   have hm := List.mem_of_getElem? hx
   rw [(List.mem_replicate.1 hm).2]
   exact .any
 subst hn
 rw [tl_start _ _ hl] at hst
 have hw0 := h0 Γ hm.1
 have hst2 : SR Γ (S fn.ntmps (enumA 0 ys) 0 (enumO 0 ([] : List AObj))) ⟨vs ++ Array.replicate (fn.ntmps - vs.size) undef, []⟩ Γ.w0 := hst
 refine wp_seq (wp_mono (hw0 _ _ hst2) ?_)
 rintro e a1 w1 ⟨s1, ⟨rfl, rfl⟩, hs1⟩
 refine wp_seq ?_
 refine wp_region_lit (wpList_plain rfl fun K hK => ?_)
 obtain ⟨ρ1, hρ1⟩ := hs1
 have hcv : ∀ (i : Nat) x v, capA[i]? = some x -> (caps.toList.map a1.eval)[i]? = some v -> RV (fun id => id < (S fn.ntmps l1 M1 os1).objs.length) ρ1 (Im Γ ρ1 (S fn.ntmps l1 M1 os1) w1) w1 x v := by
  intro i x v hx hv
  have hq := opqL_op (M := M1) (os := os1) hcap
  rw [<- hq] at hx
  simp only [List.getElem?_map, Option.map_eq_some_iff] at hx hv
  obtain ⟨p, hp, rfl⟩ := hx
  obtain ⟨q, hq', rfl⟩ := hv
  rw [hp] at hq'; injection hq' with hq'; subst hq'
  exact hρ1.eval p
 have hcl : capA.length = (caps.map a1.eval).size := by
  have hq := opqL_op (M := M1) (os := os1) hcap
  rw [<- hq]; simp
 have hrvc : RV (fun id => id < (S fn.ntmps l1 M1 os1).objs.length) ρ1 (Im Γ ρ1 (S fn.ntmps l1 M1 os1) w1) w1 (.clo (.func gc) [] capA) (.func (.func gc) #[] (caps.map a1.eval)) :=
  .clo rfl hcl (fun i x v hx => by simp at hx) (fun i x v hx hv => hcv i x v hx (by simpa using hv))
 unfold Oper.wp
 have hex : (execOp a1.eval ⟨some d, .makeFunc (.func gc) #[] caps, t1, p1, af1, none⟩).run P w1 = .ok (.value (.func (.func gc) #[] (caps.map a1.eval))) w1 := by
  simp [execOp, Instr.makeFunc]
 rw [hex]
 simp only [Oper.upon]
 refine hK _ _ ?_
 refine wpList_plain rfl fun K2 hK2 => ?_
 have hput := hρ1.put (some d) hrvc
 rw [S_put] at hput
 have hdval : (a1.put (some d) (.func (.func gc) #[] (caps.map a1.eval))).eval (.tmp d) = .func (.func gc) #[] (caps.map a1.eval) := by
  have hsz : a1.tmps.size = fn.ntmps := by rw [hρ1.len]; simp [S, tl_length]
  simp [Act.eval, Act.put, hsz, hdn]
 unfold Oper.wp
 generalize ha1 : a1.put (some d) (.func (.func gc) #[] (caps.map a1.eval)) = a1' at *
 have hex2 : (execOp a1'.eval ⟨none, .defer ⟨.value (.tmp d), #[], #[]⟩, t2, p2, af2, none⟩).run P w1 = .ok (.defer ⟨.fn (.func gc) (caps.map a1.eval), #[]⟩) w1 := by
  simp [execOp, resolve, hdval, Deferred.ofValue]
 rw [hex2]
 simp only [Oper.upon]
 refine hK2 _ _ ?_
 refine wpList_nil ?_
 have hda : a1'.defers = [] := (hput.defers.eq hm.2).trans hds
 have hlv : ∀ i, i < M1 -> ∃ o, (S fn.ntmps ((d, .clo (.func gc) [] capA) :: l1) M1 os1).live i o := fun i hi => by
  obtain ⟨o, ho⟩ := Option.isSome_iff_exists.1 (hlive i hi)
  exact ⟨o, St.look_some.1 (by rw [S_look]; exact ho)⟩
 have hMl : ∀ l : List (Nat × AV), (S fn.ntmps l M1 os1).objs.length = M1 := fun l => ol_length M1 os1
 obtain ⟨Γ', hm', hds', hk', hρ0', hsr', hdown⟩ := SRa.boxes (A := fun id => id < M1) (by simpa [hMl] using hput) hm.1 hds M1 hlv ⟨.fn (.func gc) (caps.map a1.eval), #[]⟩
 have hact : ({ a1' with defers := (⟨.fn (.func gc) (caps.map a1.eval), #[]⟩ : Deferred) :: a1'.defers } : Act).put none undef = { a1' with defers := [⟨.fn (.func gc) (caps.map a1.eval), #[]⟩] } := by rw [hda]; rfl
 rw [hact]
 refine wp_mono (h2 Γ' hm' _ _ ⟨ρ1, by simpa [hMl] using hsr'⟩) ?_
 rintro e a' w' ⟨s', ⟨u, hu, is, ys', mid, fin, hL, hD, x0, hres, hz⟩, ρ', hs'⟩
 have hda' : a'.defers = [⟨.fn (.func gc) (caps.map a1.eval), #[]⟩] := (hs'.defers.eq hk').trans hds'
 have hrun : u ≠ .run := by cases e <;> simp [modeOf] at hu <;> subst hu <;> simp
 have hcv' : ∀ (i : Nat) x v, capA[i]? = some x -> (caps.map a1.eval)[i]? = some v -> RV (fun id => id < s'.objs.length) ρ' (Im Γ' ρ' s' w') w' x v := by
  intro i x v hx hv
  obtain ⟨j, k, rfl, hj⟩ := hptr x (List.mem_of_getElem? hx)
  have h1 := hcv i _ v hx (by simpa using hv)
  obtain ⟨hjA, hjρ⟩ := hs'.ext j (by omega)
  cases h1 with
  | ptr hA hb => exact .ptr hjA (by rw [hjρ, hρ0']; exact hb)
 have hrvc' : RV (fun id => id < s'.objs.length) ρ' (Im Γ' ρ' s' w') w' (.clo (.func gc) [] capA) (.func (.func gc) #[] (caps.map a1.eval)) :=
  .clo rfl hcl (fun i x v hx => by simp at hx) hcv'
 obtain ⟨us, hrn, Γ'', hm'', hw'', hds'', hk'', hsr'', hback⟩ := hs'.view is (args := []) (vs := []) hD.1 hrvc' rfl (fun i x v hx => by simp at hx) hL
 have hleaves : Leaves P fn a'.tmps (fun e w' => ∃ r objs' v, e = .returned v /\ (r = X /\ r.bd 0 = true) /\ SR Γ ⟨[r], objs'⟩ ⟨#[v], []⟩ w') a'.defers u w' := by
  rw [hda']
  refine leaves_cons (f := gc) (args := us) hrun (by have := hrn w'; simpa [Deferred.ofValue] using this) ?_
  have hlenL : is.length = mid.length := by have := wkRO_len hL.2.1; simpa using this.symm
  have hDs := hD.2.2 Γ'' us ⟨hm'', hk''⟩ hds'' (by rw [hw'']; exact hsr'')
  rw [hw''] at hDs
  refine hDs.mono ?_
  rintro e2 u2 w2 ⟨⟨v2, rfl⟩, hset, hsr2⟩
  simp only
  rw [hset]
  have hb2 := hback _ _ _ _ (by rw [List.length_map]; exact Nat.le_of_eq hD.2.1) hsr2
  have hfin := hdown _ _ _ hb2
  obtain ⟨ρ3, h3⟩ := hfin
  obtain ⟨v, hv, _⟩ := resN_sound h3 (by rw [hrs]) hres
  refine ⟨v, hv, X, [], v, rfl, ⟨rfl, hX⟩, SR.out ⟨ρ3, h3⟩ hds hm.1 hz fun ρ4 h4 => ?_⟩
  obtain ⟨v4, hv4, hr4⟩ := resN_sound h4 (by rw [hrs]) hres
  rw [hv] at hv4
  injection hv4 with e1
  subst e1
  exact hr4
 cases e with
 | normal => simp only [modeOf, Option.some.injEq] at hu; subst hu; exact hleaves
 | ret => simp only [modeOf, Option.some.injEq] at hu; subst hu; exact hleaves
 | panic ch => simp only [modeOf, Option.some.injEq] at hu; subst hu; exact hleaves
 | _ => simp [modeOf] at hu
def upd0 : List Nat -> List (Nat × List AV) -> List (Nat × Option AObj) -> List (Nat × Option AObj)
 | i :: is, (k, vs) :: fs, os => upd0 is fs ((i, some (.arr k vs)) :: os)
 | _, _, os => os
theorem DefD.intro {fn : Func} {c2 : Code} {id : Nat} {d x : Tmp} {t1 t2 : TypeId} {p1 p2 : String} {af1 af2 : Array Edge} {aos fin : List AObj} {u u2 : FrameMode} {rv : Value} (he : enterable P g = true) (hlen : aos.length = fin.length) (hf : P.funcs[g]? = some fn)
  (hb : fn.body = some (.seq (.region id [⟨some d, .call ⟨.builtin .recover, #[], #[]⟩, t1, p1, af1, none⟩, ⟨some x, .assign (.tmp d), t2, p2, af2, none⟩].toArray false) c2)) (hrs : fn.results = #[]) (hn : fn.ntmps = n) (hl : ys.length <= n) (hdn : d < n) (hat : atom rv = true)
  (hrec : ∀ (c₀ : Frame) (cs : List Frame), c₀.mode = u -> (recoverD (c₀ :: cs) = some (rv, { c₀ with mode := u2 } :: cs)) \/ (recoverD (c₀ :: cs) = none /\ rv = .nilIface /\ u2 = u)) (hset : settle u2 = .returning)
  (h2 : ∀ Γ : Cx, Γ.m = aos.length -> WP P Γ c2 (bodyQ (RetO P [] aos.length (.tup []) (fin.map some))) (S n ((x, .val rv) :: (d, .val rv) :: enumA 0 ys) aos.length (enumO 0 aos))) : DefD P g ys aos u fin := by
 refine ⟨he, hlen, fun Γ vs hm hds hs => callsD_of_wpS hf hb fun c₀ cs hc => ?_⟩
 obtain ⟨ρ, hs⟩ := hs
 have hlen' : vs.size = ys.length := hs.len
 have hst : SR Γ ⟨ys ++ List.replicate (fn.ntmps - ys.length) .any, aos.map some⟩ ⟨vs ++ Array.replicate (fn.ntmps - vs.size) undef, []⟩ Γ.w0 := by
  refine ⟨ρ, hs.ext, by simp [hlen'], ?_, hs.obj, hs.made, hs.bound, hs.own, hs.inj, hs.defers, hs.fr⟩
  intro i x v hx hv
  simp only at hx hv
  by_cases hi : i < ys.length
  ·rw [List.getElem?_append_left hi] at hx
   rw [Array.getElem?_append_left (by omega)] at hv
   exact hs.tmp i x v hx hv
  ·rw [List.getElem?_append_right (by omega)] at hx
   have hm := List.mem_of_getElem? hx
   rw [(List.mem_replicate.1 hm).2]
   exact .any
 subst hn
 rw [tl_start _ _ hl, ol_enum] at hst
 generalize hact : (⟨vs ++ Array.replicate (fn.ntmps - vs.size) undef, []⟩ : Act) = a0 at *
 have hst2 : SR Γ (S fn.ntmps (enumA 0 ys) aos.length (enumO 0 aos)) a0 Γ.w0 := hst
 obtain ⟨ρ', h0⟩ := hst2
 have h1 := h0.put (some d) (x := .val rv) (v := rv) (.val hat)
 rw [S_put] at h1
 have hev : (a0.put (some d) rv).eval (.tmp d) = rv := by
  have hsz : a0.tmps.size = fn.ntmps := by rw [h0.len]; simp [S, tl_length]
  simp [Act.eval, Act.put, hsz, hdn]
 generalize ha1 : a0.put (some d) rv = a1 at *
 have h3 : SRa Γ (fun id => id < (S fn.ntmps (enumA 0 ys) aos.length (enumO 0 aos)).objs.length) ρ' (S fn.ntmps ((x, .val rv) :: (d, .val rv) :: enumA 0 ys) aos.length (enumO 0 aos)) (a1.put (some x) rv) Γ.w0 := by
  have := SRa.put (s := S fn.ntmps ((d, .val rv) :: enumA 0 ys) aos.length (enumO 0 aos)) (by simpa [S, ol_length] using h1) (some x) (x := .val rv) (v := rv) (.val hat)
  rw [S_put] at this
  simpa [S, ol_length] using this
 have key : ∀ cs', cs' = { c₀ with mode := u2 } :: cs -> c2.wpS P (bodyPostS P fn c₀ cs fun e u' w' => (∃ v, e = .returned v) /\ settle u' = .returning /\ SR Γ ⟨[.tup []], fin.map some⟩ ⟨#[.tuple #[]], []⟩ w') (a1.put (some x) rv) cs' Γ.w0 := by
  rintro cs' rfl
  refine wpS_of_wp (wp_mono (h2 Γ hm.1 _ _ ⟨ρ', by simpa [S, ol_length] using h3⟩) ?_)
  rintro e a' w' ⟨s', hq, ρ2, hs'⟩
  have fin2 : RetO P [] aos.length (.tup []) (fin.map some) s' -> bodyPostS P fn c₀ cs (fun e u' w' => (∃ v, e = .returned v) /\ settle u' = .returning /\ SR Γ ⟨[.tup []], fin.map some⟩ ⟨#[.tuple #[]], []⟩ w') .ret a' ({ c₀ with mode := u2 } :: cs) w' := by
   rintro ⟨y, is, hy, hT⟩
   obtain ⟨v, hv, _⟩ := resN_sound hs' (by rw [hrs]) hy
   have hv0 : v = .tuple #[] := by
    rw [results_rdv, hrs] at hv
    simp at hv
    exact hv.symm
   have hy0 : y = .tup [] := by simp [resN, resL, tupA] at hy; exact hy.symm
   subst hy0
   refine ⟨(hs'.defers.eq hm.2).trans hds, u2, rfl, v, hv, ⟨v, rfl⟩, hset, ?_⟩
   have h5 : SR Γ ⟨[.tup []], s'.objs⟩ ⟨#[v], []⟩ w' := SR.result ⟨ρ2, hs'⟩ hds fun ρ4 h4 => by
    obtain ⟨v4, hv4, hr4⟩ := resN_sound h4 (by rw [hrs]) hy
    rw [hv] at hv4
    injection hv4 with e1
    subst e1
    exact hr4
   subst hv0
   exact h5.toR (by rw [hm.1]; exact hT)
  cases e with
  | normal => exact fin2 hq
  | ret => exact fin2 hq
  | _ => exact hq.elim
 refine wpS_seq (wpS_region ?_)
 have hrange : List.range [(⟨some d, .call ⟨.builtin .recover, #[], #[]⟩, t1, p1, af1, none⟩ : Oper), ⟨some x, .assign (.tmp d), t2, p2, af2, none⟩].toArray.size = [0, 1] := rfl
 rw [hrange]
 have hex : (execOp a0.eval ⟨some d, .call ⟨.builtin .recover, #[], #[]⟩, t1, p1, af1, none⟩).run P Γ.w0 = .ok .recover Γ.w0 := by
  simp [execOp, resolve, invoke, builtin]
 have hex2 : (execOp a1.eval ⟨some x, .assign (.tmp d), t2, p2, af2, none⟩).run P Γ.w0 = .ok (.value rv) Γ.w0 := by
  simp [execOp, hev]
 rcases hrec c₀ cs hc with hr | ⟨hr, hrv, hu⟩
 ·simp only [wpOpsS, List.getElem?_toArray, List.getElem?_cons_zero, List.getElem?_cons_succ, Region.wanted, if_true, hex, hr, ha1, hex2, Oper.upon]
  exact key _ rfl
 ·simp only [wpOpsS, List.getElem?_toArray, List.getElem?_cons_zero, List.getElem?_cons_succ, Region.wanted, if_true, hex, hr, <- hrv, ha1, hex2, Oper.upon]
  refine key _ ?_
  rw [hu, <- hc]
variable {d t : Tmp} {ty ty2 tx : TypeId} {pos : String} {af : Array Edge} {ops : Array Oper} {rest : List Oper} {K : St -> Prop} {o1 : Operand} {T : TypeId} {v : Value}
end
end Go.Lg
namespace Go.Lg
open Go.Proofs
attribute [local irreducible] Ap Rq asemC WP RunD Ret Gq thenA inBlockA bodyQ noGotoA RqL RqP OpP
attribute [local simp] AV.cells
end Go.Lg
namespace Go.Lg
def initU (g : Gram) : List Bool := (nob g.nonterms.length).set g.start.toNat true
theorem initU_len (g : Gram) : (initU g).length = g.nonterms.length := by simp [initU, nob]
def UnderU (g : Gram) (is out : List Bool) : Prop := leB (initU g) out /\ ∀ S : List Bool, leB (initU g) S -> leB (stepU g is S) S -> leB out S
theorem UnderU.len {g : Gram} {is out : List Bool} (h : UnderU g is out) : out.length = g.nonterms.length := by rw [<- h.1.1, initU_len]
theorem UnderU.set {g : Gram} {is out : List Bool} (hv : GVal g) (h : UnderU g is out) {r : Rul} (hr : r ∈ g.rules) (h1 : nth out r.head.toNat = true) (h2 : r.body.all (okSym is) = true) {x : Int} (hx : x ∈ r.body) (h0 : x < 0) : UnderU g is (out.set (-1 - x).toNat true) := by
 refine ⟨h.1.trans leB_set_up, fun S hS hc => leB_set (h.2 S hS hc) ?_⟩
 have hn : S.length = g.nonterms.length := by rw [<- hS.1, initU_len]
 exact stepU_closes hc hr ((h.2 S hS hc).2 _ h1) h2 hx h0 (by rw [hn]; exact (hv.rule r hr).lo x hx)
def ClosedU (is out : List Bool) (r : Rul) : Prop := nth out r.head.toNat = true -> r.body.all (okSym is) = true -> ∀ x, x ∈ r.body -> x < 0 -> nth out (-1 - x).toNat = true
theorem UnderU.eq {g : Gram} {is out : List Bool} (h : UnderU g is out) (hc : ∀ r, r ∈ g.rules -> ClosedU is out r) : out = usefulG g is :=
 (lfpB_eq (stepU_mono g is _) (initU_len g) h.1 (stepU_closed hc) (fun S h1 h2 => h.2 S h1 h2)).symm
structure MidU (g : Gram) (is out o : List Bool) (mo : Bool) (i : Nat) : Prop where
 u : UnderU g is o
 hi : i <= g.rules.length
 t : mo = true -> falses o < falses out
 f : mo = false -> o = out /\ ∀ j, j < i -> ClosedU is out (nth g.rules j)
structure InU (g : Gram) (is out o p : List Bool) (mo mp : Bool) (i k : Nat) : Prop where
 u : UnderU g is p
 hk : k <= (nth g.rules i).body.length
 le : leB o p
 t : mp = true -> falses p < falses out
 f : mp = false -> mo = false /\ p = o /\ ∀ j, j < k -> nth (nth g.rules i).body j < 0 -> nth p (-1 - nth (nth g.rules i).body j).toNat = true
section
variable {g : Gram} {is out o p : List Bool} {mo mp : Bool} {i k : Nat}
theorem MidU.start (h : UnderU g is out) : MidU g is out out false 0 := ⟨h, Nat.zero_le _, by simp, by simp⟩
theorem MidU.fo (h : MidU g is out o mo i) : falses o <= falses out := by
 cases mo with
 | true => have := h.t rfl; omega
 | false => rw [(h.f rfl).1]; exact Nat.le_refl _
theorem MidU.skip (h : MidU g is out o mo i) (hi : i < g.rules.length) (hc : nth o (nth g.rules i).head.toNat = false \/ (nth g.rules i).body.all (okSym is) = false) : MidU g is out o mo (i + 1) :=
 ⟨h.u, hi, h.t, fun hm => ⟨(h.f hm).1, fun j hj => by
  by_cases e : j = i
  ·subst e
   intro h1 h2
   rw [(h.f hm).1] at hc
   rcases hc with hc | hc
   ·rw [hc] at h1; cases h1
   ·rw [hc] at h2; cases h2
  ·exact (h.f hm).2 j (by omega)⟩⟩
theorem InU.start (h : MidU g is out o mo i) : InU g is out o o mo mo i 0 := ⟨h.u, Nat.zero_le _, .refl _, h.t, fun hm => ⟨hm, rfl, by simp⟩⟩
theorem InU.set (hv : GVal g) (h : InU g is out o p mo mp i k) (hi : i < g.rules.length) (hm : MidU g is out o mo i) (h1 : nth o (nth g.rules i).head.toNat = true) (h2 : (nth g.rules i).body.all (okSym is) = true) (hk : k < (nth g.rules i).body.length) (h0 : nth (nth g.rules i).body k < 0) (hn : nth p (-1 - nth (nth g.rules i).body k).toNat = false) :
  InU g is out o (p.set (-1 - nth (nth g.rules i).body k).toNat true) mo true i (k + 1) := by
 refine ⟨h.u.set hv (nth_mem hi) (h.le.2 _ h1) h2 (nth_mem hk) h0, hk, h.le.trans leB_set_up, fun _ => ?_, by simp⟩
 have hlo := (hv.rule _ (nth_mem hi)).lo _ (nth_mem hk)
 have := falses_set (l := p) (i := (-1 - nth (nth g.rules i).body k).toNat) (by rw [h.u.len]; omega) hn
 have h3 := falses_mono h.le
 have h4 := hm.fo
 omega
theorem InU.skip (h : InU g is out o p mo mp i k) (hk : k < (nth g.rules i).body.length) (hc : 0 <= nth (nth g.rules i).body k \/ nth p (-1 - nth (nth g.rules i).body k).toNat = true) : InU g is out o p mo mp i (k + 1) :=
 ⟨h.u, hk, h.le, h.t, fun hm => ⟨(h.f hm).1, (h.f hm).2.1, fun j hj h0 => by
  by_cases e : j = k
  ·subst e; rcases hc with hc | hc
   ·omega
   ·exact hc
  ·exact (h.f hm).2.2 j (by omega) h0⟩⟩
end
open Go.Proofs
attribute [local irreducible] Ap Rq asemC WP RunD Ret Gq thenA inBlockA bodyQ noGotoA RqL RqP OpP
end Go.Lg
namespace Go.Lg
open Go.Proofs
attribute [local irreducible] Ap Rq asemC WP RunD Ret Gq thenA inBlockA bodyQ noGotoA RqL RqP OpP
end Go.Lg
namespace Go.Lg
open Go.Proofs
attribute [local irreducible] Ap Rq asemC WP RunD Ret Gq thenA inBlockA bodyQ noGotoA RqL RqP OpP
end Go.Lg
namespace Go.Lg
open Go.Proofs
attribute [local irreducible] Ap Rq asemC WP RunD Ret Gq thenA inBlockA bodyQ noGotoA RqL RqP OpP
def objH (n : Nat) (out : List Bool) : List AObj := [.arr 1 [.ref 1 1 0 n], .arr 1 (out.map boolA), .arr 1 [boolA true]]
@[simp] theorem objH_len (n : Nat) (out : List Bool) : (objH n out).length = 3 := rfl
def yesB (n : Nat) : List Bool := List.replicate n true
def objR (n : Nat) (out : List Bool) : List AObj := [.arr 1 [.ref 1 1 0 n], .arr 1 (out.map boolA)]
@[simp] theorem objR_len (n : Nat) (out : List Bool) : (objR n out).length = 2 := rfl
structure StepR (g : Gram) (r : Rul) (out out' : List Bool) (ch : Bool) : Prop where
 len : out'.length = out.length
 u : UnderU g (yesB g.nonterms.length) out -> UnderU g (yesB g.nonterms.length) out'
 le : leB out out'
 t : ch = true -> falses out' < falses out
 f : ch = false -> out' = out /\ ClosedU (yesB g.nonterms.length) out r
structure StepK (g : Gram) (r : Rul) (out o : List Bool) (ch : Bool) (k : Nat) : Prop where
 hk : k <= r.body.length
 u : UnderU g (yesB g.nonterms.length) out -> UnderU g (yesB g.nonterms.length) o
 le : leB out o
 h : nth out r.head.toNat = false -> o = out /\ ch = false
 t : ch = true -> falses o < falses out
 f : ch = false -> o = out /\ (nth out r.head.toNat = true -> ∀ j, j < k -> nth r.body j < 0 -> nth out (-1 - nth r.body j).toNat = true)
end Go.Lg
namespace Go.Lg
open Go.Proofs
attribute [local irreducible] Ap Rq asemC WP RunD Ret Gq thenA inBlockA bodyQ noGotoA RqL RqP OpP
end Go.Lg
namespace Go.Lg
open Go.Proofs
attribute [local irreducible] Ap Rq asemC WP RunD Ret Gq thenA inBlockA bodyQ noGotoA RqL RqP OpP
attribute [local simp] AV.cells rdT
def parseTA (x : Tre × Int × Int) : AV := .tup [treA x.1, intA x.2.1, intA x.2.2]
end Go.Lg
namespace Go.Lg
open Go.Proofs
attribute [local irreducible] Ap Rq asemC WP RunD Ret Gq thenA inBlockA bodyQ noGotoA RqL RqP OpP
attribute [local simp] AV.cells
@[simp] theorem bd_parseTA (n : Nat) (x : Tre × Int × Int) : (parseTA x).bd n = true := by simp [parseTA, AV.bd, bdL]
end Go.Lg
namespace Go.Lg
open Go.Proofs
attribute [local irreducible] Ap Rq asemC WP RunD Ret Gq thenA inBlockA bodyQ noGotoA RqL RqP OpP
attribute [local simp] AV.cells
def ext : Tre := .mk 0 0 [.mk (-1) 0 [], .mk 1 0 [], .mk (-1) 1 []]
end Go.Lg
namespace Go.Lg
open Go.Proofs
attribute [local irreducible] Ap Rq asemC WP RunD Ret Gq thenA inBlockA bodyQ noGotoA RqL RqP OpP
attribute [local simp] AV.cells
end Go.Lg
namespace Go.Lg
open Go.Proofs
attribute [local irreducible] Ap Rq asemC WP RunD Ret Gq thenA inBlockA bodyQ noGotoA RqL RqP OpP
attribute [local simp] AV.cells
end Go.Lg
namespace Go.Lg
open Go.Proofs
attribute [local irreducible] Ap Rq asemC WP RunD Ret Gq thenA inBlockA bodyQ noGotoA RqL RqP OpP
attribute [local simp] AV.cells bdL_intA
def opdR (g : Gram) (l : List GLe) (r : Rul) : Bool := decide (r.head = g.start) && (decide (0 <= binL g l r) || (decide (r.body.length = 1) && decide (0 <= nth r.body 0)))
theorem operands_fn (g : Gram) (l : List GLe) (hv : GVal g) (hf : FewL l) : Fn Tryd.prog 21 [gramA g, levelsA l] (boolA (g.rules.all (opdR g l))) := by
 have hr2 := hv.r2
 refine Fn.intro rfl (by kernel_rfl) Tryd.func21 rfl rfl Tryd.ntmps21 (by exact nle rfl) ?_; intro Γ hm
 (repeat' (first | apply jA | apply jF | apply jH | (refine rgC 0 ?_; (refine se_box rfl (by exact ⟨rfl, rfl⟩) ?_); (refine sassign rfl ?_); apply jW) | (refine rgC 1 ?_; (refine sassign rfl ?_); apply jW)))
 refine wp_loop (fun (i : Nat) => i <= g.rules.length /\ ∀ j, j < i -> opdR g l (nth g.rules j) = true) (fun i => g.rules.length - i)
  (fun i => (S 44 [(1, levelsA l), (2, .ptr 0 4 0 0), (5, intA (i : Nat))] 1 [(0, some (.arr 4 [gramA g]))])) 0 ⟨[0], ToR.S rfl (by repeat' (first | exact rt_nil | refine rt_t rfl rfl ?_ | refine rt_e rfl rfl ?_ | refine rt_p rfl rfl (by first | (simp [AV.bd, bdL, bdL_append]; done) | fail) ?_)) (by repeat' (first | exact ro_nil | refine ro_p rfl (by first | exact rfl | fail) zq5 ?_)) rfl (by (rw [hm]; exact rfl)) rfl zq4 zq3 (by (rw [hm]; exact nle rfl))⟩ ⟨Nat.zero_le _, fun j hj => absurd hj (Nat.not_lt_zero j)⟩ ?_
 rintro i ⟨hi, hall⟩
 by_cases hlt : i < g.rules.length
 ·have hb := binary20_fn hv l hf i hlt
  cases ho : opdR g l (nth g.rules i) with
  | true =>
   unfold opdR at ho
   simp only [Bool.and_eq_true, Bool.or_eq_true, decide_eq_true_eq] at ho
   (repeat' (first | apply jA | apply jF | apply jH | apply jI | apply jN | (refine wp_cond rfl (fun hc => ?_) (fun hc => ?_) <;> (try simp only [sB, ne_eq, reduceCtorEq] at hc) <;> (try (exfalso; omega))) | (refine rgC 2 ?_; (refine smove rfl ?_); (refine sfieldp rfl rfl rfl ?_); (refine sloadp rfl rfl rfl rfl ?_); (refine slenm rfl rfl ?_); (refine slss rfl rfl ?_); apply jW) | (refine rgC 4 ?_; (refine sfieldp rfl rfl rfl ?_); (refine sloadp rfl rfl rfl rfl ?_); (refine smove rfl ?_); (refine sidxn rfl rfl (by omega) ?_); (refine sloadw rfl rfl ?_); (refine se_alloc rfl ?_); (refine se_store_b rfl rfl rfl rfl ?_); apply jW) | (refine rgC 5 ?_; (refine sfieldp rfl rfl rfl ?_); (refine sloadp rfl rfl rfl rfl ?_); (refine sfieldp rfl rfl rfl ?_); (refine sloadp rfl rfl rfl rfl ?_); (refine su (aneq rfl rfl) ?_); (refine smove rfl ?_); (refine sg (gq_vf rfl rfl) (fun he => ap_load_pw (rq_p rfl rfl) rfl rfl rfl) ?_); (refine sg (gq_vf rfl rfl) (fun he => ap_move (rq_p rfl rfl)) ?_); (refine sg (gq_vf rfl rfl) (fun he => ap_move (rq_p rfl rfl)) ?_); (refine sg_p (gq_vf rfl rfl) (fun he => ⟨(rq_p rfl rfl), (RqL.cons (rq_c rfl rfl) (RqL.cons (rq_c rfl rfl) (RqL.cons (rq_c rfl rfl) (RqL.nil)))), zq1, zq5, hb⟩) ?_); (refine sg (gq_vf rfl rfl) (fun he => ap_lss (rq_c rfl rfl) (rq_p rfl rfl)) ?_); (refine sg (gq_vf rfl rfl) (fun he => ap_move (rq_c rfl rfl)) ?_); (refine sg (gq_ct rfl rfl) (fun he => ap_field_p (rq_p rfl rfl) rfl rfl) ?_); (refine sg (gq_ct rfl rfl) (fun he => ap_load_p (rq_c rfl rfl) rfl rfl rfl) ?_); (refine sg (gq_ct rfl rfl) (fun he => ap_len_m rfl (rq_c rfl rfl)) ?_); (refine sg (gq_ct rfl rfl) (fun he => ap_neq (rq_c rfl rfl) (rq_p rfl rfl)) ?_); (refine sg (gq_ct rfl rfl) (fun he => ap_move (rq_c rfl rfl)) ?_); (refine sg (gq_cf rfl rfl) (fun he => ap_field_p (rq_p rfl rfl) rfl rfl) ?_); (refine sg (gq_cf rfl rfl) (fun he => ap_load_p (rq_c rfl rfl) rfl rfl rfl) ?_); (refine sg (gq_cf rfl rfl) (fun he => ap_idx_n (rq_c rfl rfl) (rq_p rfl rfl) (by (try simp only [sH, id, sB, ne_eq, reduceCtorEq] at he); (simp only [sL] <;> omega))) ?_); (refine sg (gq_cf rfl rfl) (fun he => ap_load_w (rq_c rfl rfl) rfl) ?_); (refine sg (gq_cf rfl rfl) (fun he => ap_lss (rq_c rfl rfl) (rq_p rfl rfl)) ?_); (refine sg (gq_ct rfl rfl) (fun he => ap_or (rq_c rfl rfl) (rq_c rfl rfl)) ?_); (refine sg (gq_vf rfl rfl) (fun he => ap_and (rq_c rfl rfl) (rq_c rfl rfl)) ?_); (refine su (ap_or (rq_p rfl rfl) (rq_c rfl rfl)) ?_); apply jW) | (refine rgC 3 ?_; (refine smove rfl ?_); (refine sadd rfl rfl (by exact inr_i64_of (by omega)) ?_); (refine sassign rfl ?_); apply jW)))
   all_goals try (exfalso; omega)
   refine ⟨i + 1, ⟨by omega, by omega, fun j hj => ?_⟩, ⟨[0], ToR.S rfl (by repeat' (first | exact rt_nil | refine rt_t rfl rfl ?_ | refine rt_e rfl rfl ?_ | refine rt_p rfl rfl (by first | (simp [AV.bd, bdL, bdL_append]; done) | fail) ?_)) (by repeat' (first | exact ro_nil | refine ro_p rfl (by first | exact rfl | fail) zq5 ?_)) rfl (by (rw [hm]; exact rfl)) rfl zq4 zq3 (by (rw [hm]; exact nle rfl))⟩⟩
   by_cases e : j = i
   ·subst e
    unfold opdR
    simp only [Bool.and_eq_true, Bool.or_eq_true, decide_eq_true_eq]; exact ho
   ·exact hall j (by omega)
  | false =>
   have hn : ¬ ((nth g.rules i).head = g.start /\ (0 <= binL g l (nth g.rules i) \/ ((nth g.rules i).body.length = 1 /\ 0 <= nth (nth g.rules i).body 0))) := fun h => by
    have : opdR g l (nth g.rules i) = true := by
     unfold opdR
     simp only [Bool.and_eq_true, Bool.or_eq_true, decide_eq_true_eq]; exact h
    rw [this] at ho; cases ho
   have hal : g.rules.all (opdR g l) = false := by
    rw [List.all_eq_false]
    exact ⟨_, nth_mem hlt, by rw [ho]; simp⟩
   rw [hal]
   (repeat' (first | apply jA | apply jF | apply jH | apply jI | apply jK | apply jM | apply jO | apply jS | (refine wp_cond rfl (fun hc => ?_) (fun hc => ?_) <;> (try simp only [sB, ne_eq, reduceCtorEq] at hc) <;> (try (exfalso; omega))) | (refine rgC 2 ?_; (refine smove rfl ?_); (refine sfieldp rfl rfl rfl ?_); (refine sloadp rfl rfl rfl rfl ?_); (refine slenm rfl rfl ?_); (refine slss rfl rfl ?_); apply jW) | (refine rgC 4 ?_; (refine sfieldp rfl rfl rfl ?_); (refine sloadp rfl rfl rfl rfl ?_); (refine smove rfl ?_); (refine sidxn rfl rfl (by omega) ?_); (refine sloadw rfl rfl ?_); (refine se_alloc rfl ?_); (refine se_store_b rfl rfl rfl rfl ?_); apply jW) | (refine rgC 5 ?_; (refine sfieldp rfl rfl rfl ?_); (refine sloadp rfl rfl rfl rfl ?_); (refine sfieldp rfl rfl rfl ?_); (refine sloadp rfl rfl rfl rfl ?_); (refine su (aneq rfl rfl) ?_); (refine smove rfl ?_); (refine sg (gq_vf rfl rfl) (fun he => ap_load_pw (rq_p rfl rfl) rfl rfl rfl) ?_); (refine sg (gq_vf rfl rfl) (fun he => ap_move (rq_p rfl rfl)) ?_); (refine sg (gq_vf rfl rfl) (fun he => ap_move (rq_p rfl rfl)) ?_); (refine sg_p (gq_vf rfl rfl) (fun he => ⟨(rq_p rfl rfl), (RqL.cons (rq_c rfl rfl) (RqL.cons (rq_c rfl rfl) (RqL.cons (rq_c rfl rfl) (RqL.nil)))), zq1, zq5, hb⟩) ?_); (refine sg (gq_vf rfl rfl) (fun he => ap_lss (rq_c rfl rfl) (rq_p rfl rfl)) ?_); (refine sg (gq_vf rfl rfl) (fun he => ap_move (rq_c rfl rfl)) ?_); (refine sg (gq_ct rfl rfl) (fun he => ap_field_p (rq_p rfl rfl) rfl rfl) ?_); (refine sg (gq_ct rfl rfl) (fun he => ap_load_p (rq_c rfl rfl) rfl rfl rfl) ?_); (refine sg (gq_ct rfl rfl) (fun he => ap_len_m rfl (rq_c rfl rfl)) ?_); (refine sg (gq_ct rfl rfl) (fun he => ap_neq (rq_c rfl rfl) (rq_p rfl rfl)) ?_); (refine sg (gq_ct rfl rfl) (fun he => ap_move (rq_c rfl rfl)) ?_); (refine sg (gq_cf rfl rfl) (fun he => ap_field_p (rq_p rfl rfl) rfl rfl) ?_); (refine sg (gq_cf rfl rfl) (fun he => ap_load_p (rq_c rfl rfl) rfl rfl rfl) ?_); (refine sg (gq_cf rfl rfl) (fun he => ap_idx_n (rq_c rfl rfl) (rq_p rfl rfl) (by (try simp only [sH, id, sB, ne_eq, reduceCtorEq] at he); (simp only [sL] <;> omega))) ?_); (refine sg (gq_cf rfl rfl) (fun he => ap_load_w (rq_c rfl rfl) rfl) ?_); (refine sg (gq_cf rfl rfl) (fun he => ap_lss (rq_c rfl rfl) (rq_p rfl rfl)) ?_); (refine sg (gq_ct rfl rfl) (fun he => ap_or (rq_c rfl rfl) (rq_c rfl rfl)) ?_); (refine sg (gq_vf rfl rfl) (fun he => ap_and (rq_c rfl rfl) (rq_c rfl rfl)) ?_); (refine su (ap_or (rq_p rfl rfl) (rq_c rfl rfl)) ?_); apply jW) | (refine rgC 6 ?_; (refine sassign rfl ?_); apply jW) | exact ret_eq rfl rfl rfl))
   all_goals try rfl
   all_goals try (exfalso; omega)
 ·have hal : g.rules.all (opdR g l) = true := by
   rw [List.all_eq_true]
   intro r hr
   obtain ⟨j, hj, rfl⟩ := List.getElem_of_mem hr
   rw [<- nth_eq hj]; exact hall j (by omega)
  rw [hal]
  (repeat' (first | apply jA | apply jH | apply jJ | apply jK | apply jL | apply jP | apply jS | (refine wp_cond rfl (fun hc => ?_) (fun hc => ?_) <;> (try simp only [sB, ne_eq, reduceCtorEq] at hc) <;> (try (exfalso; omega))) | (refine rgC 2 ?_; (refine smove rfl ?_); (refine sfieldp rfl rfl rfl ?_); (refine sloadp rfl rfl rfl rfl ?_); (refine slenm rfl rfl ?_); (refine slss rfl rfl ?_); apply jW) | (refine rgC 7 ?_; (refine sassign rfl ?_); apply jW) | exact ret_eq rfl rfl rfl))
theorem ops_of {g : Gram} {l : List GLe} (hc : checkG g l = 0) (h : g.rules.all (opdR g l) = true) : OpG g l := by
 rw [List.all_eq_true] at h
 refine ⟨hc, fun r hr => ?_⟩
 have := h r hr
 unfold opdR at this
 simp only [Bool.and_eq_true, Bool.or_eq_true, decide_eq_true_eq] at this
 exact this
def fndR (s : List Int) (i : Nat) (r : Rul) : Bool := (decide (i % 2 = 0) && decide (r.body.length = 1) && decide (nth r.body 0 = nth s i)) || (decide (i % 2 = 1) && decide (r.body.length = 3) && decide (nth r.body 1 = nth s i))
theorem root_fn {g : Gram} {l : List GLe} (hG : OpG g l) (hf : FewL l) (s : List Int) (hs : s.length <= 1000) : Fn Tryd.prog 25 [gramA g, levelsA l, intsA s] (.tup [intA (rootE g l s).1, boolA (rootE g l s).2]) := by
 have hv := hG.v
 have hr2 := hv.r2
 have hlm : ((s.length : Int)).tmod 2 = (s.length % 2 : Nat) := by rw [Int.tmod_eq_emod_of_nonneg (by omega)]; omega
 unfold rootE
 by_cases hev : s.length % 2 = 0
 ·rw [if_pos hev]
  refine Fn.intro rfl (by kernel_rfl) Tryd.func25 rfl rfl Tryd.ntmps25 (by exact nle rfl) ?_; intro Γ hm
  (repeat' (first | apply jA | apply jH | apply jK | apply jM | apply jS | (refine wp_cond rfl (fun hc => ?_) (fun hc => ?_) <;> (try simp only [sB, ne_eq, reduceCtorEq] at hc) <;> (try (exfalso; omega))) | (refine rgC 0 ?_; (refine se_box rfl (by exact ⟨rfl, rfl⟩) ?_); (refine sassign rfl ?_); (refine sassign rfl ?_); apply jW) | (refine rgC 1 ?_; (refine smove rfl ?_); (refine slenm rfl rfl ?_); (refine su (arem rfl rfl (by omega)) ?_); (refine seql rfl rfl ?_); apply jW) | (refine rgC 2 ?_; (refine sassign rfl ?_); (refine sassign rfl ?_); apply jW) | refine ret_2 rfl rfl rfl rfl ?_))
  all_goals try (exfalso; simp [hlm] at hc; omega)
  rfl
 rw [if_neg hev]
 refine Fn.intro rfl (by kernel_rfl) Tryd.func25 rfl rfl Tryd.ntmps25 (by exact nle rfl) ?_; intro Γ hm
 (repeat' (first | apply jA | apply jF | apply jH | apply jI | (refine wp_cond rfl (fun hc => ?_) (fun hc => ?_) <;> (try simp only [sB, ne_eq, reduceCtorEq] at hc) <;> (try (exfalso; omega))) | (refine rgC 0 ?_; (refine se_box rfl (by exact ⟨rfl, rfl⟩) ?_); (refine sassign rfl ?_); (refine sassign rfl ?_); apply jW) | (refine rgC 1 ?_; (refine smove rfl ?_); (refine slenm rfl rfl ?_); (refine su (arem rfl rfl (by omega)) ?_); (refine seql rfl rfl ?_); apply jW) | (refine rgC 3 ?_; (refine sassign rfl ?_); apply jW)))
 all_goals try (exfalso; simp [hlm] at hc; omega)
 refine wp_loop (fun (i : Nat) => i <= s.length /\ ∀ j, j < i -> fndO g s j = true) (fun i => s.length - i)
  (fun i => (S 131 [(1, levelsA l), (2, intsA s), (3, .ptr 0 4 0 0), (8, intA (i : Nat))] 1 [(0, some (.arr 4 [gramA g]))])) 0 ⟨[0], ToR.S rfl (by repeat' (first | exact rt_nil | refine rt_t rfl rfl ?_ | refine rt_e rfl rfl ?_ | refine rt_p rfl rfl (by first | (simp [AV.bd, bdL, bdL_append]; done) | fail) ?_)) (by repeat' (first | exact ro_nil | refine ro_p rfl (by first | exact rfl | fail) zq5 ?_)) rfl (by (rw [hm]; exact rfl)) rfl zq4 zq3 (by (rw [hm]; exact nle rfl))⟩ ⟨Nat.zero_le _, fun j hj => absurd hj (Nat.not_lt_zero j)⟩ ?_
 rintro i ⟨hi, hall⟩
 by_cases hlt : i < s.length
 ·(repeat' (first | apply jA | apply jF | apply jH | apply jI | (refine wp_cond rfl (fun hc => ?_) (fun hc => ?_) <;> (try simp only [sB, ne_eq, reduceCtorEq] at hc) <;> (try (exfalso; omega))) | (refine rgC 4 ?_; (refine smove rfl ?_); (refine smove rfl ?_); (refine slenm rfl rfl ?_); (refine slss rfl rfl ?_); apply jW) | (refine WP.regionC ?_; (refine sassign rfl ?_); apply jW)))
  refine wp_loop (fun (r : Nat) => r <= g.rules.length) (fun r => g.rules.length - r)
   (fun r => (S 131 [(1, levelsA l), (2, intsA s), (3, .ptr 0 4 0 0), (8, intA (i : Nat)), (9, boolA ((g.rules.take r).any (fndR s i))), (10, intA (r : Nat))] 1 [(0, some (.arr 4 [gramA g]))])) 0 ⟨[0], ToR.S rfl (by repeat' (first | exact rt_nil | refine rt_t rfl rfl ?_ | refine rt_e rfl rfl ?_ | refine rt_p rfl rfl (by first | (simp [AV.bd, bdL, bdL_append]; done) | fail) ?_)) (by repeat' (first | exact ro_nil | refine ro_p rfl (by first | exact rfl | fail) zq5 ?_)) rfl (by (rw [hm]; exact rfl)) rfl zq4 zq3 (by (rw [hm]; exact nle rfl))⟩ (Nat.zero_le _) ?_
  intro r hr
  by_cases hrl : r < g.rules.length
  ·have hln := (hv.rule _ (nth_mem hrl)).len
   have hmi : ((i : Int)).tmod 2 = (i % 2 : Nat) := by rw [Int.tmod_eq_emod_of_nonneg (by omega)]; omega
   have hany : (g.rules.take (r + 1)).any (fndR s i) = ((g.rules.take r).any (fndR s i) || fndR s i (nth g.rules r)) := by
    rw [take_succ_nth hrl, List.any_append]; simp
   generalize (g.rules.take r).any (fndR s i) = F at *
   (repeat' (first | apply jA | apply jF | apply jH | apply jI | apply jN | (refine wp_cond rfl (fun hc => ?_) (fun hc => ?_) <;> (try simp only [sB, ne_eq, reduceCtorEq] at hc) <;> (try (exfalso; omega))) | (refine rgC 8 ?_; (refine smove rfl ?_); (refine sfieldp rfl rfl rfl ?_); (refine sloadp rfl rfl rfl rfl ?_); (refine slenm rfl rfl ?_); (refine slss rfl rfl ?_); apply jW) | (refine rgC 10 ?_; (refine sfieldp rfl rfl rfl ?_); (refine sloadp rfl rfl rfl rfl ?_); (refine smove rfl ?_); (refine sidxn rfl rfl (by omega) ?_); (refine su (afieldi rfl rfl rfl) ?_); (refine su (aloadi rfl rfl) ?_); (refine sassign rfl ?_); apply jW) | (refine wp_draw (id := 11) 42 mixed (by kernel_rfl) (by kernel_rfl) rfl ?_ <;> (refine rmove rfl ?_) <;> (refine rmove rfl ?_) <;> ((refine rd_split (t := 39) rfl (fun hc => ?_) (fun hc => ?_) <;> (try simp only [sB, ne_eq, reduceCtorEq] at hc) <;> (try (exfalso; omega)) <;> (first | refine rd_skip rfl rfl ?_ | refine gmove rfl rfl rfl ?_))) <;> (first | refine rd_skip rfl rfl ?_ | refine rdg_u rfl rfl rfl rfl (arem rfl rfl (by omega)) ?_) <;> (first | refine rd_skip rfl rfl ?_ | refine rdg_u rfl rfl rfl rfl (aeql rfl rfl) ?_) <;> (first | refine rd_skip rfl rfl ?_ | refine gmove rfl rfl rfl ?_) <;> (first | refine rd_skip2 rfl rfl ?_ | (refine rd_split (t := 43) rfl (fun hc => ?_) (fun hc => ?_) <;> (try simp only [sB, ne_eq, reduceCtorEq] at hc) <;> (try (exfalso; omega)) <;> (first | refine rd_skip rfl rfl ?_ | refine gmove rfl rfl rfl ?_))) <;> (first | refine rd_skip rfl rfl ?_ | refine rd_skip2 rfl rfl ?_ | refine rdg_u rfl rfl rfl rfl (alenm rfl rfl) ?_) <;> (first | refine rd_skip rfl rfl ?_ | refine rd_skip2 rfl rfl ?_ | refine rdg_u rfl rfl rfl rfl (aeql rfl rfl) ?_) <;> (first | refine rd_skip rfl rfl ?_ | refine rdg_pick_t rfl rfl rfl rfl ?_ | refine rdg_pick_f rfl rfl rfl rfl ?_) <;> (first | refine rd_skip rfl rfl ?_ | refine gmove rfl rfl rfl ?_) <;> (first | refine rd_skip rfl rfl ?_ | refine rd_skip2 rfl rfl ?_ | (refine rd_split (t := 48) rfl (fun hc => ?_) (fun hc => ?_) <;> (try simp only [sB, ne_eq, reduceCtorEq] at hc) <;> (try (exfalso; omega)) <;> (first | refine rd_skip rfl rfl ?_ | refine gmove rfl rfl rfl ?_))) <;> (first | refine rd_skip rfl rfl ?_ | refine rd_skip2 rfl rfl ?_ | refine rdg_u rfl rfl rfl rfl (aidxn rfl rfl (by (simp only [sL] <;> omega))) ?_) <;> (first | refine rd_skip rfl rfl ?_ | refine rd_skip2 rfl rfl ?_ | refine rdg_u rfl rfl rfl rfl (aloadw rfl rfl) ?_) <;> (first | refine rd_skip rfl rfl ?_ | refine rd_skip2 rfl rfl ?_ | refine gmove rfl rfl rfl ?_) <;> (first | refine rd_skip rfl rfl ?_ | refine rd_skip2 rfl rfl ?_ | refine gmove rfl rfl rfl ?_) <;> (first | refine rd_skip rfl rfl ?_ | refine rd_skip2 rfl rfl ?_ | refine rdg_u rfl rfl rfl rfl (aidxn rfl rfl (by omega)) ?_) <;> (first | refine rd_skip rfl rfl ?_ | refine rd_skip2 rfl rfl ?_ | refine rdg_u rfl rfl rfl rfl (aloadw rfl rfl) ?_) <;> (first | refine rd_skip rfl rfl ?_ | refine rd_skip2 rfl rfl ?_ | refine rdg_u rfl rfl rfl rfl (aeql rfl rfl) ?_) <;> (first | refine rd_skip rfl rfl ?_ | refine rdg_pick_t rfl rfl rfl rfl ?_ | refine rdg_pick_f rfl rfl rfl rfl ?_) <;> (first | refine rd_pick_t rfl rfl ?_ | refine rd_pick_f rfl rfl ?_) <;> (refine rmove rfl ?_) <;> (first | refine rd_skip rfl rfl ?_ | refine gmove rfl rfl rfl ?_ | (refine rd_split (t := 59) rfl (fun hc => ?_) (fun hc => ?_) <;> (try simp only [sB, ne_eq, reduceCtorEq] at hc) <;> (try (exfalso; omega)) <;> (first | refine rd_skip rfl rfl ?_ | refine gmove rfl rfl rfl ?_))) <;> (first | refine rd_skip rfl rfl ?_ | refine rdg_u rfl rfl rfl rfl (arem rfl rfl (by omega)) ?_) <;> (first | refine rd_skip rfl rfl ?_ | refine rdg_u rfl rfl rfl rfl (aeql rfl rfl) ?_) <;> (first | refine rd_skip rfl rfl ?_ | refine gmove rfl rfl rfl ?_) <;> (first | refine rd_skip2 rfl rfl ?_ | (refine rd_split (t := 63) rfl (fun hc => ?_) (fun hc => ?_) <;> (try simp only [sB, ne_eq, reduceCtorEq] at hc) <;> (try (exfalso; omega)) <;> (first | refine rd_skip rfl rfl ?_ | refine gmove rfl rfl rfl ?_))) <;> (first | refine rd_skip rfl rfl ?_ | refine rd_skip2 rfl rfl ?_ | refine rdg_u rfl rfl rfl rfl (alenm rfl rfl) ?_) <;> (first | refine rd_skip rfl rfl ?_ | refine rd_skip2 rfl rfl ?_ | refine rdg_u rfl rfl rfl rfl (aeql rfl rfl) ?_) <;> (first | refine rd_skip rfl rfl ?_ | refine rdg_pick_t rfl rfl rfl rfl ?_ | refine rdg_pick_f rfl rfl rfl rfl ?_) <;> (first | refine rd_skip rfl rfl ?_ | refine gmove rfl rfl rfl ?_) <;> (first | refine rd_skip rfl rfl ?_ | refine rd_skip2 rfl rfl ?_ | (refine rd_split (t := 68) rfl (fun hc => ?_) (fun hc => ?_) <;> (try simp only [sB, ne_eq, reduceCtorEq] at hc) <;> (try (exfalso; omega)) <;> (first | refine rd_skip rfl rfl ?_ | refine gmove rfl rfl rfl ?_))) <;> (first | refine rd_skip rfl rfl ?_ | refine rd_skip2 rfl rfl ?_ | refine rdg_u rfl rfl rfl rfl (aidxn rfl rfl (by (simp only [sL] <;> omega))) ?_) <;> (first | refine rd_skip rfl rfl ?_ | refine rd_skip2 rfl rfl ?_ | refine rdg_u rfl rfl rfl rfl (aloadw rfl rfl) ?_) <;> (first | refine rd_skip rfl rfl ?_ | refine rd_skip2 rfl rfl ?_ | refine gmove rfl rfl rfl ?_) <;> (first | refine rd_skip rfl rfl ?_ | refine rd_skip2 rfl rfl ?_ | refine gmove rfl rfl rfl ?_) <;> (first | refine rd_skip rfl rfl ?_ | refine rd_skip2 rfl rfl ?_ | refine rdg_u rfl rfl rfl rfl (aidxn rfl rfl (by omega)) ?_) <;> (first | refine rd_skip rfl rfl ?_ | refine rd_skip2 rfl rfl ?_ | refine rdg_u rfl rfl rfl rfl (aloadw rfl rfl) ?_) <;> (first | refine rd_skip rfl rfl ?_ | refine rd_skip2 rfl rfl ?_ | refine rdg_u rfl rfl rfl rfl (aeql rfl rfl) ?_) <;> (first | refine rd_skip rfl rfl ?_ | refine rdg_pick_t rfl rfl rfl rfl ?_ | refine rdg_pick_f rfl rfl rfl rfl ?_) <;> (first | refine rd_pick_t rfl rfl ?_ | refine rd_pick_f rfl rfl ?_) <;> (refine rd_u rfl rfl (aassign rfl) ?_) <;> (refine rd_end (by kernel_rfl) ?_)) | (refine rgC 9 ?_; (refine smove rfl ?_); (refine sadd rfl rfl (by exact inr_i64_of (by omega)) ?_); (refine sassign rfl ?_); apply jW)))
   all_goals refine ⟨r + 1, ⟨by omega, by omega⟩, ?_⟩
   ·rw [hany, show (F || fndR s i (nth g.rules r)) = true by rw [hc]; rfl]; exact ⟨[0], ToR.S rfl (by repeat' (first | exact rt_nil | refine rt_t rfl rfl ?_ | refine rt_e rfl rfl ?_ | refine rt_p rfl rfl (by first | (simp [AV.bd, bdL, bdL_append]; done) | fail) ?_)) (by repeat' (first | exact ro_nil | refine ro_p rfl (by first | exact rfl | fail) zq5 ?_)) rfl (by (rw [hm]; exact rfl)) rfl zq4 zq3 (by (rw [hm]; exact nle rfl))⟩
   ·rw [hany, show (F || fndR s i (nth g.rules r)) = true by
     rw [Bool.or_eq_true]; right; unfold fndR
     simp only [Bool.or_eq_true, Bool.and_eq_true, decide_eq_true_eq]
     exact .inl ⟨⟨by omega, by omega⟩, hc⟩]
    exact ⟨[0], ToR.S rfl (by repeat' (first | exact rt_nil | refine rt_t rfl rfl ?_ | refine rt_e rfl rfl ?_ | refine rt_p rfl rfl (by first | (simp [AV.bd, bdL, bdL_append]; done) | fail) ?_)) (by repeat' (first | exact ro_nil | refine ro_p rfl (by first | exact rfl | fail) zq5 ?_)) rfl (by (rw [hm]; exact rfl)) rfl zq4 zq3 (by (rw [hm]; exact nle rfl))⟩
   ·rw [hany, show (F || fndR s i (nth g.rules r)) = false by
     rw [Bool.or_eq_false_iff]; refine ⟨by assumption, ?_⟩; unfold fndR
     rw [Bool.eq_false_iff]; intro h
     simp only [ne_eq, Bool.or_eq_true, Bool.and_eq_true, decide_eq_true_eq] at h
     rcases h with h | h
     ·exact absurd h.2 (by assumption)
     ·omega]
    exact ⟨[0], ToR.S rfl (by repeat' (first | exact rt_nil | refine rt_t rfl rfl ?_ | refine rt_e rfl rfl ?_ | refine rt_p rfl rfl (by first | (simp [AV.bd, bdL, bdL_append]; done) | fail) ?_)) (by repeat' (first | exact ro_nil | refine ro_p rfl (by first | exact rfl | fail) zq5 ?_)) rfl (by (rw [hm]; exact rfl)) rfl zq4 zq3 (by (rw [hm]; exact nle rfl))⟩
   ·rw [hany, show (F || fndR s i (nth g.rules r)) = false by
     rw [Bool.or_eq_false_iff]; refine ⟨by assumption, ?_⟩; unfold fndR
     rw [Bool.eq_false_iff]; intro h
     simp only [ne_eq, Bool.or_eq_true, Bool.and_eq_true, decide_eq_true_eq] at h
     omega]
    exact ⟨[0], ToR.S rfl (by repeat' (first | exact rt_nil | refine rt_t rfl rfl ?_ | refine rt_e rfl rfl ?_ | refine rt_p rfl rfl (by first | (simp [AV.bd, bdL, bdL_append]; done) | fail) ?_)) (by repeat' (first | exact ro_nil | refine ro_p rfl (by first | exact rfl | fail) zq5 ?_)) rfl (by (rw [hm]; exact rfl)) rfl zq4 zq3 (by (rw [hm]; exact nle rfl))⟩
   ·rw [hany, show (F || fndR s i (nth g.rules r)) = decide (nth (nth g.rules r).body 1 = nth s i) by
     rw [show F = false by assumption, Bool.false_or, Bool.eq_iff_iff]; unfold fndR
     simp only [Bool.or_eq_true, Bool.and_eq_true, decide_eq_true_eq]
     omega]
    exact ⟨[0], ToR.S rfl (by repeat' (first | exact rt_nil | refine rt_t rfl rfl ?_ | refine rt_e rfl rfl ?_ | refine rt_p rfl rfl (by first | (simp [AV.bd, bdL, bdL_append]; done) | fail) ?_)) (by repeat' (first | exact ro_nil | refine ro_p rfl (by first | exact rfl | fail) zq5 ?_)) rfl (by (rw [hm]; exact rfl)) rfl zq4 zq3 (by (rw [hm]; exact nle rfl))⟩
   ·rw [hany, show (F || fndR s i (nth g.rules r)) = false by
     rw [Bool.or_eq_false_iff]; refine ⟨by assumption, ?_⟩; unfold fndR
     rw [Bool.eq_false_iff]; intro h
     simp only [ne_eq, Bool.or_eq_true, Bool.and_eq_true, decide_eq_true_eq] at h
     omega]
    exact ⟨[0], ToR.S rfl (by repeat' (first | exact rt_nil | refine rt_t rfl rfl ?_ | refine rt_e rfl rfl ?_ | refine rt_p rfl rfl (by first | (simp [AV.bd, bdL, bdL_append]; done) | fail) ?_)) (by repeat' (first | exact ro_nil | refine ro_p rfl (by first | exact rfl | fail) zq5 ?_)) rfl (by (rw [hm]; exact rfl)) rfl zq4 zq3 (by (rw [hm]; exact nle rfl))⟩
  ·have hfe : (g.rules.take r).any (fndR s i) = fndO g s i := by rw [List.take_of_length_le (by omega)]; rfl
   rw [hfe]
   cases hfo : fndO g s i with
   | true =>
    (repeat' (first | apply jA | apply jH | apply jI | apply jJ | apply jL | apply jN | apply jP | (refine wp_cond rfl (fun hc => ?_) (fun hc => ?_) <;> (try simp only [sB, ne_eq, reduceCtorEq] at hc) <;> (try (exfalso; omega))) | (refine rgC 8 ?_; (refine smove rfl ?_); (refine sfieldp rfl rfl rfl ?_); (refine sloadp rfl rfl rfl rfl ?_); (refine slenm rfl rfl ?_); (refine slss rfl rfl ?_); apply jW) | (refine rgC 12 ?_; (refine smove rfl ?_); (refine su (anot rfl) ?_); apply jW) | (refine rgC 5 ?_; (refine smove rfl ?_); (refine sadd rfl rfl (by exact inr_i64_of (by omega)) ?_); (refine sassign rfl ?_); apply jW)))
    all_goals try (exfalso; simp at hc; done)
    refine ⟨i + 1, ⟨by omega, by omega, fun j hj => ?_⟩, ⟨[0], ToR.S rfl (by repeat' (first | exact rt_nil | refine rt_t rfl rfl ?_ | refine rt_e rfl rfl ?_ | refine rt_p rfl rfl (by first | (simp [AV.bd, bdL, bdL_append]; done) | fail) ?_)) (by repeat' (first | exact ro_nil | refine ro_p rfl (by first | exact rfl | fail) zq5 ?_)) rfl (by (rw [hm]; exact rfl)) rfl zq4 zq3 (by (rw [hm]; exact nle rfl))⟩⟩
    by_cases e : j = i
    ·subst e; exact hfo
    ·exact hall j (by omega)
   | false =>
    have hal : (List.range s.length).all (fndO g s) = false := by
     rw [List.all_eq_false]
     exact ⟨i, List.mem_range.2 hlt, by rw [hfo]; simp⟩
    rw [if_neg (by rw [hal]; simp)]
    (repeat' (first | apply jA | apply jH | apply jJ | apply jK | apply jL | apply jM | apply jO | apply jP | apply jS | (refine wp_cond rfl (fun hc => ?_) (fun hc => ?_) <;> (try simp only [sB, ne_eq, reduceCtorEq] at hc) <;> (try (exfalso; omega))) | (refine rgC 8 ?_; (refine smove rfl ?_); (refine sfieldp rfl rfl rfl ?_); (refine sloadp rfl rfl rfl rfl ?_); (refine slenm rfl rfl ?_); (refine slss rfl rfl ?_); apply jW) | (refine rgC 12 ?_; (refine smove rfl ?_); (refine su (anot rfl) ?_); apply jW) | (refine rgC 13 ?_; (refine sassign rfl ?_); (refine sassign rfl ?_); apply jW) | refine ret_2 rfl rfl rfl rfl ?_))
    all_goals try (exfalso; simp at hc; done)
    rfl
 ·have hal : (List.range s.length).all (fndO g s) = true := by
   rw [List.all_eq_true]
   exact fun j hj => hall j (by have := List.mem_range.1 hj; omega)
  rw [if_pos hal]
  have hlv : ∀ j, j < s.length -> j % 2 = 1 -> 0 <= levO g l s j /\ levO g l s j < l.length := fun j hj h2 => by
   have := op_lev (hG.odd_op (hall j (by omega)) h2)
   exact ⟨this.1, this.2.2⟩
  have hll := fun t => level20_fn g l hf t
  obtain ⟨h, hh⟩ : ∃ h, s.length = 2 * h + 1 := ⟨s.length / 2, by omega⟩
  rw [show s.length / 2 = h by omega]
  (repeat' (first | apply jA | apply jF | apply jH | apply jJ | apply jL | apply jP | (refine wp_cond rfl (fun hc => ?_) (fun hc => ?_) <;> (try simp only [sB, ne_eq, reduceCtorEq] at hc) <;> (try (exfalso; omega))) | (refine rgC 4 ?_; (refine smove rfl ?_); (refine smove rfl ?_); (refine slenm rfl rfl ?_); (refine slss rfl rfl ?_); apply jW) | (refine WP.regionC ?_; (refine sassign rfl ?_); apply jW)))
  refine wp_loop (fun (x : Nat × Int) => x.1 <= h /\ (x.2 = -1 \/ (0 <= x.2 /\ x.2 < (2 * x.1 + 1 : Nat) /\ x.2.toNat % 2 = 1)) /\ rootN g l s (h - x.1) (2 * x.1 + 1) x.2 = rootN g l s h 1 (-1)) (fun x => h - x.1)
   (fun x => (S 131 [(1, levelsA l), (2, intsA s), (3, .ptr 0 4 0 0), (12, intA x.2), (13, intA (2 * x.1 + 1 : Nat))] 1 [(0, some (.arr 4 [gramA g]))])) (0, -1) ⟨[0], ToR.S rfl (by repeat' (first | exact rt_nil | refine rt_t rfl rfl ?_ | refine rt_e rfl rfl ?_ | refine rt_p rfl rfl (by first | (simp [AV.bd, bdL, bdL_append]; done) | fail) ?_)) (by repeat' (first | exact ro_nil | refine ro_p rfl (by first | exact rfl | fail) zq5 ?_)) rfl (by (rw [hm]; exact rfl)) rfl zq4 zq3 (by (rw [hm]; exact nle rfl))⟩ ⟨Nat.zero_le _, .inl rfl, rfl⟩ ?_
  rintro ⟨m, q⟩ ⟨hmh, hq, hrn⟩
  dsimp only at hmh hq hrn ⊢
  by_cases hml : m < h
  ·have hl1 := hlv (2 * m + 1) (by omega) (by omega)
   unfold levO at hl1
   have hla := hll (nth s (2 * m + 1))
   have hst : rootN g l s (h - m) (2 * m + 1) q = rootN g l s h 1 (-1) := hrn
   rw [show h - m = (h - (m + 1)) + 1 by omega, rootN] at hst
   unfold levO at hst
   rcases hq with rfl | ⟨q0, q1, q2⟩
   ·rw [if_pos (.inl (by omega))] at hst
    rw [show 2 * m + 1 + 2 = 2 * (m + 1) + 1 by omega] at hst
    (repeat' (first | apply jA | apply jF | apply jH | apply jI | apply jJ | apply jL | apply jP | (refine wp_cond rfl (fun hc => ?_) (fun hc => ?_) <;> (try simp only [sB, ne_eq, reduceCtorEq] at hc) <;> (try (exfalso; omega))) | (refine rgC 16 ?_; (refine smove rfl ?_); (refine smove rfl ?_); (refine slenm rfl rfl ?_); (refine slss rfl rfl ?_); apply jW) | (refine wp_draw (id := 18) 8 mixed (by kernel_rfl) (by kernel_rfl) rfl ?_ <;> (refine rd_u rfl rfl (aloadpw rfl rfl rfl rfl) ?_) <;> (refine rmove rfl ?_) <;> (refine rmove rfl ?_) <;> (refine rmove rfl ?_) <;> (refine rd_u rfl rfl (aidxn rfl rfl (by omega)) ?_) <;> (refine rd_u rfl rfl (aloadw rfl rfl) ?_) <;> (refine rd_call rfl rfl zq1 zq5 (hla) ?_) <;> (refine rd_u rfl rfl (aassign rfl) ?_) <;> (refine rd_end (by kernel_rfl) ?_)) | (refine wp_draw (id := 19) 13 mixed (by kernel_rfl) (by kernel_rfl) rfl ?_ <;> (refine rmove rfl ?_) <;> (refine rd_u rfl rfl (alss rfl rfl) ?_) <;> (refine rmove rfl ?_) <;> (refine rd_skip rfl rfl ?_) <;> (refine rd_skip rfl rfl ?_) <;> (refine rd_skip rfl rfl ?_) <;> (refine rd_skip rfl rfl ?_) <;> (refine rd_skip rfl rfl ?_) <;> (refine rd_skip rfl rfl ?_) <;> (refine rd_skip rfl rfl ?_) <;> (refine rd_skip rfl rfl ?_) <;> (refine rd_skip rfl rfl ?_) <;> (refine rd_pick_t rfl rfl ?_) <;> (refine rd_end (by kernel_rfl) ?_)) | (refine rgC 20 ?_; (refine smove rfl ?_); (refine sassign rfl ?_); apply jW) | (refine rgC 17 ?_; (refine smove rfl ?_); (refine sadd rfl rfl (by exact inr_i64_of (by omega)) ?_); (refine sassign rfl ?_); apply jW)))
    all_goals try (exfalso; simp at hc; done)
    exact ⟨(m + 1, ((2 * m + 1 : Nat) : Int)), ⟨by dsimp only; omega, by dsimp only; omega, .inr ⟨by dsimp only; omega, by dsimp only; omega, by dsimp only; omega⟩, hst⟩, ⟨[0], ToR.S rfl (by repeat' (first | exact rt_nil | refine rt_t rfl rfl ?_ | refine rt_e rfl rfl ?_ | refine rt_p rfl rfl (by first | (simp [AV.bd, bdL, bdL_append]; done) | fail) ?_)) (by repeat' (first | exact ro_nil | refine ro_p rfl (by first | exact rfl | fail) zq5 ?_)) rfl (by (rw [hm]; exact rfl)) rfl zq4 zq3 (by (rw [hm]; exact nle rfl))⟩⟩
   ·obtain ⟨p, rfl⟩ := Int.eq_ofNat_of_zero_le q0
    have hp : p < s.length := by omega
    have hl2 := hlv p hp (by omega)
    unfold levO at hl2
    rw [Int.toNat_natCast] at hst
    have hlb := hll (nth s p)
    rw [show 2 * m + 1 + 2 = 2 * (m + 1) + 1 by omega] at hst
    by_cases hlt : levelG g l (nth s (2 * m + 1)) < levelG g l (nth s p)
    ·rw [if_pos (.inr hlt)] at hst
     (repeat' (first | apply jA | apply jF | apply jH | apply jI | apply jJ | apply jL | apply jP | (refine wp_cond rfl (fun hc => ?_) (fun hc => ?_) <;> (try simp only [sB, ne_eq, reduceCtorEq] at hc) <;> (try (exfalso; omega))) | (refine rgC 16 ?_; (refine smove rfl ?_); (refine smove rfl ?_); (refine slenm rfl rfl ?_); (refine slss rfl rfl ?_); apply jW) | (refine wp_draw (id := 18) 8 mixed (by kernel_rfl) (by kernel_rfl) rfl ?_ <;> (refine rd_u rfl rfl (aloadpw rfl rfl rfl rfl) ?_) <;> (refine rmove rfl ?_) <;> (refine rmove rfl ?_) <;> (refine rmove rfl ?_) <;> (refine rd_u rfl rfl (aidxn rfl rfl (by omega)) ?_) <;> (refine rd_u rfl rfl (aloadw rfl rfl) ?_) <;> (refine rd_call rfl rfl zq1 zq5 (hla) ?_) <;> (refine rd_u rfl rfl (aassign rfl) ?_) <;> (refine rd_end (by kernel_rfl) ?_)) | (refine wp_draw (id := 19) 13 mixed (by kernel_rfl) (by kernel_rfl) rfl ?_ <;> (refine rmove rfl ?_) <;> (refine rd_u rfl rfl (alss rfl rfl) ?_) <;> (refine rmove rfl ?_) <;> (refine gmove rfl rfl rfl ?_) <;> (refine rdg_u rfl rfl rfl rfl (aloadpw rfl rfl rfl rfl) ?_) <;> (refine gmove rfl rfl rfl ?_) <;> (refine gmove rfl rfl rfl ?_) <;> (refine gmove rfl rfl rfl ?_) <;> (refine rdg_u rfl rfl rfl rfl (aidxn rfl rfl (by omega)) ?_) <;> (refine rdg_u rfl rfl rfl rfl (aloadw rfl rfl) ?_) <;> (refine rdg_call rfl rfl rfl rfl zq1 zq5 (hlb) ?_) <;> (refine rdg_u rfl rfl rfl rfl (alss rfl rfl) ?_) <;> (refine rd_pick_f rfl rfl ?_) <;> (refine rd_end (by kernel_rfl) ?_)) | (refine rgC 20 ?_; (refine smove rfl ?_); (refine sassign rfl ?_); apply jW) | (refine rgC 17 ?_; (refine smove rfl ?_); (refine sadd rfl rfl (by exact inr_i64_of (by omega)) ?_); (refine sassign rfl ?_); apply jW)))
     all_goals try (exfalso; simp at hc; omega)
     exact ⟨(m + 1, ((2 * m + 1 : Nat) : Int)), ⟨by dsimp only; omega, by dsimp only; omega, .inr ⟨by dsimp only; omega, by dsimp only; omega, by dsimp only; omega⟩, hst⟩, ⟨[0], ToR.S rfl (by repeat' (first | exact rt_nil | refine rt_t rfl rfl ?_ | refine rt_e rfl rfl ?_ | refine rt_p rfl rfl (by first | (simp [AV.bd, bdL, bdL_append]; done) | fail) ?_)) (by repeat' (first | exact ro_nil | refine ro_p rfl (by first | exact rfl | fail) zq5 ?_)) rfl (by (rw [hm]; exact rfl)) rfl zq4 zq3 (by (rw [hm]; exact nle rfl))⟩⟩
    ·rw [if_neg (by omega)] at hst
     by_cases heq : levelG g l (nth s (2 * m + 1)) = levelG g l (nth s p)
     ·rw [if_pos heq] at hst
      generalize hkk : levelG g l (nth s (2 * m + 1)) = kk at *
      generalize levelG g l (nth s p) = kp at *
      by_cases ha3 : (nth l kk.toNat).assoc = 3
      ·rw [if_pos ha3] at hst
       rw [<- hst]
       (repeat' (first | apply jA | apply jF | apply jH | apply jI | apply jK | apply jM | apply jO | apply jS | (refine wp_cond rfl (fun hc => ?_) (fun hc => ?_) <;> (try simp only [sB, ne_eq, reduceCtorEq] at hc) <;> (try (exfalso; omega))) | (refine rgC 16 ?_; (refine smove rfl ?_); (refine smove rfl ?_); (refine slenm rfl rfl ?_); (refine slss rfl rfl ?_); apply jW) | (refine wp_draw (id := 18) 8 mixed (by kernel_rfl) (by kernel_rfl) rfl ?_ <;> (refine rd_u rfl rfl (aloadpw rfl rfl rfl rfl) ?_) <;> (refine rmove rfl ?_) <;> (refine rmove rfl ?_) <;> (refine rmove rfl ?_) <;> (refine rd_u rfl rfl (aidxn rfl rfl (by omega)) ?_) <;> (refine rd_u rfl rfl (aloadw rfl rfl) ?_) <;> (refine rd_call rfl rfl zq1 zq5 (hla) ?_) <;> (refine rd_u rfl rfl (aassign rfl) ?_) <;> (refine rd_end (by kernel_rfl) ?_)) | (refine wp_draw (id := 19) 13 mixed (by kernel_rfl) (by kernel_rfl) rfl ?_ <;> (refine rmove rfl ?_) <;> (refine rd_u rfl rfl (alss rfl rfl) ?_) <;> (refine rmove rfl ?_) <;> (refine gmove rfl rfl rfl ?_) <;> (refine rdg_u rfl rfl rfl rfl (aloadpw rfl rfl rfl rfl) ?_) <;> (refine gmove rfl rfl rfl ?_) <;> (refine gmove rfl rfl rfl ?_) <;> (refine gmove rfl rfl rfl ?_) <;> (refine rdg_u rfl rfl rfl rfl (aidxn rfl rfl (by omega)) ?_) <;> (refine rdg_u rfl rfl rfl rfl (aloadw rfl rfl) ?_) <;> (refine rdg_call rfl rfl rfl rfl zq1 zq5 (hlb) ?_) <;> (refine rdg_u rfl rfl rfl rfl (alss rfl rfl) ?_) <;> (refine rd_pick_f rfl rfl ?_) <;> (refine rd_end (by kernel_rfl) ?_)) | (refine wp_draw (id := 21) 9 mixed (by kernel_rfl) (by kernel_rfl) rfl ?_ <;> (refine rmove rfl ?_) <;> (refine rd_u rfl rfl (aloadpw rfl rfl rfl rfl) ?_) <;> (refine rmove rfl ?_) <;> (refine rmove rfl ?_) <;> (refine rmove rfl ?_) <;> (refine rd_u rfl rfl (aidxn rfl rfl (by omega)) ?_) <;> (refine rd_u rfl rfl (aloadw rfl rfl) ?_) <;> (refine rd_call rfl rfl zq1 zq5 (hlb) ?_) <;> (refine rd_u rfl rfl (aeql rfl rfl) ?_) <;> (refine rd_end (by kernel_rfl) ?_)) | (refine rgC 22 ?_; (refine smove rfl ?_); (refine smove rfl ?_); (refine su (aidxz rfl rfl (by omega)) ?_); (refine su (afieldi rfl rfl rfl) ?_); (refine su (aloadi rfl rfl) ?_); (refine seql rfl rfl ?_); apply jW) | (refine rgC 23 ?_; (refine sassign rfl ?_); (refine sassign rfl ?_); apply jW) | refine ret_2 rfl rfl rfl rfl ?_))
       all_goals try (exfalso; simp at hc; omega)
       rfl
      ·rw [if_neg ha3] at hst
       by_cases ha1 : (nth l kk.toNat).assoc = 1
       ·rw [if_pos ha1] at hst
        (repeat' (first | apply jA | apply jF | apply jH | apply jI | apply jN | (refine wp_cond rfl (fun hc => ?_) (fun hc => ?_) <;> (try simp only [sB, ne_eq, reduceCtorEq] at hc) <;> (try (exfalso; omega))) | (refine rgC 16 ?_; (refine smove rfl ?_); (refine smove rfl ?_); (refine slenm rfl rfl ?_); (refine slss rfl rfl ?_); apply jW) | (refine wp_draw (id := 18) 8 mixed (by kernel_rfl) (by kernel_rfl) rfl ?_ <;> (refine rd_u rfl rfl (aloadpw rfl rfl rfl rfl) ?_) <;> (refine rmove rfl ?_) <;> (refine rmove rfl ?_) <;> (refine rmove rfl ?_) <;> (refine rd_u rfl rfl (aidxn rfl rfl (by omega)) ?_) <;> (refine rd_u rfl rfl (aloadw rfl rfl) ?_) <;> (refine rd_call rfl rfl zq1 zq5 (hla) ?_) <;> (refine rd_u rfl rfl (aassign rfl) ?_) <;> (refine rd_end (by kernel_rfl) ?_)) | (refine wp_draw (id := 19) 13 mixed (by kernel_rfl) (by kernel_rfl) rfl ?_ <;> (refine rmove rfl ?_) <;> (refine rd_u rfl rfl (alss rfl rfl) ?_) <;> (refine rmove rfl ?_) <;> (refine gmove rfl rfl rfl ?_) <;> (refine rdg_u rfl rfl rfl rfl (aloadpw rfl rfl rfl rfl) ?_) <;> (refine gmove rfl rfl rfl ?_) <;> (refine gmove rfl rfl rfl ?_) <;> (refine gmove rfl rfl rfl ?_) <;> (refine rdg_u rfl rfl rfl rfl (aidxn rfl rfl (by omega)) ?_) <;> (refine rdg_u rfl rfl rfl rfl (aloadw rfl rfl) ?_) <;> (refine rdg_call rfl rfl rfl rfl zq1 zq5 (hlb) ?_) <;> (refine rdg_u rfl rfl rfl rfl (alss rfl rfl) ?_) <;> (refine rd_pick_f rfl rfl ?_) <;> (refine rd_end (by kernel_rfl) ?_)) | (refine wp_draw (id := 21) 9 mixed (by kernel_rfl) (by kernel_rfl) rfl ?_ <;> (refine rmove rfl ?_) <;> (refine rd_u rfl rfl (aloadpw rfl rfl rfl rfl) ?_) <;> (refine rmove rfl ?_) <;> (refine rmove rfl ?_) <;> (refine rmove rfl ?_) <;> (refine rd_u rfl rfl (aidxn rfl rfl (by omega)) ?_) <;> (refine rd_u rfl rfl (aloadw rfl rfl) ?_) <;> (refine rd_call rfl rfl zq1 zq5 (hlb) ?_) <;> (refine rd_u rfl rfl (aeql rfl rfl) ?_) <;> (refine rd_end (by kernel_rfl) ?_)) | (refine WP.regionC ?_; (refine smove rfl ?_); (refine smove rfl ?_); (refine su (aidxz rfl rfl (by omega)) ?_); (refine su (afieldi rfl rfl rfl) ?_); (refine su (aloadi rfl rfl) ?_); (refine seql rfl rfl ?_); apply jW) | (refine rgC 25 ?_; (refine smove rfl ?_); (refine sassign rfl ?_); apply jW) | (refine rgC 17 ?_; (refine smove rfl ?_); (refine sadd rfl rfl (by exact inr_i64_of (by omega)) ?_); (refine sassign rfl ?_); apply jW)))
        all_goals try (exfalso; simp at hc; omega)
        exact ⟨(m + 1, ((2 * m + 1 : Nat) : Int)), ⟨by dsimp only; omega, by dsimp only; omega, .inr ⟨by dsimp only; omega, by dsimp only; omega, by dsimp only; omega⟩, hst⟩, ⟨[0], ToR.S rfl (by repeat' (first | exact rt_nil | refine rt_t rfl rfl ?_ | refine rt_e rfl rfl ?_ | refine rt_p rfl rfl (by first | (simp [AV.bd, bdL, bdL_append]; done) | fail) ?_)) (by repeat' (first | exact ro_nil | refine ro_p rfl (by first | exact rfl | fail) zq5 ?_)) rfl (by (rw [hm]; exact rfl)) rfl zq4 zq3 (by (rw [hm]; exact nle rfl))⟩⟩
       ·rw [if_neg ha1] at hst
        (repeat' (first | apply jA | apply jF | apply jH | apply jI | apply jN | (refine wp_cond rfl (fun hc => ?_) (fun hc => ?_) <;> (try simp only [sB, ne_eq, reduceCtorEq] at hc) <;> (try (exfalso; omega))) | (refine rgC 16 ?_; (refine smove rfl ?_); (refine smove rfl ?_); (refine slenm rfl rfl ?_); (refine slss rfl rfl ?_); apply jW) | (refine wp_draw (id := 18) 8 mixed (by kernel_rfl) (by kernel_rfl) rfl ?_ <;> (refine rd_u rfl rfl (aloadpw rfl rfl rfl rfl) ?_) <;> (refine rmove rfl ?_) <;> (refine rmove rfl ?_) <;> (refine rmove rfl ?_) <;> (refine rd_u rfl rfl (aidxn rfl rfl (by omega)) ?_) <;> (refine rd_u rfl rfl (aloadw rfl rfl) ?_) <;> (refine rd_call rfl rfl zq1 zq5 (hla) ?_) <;> (refine rd_u rfl rfl (aassign rfl) ?_) <;> (refine rd_end (by kernel_rfl) ?_)) | (refine wp_draw (id := 19) 13 mixed (by kernel_rfl) (by kernel_rfl) rfl ?_ <;> (refine rmove rfl ?_) <;> (refine rd_u rfl rfl (alss rfl rfl) ?_) <;> (refine rmove rfl ?_) <;> (refine gmove rfl rfl rfl ?_) <;> (refine rdg_u rfl rfl rfl rfl (aloadpw rfl rfl rfl rfl) ?_) <;> (refine gmove rfl rfl rfl ?_) <;> (refine gmove rfl rfl rfl ?_) <;> (refine gmove rfl rfl rfl ?_) <;> (refine rdg_u rfl rfl rfl rfl (aidxn rfl rfl (by omega)) ?_) <;> (refine rdg_u rfl rfl rfl rfl (aloadw rfl rfl) ?_) <;> (refine rdg_call rfl rfl rfl rfl zq1 zq5 (hlb) ?_) <;> (refine rdg_u rfl rfl rfl rfl (alss rfl rfl) ?_) <;> (refine rd_pick_f rfl rfl ?_) <;> (refine rd_end (by kernel_rfl) ?_)) | (refine wp_draw (id := 21) 9 mixed (by kernel_rfl) (by kernel_rfl) rfl ?_ <;> (refine rmove rfl ?_) <;> (refine rd_u rfl rfl (aloadpw rfl rfl rfl rfl) ?_) <;> (refine rmove rfl ?_) <;> (refine rmove rfl ?_) <;> (refine rmove rfl ?_) <;> (refine rd_u rfl rfl (aidxn rfl rfl (by omega)) ?_) <;> (refine rd_u rfl rfl (aloadw rfl rfl) ?_) <;> (refine rd_call rfl rfl zq1 zq5 (hlb) ?_) <;> (refine rd_u rfl rfl (aeql rfl rfl) ?_) <;> (refine rd_end (by kernel_rfl) ?_)) | (refine WP.regionC ?_; (refine smove rfl ?_); (refine smove rfl ?_); (refine su (aidxz rfl rfl (by omega)) ?_); (refine su (afieldi rfl rfl rfl) ?_); (refine su (aloadi rfl rfl) ?_); (refine seql rfl rfl ?_); apply jW) | (refine rgC 17 ?_; (refine smove rfl ?_); (refine sadd rfl rfl (by exact inr_i64_of (by omega)) ?_); (refine sassign rfl ?_); apply jW)))
        all_goals try (exfalso; simp at hc; omega)
        exact ⟨(m + 1, (p : Int)), ⟨by dsimp only; omega, by dsimp only; omega, .inr ⟨by dsimp only; omega, by dsimp only; omega, by dsimp only; omega⟩, hst⟩, ⟨[0], ToR.S rfl (by repeat' (first | exact rt_nil | refine rt_t rfl rfl ?_ | refine rt_e rfl rfl ?_ | refine rt_p rfl rfl (by first | (simp [AV.bd, bdL, bdL_append]; done) | fail) ?_)) (by repeat' (first | exact ro_nil | refine ro_p rfl (by first | exact rfl | fail) zq5 ?_)) rfl (by (rw [hm]; exact rfl)) rfl zq4 zq3 (by (rw [hm]; exact nle rfl))⟩⟩
     ·rw [if_neg heq] at hst
      (repeat' (first | apply jA | apply jF | apply jH | apply jI | apply jN | (refine wp_cond rfl (fun hc => ?_) (fun hc => ?_) <;> (try simp only [sB, ne_eq, reduceCtorEq] at hc) <;> (try (exfalso; omega))) | (refine rgC 16 ?_; (refine smove rfl ?_); (refine smove rfl ?_); (refine slenm rfl rfl ?_); (refine slss rfl rfl ?_); apply jW) | (refine wp_draw (id := 18) 8 mixed (by kernel_rfl) (by kernel_rfl) rfl ?_ <;> (refine rd_u rfl rfl (aloadpw rfl rfl rfl rfl) ?_) <;> (refine rmove rfl ?_) <;> (refine rmove rfl ?_) <;> (refine rmove rfl ?_) <;> (refine rd_u rfl rfl (aidxn rfl rfl (by omega)) ?_) <;> (refine rd_u rfl rfl (aloadw rfl rfl) ?_) <;> (refine rd_call rfl rfl zq1 zq5 (hla) ?_) <;> (refine rd_u rfl rfl (aassign rfl) ?_) <;> (refine rd_end (by kernel_rfl) ?_)) | (refine wp_draw (id := 19) 13 mixed (by kernel_rfl) (by kernel_rfl) rfl ?_ <;> (refine rmove rfl ?_) <;> (refine rd_u rfl rfl (alss rfl rfl) ?_) <;> (refine rmove rfl ?_) <;> (refine gmove rfl rfl rfl ?_) <;> (refine rdg_u rfl rfl rfl rfl (aloadpw rfl rfl rfl rfl) ?_) <;> (refine gmove rfl rfl rfl ?_) <;> (refine gmove rfl rfl rfl ?_) <;> (refine gmove rfl rfl rfl ?_) <;> (refine rdg_u rfl rfl rfl rfl (aidxn rfl rfl (by omega)) ?_) <;> (refine rdg_u rfl rfl rfl rfl (aloadw rfl rfl) ?_) <;> (refine rdg_call rfl rfl rfl rfl zq1 zq5 (hlb) ?_) <;> (refine rdg_u rfl rfl rfl rfl (alss rfl rfl) ?_) <;> (refine rd_pick_f rfl rfl ?_) <;> (refine rd_end (by kernel_rfl) ?_)) | (refine wp_draw (id := 21) 9 mixed (by kernel_rfl) (by kernel_rfl) rfl ?_ <;> (refine rmove rfl ?_) <;> (refine rd_u rfl rfl (aloadpw rfl rfl rfl rfl) ?_) <;> (refine rmove rfl ?_) <;> (refine rmove rfl ?_) <;> (refine rmove rfl ?_) <;> (refine rd_u rfl rfl (aidxn rfl rfl (by omega)) ?_) <;> (refine rd_u rfl rfl (aloadw rfl rfl) ?_) <;> (refine rd_call rfl rfl zq1 zq5 (hlb) ?_) <;> (refine rd_u rfl rfl (aeql rfl rfl) ?_) <;> (refine rd_end (by kernel_rfl) ?_)) | (refine rgC 17 ?_; (refine smove rfl ?_); (refine sadd rfl rfl (by exact inr_i64_of (by omega)) ?_); (refine sassign rfl ?_); apply jW)))
      all_goals try (exfalso; simp at hc; omega)
      exact ⟨(m + 1, (p : Int)), ⟨by dsimp only; omega, by dsimp only; omega, .inr ⟨by dsimp only; omega, by dsimp only; omega, by dsimp only; omega⟩, hst⟩, ⟨[0], ToR.S rfl (by repeat' (first | exact rt_nil | refine rt_t rfl rfl ?_ | refine rt_e rfl rfl ?_ | refine rt_p rfl rfl (by first | (simp [AV.bd, bdL, bdL_append]; done) | fail) ?_)) (by repeat' (first | exact ro_nil | refine ro_p rfl (by first | exact rfl | fail) zq5 ?_)) rfl (by (rw [hm]; exact rfl)) rfl zq4 zq3 (by (rw [hm]; exact nle rfl))⟩⟩
  ·obtain rfl : m = h := by omega
   rw [show m - m = 0 by omega, rootN] at hrn
   rw [<- hrn]
   (repeat' (first | apply jA | apply jH | apply jJ | apply jK | apply jL | apply jP | apply jS | (refine wp_cond rfl (fun hc => ?_) (fun hc => ?_) <;> (try simp only [sB, ne_eq, reduceCtorEq] at hc) <;> (try (exfalso; omega))) | (refine rgC 16 ?_; (refine smove rfl ?_); (refine smove rfl ?_); (refine slenm rfl rfl ?_); (refine slss rfl rfl ?_); apply jW) | (refine rgC 26 ?_; (refine smove rfl ?_); (refine sassign rfl ?_); (refine sassign rfl ?_); apply jW) | refine ret_2 rfl rfl rfl rfl ?_))
   rfl
theorem rootE_lt {g : Gram} {l : List GLe} {s : List Int} {q : Int} (h : rootE g l s = (q, true)) (h0 : 0 <= q) : q.toNat < s.length := by
 obtain ⟨_, _, h3⟩ := rootE_ok h
 rcases h3 with ⟨_, rfl⟩ | ⟨r, rfl, hr⟩
 ·omega
 ·have := hr.lt; omega
end Go.Lg
namespace Go.Lg
structure MidE (g : Gram) (s : List Int) (t u : List Bool) (mo : Bool) (P : Prop) : Prop where
 un : UnderD g s u
 le : falses u <= falses t
 t1 : mo = true -> falses u < falses t
 t0 : mo = false -> u = t /\ P
theorem MidE.mono {g : Gram} {s : List Int} {t u : List Bool} {mo : Bool} {P Q : Prop} (h : MidE g s t u mo P) (hp : P -> Q) : MidE g s t u mo Q := ⟨h.un, h.le, h.t1, fun e => ⟨(h.t0 e).1, hp (h.t0 e).2⟩⟩
theorem MidE.set {g : Gram} {s : List Int} {t u : List Bool} {mo : Bool} {P Q : Prop} (h : MidE g s t u mo P) (hv : GVal g) {r : Rul} (hr : r ∈ g.rules) {i k : Nat} (hi : i <= k) (hk : k <= s.length) (hb : bdyT (tb (s.length + 1) u) s r.body i k = true) (hn : tb (s.length + 1) u r.head.toNat i k = false) :
  MidE g s t (u.set (tix (s.length + 1) r.head.toNat i k) true) true Q := by
 have hh : r.head.toNat < g.nonterms.length := by have h1 := (hv.rule r hr).h0; have h2 := (hv.rule r hr).hn; omega
 have hf := falses_set (l := u) (i := tix (s.length + 1) r.head.toNat i k) (by rw [h.un.1]; exact tix_lt hh (by omega) (by omega)) hn
 have := h.le
 exact ⟨h.un.set hv hr hi hk hb, by omega, fun _ => by omega, fun e => by cases e⟩
section
variable {T : Nat -> Nat -> Nat -> Bool} {s : List Int} {x : Int} {a : List Bool} {n i j : Nat}
end
open Go.RowKit
section
variable {P : Program} {Γ : Cx} {A : Nat -> Prop} {ρ : Nat -> Option Nat} {s : St} {a : Act} {w : World}
set_option maxHeartbeats 1600000 in
theorem append_two (h : SRa Γ A ρ s a w) {t tx ty e : TypeId} {ti te : TI} (ht : tinfo P t = some ti) (he : ti.elem = some e) (hte : tinfo P e = some te) {d : TypeDesc} (hd : P.underlying tx = some d) (hd' : ∀ k, d ≠ .int k) (hz0 : (zeroA te).isSome = true)
    {y : AV} {v u : Value} {id len : Nat} {es ys : List AV} (hlook : s.look id = some (.arr te.size es)) (hel : es.length = len) (hx : RV A ρ (Im Γ ρ s w) w (.ref id te.size 0 len) v) (hy : RV A ρ (Im Γ ρ s w) w y u) (hys : srcA te s.look y = some ys) (hpos : 0 < ys.length) (hroom : room te (es.length + ys.length)) {nid : Nat} (hn : nid < s.objs.length) (hA : ¬ A nid) :
    ∃ z w', (Builtin.append_ #[t, tx] ty #[v, u]).run P w = .ok z w' /\
      ((SRa Γ A ρ (s.set id (some (.arr te.size (es ++ ys)))) a w' /\ RV A ρ (Im Γ ρ (s.set id (some (.arr te.size (es ++ ys)))) w') w' (.ref id te.size 0 (es ++ ys).length) z) \/
       ∃ ρ', SRa Γ (fun i => A i \/ i = nid) ρ' (s.set nid (some (.arr te.size (es ++ ys)))) a w' /\ RV (fun i => A i \/ i = nid) ρ' (Im Γ ρ' (s.set nid (some (.arr te.size (es ++ ys)))) w') w' (.ref nid te.size 0 (es ++ ys).length) z) := by
  have hu := elem_spec ht he
  obtain ⟨z0, hz0⟩ := Option.isSome_iff_exists.1 hz0
  obtain ⟨zv, _, hzc, _, _, hzl, hs0, _, i, hi, hz, hsz, hby⟩ := zeroA_spec hte hz0
  have hzcs : zv.cells.size = te.size := by rw [<- Array.length_toList, hzc, hzl]
  have grow : ∀ (olds news : List Value) (es ys : List AV) (old : Nat), old < es.length + ys.length -> CR A ρ (Im Γ ρ s w) w (flat es) olds -> CR A ρ (Im Γ ρ s w) w (flat ys) news -> (∀ e, e ∈ es -> e.cells.length = te.size) -> (∀ e, e ∈ ys -> e.cells.length = te.size) ->
      room te (es.length + ys.length) ->
      let w' := w.drew.alloc (.cells (olds.toArray ++ news.toArray ++ Builtin.zeroCells zv.cells (grownCap w (es.length + ys.length) old e - (es.length + ys.length))) e)
      let ρ' := fun i => if i = nid then some w.heap.size else ρ i
      SRa Γ (fun i => A i \/ i = nid) ρ' (s.set nid (some (.arr te.size (es ++ ys)))) a w' /\
      csize w' w.heap.size = some (grownCap w (es.length + ys.length) old e * te.size) /\ es.length + ys.length <= grownCap w (es.length + ys.length) old e /\ grownCap w (es.length + ys.length) old e <= maxLen := by
    intro olds news es ys old hold ho hnw hke hky hroom w' ρ'
    have hall : ∀ e, e ∈ es ++ ys -> e.cells.length = te.size := fun e he => (List.mem_append.1 he).elim (hke e) (hky e)
    have hcr : CR A ρ (Im Γ ρ s w) w (flat (es ++ ys)) (olds ++ news) := by rw [flat_append]; exact ho.append hnw
    have hfl := flat_length hall
    have hl := hcr.len
    have hrow := hcr.row hall (Builtin.zeroCells zv.cells (grownCap w (es.length + ys.length) old e - (es.length + ys.length))).toList
    have heq : (olds ++ news ++ (Builtin.zeroCells zv.cells (grownCap w (es.length + ys.length) old e - (es.length + ys.length))).toList).toArray = olds.toArray ++ news.toArray ++ Builtin.zeroCells zv.cells (grownCap w (es.length + ys.length) old e - (es.length + ys.length)) := by
      apply Array.ext'; simp
    rw [heq] at hrow
    have hge := grownCap_ge w (es.length + ys.length) old e
    have hpos : es.length + ys.length <= maxLen := by
      have hb := hroom.1
      have : es.length + ys.length <= (es.length + ys.length) * te.bytes := Nat.le_mul_of_pos_right _ (Nat.pos_of_ne_zero hroom.2)
      simp only [maxLen]; omega
    refine ⟨(h.drawn (w.drawn + 1)).newRow hn hA e (hrow.drawn _), ?_, hge, grownCap_le_maxLen w _ old e hpos⟩
    refine (csize_block (heap_alloc_new w.drew _)).trans ?_
    congr 1
    rw [<- heq]
    simp only [List.size_toArray, List.length_append, hfl, Array.length_toList, size_zeroCells, hzcs] at hl ⊢
    rw [hl, <- Nat.add_mul]
    congr 1
    omega
  obtain ⟨news, hsrc, hcr, hky⟩ := srcA_sound h hy hys
  have hlive := St.look_some.1 hlook
  cases hx with
  | @ref _ _ _ _ cap b hAi hb hl hcs hm =>
    subst hel
    obtain ⟨cs, t', hblk, hrow⟩ := h.row hlook hb
    have hft := flat_length hrow.wide
    have hcap : cs.size = cap * te.size := by rw [csize_block hblk] at hcs; simpa using hcs
    have hocr := hrow.cr
    have hll := hocr.len
    have hof : ∀ d, (Builtin.firstCells i.size es.length (.slice (some ⟨b, 0 * te.size, none⟩) es.length cap)).run P { w with drawn := d } = .ok (cs.toList.take (flat es).length).toArray { w with drawn := d } := fun d => by
      refine firstCells_some i.size es.length b _ cap _ (by rw [hll, hft, hsz]) (fun j u hu => ?_) d es.length
      rw [cell_of_block hblk]
      rw [List.getElem?_take] at hu
      split at hu
      · simpa using hu
      · cases hu
    have hrun := run_append_gen (P := P) (w := w) (t := t) (tx := tx) (ty := ty) hu hd hd' hi hz hof (by rw [hsz]; exact hsrc) (by rw [hby]; exact hroom.1) (by rw [hby]; exact hroom.2)
    by_cases hle : es.length + ys.length <= cap
    · have hnl := hcr.len
      have hyl := flat_length hky
      have hfit : es.length * te.size + news.length <= cs.size := by
        rw [hnl, hyl, hcap, <- Nat.add_mul]; exact Nat.mul_le_mul_right _ hle
      have hst := run_storeCells_at P b (es.length * te.size) t' news 0 cs w hblk (by simpa using hfit) hcr.atoms
      simp only [Nat.add_zero] at hst
      have hall : ∀ e, e ∈ es ++ ys -> e.cells.length = te.size := fun e he => (List.mem_append.1 he).elim (hrow.wide e) (hky e)
      have hrow2 : Row A ρ (Im Γ ρ s w) w te.size (es ++ ys) (cs.toList.take (es.length * te.size) ++ news ++ cs.toList.drop (es.length * te.size + news.length)).toArray := by
        have := (hocr.append hcr)
        rw [<- flat_append, hft] at this
        exact this.row hall _
      have hw1 := h.writeRow (w' := w.setRow b (cs.toList.take (es.length * te.size) ++ news ++ cs.toList.drop (es.length * te.size + news.length)).toArray) hlive hb (by simp) rfl rfl rfl (fun c hc => setRow_grow w b c _ hc) hblk (setRow_heap w b cs _ t' (0, 0) hblk)
        (by simp only [List.size_toArray, List.length_append, List.length_take, List.length_drop, Array.length_toList]; omega) hrow2
      refine ⟨_, _, hrun.1 hle _ ?_, .inl ⟨hw1, ?_⟩⟩
      · simpa [hsz, add_lit] using hst
      · rw [List.length_append]
        have hcz := csize_block (setRow_heap w b cs (cs.toList.take (es.length * te.size) ++ news ++ cs.toList.drop (es.length * te.size + news.length)).toArray t' (0, 0) hblk)
        refine .ref hAi hb hle (hcz.trans ?_) hm
        congr 1
        rw [Nat.zero_add, <- hcap]
        simp only [List.size_toArray, List.length_append, List.length_take, List.length_drop, Array.length_toList]
        omega
    · have hg := grow _ news es ys cap (by omega) hocr hcr hrow.wide hky hroom
      obtain ⟨g1, g2, g3, g4⟩ := hg
      refine ⟨_, _, hrun.2 (by omega), .inr ⟨_, g1, ?_⟩⟩
      rw [List.length_append]
      exact .ref0 (.inr rfl) (by simp) g3 g2 g4
  | refn hAi hb =>
    have hnone := h.obj id _ hlive
    rw [hb] at hnone
    obtain ⟨k0, hk0⟩ := hnone.resolve_left (by simp)
    injection hk0 with _ hes
    subst hes
    have hrun := run_append_gen (P := P) (w := w) (t := t) (tx := tx) (ty := ty) hu hd hd' hi hz (base := none) (sLen := 0) (sCap := 0) (olds := []) (fun d => by simp [Builtin.firstCells]) (by rw [hsz]; exact hsrc) (by rw [hby]; simpa using hroom.1) (by rw [hby]; exact hroom.2)
    have hg := grow [] news [] ys 0 (by simp; omega) ⟨rfl, by simp, by simp [flat]⟩ hcr (by simp) hky (by simpa using hroom)
    simp only [List.length_nil, Nat.zero_add, List.nil_append] at hg hrun
    obtain ⟨g1, g2, g3, g4⟩ := hg
    exact ⟨_, _, hrun.2 (by omega), .inr ⟨_, g1, .ref0 (.inr rfl) (by simp) g3 g2 g4⟩⟩
end
section
variable {P : Program} {Γ : Cx} {n M : Nat} {l : List (Nat × AV)} {os : List (Nat × Option AObj)} {x X : AV} {d t : Tmp} {ty : TypeId} {pos : String} {af : Array Edge} {ops : Array Oper} {rest : List Oper} {K : St -> Prop} {Q : Exit -> St -> Prop} {a b : Operand} {g : FuncId} {first cap xa ys : List AV} {f : Operand} {args : Array Operand} {tys : Array TypeId}
theorem wpo_app2 {i : Nat} {te tj : TI} {tx ty2 : TypeId} {k bt id len : Nat} {es zs : List AV} {y : AV} [ht : TEl P ty te k bt] [h3 : TIc P tx tj] (hop : ops[i]? = some ⟨some d, .call ⟨.builtin .append, #[a, b], #[ty, tx]⟩, ty2, pos, af, none⟩)
  (hsh : (match tj.sh with | .int => false | _ => true) = true) (ha : opq n l a = some (.ref id k 0 len)) (ho : lookq M os id = some (.arr k es)) (hl : es.length = len)
  (hb : opq n l b = some y) (hy : srcA te (lookq M os) y = some zs) (hpos : 0 < zs.length) (hz0 : (zeroA te).isSome = true) (hbt : Nat.beq bt 0 = false) (hr : (es.length + zs.length) * bt <= 140737488355328)
  (h1 : K (S n ((d, .ref id k 0 (es ++ zs).length) :: l) (M + 1) ((id, some (.arr k (es ++ zs))) :: (M, none) :: os)))
  (h2 : K (S n ((d, .ref M k 0 (es ++ zs).length) :: l) (M + 1) ((M, some (.arr k (es ++ zs))) :: os))) : WPO P Γ ops Q i K (S n l M os) := by
 obtain ⟨ti, el, g1, he, hs, g4, hsz, hbz⟩ := ht.h
 subst hsz
 intro ac w hs0
 unfold wpOp
 rw [hop]
 simp only
 rw [if_pos (by simp [Region.wanted])]
 refine .inl ?_
 obtain ⟨ρ, hρ⟩ := hs0
 have hM : (S n l M os).objs.length = M := ol_length M os
 have hroom := hρ.room'
 have e0 : ({ S n l M os with objs := (S n l M os).objs ++ [none] } : St) = S n l (M + 1) ((M, none) :: os) := by simp only [S]; rw [ol_push]
 rw [e0, hM] at hroom
 have hsh' : ¬ tj.sh = .int := by intro h; rw [h] at hsh; cases hsh
 obtain ⟨dd, hd, hd'⟩ := sh_not_int h3.h hsh'
 have hb0 : te.bytes ≠ 0 := by rw [hbz]; exact Nat.ne_of_beq_eq_false hbt
 have hrm : room te (es.length + zs.length) := ⟨by rw [hbz]; exact hr, hb0⟩
 have hidM : id < M := by
  unfold lookq at ho
  cases h : Nat.blt id M with
  | true => exact blt_of h
  | false => rw [h] at ho; simp at ho
 have hlk : ∀ j, j < M -> lookq (M + 1) ((M, none) :: os) j = lookq M os j := fun j hj => by
  rw [<- S_look n l, <- S_look n l]
  simp only [St.look, S]
  rw [<- ol_push, List.getElem?_append_left (by rw [ol_length]; exact hj)]
 have hx := hroom.eval a
 have hyv := hroom.eval b
 have hopa : (S n l (M + 1) ((M, none) :: os)).op a = .ref id te.size 0 len := opq_op ha
 have hopb : (S n l (M + 1) ((M, none) :: os)).op b = y := opq_op hb
 rw [hopa] at hx
 rw [hopb] at hyv
 have hlook : (S n l (M + 1) ((M, none) :: os)).look id = some (.arr te.size es) := by rw [S_look, hlk id hidM]; exact ho
 have hys : srcA te (S n l (M + 1) ((M, none) :: os)).look y = some zs := by
  have e1 : ∀ j o, lookq M os j = some o -> (S n l (M + 1) ((M, none) :: os)).look j = some o := fun j o hj => by
   have hjM : j < M := by
    unfold lookq at hj
    cases h : Nat.blt j M with
    | true => exact blt_of h
    | false => rw [h] at hj; simp at hj
   rw [S_look, hlk j hjM]; exact hj
  cases y with
  | ref id2 k2 off2 len2 =>
   simp only [srcA] at hy ⊢
   cases hq : lookq M os id2 with
   | none => rw [hq] at hy; cases hy
   | some o => rw [hq] at hy; rw [e1 _ _ hq]; exact hy
  | val v =>
   have e2 : ∀ f g : Nat -> Option AObj, srcA te f (.val v) = srcA te g (.val v) := fun f g => by
    cases v with
    | slice a n c => cases a <;> cases n <;> rfl
    | _ => rfl
   rw [e2 _ (lookq M os)]; exact hy
  | _ => exact hy
 obtain ⟨z, w', hrun, hres⟩ := append_two (P := P) (ty := ty2) hroom g1 he g4 hd hd' hz0 hlook hl hx hyv hys hpos hrm (nid := M) (by rw [show (S n l (M + 1) ((M, none) :: os)).objs.length = M + 1 from ol_length _ _]; omega) (by omega)
 unfold Oper.wp
 rw [show (execOp ac.eval ⟨some d, .call ⟨.builtin .append, #[a, b], #[ty, tx]⟩, ty2, pos, af, none⟩).run P w = .ok (.value z) w' by simp_all [execOp, resolve, invoke, builtin]]
 simp only [Oper.upon]
 rcases hres with ⟨hA, hv⟩ | ⟨ρ', hA, hv⟩
 ·refine ⟨_, h1, ρ, ?_⟩
  have h5 := hA.put (some d) hv
  have e : ((S n l (M + 1) ((M, none) :: os)).set id (some (.arr te.size (es ++ zs)))).put (some d) (.ref id te.size 0 (es ++ zs).length) = S n ((d, .ref id te.size 0 (es ++ zs).length) :: l) (M + 1) ((id, some (.arr te.size (es ++ zs))) :: (M, none) :: os) := by simp [S, St.set, St.put, ol_set, tl_set]
  rw [e] at h5
  refine h5.more (fun j hj => ?_) (fun j hj => hj)
  rw [show (S n ((d, AV.ref id te.size 0 (es ++ zs).length) :: l) (M + 1) ((id, some (.arr te.size (es ++ zs))) :: (M, none) :: os)).objs.length = M + 1 from ol_length _ _]
  omega
 ·refine ⟨_, h2, ρ', ?_⟩
  have h5 := hA.put (some d) hv
  have e : ((S n l (M + 1) ((M, none) :: os)).set M (some (.arr te.size (es ++ zs)))).put (some d) (.ref M te.size 0 (es ++ zs).length) = S n ((d, .ref M te.size 0 (es ++ zs).length) :: l) (M + 1) ((M, some (.arr te.size (es ++ zs))) :: os) := by
   simp only [S, St.set, St.put, tl_set, St.mk.injEq, true_and]
   rw [<- ol_push, <- ol_push, List.set_append_right _ _ (by rw [ol_length]; omega), ol_length, Nat.sub_self]
   rfl
  rw [e] at h5
  refine h5.more (fun j hj => ?_) (fun j hj => hj)
  rw [show (S n ((d, AV.ref M te.size 0 (es ++ zs).length) :: l) (M + 1) ((M, some (.arr te.size (es ++ zs))) :: os)).objs.length = M + 1 from ol_length _ _]
  omega
def FnQ (P : Program) (g : FuncId) (ys : List AV) (os : List AObj) (post : AV -> List (Option AObj) -> Prop) : Prop :=
 Spec P g ys (os.map some) fun r o' => post r o' /\ os.length <= o'.length /\ r.bd o'.length = true
def RetQ (P : Program) (rs : List ResultVar) (m : Nat) (post : AV -> List (Option AObj) -> Prop) (s : St) : Prop := ∃ X os', post X os' /\ m <= os'.length /\ X.bd os'.length = true /\ RetO P rs m X os' s
theorem FnQ.intro {fn : Func} {c : Code} {aos : List AObj} {post : AV -> List (Option AObj) -> Prop} {rs : List ResultVar} (he : enterable P g = true) (hf : P.funcs[g]? = some fn) (hb : fn.body = some c) (hrs : fn.results = rs.toArray) (hn : fn.ntmps = n) (hl : ys.length <= n)
  (h : ∀ Γ : Cx, Γ.m = aos.length -> WP P Γ c (bodyQ (RetQ P rs aos.length post)) (S n (enumA 0 ys) aos.length (enumO 0 aos))) : FnQ P g ys aos post := by
 refine Spec.introR he hf hb (rs := rs) (by rw [hrs]) fun Γ hm => ?_
 subst hn
 rw [List.length_map] at hm
 rw [tl_start _ _ hl]
 have hw := h Γ hm
 simp only [S, <- ol_enum] at hw
 refine WP.mono hw ?_
 have key : ∀ s, RetQ P rs aos.length post s -> ∃ x y l t, resN P s rs = some x /\ ToR (aos.map some).length l ⟨[x], s.objs⟩ ⟨[y], t⟩ /\ (post y t /\ aos.length <= t.length /\ y.bd t.length = true) := by
  rintro s ⟨X, os', h1, h2, h3, x, is, h4, h5⟩
  exact ⟨x, X, is, os', h4, by rw [List.length_map]; exact h5, h1, h2, h3⟩
 intro e s hq
 cases e with
 | normal => exact key s hq
 | ret => exact key s hq
 | _ => exact hq
end
section
variable {P : Program} {Γ : Cx} {n M : Nat} {l : List (Nat × AV)} {os : List (Nat × Option AObj)} {x : AV} {d : Tmp} {ty : TypeId} {pos : String} {af : Array Edge} {ops : Array Oper} {Q : Exit -> St -> Prop} {fuel : Nat} {listed : Array Bool}
end
section
variable {P : Program} {Γ : Cx} {A : Nat -> Prop} {ρ : Nat -> Option Nat} {s : St} {a : Act} {w : World}
end
section
variable {P : Program} {Γ : Cx} {n M : Nat} {l : List (Nat × AV)} {os : List (Nat × Option AObj)} {c : Code} {Q : Exit -> St -> Prop}
end
section
variable {P : Program} {n M : Nat} {l : List (Nat × AV)} {os : List (Nat × Option AObj)} {ty : TypeId} {a b : Operand} {y : AV} {pos : String} {af : Array Edge} {ops : Array Oper} {rest : List Oper} {N i : Nat} 
def oneE : AV -> Bool
 | .agg _ => false
 | e => e.one
end
section
variable {P : Program} {Γ : Cx} {n M : Nat} {l : List (Nat × AV)} {os : List (Nat × Option AObj)} {c : Code} {Q : Exit -> St -> Prop}
end
theorem wp_cut {P : Program} {Γ : Cx} {c : Code} {s : St} {Q' : Exit -> St -> Prop} (R : St -> Prop) (h1 : WP P Γ c (fun e s => e = .normal /\ R s) s) (h2 : ∀ s, R s -> Q' .normal s) : WP P Γ c Q' s :=
 h1.mono fun e s ⟨he, hr⟩ => by subst he; exact h2 s hr
section
variable {P : Program} {n M : Nat} {l : List (Nat × AV)} {os : List (Nat × Option AObj)} {d : Tmp} {ty : TypeId} {pos : String} {af : Array Edge} {ops : Array Oper} {rest : List Oper} {K : St -> Prop} {a b : Operand}
end
section
variable {P : Program} {Γ : Cx} {n M : Nat} {l : List (Nat × AV)} {os : List (Nat × Option AObj)} {c : Code} {Q : Exit -> St -> Prop}
end
end Go.Lg
