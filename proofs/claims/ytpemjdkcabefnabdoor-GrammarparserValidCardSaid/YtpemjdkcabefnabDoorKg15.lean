/-
  Part 15 of the proof of GrammarparserValidCard: the logic over the model, the functions' contracts and the plain laws.
-/
import Derived.Test.YtpemjdkcabefnabDoorKg14
import Derived.Recover
import Derived.WalkKit

set_option linter.unusedSimpArgs false
set_option linter.unusedVariables false
set_option linter.unusedSectionVars false
set_option linter.defProp false

namespace Go.Lg
open Go.RowKit
set_option linter.unusedVariables false
def DefD (P : Program) (g : FuncId) (ys : List AV) (os : List AObj) (u : FrameMode) (os' : List AObj) : Prop :=
  enterable P g = true ∧ os.length = os'.length ∧ ∀ (Γ : Cx) (vs : Array Value), Γ.m = os.length → Γ.ds = [] → SR Γ ⟨ys, os.map some⟩ ⟨vs, []⟩ Γ.w0 →
    CallsD P g vs u Γ.w0 fun e u' w' => (∃ v, e = .returned v) ∧ settle u' = .returning ∧ SR Γ ⟨[.tup []], os'.map some⟩ ⟨#[.tuple #[]], []⟩ w'
section
variable {P : Program} {Γ : Cx} {A : Nat → Prop} {ρ : Nat → Option Nat} {s : St} {a : Act} {w : World} {n M : Nat} {l : List (Nat × AV)} {os : List (Nat × Option AObj)} {c : Code} {Q : Exit → St → Prop} {g : FuncId} {ys : List AV}
theorem SRa.boxes (h : SRa Γ A ρ s a w) (hm0 : Γ.m = 0) (hds : Γ.ds = []) (m : Nat) (hl : ∀ i, i < m → ∃ o, s.live i o) (d : Deferred) :
    ∃ Γ' : Cx, Γ'.m = m ∧ Γ'.ds = [d] ∧ Γ'.ρ0 = ρ ∧ SRa Γ' A ρ s { a with defers := [d] } w ∧ ∀ s a w, SR Γ' s a w → SR Γ s { a with defers := [] } w := by
  have hnew : ∀ i, i < m → ∀ b, ρ i = some b → Γ.w0.heap.size ≤ b := fun i hi b hb => by
    obtain ⟨o, ho⟩ := hl i hi
    rcases h.own i o b ho hb with h1 | ⟨j, hj, _⟩
    · exact h1
    · omega
  refine ⟨⟨Γ.w0, Γ.I0, m, ρ, Γ.hG, Γ.hgl, fun i hi b hb => Nat.le_trans Γ.hgl (hnew i hi b hb), [d]⟩, rfl, rfl, rfl, ?_, ?_⟩
  · refine ⟨fun i hi => ⟨(hl i hi).elim fun o ho => h.made i o ho, rfl⟩, h.len, h.tmp, h.obj, h.made, h.bound, fun id o b ho hb => ?_, h.inj, rfl, ⟨h.fr.size, h.fr.os, h.fr.tape, h.fr.output, fun b hb _ => h.fr.block b hb fun i hi => by omega, h.fr.csize⟩⟩
    rcases h.own id o b ho hb with h1 | ⟨j, hj, _⟩
    · exact .inl h1
    · omega
  · rintro s a w ⟨ρ', h'⟩
    refine ⟨ρ', fun i hi => by omega, h'.len, h'.tmp, h'.obj, h'.made, h'.bound, fun id o b ho hb => ?_, h'.inj, hds.symm, ⟨h'.fr.size, h'.fr.os, h'.fr.tape, h'.fr.output, fun b hb _ => h'.fr.block b hb fun i hi e => ?_, h'.fr.csize⟩⟩
    · rcases h'.own id o b ho hb with h1 | ⟨j, hj, h1⟩
      · exact .inl h1
      · exact .inl (hnew j hj b h1)
    · have := hnew i hi b e
      omega
def modeOf : Exit → Option FrameMode
  | .normal | .ret => some .returning
  | .panic ch => some (.panicking ch)
  | _ => none
def bodyD (P : Program) (rs : List ResultVar) (gc : FuncId) (capA : List AV) (X : AV) (e : Exit) (s : St) : Prop :=
  ∃ u, modeOf e = some u ∧ ∃ (is : List Nat) (ys' : List AV) (mid fin : List AObj), Lend is s ([] ++ [] ++ capA) ys' mid ∧ DefD P gc ys' mid u fin ∧ Ret P rs X ⟨s.tmps, updO (apx s.objs.length is) s.objs is (fin.map some)⟩
theorem FnD.intro {fn : Func} {c0 c2 : Code} {id : Nat} {d : Tmp} {gc : FuncId} {caps : Array Operand} {t1 t2 : TypeId} {p1 p2 : String} {af1 af2 : Array Edge} {rs : List ResultVar} {X : AV} {l1 : List (Nat × AV)} {M1 : Nat} {os1 : List (Nat × Option AObj)} {capA : List AV}
    (hX : X.bd 0 = true) (he : enterable P g = true) (hf : P.funcs[g]? = some fn) (hb : fn.body = some (.seq c0 (.seq (.region id [⟨some d, .makeFunc (.func gc) #[] caps, t1, p1, af1, none⟩, ⟨none, .defer ⟨.value (.tmp d), #[], #[]⟩, t2, p2, af2, none⟩].toArray false) c2)))
    (hrs : fn.results = rs.toArray) (hn : fn.ntmps = n) (hl : ys.length ≤ n) (hdn : d < n) (hcap : opqL n l1 caps.toList = some capA) (hptr : ∀ x, x ∈ capA → ∃ i k, x = .ptr i k 0 0 ∧ i < M1) (hlive : ∀ i, i < M1 → (lookq M1 os1 i).isSome = true)
    (h0 : ∀ Γ : Cx, Γ.m = 0 → WP P Γ c0 (fun e s => e = .normal ∧ s = S n l1 M1 os1) (S n (enumA 0 ys) 0 (enumO 0 [])))
    (h2 : ∀ Γ : Cx, Γ.m = M1 → WP P Γ c2 (bodyD P rs gc capA X) (S n ((d, .clo (.func gc) [] capA) :: l1) M1 os1)) : Fn P g ys X := by
  refine ⟨⟨he, fun Γ vs hm hs => calls_of_wp_defers hf hb ?_⟩, hX⟩
  simp only [List.length_nil] at hm
  obtain ⟨ρ, hs⟩ := hs
  have hds : Γ.ds = [] := hs.defers.symm
  have hlen : vs.size = ys.length := hs.len
  have hst : SR Γ ⟨ys ++ List.replicate (fn.ntmps - ys.length) .any, ([] : List AObj).map some⟩ ⟨vs ++ Array.replicate (fn.ntmps - vs.size) undef, []⟩ Γ.w0 := by
    refine ⟨ρ, hs.ext, by simp [hlen], ?_, hs.obj, hs.made, hs.bound, hs.own, hs.inj, hs.defers, hs.fr⟩
    intro i x v hx hv
    simp only at hx hv
    by_cases hi : i < ys.length
    · rw [List.getElem?_append_left hi] at hx
      rw [Array.getElem?_append_left (by omega)] at hv
      exact hs.tmp i x v hx hv
    · rw [List.getElem?_append_right (by omega)] at hx
      have hm := List.mem_of_getElem? hx
      rw [(List.mem_replicate.1 hm).2]
      exact .any
  subst hn
  rw [tl_start _ _ hl] at hst
  have hw0 := h0 Γ hm
  have hst2 : SR Γ (S fn.ntmps (enumA 0 ys) 0 (enumO 0 ([] : List AObj))) ⟨vs ++ Array.replicate (fn.ntmps - vs.size) undef, []⟩ Γ.w0 := hst
  refine wp_seq (wp_mono (hw0 _ _ hst2) ?_)
  rintro e a1 w1 ⟨s1, ⟨rfl, rfl⟩, hs1⟩
  refine wp_seq ?_
  refine wp_region_lit (wpList_plain rfl fun K hK => ?_)
  obtain ⟨ρ1, hρ1⟩ := hs1
  have hcv : ∀ (i : Nat) x v, capA[i]? = some x → (caps.toList.map a1.eval)[i]? = some v → RV (fun id => id < (S fn.ntmps l1 M1 os1).objs.length) ρ1 (Im Γ ρ1 (S fn.ntmps l1 M1 os1) w1) w1 x v := by
    intro i x v hx hv
    have hq := opqL_op (M := M1) (os := os1) hcap
    rw [← hq] at hx
    simp only [List.getElem?_map, Option.map_eq_some_iff] at hx hv
    obtain ⟨p, hp, rfl⟩ := hx
    obtain ⟨q, hq', rfl⟩ := hv
    rw [hp] at hq'; injection hq' with hq'; subst hq'
    exact hρ1.eval p
  have hcl : capA.length = (caps.map a1.eval).size := by
    have hq := opqL_op (M := M1) (os := os1) hcap
    rw [← hq]; simp
  have hrvc : RV (fun id => id < (S fn.ntmps l1 M1 os1).objs.length) ρ1 (Im Γ ρ1 (S fn.ntmps l1 M1 os1) w1) w1 (.clo (.func gc) [] capA) (.func (.func gc) #[] (caps.map a1.eval)) :=
    .clo rfl hcl (fun i x v hx => by simp at hx) (fun i x v hx hv => hcv i x v hx (by simpa using hv))
  unfold Oper.wp
  have hex : (execOp a1.eval ⟨some d, .makeFunc (.func gc) #[] caps, t1, p1, af1, none⟩).run P w1 = .ok (.value (.func (.func gc) #[] (caps.map a1.eval))) w1 := by
    simp [execOp, Instr.makeFunc]
  rw [hex]
  simp only [Oper.upon]
  refine hK _ _ ?_
  refine wpList_plain rfl fun K2 hK2 => ?_
  have hput := hρ1.put (some d) hrvc
  rw [S_put] at hput
  have hdval : (a1.put (some d) (.func (.func gc) #[] (caps.map a1.eval))).eval (.tmp d) = .func (.func gc) #[] (caps.map a1.eval) := by
    have hsz : a1.tmps.size = fn.ntmps := by rw [hρ1.len]; simp [S, tl_length]
    simp [Act.eval, Act.put, hsz, hdn]
  unfold Oper.wp
  generalize ha1 : a1.put (some d) (.func (.func gc) #[] (caps.map a1.eval)) = a1' at *
  have hex2 : (execOp a1'.eval ⟨none, .defer ⟨.value (.tmp d), #[], #[]⟩, t2, p2, af2, none⟩).run P w1 = .ok (.defer ⟨.fn (.func gc) (caps.map a1.eval), #[]⟩) w1 := by
    simp [execOp, resolve, hdval, Deferred.ofValue]
  rw [hex2]
  simp only [Oper.upon]
  refine hK2 _ _ ?_
  refine wpList_nil ?_
  have hda : a1'.defers = [] := hput.defers.trans hds
  have hlv : ∀ i, i < M1 → ∃ o, (S fn.ntmps ((d, .clo (.func gc) [] capA) :: l1) M1 os1).live i o := fun i hi => by
    obtain ⟨o, ho⟩ := Option.isSome_iff_exists.1 (hlive i hi)
    exact ⟨o, St.look_some.1 (by rw [S_look]; exact ho)⟩
  have hMl : ∀ l : List (Nat × AV), (S fn.ntmps l M1 os1).objs.length = M1 := fun l => ol_length M1 os1
  obtain ⟨Γ', hm', hds', hρ0', hsr', hdown⟩ := SRa.boxes (A := fun id => id < M1) (by simpa [hMl] using hput) hm hds M1 hlv ⟨.fn (.func gc) (caps.map a1.eval), #[]⟩
  have hact : ({ a1' with defers := (⟨.fn (.func gc) (caps.map a1.eval), #[]⟩ : Deferred) :: a1'.defers } : Act).put none undef = { a1' with defers := [⟨.fn (.func gc) (caps.map a1.eval), #[]⟩] } := by rw [hda]; rfl
  rw [hact]
  refine wp_mono (h2 Γ' hm' _ _ ⟨ρ1, by simpa [hMl] using hsr'⟩) ?_
  rintro e a' w' ⟨s', ⟨u, hu, is, ys', mid, fin, hL, hD, x0, hres, hz⟩, ρ', hs'⟩
  have hda' : a'.defers = [⟨.fn (.func gc) (caps.map a1.eval), #[]⟩] := hs'.defers.trans hds'
  have hrun : u ≠ .run := by cases e <;> simp [modeOf] at hu <;> subst hu <;> simp
  have hcv' : ∀ (i : Nat) x v, capA[i]? = some x → (caps.map a1.eval)[i]? = some v → RV (fun id => id < s'.objs.length) ρ' (Im Γ' ρ' s' w') w' x v := by
    intro i x v hx hv
    obtain ⟨j, k, rfl, hj⟩ := hptr x (List.mem_of_getElem? hx)
    have h1 := hcv i _ v hx (by simpa using hv)
    obtain ⟨hjA, hjρ⟩ := hs'.ext j (by omega)
    cases h1 with
    | ptr hA hb => exact .ptr hjA (by rw [hjρ, hρ0']; exact hb)
  have hrvc' : RV (fun id => id < s'.objs.length) ρ' (Im Γ' ρ' s' w') w' (.clo (.func gc) [] capA) (.func (.func gc) #[] (caps.map a1.eval)) :=
    .clo rfl hcl (fun i x v hx => by simp at hx) hcv'
  obtain ⟨us, hrn, Γ'', hm'', hw'', hds'', hsr'', hback⟩ := hs'.view is (args := []) (vs := []) hD.1 hrvc' rfl (fun i x v hx => by simp at hx) hL
  have hleaves : Leaves P fn a'.tmps (fun e w' => ∃ r objs' v, e = .returned v ∧ (r = X ∧ r.bd 0 = true) ∧ SR Γ ⟨[r], objs'⟩ ⟨#[v], []⟩ w') a'.defers u w' := by
    rw [hda']
    refine leaves_cons (f := gc) (args := us) hrun (by have := hrn w'; simpa [Deferred.ofValue] using this) ?_
    have hlenL : is.length = mid.length := by have := wkRO_len hL.2.1; simpa using this.symm
    have hDs := hD.2.2 Γ'' us hm'' hds'' (by rw [hw'']; exact hsr'')
    rw [hw''] at hDs
    refine hDs.mono ?_
    rintro e2 u2 w2 ⟨⟨v2, rfl⟩, hset, hsr2⟩
    simp only
    rw [hset]
    have hb2 := hback _ _ _ _ (by rw [List.length_map]; exact Nat.le_of_eq hD.2.1) hsr2
    have hfin := hdown _ _ _ hb2
    obtain ⟨ρ3, h3⟩ := hfin
    obtain ⟨v, hv, _⟩ := resN_sound h3 (by rw [hrs]) hres
    refine ⟨v, hv, X, [], v, rfl, ⟨rfl, hX⟩, SR.out ⟨ρ3, h3⟩ hds hm hz fun ρ4 h4 => ?_⟩
    obtain ⟨v4, hv4, hr4⟩ := resN_sound h4 (by rw [hrs]) hres
    rw [hv] at hv4
    injection hv4 with e1
    subst e1
    exact hr4
  cases e with
  | normal => simp only [modeOf, Option.some.injEq] at hu; subst hu; exact hleaves
  | ret => simp only [modeOf, Option.some.injEq] at hu; subst hu; exact hleaves
  | panic ch => simp only [modeOf, Option.some.injEq] at hu; subst hu; exact hleaves
  | _ => simp [modeOf] at hu
theorem bd_end {rs : List ResultVar} {gc : FuncId} {capA ys' : List AV} {X : AV} {e : Exit} {u : FrameMode} (is : List Nat) {mid fin : List AObj} (hu : modeOf e = some u) (hL : Lend is (S n l M os) ([] ++ [] ++ capA) ys' mid) (hD : DefD P gc ys' mid u fin) (hr : Ret P rs X (S n l M (updN (apx M is) M is (fin.map some) os))) : bodyD P rs gc capA X e (S n l M os) := by
  refine ⟨u, hu, is, ys', mid, fin, hL, hD, ?_⟩
  have hM : (S n l M os).objs.length = M := ol_length M os
  have hil : is.length = mid.length := by have := wkRO_len hL.2.1; simpa using this.symm
  have h1 := hD.2.1
  have e1 : (⟨(S n l M os).tmps, updO (apx (S n l M os).objs.length is) (S n l M os).objs is (fin.map some)⟩ : St) = S n l M (updN (apx M is) M is (fin.map some) os) := by
    rw [hM]
    simp only [S]
    rw [updN_ol is (fin.map some) os (by simp; omega)]
    simp [hil, h1]
  rw [e1]
  exact hr
def upd0 : List Nat → List (Nat × List AV) → List (Nat × Option AObj) → List (Nat × Option AObj)
  | i :: is, (k, vs) :: fs, os => upd0 is fs ((i, some (.arr k vs)) :: os)
  | _, _, os => os
theorem updN_pure {π : Nat → Nat} : ∀ (is : List Nat) (fs : List (Nat × List AV)) (os : List (Nat × Option AObj)), is.length = fs.length → (fs.all fun p => bdL 0 p.2) = true → updN π M is (fs.map fun p => some (.arr p.1 p.2)) os = upd0 is fs os
  | [], [], os, _, _ => by simp [updN, newO, upd0]
  | i :: is, (k, vs) :: fs, os, h, hb => by
    simp only [List.all_cons, Bool.and_eq_true] at hb
    simp only [List.map_cons, updN, Option.map_some, AObj.ren, renL_pure hb.1, upd0]
    exact updN_pure is fs _ (by simpa using h) hb.2
  | [], _ :: _, _, h, _ => by simp at h
  | _ :: _, [], _, h, _ => by simp at h
theorem bd_endp {rs : List ResultVar} {gc : FuncId} {capA ys' : List AV} {X : AV} {e : Exit} {u : FrameMode} (is : List Nat) {mid : List AObj} (fs : List (Nat × List AV)) (hu : modeOf e = some u) (hL : Lend is (S n l M os) ([] ++ [] ++ capA) ys' mid) (hD : DefD P gc ys' mid u (fs.map fun p => .arr p.1 p.2)) (hb : (fs.all fun p => bdL 0 p.2) = true)
    (hr : Ret P rs X (S n l M (upd0 is fs os))) : bodyD P rs gc capA X e (S n l M os) := by
  refine bd_end is hu hL hD ?_
  have hil : is.length = mid.length := by have := wkRO_len hL.2.1; simpa using this.symm
  have h1 := hD.2.1
  rw [List.length_map] at h1
  rw [List.map_map]
  have := updN_pure (M := M) (π := apx M is) is fs os (by omega) hb
  rw [show (some ∘ fun p : Nat × List AV => AObj.arr p.1 p.2) = fun p => some (.arr p.1 p.2) from rfl, this]
  exact hr
theorem DefD.intro {fn : Func} {c2 : Code} {id : Nat} {d x : Tmp} {t1 t2 : TypeId} {p1 p2 : String} {af1 af2 : Array Edge} {aos fin : List AObj} {u u2 : FrameMode} {rv : Value} (he : enterable P g = true) (hlen : aos.length = fin.length) (hf : P.funcs[g]? = some fn)
    (hb : fn.body = some (.seq (.region id [⟨some d, .call ⟨.builtin .recover, #[], #[]⟩, t1, p1, af1, none⟩, ⟨some x, .assign (.tmp d), t2, p2, af2, none⟩].toArray false) c2)) (hrs : fn.results = #[]) (hn : fn.ntmps = n) (hl : ys.length ≤ n) (hdn : d < n) (hat : atom rv = true)
    (hrec : ∀ (c₀ : Frame) (cs : List Frame), c₀.mode = u → (recoverD (c₀ :: cs) = some (rv, { c₀ with mode := u2 } :: cs)) ∨ (recoverD (c₀ :: cs) = none ∧ rv = .nilIface ∧ u2 = u)) (hset : settle u2 = .returning)
    (h2 : ∀ Γ : Cx, Γ.m = aos.length → WP P Γ c2 (bodyQ (RetO P [] aos.length (.tup []) (fin.map some))) (S n ((x, .val rv) :: (d, .val rv) :: enumA 0 ys) aos.length (enumO 0 aos))) : DefD P g ys aos u fin := by
  refine ⟨he, hlen, fun Γ vs hm hds hs => callsD_of_wpS hf hb fun c₀ cs hc => ?_⟩
  obtain ⟨ρ, hs⟩ := hs
  have hlen' : vs.size = ys.length := hs.len
  have hst : SR Γ ⟨ys ++ List.replicate (fn.ntmps - ys.length) .any, aos.map some⟩ ⟨vs ++ Array.replicate (fn.ntmps - vs.size) undef, []⟩ Γ.w0 := by
    refine ⟨ρ, hs.ext, by simp [hlen'], ?_, hs.obj, hs.made, hs.bound, hs.own, hs.inj, hs.defers, hs.fr⟩
    intro i x v hx hv
    simp only at hx hv
    by_cases hi : i < ys.length
    · rw [List.getElem?_append_left hi] at hx
      rw [Array.getElem?_append_left (by omega)] at hv
      exact hs.tmp i x v hx hv
    · rw [List.getElem?_append_right (by omega)] at hx
      have hm := List.mem_of_getElem? hx
      rw [(List.mem_replicate.1 hm).2]
      exact .any
  subst hn
  rw [tl_start _ _ hl, ol_enum] at hst
  generalize hact : (⟨vs ++ Array.replicate (fn.ntmps - vs.size) undef, []⟩ : Act) = a0 at *
  have hst2 : SR Γ (S fn.ntmps (enumA 0 ys) aos.length (enumO 0 aos)) a0 Γ.w0 := hst
  obtain ⟨ρ', h0⟩ := hst2
  have h1 := h0.put (some d) (x := .val rv) (v := rv) (.val hat)
  rw [S_put] at h1
  have hev : (a0.put (some d) rv).eval (.tmp d) = rv := by
    have hsz : a0.tmps.size = fn.ntmps := by rw [h0.len]; simp [S, tl_length]
    simp [Act.eval, Act.put, hsz, hdn]
  generalize ha1 : a0.put (some d) rv = a1 at *
  have h3 : SRa Γ (fun id => id < (S fn.ntmps (enumA 0 ys) aos.length (enumO 0 aos)).objs.length) ρ' (S fn.ntmps ((x, .val rv) :: (d, .val rv) :: enumA 0 ys) aos.length (enumO 0 aos)) (a1.put (some x) rv) Γ.w0 := by
    have := SRa.put (s := S fn.ntmps ((d, .val rv) :: enumA 0 ys) aos.length (enumO 0 aos)) (by simpa [S, ol_length] using h1) (some x) (x := .val rv) (v := rv) (.val hat)
    rw [S_put] at this
    simpa [S, ol_length] using this
  have key : ∀ cs', cs' = { c₀ with mode := u2 } :: cs → c2.wpS P (bodyPostS P fn c₀ cs fun e u' w' => (∃ v, e = .returned v) ∧ settle u' = .returning ∧ SR Γ ⟨[.tup []], fin.map some⟩ ⟨#[.tuple #[]], []⟩ w') (a1.put (some x) rv) cs' Γ.w0 := by
    rintro cs' rfl
    refine wpS_of_wp (wp_mono (h2 Γ hm _ _ ⟨ρ', by simpa [S, ol_length] using h3⟩) ?_)
    rintro e a' w' ⟨s', hq, ρ2, hs'⟩
    have fin2 : RetO P [] aos.length (.tup []) (fin.map some) s' → bodyPostS P fn c₀ cs (fun e u' w' => (∃ v, e = .returned v) ∧ settle u' = .returning ∧ SR Γ ⟨[.tup []], fin.map some⟩ ⟨#[.tuple #[]], []⟩ w') .ret a' ({ c₀ with mode := u2 } :: cs) w' := by
      rintro ⟨y, is, hy, hT⟩
      obtain ⟨v, hv, _⟩ := resN_sound hs' (by rw [hrs]) hy
      have hv0 : v = .tuple #[] := by
        rw [results_rdv, hrs] at hv
        simp at hv
        exact hv.symm
      have hy0 : y = .tup [] := by simp [resN, resL, tupA] at hy; exact hy.symm
      subst hy0
      refine ⟨hs'.defers.trans hds, u2, rfl, v, hv, ⟨v, rfl⟩, hset, ?_⟩
      have h5 : SR Γ ⟨[.tup []], s'.objs⟩ ⟨#[v], []⟩ w' := SR.result ⟨ρ2, hs'⟩ hds fun ρ4 h4 => by
        obtain ⟨v4, hv4, hr4⟩ := resN_sound h4 (by rw [hrs]) hy
        rw [hv] at hv4
        injection hv4 with e1
        subst e1
        exact hr4
      subst hv0
      exact h5.toR (by rw [hm]; exact hT)
    cases e with
    | normal => exact fin2 hq
    | ret => exact fin2 hq
    | _ => exact hq.elim
  refine wpS_seq (wpS_region ?_)
  have hrange : List.range [(⟨some d, .call ⟨.builtin .recover, #[], #[]⟩, t1, p1, af1, none⟩ : Oper), ⟨some x, .assign (.tmp d), t2, p2, af2, none⟩].toArray.size = [0, 1] := rfl
  rw [hrange]
  have hex : (execOp a0.eval ⟨some d, .call ⟨.builtin .recover, #[], #[]⟩, t1, p1, af1, none⟩).run P Γ.w0 = .ok .recover Γ.w0 := by
    simp [execOp, resolve, invoke, builtin]
  have hex2 : (execOp a1.eval ⟨some x, .assign (.tmp d), t2, p2, af2, none⟩).run P Γ.w0 = .ok (.value rv) Γ.w0 := by
    simp [execOp, hev]
  rcases hrec c₀ cs hc with hr | ⟨hr, hrv, hu⟩
  · simp only [wpOpsS, List.getElem?_toArray, List.getElem?_cons_zero, List.getElem?_cons_succ, Region.wanted, if_true, hex, hr, ha1, hex2, Oper.upon]
    exact key _ rfl
  · simp only [wpOpsS, List.getElem?_toArray, List.getElem?_cons_zero, List.getElem?_cons_succ, Region.wanted, if_true, hex, hr, ← hrv, ha1, hex2, Oper.upon]
    refine key _ ?_
    rw [hu, ← hc]
variable {d t : Tmp} {ty ty2 tx : TypeId} {pos : String} {af : Array Edge} {ops : Array Oper} {rest : List Oper} {K : St → Prop} {o1 : Operand} {T : TypeId} {v : Value}
def isIf (P : Program) (tx : TypeId) : Bool := match P.underlying tx with
  | some (.interface _) => true
  | _ => false
theorem equal_iface_nil (h : isIf P tx = true) (w : World) : (Op.equal tx (.iface T v) .nilIface).run P w = .ok false w := by
  unfold isIf at h
  cases hu : P.underlying tx with
  | none => rw [hu] at h; cases h
  | some D =>
    rw [hu] at h
    cases D with
    | interface ms =>
      unfold Op.equal
      obtain ⟨d, hd⟩ : ∃ d, Op.maxDepth = d + 1 := ⟨_, rfl⟩
      rw [hd]
      unfold Op.equalIn
      simp only [Sem.run_bind, run_underlying hu, Result.andThen_ok, Sem.run_pure]
    | _ => cases h
theorem equal_nil_nil (h : isIf P tx = true) (w : World) : (Op.equal tx .nilIface .nilIface).run P w = .ok true w := by
  unfold isIf at h
  cases hu : P.underlying tx with
  | none => rw [hu] at h; cases h
  | some D =>
    rw [hu] at h
    cases D with
    | interface ms =>
      unfold Op.equal
      obtain ⟨d, hd⟩ : ∃ d, Op.maxDepth = d + 1 := ⟨_, rfl⟩
      rw [hd]
      unfold Op.equalIn
      simp only [Sem.run_bind, run_underlying hu, Result.andThen_ok, Sem.run_pure]
    | _ => cases h
theorem run_neq_iface (h : isIf P tx = true) (ρ : Operand → Value) (hv : ρ o1 = .iface T v) (hn : ρ (.const .nilIface) = .nilIface) (w : World) : (execOp ρ ⟨some d, .binOp .neq tx o1 (.const .nilIface) ty2, ty, pos, af, none⟩).run P w = .ok (.value (.bool true)) w := by
  have e1 : execOp ρ ⟨some d, .binOp .neq tx o1 (.const .nilIface) ty2, ty, pos, af, none⟩ = (do let x ← (do eqGuard .neq tx o1 (.const .nilIface) (ρ o1) (ρ (.const .nilIface)); binOp .neq tx (ρ o1) (ρ (.const .nilIface)) : Sem Value); pure (.value x)) := rfl
  rw [e1, hv, hn]
  have e2 : (eqGuard .neq tx o1 (.const .nilIface) (.iface T v) .nilIface : Sem Unit) = pure () := rfl
  have e3 : binOp .neq tx (.iface T v) .nilIface = (do let b ← Op.equal tx (.iface T v) .nilIface; pure (.bool (!b)) : Sem Value) := rfl
  rw [e2, e3]
  simp only [Sem.run_bind, Sem.run_pure, Result.andThen_ok, equal_iface_nil h, Bool.not_false]
theorem run_neq_nil (h : isIf P tx = true) (ρ : Operand → Value) (hv : ρ o1 = .nilIface) (hn : ρ (.const .nilIface) = .nilIface) (w : World) : (execOp ρ ⟨some d, .binOp .neq tx o1 (.const .nilIface) ty2, ty, pos, af, none⟩).run P w = .ok (.value (.bool false)) w := by
  have e1 : execOp ρ ⟨some d, .binOp .neq tx o1 (.const .nilIface) ty2, ty, pos, af, none⟩ = (do let x ← (do eqGuard .neq tx o1 (.const .nilIface) (ρ o1) (ρ (.const .nilIface)); binOp .neq tx (ρ o1) (ρ (.const .nilIface)) : Sem Value); pure (.value x)) := rfl
  rw [e1, hv, hn]
  have e2 : (eqGuard .neq tx o1 (.const .nilIface) .nilIface .nilIface : Sem Unit) = pure () := by
    cases o1 <;> rfl
  have e3 : binOp .neq tx .nilIface .nilIface = (do let b ← Op.equal tx .nilIface .nilIface; pure (.bool (!b)) : Sem Value) := rfl
  rw [e2, e3]
  simp only [Sem.run_bind, Sem.run_pure, Result.andThen_ok, equal_nil_nil h, Bool.not_true]
theorem se_neq_iface (hty : isIf P tx = true) (ha : opq n l o1 = some (.val (.iface T v))) (hk : asemC P ops rest (S n ((d, .val (.bool true)) :: l) M os) K) :
    asemC P ops (⟨some d, .binOp .neq tx o1 (.const .nilIface) ty2, ty, pos, af, none⟩ :: rest) (S n l M os) K := by
  simp only [asemC]
  refine .inr (.inr ⟨_, hk, fun Γ ac w hs => ?_⟩)
  obtain ⟨ρ, hs⟩ := hs
  have hv : ac.eval o1 = .iface T v := by
    have := hs.eval o1
    rw [opq_op ha] at this
    exact this.val_eq
  refine ⟨.bool true, w, run_neq_iface hty _ hv rfl w, ρ, ?_⟩
  have := hs.put (some d) (x := .val (.bool true)) (v := .bool true) (.val rfl)
  rw [S_put] at this
  exact this
theorem se_neq_nil (hty : isIf P tx = true) (ha : opq n l o1 = some (.val .nilIface)) (hk : asemC P ops rest (S n ((d, .val (.bool false)) :: l) M os) K) :
    asemC P ops (⟨some d, .binOp .neq tx o1 (.const .nilIface) ty2, ty, pos, af, none⟩ :: rest) (S n l M os) K := by
  simp only [asemC]
  refine .inr (.inr ⟨_, hk, fun Γ ac w hs => ?_⟩)
  obtain ⟨ρ, hs⟩ := hs
  have hv : ac.eval o1 = .nilIface := by
    have := hs.eval o1
    rw [opq_op ha] at this
    exact this.val_eq
  refine ⟨.bool false, w, run_neq_nil hty _ hv rfl w, ρ, ?_⟩
  have := hs.put (some d) (x := .val (.bool false)) (v := .bool false) (.val rfl)
  rw [S_put] at this
  exact this
def notIf (P : Program) (tx : TypeId) : Bool := match P.underlying tx with
  | some (.interface _) => false
  | some _ => true
  | none => false
theorem run_assert (h : notIf P T = true) (ρ : Operand → Value) (hv : ρ o1 = .iface T v) (w : World) : (execOp ρ ⟨some d, .typeAssert o1 tx T false, ty, pos, af, none⟩).run P w = .ok (.value v) w := by
  unfold notIf at h
  cases hu : P.underlying T with
  | none => rw [hu] at h; cases h
  | some D =>
    rw [hu] at h
    cases D <;> first
      | (simp at h; done)
      | (simp only [execOp, Instr.typeAssert, hv, Sem.run_bind, run_underlying hu, Result.andThen_ok, Sem.run_pure, if_true]; rfl)
theorem se_assert (h : notIf P T = true) (ha : opq n l o1 = some (.val (.iface T v))) (hat : atom v = true) (hk : asemC P ops rest (S n ((d, .val v) :: l) M os) K) :
    asemC P ops (⟨some d, .typeAssert o1 tx T false, ty, pos, af, none⟩ :: rest) (S n l M os) K := by
  simp only [asemC]
  refine .inr (.inr ⟨_, hk, fun Γ ac w hs => ?_⟩)
  obtain ⟨ρ, hs⟩ := hs
  have hv : ac.eval o1 = .iface T v := by
    have := hs.eval o1
    rw [opq_op ha] at this
    exact this.val_eq
  refine ⟨v, w, run_assert h _ hv w, ρ, ?_⟩
  have := hs.put (some d) (x := .val v) (v := v) (.val hat)
  rw [S_put] at this
  exact this
end
end Go.Lg

namespace Go.Lg
def jR := @bo_n
end Go.Lg

namespace Go.Lg
open Go.Proofs
set_option linter.unusedSimpArgs false
set_option linter.unusedVariables false
attribute [local irreducible] Ap Rq asemC WP RunD Ret Gq thenA inBlockA bodyQ noGotoA RqL RqP OpP
set_option maxHeartbeats 4000000
set_option maxRecDepth 20000
attribute [local simp] rdA pkA tokA toks_bd
def boxF (x : AV) : AObj := .arr 3 [x]
def boxI (k : IntKind) (x : Int) : AObj := .arr 1 [.val (.int k x)]
def nilF : AV := .agg [strA ⟨#[]⟩, .val (.slice none 0 0), .val (.slice none 0 0)]
theorem def_ret (xa xb xc : AV) (ha : ∀ n, xa.bd n = true) (hb : ∀ n, xb.bd n = true) (hc' : ∀ n, xc.bd n = true) (o r : Int) : DefD Tryd.prog 9 [.ptr 0 3 0 0, .ptr 1 1 0 0, .ptr 2 1 0 0] [boxF (.agg [xa, xb, xc]), boxI .i64 o, boxI .i64 r] .returning [boxF (.agg [xa, xb, xc]), boxI .i64 o, boxI .i64 r] := by
  refine DefD.intro (u2 := .returning) (rv := .nilIface) (by kernel_rfl) rfl Tryd.func9 rfl rfl Tryd.ntmps9 (by exact Nat.le_of_ble_eq_true rfl) (by decide) rfl (fun c₀ cs hc => .inr ⟨by simp only [recoverD, hc], rfl, rfl⟩) rfl ?_
  intro Γ hm
  (repeat' (first | apply jA | apply jH | apply jI | apply jR | (refine wp_cond rfl (fun hc => ?_) (fun hc => ?_) <;> (try simp only [sB, ne_eq, reduceCtorEq] at hc) <;> (try (exfalso; omega))) | (refine WP.regionC (id := 1) ?_; (refine smove rfl ?_); (refine se_neq_nil (by kernel_rfl) rfl ?_); apply jW)))
  · refine retO_L (x := .tup []) (k := 3) (os1 := [(0, some (boxF (.agg [xa, xb, xc]))), (1, some (boxI .i64 o)), (2, some (boxI .i64 r))]) .nil rfl ⟨[0, 1, 2], ToR.S rfl (by repeat' (first | exact rt_nil | refine rt_e rfl rfl ?_)) (by repeat' (first | exact ro_nil | refine ro_e rfl rfl ?_ | refine ro_p rfl (by first | exact rfl | fail) (by first | (simp [bdL, bdL_append, AV.bd, *]; done) | fail) ?_)) rfl rfl rfl (by (simp [bdT, AV.bd, bdL, bdL_append]; done)) (by repeat' (first | exact True.intro | exact rfl | refine And.intro ?_ ?_ | simp [bdOq, bdL, bdL_append, AV.bd, *])) (by exact Nat.le_of_ble_eq_true rfl)⟩ rfl
theorem def_panic (xa xb xc : AV) (ha : ∀ n, xa.bd n = true) (hb : ∀ n, xb.bd n = true) (hc' : ∀ n, xc.bd n = true) (o r p : Int) : DefD Tryd.prog 9 [.ptr 0 3 0 0, .ptr 1 1 0 0, .ptr 2 1 0 0] [boxF (.agg [xa, xb, xc]), boxI .i64 o, boxI .i64 r] (.panicking [{ v := synV p, recovered := false }]) [boxF nilF, boxI .i64 p, boxI .i64 3] := by
  refine DefD.intro (u2 := .panicking [{ v := synV p, recovered := true }]) (rv := synV p) (by kernel_rfl) rfl Tryd.func9 rfl rfl Tryd.ntmps9 (by exact Nat.le_of_ble_eq_true rfl) (by decide) rfl (fun c₀ cs hc => .inl (by simp only [recoverD, hc])) rfl ?_
  intro Γ hm
  (repeat' (first | apply jA | apply jH | apply jR | (refine wp_cond rfl (fun hc => ?_) (fun hc => ?_) <;> (try simp only [sB, ne_eq, reduceCtorEq] at hc) <;> (try (exfalso; omega))) | (refine WP.regionC (id := 1) ?_; (refine smove rfl ?_); (refine se_neq_iface (by kernel_rfl) rfl ?_); apply jW) | (refine wp_tree (id := 2) 6 mixed rfl ?_ <;> (refine wpt_take 1 rfl still_move (by exact ap_move (rq_p rfl rfl)) (by kernel_rfl) (by kernel_rfl) (by kernel_rfl) (by repeat (exact pind_q)) ?_; (refine wpt_all (rs := [0, 2]) (by kernel_rfl) rfl ⟨?_, ?_, trivial⟩ <;> (first | (refine wpo_do (i := 0) rfl rfl ?_; (refine su (ap_build (RqP.nil) rfl) ?_); apply jW; (refine wpt_all (rs := [2, 3]) (by kernel_rfl) rfl ⟨?_, ?_, trivial⟩ <;> (first | (refine wpo_do (i := 2) rfl rfl ?_; (refine se_assert (by kernel_rfl) rfl (by kernel_rfl) ?_); apply jW; (refine wpt_all (rs := [3]) (by kernel_rfl) rfl ⟨?_, trivial⟩; (refine wpo_do (i := 3) rfl rfl ?_; (refine se_store_b rfl rfl rfl rfl ?_); apply jW; (refine wpt_all (rs := [4]) (by kernel_rfl) rfl ⟨?_, trivial⟩; (refine wpo_do (i := 4) rfl rfl ?_; (refine se_store_b rfl rfl rfl rfl ?_); apply jW; (refine wpt_all (rs := [5]) (by kernel_rfl) rfl ⟨?_, trivial⟩; (refine wpo_do (i := 5) rfl rfl ?_; (refine se_store_b rfl rfl rfl rfl ?_); apply jW; (refine wpt_end (by kernel_rfl) ?_)))))))) | (refine wpo_do (i := 3) rfl rfl ?_; (refine se_store_b rfl rfl rfl rfl ?_); apply jW; (refine wpt_all (rs := [2]) (by kernel_rfl) rfl ⟨?_, trivial⟩; (refine wpo_do (i := 2) rfl rfl ?_; (refine se_assert (by kernel_rfl) rfl (by kernel_rfl) ?_); apply jW; (refine wpt_all (rs := [4]) (by kernel_rfl) rfl ⟨?_, trivial⟩; (refine wpo_do (i := 4) rfl rfl ?_; (refine se_store_b rfl rfl rfl rfl ?_); apply jW; (refine wpt_all (rs := [5]) (by kernel_rfl) rfl ⟨?_, trivial⟩; (refine wpo_do (i := 5) rfl rfl ?_; (refine se_store_b rfl rfl rfl rfl ?_); apply jW; (refine wpt_end (by kernel_rfl) ?_))))))))))) | (refine wpo_do (i := 2) rfl rfl ?_; (refine se_assert (by kernel_rfl) rfl (by kernel_rfl) ?_); apply jW; (refine wpt_all (rs := [0]) (by kernel_rfl) rfl ⟨?_, trivial⟩; (refine wpo_do (i := 0) rfl rfl ?_; (refine su (ap_build (RqP.nil) rfl) ?_); apply jW; (refine wpt_all (rs := [3]) (by kernel_rfl) rfl ⟨?_, trivial⟩; (refine wpo_do (i := 3) rfl rfl ?_; (refine se_store_b rfl rfl rfl rfl ?_); apply jW; (refine wpt_all (rs := [4]) (by kernel_rfl) rfl ⟨?_, trivial⟩; (refine wpo_do (i := 4) rfl rfl ?_; (refine se_store_b rfl rfl rfl rfl ?_); apply jW; (refine wpt_all (rs := [5]) (by kernel_rfl) rfl ⟨?_, trivial⟩; (refine wpo_do (i := 5) rfl rfl ?_; (refine se_store_b rfl rfl rfl rfl ?_); apply jW; (refine wpt_end (by kernel_rfl) ?_))))))))))))))))
  all_goals refine retO_L (x := .tup []) (k := 3) (os1 := [(0, some (boxF nilF)), (1, some (boxI .i64 p)), (2, some (boxI .i64 3))]) .nil rfl ⟨[0, 1, 2], ToR.S rfl (by repeat' (first | exact rt_nil | refine rt_e rfl rfl ?_)) (by repeat' (first | exact ro_nil | refine ro_e rfl rfl ?_)) rfl rfl rfl (by (simp [bdT, AV.bd, bdL, bdL_append]; done)) (by repeat' (first | exact True.intro | exact rfl | refine And.intro ?_ ?_)) (by exact Nat.le_of_ble_eq_true rfl)⟩ rfl
end Go.Lg

namespace Go.Lg
open Go.Proofs
set_option linter.unusedSimpArgs false
set_option linter.unusedVariables false
attribute [local irreducible] Ap Rq asemC WP RunD Ret Gq thenA inBlockA bodyQ noGotoA RqL RqP OpP
set_option maxHeartbeats 4000000
theorem gpletter_fn (c : Int) : Fn Tryd.prog 33 [.val (.int .u8 c)] (boolA (letB c)) := by
  refine Fn.intro rfl (by kernel_rfl) Tryd.func33 rfl rfl Tryd.ntmps33 (by exact Nat.le_of_ble_eq_true rfl) ?_; intro Γ hm
  (repeat' (first | apply jA | apply jH | apply jK | apply jS | (refine WP.regionC (id := 0) ?_; (refine sassign rfl ?_); apply jW) | (refine WP.regionC (id := 1) ?_; (refine smove rfl ?_); (refine su (ageq rfl rfl) ?_); (refine smove rfl ?_); (refine sg (gq_vt rfl rfl) (fun he => ap_move (rq_p rfl rfl)) ?_); (refine sg (gq_vt rfl rfl) (fun he => ap_leq (rq_c rfl rfl) (rq_p rfl rfl)) ?_); (refine su (ap_and (rq_p rfl rfl) (rq_c rfl rfl)) ?_); (refine smove rfl ?_); (refine sg (gq_vf rfl rfl) (fun he => ap_move (rq_p rfl rfl)) ?_); (refine sg (gq_vf rfl rfl) (fun he => ap_geq (rq_c rfl rfl) (rq_p rfl rfl)) ?_); (refine sg (gq_vf rfl rfl) (fun he => ap_move (rq_c rfl rfl)) ?_); (refine sg (gq_ct rfl rfl) (fun he => ap_move (rq_p rfl rfl)) ?_); (refine sg (gq_ct rfl rfl) (fun he => ap_leq (rq_c rfl rfl) (rq_p rfl rfl)) ?_); (refine sg (gq_vf rfl rfl) (fun he => ap_and (rq_c rfl rfl) (rq_c rfl rfl)) ?_); (refine su (ap_or (rq_p rfl rfl) (rq_c rfl rfl)) ?_); (refine sassign rfl ?_); apply jW) | exact ret_eq rfl rfl rfl))
theorem gpdigit_fn (c : Int) : Fn Tryd.prog 35 [.val (.int .u8 c)] (boolA (digB c)) := by
  refine Fn.intro rfl (by kernel_rfl) Tryd.func35 rfl rfl Tryd.ntmps35 (by exact Nat.le_of_ble_eq_true rfl) ?_; intro Γ hm
  (repeat' (first | apply jA | apply jH | apply jK | apply jS | (refine WP.regionC (id := 0) ?_; (refine sassign rfl ?_); apply jW) | (refine WP.regionC (id := 1) ?_; (refine smove rfl ?_); (refine su (ageq rfl rfl) ?_); (refine smove rfl ?_); (refine sg (gq_vt rfl rfl) (fun he => ap_move (rq_p rfl rfl)) ?_); (refine sg (gq_vt rfl rfl) (fun he => ap_leq (rq_c rfl rfl) (rq_p rfl rfl)) ?_); (refine su (ap_and (rq_p rfl rfl) (rq_c rfl rfl)) ?_); (refine sassign rfl ?_); apply jW) | exact ret_eq rfl rfl rfl))
theorem lex1_fn (c : Int) : Fn Tryd.prog 32 [.val (.int .u8 c)] (boolA (!decide (c = 10))) := by
  refine Fn.intro rfl (by kernel_rfl) Tryd.func32 rfl rfl Tryd.ntmps32 (by exact Nat.le_of_ble_eq_true rfl) ?_; intro Γ hm
  (repeat' (first | apply jA | apply jH | apply jK | apply jS | (refine WP.regionC (id := 0) ?_; (refine sassign rfl ?_); apply jW) | (refine WP.regionC (id := 1) ?_; (refine smove rfl ?_); (refine su (aneq rfl rfl) ?_); (refine sassign rfl ?_); apply jW) | exact ret_eq rfl rfl rfl))
def wB (c : Int) : Bool := letB c || digB c || decide (c = 95)
theorem lex2_fn (c : Int) : Fn Tryd.prog 34 [.val (.int .u8 c)] (boolA (wB c)) := by
  unfold wB
  refine Fn.intro rfl (by kernel_rfl) Tryd.func34 rfl rfl Tryd.ntmps34 (by exact Nat.le_of_ble_eq_true rfl) ?_; intro Γ hm
  (repeat' (first | apply jA | apply jH | apply jK | apply jS | (refine WP.regionC (id := 0) ?_; (refine sassign rfl ?_); apply jW) | (refine WP.regionC (id := 1) ?_; (refine smove rfl ?_); (refine sc_p rfl rfl (by first | ((repeat' first | exact SubL.nil | refine SubL.cons ?_ ?_ | exact Sub.refl); done) | fail) (by first | (simp [bdL, bdL_append, AV.bd]; done) | fail) (gpletter_fn _) ?_); (refine smove rfl ?_); (refine sg (gq_vf rfl rfl) (fun he => ap_move (rq_p rfl rfl)) ?_); (refine sg_p (gq_vf rfl rfl) (fun he => ⟨(rq_p rfl rfl), (RqL.cons (rq_c rfl rfl) (RqL.nil)), (by first | ((repeat' first | exact SubL.nil | refine SubL.cons ?_ ?_ | exact Sub.refl); done) | fail), (by first | (simp [bdL, bdL_append, AV.bd]; done) | fail), gpdigit_fn _⟩) ?_); (refine su (ap_or (rq_p rfl rfl) (rq_c rfl rfl)) ?_); (refine smove rfl ?_); (refine sg (gq_vf rfl rfl) (fun he => ap_move (rq_p rfl rfl)) ?_); (refine sg (gq_vf rfl rfl) (fun he => ap_eql (rq_c rfl rfl) (rq_p rfl rfl)) ?_); (refine su (ap_or (rq_p rfl rfl) (rq_c rfl rfl)) ?_); (refine sassign rfl ?_); apply jW) | exact ret_eq rfl rfl rfl))
def spanN (p : Int → Bool) (s : ByteArray) (k : Nat) : Nat := (((bl s).drop k).takeWhile fun c => p (c.toNat : Int)).length
theorem spanN_step {p : Int → Bool} {s : ByteArray} {k : Nat} (hk : k < s.size) (h : p (bAt s k) = true) : spanN p s k = spanN p s (k + 1) + 1 := by
  have hk' : k < (bl s).length := by rw [bl_len]; exact hk
  unfold spanN
  rw [List.drop_eq_getElem_cons hk']
  have : bAt s k = (((bl s)[k]'hk').toNat : Int) := by
    unfold bAt
    show (((bl s).getD k 0).toNat : Int) = _
    simp [List.getD, hk']
  rw [this] at h
  rw [List.takeWhile_cons, if_pos h]
  simp
theorem spanN_stop {p : Int → Bool} {s : ByteArray} {k : Nat} (h : k < s.size → p (bAt s k) = false) : spanN p s k = 0 := by
  unfold spanN
  by_cases hk : k < s.size
  · have hk' : k < (bl s).length := by rw [bl_len]; exact hk
    rw [List.drop_eq_getElem_cons hk']
    have : bAt s k = (((bl s)[k]'hk').toNat : Int) := by
      unfold bAt
      show (((bl s).getD k 0).toNat : Int) = _
      simp [List.getD, hk']
    have h := h hk
    rw [this] at h
    rw [List.takeWhile_cons, if_neg (by simp [h])]
    rfl
  · rw [List.drop_eq_nil_of_le (by rw [bl_len]; omega)]
    rfl
theorem spanN_le (p : Int → Bool) (s : ByteArray) (k : Nat) (hk : k ≤ s.size) : k + spanN p s k ≤ s.size := by
  have := (List.takeWhile_sublist (fun c : UInt8 => p (c.toNat : Int)) (l := (bl s).drop k)).length_le
  unfold spanN
  rw [List.length_drop, bl_len] at this
  omega
theorem span_fn (f : FuncId) (p : Int → Bool) (hp : ∀ c, Fn Tryd.prog f [.val (.int .u8 c)] (boolA (p c))) (s : ByteArray) (hs : s.size ≤ 1000000) (k : Nat) (hk : k ≤ s.size) :
    Fn Tryd.prog 31 [strA s, intA (k : Nat), .clo (.func f) [] []] (intA ((k + spanN p s k : Nat) : Int)) := by
  refine Fn.intro rfl (by kernel_rfl) Tryd.func31 rfl rfl Tryd.ntmps31 (by exact Nat.le_of_ble_eq_true rfl) ?_; intro Γ hm
  (repeat' (first | apply jA | apply jF | apply jH | (refine WP.regionC (id := 0) ?_; (refine sassign rfl ?_); apply jW)))
  refine wp_loop (fun (j : Nat) => j ≤ s.size ∧ j + spanN p s j = k + spanN p s k) (fun j => s.size - j) (fun j => (S 21 [(0, strA s), (1, intA (j : Nat)), (2, .clo (.func f) [] [])] 0 [])) k ⟨[], ToR.S rfl (by repeat' (first | exact rt_nil | refine rt_e rfl rfl ?_)) (by repeat' (exact ro_nil)) rfl (by (rw [hm]; exact rfl)) rfl (by (simp [bdT, AV.bd, bdL, bdL_append]; done)) (by repeat' (exact True.intro)) (by (rw [hm]; exact Nat.le_of_ble_eq_true rfl))⟩ ⟨hk, rfl⟩ ?_
  rintro j ⟨hj, hjj⟩
  by_cases hl : j < s.size
  · (repeat' (first | apply jA | apply jF | apply jH | apply jI | apply jJ | apply jK | apply jL | apply jN | apply jP | apply jS | (refine wp_cond rfl (fun hc => ?_) (fun hc => ?_) <;> (try simp only [sB, ne_eq, reduceCtorEq] at hc) <;> (try (exfalso; omega))) | (refine WP.regionC (id := 1) ?_; (refine smove rfl ?_); (refine smove rfl ?_); (refine su (alenstr rfl rfl) ?_); (refine slss rfl rfl ?_); (refine smove rfl ?_); (refine sg (gq_vt rfl rfl) (fun he => ap_move (rq_p rfl rfl)) ?_); (refine sg (gq_vt rfl rfl) (fun he => ap_move (rq_p rfl rfl)) ?_); (refine sg (gq_vt rfl rfl) (fun he => ap_move (rq_p rfl rfl)) ?_); (refine sg (gq_vt rfl rfl) (fun he => ap_sidx_n (rq_c rfl rfl) (rq_c rfl rfl) rfl (by (try simp only [sH, id, sB, ne_eq, reduceCtorEq] at he); omega)) ?_); (refine sg_p (gq_vt rfl rfl) (fun he => ⟨(rq_c rfl rfl), (RqL.cons (rq_c rfl rfl) (RqL.nil)), (by first | ((repeat' first | exact SubL.nil | refine SubL.cons ?_ ?_ | exact Sub.refl); done) | fail), (by first | (simp [bdL, bdL_append, AV.bd]; done) | fail), hp _⟩) ?_); (refine su (ap_and (rq_p rfl rfl) (rq_c rfl rfl)) ?_); apply jW) | (refine WP.regionC (id := 2) ?_; (refine smove rfl ?_); (refine sadd rfl rfl (by exact inr_i64_of (by omega)) ?_); (refine sassign rfl ?_); apply jW) | (refine WP.regionC (id := 3) ?_; (refine smove rfl ?_); (refine sassign rfl ?_); apply jW) | refine ret_i rfl ?_))
    · have := spanN_step hl hc.2
      exact ⟨j + 1, ⟨by omega, by omega, by omega⟩, ⟨[], ToR.S rfl (by repeat' (first | exact rt_nil | refine rt_e rfl rfl ?_)) (by repeat' (exact ro_nil)) rfl (by (rw [hm]; exact rfl)) rfl (by (simp [bdT, AV.bd, bdL, bdL_append]; done)) (by repeat' (exact True.intro)) (by (rw [hm]; exact Nat.le_of_ble_eq_true rfl))⟩⟩
    · have := spanN_stop (p := p) (s := s) (k := j) fun _ => by rcases hc with hc | hc; · omega
                                                                exact hc
      omega
  · (repeat' (first | apply jA | apply jH | apply jJ | apply jK | apply jL | apply jP | apply jS | (refine wp_cond rfl (fun hc => ?_) (fun hc => ?_) <;> (try simp only [sB, ne_eq, reduceCtorEq] at hc) <;> (try (exfalso; omega))) | (refine WP.regionC (id := 1) ?_; (refine smove rfl ?_); (refine smove rfl ?_); (refine su (alenstr rfl rfl) ?_); (refine slss rfl rfl ?_); (refine smove rfl ?_); (refine sg (gq_vt rfl rfl) (fun he => ap_move (rq_p rfl rfl)) ?_); (refine sg (gq_vt rfl rfl) (fun he => ap_move (rq_p rfl rfl)) ?_); (refine sg (gq_vt rfl rfl) (fun he => ap_move (rq_p rfl rfl)) ?_); (refine sg (gq_vt rfl rfl) (fun he => ap_sidx_n (rq_c rfl rfl) (rq_c rfl rfl) rfl (by (try simp only [sH, id, sB, ne_eq, reduceCtorEq] at he); omega)) ?_); (refine sg_p (gq_vt rfl rfl) (fun he => ⟨(rq_c rfl rfl), (RqL.cons (rq_c rfl rfl) (RqL.nil)), (by first | ((repeat' first | exact SubL.nil | refine SubL.cons ?_ ?_ | exact Sub.refl); done) | fail), (by first | (simp [bdL, bdL_append, AV.bd]; done) | fail), hp _⟩) ?_); (refine su (ap_and (rq_p rfl rfl) (rq_c rfl rfl)) ?_); apply jW) | (refine WP.regionC (id := 3) ?_; (refine smove rfl ?_); (refine sassign rfl ?_); apply jW) | refine ret_i rfl ?_))
    have := spanN_stop (p := p) (s := s) (k := j) fun h => absurd h hl
    omega
theorem numV_snoc' (l : Tx) (c : UInt8) : numV (l ++ [c]) = min (10 * numV l + ((c.toNat : Int) - 48)) 1001 := by simp [numV, List.foldl_append]
theorem numV_nn (l : Tx) (h : l.all isD = true) : 0 ≤ numV l ∧ numV l ≤ 1001 := by
  induction hn : l.length generalizing l with
  | zero =>
    obtain rfl : l = [] := List.eq_nil_of_length_eq_zero hn
    exact ⟨Int.le_refl _, by decide⟩
  | succ n ih =>
    obtain ⟨l', c, rfl⟩ : ∃ l' c, l = l' ++ [c] := ⟨l.dropLast, l.getLast (by intro e; simp [e] at hn), (List.dropLast_concat_getLast _).symm⟩
    simp only [List.all_append, List.all_cons, List.all_nil, Bool.and_true, Bool.and_eq_true] at h
    have h1 := ih l' h.1 (by simpa using hn)
    have h2 := h.2
    simp only [isD, digB, Bool.and_eq_true, decide_eq_true_eq] at h2
    rw [numV_snoc']
    omega
theorem value_fn (t : Tx) (ht : t.all isD = true) (hl : t.length ≤ 1000000) : Fn Tryd.prog 36 [strA (tx t)] (intA (numV t)) := by
  have hsz : (tx t).size = t.length := tx_size t
  refine Fn.intro rfl (by kernel_rfl) Tryd.func36 rfl rfl Tryd.ntmps36 (by exact Nat.le_of_ble_eq_true rfl) ?_; intro Γ hm
  (repeat' (first | apply jA | apply jF | apply jH | (refine WP.regionC ?_; (refine sassign rfl ?_); apply jW) | (refine WP.regionC (id := 2) ?_; (refine smove rfl ?_); (refine su (alenstr rfl rfl) ?_); (refine smove rfl ?_); apply jW)))
  refine wp_loop (fun (j : Nat) => j ≤ t.length) (fun j => t.length - j) (fun j => (S 21 [(0, strA (tx t)), (3, intA (numV (t.take j))), (6, intA ((tx t).size : Nat)), (7, intA (j : Nat))] 0 [])) 0 ⟨[], ToR.S rfl (by repeat' (first | exact rt_nil | refine rt_e rfl rfl ?_)) (by repeat' (exact ro_nil)) rfl (by (rw [hm]; exact rfl)) rfl (by (simp [bdT, AV.bd, bdL, bdL_append]; done)) (by repeat' (exact True.intro)) (by (rw [hm]; exact Nat.le_of_ble_eq_true rfl))⟩ (Nat.zero_le _) ?_
  rintro j hj
  by_cases hlt : j < t.length
  · have h1 := numV_nn (t.take j) (by rw [List.all_eq_true] at ht ⊢; exact fun x hx => ht x (List.mem_of_mem_take hx))
    have h2 : bAt (tx t) j = ((t[j]'hlt).toNat : Int) := by
      unfold bAt
      show (((bl (tx t)).getD j 0).toNat : Int) = _
      have : bl (tx t) = t := rfl
      rw [this]
      simp [List.getD, hlt]
    have h3 : 48 ≤ bAt (tx t) j ∧ bAt (tx t) j ≤ 57 := by
      have := List.all_eq_true.1 ht _ (List.getElem_mem hlt)
      simp only [isD, digB, Bool.and_eq_true, decide_eq_true_eq] at this
      rw [h2]; exact this
    have h4 : t.take (j + 1) = t.take j ++ [t[j]'hlt] := by rw [List.take_succ_eq_append_getElem hlt]
    have h5 : numV (t.take (j + 1)) = min (10 * numV (t.take j) + (bAt (tx t) j - 48)) 1001 := by rw [h4, numV_snoc', h2]
    (repeat' (first | apply jA | apply jF | apply jH | apply jI | apply jN | (refine wp_cond rfl (fun hc => ?_) (fun hc => ?_) <;> (try simp only [sB, ne_eq, reduceCtorEq] at hc) <;> (try (exfalso; omega))) | (refine WP.regionC (id := 3) ?_; (refine slss rfl rfl ?_); apply jW) | (refine WP.regionC (id := 4) ?_; (refine smove rfl ?_); (refine sassign rfl ?_); apply jW) | (refine WP.regionC (id := 5) ?_; (refine smove rfl ?_); (refine su (amul rfl rfl (by exact inr_i64_of (by omega))) ?_); (refine smove rfl ?_); (refine smove rfl ?_); (refine su (asidxn rfl rfl rfl (by omega)) ?_); (refine su (asub rfl rfl (by exact inr_u8_of (by omega))) ?_); (refine su (aconv rfl rfl (by kernel_rfl) (by exact inr_i64_of (by omega))) ?_); (refine sadd rfl rfl (by exact inr_i64_of (by omega)) ?_); (refine su (amin rfl rfl) ?_); (refine sassign rfl ?_); apply jW) | (refine WP.regionC (id := 6) ?_; (refine sadd rfl rfl (by exact inr_i64_of (by omega)) ?_); (refine smove rfl ?_); apply jW)))
    refine ⟨j + 1, ⟨by omega, by omega⟩, ?_⟩
    rw [h5]
    exact ⟨[], ToR.S rfl (by repeat' (first | exact rt_nil | refine rt_e rfl rfl ?_)) (by repeat' (exact ro_nil)) rfl (by (rw [hm]; exact rfl)) rfl (by (simp [bdT, AV.bd, bdL, bdL_append]; done)) (by repeat' (exact True.intro)) (by (rw [hm]; exact Nat.le_of_ble_eq_true rfl))⟩
  · (repeat' (first | apply jA | apply jH | apply jJ | apply jK | apply jL | apply jP | apply jS | (refine wp_cond rfl (fun hc => ?_) (fun hc => ?_) <;> (try simp only [sB, ne_eq, reduceCtorEq] at hc) <;> (try (exfalso; omega))) | (refine WP.regionC (id := 3) ?_; (refine slss rfl rfl ?_); apply jW) | (refine WP.regionC (id := 7) ?_; (refine smove rfl ?_); (refine sassign rfl ?_); apply jW) | refine ret_i rfl ?_))
    rw [List.take_of_length_le (by omega)]
end Go.Lg

namespace Go.Lg
open Go.Proofs
set_option linter.unusedSimpArgs false
set_option linter.unusedVariables false
attribute [local irreducible] Ap Rq asemC WP RunD Ret Gq thenA inBlockA bodyQ noGotoA RqL RqP OpP
set_option maxHeartbeats 4000000
set_option maxRecDepth 20000
attribute [local simp] tokA toks_bd
theorem bat_cons {s : ByteArray} {k : Nat} (hk : k < s.size) : ∃ (c : UInt8) (r : Tx), (bl s).drop k = c :: r ∧ bAt s k = (c.toNat : Int) ∧ r = (bl s).drop (k + 1) := by
  have hk' : k < (bl s).length := by rw [bl_len]; exact hk
  refine ⟨(bl s)[k]'hk', (bl s).drop (k + 1), List.drop_eq_getElem_cons hk', ?_, rfl⟩
  unfold bAt
  show (((bl s).getD k 0).toNat : Int) = _
  simp [List.getD, hk']
theorem u8eq (c : UInt8) (n : Nat) (hn : n < 256) : ((c.toNat : Int) = n) ↔ c = UInt8.ofNat n := by
  constructor
  · intro h
    have h' : c.toNat = n := by omega
    apply UInt8.toNat_inj.1
    rw [h', UInt8.toNat_ofNat']
    omega
  · rintro rfl
    rw [UInt8.toNat_ofNat']
    omega
theorem extract_tx (s : ByteArray) (a b : Nat) : s.extract a b = tx (((bl s).drop a).take (b - a)) := by
  apply ba_ext
  show (s.extract a b).data.toList = _
  rw [ByteArray.data_extract, Array.toList_extract]
  simp [List.extract_eq_take_drop, bl, tx]
theorem isB_bat {s : ByteArray} {k : Nat} {c : UInt8} (hb : bAt s k = (c.toNat : Int)) : isB c = (decide (bAt s k = 32) || decide (bAt s k = 9) || decide (bAt s k = 13) || decide (bAt s k = 10)) := by
  have e : ∀ n : Nat, n < 256 → decide (bAt s k = (n : Int)) = decide (c = UInt8.ofNat n) := fun n hn => by
    rw [hb]
    have := u8eq c n hn
    simp only [this]
  have e1 := e 32 (by decide); have e2 := e 9 (by decide); have e3 := e 13 (by decide); have e4 := e 10 (by decide)
  simp only [Int.cast_ofNat_Int] at e1 e2 e3 e4
  rw [e1, e2, e3, e4]
  rfl
theorem spanN_r {p : Int → Bool} {s : ByteArray} {k : Nat} {r : Tx} (hr : r = (bl s).drop (k + 1)) : spanN p s (k + 1) = (r.takeWhile fun c => p (c.toNat : Int)).length := by rw [hr]; rfl
theorem drop_add {s : ByteArray} {k : Nat} {l : Tx} (h : (bl s).drop k = l) (n : Nat) : (bl s).drop (k + n) = l.drop n := by rw [← h, List.drop_drop]
theorem lex_fn (s : ByteArray) (hs : s.size ≤ 100000) : Fn Tryd.prog 10 [strA s] (.sl 4 ((lexL (bl s) 0).map tokA)) := by
  refine Fn.intro (by simp [AV.bd, bdL, bdL_append]) (by kernel_rfl) Tryd.func10 rfl rfl Tryd.ntmps10 (by exact Nat.le_of_ble_eq_true rfl) ?_; intro Γ hm
  (repeat' (first | apply jA | apply jF | apply jH | (refine WP.regionC ?_; (refine sassign rfl ?_); apply jW)))
  refine wp_nil 3 4 rfl ?_
  refine wp_loop (fun (σ : List (Nat × Tx) × Nat) => σ.2 ≤ s.size ∧ σ.1.length ≤ σ.2 ∧ σ.1 ++ lexL ((bl s).drop σ.2) σ.2 = lexL (bl s) 0) (fun σ => s.size - σ.2)
    (fun σ => (S 72 [(0, strA s), (3, .ref 0 4 0 σ.1.length), (4, intA (σ.2 : Nat))] 1 [(0, some (.arr 4 (σ.1.map tokA)))])) ([], 0) ⟨[0], ToR.S rfl (by repeat' (first | exact rt_nil | refine rt_r rfl rfl ?_ | refine rt_e rfl rfl ?_)) (by repeat' (first | exact ro_nil | refine ro_e rfl rfl ?_)) rfl (by (rw [hm]; exact rfl)) rfl (by (simp [bdT, AV.bd, bdL, bdL_append]; done)) (by repeat' (first | exact True.intro | exact rfl | refine And.intro ?_ ?_)) (by (rw [hm]; exact Nat.le_of_ble_eq_true rfl))⟩ ⟨Nat.zero_le _, Nat.le_refl _, rfl⟩ ?_
  rintro ⟨acc, k⟩ ⟨hk, ha, hl⟩
  simp only at hk ha hl ⊢
  by_cases hlt : k < s.size
  · obtain ⟨c, r, hd, hb, hr⟩ := bat_cons hlt
    rw [hd, lexL_cons] at hl
    have hB := isB_bat hb
    have h35 : (bAt s k = 35) ↔ c = 35 := by rw [hb]; exact u8eq c 35 (by decide)
    have hL : letB (bAt s k) = isL c := by rw [hb]; rfl
    have hD : digB (bAt s k) = isD c := by rw [hb]; rfl
    cases hBc : isB c with
    | true =>
      rw [hBc] at hB hl
      simp only [if_true] at hl
      (repeat' (first | apply jA | apply jF | apply jH | apply jI | apply jJ | apply jL | apply jP | refine bl_y rfl ?_ | (refine wp_cond rfl (fun hc => ?_) (fun hc => ?_) <;> (try simp only [sB, ne_eq, reduceCtorEq] at hc) <;> (try (exfalso; omega))) | (refine WP.regionC (id := 3) ?_; (refine smove rfl ?_); (refine smove rfl ?_); (refine su (alenstr rfl rfl) ?_); (refine slss rfl rfl ?_); apply jW) | (refine WP.regionC (id := 4) ?_; (refine smove rfl ?_); (refine su (ap_build (RqP.cons (rq_p rfl rfl) (RqP.cons (rq_p rfl rfl) (RqP.nil))) rfl) ?_); (refine se_alloc rfl ?_); (refine se_store_b rfl rfl rfl rfl ?_); apply jW) | (refine WP.regionC ?_; (refine smove rfl ?_); (refine sadd rfl rfl (by exact inr_i64_of (by omega)) ?_); (refine sassign rfl ?_); apply jW) | (refine WP.regionC (id := 6) ?_; (refine smove rfl ?_); (refine smove rfl ?_); (refine su (asidxn rfl rfl rfl (by omega)) ?_); (refine sassign rfl ?_); apply jW) | (refine WP.regionC (id := 7) ?_; (refine smove rfl ?_); (refine seql rfl rfl ?_); (refine smove rfl ?_); (refine sg (gq_vf rfl rfl) (fun he => ap_move (rq_p rfl rfl)) ?_); (refine sg (gq_vf rfl rfl) (fun he => ap_eql (rq_c rfl rfl) (rq_p rfl rfl)) ?_); (refine su (ap_or (rq_p rfl rfl) (rq_c rfl rfl)) ?_); (refine smove rfl ?_); (refine sg (gq_vf rfl rfl) (fun he => ap_move (rq_p rfl rfl)) ?_); (refine sg (gq_vf rfl rfl) (fun he => ap_eql (rq_c rfl rfl) (rq_p rfl rfl)) ?_); (refine su (ap_or (rq_p rfl rfl) (rq_c rfl rfl)) ?_); (refine smove rfl ?_); (refine sg (gq_vf rfl rfl) (fun he => ap_move (rq_p rfl rfl)) ?_); (refine sg (gq_vf rfl rfl) (fun he => ap_eql (rq_c rfl rfl) (rq_p rfl rfl)) ?_); (refine su (ap_or (rq_p rfl rfl) (rq_c rfl rfl)) ?_); (refine sassign rfl ?_); apply jW)))
      · refine ⟨(acc, k + 1), ⟨by simp only; omega, by simp only; omega, by simp only; omega, ?_⟩, ⟨[0], ToR.S rfl (by repeat' (first | exact rt_nil | refine rt_r rfl rfl ?_ | refine rt_e rfl rfl ?_)) (by repeat' (first | exact ro_nil | refine ro_p rfl (by first | exact rfl | fail) (by first | exact bdL_map (fun _ => by exact rfl) _ | fail) ?_)) rfl (by (rw [hm]; exact rfl)) rfl (by (simp [bdT, AV.bd, bdL, bdL_append]; done)) (by repeat' (first | exact True.intro | refine And.intro ?_ ?_ | exact bdL_map (fun _ => by exact rfl) _)) (by (rw [hm]; exact Nat.le_of_ble_eq_true rfl))⟩⟩
        simp only
        rw [← hr]; exact hl
      · exfalso; simp_all
    | false =>
      rw [hBc] at hB hl
      simp only [Bool.false_eq_true, if_false] at hl
      by_cases hc35 : c = 35
      · rw [if_pos hc35] at hl
        have h35' := h35.2 hc35
        have hp1 : spanN (fun c => !decide (c = 10)) s k = comN r + 1 := by
          rw [spanN_step hlt (by rw [h35']; rfl), spanN_r hr]
          unfold comN
          congr 2
          congr 1
          funext d
          have := u8eq d 10 (by decide)
          simp only [Int.cast_ofNat_Int] at this
          simp only [this]
          rfl
        have hle := spanN_le (fun c => !decide (c = 10)) s k hk
        (repeat' (first | apply jA | apply jF | apply jH | apply jI | apply jJ | apply jL | apply jP | refine bl_y rfl ?_ | (refine wp_cond rfl (fun hc => ?_) (fun hc => ?_) <;> (try simp only [sB, ne_eq, reduceCtorEq] at hc) <;> (try (exfalso; omega))) | (refine WP.regionC (id := 3) ?_; (refine smove rfl ?_); (refine smove rfl ?_); (refine su (alenstr rfl rfl) ?_); (refine slss rfl rfl ?_); apply jW) | (refine WP.regionC (id := 4) ?_; (refine smove rfl ?_); (refine su (ap_build (RqP.cons (rq_p rfl rfl) (RqP.cons (rq_p rfl rfl) (RqP.nil))) rfl) ?_); (refine se_alloc rfl ?_); (refine se_store_b rfl rfl rfl rfl ?_); apply jW) | (refine WP.regionC (id := 5) ?_; (refine smove rfl ?_); (refine sadd rfl rfl (by exact inr_i64_of (by omega)) ?_); (refine sassign rfl ?_); apply jW) | (refine WP.regionC (id := 6) ?_; (refine smove rfl ?_); (refine smove rfl ?_); (refine su (asidxn rfl rfl rfl (by omega)) ?_); (refine sassign rfl ?_); apply jW) | (refine WP.regionC (id := 7) ?_; (refine smove rfl ?_); (refine seql rfl rfl ?_); (refine smove rfl ?_); (refine sg (gq_vf rfl rfl) (fun he => ap_move (rq_p rfl rfl)) ?_); (refine sg (gq_vf rfl rfl) (fun he => ap_eql (rq_c rfl rfl) (rq_p rfl rfl)) ?_); (refine su (ap_or (rq_p rfl rfl) (rq_c rfl rfl)) ?_); (refine smove rfl ?_); (refine sg (gq_vf rfl rfl) (fun he => ap_move (rq_p rfl rfl)) ?_); (refine sg (gq_vf rfl rfl) (fun he => ap_eql (rq_c rfl rfl) (rq_p rfl rfl)) ?_); (refine su (ap_or (rq_p rfl rfl) (rq_c rfl rfl)) ?_); (refine smove rfl ?_); (refine sg (gq_vf rfl rfl) (fun he => ap_move (rq_p rfl rfl)) ?_); (refine sg (gq_vf rfl rfl) (fun he => ap_eql (rq_c rfl rfl) (rq_p rfl rfl)) ?_); (refine su (ap_or (rq_p rfl rfl) (rq_c rfl rfl)) ?_); (refine sassign rfl ?_); apply jW) | (refine WP.regionC (id := 9) ?_; (refine smove rfl ?_); (refine seql rfl rfl ?_); (refine sassign rfl ?_); apply jW) | (refine WP.regionC (id := 10) ?_; (refine smove rfl ?_); (refine smove rfl ?_); (refine sc_p rfl rfl (by first | ((repeat' first | exact SubL.nil | refine SubL.cons ?_ ?_ | exact Sub.refl); done) | fail) (by first | (simp [bdL, bdL_append, AV.bd]; done) | fail) (span_fn _ _ lex1_fn s (by omega) k hk) ?_); (refine sassign rfl ?_); apply jW)))
        · refine ⟨(acc, k + spanN (fun c => !decide (c = 10)) s k), ⟨by simp only; omega, by simp only; omega, by simp only; omega, ?_⟩, ⟨[0], ToR.S rfl (by repeat' (first | exact rt_nil | refine rt_r rfl rfl ?_ | refine rt_e rfl rfl ?_)) (by repeat' (first | exact ro_nil | refine ro_p rfl (by first | exact rfl | fail) (by first | exact bdL_map (fun _ => by exact rfl) _ | fail) ?_)) rfl (by (rw [hm]; exact rfl)) rfl (by (simp [bdT, AV.bd, bdL, bdL_append]; done)) (by repeat' (first | exact True.intro | refine And.intro ?_ ?_ | exact bdL_map (fun _ => by exact rfl) _)) (by (rw [hm]; exact Nat.le_of_ble_eq_true rfl))⟩⟩
          simp only
          rw [drop_add hd, hp1]
          have : (c :: r).drop (comN r + 1) = r.drop (comN r) := rfl
          rw [this]
          rw [show k + (comN r + 1) = k + 1 + comN r by omega]
          exact hl
      · rw [if_neg hc35] at hl
        have h35' : ¬ bAt s k = 35 := fun h => hc35 (h35.1 h)
        have htp := tokN_pos c r
        cases hLc : isL c with
        | true =>
          have hsp : spanN wB s k = tokN (c :: r) := by
            rw [spanN_step hlt (by unfold wB; rw [hL, hLc]; rfl), spanN_r hr]
            simp only [tokN, hLc, if_true]
            rw [Nat.add_comm]
            congr 3
            funext d
            have := u8eq d 95 (by decide)
            simp only [Int.cast_ofNat_Int] at this
            simp only [wB, this, isW]
            rfl
          have hle := spanN_le wB s k hk
          have hta : (c :: r).take (tokN (c :: r)) = c :: r.take (tokN (c :: r) - 1) := by
            obtain ⟨m, hm⟩ : ∃ m, tokN (c :: r) = m + 1 := ⟨_, (Nat.sub_add_cancel htp).symm⟩
            rw [hm]; rfl
          have hnD : isD c = false := by
            cases hq : isD c with
            | false => rfl
            | true =>
              simp only [isL, letB, isD, digB, Bool.or_eq_true, Bool.and_eq_true, decide_eq_true_eq] at hLc hq
              omega
          have htW : tkW ((c :: r).take (tokN (c :: r))) = true := by rw [hta]; exact hLc
          have htN : tkNum ((c :: r).take (tokN (c :: r))) = -1 := by rw [hta]; simp only [tkNum, isNum, hnD]; rfl
          have hnext : s.size - (k + spanN wB s k) < s.size - k ∧ k + spanN wB s k ≤ s.size ∧ (acc ++ [(k, (c :: r).take (tokN (c :: r)))]).length ≤ k + spanN wB s k ∧ (acc ++ [(k, (c :: r).take (tokN (c :: r)))]) ++ lexL ((bl s).drop (k + spanN wB s k)) (k + spanN wB s k) = lexL (bl s) 0 := by
            refine ⟨by omega, by omega, by simp only [List.length_append, List.length_cons, List.length_nil]; omega, ?_⟩
            rw [drop_add hd, hsp, ← hl]
            simp
          have htok : tokA (k, (c :: r).take (tokN (c :: r))) = .agg [intA (k : Nat), strA (tx ((c :: r).take (tokN (c :: r)))), boolA true, intA (-1)] := by
            simp only [tokA, htW, htN]
          (repeat' (first | apply jA | apply jF | apply jH | apply jI | apply jN | (refine wp_cond rfl (fun hc => ?_) (fun hc => ?_) <;> (try simp only [sB, ne_eq, reduceCtorEq] at hc) <;> (try (exfalso; omega))) | (refine WP.regionC (id := 3) ?_; (refine smove rfl ?_); (refine smove rfl ?_); (refine su (alenstr rfl rfl) ?_); (refine slss rfl rfl ?_); apply jW) | (refine WP.regionC (id := 4) ?_; (refine smove rfl ?_); (refine su (ap_build (RqP.cons (rq_p rfl rfl) (RqP.cons (rq_p rfl rfl) (RqP.nil))) rfl) ?_); (refine se_alloc rfl ?_); (refine se_store_b rfl rfl rfl rfl ?_); apply jW) | (refine WP.regionC (id := 5) ?_; (refine smove rfl ?_); (refine sadd rfl rfl (by exact inr_i64_of (by omega)) ?_); (refine sassign rfl ?_); apply jW) | (refine WP.regionC (id := 6) ?_; (refine smove rfl ?_); (refine smove rfl ?_); (refine su (asidxn rfl rfl rfl (by omega)) ?_); (refine sassign rfl ?_); apply jW) | (refine WP.regionC (id := 7) ?_; (refine smove rfl ?_); (refine seql rfl rfl ?_); (refine smove rfl ?_); (refine sg (gq_vf rfl rfl) (fun he => ap_move (rq_p rfl rfl)) ?_); (refine sg (gq_vf rfl rfl) (fun he => ap_eql (rq_c rfl rfl) (rq_p rfl rfl)) ?_); (refine su (ap_or (rq_p rfl rfl) (rq_c rfl rfl)) ?_); (refine smove rfl ?_); (refine sg (gq_vf rfl rfl) (fun he => ap_move (rq_p rfl rfl)) ?_); (refine sg (gq_vf rfl rfl) (fun he => ap_eql (rq_c rfl rfl) (rq_p rfl rfl)) ?_); (refine su (ap_or (rq_p rfl rfl) (rq_c rfl rfl)) ?_); (refine smove rfl ?_); (refine sg (gq_vf rfl rfl) (fun he => ap_move (rq_p rfl rfl)) ?_); (refine sg (gq_vf rfl rfl) (fun he => ap_eql (rq_c rfl rfl) (rq_p rfl rfl)) ?_); (refine su (ap_or (rq_p rfl rfl) (rq_c rfl rfl)) ?_); (refine sassign rfl ?_); apply jW) | (refine WP.regionC (id := 9) ?_; (refine smove rfl ?_); (refine seql rfl rfl ?_); (refine sassign rfl ?_); apply jW) | (refine WP.regionC (id := 11) ?_; (refine smove rfl ?_); (refine sc_p rfl rfl (by first | ((repeat' first | exact SubL.nil | refine SubL.cons ?_ ?_ | exact Sub.refl); done) | fail) (by first | (simp [bdL, bdL_append, AV.bd]; done) | fail) (gpletter_fn _) ?_); (refine sassign rfl ?_); apply jW) | (refine WP.regionC (id := 12) ?_; (refine smove rfl ?_); (refine smove rfl ?_); (refine sc_p rfl rfl (by first | ((repeat' first | exact SubL.nil | refine SubL.cons ?_ ?_ | exact Sub.refl); done) | fail) (by first | (simp [bdL, bdL_append, AV.bd]; done) | fail) (span_fn _ wB lex2_fn s (by omega) k hk) ?_); (refine sassign rfl ?_); apply jW) | (refine WP.regionC (id := 13) ?_; (refine sfieldp rfl rfl rfl ?_); (refine se_store_b rfl rfl rfl rfl ?_); apply jW) | (refine WP.regionC (id := 17) ?_; (refine smove rfl ?_); (refine smove rfl ?_); (refine smove rfl ?_); (refine su (ap_slice_s rfl (rq_p rfl rfl) (by exact bq_some (rq_p rfl rfl)) (by exact bq_some (rq_p rfl rfl)) (by omega)) ?_); (refine sfieldp rfl rfl rfl ?_); (refine se_store_b rfl rfl rfl rfl ?_); apply jW)))
          · exfalso; simp_all
          · skip
            have hx : s.extract (k : Int).toNat ((k + spanN wB s k : Nat) : Int).toNat = tx ((c :: r).take (tokN (c :: r))) := by
              rw [extract_tx]
              simp only [Int.toNat_natCast]
              rw [hd, show k + spanN wB s k - k = tokN (c :: r) by omega]
            rw [hx]
            refine wp_st (S 72 [(0, strA s), (3, .ref 0 4 0 acc.length), (4, intA (k : Nat)), (5, .ptr 1 4 0 0), (6, intA ((k + spanN wB s k : Nat) : Int))] 2 [(0, some (.arr 4 (acc.map tokA))), (1, some (.arr 4 [.agg [intA (k : Nat), strA (tx ((c :: r).take (tokN (c :: r)))), boolA true, intA (-1)]]))]) ⟨[0, 1], ToR.S rfl (by repeat' (first | exact rt_nil | refine rt_r rfl rfl ?_ | refine rt_t rfl rfl ?_ | refine rt_e rfl rfl ?_)) (by repeat' (first | exact ro_nil | refine ro_e rfl rfl ?_ | refine ro_p rfl (by first | exact rfl | fail) (by first | exact bdL_map (fun _ => by exact rfl) _ | fail) ?_)) rfl (by (rw [hm]; exact rfl)) rfl (by (simp [bdT, AV.bd, bdL, bdL_append]; done)) (by repeat' (first | exact True.intro | exact rfl | refine And.intro ?_ ?_ | exact bdL_map (fun _ => by exact rfl) _)) (by (rw [hm]; exact Nat.le_of_ble_eq_true rfl))⟩ ?_
            rw [← htok]
            (repeat' (first | apply jH | apply jN | (refine WP.regionC (id := 18) ?_; (refine smove rfl ?_); (refine sloadpw rfl rfl rfl rfl ?_); (refine se_lit (OpP.cons rfl (OpP.nil)) rfl rfl rfl rfl rfl rfl ?_); (refine se_app1 rfl rfl rfl rfl rfl rfl rfl rfl (by omega) ?_); (refine sassign rfl ?_); apply jW) | (refine WP.regionC (id := 19) ?_; (refine smove rfl ?_); (refine sassign rfl ?_); apply jW)))
            exact ⟨(acc ++ [(k, (c :: r).take (tokN (c :: r)))], k + spanN wB s k), hnext, ⟨[3], ToR.S rfl (by repeat' (first | exact rt_nil | refine rt_r rfl rfl ?_ | refine rt_e rfl rfl ?_)) (by repeat' (first | exact ro_nil | refine ro_p rfl (by first | exact rfl | fail) (by first | exact bdL_map (fun _ => by exact rfl) _ | fail) ?_)) rfl (by (rw [hm]; exact rfl)) rfl (by (simp [bdT, AV.bd, bdL, bdL_append]; done)) (by repeat' (first | exact True.intro | refine And.intro ?_ ?_ | exact bdL_map (fun _ => by exact rfl) _)) (by (rw [hm]; exact Nat.le_of_ble_eq_true rfl))⟩⟩
          · exfalso; simp_all
        | false =>
          cases hDc : isD c with
          | true =>
            have hsp : spanN digB s k = tokN (c :: r) := by
              rw [spanN_step hlt (by rw [hD, hDc]), spanN_r hr]
              simp only [tokN, hLc, hDc, Bool.false_eq_true, if_false, if_true]
              rw [Nat.add_comm]
              rfl
            have hle := spanN_le digB s k hk
            have hta : (c :: r).take (tokN (c :: r)) = c :: r.take (tokN (c :: r) - 1) := by
              obtain ⟨m, hm⟩ : ∃ m, tokN (c :: r) = m + 1 := ⟨_, (Nat.sub_add_cancel htp).symm⟩
              rw [hm]; rfl
            have htd : ((c :: r).take (tokN (c :: r))).all isD = true := by
              simp only [tokN, hLc, hDc, Bool.false_eq_true, if_false, if_true]
              rw [Nat.add_comm, List.take_succ_cons, List.all_cons, hDc, Bool.true_and]
              rw [List.all_eq_true]
              intro x hx
              have h1 : r.take (r.takeWhile isD).length = r.takeWhile isD := (List.prefix_iff_eq_take.1 (List.takeWhile_prefix isD)).symm
              rw [h1] at hx
              exact List.all_eq_true.1 List.all_takeWhile x hx
            have htl : ((c :: r).take (tokN (c :: r))).length ≤ 1000000 := by
              have h1 := List.length_take_le (tokN (c :: r)) (c :: r)
              omega
            have hval := value_fn ((c :: r).take (tokN (c :: r))) htd htl
            have htW : tkW ((c :: r).take (tokN (c :: r))) = false := by rw [hta]; exact hLc
            have htN : tkNum ((c :: r).take (tokN (c :: r))) = numV ((c :: r).take (tokN (c :: r))) := by rw [hta]; simp only [tkNum, isNum, hDc, if_true]
            have hx : s.extract (k : Int).toNat ((k + spanN digB s k : Nat) : Int).toNat = tx ((c :: r).take (tokN (c :: r))) := by
              rw [extract_tx]
              simp only [Int.toNat_natCast]
              rw [hd, show k + spanN digB s k - k = tokN (c :: r) by omega]
            rw [← hx] at hval
            have hnext : s.size - (k + spanN digB s k) < s.size - k ∧ k + spanN digB s k ≤ s.size ∧ (acc ++ [(k, (c :: r).take (tokN (c :: r)))]).length ≤ k + spanN digB s k ∧ (acc ++ [(k, (c :: r).take (tokN (c :: r)))]) ++ lexL ((bl s).drop (k + spanN digB s k)) (k + spanN digB s k) = lexL (bl s) 0 := by
              refine ⟨by omega, by omega, by simp only [List.length_append, List.length_cons, List.length_nil]; omega, ?_⟩
              rw [drop_add hd, hsp, ← hl]
              simp
            have htok : tokA (k, (c :: r).take (tokN (c :: r))) = .agg [intA (k : Nat), strA (tx ((c :: r).take (tokN (c :: r)))), boolA false, intA (numV ((c :: r).take (tokN (c :: r))))] := by
              simp only [tokA, htW, htN]
            (repeat' (first | apply jA | apply jF | apply jH | apply jI | apply jN | (refine wp_cond rfl (fun hc => ?_) (fun hc => ?_) <;> (try simp only [sB, ne_eq, reduceCtorEq] at hc) <;> (try (exfalso; omega))) | (refine WP.regionC (id := 3) ?_; (refine smove rfl ?_); (refine smove rfl ?_); (refine su (alenstr rfl rfl) ?_); (refine slss rfl rfl ?_); apply jW) | (refine WP.regionC (id := 4) ?_; (refine smove rfl ?_); (refine su (ap_build (RqP.cons (rq_p rfl rfl) (RqP.cons (rq_p rfl rfl) (RqP.nil))) rfl) ?_); (refine se_alloc rfl ?_); (refine se_store_b rfl rfl rfl rfl ?_); apply jW) | (refine WP.regionC (id := 5) ?_; (refine smove rfl ?_); (refine sadd rfl rfl (by exact inr_i64_of (by omega)) ?_); (refine sassign rfl ?_); apply jW) | (refine WP.regionC (id := 6) ?_; (refine smove rfl ?_); (refine smove rfl ?_); (refine su (asidxn rfl rfl rfl (by omega)) ?_); (refine sassign rfl ?_); apply jW) | (refine WP.regionC (id := 7) ?_; (refine smove rfl ?_); (refine seql rfl rfl ?_); (refine smove rfl ?_); (refine sg (gq_vf rfl rfl) (fun he => ap_move (rq_p rfl rfl)) ?_); (refine sg (gq_vf rfl rfl) (fun he => ap_eql (rq_c rfl rfl) (rq_p rfl rfl)) ?_); (refine su (ap_or (rq_p rfl rfl) (rq_c rfl rfl)) ?_); (refine smove rfl ?_); (refine sg (gq_vf rfl rfl) (fun he => ap_move (rq_p rfl rfl)) ?_); (refine sg (gq_vf rfl rfl) (fun he => ap_eql (rq_c rfl rfl) (rq_p rfl rfl)) ?_); (refine su (ap_or (rq_p rfl rfl) (rq_c rfl rfl)) ?_); (refine smove rfl ?_); (refine sg (gq_vf rfl rfl) (fun he => ap_move (rq_p rfl rfl)) ?_); (refine sg (gq_vf rfl rfl) (fun he => ap_eql (rq_c rfl rfl) (rq_p rfl rfl)) ?_); (refine su (ap_or (rq_p rfl rfl) (rq_c rfl rfl)) ?_); (refine sassign rfl ?_); apply jW) | (refine WP.regionC (id := 9) ?_; (refine smove rfl ?_); (refine seql rfl rfl ?_); (refine sassign rfl ?_); apply jW) | (refine WP.regionC (id := 11) ?_; (refine smove rfl ?_); (refine sc_p rfl rfl (by first | ((repeat' first | exact SubL.nil | refine SubL.cons ?_ ?_ | exact Sub.refl); done) | fail) (by first | (simp [bdL, bdL_append, AV.bd]; done) | fail) (gpletter_fn _) ?_); (refine sassign rfl ?_); apply jW) | (refine WP.regionC (id := 14) ?_; (refine smove rfl ?_); (refine sc_p rfl rfl (by first | ((repeat' first | exact SubL.nil | refine SubL.cons ?_ ?_ | exact Sub.refl); done) | fail) (by first | (simp [bdL, bdL_append, AV.bd]; done) | fail) (gpdigit_fn _) ?_); (refine sassign rfl ?_); apply jW) | (refine WP.regionC (id := 15) ?_; (refine smove rfl ?_); (refine smove rfl ?_); (refine sc_p rfl rfl (by first | ((repeat' first | exact SubL.nil | refine SubL.cons ?_ ?_ | exact Sub.refl); done) | fail) (by first | (simp [bdL, bdL_append, AV.bd]; done) | fail) (span_fn _ _ gpdigit_fn s (by omega) k hk) ?_); (refine sassign rfl ?_); apply jW) | (refine WP.regionC (id := 16) ?_; (refine smove rfl ?_); (refine smove rfl ?_); (refine smove rfl ?_); (refine su (ap_slice_s rfl (rq_p rfl rfl) (by exact bq_some (rq_p rfl rfl)) (by exact bq_some (rq_p rfl rfl)) (by omega)) ?_); (refine sc_p rfl rfl (by first | ((repeat' first | exact SubL.nil | refine SubL.cons ?_ ?_ | exact Sub.refl); done) | fail) (by first | (simp [bdL, bdL_append, AV.bd]; done) | fail) (hval) ?_); (refine sfieldp rfl rfl rfl ?_); (refine se_store_b rfl rfl rfl rfl ?_); apply jW) | (refine WP.regionC (id := 17) ?_; (refine smove rfl ?_); (refine smove rfl ?_); (refine smove rfl ?_); (refine su (ap_slice_s rfl (rq_p rfl rfl) (by exact bq_some (rq_p rfl rfl)) (by exact bq_some (rq_p rfl rfl)) (by omega)) ?_); (refine sfieldp rfl rfl rfl ?_); (refine se_store_b rfl rfl rfl rfl ?_); apply jW)))
            · exfalso; simp_all
            · exfalso; simp_all
            · skip
              have hx : s.extract (k : Int).toNat ((k + spanN digB s k : Nat) : Int).toNat = tx ((c :: r).take (tokN (c :: r))) := by
                rw [extract_tx]
                simp only [Int.toNat_natCast]
                rw [hd, show k + spanN digB s k - k = tokN (c :: r) by omega]
              rw [hx]
              refine wp_st (S 72 [(0, strA s), (3, .ref 0 4 0 acc.length), (4, intA (k : Nat)), (5, .ptr 1 4 0 0), (6, intA ((k + spanN digB s k : Nat) : Int))] 2 [(0, some (.arr 4 (acc.map tokA))), (1, some (.arr 4 [.agg [intA (k : Nat), strA (tx ((c :: r).take (tokN (c :: r)))), boolA false, intA (numV ((c :: r).take (tokN (c :: r))))]]))]) ⟨[0, 1], ToR.S rfl (by repeat' (first | exact rt_nil | refine rt_r rfl rfl ?_ | refine rt_t rfl rfl ?_ | refine rt_e rfl rfl ?_)) (by repeat' (first | exact ro_nil | refine ro_e rfl rfl ?_ | refine ro_p rfl (by first | exact rfl | fail) (by first | exact bdL_map (fun _ => by exact rfl) _ | fail) ?_)) rfl (by (rw [hm]; exact rfl)) rfl (by (simp [bdT, AV.bd, bdL, bdL_append]; done)) (by repeat' (first | exact True.intro | exact rfl | refine And.intro ?_ ?_ | exact bdL_map (fun _ => by exact rfl) _)) (by (rw [hm]; exact Nat.le_of_ble_eq_true rfl))⟩ ?_
              rw [← htok]
              (repeat' (first | apply jH | apply jN | (refine WP.regionC (id := 18) ?_; (refine smove rfl ?_); (refine sloadpw rfl rfl rfl rfl ?_); (refine se_lit (OpP.cons rfl (OpP.nil)) rfl rfl rfl rfl rfl rfl ?_); (refine se_app1 rfl rfl rfl rfl rfl rfl rfl rfl (by omega) ?_); (refine sassign rfl ?_); apply jW) | (refine WP.regionC (id := 19) ?_; (refine smove rfl ?_); (refine sassign rfl ?_); apply jW)))
              exact ⟨(acc ++ [(k, (c :: r).take (tokN (c :: r)))], k + spanN digB s k), hnext, ⟨[3], ToR.S rfl (by repeat' (first | exact rt_nil | refine rt_r rfl rfl ?_ | refine rt_e rfl rfl ?_)) (by repeat' (first | exact ro_nil | refine ro_p rfl (by first | exact rfl | fail) (by first | exact bdL_map (fun _ => by exact rfl) _ | fail) ?_)) rfl (by (rw [hm]; exact rfl)) rfl (by (simp [bdT, AV.bd, bdL, bdL_append]; done)) (by repeat' (first | exact True.intro | refine And.intro ?_ ?_ | exact bdL_map (fun _ => by exact rfl) _)) (by (rw [hm]; exact Nat.le_of_ble_eq_true rfl))⟩⟩
            · exfalso; simp_all
          | false =>
            have hsp : tokN (c :: r) = 1 := by simp only [tokN, hLc, hDc, Bool.false_eq_true, if_false]
            have hta : (c :: r).take (tokN (c :: r)) = [c] := by rw [hsp]; rfl
            have htW : tkW ((c :: r).take (tokN (c :: r))) = false := by rw [hta]; exact hLc
            have htN : tkNum ((c :: r).take (tokN (c :: r))) = -1 := by rw [hta]; simp only [tkNum, isNum, hDc]; rfl
            have hnext : s.size - (k + 1) < s.size - k ∧ k + 1 ≤ s.size ∧ (acc ++ [(k, (c :: r).take (tokN (c :: r)))]).length ≤ k + 1 ∧ (acc ++ [(k, (c :: r).take (tokN (c :: r)))]) ++ lexL ((bl s).drop (k + 1)) (k + 1) = lexL (bl s) 0 := by
              refine ⟨by omega, by omega, by simp only [List.length_append, List.length_cons, List.length_nil]; omega, ?_⟩
              rw [drop_add hd, ← hl, hsp]
              simp
            have htok : tokA (k, (c :: r).take (tokN (c :: r))) = .agg [intA (k : Nat), strA (tx ((c :: r).take (tokN (c :: r)))), boolA false, intA (-1)] := by
              simp only [tokA, htW, htN]
            (repeat' (first | apply jA | apply jF | apply jH | apply jI | apply jN | (refine wp_cond rfl (fun hc => ?_) (fun hc => ?_) <;> (try simp only [sB, ne_eq, reduceCtorEq] at hc) <;> (try (exfalso; omega))) | (refine WP.regionC (id := 3) ?_; (refine smove rfl ?_); (refine smove rfl ?_); (refine su (alenstr rfl rfl) ?_); (refine slss rfl rfl ?_); apply jW) | (refine WP.regionC (id := 4) ?_; (refine smove rfl ?_); (refine su (ap_build (RqP.cons (rq_p rfl rfl) (RqP.cons (rq_p rfl rfl) (RqP.nil))) rfl) ?_); (refine se_alloc rfl ?_); (refine se_store_b rfl rfl rfl rfl ?_); apply jW) | (refine WP.regionC (id := 5) ?_; (refine smove rfl ?_); (refine sadd rfl rfl (by exact inr_i64_of (by omega)) ?_); (refine sassign rfl ?_); apply jW) | (refine WP.regionC (id := 6) ?_; (refine smove rfl ?_); (refine smove rfl ?_); (refine su (asidxn rfl rfl rfl (by omega)) ?_); (refine sassign rfl ?_); apply jW) | (refine WP.regionC (id := 7) ?_; (refine smove rfl ?_); (refine seql rfl rfl ?_); (refine smove rfl ?_); (refine sg (gq_vf rfl rfl) (fun he => ap_move (rq_p rfl rfl)) ?_); (refine sg (gq_vf rfl rfl) (fun he => ap_eql (rq_c rfl rfl) (rq_p rfl rfl)) ?_); (refine su (ap_or (rq_p rfl rfl) (rq_c rfl rfl)) ?_); (refine smove rfl ?_); (refine sg (gq_vf rfl rfl) (fun he => ap_move (rq_p rfl rfl)) ?_); (refine sg (gq_vf rfl rfl) (fun he => ap_eql (rq_c rfl rfl) (rq_p rfl rfl)) ?_); (refine su (ap_or (rq_p rfl rfl) (rq_c rfl rfl)) ?_); (refine smove rfl ?_); (refine sg (gq_vf rfl rfl) (fun he => ap_move (rq_p rfl rfl)) ?_); (refine sg (gq_vf rfl rfl) (fun he => ap_eql (rq_c rfl rfl) (rq_p rfl rfl)) ?_); (refine su (ap_or (rq_p rfl rfl) (rq_c rfl rfl)) ?_); (refine sassign rfl ?_); apply jW) | (refine WP.regionC (id := 9) ?_; (refine smove rfl ?_); (refine seql rfl rfl ?_); (refine sassign rfl ?_); apply jW) | (refine WP.regionC (id := 11) ?_; (refine smove rfl ?_); (refine sc_p rfl rfl (by first | ((repeat' first | exact SubL.nil | refine SubL.cons ?_ ?_ | exact Sub.refl); done) | fail) (by first | (simp [bdL, bdL_append, AV.bd]; done) | fail) (gpletter_fn _) ?_); (refine sassign rfl ?_); apply jW) | (refine WP.regionC (id := 14) ?_; (refine smove rfl ?_); (refine sc_p rfl rfl (by first | ((repeat' first | exact SubL.nil | refine SubL.cons ?_ ?_ | exact Sub.refl); done) | fail) (by first | (simp [bdL, bdL_append, AV.bd]; done) | fail) (gpdigit_fn _) ?_); (refine sassign rfl ?_); apply jW) | (refine WP.regionC (id := 17) ?_; (refine smove rfl ?_); (refine smove rfl ?_); (refine smove rfl ?_); (refine su (ap_slice_s rfl (rq_p rfl rfl) (by exact bq_some (rq_p rfl rfl)) (by exact bq_some (rq_p rfl rfl)) (by omega)) ?_); (refine sfieldp rfl rfl rfl ?_); (refine se_store_b rfl rfl rfl rfl ?_); apply jW)))
            · exfalso; simp_all
            · exfalso; simp_all
            · exfalso; simp_all
            · skip
              have hx : s.extract (k : Int).toNat ((k : Int) + 1).toNat = tx ((c :: r).take (tokN (c :: r))) := by
                rw [extract_tx]
                simp only [Int.toNat_natCast]
                rw [hd, show ((k : Int) + 1).toNat - k = tokN (c :: r) by omega]
              rw [hx]
              refine wp_st (S 72 [(0, strA s), (3, .ref 0 4 0 acc.length), (4, intA (k : Nat)), (5, .ptr 1 4 0 0), (6, intA ((k : Int) + 1))] 2 [(0, some (.arr 4 (acc.map tokA))), (1, some (.arr 4 [.agg [intA (k : Nat), strA (tx ((c :: r).take (tokN (c :: r)))), boolA false, intA (-1)]]))]) ⟨[0, 1], ToR.S rfl (by repeat' (first | exact rt_nil | refine rt_r rfl rfl ?_ | refine rt_t rfl rfl ?_ | refine rt_e rfl rfl ?_)) (by repeat' (first | exact ro_nil | refine ro_e rfl rfl ?_ | refine ro_p rfl (by first | exact rfl | fail) (by first | exact bdL_map (fun _ => by exact rfl) _ | fail) ?_)) rfl (by (rw [hm]; exact rfl)) rfl (by (simp [bdT, AV.bd, bdL, bdL_append]; done)) (by repeat' (first | exact True.intro | exact rfl | refine And.intro ?_ ?_ | exact bdL_map (fun _ => by exact rfl) _)) (by (rw [hm]; exact Nat.le_of_ble_eq_true rfl))⟩ ?_
              rw [← htok]
              (repeat' (first | apply jH | apply jN | (refine WP.regionC (id := 18) ?_; (refine smove rfl ?_); (refine sloadpw rfl rfl rfl rfl ?_); (refine se_lit (OpP.cons rfl (OpP.nil)) rfl rfl rfl rfl rfl rfl ?_); (refine se_app1 rfl rfl rfl rfl rfl rfl rfl rfl (by omega) ?_); (refine sassign rfl ?_); apply jW) | (refine WP.regionC (id := 19) ?_; (refine smove rfl ?_); (refine sassign rfl ?_); apply jW)))
              exact ⟨(acc ++ [(k, (c :: r).take (tokN (c :: r)))], k + 1), hnext, ⟨[3], ToR.S rfl (by repeat' (first | exact rt_nil | refine rt_r rfl rfl ?_ | refine rt_e rfl rfl ?_)) (by repeat' (first | exact ro_nil | refine ro_p rfl (by first | exact rfl | fail) (by first | exact bdL_map (fun _ => by exact rfl) _ | fail) ?_)) rfl (by (rw [hm]; exact rfl)) rfl (by (simp [bdT, AV.bd, bdL, bdL_append]; done)) (by repeat' (first | exact True.intro | refine And.intro ?_ ?_ | exact bdL_map (fun _ => by exact rfl) _)) (by (rw [hm]; exact Nat.le_of_ble_eq_true rfl))⟩⟩
  · have hk2 : k = s.size := by omega
    have hnil : (bl s).drop k = [] := List.drop_eq_nil_of_le (by rw [bl_len]; omega)
    rw [hnil, lexL_nil, List.append_nil] at hl
    subst hl
    refine wp_frzm 3 hm rfl rfl rfl (fun _ => rfl) (fun _ => rfl) rfl ?_
    (repeat' (first | apply jA | apply jH | apply jJ | apply jK | apply jL | apply jP | apply jS | (refine wp_cond rfl (fun hc => ?_) (fun hc => ?_) <;> (try simp only [sB, ne_eq, reduceCtorEq] at hc) <;> (try (exfalso; omega))) | (refine WP.regionC (id := 3) ?_; (refine smove rfl ?_); (refine smove rfl ?_); (refine su (alenstr rfl rfl) ?_); (refine slss rfl rfl ?_); apply jW) | (refine WP.regionC (id := 20) ?_; (refine smove rfl ?_); (refine sassign rfl ?_); apply jW) | exact ret_eq rfl (by (simp [AV.bd, bdL, bdL_append]; done)) rfl))
    all_goals done
end Go.Lg

namespace Go.Lg
open Go.Proofs
set_option linter.unusedSimpArgs false
set_option linter.unusedVariables false
attribute [local irreducible] Ap Rq asemC WP RunD Ret Gq thenA inBlockA bodyQ noGotoA RqL RqP OpP
set_option maxHeartbeats 4000000
@[simp] theorem bdL_strM (n : Nat) (l : List ByteArray) : bdL n (l.map strA) = true := bdL_map (fun _ => rfl) l
@[simp] theorem bdL_strT (n k : Nat) (l : List ByteArray) : bdL n ((l.map strA).take k) = true := by rw [← List.map_take]; exact bdL_strM n _
def okK (k : Int) (n : ByteArray) (m : Nat) : Bool :=
  decide (k = 1) && gnOk n && decide (m = 0) || !decide (k = 1) && decide (n = ⟨#[]⟩) &&
    (decide (k = 2) && !decide (m = 1) || decide (k = 3) && decide (2 ≤ m) || (decide (k = 4) || decide (k = 5) || decide (k = 6)) && decide (m = 1))
mutual
def okE : GEx → Int → Bool
  | .mk k n l, d => decide (1 ≤ d) && okK k n l.length && okEL l (d - 1)
def okEL : List GEx → Int → Bool
  | [], _ => true
  | e :: l, d => okE e d && okEL l d
end
theorem okEL_all : ∀ (l : List GEx) (d : Int), okEL l d = l.all fun e => okE e d
  | [], d => by rw [okEL]; rfl
  | e :: l, d => by rw [okEL, okEL_all l d]; rfl
theorem okE_eq (e : GEx) (d : Int) : okE e d = (decide (1 ≤ d) && okK e.kind e.name e.kids.length && e.kids.all fun k => okE k (d - 1)) := by
  cases e; rw [okE, okEL_all]; rfl
def exprsA (l : List GEx) : AV := .sl 3 (l.map exprA)
theorem kids_exprsA (e : GEx) : AV.sl 3 (kidsL e) = exprsA e.kids := by rw [exprsA, kidsL_map]
@[simp] theorem bd_exprsA (n : Nat) (l : List GEx) : (exprsA l).bd n = true := bdL_exprs n l
theorem indexFuncE_fn (l : List GEx) (g : FuncId) (cap : List AV) (p : GEx → Bool) (hcap : ∀ n, bdL n cap = true) (h : ∀ x, x ∈ l → Fn Tryd.prog g (exprA x :: cap) (boolA (p x))) :
    Fn Tryd.prog 67 [exprsA l, .clo (.func g) [] cap] (intA (indexP p l)) := by
  refine Fn.intro rfl (by kernel_rfl) Tryd.func67 rfl rfl Tryd.ntmps67 (by exact Nat.le_of_ble_eq_true rfl) ?_; intro Γ hm
  refine wp_lens 0 rfl fun h0 => ?_
  have h0 : l.length ≤ 9223372036854775807 := by simpa [exprsA] using h0.1
  (repeat' (first | apply jA | apply jF | apply jH | (refine WP.regionC (id := 0) ?_; (refine sassign rfl ?_); apply jW) | (refine WP.regionC (id := 1) ?_; (refine smove rfl ?_); (refine slenm rfl rfl ?_); (refine smove rfl ?_); apply jW)))
  refine wp_loop (fun k => k ≤ l.length ∧ (l.take k).any p = false) (fun k => l.length - k) (fun k => (S 19 [(0, exprsA l), (1, .clo (.func g) [] cap), (7, intA (l.length : Nat)), (8, intA (k : Nat))] 0 [])) 0 ⟨[], ToR.S rfl (by repeat' (first | exact rt_nil | refine rt_e rfl rfl ?_ | refine rt_p rfl rfl (by first | (simp [AV.bd, bdL, bdL_append]; done) | (simp [AV.bd, bdL, bdL_append, *]; done) | fail) ?_)) (by repeat' (exact ro_nil)) rfl (by (rw [hm]; exact rfl)) rfl (by simp [bdT, AV.bd, bdL, bdL_append, *]) (by repeat' (exact True.intro)) (by (rw [hm]; exact Nat.le_of_ble_eq_true rfl))⟩ ⟨Nat.zero_le _, rfl⟩ ?_
  rintro k ⟨hk, hall⟩
  (repeat' (first | apply jA | apply jF | apply jH | apply jI | apply jJ | apply jK | apply jL | apply jM | apply jN | apply jO | apply jP | apply jS | (refine wp_cond rfl (fun hc => ?_) (fun hc => ?_) <;> (try simp only [sB, ne_eq, reduceCtorEq] at hc) <;> (try (exfalso; omega))) | (refine WP.regionC (id := 2) ?_; (refine slss rfl rfl ?_); apply jW) | (refine WP.regionC ?_; (refine smove rfl ?_); (refine sassign rfl ?_); apply jW) | (refine WP.regionC (id := 4) ?_; (refine smove rfl ?_); (refine smove rfl ?_); (refine smove rfl ?_); (refine sidxn rfl rfl (by omega) ?_); (refine sloadw rfl rfl ?_); (refine sc_p rfl rfl (by first | ((repeat' first | refine SubL.cons ?_ ?_ | exact SubL.rfl | exact Sub.refl); done) | fail) (by first | (simp [bdL, bdL_append, AV.bd, *]; done) | fail) (h _ (nth_mem (by omega))) ?_); apply jW) | (refine WP.regionC (id := 6) ?_; (refine sadd rfl rfl (by exact inr_i64_of (by omega)) ?_); (refine smove rfl ?_); apply jW) | (refine WP.regionC (id := 7) ?_; (refine sassign rfl ?_); apply jW) | refine ret_i rfl ?_))
  · exact (indexP_at (by omega) hall hc).symm
  · exact ⟨k + 1, ⟨by omega, by omega, take_any_succ (by omega) hall hc⟩, ⟨[], ToR.S rfl (by repeat' (first | exact rt_nil | refine rt_e rfl rfl ?_ | refine rt_p rfl rfl (by first | (simp [AV.bd, bdL, bdL_append]; done) | (simp [AV.bd, bdL, bdL_append, *]; done) | fail) ?_)) (by repeat' (exact ro_nil)) rfl (by (rw [hm]; exact rfl)) rfl (by simp [bdT, AV.bd, bdL, bdL_append, *]) (by repeat' (exact True.intro)) (by (rw [hm]; exact Nat.le_of_ble_eq_true rfl))⟩⟩
  · exact (indexP_no (by omega) hall).symm
theorem containsFuncE_fn (l : List GEx) (g : FuncId) (cap : List AV) (p : GEx → Bool) (hcap : ∀ n, bdL n cap = true) (h : ∀ x, x ∈ l → Fn Tryd.prog g (exprA x :: cap) (boolA (p x))) :
    Fn Tryd.prog 61 [exprsA l, .clo (.func g) [] cap] (boolA (l.any p)) := by
  refine Fn.intro rfl (by kernel_rfl) Tryd.func61 rfl rfl Tryd.ntmps61 (by exact Nat.le_of_ble_eq_true rfl) ?_; intro Γ hm
  (repeat' (first | apply jA | apply jH | apply jK | apply jS | (refine WP.regionC (id := 0) ?_; (refine sassign rfl ?_); apply jW) | (refine WP.regionC (id := 1) ?_; (refine smove rfl ?_); (refine smove rfl ?_); (refine sc_p rfl rfl (by first | ((repeat' first | exact SubL.nil | refine SubL.cons ?_ ?_ | exact Sub.refl); done) | fail) (by first | (simp [bdL, bdL_append, AV.bd, *]; done) | fail) (indexFuncE_fn _ _ _ p hcap h) ?_); (refine su (ageq rfl rfl) ?_); (refine sassign rfl ?_); apply jW) | refine ret_b rfl ?_))
  exact indexP_any
theorem indexFuncA_fn (l : List GAl) (g : FuncId) (cap : List AV) (p : GAl → Bool) (hcap : ∀ n, bdL n cap = true) (h : ∀ x, x ∈ l → Fn Tryd.prog g (altA x :: cap) (boolA (p x))) :
    Fn Tryd.prog 60 [altsA l, .clo (.func g) [] cap] (intA (indexP p l)) := by
  refine Fn.intro rfl (by kernel_rfl) Tryd.func60 rfl rfl Tryd.ntmps60 (by exact Nat.le_of_ble_eq_true rfl) ?_; intro Γ hm
  refine wp_lens 0 rfl fun h0 => ?_
  have h0 : l.length ≤ 9223372036854775807 := by simpa [altsA] using h0.1
  (repeat' (first | apply jA | apply jF | apply jH | (refine WP.regionC (id := 0) ?_; (refine sassign rfl ?_); apply jW) | (refine WP.regionC (id := 1) ?_; (refine smove rfl ?_); (refine slenm rfl rfl ?_); (refine smove rfl ?_); apply jW)))
  refine wp_loop (fun k => k ≤ l.length ∧ (l.take k).any p = false) (fun k => l.length - k) (fun k => (S 19 [(0, altsA l), (1, .clo (.func g) [] cap), (7, intA (l.length : Nat)), (8, intA (k : Nat))] 0 [])) 0 ⟨[], ToR.S rfl (by repeat' (first | exact rt_nil | refine rt_e rfl rfl ?_ | refine rt_p rfl rfl (by first | (simp [AV.bd, bdL, bdL_append]; done) | (simp [AV.bd, bdL, bdL_append, *]; done) | fail) ?_)) (by repeat' (exact ro_nil)) rfl (by (rw [hm]; exact rfl)) rfl (by simp [bdT, AV.bd, bdL, bdL_append, *]) (by repeat' (exact True.intro)) (by (rw [hm]; exact Nat.le_of_ble_eq_true rfl))⟩ ⟨Nat.zero_le _, rfl⟩ ?_
  rintro k ⟨hk, hall⟩
  (repeat' (first | apply jA | apply jF | apply jH | apply jI | apply jJ | apply jK | apply jL | apply jM | apply jN | apply jO | apply jP | apply jS | (refine wp_cond rfl (fun hc => ?_) (fun hc => ?_) <;> (try simp only [sB, ne_eq, reduceCtorEq] at hc) <;> (try (exfalso; omega))) | (refine WP.regionC (id := 2) ?_; (refine slss rfl rfl ?_); apply jW) | (refine WP.regionC ?_; (refine smove rfl ?_); (refine sassign rfl ?_); apply jW) | (refine WP.regionC (id := 4) ?_; (refine smove rfl ?_); (refine smove rfl ?_); (refine smove rfl ?_); (refine sidxn rfl rfl (by omega) ?_); (refine sloadw rfl rfl ?_); (refine sc_p rfl rfl (by first | ((repeat' first | refine SubL.cons ?_ ?_ | exact SubL.rfl | exact Sub.refl); done) | fail) (by first | (simp [bdL, bdL_append, AV.bd, *]; done) | fail) (h _ (nth_mem (by omega))) ?_); apply jW) | (refine WP.regionC (id := 6) ?_; (refine sadd rfl rfl (by exact inr_i64_of (by omega)) ?_); (refine smove rfl ?_); apply jW) | (refine WP.regionC (id := 7) ?_; (refine sassign rfl ?_); apply jW) | refine ret_i rfl ?_))
  · exact (indexP_at (by omega) hall hc).symm
  · exact ⟨k + 1, ⟨by omega, by omega, take_any_succ (by omega) hall hc⟩, ⟨[], ToR.S rfl (by repeat' (first | exact rt_nil | refine rt_e rfl rfl ?_ | refine rt_p rfl rfl (by first | (simp [AV.bd, bdL, bdL_append]; done) | (simp [AV.bd, bdL, bdL_append, *]; done) | fail) ?_)) (by repeat' (exact ro_nil)) rfl (by (rw [hm]; exact rfl)) rfl (by simp [bdT, AV.bd, bdL, bdL_append, *]) (by repeat' (exact True.intro)) (by (rw [hm]; exact Nat.le_of_ble_eq_true rfl))⟩⟩
  · exact (indexP_no (by omega) hall).symm
theorem containsFuncA_fn (l : List GAl) (g : FuncId) (cap : List AV) (p : GAl → Bool) (hcap : ∀ n, bdL n cap = true) (h : ∀ x, x ∈ l → Fn Tryd.prog g (altA x :: cap) (boolA (p x))) :
    Fn Tryd.prog 48 [altsA l, .clo (.func g) [] cap] (boolA (l.any p)) := by
  refine Fn.intro rfl (by kernel_rfl) Tryd.func48 rfl rfl Tryd.ntmps48 (by exact Nat.le_of_ble_eq_true rfl) ?_; intro Γ hm
  (repeat' (first | apply jA | apply jH | apply jK | apply jS | (refine WP.regionC (id := 0) ?_; (refine sassign rfl ?_); apply jW) | (refine WP.regionC (id := 1) ?_; (refine smove rfl ?_); (refine smove rfl ?_); (refine sc_p rfl rfl (by first | ((repeat' first | exact SubL.nil | refine SubL.cons ?_ ?_ | exact Sub.refl); done) | fail) (by first | (simp [bdL, bdL_append, AV.bd, *]; done) | fail) (indexFuncA_fn _ _ _ p hcap h) ?_); (refine su (ageq rfl rfl) ?_); (refine sassign rfl ?_); apply jW) | refine ret_b rfl ?_))
  exact indexP_any
theorem expr1_fn (k : GEx) (d : Int) (h1 : 1 ≤ d) (h2 : d ≤ 1000) (h : Fn Tryd.prog 50 [exprA k, intA (d - 1)] (boolA (okE k (d - 1)))) : Fn Tryd.prog 62 [exprA k, .iptr [intA d] 0] (boolA (!okE k (d - 1))) := by
  refine Fn.intro rfl (by kernel_rfl) Tryd.func62 rfl rfl Tryd.ntmps62 (by exact Nat.le_of_ble_eq_true rfl) ?_; intro Γ hm
  (repeat' (first | apply jA | apply jH | apply jK | apply jS | (refine WP.regionC (id := 0) ?_; (refine se_box rfl (by exact ⟨rfl, rfl⟩) ?_); (refine sassign rfl ?_); apply jW) | (refine WP.regionC (id := 1) ?_; (refine sloadpw rfl rfl rfl rfl ?_); (refine su (aloadi rfl rfl) ?_); (refine su (asub rfl rfl (by exact inr_i64_of (by omega))) ?_); (refine sc_p rfl rfl (by first | ((repeat' first | exact SubL.nil | refine SubL.cons ?_ ?_ | exact Sub.refl); done) | fail) (by first | (simp [bdL, bdL_append, AV.bd]; done) | fail) (h) ?_); (refine su (anot rfl) ?_); (refine sassign rfl ?_); apply jW) | exact ret_eq rfl rfl rfl))
theorem any_not_all {α : Type} (p : α → Bool) (l : List α) : l.any (fun x => !p x) = !l.all p := by
  induction l with
  | nil => rfl
  | cons x l ih => simp only [List.any_cons, List.all_cons, ih, Bool.not_and]
theorem expr_fn (e : GEx) : ∀ d : Int, 0 ≤ d → d ≤ 1000 → Fn Tryd.prog 50 [exprA e, intA d] (boolA (okE e d)) := by
  induction e using GEx.ind with
  | h e ih =>
    intro d h0 h1
    rw [okE_eq, exprA, kids_exprsA]
    generalize hkd : e.kids = kids at *
    generalize e.kind = kk
    generalize e.name = nm
    clear hkd e
    by_cases hd : d < 1
    · refine Fn.intro rfl (by kernel_rfl) Tryd.func50 rfl rfl Tryd.ntmps50 (by exact Nat.le_of_ble_eq_true rfl) ?_; intro Γ hm
      (repeat' (first | apply jA | apply jH | apply jK | apply jM | apply jS | (refine wp_cond rfl (fun hc => ?_) (fun hc => ?_) <;> (try simp only [sB, ne_eq, reduceCtorEq] at hc) <;> (try (exfalso; omega))) | (refine WP.regionC (id := 0) ?_; (refine se_box rfl (by exact ⟨rfl, rfl⟩) ?_); (refine se_box rfl (by exact ⟨rfl, rfl⟩) ?_); (refine sassign rfl ?_); apply jW) | (refine WP.regionC (id := 1) ?_; (refine sloadpw rfl rfl rfl rfl ?_); (refine slss rfl rfl ?_); (refine smove rfl ?_); (refine sg (gq_vf rfl rfl) (fun he => ap_field_p (rq_p rfl rfl) rfl rfl) ?_); (refine sg (gq_vf rfl rfl) (fun he => ap_load_p (rq_c rfl rfl) rfl rfl rfl) ?_); (refine sg (gq_vf rfl rfl) (fun he => ap_neq (rq_c rfl rfl) (rq_p rfl rfl)) ?_); (refine sg (gq_vf rfl rfl) (fun he => ap_move (rq_c rfl rfl)) ?_); (refine sg (gq_ct rfl rfl) (fun he => ap_field_p (rq_p rfl rfl) rfl rfl) ?_); (refine sg (gq_ct rfl rfl) (fun he => ap_load_p (rq_c rfl rfl) rfl rfl rfl) ?_); (refine sg (gq_ct rfl rfl) (fun he => ap_nes (rq_c rfl rfl) (rq_p rfl rfl)) ?_); (refine sg (gq_vf rfl rfl) (fun he => ap_and (rq_c rfl rfl) (rq_c rfl rfl)) ?_); (refine su (ap_or (rq_p rfl rfl) (rq_c rfl rfl)) ?_); apply jW) | (refine WP.regionC (id := 2) ?_; (refine sassign rfl ?_); apply jW) | refine ret_b rfl ?_))
      rw [decide_eq_false (show ¬ 1 ≤ d by omega)]; rfl
    have hd1 : decide (1 ≤ d) = true := by simp; omega
    have c1 : decide ((kids.length : Int) = 1) = decide (kids.length = 1) := by rw [Bool.eq_iff_iff]; simp; omega
    have c2 : decide (2 ≤ (kids.length : Int)) = decide (2 ≤ kids.length) := by rw [Bool.eq_iff_iff]; simp; omega
    have hB := containsFuncE_fn kids 62 [.iptr [intA d] 0] (fun x => !okE x (d - 1)) (fun n => by simp [bdL, AV.bd, AV.cells]) (fun x hx => expr1_fn x d (by omega) h1 (ih x hx (d - 1) (by omega) (by omega)))
    refine Fn.intro rfl (by kernel_rfl) Tryd.func50 rfl rfl Tryd.ntmps50 (by exact Nat.le_of_ble_eq_true rfl) ?_; intro Γ hm
    (repeat' (first | apply jA | apply jF | apply jH | apply jI | apply jK | apply jM | apply jN | apply jS | (refine wp_cond rfl (fun hc => ?_) (fun hc => ?_) <;> (try simp only [sB, ne_eq, reduceCtorEq] at hc) <;> (try (exfalso; omega))) | (refine WP.regionC (id := 0) ?_; (refine se_box rfl (by exact ⟨rfl, rfl⟩) ?_); (refine se_box rfl (by exact ⟨rfl, rfl⟩) ?_); (refine sassign rfl ?_); apply jW) | (refine WP.regionC (id := 1) ?_; (refine sloadpw rfl rfl rfl rfl ?_); (refine slss rfl rfl ?_); (refine smove rfl ?_); (refine sg (gq_vf rfl rfl) (fun he => ap_field_p (rq_p rfl rfl) rfl rfl) ?_); (refine sg (gq_vf rfl rfl) (fun he => ap_load_p (rq_c rfl rfl) rfl rfl rfl) ?_); (refine sg (gq_vf rfl rfl) (fun he => ap_neq (rq_c rfl rfl) (rq_p rfl rfl)) ?_); (refine sg (gq_vf rfl rfl) (fun he => ap_move (rq_c rfl rfl)) ?_); (refine sg (gq_ct rfl rfl) (fun he => ap_field_p (rq_p rfl rfl) rfl rfl) ?_); (refine sg (gq_ct rfl rfl) (fun he => ap_load_p (rq_c rfl rfl) rfl rfl rfl) ?_); (refine sg (gq_ct rfl rfl) (fun he => ap_nes (rq_c rfl rfl) (rq_p rfl rfl)) ?_); (refine sg (gq_vf rfl rfl) (fun he => ap_and (rq_c rfl rfl) (rq_c rfl rfl)) ?_); (refine su (ap_or (rq_p rfl rfl) (rq_c rfl rfl)) ?_); apply jW) | (refine WP.regionC (id := 2) ?_; (refine sassign rfl ?_); apply jW) | (refine WP.regionC (id := 3) ?_; (refine sfieldp rfl rfl rfl ?_); (refine sloadp rfl rfl rfl rfl ?_); (refine slenm rfl rfl ?_); (refine sassign rfl ?_); (refine sassign rfl ?_); apply jW) | (refine WP.regionC (id := 4) ?_; (refine sfieldp rfl rfl rfl ?_); (refine sloadp rfl rfl rfl rfl ?_); apply jW) | (refine WP.regionC ?_; (refine seql rfl rfl ?_); (refine sassign rfl ?_); apply jW) | (refine WP.regionC (id := 6) ?_; (refine sfieldp rfl rfl rfl ?_); (refine sloadp rfl rfl rfl rfl ?_); (refine sc_p rfl rfl (by first | ((repeat' first | exact SubL.nil | refine SubL.cons ?_ ?_ | exact Sub.refl); done) | fail) (by first | (simp [bdL, bdL_append, AV.bd]; done) | fail) (name_fn _) ?_); (refine smove rfl ?_); (refine sg (gq_vt rfl rfl) (fun he => ap_move (rq_p rfl rfl)) ?_); (refine sg (gq_vt rfl rfl) (fun he => ap_eql (rq_c rfl rfl) (rq_p rfl rfl)) ?_); (refine su (ap_and (rq_p rfl rfl) (rq_c rfl rfl)) ?_); (refine sassign rfl ?_); apply jW) | (refine WP.regionC (id := 8) ?_; (refine smove rfl ?_); (refine su (aneq rfl rfl) ?_); (refine sassign rfl ?_); apply jW) | (refine WP.regionC (id := 10) ?_; (refine smove rfl ?_); (refine su (ageq rfl rfl) ?_); (refine sassign rfl ?_); apply jW) | (refine WP.regionC (id := 14) ?_; (refine smove rfl ?_); (refine seql rfl rfl ?_); (refine sassign rfl ?_); apply jW) | (refine WP.regionC (id := 15) ?_; (refine smove rfl ?_); (refine smove rfl ?_); (refine sg (gq_vt rfl rfl) (fun he => ap_field_p (rq_p rfl rfl) rfl rfl) ?_); (refine sg (gq_vt rfl rfl) (fun he => ap_load_p (rq_c rfl rfl) rfl rfl rfl) ?_); (refine sg (gq_vt rfl rfl) (fun he => ap_clo (RqL.nil) (RqL.cons (rq_p rfl rfl) (RqL.nil))) ?_); (first | refine sk_no rfl rfl ?_ | refine sg_b (gq_vt rfl rfl) (fun he => ⟨(rq_p rfl rfl), (RqL.cons (rq_c rfl rfl) (RqL.cons (rq_c rfl rfl) (RqL.nil))), (by first | ((repeat' first | exact FzL.nil | refine FzL.cons ?_ ?_ | (exact Fz.reflp (by simp [AV.bd, bdL, bdL_append])) | refine Fz.ptrL rfl rfl ?_ | refine Fz.cloL ?_ ?_); done) | fail), hB, rfl⟩) ?_); (first | refine sg (gq_vt rfl rfl) (fun he => ap_not (rq_c rfl rfl)) ?_ | refine sk_no rfl rfl ?_); (first | refine su (ap_and (rq_p rfl rfl) (rq_c rfl rfl)) ?_ | refine pk_f rfl rfl ?_); (refine sassign rfl ?_); apply jW) | refine ret_b rfl ?_))
    · rcases hc with hc | hc
      · omega
      · simp [okK, hc.1, hc.2]
    · rw [any_not_all, Bool.not_not]; subst hc; simp [okK, hd1]
    · rw [any_not_all, Bool.not_not]; simp only [c1, c2]; clear c1 c2 hB ih; simp_all [okK]
    · rw [any_not_all, Bool.not_not]; simp only [c1, c2]; clear c1 c2 hB ih; simp_all [okK]
    · rw [any_not_all, Bool.not_not]; simp only [c1, c2]; clear c1 c2 hB ih; simp_all [okK]
    · rw [any_not_all, Bool.not_not]; simp only [c1, c2]; clear c1 c2 hB ih; simp_all [okK]
    · rw [any_not_all, Bool.not_not]; simp only [c1, c2]; clear c1 c2 hB ih; simp_all [okK]
    · simp [okK, *]
def altOk (a : GAl) : Bool := decide (0 ≤ a.price) && decide (a.price ≤ 1000) && okE a.body 30
theorem rule1_fn (a : GAl) : Fn Tryd.prog 49 [altA a] (boolA (!altOk a)) := by
  unfold altA
  refine Fn.intro rfl (by kernel_rfl) Tryd.func49 rfl rfl Tryd.ntmps49 (by exact Nat.le_of_ble_eq_true rfl) ?_; intro Γ hm
  (repeat' (first | apply jA | apply jH | apply jK | apply jS | (refine WP.regionC (id := 0) ?_; (refine se_box rfl (by exact ⟨rfl, rfl⟩) ?_); (refine sassign rfl ?_); apply jW) | (refine WP.regionC (id := 1) ?_; (refine sfieldp rfl rfl rfl ?_); (refine sloadp rfl rfl rfl rfl ?_); (refine slss rfl rfl ?_); (refine smove rfl ?_); (refine sg (gq_vf rfl rfl) (fun he => ap_field_p (rq_p rfl rfl) rfl rfl) ?_); (refine sg (gq_vf rfl rfl) (fun he => ap_load_p (rq_c rfl rfl) rfl rfl rfl) ?_); (refine sg (gq_vf rfl rfl) (fun he => ap_gtr (rq_c rfl rfl) (rq_p rfl rfl)) ?_); (refine su (ap_or (rq_p rfl rfl) (rq_c rfl rfl)) ?_); (refine smove rfl ?_); (refine sg (gq_vf rfl rfl) (fun he => ap_field_p (rq_p rfl rfl) rfl rfl) ?_); (refine sg (gq_vf rfl rfl) (fun he => ap_load_p (rq_c rfl rfl) rfl rfl rfl) ?_); (refine sg_p (gq_vf rfl rfl) (fun he => ⟨(rq_p rfl rfl), (RqL.cons (rq_c rfl rfl) (RqL.cons (rq_p rfl rfl) (RqL.nil))), (by first | ((repeat' first | exact SubL.nil | refine SubL.cons ?_ ?_ | exact Sub.refl); done) | fail), (by first | (simp [bdL, bdL_append, AV.bd, AV.cells]; done) | fail), expr_fn a.body 30 (by decide) (by decide)⟩) ?_); (refine sg (gq_vf rfl rfl) (fun he => ap_not (rq_c rfl rfl)) ?_); (refine su (ap_or (rq_p rfl rfl) (rq_c rfl rfl)) ?_); (refine sassign rfl ?_); apply jW) | refine ret_b rfl ?_))
  simp only [altOk]; rw [Bool.eq_iff_iff]; simp
def gruleOk (r : GRu) : Bool := !decide (r.alts = []) && r.alts.all altOk
theorem rule_fn (r : GRu) : Fn Tryd.prog 20 [gruleA r] (boolA (gruleOk r)) := by
  refine Fn.intro rfl (by kernel_rfl) Tryd.func20 rfl rfl Tryd.ntmps20 (by exact Nat.le_of_ble_eq_true rfl) ?_; intro Γ hm
  (repeat' (first | apply jA | apply jH | apply jK | apply jS | (refine WP.regionC (id := 0) ?_; (refine se_box rfl (by exact ⟨rfl, rfl⟩) ?_); (refine sassign rfl ?_); apply jW) | (refine WP.regionC (id := 1) ?_; (refine sfieldp rfl rfl rfl ?_); (refine sloadp rfl rfl rfl rfl ?_); (refine slenm rfl rfl ?_); (refine su (agtr rfl rfl) ?_); (refine smove rfl ?_); (refine sg (gq_vt rfl rfl) (fun he => ap_field_p (rq_p rfl rfl) rfl rfl) ?_); (refine sg (gq_vt rfl rfl) (fun he => ap_load_p (rq_c rfl rfl) rfl rfl rfl) ?_); (refine sg_p (gq_vt rfl rfl) (fun he => ⟨(rq_p rfl rfl), (RqL.cons (rq_c rfl rfl) (RqL.cons (rq_p rfl rfl) (RqL.nil))), (by first | ((repeat' first | exact SubL.nil | refine SubL.cons ?_ ?_ | exact Sub.refl); done) | fail), (by first | (simp [bdL, bdL_append, AV.bd]; done) | fail), containsFuncA_fn r.alts 49 [] (fun x => !altOk x) (fun n => rfl) (fun x hx => rule1_fn x)⟩) ?_); (refine sg (gq_vt rfl rfl) (fun he => ap_not (rq_c rfl rfl)) ?_); (refine su (ap_and (rq_p rfl rfl) (rq_c rfl rfl)) ?_); (refine sassign rfl ?_); apply jW) | refine ret_b rfl ?_))
  rw [any_not_all, Bool.not_not]
  simp only [gruleOk]; rw [Bool.eq_iff_iff]; simp [List.length_pos_iff]
def distOk (l : List ByteArray) : Bool := l.all gnOk && decide l.Nodup
theorem distinct_fn (l : List ByteArray) (hl : l.length ≤ 9223372036854775807) : Fn Tryd.prog 21 [strsA l] (boolA (distOk l)) := by
  refine Fn.intro rfl (by kernel_rfl) Tryd.func21 rfl rfl Tryd.ntmps21 (by exact Nat.le_of_ble_eq_true rfl) ?_; intro Γ hm
  (repeat' (first | apply jA | apply jF | apply jH | (refine WP.regionC (id := 0) ?_; (refine sassign rfl ?_); apply jW) | (refine WP.regionC (id := 1) ?_; (refine smove rfl ?_); (refine slenm rfl rfl ?_); (refine smove rfl ?_); apply jW)))
  refine wp_loop (fun k => k ≤ l.length ∧ ∀ j, j < k → gnOk (nth l j) = true ∧ ∀ i, i < j → nth l i ≠ nth l j) (fun k => l.length - k) (fun k => (S 23 [(0, strsA l), (5, strsA l), (6, intA (l.length : Nat)), (7, intA (k : Nat))] 0 [])) 0 ⟨[], ToR.S rfl (by repeat' (first | exact rt_nil | refine rt_e rfl rfl ?_ | refine rt_p rfl rfl (by first | (simp [AV.bd, bdL, bdL_append]; done) | fail) ?_)) (by repeat' (exact ro_nil)) rfl (by (rw [hm]; exact rfl)) rfl (by (simp [bdT, AV.bd, bdL, bdL_append]; done)) (by repeat' (exact True.intro)) (by (rw [hm]; exact Nat.le_of_ble_eq_true rfl))⟩ ⟨Nat.zero_le _, by simp⟩ ?_
  rintro k ⟨hk, hall⟩
  (repeat' (first | apply jA | apply jF | apply jH | apply jI | apply jJ | apply jK | apply jL | apply jM | apply jN | apply jO | apply jP | apply jS | (refine wp_cond rfl (fun hc => ?_) (fun hc => ?_) <;> (try simp only [sB, ne_eq, reduceCtorEq] at hc) <;> (try (exfalso; omega))) | (refine WP.regionC (id := 2) ?_; (refine slss rfl rfl ?_); apply jW) | (refine WP.regionC (id := 3) ?_; (refine smove rfl ?_); (refine sidxn rfl rfl (by omega) ?_); (refine sloadw rfl rfl ?_); (refine sassign rfl ?_); (refine sassign rfl ?_); apply jW) | (refine WP.regionC (id := 4) ?_; (refine smove rfl ?_); (refine sc_p rfl rfl (by first | ((repeat' first | exact SubL.nil | refine SubL.cons ?_ ?_ | exact Sub.refl); done) | fail) (by first | (simp [bdL, bdL_append, AV.bd]; done) | fail) (name_fn _) ?_); (refine su (anot rfl) ?_); (refine smove rfl ?_); (refine sg (gq_vf rfl rfl) (fun he => ap_move (rq_p rfl rfl)) ?_); (refine sg (gq_vf rfl rfl) (fun he => ap_move (rq_p rfl rfl)) ?_); (refine sg (gq_vf rfl rfl) (fun he => ap_slice_m (rq_c rfl rfl) (by exact bq_none) (by exact bq_some (rq_c rfl rfl)) (by (try simp only [sH, id, sB, ne_eq, reduceCtorEq] at he); omega)) ?_); (refine sg (gq_vf rfl rfl) (fun he => ap_move (rq_p rfl rfl)) ?_); (refine sg_p (gq_vf rfl rfl) (fun he => ⟨(rq_p rfl rfl), (RqL.cons (rq_c rfl rfl) (RqL.cons (rq_c rfl rfl) (RqL.nil))), (by first | ((repeat' first | exact SubL.nil | refine SubL.cons ?_ ?_ | exact Sub.refl); done) | fail), (by first | (simp [bdL, bdL_append, AV.bd]; done) | fail), containsS_fn ((l.take (k : Int).toNat).drop (0 : Int).toNat) (nth l k)⟩) ?_); (refine su (ap_or (rq_p rfl rfl) (rq_c rfl rfl)) ?_); apply jW) | (refine WP.regionC ?_; (refine sassign rfl ?_); apply jW) | (refine WP.regionC (id := 6) ?_; (refine sadd rfl rfl (by exact inr_i64_of (by omega)) ?_); (refine smove rfl ?_); apply jW) | refine ret_b rfl ?_))
  · rcases hc with hc | hc
    · rw [show distOk l = false by simp only [distOk, all_nth_no (l := l) (k := k) (by omega) hc, Bool.false_and]]
    · rw [List.any_eq_true] at hc
      obtain ⟨y, hy, he⟩ := hc
      simp only [Int.toNat_natCast, Int.toNat_zero, List.drop_zero, decide_eq_true_eq] at hy he
      obtain ⟨i, hi, rfl⟩ := List.mem_take_iff_getElem.1 hy
      rw [show distOk l = false by simp only [distOk, decide_eq_false (not_nodup (l := l) (j := k) (k := i) (by omega) (by omega) (by rw [nth_eq (by omega)]; exact he.symm)), Bool.and_false]]
  · refine ⟨k + 1, ⟨by omega, by omega, fun j hj => ?_⟩, ⟨[], ToR.S rfl (by repeat' (first | exact rt_nil | refine rt_e rfl rfl ?_ | refine rt_p rfl rfl (by first | (simp [AV.bd, bdL, bdL_append]; done) | fail) ?_)) (by repeat' (exact ro_nil)) rfl (by (rw [hm]; exact rfl)) rfl (by (simp [bdT, AV.bd, bdL, bdL_append]; done)) (by repeat' (exact True.intro)) (by (rw [hm]; exact Nat.le_of_ble_eq_true rfl))⟩⟩
    by_cases h : j = k
    · subst h
      refine ⟨hc.1, fun i hi e => ?_⟩
      have h2 := hc.2
      rw [List.any_eq_false] at h2
      refine h2 (nth l i) ?_ (by simp [e])
      simp only [Int.toNat_natCast, Int.toNat_zero, List.drop_zero]
      rw [nth_eq (by omega)]
      exact List.mem_take_iff_getElem.2 ⟨i, by omega, rfl⟩
    · exact hall j (by omega)
  have : k = l.length := by omega
  subst this
  simp only [distOk, all_of_nth fun j hj => (hall j hj).1, decide_eq_true (nodup_nth fun j hj => (hall j hj).2), Bool.and_true]
end Go.Lg

namespace Go.Lg
open Go.Proofs
set_option linter.unusedSimpArgs false
set_option linter.unusedVariables false
attribute [local irreducible] Ap Rq asemC WP RunD Ret Gq thenA inBlockA bodyQ noGotoA RqL RqP OpP
set_option maxHeartbeats 4000000
end Go.Lg

namespace Go.Lg
open Go.Proofs
set_option linter.unusedSimpArgs false
set_option linter.unusedVariables false
attribute [local irreducible] Ap Rq asemC WP RunD Ret Gq thenA inBlockA bodyQ noGotoA RqL RqP OpP
set_option maxHeartbeats 4000000
def toks (f : GFi) (k : Nat) : List ByteArray := ((f.levels.take k).map (·.tokens)).flatten
def rnames (f : GFi) (k : Nat) : List ByteArray := (f.rules.take k).map (·.name)
def glevelOk (l : GLe) : Bool := decide (1 ≤ l.assoc) && decide (l.assoc ≤ 3) && !decide (l.tokens.length = 0)
theorem glevel_iff {l : GLe} : glevelOk l = true ↔ (1 ≤ l.assoc ∧ l.assoc ≤ 3) ∧ l.tokens.length ≠ 0 := by
  simp only [glevelOk, Bool.and_eq_true, Bool.not_eq_true', decide_eq_true_eq, decide_eq_false_iff_not, ne_eq]
theorem glevel_no {l : GLe} (h : (l.assoc < 1 ∨ 3 < l.assoc) ∨ l.tokens.length = 0) : glevelOk l = false := by
  cases hg : glevelOk l with
  | false => rfl
  | true => have := glevel_iff.1 hg; omega
def validF (f : GFi) : Bool := decide (1 ≤ f.rules.length) && decide (f.rules.length ≤ 120) && f.rules.all gruleOk && f.levels.all glevelOk && distOk (rnames f f.rules.length) && distOk (toks f f.levels.length) && (rnames f f.rules.length).any (fun x => decide (f.start = x))
theorem toks_succ {f : GFi} {k : Nat} (hk : k < f.levels.length) : toks f (k + 1) = toks f k ++ (nth f.levels k).tokens := by
  simp only [toks, take_succ_nth hk, List.map_append, List.flatten_append]; simp
theorem rnames_succ {f : GFi} {k : Nat} (hk : k < f.rules.length) : rnames f (k + 1) = rnames f k ++ [(nth f.rules k).name] := by
  simp only [rnames, take_succ_nth hk, List.map_append]; rfl
theorem rnames_len {f : GFi} {k : Nat} (hk : k ≤ f.rules.length) : (rnames f k).length = k := by simp [rnames]; omega
theorem toks_mono (f : GFi) {k : Nat} (hk : k ≤ f.levels.length) : (toks f k).length ≤ (toks f f.levels.length).length := by
  induction h : f.levels.length - k generalizing k with
  | zero => obtain rfl : k = f.levels.length := by omega
            exact Nat.le_refl _
  | succ n ih =>
    have := ih (k := k + 1) (by omega) (by omega)
    rw [toks_succ (by omega), List.length_append] at this
    omega
theorem gvalid_fn (f : GFi) (hT : (toks f f.levels.length).length ≤ 1000000) : Fn Tryd.prog 7 [fileA f] (boolA (validF f)) := by
  refine Fn.intro rfl (by kernel_rfl) Tryd.func7 rfl rfl Tryd.ntmps7 (by exact Nat.le_of_ble_eq_true rfl) ?_; intro Γ hm
  refine wp_lens 0 rfl fun hl => ?_
  have hl2 : f.rules.length ≤ 9223372036854775807 ∧ f.levels.length ≤ 9223372036854775807 := by have := hl; simp [AV.lens, lensL, fileA, levelsA, grulesA] at this; omega
  (repeat' (first | apply jA | apply jH | apply jI | apply jK | apply jM | apply jS | (refine wp_cond rfl (fun hc => ?_) (fun hc => ?_) <;> (try simp only [sB, ne_eq, reduceCtorEq] at hc) <;> (try (exfalso; omega))) | (refine WP.regionC (id := 0) ?_; (refine se_box rfl (by exact ⟨rfl, rfl⟩) ?_); (refine sassign rfl ?_); apply jW) | (refine WP.regionC (id := 1) ?_; (refine sfieldp rfl rfl rfl ?_); (refine sloadp rfl rfl rfl rfl ?_); (refine slenm rfl rfl ?_); (refine slss rfl rfl ?_); (refine smove rfl ?_); (refine sg (gq_vf rfl rfl) (fun he => ap_field_p (rq_p rfl rfl) rfl rfl) ?_); (refine sg (gq_vf rfl rfl) (fun he => ap_load_p (rq_c rfl rfl) rfl rfl rfl) ?_); (refine sg (gq_vf rfl rfl) (fun he => ap_len_m rfl (rq_c rfl rfl)) ?_); (refine sg (gq_vf rfl rfl) (fun he => ap_gtr (rq_c rfl rfl) (rq_p rfl rfl)) ?_); (refine su (ap_or (rq_p rfl rfl) (rq_c rfl rfl)) ?_); apply jW) | (refine WP.regionC (id := 2) ?_; (refine sassign rfl ?_); apply jW) | (refine WP.regionC (id := 3) ?_; (refine sassign rfl ?_); (refine sassign rfl ?_); apply jW) | refine ret_b rfl ?_))
  · simp [validF]; omega
  refine wp_nil 3 1 rfl ?_
  refine wp_nil 4 1 rfl ?_
  (repeat' (first | apply jF | apply jH | (refine WP.regionC (id := 4) ?_; (refine sfieldp rfl rfl rfl ?_); (refine sloadp rfl rfl rfl rfl ?_); (refine slenm rfl rfl ?_); (refine smove rfl ?_); apply jW)))
  refine wp_loop (fun (k : Nat) => k ≤ f.rules.length ∧ (f.rules.take k).all gruleOk = true) (fun k => f.rules.length - k)
    (fun k => (S 73 [(1, .ptr 0 3 0 0), (3, .ref 1 1 0 (rnames f k).length), (4, .ref 2 1 0 0), (20, grulesA f.rules), (21, intA (f.rules.length : Nat)), (22, intA (k : Nat))] 3 [(0, some (.arr 3 [fileA f])), (1, some (.arr 1 ((rnames f k).map strA))), (2, some (.arr 1 []))])) 0 ⟨[0, 1, 2], ToR.S rfl (by repeat' (first | exact rt_nil | refine rt_r rfl rfl ?_ | refine rt_t rfl rfl ?_ | refine rt_e rfl rfl ?_ | refine rt_p rfl rfl (by first | (simp [AV.bd, bdL, bdL_append]; done) | fail) ?_)) (by repeat' (first | exact ro_nil | refine ro_e rfl rfl ?_ | refine ro_p rfl (by first | exact rfl | fail) (by first | (simp [bdL, bdL_append, AV.bd]; done) | fail) ?_)) rfl (by (rw [hm]; exact rfl)) rfl (by (simp [bdT, AV.bd, bdL, bdL_append]; done)) (by repeat' (first | exact True.intro | exact rfl | refine And.intro ?_ ?_ | (simp [bdOq, bdL, bdL_append, AV.bd]; done))) (by (rw [hm]; exact Nat.le_of_ble_eq_true rfl))⟩ ⟨Nat.zero_le _, rfl⟩ ?_
  rintro k ⟨hk, hall⟩
  have hnl := rnames_len hk
  (repeat' (first | apply jA | apply jF | apply jH | apply jI | apply jJ | apply jK | apply jL | apply jM | apply jN | apply jO | apply jP | apply jS | (refine wp_cond rfl (fun hc => ?_) (fun hc => ?_) <;> (try simp only [sB, ne_eq, reduceCtorEq] at hc) <;> (try (exfalso; omega))) | (refine WP.regionC (id := 5) ?_; (refine slss rfl rfl ?_); apply jW) | (refine WP.regionC (id := 6) ?_; (refine sidxn rfl rfl (by omega) ?_); (refine sloadw rfl rfl ?_); (refine se_alloc rfl ?_); (refine se_store_b rfl rfl rfl rfl ?_); apply jW) | (refine WP.regionC (id := 7) ?_; (refine sloadpw rfl rfl rfl rfl ?_); (refine sc_p rfl rfl (by first | ((repeat' first | exact SubL.nil | refine SubL.cons ?_ ?_ | exact Sub.refl); done) | fail) (by first | (simp [bdL, bdL_append, AV.bd]; done) | fail) (rule_fn _) ?_); (refine su (anot rfl) ?_); apply jW) | (refine WP.regionC (id := 8) ?_; (refine sassign rfl ?_); apply jW) | (refine WP.regionC (id := 9) ?_; (refine smove rfl ?_); (refine sfieldp rfl rfl rfl ?_); (refine sloadp rfl rfl rfl rfl ?_); (refine se_lit (OpP.cons rfl (OpP.nil)) rfl rfl rfl rfl rfl rfl ?_); (refine se_app1 rfl rfl rfl rfl rfl rfl rfl rfl (by omega) ?_); (refine sassign rfl ?_); apply jW) | (refine WP.regionC (id := 10) ?_; (refine sadd rfl rfl (by exact inr_i64_of (by omega)) ?_); (refine smove rfl ?_); apply jW) | (refine WP.regionC (id := 11) ?_; (refine sfieldp rfl rfl rfl ?_); (refine sloadp rfl rfl rfl rfl ?_); (refine slenm rfl rfl ?_); (refine smove rfl ?_); apply jW) | refine ret_b rfl ?_))
  · rw [show validF f = false by simp only [validF, all_nth_no (l := f.rules) (k := k) (by omega) hc, Bool.and_false, Bool.false_and]]
  · refine ⟨k + 1, ⟨by omega, by omega, take_all_succ (by omega) hall hc⟩, ?_⟩
    rw [rnames_succ (by omega)]
    exact ⟨[0, 5, 2], ToR.S rfl (by repeat' (first | exact rt_nil | refine rt_r rfl rfl ?_ | refine rt_t rfl rfl ?_ | refine rt_e rfl rfl ?_ | refine rt_p rfl rfl (by first | (simp [AV.bd, bdL, bdL_append]; done) | fail) ?_)) (by repeat' (first | exact ro_nil | refine ro_e rfl rfl ?_ | refine ro_p rfl (by first | exact rfl | fail) (by first | exact bdL_map (fun _ => by exact rfl) _ | (simp [bdL, bdL_append, AV.bd]; done) | fail) ?_)) rfl (by (rw [hm]; exact rfl)) rfl (by (simp [bdT, AV.bd, bdL, bdL_append]; done)) (by repeat' (first | exact True.intro | exact rfl | refine And.intro ?_ ?_ | exact bdL_map (fun _ => by exact rfl) _ | (simp [bdOq, bdL, bdL_append, AV.bd]; done))) (by (rw [hm]; exact Nat.le_of_ble_eq_true rfl))⟩
  obtain rfl : k = f.rules.length := by omega
  have hrs := all_of_take' (by omega) hall
  refine wp_loop (fun (j : Nat) => j ≤ f.levels.length ∧ (f.levels.take j).all glevelOk = true) (fun j => f.levels.length - j)
    (fun j => (S 73 [(1, .ptr 0 3 0 0), (3, .ref 1 1 0 (rnames f f.rules.length).length), (4, .ref 2 1 0 (toks f j).length), (36, levelsA f.levels), (37, intA (f.levels.length : Nat)), (38, intA (j : Nat))] 3 [(0, some (.arr 3 [fileA f])), (1, some (.arr 1 ((rnames f f.rules.length).map strA))), (2, some (.arr 1 ((toks f j).map strA)))])) 0 ⟨[0, 1, 2], ToR.S rfl (by repeat' (first | exact rt_nil | refine rt_r rfl rfl ?_ | refine rt_t rfl rfl ?_ | refine rt_e rfl rfl ?_ | refine rt_p rfl rfl (by first | (simp [AV.bd, bdL, bdL_append]; done) | fail) ?_)) (by repeat' (first | exact ro_nil | refine ro_e rfl rfl ?_ | refine ro_p rfl (by first | exact rfl | fail) (by first | exact bdL_map (fun _ => by exact rfl) _ | (simp [bdL, bdL_append, AV.bd]; done) | fail) ?_)) rfl (by (rw [hm]; exact rfl)) rfl (by (simp [bdT, AV.bd, bdL, bdL_append]; done)) (by repeat' (first | exact True.intro | exact rfl | refine And.intro ?_ ?_ | exact bdL_map (fun _ => by exact rfl) _ | (simp [bdOq, bdL, bdL_append, AV.bd]; done))) (by (rw [hm]; exact Nat.le_of_ble_eq_true rfl))⟩ ⟨Nat.zero_le _, rfl⟩ ?_
  rintro j ⟨hj, hjall⟩
  have htm := toks_mono f hj
  by_cases hlt : j < f.levels.length
  · have htm2 := toks_mono f (k := j + 1) (by omega)
    rw [toks_succ hlt, List.length_append] at htm2
    (repeat' (first | apply jA | apply jF | apply jH | apply jI | apply jK | apply jM | apply jN | apply jO | apply jS | (refine wp_cond rfl (fun hc => ?_) (fun hc => ?_) <;> (try simp only [sB, ne_eq, reduceCtorEq] at hc) <;> (try (exfalso; omega))) | (refine WP.regionC (id := 12) ?_; (refine slss rfl rfl ?_); apply jW) | (refine WP.regionC (id := 13) ?_; (refine sidxn rfl rfl (by omega) ?_); (refine sloadw rfl rfl ?_); (refine se_alloc rfl ?_); (refine se_store_b rfl rfl rfl rfl ?_); apply jW) | (refine WP.regionC (id := 14) ?_; (refine sfieldp rfl rfl rfl ?_); (refine sloadp rfl rfl rfl rfl ?_); (refine slss rfl rfl ?_); (refine smove rfl ?_); (refine sg (gq_vf rfl rfl) (fun he => ap_field_p (rq_p rfl rfl) rfl rfl) ?_); (refine sg (gq_vf rfl rfl) (fun he => ap_load_p (rq_c rfl rfl) rfl rfl rfl) ?_); (refine sg (gq_vf rfl rfl) (fun he => ap_gtr (rq_c rfl rfl) (rq_p rfl rfl)) ?_); (refine su (ap_or (rq_p rfl rfl) (rq_c rfl rfl)) ?_); (refine smove rfl ?_); (refine sg (gq_vf rfl rfl) (fun he => ap_field_p (rq_p rfl rfl) rfl rfl) ?_); (refine sg (gq_vf rfl rfl) (fun he => ap_load_p (rq_c rfl rfl) rfl rfl rfl) ?_); (refine sg (gq_vf rfl rfl) (fun he => ap_len_m rfl (rq_c rfl rfl)) ?_); (refine sg (gq_vf rfl rfl) (fun he => ap_eql (rq_c rfl rfl) (rq_p rfl rfl)) ?_); (refine su (ap_or (rq_p rfl rfl) (rq_c rfl rfl)) ?_); apply jW) | (refine WP.regionC (id := 15) ?_; (refine sassign rfl ?_); apply jW) | (refine WP.regionC (id := 16) ?_; (refine smove rfl ?_); (refine sfieldp rfl rfl rfl ?_); (refine sloadp rfl rfl rfl rfl ?_); (refine se_appL rfl rfl rfl rfl rfl rfl rfl (by omega) ?_); (refine sassign rfl ?_); apply jW) | (refine WP.regionC (id := 17) ?_; (refine sadd rfl rfl (by exact inr_i64_of (by omega)) ?_); (refine smove rfl ?_); apply jW) | refine ret_b rfl ?_))
    · rw [show validF f = false by simp only [validF, all_nth_no (l := f.levels) (f := glevelOk) (k := j) (by omega) (glevel_no (by omega)), Bool.and_false, Bool.false_and]]
    · refine ⟨j + 1, ⟨by omega, by omega, take_all_succ (by omega) hjall (glevel_iff.2 (by omega))⟩, ?_⟩
      rw [toks_succ (by omega)]
      exact ⟨[0, 1, 4], ToR.S rfl (by repeat' (first | exact rt_nil | refine rt_r rfl rfl ?_ | refine rt_t rfl rfl ?_ | refine rt_e rfl rfl ?_ | refine rt_p rfl rfl (by first | (simp [AV.bd, bdL, bdL_append]; done) | fail) ?_)) (by repeat' (first | exact ro_nil | refine ro_p rfl (by first | exact rfl | fail) (by first | exact bdL_map (fun _ => by exact rfl) _ | (simp [bdL, bdL_append, AV.bd]; done) | fail) ?_)) rfl (by (rw [hm]; exact rfl)) rfl (by (simp [bdT, AV.bd, bdL, bdL_append]; done)) (by repeat' (first | exact True.intro | refine And.intro ?_ ?_ | exact bdL_map (fun _ => by exact rfl) _ | (simp [bdOq, bdL, bdL_append, AV.bd]; done))) (by (rw [hm]; exact Nat.le_of_ble_eq_true rfl))⟩
  obtain rfl : j = f.levels.length := by omega
  have hls := all_of_take' (by omega) hjall
  (repeat' (first | apply jA | apply jH | apply jJ | apply jK | apply jL | apply jP | apply jS | (refine wp_cond rfl (fun hc => ?_) (fun hc => ?_) <;> (try simp only [sB, ne_eq, reduceCtorEq] at hc) <;> (try (exfalso; omega))) | (refine WP.regionC (id := 12) ?_; (refine slss rfl rfl ?_); apply jW) | (refine WP.regionC (id := 18) ?_; (refine smove rfl ?_); (refine sc_b rfl rfl (by first | ((repeat' first | exact FzL.nil | refine FzL.cons ?_ ?_ | (exact Fz.list rfl rfl (fun _ => by simp [AV.bd, bdL, bdL_append]) (fun _ => rfl))); done) | fail) (distinct_fn (rnames f f.rules.length) (by omega)) rfl ?_); (refine smove rfl ?_); (refine sg (gq_vt rfl rfl) (fun he => ap_move (rq_p rfl rfl)) ?_); (refine sg_b (gq_vt rfl rfl) (fun he => ⟨(rq_p rfl rfl), (RqL.cons (rq_c rfl rfl) (RqL.nil)), (by first | ((repeat' first | exact FzL.nil | refine FzL.cons ?_ ?_ | (exact Fz.list rfl rfl (fun _ => by simp [AV.bd, bdL, bdL_append]) (fun _ => rfl))); done) | fail), distinct_fn (toks f f.levels.length) (by omega), rfl⟩) ?_); (refine su (ap_and (rq_p rfl rfl) (rq_c rfl rfl)) ?_); (refine smove rfl ?_); (refine sg (gq_vt rfl rfl) (fun he => ap_move (rq_p rfl rfl)) ?_); (refine sg (gq_vt rfl rfl) (fun he => ap_field_p (rq_p rfl rfl) rfl rfl) ?_); (refine sg (gq_vt rfl rfl) (fun he => ap_load_p (rq_c rfl rfl) rfl rfl rfl) ?_); (refine sg_b (gq_vt rfl rfl) (fun he => ⟨(rq_p rfl rfl), (RqL.cons (rq_c rfl rfl) (RqL.cons (rq_c rfl rfl) (RqL.nil))), (by first | ((repeat' first | exact FzL.nil | refine FzL.cons ?_ ?_ | (exact Fz.list rfl rfl (fun _ => by simp [AV.bd, bdL, bdL_append]) (fun _ => rfl)) | (exact Fz.reflp (by simp [AV.bd, bdL, bdL_append]))); done) | fail), containsS_fn (rnames f f.rules.length) f.start, rfl⟩) ?_); (refine su (ap_and (rq_p rfl rfl) (rq_c rfl rfl)) ?_); (refine sassign rfl ?_); apply jW) | refine ret_b rfl ?_))
  have a1 : decide (1 ≤ f.rules.length) = true := decide_eq_true (by omega)
  have a2 : decide (f.rules.length ≤ 120) = true := decide_eq_true (by omega)
  simp only [validF, a1, a2, hrs, hls, Bool.true_and]
end Go.Lg

namespace Go.Lg
open Go.Proofs
set_option linter.unusedSimpArgs false
set_option linter.unusedVariables false
attribute [local irreducible] Ap Rq asemC WP RunD Ret Gq thenA inBlockA bodyQ noGotoA RqL RqP OpP
set_option maxHeartbeats 4000000
set_option maxRecDepth 20000
attribute [local simp] rdA pkA tokA toks_bd AV.cells
theorem ren_levelsA (π : Nat → Nat) (x : List GLe) : AV.ren π (levelsA x) = levelsA x := ren_pure (by simp [levelsA, AV.bd])
theorem ren_gruleA (π : Nat → Nat) (x : GRu) : AV.ren π (gruleA x) = gruleA x := ren_pure (bd_gruleA 0 x)
def noF : GFi := ⟨⟨#[]⟩, [], []⟩
def parseR (s : ByteArray) : GFi × Int × Int := match pFile (lexT (bl s)) with
  | .ok f _ => if validF f then (f, 0, 0) else (noF, 0, 1)
  | .err r => (noF, pos (cut (lexL (bl s) 0) r) (s.size : Int), 3)
def parseA (x : GFi × Int × Int) : AV := .tup [fileA x.1, intA x.2.1, intA x.2.2]
theorem parse_fn (s : ByteArray) (hs : s.size ≤ 100000) (hB : (lexL (bl s) 0).length ≤ 100000) (hW : NumW (lexL (bl s) 0)) (hT : ∀ f q, pFile (lexT (bl s)) = .ok f q → (toks f f.levels.length).length ≤ 1000000) :
    Fn Tryd.prog 5 [strA s] (parseA (parseR s)) := by
  refine FnD.intro (l1 := [(4, .ptr 2 1 0 0), (3, .ptr 1 1 0 0), (2, .ptr 0 3 0 0), (0, strA s)]) (M1 := 3) (os1 := [(2, some (boxI .i64 0)), (1, some (boxI .i64 0)), (0, some (boxF nilF))]) (capA := [.ptr 0 3 0 0, .ptr 1 1 0 0, .ptr 2 1 0 0]) (rs := [.cell 2 26, .cell 3 3, .cell 4 27])
    (by simp [parseA, AV.bd, bdL]) (by kernel_rfl) Tryd.func5 rfl rfl Tryd.ntmps5 (by exact Nat.le_of_ble_eq_true rfl) (by decide) rfl ?_ ?_ ?_ ?_
  · simp
  · intro i hi
    match i, hi with
    | 0, _ => rfl
    | 1, _ => rfl
    | 2, _ => rfl
  · intro Γ hm
    (repeat' ((refine WP.regionC (id := 0) ?_; (refine se_alloc rfl ?_); (refine se_alloc rfl ?_); (refine se_alloc rfl ?_); refine asemC_end ?_)))
    exact ⟨rfl, rfl⟩
  · intro Γ hm
    skip
    generalize hL : lexL (bl s) 0 = L at *
    have hlt : lexT (bl s) = L.map (·.2) := by rw [← hL]; rfl
    have hlex := lex_fn s (by omega)
    rw [hL] at hlex
    have herr : ∀ r, pFile (L.map (·.2)) = .err r → parseR s = (noF, pos (cut L r) (s.size : Int), 3) := fun r h => by unfold parseR; rw [hlt, h, hL]
    have hokk : ∀ f q, pFile (L.map (·.2)) = .ok f q → parseR s = if validF f then (f, 0, 0) else (noF, 0, 1) := fun f q h => by unfold parseR; rw [hlt, h]
    rw [hlt] at hT
    by_cases h0 : hdT L = bl kw0
    · obtain ⟨p1, l1, hl1, hp1⟩ := hdT_cons (by decide) h0
      have hE1 : FnO Tryd.prog 11 [.ptr 0 2 0 0, strA (tx (bl kw0))] [rdA L (s.size : Int)] (.tup []) [some (rdA l1 (s.size : Int))] := by rw [hl1]; exact expect_ok (bl kw0) (by decide) p1 l1 (s.size : Int) hp1
      have hs1 : l1 <:+ L := by rw [hl1]; exact List.suffix_cons _ _
      have hpt1 : pTake (bl kw0) (L.map (·.2)) = .ok () (l1.map (·.2)) := by rw [hl1, List.map_cons, pTake, if_pos hp1]
      have hnm := gpname_fn l1 (s.size : Int)
      cases hq1 : pName (l1.map (·.2)) with
      | err q =>
        have hqs : q <:+ l1.map (·.2) := by have := pName_suf (l1.map (·.2)); rw [hq1] at this; exact this
        have hX : FnX Tryd.prog 12 [.ptr 0 2 0 0] [rdA l1 (s.size : Int)] (synV (pos (cut l1 q) (s.size : Int))) := hnm.dies (by rw [hq1]; simp only [pout])
        rw [herr q (by simp only [pFile, hpt1, hq1]), ← cut_cut hs1 hqs]
        (repeat' (first | apply jA | apply jH | apply jT | (refine wpl_region (id := 2) ?_; (refine wpl_step rfl ?_; (refine smove rfl ?_); apply jW; ((refine wpl_step rfl ?_; (refine sc_p rfl rfl (by first | ((repeat' first | exact SubL.nil | refine SubL.cons ?_ ?_ | exact Sub.refl); done) | fail) (by first | (simp [bdL, bdL_append, AV.bd]; done) | fail) (hlex) ?_); apply jW; (refine wpl_step rfl ?_; (refine smove rfl ?_); apply jW; (refine wpl_step rfl ?_; (refine su (alenstr rfl rfl) ?_); apply jW; (refine wpl_step rfl ?_; (refine su (ap_build (RqP.cons (rq_p rfl rfl) (RqP.cons (rq_p rfl rfl) (RqP.nil))) rfl) ?_); apply jW; (refine wpl_step rfl ?_; (refine se_box rfl (by exact ⟨rfl, rfl⟩) ?_); apply jW; (refine wpl_step rfl ?_; (refine sassign rfl ?_); apply jW; (apply jX)))))))))) | (refine wpl_region (id := 3) ?_; (refine wpl_step rfl ?_; (refine smove rfl ?_); apply jW; ((refine wpl_step rfl ?_; (refine sc_o [3] rfl rfl (hE1) (Lend.o1 rfl rfl (by (exact (renL_pure (by simp [AV.bd, bdL, bdL_append])).symm)) rfl (by simp [AV.bd, bdL, bdL_append]) (by simp [AV.bd, bdL, bdL_append])) ?_; simp only [updN, newO, AObj.ren, renL, AV.ren, apx, ap, if_true, if_false, Nat.reduceLT, Nat.reduceAdd, Nat.reduceSub, sO, intA, boolA, strA, rdA, ren_toks]); apply jW; (apply jX))))) | (refine wpl_region (id := 4) ?_; (refine wpl_step rfl ?_; (refine smove rfl ?_); apply jW; ((refine wpl_x [3] rfl rfl (hX) (Lend.S (by first | ((repeat' first | exact RenL.nil | refine RenL.cons rfl ?_); done) | fail) (by first | ((repeat' first | exact LendO.nil | refine LendO.arr rfl (by (exact (renL_pure (by simp [AV.bd, bdL, bdL_append])).symm)) ?_); done) | fail) (by decide) rfl (by simp [AV.bd, bdL, bdL_append]) (by repeat' (first | exact True.intro | refine And.intro ?_ ?_ | simp [AV.bd, bdL, bdL_append]))) ?_))))))
        refine bd_endp (ys' := [.ptr 0 3 0 0, .ptr 1 1 0 0, .ptr 2 1 0 0]) (mid := [boxF (.agg [strA ⟨#[]⟩, .val (.slice none 0 0), .val (.slice none 0 0)]), boxI .i64 0, boxI .i64 0]) [0, 1, 2] [(3, [nilF]), (1, [.val (.int .i64 _)]), (1, [.val (.int .i64 3)])] rfl (Lend.S (by first | ((repeat' first | exact RenL.nil | refine RenL.cons rfl ?_); done) | fail) (by first | ((repeat' first | exact LendO.nil | refine LendO.arr rfl rfl ?_); done) | fail) (by decide) rfl (by simp [AV.bd, bdL, bdL_append]) (by repeat' (first | exact True.intro | refine And.intro ?_ ?_ | simp [AV.bd, bdL, bdL_append]))) (def_panic _ _ _ (fun _ => by simp [strA, AV.bd]) (fun _ => by simp [AV.bd, levelsA]) (fun _ => by simp [AV.bd]) _ _ _) (by simp [nilF, AV.bd, bdL, levelsA]) ?_
        exact ret_many (xs := [nilF, .val (.int .i64 _), .val (.int .i64 3)]) (.cellT rfl rfl rfl rfl (.cellT rfl rfl rfl rfl (.cellT rfl rfl rfl rfl .nil))) (by exact Nat.le_of_ble_eq_true rfl) (by first | ((repeat' first | exact FzL.nil | refine FzL.cons ?_ ?_ | exact Fz.nil | (exact Fz.reflp (by simp [AV.bd, bdL, bdL_append])) | refine Fz.aggL ?_); done) | fail)
      | ok n r2 =>
        have hr2 : r2 <:+ l1.map (·.2) := by have := pName_suf (l1.map (·.2)); rw [hq1] at this; exact this
        have hO2 : FnO Tryd.prog 12 [.ptr 0 2 0 0] [rdA l1 (s.size : Int)] (strA n) [some (rdA (cut l1 r2) (s.size : Int))] := hnm.oks (by rw [hq1]; simp only [pout])
        have hs2 := (cut_suf l1 r2).trans hs1
        have hm2 := cut_map hr2
        generalize hl2 : cut l1 r2 = l2 at *
        by_cases h59 : hdT l2 = [59]
        · obtain ⟨p3, l3, hl3, hp3⟩ := hdT_cons (by simp) h59
          have hE3 : FnO Tryd.prog 11 [.ptr 0 2 0 0, strA (tx [59])] [rdA l2 (s.size : Int)] (.tup []) [some (rdA l3 (s.size : Int))] := by rw [hl3]; exact expect_ok [59] (by simp) p3 l3 (s.size : Int) hp3
          have hpt3 : pTake [59] r2 = .ok () (l3.map (·.2)) := by rw [← hm2, hl3, List.map_cons, pTake, if_pos hp3]
          have hs3 : l3 <:+ L := by rw [hl3] at hs2; exact (List.suffix_cons _ _).trans hs2
          have hlen3 := hs3.length_le
          have hlv := gplevels_fn l3 (s.size : Int) (by omega)
          cases hq4 : pLevels (l3.map (·.2)) with
          | err q =>
            have hqs : q <:+ l3.map (·.2) := by have := pLevels_suf _ (l3.map (·.2)) (Nat.le_refl _); rw [hq4] at this; exact this
            have hX : FnX Tryd.prog 13 [.ptr 0 2 0 0] [rdA l3 (s.size : Int)] (synV (pos (cut l3 q) (s.size : Int))) := hlv.dies (by rw [hq4]; simp only [pout])
            rw [herr q (by simp only [pFile, hpt1, hq1, hpt3, hq4]), ← cut_cut hs3 hqs]
            (repeat' (first | apply jA | apply jH | apply jT | (refine wpl_region (id := 2) ?_; (refine wpl_step rfl ?_; (refine smove rfl ?_); apply jW; ((refine wpl_step rfl ?_; (refine sc_p rfl rfl (by first | ((repeat' first | exact SubL.nil | refine SubL.cons ?_ ?_ | exact Sub.refl); done) | fail) (by first | (simp [bdL, bdL_append, AV.bd]; done) | fail) (hlex) ?_); apply jW; (refine wpl_step rfl ?_; (refine smove rfl ?_); apply jW; (refine wpl_step rfl ?_; (refine su (alenstr rfl rfl) ?_); apply jW; (refine wpl_step rfl ?_; (refine su (ap_build (RqP.cons (rq_p rfl rfl) (RqP.cons (rq_p rfl rfl) (RqP.nil))) rfl) ?_); apply jW; (refine wpl_step rfl ?_; (refine se_box rfl (by exact ⟨rfl, rfl⟩) ?_); apply jW; (refine wpl_step rfl ?_; (refine sassign rfl ?_); apply jW; (apply jX)))))))))) | (refine wpl_region (id := 3) ?_; (refine wpl_step rfl ?_; (refine smove rfl ?_); apply jW; ((refine wpl_step rfl ?_; (refine sc_o [3] rfl rfl (hE1) (Lend.o1 rfl rfl (by (exact (renL_pure (by simp [AV.bd, bdL, bdL_append])).symm)) rfl (by simp [AV.bd, bdL, bdL_append]) (by simp [AV.bd, bdL, bdL_append])) ?_; simp only [updN, newO, AObj.ren, renL, AV.ren, apx, ap, if_true, if_false, Nat.reduceLT, Nat.reduceAdd, Nat.reduceSub, sO, intA, boolA, strA, rdA, ren_toks]); apply jW; (apply jX))))) | (refine wpl_region (id := 4) ?_; (refine wpl_step rfl ?_; (refine smove rfl ?_); apply jW; ((refine wpl_step rfl ?_; (refine sc_o [3] rfl rfl (hO2) (Lend.o1 rfl rfl (by (exact (renL_pure (by simp [AV.bd, bdL, bdL_append])).symm)) rfl (by simp [AV.bd, bdL, bdL_append]) (by simp [AV.bd, bdL, bdL_append])) ?_; simp only [updN, newO, AObj.ren, renL, AV.ren, apx, ap, if_true, if_false, Nat.reduceLT, Nat.reduceAdd, Nat.reduceSub, sO, intA, boolA, strA, rdA, ren_toks]); apply jW; (refine wpl_step rfl ?_; (refine sfieldp rfl rfl rfl ?_); apply jW; (refine wpl_step rfl ?_; (refine se_store_b rfl rfl rfl rfl ?_); apply jW; (apply jX))))))) | (refine wpl_region (id := 5) ?_; (refine wpl_step rfl ?_; (refine smove rfl ?_); apply jW; ((refine wpl_step rfl ?_; (refine sc_o [3] rfl rfl (hE3) (Lend.o1 rfl rfl (by (exact (renL_pure (by simp [AV.bd, bdL, bdL_append])).symm)) rfl (by simp [AV.bd, bdL, bdL_append]) (by simp [AV.bd, bdL, bdL_append])) ?_; simp only [updN, newO, AObj.ren, renL, AV.ren, apx, ap, if_true, if_false, Nat.reduceLT, Nat.reduceAdd, Nat.reduceSub, sO, intA, boolA, strA, rdA, ren_toks]); apply jW; (apply jX))))) | (refine wpl_region (id := 6) ?_; (refine wpl_step rfl ?_; (refine smove rfl ?_); apply jW; ((refine wpl_x [3] rfl rfl (hX) (Lend.S (by first | ((repeat' first | exact RenL.nil | refine RenL.cons rfl ?_); done) | fail) (by first | ((repeat' first | exact LendO.nil | refine LendO.arr rfl (by (exact (renL_pure (by simp [AV.bd, bdL, bdL_append])).symm)) ?_); done) | fail) (by decide) rfl (by simp [AV.bd, bdL, bdL_append]) (by repeat' (first | exact True.intro | refine And.intro ?_ ?_ | simp [AV.bd, bdL, bdL_append]))) ?_))))))
            refine bd_endp (ys' := [.ptr 0 3 0 0, .ptr 1 1 0 0, .ptr 2 1 0 0]) (mid := [boxF (.agg [strA n, .val (.slice none 0 0), .val (.slice none 0 0)]), boxI .i64 0, boxI .i64 0]) [0, 1, 2] [(3, [nilF]), (1, [.val (.int .i64 _)]), (1, [.val (.int .i64 3)])] rfl (Lend.S (by first | ((repeat' first | exact RenL.nil | refine RenL.cons rfl ?_); done) | fail) (by first | ((repeat' first | exact LendO.nil | refine LendO.arr rfl rfl ?_); done) | fail) (by decide) rfl (by simp [AV.bd, bdL, bdL_append]) (by repeat' (first | exact True.intro | refine And.intro ?_ ?_ | simp [AV.bd, bdL, bdL_append]))) (def_panic _ _ _ (fun _ => by simp [strA, AV.bd]) (fun _ => by simp [AV.bd, levelsA]) (fun _ => by simp [AV.bd]) _ _ _) (by simp [nilF, AV.bd, bdL, levelsA]) ?_
            exact ret_many (xs := [nilF, .val (.int .i64 _), .val (.int .i64 3)]) (.cellT rfl rfl rfl rfl (.cellT rfl rfl rfl rfl (.cellT rfl rfl rfl rfl .nil))) (by exact Nat.le_of_ble_eq_true rfl) (by first | ((repeat' first | exact FzL.nil | refine FzL.cons ?_ ?_ | exact Fz.nil | (exact Fz.reflp (by simp [AV.bd, bdL, bdL_append])) | refine Fz.aggL ?_); done) | fail)
          | ok ls r4 =>
            have hr4 : r4 <:+ l3.map (·.2) := by have := pLevels_suf _ (l3.map (·.2)) (Nat.le_refl _); rw [hq4] at this; exact this
            have hO4 : FnO Tryd.prog 13 [.ptr 0 2 0 0] [rdA l3 (s.size : Int)] (levelsA ls) [some (rdA (cut l3 r4) (s.size : Int))] := hlv.oks (by rw [hq4]; simp only [pout])
            have hs4 := (cut_suf l3 r4).trans hs3
            have hm4 := cut_map hr4
            generalize hl4 : cut l3 r4 = l4 at *
            have hlen4 := hs4.length_le
            have hpf : ∀ q, pRules (l4.map (·.2)) = .err q → pFile (L.map (·.2)) = .err q := fun q h => by rw [hm4] at h; simp only [pFile, hpt1, hq1, hpt3, hq4, h]
            have hpo : ∀ rs q, pRules (l4.map (·.2)) = .ok rs q → pFile (L.map (·.2)) = .ok ⟨n, ls, rs⟩ q := fun rs q h => by rw [hm4] at h; simp only [pFile, hpt1, hq1, hpt3, hq4, h]
            (repeat' (first | apply jA | apply jF | apply jH | (refine WP.regionC (id := 2) ?_; (refine smove rfl ?_); (refine sc_p rfl rfl (by first | ((repeat' first | exact SubL.nil | refine SubL.cons ?_ ?_ | exact Sub.refl); done) | fail) (by first | (simp [bdL, bdL_append, AV.bd]; done) | fail) (hlex) ?_); (refine smove rfl ?_); (refine su (alenstr rfl rfl) ?_); (refine su (ap_build (RqP.cons (rq_p rfl rfl) (RqP.cons (rq_p rfl rfl) (RqP.nil))) rfl) ?_); (refine se_box rfl (by exact ⟨rfl, rfl⟩) ?_); (refine sassign rfl ?_); apply jW) | (refine WP.regionC (id := 3) ?_; (refine smove rfl ?_); (refine sc_o [3] rfl rfl (hE1) (Lend.o1 rfl rfl (by (exact (renL_pure (by simp [AV.bd, bdL, bdL_append])).symm)) rfl (by simp [AV.bd, bdL, bdL_append]) (by simp [AV.bd, bdL, bdL_append])) ?_; simp only [updN, newO, AObj.ren, renL, AV.ren, apx, ap, if_true, if_false, Nat.reduceLT, Nat.reduceAdd, Nat.reduceSub, sO, intA, boolA, strA, rdA, ren_toks]); apply jW) | (refine WP.regionC (id := 4) ?_; (refine smove rfl ?_); (refine sc_o [3] rfl rfl (hO2) (Lend.o1 rfl rfl (by (exact (renL_pure (by simp [AV.bd, bdL, bdL_append])).symm)) rfl (by simp [AV.bd, bdL, bdL_append]) (by simp [AV.bd, bdL, bdL_append])) ?_; simp only [updN, newO, AObj.ren, renL, AV.ren, apx, ap, if_true, if_false, Nat.reduceLT, Nat.reduceAdd, Nat.reduceSub, sO, intA, boolA, strA, rdA, ren_toks]); (refine sfieldp rfl rfl rfl ?_); (refine se_store_b rfl rfl rfl rfl ?_); apply jW) | (refine WP.regionC (id := 5) ?_; (refine smove rfl ?_); (refine sc_o [3] rfl rfl (hE3) (Lend.o1 rfl rfl (by (exact (renL_pure (by simp [AV.bd, bdL, bdL_append])).symm)) rfl (by simp [AV.bd, bdL, bdL_append]) (by simp [AV.bd, bdL, bdL_append])) ?_; simp only [updN, newO, AObj.ren, renL, AV.ren, apx, ap, if_true, if_false, Nat.reduceLT, Nat.reduceAdd, Nat.reduceSub, sO, intA, boolA, strA, rdA, ren_toks]); apply jW) | (refine WP.regionC (id := 6) ?_; (refine smove rfl ?_); (refine sc_o [3] rfl rfl (hO4) (Lend.o1 rfl rfl (by (exact (renL_pure (by simp [AV.bd, bdL, bdL_append])).symm)) rfl (by simp [AV.bd, bdL, bdL_append]) (by simp [AV.bd, bdL, bdL_append])) ?_; simp only [updN, newO, AObj.ren, renL, AV.ren, apx, ap, if_true, if_false, Nat.reduceLT, Nat.reduceAdd, Nat.reduceSub, sO, intA, boolA, strA, rdA, ren_toks, ren_levelsA]); (refine sfieldp rfl rfl rfl ?_); (refine se_store_b rfl rfl rfl rfl ?_); apply jW) | (refine WP.regionC (id := 7) ?_; (refine sassign rfl ?_); apply jW)))
            refine wp_nil 6 2 rfl ?_
            refine wp_loop (fun (σ : List GRu × List (Nat × Tx)) => σ.2 <:+ l4 ∧ σ.1.length + σ.2.length ≤ L.length ∧ finU σ.1 (σ.2.map (·.2)) = pRules (l4.map (·.2))) (fun σ => σ.2.length)
              (fun σ => (S 42 [(2, .ptr 0 3 0 0), (3, .ptr 1 1 0 0), (4, .ptr 2 1 0 0), (5, .ptr 3 2 0 0), (6, .ref 4 2 0 σ.1.length)] 5 [(0, some (boxF (.agg [strA n, levelsA ls, .val (.slice none 0 0)]))), (1, some (boxI .i64 0)), (2, some (boxI .i64 0)), (3, some (rdA σ.2 (s.size : Int))), (4, some (.arr 2 (σ.1.map gruleA)))])) ([], l4) ⟨[0, 1, 2, 3, 4], ToR.S rfl (by repeat' (first | exact rt_nil | refine rt_r rfl rfl ?_ | refine rt_t rfl rfl ?_)) (by repeat' (first | exact ro_nil | refine ro_e rfl rfl ?_ | refine ro_p rfl (by first | exact rfl | fail) (by first | (simp [bdL, bdL_append, AV.bd]; done) | fail) ?_)) rfl (by (rw [hm]; exact rfl)) rfl (by (simp [bdT, AV.bd, bdL, bdL_append]; done)) (by repeat' (first | exact True.intro | exact rfl | refine And.intro ?_ ?_ | (simp [bdOq, bdL, bdL_append, AV.bd]; done))) (by (rw [hm]; exact Nat.le_of_ble_eq_true rfl))⟩ ⟨List.suffix_refl _, by simpa using hlen4, finU_nil _⟩ ?_
            rintro ⟨acc, l5⟩ ⟨hs5, hn5, hf5⟩
            simp only at hs5 hn5 hf5 ⊢
            cases l5 with
            | nil =>
              have hpr : pRules (l4.map (·.2)) = .ok acc [] := by rw [← hf5]; exact finU_stop acc
              have hpF := hpo acc [] hpr
              have hval := gvalid_fn ⟨n, ls, acc⟩ (hT _ _ hpF)
              rw [hokk _ _ hpF]
              (repeat' (first | apply jA | apply jF | apply jH | apply jI | apply jJ | apply jL | apply jP | (refine wp_cond rfl (fun hc => ?_) (fun hc => ?_) <;> (try simp only [sB, ne_eq, reduceCtorEq] at hc) <;> (try (exfalso; omega))) | (refine WP.regionC (id := 8) ?_; (refine smove rfl ?_); (refine snilc rfl ?_); (refine sfieldp rfl rfl rfl ?_); (refine sloadp rfl rfl rfl rfl ?_); (refine slenm rfl rfl ?_); (refine su (agtr rfl rfl) ?_); apply jW)))
              · exfalso; simp at hc
              · refine wp_frzm 6 hm rfl rfl rfl (bd_gruleA 0) (fun _ => rfl) rfl ?_
                (repeat' (first | apply jA | apply jH | apply jI | apply jK | apply jM | (refine wp_cond rfl (fun hc => ?_) (fun hc => ?_) <;> (try simp only [sB, ne_eq, reduceCtorEq] at hc) <;> (try (exfalso; omega))) | (refine WP.regionC (id := 10) ?_; (refine smove rfl ?_); (refine sfieldp rfl rfl rfl ?_); (refine se_store_b rfl rfl rfl rfl ?_); apply jW) | (refine WP.regionC (id := 11) ?_; (refine sloadpw rfl rfl rfl rfl ?_); (refine sc_p rfl rfl (by first | ((repeat' first | exact SubL.nil | refine SubL.cons ?_ ?_ | exact Sub.refl); done) | fail) (by first | (simp [bdL, bdL_append, AV.bd]; done) | fail) (hval) ?_); (refine su (anot rfl) ?_); apply jW) | (refine WP.regionC (id := 12) ?_; (refine su (ap_build (RqP.nil) rfl) ?_); (refine se_store_b rfl rfl rfl rfl ?_); (refine se_store_b rfl rfl rfl rfl ?_); (refine se_store_b rfl rfl rfl rfl ?_); apply jW) | (refine WP.regionC (id := 13) ?_; (refine sloadpw rfl rfl rfl rfl ?_); (refine se_store_b rfl rfl rfl rfl ?_); (refine se_store_b rfl rfl rfl rfl ?_); (refine se_store_b rfl rfl rfl rfl ?_); apply jW)))
                · rw [if_neg (by simpa using hc)]
                  refine bd_endp (ys' := [.ptr 0 3 0 0, .ptr 1 1 0 0, .ptr 2 1 0 0]) (mid := [boxF (.agg [strA ⟨#[]⟩, .val (.slice none 0 0), .val (.slice none 0 0)]), boxI .i64 0, boxI .i64 1]) [0, 1, 2] [(3, [nilF]), (1, [.val (.int .i64 0)]), (1, [.val (.int .i64 1)])] rfl (Lend.S (by first | ((repeat' first | exact RenL.nil | refine RenL.cons rfl ?_); done) | fail) (by first | ((repeat' first | exact LendO.nil | refine LendO.arr rfl rfl ?_); done) | fail) (by decide) rfl (by simp [AV.bd, bdL, bdL_append]) (by repeat' (first | exact True.intro | refine And.intro ?_ ?_ | simp [AV.bd, bdL, bdL_append]))) (def_ret _ _ _ (fun _ => by simp [strA, AV.bd]) (fun _ => by simp [AV.bd, levelsA]) (fun _ => by simp [AV.bd]) _ _) (by simp [nilF, AV.bd, bdL, levelsA]) ?_
                  exact ret_many (xs := [nilF, .val (.int .i64 0), .val (.int .i64 1)]) (.cellT rfl rfl rfl rfl (.cellT rfl rfl rfl rfl (.cellT rfl rfl rfl rfl .nil))) (by exact Nat.le_of_ble_eq_true rfl) (by first | ((repeat' first | exact FzL.nil | refine FzL.cons ?_ ?_ | exact Fz.nil | (exact Fz.reflp (by simp [AV.bd, bdL, bdL_append])) | refine Fz.aggL ?_); done) | fail)
                · rw [if_pos hc]
                  refine bd_endp (ys' := [.ptr 0 3 0 0, .ptr 1 1 0 0, .ptr 2 1 0 0]) (mid := [boxF (.agg [strA n, levelsA ls, .sl 2 (acc.map gruleA)]), boxI .i64 0, boxI .i64 0]) [0, 1, 2] [(3, [.agg [strA n, levelsA ls, .sl 2 (acc.map gruleA)]]), (1, [.val (.int .i64 0)]), (1, [.val (.int .i64 0)])] rfl (Lend.S (by first | ((repeat' first | exact RenL.nil | refine RenL.cons rfl ?_); done) | fail) (by first | ((repeat' first | exact LendO.nil | refine LendO.arr rfl (by first | exact rfl | (exact (renL_pure (by simp [AV.bd, bdL, bdL_append])).symm)) ?_); done) | fail) (by decide) rfl (by simp [AV.bd, bdL, bdL_append]) (by repeat' (first | exact True.intro | refine And.intro ?_ ?_ | simp [AV.bd, bdL, bdL_append]))) (def_ret _ _ _ (fun _ => by simp [strA, AV.bd]) (fun _ => by simp [AV.bd, levelsA]) (fun _ => by simp [AV.bd]) _ _) (by simp [nilF, AV.bd, bdL, levelsA]) ?_
                  exact ret_many (xs := [.agg [strA n, levelsA ls, .sl 2 (acc.map gruleA)], .val (.int .i64 0), .val (.int .i64 0)]) (.cellT rfl rfl rfl rfl (.cellT rfl rfl rfl rfl (.cellT rfl rfl rfl rfl .nil))) (by exact Nat.le_of_ble_eq_true rfl) (by first | ((repeat' first | exact FzL.nil | refine FzL.cons ?_ ?_ | (exact Fz.reflp (by simp [AV.bd, bdL, bdL_append]))); done) | fail)
            | cons p5 l6 =>
              have hs5L := hs5.trans hs4
              have hru := gprule_fn (p5 :: l6) (s.size : Int) (by simp only [List.length_cons] at hn5 ⊢; omega) (hW.suf hs5L)
              have hst := finU_step acc p5.2 (l6.map (·.2))
              cases hq5 : pRule (p5.2 :: l6.map (·.2)) with
              | err q =>
                have hqs : q <:+ (p5 :: l6).map (·.2) := by have := pRule_suf (p5.2 :: l6.map (·.2)); rw [hq5] at this; exact this
                have hX : FnX Tryd.prog 14 [.ptr 0 2 0 0] [rdA (p5 :: l6) (s.size : Int)] (synV (pos (cut (p5 :: l6) q) (s.size : Int))) := hru.dies (by simp only [List.map_cons]; rw [hq5]; simp only [pout])
                rw [herr q (hpf q (by rw [← hf5, List.map_cons, hst, hq5])), ← cut_cut hs5L hqs]
                have hlen6 : (p5 :: l6).length = l6.length + 1 := rfl
                (repeat' (first | apply jA | apply jF | apply jH | apply jI | apply jT | apply jU | (refine wp_cond rfl (fun hc => ?_) (fun hc => ?_) <;> (try simp only [sB, ne_eq, reduceCtorEq] at hc) <;> (try (exfalso; omega))) | (refine WP.regionC (id := 8) ?_; (refine smove rfl ?_); (refine snilc rfl ?_); (refine sfieldp rfl rfl rfl ?_); (refine sloadp rfl rfl rfl rfl ?_); (refine slenm rfl rfl ?_); (refine su (agtr rfl rfl) ?_); apply jW) | (refine wpl_region (id := 9) ?_; (refine wpl_step rfl ?_; (refine smove rfl ?_); apply jW; (refine wpl_step rfl ?_; (refine smove rfl ?_); apply jW; ((refine wpl_x [3] rfl rfl (hX) (Lend.S (by first | ((repeat' first | exact RenL.nil | refine RenL.cons rfl ?_); done) | fail) (by first | ((repeat' first | exact LendO.nil | refine LendO.arr rfl (by (exact (renL_pure (by simp [AV.bd, bdL, bdL_append])).symm)) ?_); done) | fail) (by decide) rfl (by simp [AV.bd, bdL, bdL_append]) (by repeat' (first | exact True.intro | refine And.intro ?_ ?_ | simp [AV.bd, bdL, bdL_append]))) ?_)))))))
                · skip
                  refine bd_endp (ys' := [.ptr 0 3 0 0, .ptr 1 1 0 0, .ptr 2 1 0 0]) (mid := [boxF (.agg [strA n, levelsA ls, .val (.slice none 0 0)]), boxI .i64 0, boxI .i64 0]) [0, 1, 2] [(3, [nilF]), (1, [.val (.int .i64 _)]), (1, [.val (.int .i64 3)])] rfl (Lend.S (by first | ((repeat' first | exact RenL.nil | refine RenL.cons rfl ?_); done) | fail) (by first | ((repeat' first | exact LendO.nil | refine LendO.arr rfl (by first | exact rfl | (exact (renL_pure (by simp [AV.bd, bdL, bdL_append])).symm)) ?_); done) | fail) (by decide) rfl (by simp [AV.bd, bdL, bdL_append]) (by repeat' (first | exact True.intro | refine And.intro ?_ ?_ | simp [AV.bd, bdL, bdL_append]))) (def_panic _ _ _ (fun _ => by simp [strA, AV.bd]) (fun _ => by simp [AV.bd, levelsA]) (fun _ => by simp [AV.bd]) _ _ _) (by simp [nilF, AV.bd, bdL, levelsA]) ?_
                  exact ret_many (xs := [nilF, .val (.int .i64 _), .val (.int .i64 3)]) (.cellT rfl rfl rfl rfl (.cellT rfl rfl rfl rfl (.cellT rfl rfl rfl rfl .nil))) (by exact Nat.le_of_ble_eq_true rfl) (by first | ((repeat' first | exact FzL.nil | refine FzL.cons ?_ ?_ | exact Fz.nil | (exact Fz.reflp (by simp [AV.bd, bdL, bdL_append])) | refine Fz.aggL ?_); done) | fail)
              | ok x r =>
                have hqs : r <:+ (p5 :: l6).map (·.2) := by have := pRule_suf (p5.2 :: l6.map (·.2)); rw [hq5] at this; exact this
                have hO : FnO Tryd.prog 14 [.ptr 0 2 0 0] [rdA (p5 :: l6) (s.size : Int)] (gruleA x) [some (rdA (cut (p5 :: l6) r) (s.size : Int))] := hru.oks (by simp only [List.map_cons]; rw [hq5]; simp only [pout])
                have hltr := pRule_lt hq5
                simp only [List.length_cons, List.length_map] at hltr
                have hcl : (cut (p5 :: l6) r).length = r.length := by have := congrArg List.length (cut_map hqs); rwa [List.length_map] at this
                simp only [List.length_cons] at hn5
                have hnext : (cut (p5 :: l6) r).length < (p5 :: l6).length ∧ cut (p5 :: l6) r <:+ l4 ∧ (acc ++ [x]).length + (cut (p5 :: l6) r).length ≤ L.length ∧ finU (acc ++ [x]) ((cut (p5 :: l6) r).map (·.2)) = pRules (l4.map (·.2)) := by
                  refine ⟨by simp only [List.length_cons]; omega, (cut_suf _ _).trans hs5, by simp only [List.length_append, List.length_cons, List.length_nil]; omega, ?_⟩
                  rw [cut_map hqs, ← hf5, List.map_cons, hst, hq5]
                have hlen6 : (p5 :: l6).length = l6.length + 1 := rfl
                (repeat' (first | apply jA | apply jF | apply jH | apply jI | apply jN | (refine wp_cond rfl (fun hc => ?_) (fun hc => ?_) <;> (try simp only [sB, ne_eq, reduceCtorEq] at hc) <;> (try (exfalso; omega))) | (refine WP.regionC (id := 8) ?_; (refine smove rfl ?_); (refine snilc rfl ?_); (refine sfieldp rfl rfl rfl ?_); (refine sloadp rfl rfl rfl rfl ?_); (refine slenm rfl rfl ?_); (refine su (agtr rfl rfl) ?_); apply jW) | (refine WP.regionC (id := 9) ?_; (refine smove rfl ?_); (refine smove rfl ?_); (refine sc_o [3] rfl rfl (hO) (Lend.o1 rfl rfl (by (exact (renL_pure (by simp [AV.bd, bdL, bdL_append])).symm)) rfl (by simp [AV.bd, bdL, bdL_append]) (by simp [AV.bd, bdL, bdL_append])) ?_; simp only [updN, newO, AObj.ren, renL, AV.ren, apx, ap, if_true, if_false, Nat.reduceLT, Nat.reduceAdd, Nat.reduceSub, sO, intA, boolA, strA, rdA, ren_toks, ren_gruleA]); (refine se_lit (OpP.cons rfl (OpP.nil)) rfl rfl rfl rfl rfl rfl ?_); (refine se_app1 rfl rfl rfl rfl rfl rfl rfl rfl (by omega) ?_); (refine sassign rfl ?_); apply jW)))
                exact ⟨(acc ++ [x], cut (p5 :: l6) r), hnext, ⟨[0, 1, 2, 3, 6], ToR.S rfl (by repeat' (first | exact rt_nil | refine rt_r rfl rfl ?_ | refine rt_t rfl rfl ?_)) (by repeat' (first | exact ro_nil | refine ro_e rfl rfl ?_ | refine ro_p rfl (by first | exact rfl | fail) (by first | exact bdL_map (fun _ => by simp [AV.bd, bdL, bdL_append]) _ | (simp [bdL, bdL_append, AV.bd]; done) | fail) ?_)) rfl (by (rw [hm]; exact rfl)) rfl (by (simp [bdT, AV.bd, bdL, bdL_append]; done)) (by repeat' (first | exact True.intro | exact rfl | refine And.intro ?_ ?_ | exact bdL_map (fun _ => by simp [AV.bd, bdL, bdL_append]) _ | (simp [bdOq, bdL, bdL_append, AV.bd]; done))) (by (rw [hm]; exact Nat.le_of_ble_eq_true rfl))⟩⟩
        · have hX := expect_x [59] (by simp) l2 (s.size : Int) h59
          rw [herr r2 (by have : pTake [59] r2 = .err r2 := by rw [← hm2]; exact pTake_bad (by simp) h59
                          simp only [pFile, hpt1, hq1, this]), ← cut_cut hs1 hr2, hl2]
          (repeat' (first | apply jA | apply jH | apply jT | (refine wpl_region (id := 2) ?_; (refine wpl_step rfl ?_; (refine smove rfl ?_); apply jW; ((refine wpl_step rfl ?_; (refine sc_p rfl rfl (by first | ((repeat' first | exact SubL.nil | refine SubL.cons ?_ ?_ | exact Sub.refl); done) | fail) (by first | (simp [bdL, bdL_append, AV.bd]; done) | fail) (hlex) ?_); apply jW; (refine wpl_step rfl ?_; (refine smove rfl ?_); apply jW; (refine wpl_step rfl ?_; (refine su (alenstr rfl rfl) ?_); apply jW; (refine wpl_step rfl ?_; (refine su (ap_build (RqP.cons (rq_p rfl rfl) (RqP.cons (rq_p rfl rfl) (RqP.nil))) rfl) ?_); apply jW; (refine wpl_step rfl ?_; (refine se_box rfl (by exact ⟨rfl, rfl⟩) ?_); apply jW; (refine wpl_step rfl ?_; (refine sassign rfl ?_); apply jW; (apply jX)))))))))) | (refine wpl_region (id := 3) ?_; (refine wpl_step rfl ?_; (refine smove rfl ?_); apply jW; ((refine wpl_step rfl ?_; (refine sc_o [3] rfl rfl (hE1) (Lend.o1 rfl rfl (by (exact (renL_pure (by simp [AV.bd, bdL, bdL_append])).symm)) rfl (by simp [AV.bd, bdL, bdL_append]) (by simp [AV.bd, bdL, bdL_append])) ?_; simp only [updN, newO, AObj.ren, renL, AV.ren, apx, ap, if_true, if_false, Nat.reduceLT, Nat.reduceAdd, Nat.reduceSub, sO, intA, boolA, strA, rdA, ren_toks]); apply jW; (apply jX))))) | (refine wpl_region (id := 4) ?_; (refine wpl_step rfl ?_; (refine smove rfl ?_); apply jW; ((refine wpl_step rfl ?_; (refine sc_o [3] rfl rfl (hO2) (Lend.o1 rfl rfl (by (exact (renL_pure (by simp [AV.bd, bdL, bdL_append])).symm)) rfl (by simp [AV.bd, bdL, bdL_append]) (by simp [AV.bd, bdL, bdL_append])) ?_; simp only [updN, newO, AObj.ren, renL, AV.ren, apx, ap, if_true, if_false, Nat.reduceLT, Nat.reduceAdd, Nat.reduceSub, sO, intA, boolA, strA, rdA, ren_toks]); apply jW; (refine wpl_step rfl ?_; (refine sfieldp rfl rfl rfl ?_); apply jW; (refine wpl_step rfl ?_; (refine se_store_b rfl rfl rfl rfl ?_); apply jW; (apply jX))))))) | (refine wpl_region (id := 5) ?_; (refine wpl_step rfl ?_; (refine smove rfl ?_); apply jW; ((refine wpl_x [3] rfl rfl (hX) (Lend.S (by first | ((repeat' first | exact RenL.nil | refine RenL.cons rfl ?_); done) | fail) (by first | ((repeat' first | exact LendO.nil | refine LendO.arr rfl (by (exact (renL_pure (by simp [AV.bd, bdL, bdL_append])).symm)) ?_); done) | fail) (by decide) rfl (by simp [AV.bd, bdL, bdL_append]) (by repeat' (first | exact True.intro | refine And.intro ?_ ?_ | simp [AV.bd, bdL, bdL_append]))) ?_))))))
          refine bd_endp (ys' := [.ptr 0 3 0 0, .ptr 1 1 0 0, .ptr 2 1 0 0]) (mid := [boxF (.agg [strA n, .val (.slice none 0 0), .val (.slice none 0 0)]), boxI .i64 0, boxI .i64 0]) [0, 1, 2] [(3, [nilF]), (1, [.val (.int .i64 _)]), (1, [.val (.int .i64 3)])] rfl (Lend.S (by first | ((repeat' first | exact RenL.nil | refine RenL.cons rfl ?_); done) | fail) (by first | ((repeat' first | exact LendO.nil | refine LendO.arr rfl rfl ?_); done) | fail) (by decide) rfl (by simp [AV.bd, bdL, bdL_append]) (by repeat' (first | exact True.intro | refine And.intro ?_ ?_ | simp [AV.bd, bdL, bdL_append]))) (def_panic _ _ _ (fun _ => by simp [strA, AV.bd]) (fun _ => by simp [AV.bd, levelsA]) (fun _ => by simp [AV.bd]) _ _ _) (by simp [nilF, AV.bd, bdL, levelsA]) ?_
          exact ret_many (xs := [nilF, .val (.int .i64 _), .val (.int .i64 3)]) (.cellT rfl rfl rfl rfl (.cellT rfl rfl rfl rfl (.cellT rfl rfl rfl rfl .nil))) (by exact Nat.le_of_ble_eq_true rfl) (by first | ((repeat' first | exact FzL.nil | refine FzL.cons ?_ ?_ | exact Fz.nil | (exact Fz.reflp (by simp [AV.bd, bdL, bdL_append])) | refine Fz.aggL ?_); done) | fail)
    · have hX := expect_x (bl kw0) (by decide) L (s.size : Int) h0
      rw [herr (L.map (·.2)) (by simp only [pFile, pTake_bad (by decide) h0]), cut_self]
      (repeat' (first | apply jA | apply jH | apply jT | (refine wpl_region (id := 2) ?_; (refine wpl_step rfl ?_; (refine smove rfl ?_); apply jW; ((refine wpl_step rfl ?_; (refine sc_p rfl rfl (by first | ((repeat' first | exact SubL.nil | refine SubL.cons ?_ ?_ | exact Sub.refl); done) | fail) (by first | (simp [bdL, bdL_append, AV.bd]; done) | fail) (hlex) ?_); apply jW; (refine wpl_step rfl ?_; (refine smove rfl ?_); apply jW; (refine wpl_step rfl ?_; (refine su (alenstr rfl rfl) ?_); apply jW; (refine wpl_step rfl ?_; (refine su (ap_build (RqP.cons (rq_p rfl rfl) (RqP.cons (rq_p rfl rfl) (RqP.nil))) rfl) ?_); apply jW; (refine wpl_step rfl ?_; (refine se_box rfl (by exact ⟨rfl, rfl⟩) ?_); apply jW; (refine wpl_step rfl ?_; (refine sassign rfl ?_); apply jW; (apply jX)))))))))) | (refine wpl_region (id := 3) ?_; (refine wpl_step rfl ?_; (refine smove rfl ?_); apply jW; ((refine wpl_x [3] rfl rfl (hX) (Lend.S (by first | ((repeat' first | exact RenL.nil | refine RenL.cons rfl ?_); done) | fail) (by first | ((repeat' first | exact LendO.nil | refine LendO.arr rfl (by (exact (renL_pure (by simp [AV.bd, bdL, bdL_append])).symm)) ?_); done) | fail) (by decide) rfl (by simp [AV.bd, bdL, bdL_append]) (by repeat' (first | exact True.intro | refine And.intro ?_ ?_ | simp [AV.bd, bdL, bdL_append]))) ?_))))))
      refine bd_endp (ys' := [.ptr 0 3 0 0, .ptr 1 1 0 0, .ptr 2 1 0 0]) (mid := [boxF (.agg [strA ⟨#[]⟩, .val (.slice none 0 0), .val (.slice none 0 0)]), boxI .i64 0, boxI .i64 0]) [0, 1, 2] [(3, [nilF]), (1, [.val (.int .i64 _)]), (1, [.val (.int .i64 3)])] rfl (Lend.S (by first | ((repeat' first | exact RenL.nil | refine RenL.cons rfl ?_); done) | fail) (by first | ((repeat' first | exact LendO.nil | refine LendO.arr rfl rfl ?_); done) | fail) (by decide) rfl (by simp [AV.bd, bdL, bdL_append]) (by repeat' (first | exact True.intro | refine And.intro ?_ ?_ | simp [AV.bd, bdL, bdL_append]))) (def_panic _ _ _ (fun _ => by simp [strA, AV.bd]) (fun _ => by simp [AV.bd, levelsA]) (fun _ => by simp [AV.bd]) _ _ _) (by simp [nilF, AV.bd, bdL, levelsA]) ?_
      exact ret_many (xs := [nilF, .val (.int .i64 _), .val (.int .i64 3)]) (.cellT rfl rfl rfl rfl (.cellT rfl rfl rfl rfl (.cellT rfl rfl rfl rfl .nil))) (by exact Nat.le_of_ble_eq_true rfl) (by first | ((repeat' first | exact FzL.nil | refine FzL.cons ?_ ?_ | exact Fz.nil | (exact Fz.reflp (by simp [AV.bd, bdL, bdL_append])) | refine Fz.aggL ?_); done) | fail)
end Go.Lg

namespace Go.Lg
open Go.Proofs
set_option maxHeartbeats 8000000
set_option maxRecDepth 20000
theorem lexL_num (n : Nat) : ∀ (l : Tx) (k : Nat), l.length ≤ n → ∀ p, p ∈ lexL l k → p.2.length ≤ l.length ∧ (isNum p.2 = true → p.2.all isD = true) := by
  induction n with
  | zero =>
    intro l k hl p hp
    obtain rfl : l = [] := List.eq_nil_of_length_eq_zero (by omega)
    rw [lexL_nil] at hp; cases hp
  | succ n ih =>
    intro l k hl p hp
    cases l with
    | nil => rw [lexL_nil] at hp; cases hp
    | cons c r =>
      simp only [List.length_cons] at hl ⊢
      rw [lexL_cons] at hp
      split at hp
      · have := ih r (k + 1) (by omega) p hp
        exact ⟨by omega, this.2⟩
      · split at hp
        · have := ih (r.drop (comN r)) _ (by rw [List.length_drop]; omega) p hp
          rw [List.length_drop] at this
          exact ⟨by omega, this.2⟩
        · rcases List.mem_cons.1 hp with rfl | hp
          · refine ⟨by rw [List.length_take]; simp only [List.length_cons]; omega, fun hq => ?_⟩
            simp only at hq ⊢
            have htp := tokN_pos c r
            obtain ⟨m, hm⟩ : ∃ m, tokN (c :: r) = m + 1 := ⟨_, (Nat.sub_add_cancel htp).symm⟩
            rw [hm, List.take_succ_cons] at hq
            have hD : isD c = true := hq
            have hL : isL c = false := by
              cases hq : isL c with
              | false => rfl
              | true =>
                simp only [isL, letB, isD, digB, Bool.or_eq_true, Bool.and_eq_true, decide_eq_true_eq] at hD hq
                omega
            simp only [tokN, hL, hD, Bool.false_eq_true, if_false, if_true]
            rw [Nat.add_comm, List.take_succ_cons, List.all_cons, hD, Bool.true_and]
            rw [List.all_eq_true]
            intro x hx
            have h1 : r.take (r.takeWhile isD).length = r.takeWhile isD := (List.prefix_iff_eq_take.1 (List.takeWhile_prefix isD)).symm
            rw [h1] at hx
            exact List.all_eq_true.1 List.all_takeWhile x hx
          · have htp := tokN_pos c r
            have := ih ((c :: r).drop (tokN (c :: r))) _ (by rw [List.length_drop]; simp only [List.length_cons]; omega) p hp
            rw [List.length_drop] at this
            simp only [List.length_cons] at this
            exact ⟨by omega, this.2⟩
theorem lexL_numW (s : ByteArray) (k : Nat) : NumW (lexL ((bl s).drop k) k) := fun p hp hn => (numV_nn p.2 ((lexL_num _ _ k (Nat.le_refl _) p hp).2 hn)).1
end Go.Lg

namespace Go.Lg
set_option linter.unusedVariables false
def lvT2 (ls : List GLe) : Nat := (ls.map fun x => x.tokens.length).sum
theorem pNames_count : ∀ l : List Tx, (pNames l).1.length + (pNames l).2.length = l.length
  | [] => rfl
  | t :: r => by
    rw [pNames]
    split
    · have := pNames_count r
      simp only [List.length_cons]; omega
    · simp
theorem pLevel_count {a : Int} {l : List Tx} {x : GLe} {q : List Tx} (h : pLevel a l = .ok x q) : x.tokens.length + q.length ≤ l.length := by
  unfold pLevel at h
  cases h1 : pName l with
  | err r => rw [h1] at h; cases h
  | ok n r =>
    rw [h1] at h
    have h2 := pName_lt h1
    have h3 := pNames_count r
    simp only at h
    cases h4 : pTake [59] (pNames r).2 with
    | err r => rw [h4] at h; cases h
    | ok u r2 =>
      rw [h4] at h
      have h5 := pTake_lt h4
      injection h with e1 e2
      subst e1 e2
      simp only [List.length_cons]
      omega
theorem pLevels_count (n : Nat) : ∀ (l : List Tx) (ls : List GLe) (q : List Tx), l.length ≤ n → pLevels l = .ok ls q → lvT2 ls + q.length ≤ l.length := by
  induction n with
  | zero =>
    intro l ls q hl h
    obtain rfl : l = [] := List.eq_nil_of_length_eq_zero (by omega)
    rw [pLevels_nil] at h
    injection h with e1 e2
    subst e1 e2
    exact Nat.le_refl _
  | succ n ih =>
    intro l ls q hl h
    cases l with
    | nil =>
      rw [pLevels_nil] at h
      injection h with e1 e2
      subst e1 e2
      exact Nat.le_refl _
    | cons t r =>
      rw [pLevels_cons] at h
      cases h0 : assocOf t with
      | none =>
        rw [h0] at h
        injection h with e1 e2
        subst e1 e2
        simp [lvT2]
      | some a =>
        rw [h0] at h
        simp only at h
        cases h1 : pLevel a r with
        | err r => rw [h1] at h; cases h
        | ok x q1 =>
          rw [h1] at h
          have h2 := pLevel_count h1
          simp only at h
          simp only [List.length_cons] at hl ⊢
          cases h3 : pLevels q1 with
          | err r => rw [h3] at h; cases h
          | ok ls1 q2 =>
            rw [h3] at h
            have h4 := ih q1 ls1 q2 (by omega) h3
            injection h with e1 e2
            subst e1 e2
            simp only [lvT2, List.map_cons, List.sum_cons] at h4 ⊢
            omega
theorem toks_len (f : GFi) : (toks f f.levels.length).length = lvT2 f.levels := by
  unfold toks lvT2
  rw [List.take_of_length_le (Nat.le_refl _), List.length_flatten, List.map_map]
  rfl
def Sm (N : Nat) (l : List Tx) : Prop := ∀ t, t ∈ l → t.length ≤ N
theorem Sm.suf {N : Nat} {l l' : List Tx} (h : Sm N l) (hs : l' <:+ l) : Sm N l' := fun t ht => h t (hs.subset ht)
theorem szT {N : Nat} (hN : N ≤ 9223372036854775807) {t : Tx} (h : t.length ≤ N) : SzOk (tx t) := by unfold SzOk; rw [tx_size]; omega
theorem pName_fit {N : Nat} (hN : N ≤ 9223372036854775807) {l : List Tx} (h : Sm N l) {s : ByteArray} {r : List Tx} (hp : pName l = .ok s r) : SzOk s := by
  cases l with
  | nil => cases hp
  | cons t q =>
    simp only [pName] at hp
    split at hp
    · injection hp with e1 e2
      subst e1
      exact szT hN (h t (by simp))
    · cases hp
theorem pNames_fit {N : Nat} (hN : N ≤ 9223372036854775807) : ∀ (l : List Tx), Sm N l → ∀ s, s ∈ (pNames l).1 → SzOk s
  | [], _, s, hs => by cases hs
  | t :: r, h, s, hs => by
    rw [pNames] at hs
    split at hs
    · rcases List.mem_cons.1 hs with rfl | hs
      · exact szT hN (h t (by simp))
      · exact pNames_fit hN r (fun t ht => h t (List.mem_cons_of_mem _ ht)) s hs
    · cases hs
theorem fitL_mem {l : List GEx} (h : ∀ x, x ∈ l → x.fit) : GEx.fitL l := by
  induction l with
  | nil => rw [GEx.fitL]; trivial
  | cons x l ih => rw [GEx.fitL]; exact ⟨h x (by simp), ih fun y hy => h y (List.mem_cons_of_mem _ hy)⟩
theorem mk_fit {k : Int} {n : ByteArray} {l : List GEx} (hn : SzOk n) (h : ∀ x, x ∈ l → x.fit) : GEx.fit (.mk k n l) := by
  rw [GEx.fit]; exact ⟨hn, fitL_mem h⟩
theorem sz0 : SzOk ⟨#[]⟩ := by unfold SzOk; decide
theorem seqOf_fit {l : List GEx} (h : ∀ x, x ∈ l → x.fit) : (seqOf l).fit := by
  match l, h with
  | [], _ => exact mk_fit sz0 (fun x hx => by cases hx)
  | [x], h => exact h x (by simp)
  | x :: y :: r, h => exact mk_fit sz0 h
theorem altOf_fit {l : List GEx} (h : ∀ x, x ∈ l → x.fit) : (altOf l).fit := by
  match l, h with
  | [], _ => exact mk_fit sz0 (fun x hx => by cases hx)
  | [x], h => exact h x (by simp)
  | x :: y :: r, h => exact mk_fit sz0 h
theorem sufT_fit : ∀ (x : GEx) (l : List Tx), x.fit → (sufT x l).1.fit
  | x, [], h => by rw [sufT]; exact h
  | x, t :: r, h => by
    have h1 : ∀ k : Int, GEx.fit (.mk k ⟨#[]⟩ [x]) := fun k => mk_fit sz0 (fun y hy => by rw [List.mem_singleton.1 hy]; exact h)
    rw [sufT]
    split
    · exact sufT_fit _ r (h1 5)
    · split
      · exact sufT_fit _ r (h1 6)
      · split
        · exact sufT_fit _ r (h1 4)
        · exact h
theorem par_fit {N : Nat} (hN : N ≤ 9223372036854775807) (n : Nat) : ∀ l : List Tx, l.length ≤ n → Sm N l → (∀ x r, pPrim l = .ok x r → x.fit) ∧ (∀ xs r, pItems l = .ok xs r → ∀ x, x ∈ xs → x.fit) ∧ (∀ xs r, pAlts l = .ok xs r → ∀ x, x ∈ xs → x.fit) := by
  induction n with
  | zero =>
    intro l hl hS
    obtain rfl : l = [] := List.eq_nil_of_length_eq_zero (by omega)
    have h2 : pItems [] = .ok [] [] := by rw [pItems_eq]; rfl
    refine ⟨fun x r h => (by rw [pPrim] at h; cases h), fun xs r h => ?_, fun xs r h => ?_⟩
    · rw [h2] at h; injection h with e1 e2; subst e1; intro x hx; cases hx
    · rw [pAlts_eq, h2] at h; injection h with e1 e2; subst e1
      intro x hx
      rw [List.mem_singleton.1 hx]
      exact seqOf_fit (fun y hy => by cases hy)
  | succ n ih =>
    intro l hl hS
    have hp : ∀ x r, pPrim l = .ok x r → x.fit := by
      intro x r h
      cases l with
      | nil => rw [pPrim] at h; cases h
      | cons t q =>
        rw [pPrim] at h
        split at h
        · injection h with e1 e2; subst e1
          exact mk_fit (szT hN (hS t (by simp))) (fun y hy => by cases hy)
        · split at h
          · have ha := (ih q (by simp at hl; omega) (hS.suf (List.suffix_cons _ _))).2.2
            split at h
            · cases h
            · rename_i es q1 hq1
              have := ha es q1 hq1
              split at h
              · cases h
              · split at h
                · injection h with e1 e2; subst e1; exact altOf_fit this
                · cases h
          · cases h
    have hi : ∀ xs r, pItems l = .ok xs r → ∀ x, x ∈ xs → x.fit := by
      intro xs r h
      rw [pItems_eq] at h
      split at h
      · cases h1 : pPrim l with
        | err q => rw [h1] at h; cases h
        | ok x0 r0 =>
          rw [h1] at h
          simp only at h
          have hlt := pPrim_lt h1
          have hsl := sufT_len x0 r0
          have hsuf := pPrim_suf l
          rw [h1] at hsuf
          have h2 := (ih (sufT x0 r0).2 (by omega) (hS.suf ((sufT_suf x0 r0).trans hsuf))).2.1
          cases h3 : pItems (sufT x0 r0).2 with
          | err q => rw [h3] at h; cases h
          | ok xs1 q1 =>
            rw [h3] at h
            injection h with e1 e2; subst e1
            intro x hx
            rcases List.mem_cons.1 hx with rfl | hx
            · exact sufT_fit _ _ (hp _ _ h1)
            · exact h2 xs1 q1 h3 x hx
      · injection h with e1 e2; subst e1; intro x hx; cases hx
    refine ⟨hp, hi, fun xs r h => ?_⟩
    rw [pAlts_eq] at h
    cases h1 : pItems l with
    | err q => rw [h1] at h; cases h
    | ok xs0 q =>
      rw [h1] at h
      simp only at h
      have h0 : (seqOf xs0).fit := seqOf_fit (hi xs0 q h1)
      cases q with
      | nil => injection h with e1 e2; subst e1; intro x hx; rw [List.mem_singleton.1 hx]; exact h0
      | cons t q =>
        simp only [finA] at h
        split at h
        · have hsuf := pItems_suf l
          rw [h1] at hsuf
          have hle := hsuf.length_le
          simp only [PR.rest, List.length_cons] at hle
          have h2 := (ih q (by omega) (hS.suf ((List.suffix_cons _ _).trans hsuf))).2.2
          cases h3 : pAlts q with
          | err q' => rw [h3] at h; cases h
          | ok es q' =>
            rw [h3] at h
            injection h with e1 e2; subst e1
            intro x hx
            rcases List.mem_append.1 hx with hx | hx
            · rw [List.mem_singleton.1 hx]; exact h0
            · exact h2 es q' h3 x hx
        · injection h with e1 e2; subst e1; intro x hx; rw [List.mem_singleton.1 hx]; exact h0
theorem pAlt_fit {N : Nat} (hN : N ≤ 9223372036854775807) {l : List Tx} (hS : Sm N l) {a : GAl} {r : List Tx} (h : pAlt l = .ok a r) : a.body.fit := by
  unfold pAlt at h
  cases h1 : pItems l with
  | err q => rw [h1] at h; cases h
  | ok xs q =>
    rw [h1] at h
    simp only at h
    have h2 := (par_fit hN _ l (Nat.le_refl _) hS).2.1 xs q h1
    cases h3 : pPrice q with
    | err q' => rw [h3] at h; cases h
    | ok p q' => rw [h3] at h; injection h with e1 e2; subst e1; exact seqOf_fit h2
theorem pAltsR_fit {N : Nat} (hN : N ≤ 9223372036854775807) (n : Nat) : ∀ l : List Tx, l.length ≤ n → Sm N l → ∀ xs r, pAltsR l = .ok xs r → ∀ a, a ∈ xs → a.body.fit := by
  induction n with
  | zero =>
    intro l hl hS xs r h
    rw [pAltsR_eq] at h
    cases h1 : pAlt l with
    | err q => rw [h1] at h; cases h
    | ok a0 q =>
      rw [h1] at h
      have hsuf := (pAlt_suf l).length_le
      rw [h1] at hsuf
      simp only [PR.rest] at hsuf
      obtain rfl : q = [] := List.eq_nil_of_length_eq_zero (by omega)
      injection h with e1 e2; subst e1
      intro a ha
      rw [List.mem_singleton.1 ha]; exact pAlt_fit hN hS h1
  | succ n ih =>
    intro l hl hS xs r h
    rw [pAltsR_eq] at h
    cases h1 : pAlt l with
    | err q => rw [h1] at h; cases h
    | ok a0 q =>
      rw [h1] at h
      simp only at h
      have h0 := pAlt_fit hN hS h1
      have hsuf := pAlt_suf l
      rw [h1] at hsuf
      simp only [PR.rest] at hsuf
      have hle := hsuf.length_le
      cases q with
      | nil => injection h with e1 e2; subst e1; intro a ha; rw [List.mem_singleton.1 ha]; exact h0
      | cons t q =>
        simp only [List.length_cons] at hle
        simp only [finR] at h
        split at h
        · cases h3 : pAltsR q with
          | err q' => rw [h3] at h; cases h
          | ok es q' =>
            rw [h3] at h
            injection h with e1 e2; subst e1
            intro a ha
            rcases List.mem_append.1 ha with ha | ha
            · rw [List.mem_singleton.1 ha]; exact h0
            · exact ih q (by omega) (hS.suf ((List.suffix_cons _ _).trans hsuf)) es q' h3 a ha
        · injection h with e1 e2; subst e1; intro a ha; rw [List.mem_singleton.1 ha]; exact h0
theorem pRule_fit {N : Nat} (hN : N ≤ 9223372036854775807) {l : List Tx} (hS : Sm N l) {x : GRu} {r : List Tx} (h : pRule l = .ok x r) : x.fit := by
  unfold pRule at h
  have h1 := pName_suf l
  cases e1 : pName l with
  | err q => rw [e1] at h; cases h
  | ok n r0 =>
    rw [e1] at h h1
    have hn := pName_fit hN hS e1
    simp only at h
    have h2 := pTake_suf [61] r0
    cases e2 : pTake [61] r0 with
    | err q => rw [e2] at h; cases h
    | ok u r1 =>
      rw [e2] at h h2
      simp only at h
      cases e3 : pAltsR r1 with
      | err q => rw [e3] at h; cases h
      | ok ys r2 =>
        rw [e3] at h
        simp only at h
        have h3 := pAltsR_fit hN _ r1 (Nat.le_refl _) (hS.suf (h2.trans h1)) ys r2 e3
        cases e4 : pTake [59] r2 with
        | err q => rw [e4] at h; cases h
        | ok u r3 => rw [e4] at h; injection h with e5 e6; subst e5; exact ⟨hn, h3⟩
theorem pRules_fit {N : Nat} (hN : N ≤ 9223372036854775807) (n : Nat) : ∀ l : List Tx, l.length ≤ n → Sm N l → ∀ xs r, pRules l = .ok xs r → ∀ x, x ∈ xs → x.fit := by
  induction n with
  | zero =>
    intro l hl hS xs r h
    obtain rfl : l = [] := List.eq_nil_of_length_eq_zero (by omega)
    rw [pRules] at h; injection h with e1 e2; subst e1; intro x hx; cases hx
  | succ n ih =>
    intro l hl hS xs r h
    cases l with
    | nil => rw [pRules] at h; injection h with e1 e2; subst e1; intro x hx; cases hx
    | cons t q =>
      rw [← finU_nil, finU_step] at h
      cases h1 : pRule (t :: q) with
      | err q1 => rw [h1] at h; cases h
      | ok x0 q1 =>
        rw [h1] at h
        have h0 := pRule_fit hN hS h1
        have hlt := pRule_lt h1
        have hsuf := pRule_suf (t :: q)
        rw [h1] at hsuf
        simp only [finU] at h
        cases h3 : pRules q1 with
        | err q' => rw [h3] at h; cases h
        | ok ls q' =>
          rw [h3] at h
          injection h with e1 e2
          subst e1
          intro x hx
          rcases List.mem_append.1 hx with hx | hx
          · rw [show x = x0 by simpa using hx]; exact h0
          · exact ih q1 (by simp at hl hlt; omega) (hS.suf hsuf) ls q' h3 x hx
theorem pLevel_fit {N : Nat} (hN : N ≤ 9223372036854775807) {a : Int} {l : List Tx} (hS : Sm N l) {x : GLe} {r : List Tx} (h : pLevel a l = .ok x r) : x.fit := by
  unfold pLevel at h
  have h1 := pName_suf l
  cases e1 : pName l with
  | err q => rw [e1] at h; cases h
  | ok n r0 =>
    rw [e1] at h h1
    simp only at h
    cases e2 : pTake [59] (pNames r0).2 with
    | err q => rw [e2] at h; cases h
    | ok u r1 =>
      rw [e2] at h
      injection h with e5 e6; subst e5
      intro t ht
      rcases List.mem_cons.1 ht with rfl | ht
      · exact pName_fit hN hS e1
      · exact pNames_fit hN r0 (hS.suf h1) t ht
theorem pLevels_fit {N : Nat} (hN : N ≤ 9223372036854775807) (n : Nat) : ∀ l : List Tx, l.length ≤ n → Sm N l → ∀ xs r, pLevels l = .ok xs r → ∀ x, x ∈ xs → x.fit := by
  induction n with
  | zero =>
    intro l hl hS xs r h
    obtain rfl : l = [] := List.eq_nil_of_length_eq_zero (by omega)
    rw [pLevels_nil] at h; injection h with e1 e2; subst e1; intro x hx; cases hx
  | succ n ih =>
    intro l hl hS xs r h
    cases l with
    | nil => rw [pLevels_nil] at h; injection h with e1 e2; subst e1; intro x hx; cases hx
    | cons t q =>
      rw [pLevels_cons] at h
      cases h0 : assocOf t with
      | none => rw [h0] at h; injection h with e1 e2; subst e1; intro x hx; cases hx
      | some a =>
        rw [h0] at h
        simp only at h
        have hsuf := pLevel_suf a q
        cases h1 : pLevel a q with
        | err r => rw [h1] at h; cases h
        | ok x0 q1 =>
          rw [h1] at h hsuf
          simp only at h
          simp only [PR.rest] at hsuf
          have hle := hsuf.length_le
          simp only [List.length_cons] at hl
          have hf := pLevel_fit hN (hS.suf (List.suffix_cons _ _)) h1
          cases h3 : pLevels q1 with
          | err r => rw [h3] at h; cases h
          | ok ls1 q2 =>
            rw [h3] at h
            injection h with e1 e2
            subst e1
            intro x hx
            rcases List.mem_cons.1 hx with rfl | hx
            · exact hf
            · exact ih q1 (by omega) (hS.suf (hsuf.trans (List.suffix_cons _ _))) ls1 q2 h3 x hx
theorem pFile_fit {N : Nat} (hN : N ≤ 9223372036854775807) {l : List Tx} (hS : Sm N l) {f : GFi} {q : List Tx} (h : pFile l = .ok f q) : f.fit ∧ (toks f f.levels.length).length ≤ l.length := by
  unfold pFile at h
  have h0 := pTake_suf (bl kw0) l
  cases e0 : pTake (bl kw0) l with
  | err q => rw [e0] at h; cases h
  | ok u r =>
    rw [e0] at h h0
    simp only at h
    have h1 := pName_suf r
    cases e1 : pName r with
    | err q => rw [e1] at h; cases h
    | ok s r1 =>
      rw [e1] at h h1
      simp only at h
      have h2 := pTake_suf [59] r1
      cases e2 : pTake [59] r1 with
      | err q => rw [e2] at h; cases h
      | ok u2 r2 =>
        rw [e2] at h h2
        simp only at h
        have hs2 := (h2.trans h1).trans h0
        have h3 := pLevels_suf _ r2 (Nat.le_refl _)
        cases e3 : pLevels r2 with
        | err q => rw [e3] at h; cases h
        | ok ls r3 =>
          rw [e3] at h h3
          simp only at h
          have hc := pLevels_count _ r2 ls r3 (Nat.le_refl _) e3
          have hle := hs2.length_le
          simp only [PR.rest] at hle
          cases e4 : pRules r3 with
          | err q => rw [e4] at h; cases h
          | ok rs q4 =>
            rw [e4] at h
            injection h with e5 e6
            subst e5
            refine ⟨⟨pName_fit hN (hS.suf h0) e1, pLevels_fit hN _ r2 (Nat.le_refl _) (hS.suf hs2) ls r3 e3, pRules_fit hN _ r3 (Nat.le_refl _) (hS.suf (h3.trans hs2)) rs q4 e4⟩, ?_⟩
            rw [toks_len]
            simp only
            omega
end Go.Lg

namespace Go.Lg
open Go.Proofs
def s1 : ByteArray := ⟨#[115, 116, 97, 114, 116, 32, 101, 59, 32, 108, 101, 102, 116, 32, 112, 108, 117, 115, 59, 32, 101, 32, 61, 32, 101, 32, 112, 108, 117, 115, 32, 101, 32, 112, 114, 105, 99, 101, 32, 50, 32, 124, 32, 110, 59]⟩
def s2 : ByteArray := ⟨#[115, 116, 97, 114, 116, 32, 101]⟩
def s3 : ByteArray := ⟨#[115, 116, 97, 114, 116, 32, 101, 59, 32, 101, 32, 61, 32, 59, 59]⟩
def nmE (l : Tx) : GEx := .mk 1 (tx l) []
def f1 : GFi := ⟨tx [101], [⟨1, [tx [112, 108, 117, 115]]⟩], [⟨tx [101], [⟨.mk 2 ⟨#[]⟩ [nmE [101], nmE [112, 108, 117, 115], nmE [101]], 2⟩, ⟨nmE [110], 0⟩]⟩]⟩
set_option maxRecDepth 100000
theorem lex1 : lexT (bl s1) = [bl kw0, [101], [59], bl kw1, [112, 108, 117, 115], [59], [101], [61], [101], [112, 108, 117, 115], [101], bl kw4, [50], [124], [110], [59]] := by decide +kernel
theorem lex3 : lexT (bl s3) = [bl kw0, [101], [59], [101], [61], [59], [59]] := by decide +kernel
theorem lex3L : lexL (bl s3) 0 = [(0, bl kw0), (6, [101]), (7, [59]), (9, [101]), (11, [61]), (13, [59]), (14, [59])] := by decide +kernel
theorem pItems_stop {l : List Tx} (h : (isN l || decide (hd l = [40])) = false) : pItems l = .ok [] l := by rw [pItems_eq, h]; rfl
theorem pItems_nm {t : Tx} {r : List Tx} (h : nmT t = true) (hs : (sufT (.mk 1 (tx t) []) r) = (.mk 1 (tx t) [], r)) : pItems (t :: r) = match pItems r with
    | .err q => .err q
    | .ok xs q => .ok (.mk 1 (tx t) [] :: xs) q := by
  have h1 : isN (t :: r) = true := h
  have h2 : pPrim (t :: r) = .ok (.mk 1 (tx t) []) r := by rw [pPrim, if_pos h]
  rw [pItems_eq, h1, h2]
  simp only [Bool.true_or, if_true, hs]
  cases pItems r <;> rfl
theorem file1 : pFile (lexT (bl s1)) = .ok f1 [] := by
  rw [lex1]
  have ha : pAltsR [[101], [112, 108, 117, 115], [101], bl kw4, [50], [124], [110], [59]] = .ok [⟨.mk 2 ⟨#[]⟩ [nmE [101], nmE [112, 108, 117, 115], nmE [101]], 2⟩, ⟨nmE [110], 0⟩] [[59]] := by
    have h1 : pItems [[101], [112, 108, 117, 115], [101], bl kw4, [50], [124], [110], [59]] = .ok [nmE [101], nmE [112, 108, 117, 115], nmE [101]] [bl kw4, [50], [124], [110], [59]] := by
      rw [pItems_nm (by decide) (by rfl), pItems_nm (by decide) (by rfl), pItems_nm (by decide) (by rfl), pItems_stop (by decide)]
      rfl
    have h2 : pItems [[110], [59]] = .ok [nmE [110]] [[59]] := by
      rw [pItems_nm (by decide) (by rfl), pItems_stop (by decide)]
      rfl
    have h3 : pAlt [[101], [112, 108, 117, 115], [101], bl kw4, [50], [124], [110], [59]] = .ok ⟨.mk 2 ⟨#[]⟩ [nmE [101], nmE [112, 108, 117, 115], nmE [101]], 2⟩ [[124], [110], [59]] := by
      unfold pAlt
      rw [h1]
      rfl
    have h4 : pAlt [[110], [59]] = .ok ⟨nmE [110], 0⟩ [[59]] := by
      unfold pAlt
      rw [h2]
      rfl
    rw [pAltsR_eq, h3]
    simp only
    rw [finR_bar, h4]
    rfl
  have hr : pRules [[101], [61], [101], [112, 108, 117, 115], [101], bl kw4, [50], [124], [110], [59]] = .ok [⟨tx [101], [⟨.mk 2 ⟨#[]⟩ [nmE [101], nmE [112, 108, 117, 115], nmE [101]], 2⟩, ⟨nmE [110], 0⟩]⟩] [] := by
    rw [← finU_nil, finU_step]
    have : pRule ([101] :: [[61], [101], [112, 108, 117, 115], [101], bl kw4, [50], [124], [110], [59]]) = .ok ⟨tx [101], [⟨.mk 2 ⟨#[]⟩ [nmE [101], nmE [112, 108, 117, 115], nmE [101]], 2⟩, ⟨nmE [110], 0⟩]⟩ [] := by
      have h1 : nmT [101] = true := by decide
      unfold pRule
      simp only [pName, h1, if_true, pTake]
      rw [ha]
      rfl
    rw [this]
    exact finU_stop _
  have hl : pLevels [bl kw1, [112, 108, 117, 115], [59], [101], [61], [101], [112, 108, 117, 115], [101], bl kw4, [50], [124], [110], [59]] = .ok [⟨1, [tx [112, 108, 117, 115]]⟩] [[101], [61], [101], [112, 108, 117, 115], [101], bl kw4, [50], [124], [110], [59]] := by
    rw [pLevels_cons]
    have h1 : assocOf (bl kw1) = some 1 := by decide
    have h2 : pLevel 1 [[112, 108, 117, 115], [59], [101], [61], [101], [112, 108, 117, 115], [101], bl kw4, [50], [124], [110], [59]] = .ok ⟨1, [tx [112, 108, 117, 115]]⟩ [[101], [61], [101], [112, 108, 117, 115], [101], bl kw4, [50], [124], [110], [59]] := by kernel_rfl
    have h3 : assocOf [101] = none := by decide
    rw [h1]
    simp only
    rw [h2]
    simp only
    rw [pLevels_cons, h3]
  have h1 : nmT [101] = true := by decide
  unfold pFile
  simp only [pTake, pName, h1, if_true]
  rw [hl]
  simp only
  rw [hr]
  rfl
theorem file2 : pFile (lexT (bl s2)) = .err [] := by kernel_rfl
theorem file3 : pFile (lexT (bl s3)) = .err [[59]] := by
  rw [lex3]
  have hr : pRules [[101], [61], [59], [59]] = .err [[59]] := by
    rw [← finU_nil, finU_step]
    have h1 : nmT [101] = true := by decide
    have h2 : pAlt [[59], [59]] = .ok ⟨seqOf [], 0⟩ [[59], [59]] := by
      unfold pAlt
      rw [pItems_stop (by decide)]
      rfl
    have h3 : pAltsR [[59], [59]] = .ok [⟨seqOf [], 0⟩] [[59], [59]] := by
      rw [pAltsR_eq, h2]
      exact finR_stop (by decide)
    have h4 : pRule ([101] :: [[61], [59], [59]]) = .ok ⟨tx [101], [⟨seqOf [], 0⟩]⟩ [[59]] := by
      unfold pRule
      simp only [pName, h1, if_true, pTake]
      rw [h3]
      rfl
    rw [h4]
    simp only
    rw [finU_step]
    rfl
  have hl : pLevels [[101], [61], [59], [59]] = .ok [] [[101], [61], [59], [59]] := by
    have h3 : assocOf [101] = none := by decide
    rw [pLevels_cons, h3]
  have h1 : nmT [101] = true := by decide
  unfold pFile
  simp only [pTake, pName, h1, if_true]
  rw [hl]
  simp only
  rw [hr]
theorem valid1 : validF f1 = true := by decide +kernel
end Go.Lg

namespace Go.Lg
open Go.Proofs
set_option linter.unusedSimpArgs false
set_option linter.unusedVariables false
attribute [local irreducible] Ap Rq asemC WP RunD Ret Gq thenA inBlockA bodyQ noGotoA RqL RqP OpP
set_option maxHeartbeats 8000000
set_option maxRecDepth 20000
theorem lexL_len (n : Nat) : ∀ (l : Tx) (k : Nat), l.length ≤ n → (lexL l k).length ≤ l.length := by
  induction n with
  | zero =>
    intro l k hl
    obtain rfl : l = [] := List.eq_nil_of_length_eq_zero (by omega)
    rw [lexL_nil]; exact Nat.le_refl _
  | succ n ih =>
    intro l k hl
    cases l with
    | nil => rw [lexL_nil]; exact Nat.le_refl _
    | cons c r =>
      simp only [List.length_cons] at hl ⊢
      rw [lexL_cons]
      split
      · have := ih r (k + 1) (by omega); omega
      · split
        · have := ih (r.drop (comN r)) (k + 1 + comN r) (by rw [List.length_drop]; omega)
          rw [List.length_drop] at this; omega
        · have htp := tokN_pos c r
          have := ih ((c :: r).drop (tokN (c :: r))) (k + tokN (c :: r)) (by rw [List.length_drop]; simp only [List.length_cons]; omega)
          rw [List.length_drop] at this
          simp only [List.length_cons] at this ⊢
          omega
theorem lexT_sm (s : ByteArray) : Sm s.size (lexT (bl s)) := by
  intro t ht
  obtain ⟨p, hp, rfl⟩ := List.mem_map.1 ht
  have := (lexL_num _ (bl s) 0 (Nat.le_refl _) p hp).1
  rwa [bl_len] at this
theorem file_bounds (s : ByteArray) (hs : s.size ≤ 100000) (f : GFi) (q : List Tx) (h : pFile (lexT (bl s)) = .ok f q) : (toks f f.levels.length).length ≤ 1000000 ∧ f.fit := by
  have h1 := pFile_fit (N := s.size) (by omega) (lexT_sm s) h
  have h2 : (lexT (bl s)).length ≤ (bl s).length := by
    unfold lexT
    rw [List.length_map]
    exact lexL_len _ _ _ (Nat.le_refl _)
  rw [bl_len] at h2
  exact ⟨by omega, h1.1⟩
theorem parseP_fn (s : ByteArray) (hs : s.size ≤ 100000) : Fn Tryd.prog 5 [strA s] (parseA (parseR s)) :=
  parse_fn s hs (by have := lexL_len _ (bl s) 0 (Nat.le_refl _); rw [bl_len] at this; omega) (by have := lexL_numW s 0; rwa [List.drop_zero] at this) fun f q h => (file_bounds s hs f q h).1
theorem pr1 : parseR s1 = (f1, 0, 0) := by unfold parseR; rw [file1]; simp only [valid1, if_true]
theorem pr2 : parseR s2 = (noF, 7, 3) := by
  unfold parseR; rw [file2]
  simp only [cut, List.length_nil, Nat.sub_zero, List.drop_length, pos]
  rfl
theorem pr3 : parseR s3 = (noF, 14, 3) := by
  unfold parseR; rw [file3]
  simp only
  rw [lex3L]
  rfl
theorem awake17_fn : Fn Tryd.prog 4 [] (boolA true) := by
  have h1 := parseP_fn s1 (by decide)
  have h2 := parseP_fn s2 (by decide)
  have h3 := parseP_fn s3 (by decide)
  rw [pr1] at h1
  rw [pr2] at h2
  rw [pr3] at h3
  simp only [parseA] at h1 h2 h3
  refine Fn.intro rfl (by kernel_rfl) Tryd.func4 rfl rfl Tryd.ntmps4 (by exact Nat.le_of_ble_eq_true rfl) ?_; intro Γ hm
  (repeat' (first | apply jA | apply jH | apply jI | apply jK | apply jM | apply jS | (refine wp_cond rfl (fun hc => ?_) (fun hc => ?_) <;> (try simp only [sB, ne_eq, reduceCtorEq] at hc) <;> (try (exfalso; omega))) | (refine WP.regionC ?_; (refine sassign rfl ?_); apply jW) | (refine WP.regionC (id := 1) ?_; (refine sc_p rfl rfl (by first | ((repeat' first | exact SubL.nil | refine SubL.cons ?_ ?_ | exact Sub.refl); done) | fail) (by first | (simp [bdL, bdL_append, AV.bd]; done) | fail) (h1) ?_); (refine smove rfl ?_); (refine su (aextract rfl rfl) ?_); (refine su (aextract rfl rfl) ?_); (refine su (aextract rfl rfl) ?_); (refine se_alloc rfl ?_); (refine se_store_b rfl rfl rfl rfl ?_); (refine sassign rfl ?_); (refine sassign rfl ?_); apply jW) | (refine WP.regionC (id := 2) ?_; (refine sc_p rfl rfl (by first | ((repeat' first | exact SubL.nil | refine SubL.cons ?_ ?_ | exact Sub.refl); done) | fail) (by first | (simp [bdL, bdL_append, AV.bd]; done) | fail) (h2) ?_); (refine smove rfl ?_); (refine su (aextract rfl rfl) ?_); (refine su (aextract rfl rfl) ?_); (refine su (aextract rfl rfl) ?_); (refine se_alloc rfl ?_); (refine se_store_b rfl rfl rfl rfl ?_); (refine sassign rfl ?_); (refine sassign rfl ?_); apply jW) | (refine WP.regionC (id := 3) ?_; (refine sc_p rfl rfl (by first | ((repeat' first | exact SubL.nil | refine SubL.cons ?_ ?_ | exact Sub.refl); done) | fail) (by first | (simp [bdL, bdL_append, AV.bd]; done) | fail) (h3) ?_); (refine smove rfl ?_); (refine su (aextract rfl rfl) ?_); (refine su (aextract rfl rfl) ?_); (refine su (aextract rfl rfl) ?_); (refine se_alloc rfl ?_); (refine se_store_b rfl rfl rfl rfl ?_); (refine sassign rfl ?_); (refine sassign rfl ?_); apply jW) | (refine WP.regionC (id := 4) ?_; (refine smove rfl ?_); (refine su (aneq rfl rfl) ?_); (refine smove rfl ?_); (refine sg (gq_vf rfl rfl) (fun he => ap_field_p (rq_p rfl rfl) rfl rfl) ?_); (refine sg (gq_vf rfl rfl) (fun he => ap_load_p (rq_c rfl rfl) rfl rfl rfl) ?_); (refine sg (gq_vf rfl rfl) (fun he => ap_len_m rfl (rq_c rfl rfl)) ?_); (refine sg (gq_vf rfl rfl) (fun he => ap_neq (rq_c rfl rfl) (rq_p rfl rfl)) ?_); (refine su (ap_or (rq_p rfl rfl) (rq_c rfl rfl)) ?_); (refine smove rfl ?_); (refine sg (gq_vf rfl rfl) (fun he => ap_field_p (rq_p rfl rfl) rfl rfl) ?_); (refine sg (gq_vf rfl rfl) (fun he => ap_load_p (rq_c rfl rfl) rfl rfl rfl) ?_); (refine sg (gq_vf rfl rfl) (fun he => ap_len_m rfl (rq_c rfl rfl)) ?_); (refine sg (gq_vf rfl rfl) (fun he => ap_neq (rq_c rfl rfl) (rq_p rfl rfl)) ?_); (refine su (ap_or (rq_p rfl rfl) (rq_c rfl rfl)) ?_); (refine smove rfl ?_); (refine sg (gq_vf rfl rfl) (fun he => ap_field_p (rq_p rfl rfl) rfl rfl) ?_); (refine sg (gq_vf rfl rfl) (fun he => ap_load_p (rq_c rfl rfl) rfl rfl rfl) ?_); (refine sg (gq_vf rfl rfl) (fun he => ap_idx_n (rq_c rfl rfl) (rq_p rfl rfl) (by (try simp only [sH, id, sB, ne_eq, reduceCtorEq] at he); (simp only [sL] <;> omega))) ?_); (refine sg (gq_vf rfl rfl) (fun he => ap_field_i (rq_c rfl rfl) rfl rfl) ?_); (refine sg (gq_vf rfl rfl) (fun he => ap_load_i (rq_c rfl rfl) rfl) ?_); (refine sg (gq_vf rfl rfl) (fun he => ap_len_m rfl (rq_c rfl rfl)) ?_); (refine sg (gq_vf rfl rfl) (fun he => ap_neq (rq_c rfl rfl) (rq_p rfl rfl)) ?_); (refine su (ap_or (rq_p rfl rfl) (rq_c rfl rfl)) ?_); apply jW) | (refine WP.regionC (id := 6) ?_; (refine sfieldp rfl rfl rfl ?_); (refine sloadp rfl rfl rfl rfl ?_); (refine sidxn rfl rfl (by (simp only [sL] <;> omega)) ?_); (refine su (afieldi rfl rfl rfl) ?_); (refine su (aloadi rfl rfl) ?_); (refine sidxn rfl rfl (by (simp only [sL] <;> omega)) ?_); (refine su (afieldi rfl rfl rfl) ?_); (refine su (aloadi rfl rfl) ?_); (refine seql rfl rfl ?_); (refine smove rfl ?_); (refine sg (gq_vt rfl rfl) (fun he => ap_field_p (rq_p rfl rfl) rfl rfl) ?_); (refine sg (gq_vt rfl rfl) (fun he => ap_load_p (rq_c rfl rfl) rfl rfl rfl) ?_); (refine sg (gq_vt rfl rfl) (fun he => ap_idx_n (rq_c rfl rfl) (rq_p rfl rfl) (by (try simp only [sH, id, sB, ne_eq, reduceCtorEq] at he); (simp only [sL] <;> omega))) ?_); (refine sg (gq_vt rfl rfl) (fun he => ap_field_i (rq_c rfl rfl) rfl rfl) ?_); (refine sg (gq_vt rfl rfl) (fun he => ap_load_i (rq_c rfl rfl) rfl) ?_); (refine sg (gq_vt rfl rfl) (fun he => ap_idx_n (rq_c rfl rfl) (rq_p rfl rfl) (by (try simp only [sH, id, sB, ne_eq, reduceCtorEq] at he); (simp only [sL] <;> omega))) ?_); (refine sg (gq_vt rfl rfl) (fun he => ap_field_i (rq_c rfl rfl) rfl rfl) ?_); (refine sg (gq_vt rfl rfl) (fun he => ap_field_i (rq_c rfl rfl) rfl rfl) ?_); (refine sg (gq_vt rfl rfl) (fun he => ap_load_i (rq_c rfl rfl) rfl) ?_); (refine sg (gq_vt rfl rfl) (fun he => ap_eqs (rq_c rfl rfl) (rq_p rfl rfl)) ?_); (refine su (ap_and (rq_p rfl rfl) (rq_c rfl rfl)) ?_); (refine smove rfl ?_); (refine sg (gq_vt rfl rfl) (fun he => ap_move (rq_p rfl rfl)) ?_); (refine sg (gq_vt rfl rfl) (fun he => ap_eql (rq_c rfl rfl) (rq_p rfl rfl)) ?_); (refine su (ap_and (rq_p rfl rfl) (rq_c rfl rfl)) ?_); (refine smove rfl ?_); (refine sg (gq_vt rfl rfl) (fun he => ap_move (rq_p rfl rfl)) ?_); (refine sg (gq_vt rfl rfl) (fun he => ap_eql (rq_c rfl rfl) (rq_p rfl rfl)) ?_); (refine su (ap_and (rq_p rfl rfl) (rq_c rfl rfl)) ?_); (refine smove rfl ?_); (refine sg (gq_vt rfl rfl) (fun he => ap_move (rq_p rfl rfl)) ?_); (refine sg (gq_vt rfl rfl) (fun he => ap_eql (rq_c rfl rfl) (rq_p rfl rfl)) ?_); (refine su (ap_and (rq_p rfl rfl) (rq_c rfl rfl)) ?_); (refine smove rfl ?_); (refine sg (gq_vt rfl rfl) (fun he => ap_move (rq_p rfl rfl)) ?_); (refine sg (gq_vt rfl rfl) (fun he => ap_eql (rq_c rfl rfl) (rq_p rfl rfl)) ?_); (refine su (ap_and (rq_p rfl rfl) (rq_c rfl rfl)) ?_); (refine sassign rfl ?_); apply jW) | exact ret_eq rfl rfl rfl | refine ret_b rfl ?_))
  exfalso
  revert hc
  decide
end Go.Lg

namespace Go.Lg
def encT (t : List UInt8) (b : Bool) : List UInt8 := if b then [40] ++ t ++ [41] else t
def reqP (k : Int) (x : GEx) : Bool := if k = 2 then decide (x.kind = 2) || decide (x.kind = 3) else if k = 3 then decide (x.kind = 3) || decide (x.kind = 2) && decide ((x.kids.length : Int) = 0) else !decide (x.kind = 1)
def sepT (k : Int) : List UInt8 := if k = 2 then [32] else if k = 3 then [32, 124, 32] else []
def tailT (k : Int) (n : ByteArray) : List UInt8 := if k = 1 then bl n else if k = 4 then [63] else if k = 5 then [42] else if k = 6 then [43] else []
mutual
def exT : GEx → List UInt8
  | .mk k n l => kidsT k false l ++ tailT k n
def kidsT (k : Int) (more : Bool) : List GEx → List UInt8
  | [] => []
  | e :: l => ((if more then sepT k else []) ++ encT (exT e) (reqP k e)) ++ kidsT k true l
end
theorem exT_eq (e : GEx) : exT e = kidsT e.kind false e.kids ++ tailT e.kind e.name := by cases e; rw [exT]; rfl
def wPrice : List UInt8 := [32, 112, 114, 105, 99, 101, 32]
def prT (p : Int) : List UInt8 := if p = 0 then [] else wPrice ++ Lib.itoa p
def bodT (e : GEx) : List UInt8 := if ¬ e.kind = 2 ∨ 0 < (e.kids.length : Int) then [32] ++ encT (exT e) (decide (e.kind = 3)) else []
def altT (a : GAl) : List UInt8 := bodT a.body ++ prT a.price
def wordT (a : Int) : ByteArray := if a = 1 then kw1 else if a = 2 then kw2 else kw3
def wStartT : List UInt8 := [115, 116, 97, 114, 116, 32]
def endT : List UInt8 := [59, 10]
def lvT (l : GLe) : List UInt8 := bl (wordT l.assoc) ++ ([32] ++ (Lib.join (l.tokens.map bl) [32] ++ endT))
def altsT (l : List GAl) : Nat → List UInt8
  | 0 => []
  | i + 1 => altsT l i ++ ((if i = 0 then [] else [32, 124]) ++ altT (nth l i))
def ruT (r : GRu) : List UInt8 := (bl r.name ++ [32, 61]) ++ (altsT r.alts r.alts.length ++ endT)
def fm0 (f : GFi) : List UInt8 := wStartT ++ (bl f.start ++ endT)
def fmL (f : GFi) (j : Nat) : List UInt8 := fm0 f ++ ((f.levels.take j).map lvT).flatten
def fmR (f : GFi) (k : Nat) : List UInt8 := fmL f f.levels.length ++ ((f.rules.take k).map ruT).flatten
def fmtF (f : GFi) : List UInt8 := fmR f f.rules.length
def oneT (k : Int) (i : Nat) (e : GEx) : List UInt8 := (if i = 0 then [] else sepT k) ++ encT (exT e) (reqP k e)
theorem kidsT_snoc (k : Int) (e : GEx) : ∀ (m : Bool) (l : List GEx), kidsT k m (l ++ [e]) = kidsT k m l ++ ((if m || !l.isEmpty then sepT k else []) ++ encT (exT e) (reqP k e))
  | m, [] => by cases m <;> simp [kidsT]
  | m, x :: l => by rw [List.cons_append, kidsT, kidsT, kidsT_snoc k e true l]; simp
theorem kidsT_take {k : Int} {l : List GEx} {i : Nat} (hi : i < l.length) : kidsT k false (l.take (i + 1)) = kidsT k false (l.take i) ++ oneT k i (nth l i) := by
  rw [take_succ_nth hi, kidsT_snoc, oneT]
  cases i with
  | zero => simp
  | succ i => cases l with
    | nil => simp at hi
    | cons x l => simp
theorem kidsT_mono (k : Int) (l : List GEx) {i : Nat} (hi : i ≤ l.length) : (kidsT k false (l.take i)).length ≤ (kidsT k false l).length := by
  induction h : l.length - i generalizing i with
  | zero => rw [List.take_of_length_le (by omega)]; exact Nat.le_refl _
  | succ n ih =>
    have h1 := ih (i := i + 1) (by omega) (by omega)
    rw [kidsT_take (by omega), List.length_append] at h1
    omega
theorem itoa_len {p : Int} (h0 : 0 ≤ p) (h1 : p ≤ 1000) : (Lib.itoa p).length ≤ 21 := Lib.itoa_length_le p (by omega) (by omega)
theorem fmL_succ {f : GFi} {j : Nat} (h : j < f.levels.length) : fmL f (j + 1) = fmL f j ++ lvT (nth f.levels j) := by
  simp only [fmL, take_succ_nth h, List.map_append, List.flatten_append, List.append_assoc]; simp
theorem fmR_succ {f : GFi} {j : Nat} (h : j < f.rules.length) : fmR f (j + 1) = fmR f j ++ ruT (nth f.rules j) := by
  simp only [fmR, take_succ_nth h, List.map_append, List.flatten_append, List.append_assoc]; simp
theorem fmL_mono (f : GFi) {k : Nat} (hk : k ≤ f.levels.length) : (fmL f k).length ≤ (fmL f f.levels.length).length := by
  induction h : f.levels.length - k generalizing k with
  | zero => obtain rfl : k = f.levels.length := by omega
            exact Nat.le_refl _
  | succ n ih =>
    have := ih (k := k + 1) (by omega) (by omega)
    rw [fmL_succ (by omega), List.length_append] at this
    omega
theorem fmR_mono (f : GFi) {k : Nat} (hk : k ≤ f.rules.length) : (fmR f k).length ≤ (fmtF f).length := by
  unfold fmtF
  induction h : f.rules.length - k generalizing k with
  | zero => obtain rfl : k = f.rules.length := by omega
            exact Nat.le_refl _
  | succ n ih =>
    have := ih (k := k + 1) (by omega) (by omega)
    rw [fmR_succ (by omega), List.length_append] at this
    omega
theorem altsT_mono (l : List GAl) {k : Nat} (hk : k ≤ l.length) : (altsT l k).length ≤ (altsT l l.length).length := by
  induction h : l.length - k generalizing k with
  | zero => obtain rfl : k = l.length := by omega
            exact Nat.le_refl _
  | succ n ih =>
    have := ih (k := k + 1) (by omega) (by omega)
    rw [altsT, List.length_append] at this
    omega
theorem fmL0_le (f : GFi) : (fmL f f.levels.length).length ≤ (fmtF f).length := by
  have := fmR_mono f (Nat.zero_le _)
  simpa [fmR] using this
theorem spaced_ge : ∀ l : List ByteArray, l.length ≤ (spaced l).length
  | [] => Nat.zero_le _
  | x :: l => by
    have := spaced_ge l
    simp only [spaced, List.map_cons, List.flatten_cons, List.length_append, List.length_cons] at this ⊢
    omega
theorem join_ge (l : List ByteArray) : l.length ≤ (Lib.join (l.map bl) [32]).length + 1 := by
  cases l with
  | nil => exact Nat.zero_le _
  | cons x l =>
    have h1 := lineT_cons x l
    have h2 := congrArg List.length h1
    have h3 := spaced_ge l
    simp only [lineT, List.length_append, List.length_cons, List.length_nil] at h2 ⊢
    omega
theorem word_size (a : Int) : (wordT a).size ≤ 5 := by
  unfold wordT; split
  · decide
  · split <;> decide
theorem okE_iff {e : GEx} {d : Int} (h : okE e d = true) : okK e.kind e.name e.kids.length = true ∧ ∀ k, k ∈ e.kids → okE k (d - 1) = true := by
  rw [okE_eq] at h
  simp only [Bool.and_eq_true, List.all_eq_true] at h
  exact ⟨h.1.2, h.2⟩
theorem join_spaced {l : List ByteArray} (h : l ≠ []) : [32] ++ Lib.join (l.map bl) [32] = spaced l := by
  cases l with
  | nil => exact absurd rfl h
  | cons x l =>
    have h1 := lineT_cons x l
    have h2 : Lib.join ((x :: l).map bl) [32] = bl x ++ spaced l := by
      have := List.append_cancel_right (show Lib.join ((x :: l).map bl) [32] ++ [10] = (bl x ++ spaced l) ++ [10] from h1)
      exact this
    rw [h2]
    simp [spaced]
theorem lvT_eq {l : GLe} (h : l.tokens ≠ []) : lvT l = bl (wordT l.assoc) ++ spaced l.tokens ++ endT := by
  rw [← join_spaced h, lvT]; simp only [List.append_assoc]
end Go.Lg

namespace Go.Lg
open Go.Proofs
set_option linter.unusedSimpArgs false
set_option linter.unusedVariables false
attribute [local irreducible] Ap Rq asemC WP RunD Ret Gq thenA inBlockA bodyQ noGotoA RqL RqP OpP
set_option maxHeartbeats 8000000
set_option maxRecDepth 20000
attribute [local simp] AV.cells altA
mutual
def nodesR : GEx → Int → Int
  | .mk _ _ l, most => nodesG l most 1
def nodesG : List GEx → Int → Int → Int
  | [], _, n => n
  | e :: l, most, n => if n ≤ most then nodesG l most (n + nodesR e (most - n)) else n
end
def szL (f : GFi) (m : Int) : Nat → Int
  | 0 => 0
  | j + 1 => if szL f m j ≤ m then szL f m j + 1 + ((nth f.levels j).tokens.length : Int) else szL f m j
def szA (r : GRu) (m n : Int) : Nat → Int
  | 0 => n
  | k + 1 => if szA r m n k ≤ m then szA r m n k + 1 + nodesR (nth r.alts k).body (m - szA r m n k) else szA r m n k
def szR (f : GFi) (m : Int) : Nat → Int
  | 0 => szL f m f.levels.length
  | i + 1 => if szR f m i ≤ m then szA (nth f.rules i) m (szR f m i + 1) (nth f.rules i).alts.length else szR f m i
end Go.Lg

namespace Go.Lg
open Go.Proofs
set_option linter.unusedSimpArgs false
set_option linter.unusedVariables false
attribute [local irreducible] Ap Rq asemC WP RunD Ret Gq thenA inBlockA bodyQ noGotoA RqL RqP OpP
set_option maxHeartbeats 8000000
theorem altOk_iff {a : GAl} : altOk a = true ↔ (0 ≤ a.price ∧ a.price ≤ 1000) ∧ okE a.body 30 = true := by
  simp only [altOk, Bool.and_eq_true, decide_eq_true_eq]
theorem rnames_all (f : GFi) : rnames f f.rules.length = f.rules.map (·.name) := by simp [rnames]
theorem distOk_iff {l : List ByteArray} : distOk l = true ↔ (∀ x, x ∈ l → gnOk x = true) ∧ l.Nodup := by
  simp only [distOk, Bool.and_eq_true, decide_eq_true_eq, List.all_eq_true]
end Go.Lg

namespace Go.Lg
mutual
def cntE : GEx → Nat
  | .mk _ _ l => 1 + cntL l
def cntL : List GEx → Nat
  | [] => 0
  | e :: l => cntE e + cntL l
end
theorem cntE_eq (e : GEx) : cntE e = 1 + cntL e.kids := by cases e; rw [cntE]; rfl
theorem gnOk_size {s : ByteArray} (h : gnOk s = true) : s.size ≤ 24 := by
  simp only [gnOk, Bool.and_eq_true, decide_eq_true_eq] at h; exact h.1.1.2
theorem tail_len {k : Int} {n : ByteArray} {m : Nat} (h : okK k n m = true) : (tailT k n).length ≤ 24 := by
  unfold tailT
  split
  · rename_i h1
    subst h1
    simp [okK] at h
    rw [bl_len]; exact gnOk_size h.1
  · split
    · simp
    · split
      · simp
      · split <;> simp
theorem encT_le (t : List UInt8) (r : Bool) : (encT t r).length ≤ t.length + 2 := by cases r <;> simp [encT]
theorem sep_le (k : Int) : (sepT k).length ≤ 3 := by unfold sepT; split; · simp
                                                     split <;> simp
theorem kids_len (k : Int) : ∀ (l : List GEx) (m : Bool), (∀ x, x ∈ l → (exT x).length + 16 ≤ 40 * cntE x) → (kidsT k m l).length ≤ 40 * cntL l
  | [], m, _ => by simp [kidsT]
  | e :: l, m, h => by
    have h1 := h e (by simp)
    have h2 := kids_len k l true fun x hx => h x (by simp [hx])
    have h3 := encT_le (exT e) (reqP k e)
    have h4 := sep_le k
    rw [kidsT, cntL, List.length_append, List.length_append]
    have h5 : (if m = true then sepT k else []).length ≤ 3 := by split; · exact h4
                                                                 · simp
    omega
theorem exT_len (e : GEx) : ∀ d : Int, okE e d = true → (exT e).length + 16 ≤ 40 * cntE e := by
  induction e using GEx.ind with
  | h e ih =>
    intro d h
    obtain ⟨h1, h2⟩ := okE_iff h
    have h3 := kids_len e.kind e.kids false fun x hx => ih x hx _ (h2 x hx)
    have h4 := tail_len h1
    rw [exT_eq, List.length_append, cntE_eq]
    omega
theorem altT_len {a : GAl} (h : altOk a = true) : (altT a).length ≤ 40 * (cntE a.body + 1) := by
  obtain ⟨⟨hp0, hp1⟩, hE⟩ := altOk_iff.1 h
  have h1 := exT_len _ _ hE
  have h2 := itoa_len hp0 hp1
  have h3 := encT_le (exT a.body) (decide (a.body.kind = 3))
  rw [altT, List.length_append]
  have h4 : (bodT a.body).length ≤ (exT a.body).length + 3 := by
    unfold bodT; split
    · simp; omega
    · simp
  have h5 : (prT a.price).length ≤ 28 := by
    unfold prT; split
    · simp
    · simp [wPrice]; omega
  omega
structure FVal (f : GFi) : Prop where
  rule : ∀ r, r ∈ f.rules → gruleOk r = true
  level : ∀ l, l ∈ f.levels → glevelOk l = true
  rn : ∀ x, x ∈ rnames f f.rules.length → gnOk x = true
  rd : (rnames f f.rules.length).Nodup
  tk : ∀ x, x ∈ toks f f.levels.length → gnOk x = true
  td : (toks f f.levels.length).Nodup
  st : gnOk f.start = true
theorem FVal.of {f : GFi} (h : validF f = true) : FVal f := by
  simp only [validF, Bool.and_eq_true, List.all_eq_true, decide_eq_true_eq] at h
  have h1 := distOk_iff.1 h.1.1.2
  have h2 := distOk_iff.1 h.1.2
  refine ⟨h.1.1.1.1.2, h.1.1.1.2, h1.1, h1.2, h2.1, h2.2, ?_⟩
  have h3 := h.2
  rw [List.any_eq_true] at h3
  obtain ⟨x, hx, he⟩ := h3
  rw [decide_eq_true_eq] at he
  rw [he]; exact h1.1 x hx
theorem FVal.alt {f : GFi} (h : FVal f) : ∀ r, r ∈ f.rules → ∀ a, a ∈ r.alts → altOk a = true := by
  intro r hr a ha
  have := h.rule r hr
  simp only [gruleOk, Bool.and_eq_true, List.all_eq_true] at this
  exact this.2 a ha
theorem FVal.name {f : GFi} (h : FVal f) : ∀ r, r ∈ f.rules → r.name.size ≤ 24 := by
  intro r hr
  refine gnOk_size (h.rn _ ?_)
  rw [rnames_all]; exact List.mem_map.2 ⟨r, hr, rfl⟩
theorem FVal.tok {f : GFi} (h : FVal f) : ∀ l, l ∈ f.levels → ∀ t, t ∈ l.tokens → t.size ≤ 24 := by
  intro l hl t ht
  refine gnOk_size (h.tk _ ?_)
  simp only [toks, List.take_of_length_le (Nat.le_refl _), List.mem_flatten, List.mem_map]
  exact ⟨_, ⟨l, hl, rfl⟩, ht⟩
theorem lv_len {f : GFi} (h : FVal f) {l : GLe} (hl : l ∈ f.levels) : (lvT l).length ≤ 50 * (1 + l.tokens.length) := by
  have hne : l.tokens ≠ [] := by
    have := (glevel_iff.1 (h.level l hl)).2
    intro e; rw [e] at this; exact this rfl
  have h1 := spaced_len (l := l.tokens) (c := 24) (h.tok l hl)
  have h2 := word_size l.assoc
  rw [lvT_eq hne, List.length_append, List.length_append, bl_len]
  have h3 : endT.length = 2 := rfl
  omega
theorem prices {f : GFi} (hv : validF f = true) : ∀ r, r ∈ f.rules → ∀ a, a ∈ r.alts → 0 ≤ a.price ∧ a.price ≤ 1000 :=
  fun r hr a ha => (altOk_iff.1 ((FVal.of hv).alt r hr a ha)).1
end Go.Lg

namespace Go.Lg
theorem lexL_off (l : Tx) : ∀ a b : Nat, lexL l a = (lexL l b).map (fun p => (p.1 + a - b, p.2)) ∧ ∀ p, p ∈ lexL l b → b ≤ p.1 := by
  induction hn : l.length using Nat.strongRecOn generalizing l with
  | _ n ih =>
    subst hn
    intro a b
    cases l with
    | nil => simp [lexL_nil]
    | cons c r =>
      rw [lexL_cons c r a, lexL_cons c r b]
      split
      · obtain ⟨h1, h2⟩ := ih r.length (by simp) r rfl (a + 1) (b + 1)
        refine ⟨by rw [h1]; exact List.map_congr_left fun p hp => by have := h2 p hp; simp; omega, fun p hp => by have := h2 p hp; omega⟩
      · split
        · obtain ⟨h1, h2⟩ := ih (r.drop (comN r)).length (by simp; omega) _ rfl (a + 1 + comN r) (b + 1 + comN r)
          refine ⟨by rw [h1]; exact List.map_congr_left fun p hp => by have := h2 p hp; simp; omega, fun p hp => by have := h2 p hp; omega⟩
        · have hp := tokN_pos c r
          obtain ⟨h1, h2⟩ := ih ((c :: r).drop (tokN (c :: r))).length (by rw [List.length_drop, List.length_cons]; omega) _ rfl (a + tokN (c :: r)) (b + tokN (c :: r))
          constructor
          · rw [h1, List.map_cons]
            congr 1
            · simp
            · exact List.map_congr_left fun p hp => by have := h2 p hp; simp; omega
          · intro p hp
            rcases List.mem_cons.1 hp with rfl | hp
            · exact Nat.le_refl _
            · have := h2 p hp; omega
theorem lexL_tx (l : Tx) (a : Nat) : (lexL l a).map (·.2) = lexT l := by
  rw [lexT, (lexL_off l a 0).1, List.map_map]; rfl
theorem lexT_nil : lexT [] = [] := by rw [lexT, lexL_nil]; rfl
theorem lexT_cons (c : UInt8) (r : Tx) : lexT (c :: r) = if isB c then lexT r else if c = 35 then lexT (r.drop (comN r)) else (c :: r).take (tokN (c :: r)) :: lexT ((c :: r).drop (tokN (c :: r))) := by
  rw [lexT, lexL_cons]
  split
  · rw [lexL_tx]
  · split
    · rw [lexL_tx]
    · rw [List.map_cons, lexL_tx]
def nW : Tx → Bool
  | [] => true
  | c :: _ => !isW c
theorem tw_all {p : UInt8 → Bool} {a r : Tx} (ha : a.all p = true) (hr : (match r with | [] => true | c :: _ => !p c) = true) : (a ++ r).takeWhile p = a := by
  induction a with
  | nil =>
    cases r with
    | nil => rfl
    | cons c r => simp only [Bool.not_eq_true'] at hr; simp [hr]
  | cons x a ih =>
    simp only [List.all_cons, Bool.and_eq_true] at ha
    rw [List.cons_append, List.takeWhile_cons, if_pos ha.1, ih ha.2]
def wordOk : Tx → Bool
  | [] => false
  | c :: r => isL c && r.all isW
def numOk : Tx → Bool
  | [] => false
  | c :: r => isD c && r.all isD
theorem isL_nB {c : UInt8} (h : isL c = true) : isB c = false ∧ c ≠ 35 := by
  constructor
  · cases hb : isB c with
    | false => rfl
    | true =>
      simp only [isB, Bool.or_eq_true, decide_eq_true_eq] at hb
      rcases hb with ((rfl | rfl) | rfl) | rfl <;> exact absurd h (by decide)
  · rintro rfl; exact absurd h (by decide)
theorem isD_nB {c : UInt8} (h : isD c = true) : isB c = false ∧ c ≠ 35 ∧ isL c = false := by
  refine ⟨?_, ?_, ?_⟩
  · cases hb : isB c with
    | false => rfl
    | true =>
      simp only [isB, Bool.or_eq_true, decide_eq_true_eq] at hb
      rcases hb with ((rfl | rfl) | rfl) | rfl <;> exact absurd h (by decide)
  · rintro rfl; exact absurd h (by decide)
  · simp only [isD, digB, isL, letB, Bool.and_eq_true, decide_eq_true_eq] at h ⊢
    simp; omega
theorem lexT_word {t r : Tx} (ht : wordOk t = true) (hr : nW r = true) : lexT (t ++ r) = t :: lexT r := by
  cases t with
  | nil => cases ht
  | cons c t =>
    simp only [wordOk, Bool.and_eq_true] at ht
    obtain ⟨h1, h2⟩ := isL_nB ht.1
    have hn : tokN (c :: (t ++ r)) = t.length + 1 := by
      simp only [tokN, ht.1, if_true]
      rw [tw_all ht.2 hr]; omega
    rw [List.cons_append, lexT_cons, if_neg (by simp [h1]), if_neg h2, hn]
    simp
theorem lexT_num {t r : Tx} (ht : numOk t = true) (hr : nW r = true) : lexT (t ++ r) = t :: lexT r := by
  cases t with
  | nil => cases ht
  | cons c t =>
    simp only [numOk, Bool.and_eq_true] at ht
    obtain ⟨h1, h2, h3⟩ := isD_nB ht.1
    have hn : tokN (c :: (t ++ r)) = t.length + 1 := by
      simp only [tokN, ht.1, h3, if_true, Bool.false_eq_true, if_false]
      rw [tw_all ht.2 (by
        cases r with
        | nil => rfl
        | cons x r => simp only [nW, Bool.not_eq_true', isW, Bool.or_eq_false_iff] at hr; simp [hr.1.2])]; omega
    rw [List.cons_append, lexT_cons, if_neg (by simp [h1]), if_neg h2, hn]
    simp
theorem lexT_blank {c : UInt8} (h : isB c = true) (r : Tx) : lexT (c :: r) = lexT r := by rw [lexT_cons, if_pos h]
def isS (c : UInt8) : Bool := !(isB c) && !(isL c) && !(isD c) && !decide (c = 35)
theorem lexT_sym {c : UInt8} (h : isS c = true) (r : Tx) : lexT (c :: r) = [c] :: lexT r := by
  simp only [isS, Bool.and_eq_true, Bool.not_eq_true', decide_eq_false_iff_not] at h
  rw [lexT_cons, if_neg (by simp [h.1.1.1]), if_neg h.2]
  have : tokN (c :: r) = 1 := by simp [tokN, h.1.1.2, h.1.2]
  rw [this]; rfl
theorem nW_sym {c : UInt8} (h : isS c = true) (h2 : c ≠ 95) (r : Tx) : nW (c :: r) = true := by
  simp only [isS, Bool.and_eq_true, Bool.not_eq_true', decide_eq_false_iff_not] at h
  simp [nW, isW, h.1.1.2, h.1.2, h2]
theorem nW_blank {c : UInt8} (h : isB c = true) (r : Tx) : nW (c :: r) = true := by
  simp only [isB, Bool.or_eq_true, decide_eq_true_eq] at h
  rcases h with ((rfl | rfl) | rfl) | rfl <;> simp only [nW] <;> decide
theorem gn_word {s : ByteArray} (h : gnOk s = true) : wordOk (bl s) = true ∧ nmT (bl s) = true := by
  simp only [gnOk, Bool.and_eq_true, List.all_eq_true, List.mem_range, decide_eq_true_eq, Bool.not_eq_true'] at h
  obtain ⟨⟨⟨h1, _⟩, h2⟩, h3⟩ := h
  have hk : (kwT.any fun k => decide (bl s = k)) = false := by
    rw [kwT, List.any_map]
    rw [← h3]
    congr 1
    funext x
    simp only [Function.comp]
    rw [Bool.eq_iff_iff]
    simp only [decide_eq_true_eq]
    exact ⟨fun e => ba_ext e, fun e => by rw [e]⟩
  rw [← bl_len] at h1 h2
  have h2 : ∀ i, i < (bl s).length → ((isL ((bl s).getD i 0) || (!decide (i = 0) && (isD ((bl s).getD i 0) || decide (((bl s).getD i 0) = 95)))) = true) := by
    intro i hi
    have := h2 i hi
    simp only [gnCh, bAt_bl, Bool.or_eq_true, Bool.and_eq_true, decide_eq_true_eq] at this
    simp only [isL, isD, Bool.or_eq_true, Bool.and_eq_true, decide_eq_true_eq]
    rcases this with h | ⟨h0, h | h⟩
    · exact .inl h
    · exact .inr ⟨h0, .inl h⟩
    · exact .inr ⟨h0, .inr (UInt8.toNat_inj.1 (by have h2 : ((((bl s).getD i 0).toNat : Nat) : Int) = ((95 : UInt8).toNat : Int) := of_decide_eq_true h; omega))⟩
  obtain ⟨l, hl⟩ : ∃ l, bl s = l := ⟨_, rfl⟩
  rw [hl] at h1 h2 hk ⊢
  cases l with
  | nil => simp at h1
  | cons c r =>
    have h0 := h2 0 (by simp)
    simp only [decide_true, Bool.not_true, Bool.false_and, Bool.or_false, List.getD_cons_zero] at h0
    refine ⟨?_, by simp only [nmT, hk]; simpa using h0⟩
    simp only [wordOk, Bool.and_eq_true, List.all_eq_true]
    refine ⟨h0, fun x hx => ?_⟩
    obtain ⟨i, hi⟩ := List.getElem?_of_mem hx
    have := h2 (i + 1) (by simpa using (List.getElem?_eq_some_iff.1 hi).1)
    have hg : (c :: r).getD (i + 1) 0 = x := by simp [List.getD, hi]
    rw [hg] at this
    have hne : ¬ i + 1 = 0 := by omega
    simp only [hne, decide_false, Bool.not_false, Bool.true_and] at this
    simp only [isW, Bool.or_eq_true] at this ⊢
    rcases this with h | h | h
    · exact .inl (.inl h)
    · exact .inl (.inr h)
    · exact .inr h
theorem dec_num (u : Nat) : numOk (Lib.decDigits u) = true := by
  have key : ∀ k, k < 10 → isD (UInt8.ofNat (48 + k)) = true := by decide
  have hall : ∀ u, (Lib.decDigits u).all isD = true ∧ Lib.decDigits u ≠ [] := by
    intro u
    induction u using Nat.strongRecOn with
    | _ u ih =>
      rw [Lib.decDigits]
      split
      · rename_i h; exact ⟨by simp only [List.all_cons, List.all_nil, key u h, Bool.and_true], by simp⟩
      · rename_i h
        obtain ⟨h1, h2⟩ := ih (u / 10) (by omega)
        exact ⟨by simp only [List.all_append, h1, List.all_cons, List.all_nil, key (u % 10) (by omega), Bool.and_true], by simp⟩
  obtain ⟨h1, h2⟩ := hall u
  clear hall
  generalize Lib.decDigits u = l at *
  cases l with
  | nil => exact absurd rfl h2
  | cons c r => simpa [numOk] using h1
end Go.Lg

namespace Go.Lg
theorem pPrim_nm {t : Tx} {r : List Tx} (h : nmT t = true) : pPrim (t :: r) = .ok (.mk 1 (tx t) []) r := by rw [pPrim, if_pos h]
theorem nm40 : nmT [40] = false := by decide
theorem pPrim_grp {r q : List Tx} {es : List GEx} (h : pAlts r = .ok es ([41] :: q)) : pPrim ([40] :: r) = .ok (altOf es) q := by
  rw [pPrim, if_neg (by simp [nm40]), if_pos rfl, h]
  simp
def nI (l : List Tx) : Bool := !(isN l || decide (hd l = [40]))
def nS (l : List Tx) : Bool := !(decide (hd l = [42]) || decide (hd l = [43]) || decide (hd l = [63]))
theorem sufT_none {x : GEx} {l : List Tx} (h : nS l = true) : sufT x l = (x, l) := by
  cases l with
  | nil => rfl
  | cons t r =>
    simp only [nS, hd, List.headD_cons, Bool.not_eq_true', Bool.or_eq_false_iff] at h
    rw [sufT, if_neg (of_decide_eq_false h.1.1), if_neg (of_decide_eq_false h.1.2), if_neg (of_decide_eq_false h.2)]
theorem pItems_none {l : List Tx} (h : nI l = true) : pItems l = .ok [] l := by
  simp only [nI, Bool.not_eq_true'] at h
  rw [pItems, if_neg (by simp [h])]
structure Item (l : List Tx) (x : GEx) (r : List Tx) : Prop where
  starts : (isN l || decide (hd l = [40])) = true
  prim : ∃ y q, pPrim l = .ok y q ∧ sufT y q = (x, r)
  less : r.length < l.length
theorem Item.cons {l r q : List Tx} {x : GEx} {xs : List GEx} (h : Item l x r) (hx : pItems r = .ok xs q) : pItems l = .ok (x :: xs) q := by
  obtain ⟨y, q', h1, h2⟩ := h.prim
  have h3 : (sufT y q').2 = r := by rw [h2]
  rw [pItems, if_pos h.starts, h1]
  simp only
  rw [dif_pos (by rw [h3]; exact h.less)]
  simp only [h2, hx]
def encK (t : List Tx) (b : Bool) : List Tx := if b then [40] :: (t ++ [[41]]) else t
def sepK (k : Int) : List Tx := if k = 3 then [[124]] else []
def tailK (k : Int) (n : ByteArray) : List Tx := if k = 1 then [bl n] else if k = 4 then [[63]] else if k = 5 then [[42]] else if k = 6 then [[43]] else []
mutual
def tkE : GEx → List Tx
  | .mk k n l => tkL k false l ++ tailK k n
def tkL (k : Int) (more : Bool) : List GEx → List Tx
  | [] => []
  | e :: l => ((if more then sepK k else []) ++ encK (tkE e) (reqP k e)) ++ tkL k true l
end
theorem tkE_eq (e : GEx) : tkE e = tkL e.kind false e.kids ++ tailK e.kind e.name := by cases e; rw [tkE]; rfl
theorem lexT_enc {t : Tx} {k : List Tx} (h : ∀ r : Tx, nW r = true → lexT (t ++ r) = k ++ lexT r) (b : Bool) {r : Tx} (hr : nW r = true) : lexT (encT t b ++ r) = encK k b ++ lexT r := by
  cases b with
  | false => exact h r hr
  | true =>
    simp only [encT, encK, if_true, List.append_assoc, List.cons_append, List.nil_append]
    rw [lexT_sym (by decide), h _ (nW_sym (c := 41) (by decide) (by decide) r), lexT_sym (by decide)]
theorem nW_sep {k : Int} (h : k = 2 ∨ k = 3) (r : Tx) : nW (sepT k ++ r) = true := by
  rcases h with rfl | rfl
  · exact nW_blank (c := 32) (by decide) _
  · exact nW_blank (c := 32) (by decide) _
theorem lexT_sep (k : Int) (r : Tx) : lexT (sepT k ++ r) = sepK k ++ lexT r := by
  unfold sepT sepK
  split
  · rename_i h; subst h
    rw [if_neg (by decide)]
    exact lexT_blank (c := 32) (by decide) r
  · split
    · simp only [List.cons_append, List.nil_append]
      rw [lexT_blank (c := 32) (by decide), lexT_sym (c := 124) (by decide), lexT_blank (c := 32) (by decide)]
    · rfl
theorem nW_kids {k : Int} (hk : k = 2 ∨ k = 3) (l : List GEx) {r : Tx} (hr : nW r = true) : nW (kidsT k true l ++ r) = true := by
  cases l with
  | nil => rw [kidsT]; exact hr
  | cons e l => rw [kidsT, if_pos rfl, List.append_assoc, List.append_assoc]; exact nW_sep hk _
theorem lexT_kids {k : Int} (hk : k = 2 ∨ k = 3) : ∀ (l : List GEx) (m : Bool), (∀ x, x ∈ l → ∀ r : Tx, nW r = true → lexT (exT x ++ r) = tkE x ++ lexT r) → ∀ r : Tx, nW r = true → lexT (kidsT k m l ++ r) = tkL k m l ++ lexT r
  | [], m, _, r, _ => by rw [kidsT, tkL]; rfl
  | e :: l, m, h, r, hr => by
    rw [kidsT, tkL]
    have ih := lexT_kids hk l true (fun x hx => h x (by simp [hx])) r hr
    have he := lexT_enc (h e (by simp)) (reqP k e) (nW_kids hk l hr)
    rw [List.append_assoc, List.append_assoc]
    cases m with
    | false => simp only [Bool.false_eq_true, if_false, List.nil_append]; rw [he, ih, List.append_assoc]
    | true => simp only [if_true]; rw [lexT_sep, he, ih]; simp only [List.append_assoc]
theorem lexT_ex (e : GEx) : ∀ d : Int, okE e d = true → ∀ r : Tx, nW r = true → lexT (exT e ++ r) = tkE e ++ lexT r := by
  induction e using GEx.ind with
  | h e ih =>
    intro d hd r hr
    obtain ⟨h1, h2⟩ := okE_iff hd
    rw [exT_eq, tkE_eq]
    have hkids : ∀ x, x ∈ e.kids → ∀ r : Tx, nW r = true → lexT (exT x ++ r) = tkE x ++ lexT r := fun x hx => ih x hx _ (h2 x hx)
    by_cases hk : e.kind = 2 ∨ e.kind = 3
    · have t1 : tailT e.kind e.name = [] := by rcases hk with h | h <;> simp [tailT, h]
      have t2 : tailK e.kind e.name = [] := by rcases hk with h | h <;> simp [tailK, h]
      rw [t1, t2, List.append_nil, List.append_nil]
      exact lexT_kids hk _ _ hkids r hr
    · by_cases hk1 : e.kind = 1
      · rw [hk1] at h1
        simp only [okK, decide_true, Bool.true_and, Bool.not_true, Bool.false_and, Bool.or_false, Bool.and_eq_true, decide_eq_true_eq] at h1
        have h0 : e.kids = [] := List.eq_nil_of_length_eq_zero h1.2
        rw [h0, hk1, kidsT, tkL]
        simp only [tailT, tailK, if_true, List.nil_append]
        exact lexT_word (gn_word h1.1).1 hr
      · simp only [okK, hk1, decide_false, Bool.false_and, Bool.not_false, Bool.true_and, Bool.false_or, Bool.and_eq_true, Bool.or_eq_true, decide_eq_true_eq, Bool.not_eq_true', decide_eq_false_iff_not] at h1
        have h3 : e.kids.length = 1 ∧ (e.kind = 4 ∨ e.kind = 5 ∨ e.kind = 6) := by omega
        obtain ⟨x, hx⟩ := List.length_eq_one_iff.1 h3.1
        rw [hx] at hkids ⊢
        rw [kidsT, kidsT, tkL, tkL]
        simp only [Bool.false_eq_true, if_false, List.nil_append, List.append_nil, List.append_assoc]
        have hs : ∀ c : UInt8, isS c = true → c ≠ 95 → lexT (encT (exT x) (reqP e.kind x) ++ ([c] ++ r)) = encK (tkE x) (reqP e.kind x) ++ ([[c]] ++ lexT r) := fun c h1 h2 => by
          rw [show ([c] ++ r : Tx) = c :: r from rfl, lexT_enc (hkids x (by simp)) _ (nW_sym h1 h2 r), lexT_sym h1]; rfl
        rcases h3.2 with hk | hk | hk
        · rw [show tailT e.kind e.name = [63] by simp [tailT, hk], show tailK e.kind e.name = [[63]] by simp [tailK, hk]]; exact hs 63 (by decide) (by decide)
        · rw [show tailT e.kind e.name = [42] by simp [tailT, hk], show tailK e.kind e.name = [[42]] by simp [tailK, hk]]; exact hs 42 (by decide) (by decide)
        · rw [show tailT e.kind e.name = [43] by simp [tailT, hk], show tailK e.kind e.name = [[43]] by simp [tailK, hk]]; exact hs 43 (by decide) (by decide)
theorem nI_41 (r : List Tx) : nI ([41] :: r) = true := by simp [nI, isN, hd]; decide
theorem nI_124 (r : List Tx) : nI ([124] :: r) = true := by simp [nI, isN, hd]; decide
theorem nS_41 (r : List Tx) : nS ([41] :: r) = true := by simp [nS, hd]
theorem nS_124 (r : List Tx) : nS ([124] :: r) = true := by simp [nS, hd]
theorem isN_nS {l : List Tx} (h : (isN l || decide (hd l = [40])) = true) : nS l = true := by
  cases l with
  | nil => rfl
  | cons t r =>
    simp only [nS, hd, List.headD_cons, isN, Bool.or_eq_true, Bool.not_eq_true', Bool.or_eq_false_iff] at h ⊢
    rcases h with h | h
    · refine ⟨⟨?_, ?_⟩, ?_⟩ <;> refine decide_eq_false ?_ <;> rintro rfl <;> exact absurd h (by decide)
    · rw [of_decide_eq_true h]; exact ⟨⟨rfl, rfl⟩, rfl⟩
theorem pAlts_of {l q : List Tx} {xs : List GEx} (h : pItems l = .ok xs q) (hq : hd q ≠ [124]) : pAlts l = .ok [seqOf xs] q := by
  rw [pAlts, h]
  cases q with
  | nil => rfl
  | cons t q => have hq' : ¬ t = [124] := hq; simp only; rw [if_neg hq']
theorem pAlts_bar {l q q' : List Tx} {xs : List GEx} {es : List GEx} (h : pItems l = .ok xs ([124] :: q)) (hl : q.length < l.length) (h2 : pAlts q = .ok es q') : pAlts l = .ok (seqOf xs :: es) q' := by
  rw [pAlts, h]
  simp only [if_true, dif_pos hl, h2]
structure Reads (e : GEx) : Prop where
  items : e.kind ≠ 3 → ∀ r, nI r = true → nS r = true → ∃ xs, pItems (tkE e ++ r) = .ok xs r ∧ seqOf xs = e
  alts : ∀ r, nI r = true → nS r = true → hd r ≠ [124] → ∃ es, pAlts (tkE e ++ r) = .ok es r ∧ altOf es = e
  start : ∀ b : Bool, (b = true ∨ (e.kind ≠ 2 ∧ e.kind ≠ 3)) → ∀ r, (isN (encK (tkE e) b ++ r) || decide (hd (encK (tkE e) b ++ r) = [40])) = true
  prim : ∀ b : Bool, (b = true ∨ e.kind = 1) → ∀ q, pPrim (encK (tkE e) b ++ q) = .ok e q
  item : ∀ b : Bool, (b = true ∨ (e.kind ≠ 2 ∧ e.kind ≠ 3)) → ∀ r, nS r = true → Item (encK (tkE e) b ++ r) e r
theorem req2 (x : GEx) : reqP 2 x = true ∨ (x.kind ≠ 2 ∧ x.kind ≠ 3) := by
  by_cases h2 : x.kind = 2
  · exact .inl (by simp [reqP, h2])
  · by_cases h3 : x.kind = 3
    · exact .inl (by simp [reqP, h3])
    · exact .inr ⟨h2, h3⟩
theorem reads (e : GEx) : ∀ d : Int, okE e d = true → Reads e := by
  induction e using GEx.ind with
  | h e ih =>
    intro d hd'
    obtain ⟨h1, h2⟩ := okE_iff hd'
    have hr : ∀ x, x ∈ e.kids → Reads x := fun x hx => ih x hx _ (h2 x hx)
    have grpP : (∀ r, nI r = true → nS r = true → hd r ≠ [124] → ∃ es, pAlts (tkE e ++ r) = .ok es r ∧ altOf es = e) → ∀ r, pPrim (encK (tkE e) true ++ r) = .ok e r := fun ha r => by
      obtain ⟨es, g1, g2⟩ := ha ([41] :: r) (nI_41 r) (nS_41 r) (by simp [hd])
      have e0 : encK (tkE e) true ++ r = [40] :: (tkE e ++ [41] :: r) := by simp [encK]
      rw [e0, pPrim_grp g1, g2]
    have grp : (∀ r, nI r = true → nS r = true → hd r ≠ [124] → ∃ es, pAlts (tkE e ++ r) = .ok es r ∧ altOf es = e) → ∀ r, nS r = true → Item (encK (tkE e) true ++ r) e r := fun ha r hs =>
      ⟨by simp [encK, hd], ⟨e, r, grpP ha r, sufT_none hs⟩, by simp [encK]; omega⟩
    have seq : ∀ (l : List GEx) (m : Bool), (∀ x, x ∈ l → Reads x) → ∀ r, nI r = true → nS r = true → pItems (tkL 2 m l ++ r) = .ok l r := by
      intro l
      induction l with
      | nil => intro m _ r h1 _; rw [tkL]; exact pItems_none h1
      | cons x l ihl =>
        intro m hx r hI hS
        have e0 : tkL 2 m (x :: l) ++ r = encK (tkE x) (reqP 2 x) ++ (tkL 2 true l ++ r) := by
          rw [tkL]; cases m <;> simp [sepK]
        rw [e0]
        have hreq := req2 x
        have hrest := ihl true (fun y hy => hx y (by simp [hy])) r hI hS
        refine Item.cons ((hx x (by simp)).item _ hreq _ ?_) hrest
        cases l with
        | nil => rw [tkL]; exact hS
        | cons y l =>
          have e1 : tkL 2 true (y :: l) ++ r = encK (tkE y) (reqP 2 y) ++ (tkL 2 true l ++ r) := by
            rw [tkL]; simp [sepK]
          rw [e1]
          exact isN_nS ((hx y (by simp)).start (reqP 2 y) (req2 y) _)
    have alt : ∀ (l : List GEx) (m : Bool), l ≠ [] → (∀ x, x ∈ l → Reads x) → ∀ r, nI r = true → nS r = true → hd r ≠ [124] → pAlts (tkL 3 false l ++ r) = .ok l r := by
      intro l
      induction l with
      | nil => intro m h; exact absurd rfl h
      | cons x l ihl =>
        intro m _ hx r hI hS hB
        have one : ∀ q, nI q = true → nS q = true → ∃ xs, pItems (encK (tkE x) (reqP 3 x) ++ q) = .ok xs q ∧ seqOf xs = x := by
          intro q hI hS
          cases hb : reqP 3 x with
          | true =>
            refine ⟨[x], Item.cons ((hx x (by simp)).item true (.inl rfl) q hS) (pItems_none hI), rfl⟩
          | false =>
            have h3 : x.kind ≠ 3 := by rintro h; simp [reqP, h] at hb
            exact (hx x (by simp)).items h3 q hI hS
        cases l with
        | nil =>
          have e0 : tkL 3 false [x] ++ r = encK (tkE x) (reqP 3 x) ++ r := by rw [tkL, tkL]; simp
          rw [e0]
          obtain ⟨xs, g1, g2⟩ := one r hI hS
          rw [pAlts_of g1 hB, g2]
        | cons y l =>
          have e0 : tkL 3 false (x :: y :: l) ++ r = encK (tkE x) (reqP 3 x) ++ ([124] :: (tkL 3 false (y :: l) ++ r)) := by
            rw [tkL, tkL, tkL]; simp [sepK]
          rw [e0]
          obtain ⟨xs, g1, g2⟩ := one _ (nI_124 (tkL 3 false (y :: l) ++ r)) (nS_124 _)
          rw [pAlts_bar g1 (by simp; omega) (ihl m (by simp) (fun z hz => hx z (by simp [hz])) r hI hS hB), g2]
    by_cases hk2 : e.kind = 2
    · have e0 : tkE e = tkL 2 false e.kids := by rw [tkE_eq, hk2]; simp [tailK]
      have hs : seqOf e.kids = e := by
        have hne : e.kids.length ≠ 1 := by
          rw [hk2] at h1; simp [okK] at h1; exact h1.2
        have hnm : e.name = ⟨#[]⟩ := by rw [hk2] at h1; simp [okK] at h1; exact h1.1
        have : seqOf e.kids = .mk 2 ⟨#[]⟩ e.kids := by
          unfold seqOf; split
          · rename_i x hx; rw [hx] at hne; exact absurd rfl hne
          · rfl
        rw [this]; exact GEx.ext' hk2.symm hnm.symm rfl
      have hi : ∀ r, nI r = true → nS r = true → ∃ xs, pItems (tkE e ++ r) = .ok xs r ∧ seqOf xs = e := fun r a b => ⟨_, by rw [e0]; exact seq _ _ hr r a b, hs⟩
      have ha : ∀ r, nI r = true → nS r = true → hd r ≠ [124] → ∃ es, pAlts (tkE e ++ r) = .ok es r ∧ altOf es = e := fun r a b c => by
        obtain ⟨xs, g1, g2⟩ := hi r a b
        exact ⟨_, pAlts_of g1 c, g2⟩
      refine ⟨fun _ => hi, ha, fun b hb r => ?_, fun b hb q => ?_, fun b hb r hS => ?_⟩
      · rcases hb with rfl | hb
        · simp [encK, hd]
        · exact absurd hk2 hb.1
      · rcases hb with rfl | hb
        · exact grpP ha q
        · omega
      · rcases hb with rfl | hb
        · exact grp ha r hS
        · exact absurd hk2 hb.1
    · by_cases hk3 : e.kind = 3
      · have e0 : tkE e = tkL 3 false e.kids := by rw [tkE_eq, hk3]; simp [tailK]
        have hl2 : 2 ≤ e.kids.length := by rw [hk3] at h1; simp [okK] at h1; exact h1.2
        have hnm : e.name = ⟨#[]⟩ := by rw [hk3] at h1; simp [okK] at h1; exact h1.1
        have hs : altOf e.kids = e := by
          have : altOf e.kids = .mk 3 ⟨#[]⟩ e.kids := by
            unfold altOf; split
            · rename_i x hx; rw [hx] at hl2; simp at hl2
            · rfl
          rw [this]; exact GEx.ext' hk3.symm hnm.symm rfl
        have ha : ∀ r, nI r = true → nS r = true → hd r ≠ [124] → ∃ es, pAlts (tkE e ++ r) = .ok es r ∧ altOf es = e := fun r a b c =>
          ⟨_, by rw [e0]; exact alt _ false (by rintro h; rw [h] at hl2; simp at hl2) hr r a b c, hs⟩
        refine ⟨fun h => absurd hk3 h, ha, fun b hb r => ?_, fun b hb q => ?_, fun b hb r hS => ?_⟩
        · rcases hb with rfl | hb
          · simp [encK, hd]
          · exact absurd hk3 hb.2
        · rcases hb with rfl | hb
          · exact grpP ha q
          · omega
        · rcases hb with rfl | hb
          · exact grp ha r hS
          · exact absurd hk3 hb.2
      · -- one item
        have hst : ∀ r, (isN (tkE e ++ r) || decide (hd (tkE e ++ r) = [40])) = true := by
          intro r
          by_cases hk1 : e.kind = 1
          · rw [hk1] at h1
            simp only [okK, decide_true, Bool.true_and, Bool.not_true, Bool.false_and, Bool.or_false, Bool.and_eq_true, decide_eq_true_eq] at h1
            have h0 : e.kids = [] := List.eq_nil_of_length_eq_zero h1.2
            rw [tkE_eq, h0, hk1, tkL]
            simp [tailK, isN, (gn_word h1.1).2]
          · obtain ⟨x, hx⟩ : ∃ x, e.kids = [x] := by
              simp only [okK, hk1, hk2, hk3, decide_false, Bool.false_and, Bool.not_false, Bool.true_and, Bool.false_or, Bool.and_eq_true, Bool.or_eq_true, decide_eq_true_eq] at h1
              exact List.length_eq_one_iff.1 (by omega)
            rw [tkE_eq, hx, tkL, tkL]
            simp only [Bool.false_eq_true, if_false, List.nil_append, List.append_nil, List.append_assoc]
            refine (hr x (by simp [hx])).start _ ?_ _
            by_cases hx1 : x.kind = 1
            · exact .inr ⟨by omega, by omega⟩
            · exact .inl (by simp [reqP, hk2, hk3, hx1])
        have hpr1 : e.kind = 1 → ∀ q, pPrim (tkE e ++ q) = .ok e q ∧ (tkE e).length = 1 := by
          intro hk1 q
          rw [hk1] at h1
          simp only [okK, decide_true, Bool.true_and, Bool.not_true, Bool.false_and, Bool.or_false, Bool.and_eq_true, decide_eq_true_eq] at h1
          have h0 : e.kids = [] := List.eq_nil_of_length_eq_zero h1.2
          have e0 : tkE e = [bl e.name] := by rw [tkE_eq, h0, hk1, tkL]; simp [tailK]
          refine ⟨?_, by rw [e0]; rfl⟩
          rw [e0, List.singleton_append, pPrim_nm (gn_word h1.1).2, tx_bl]
          congr 1
          exact GEx.ext' hk1.symm rfl h0.symm
        have hit : ∀ r, nS r = true → Item (tkE e ++ r) e r := by
          intro r hS
          by_cases hk1 : e.kind = 1
          · obtain ⟨g1, g2⟩ := hpr1 hk1 r
            exact ⟨hst r, ⟨e, r, g1, sufT_none hS⟩, by rw [List.length_append, g2]; omega⟩
          · obtain ⟨x, hx, hk⟩ : ∃ x, e.kids = [x] ∧ (e.kind = 4 ∨ e.kind = 5 ∨ e.kind = 6) := by
              simp only [okK, hk1, hk2, hk3, decide_false, Bool.false_and, Bool.not_false, Bool.true_and, Bool.false_or, Bool.and_eq_true, Bool.or_eq_true, decide_eq_true_eq] at h1
              obtain ⟨x, hx⟩ := List.length_eq_one_iff.1 (show e.kids.length = 1 by omega)
              exact ⟨x, hx, by omega⟩
            have hnm : e.name = ⟨#[]⟩ := by
              simp only [okK, hk1, decide_false, Bool.false_and, Bool.not_false, Bool.true_and, Bool.false_or, Bool.and_eq_true, decide_eq_true_eq] at h1
              exact h1.1
            have hreq : reqP e.kind x = true ∨ x.kind = 1 := by
              by_cases hx1 : x.kind = 1
              · exact .inr hx1
              · exact .inl (by simp [reqP, hk2, hk3, hx1])
            have he : e = .mk e.kind ⟨#[]⟩ [x] := GEx.ext' rfl hnm hx
            have key : ∀ c : Tx, tailK e.kind e.name = [c] → (∀ y q, sufT y (c :: q) = sufT (.mk e.kind ⟨#[]⟩ [y]) q) → Item (tkE e ++ r) e r := by
              intro c hc hsuf
              have e0 : tkE e ++ r = encK (tkE x) (reqP e.kind x) ++ (c :: r) := by
                rw [tkE_eq, hx, tkL, tkL, hc]; simp
              refine ⟨hst r, ⟨x, c :: r, ?_, ?_⟩, by rw [e0]; simp; omega⟩
              · rw [e0]; exact (hr x (by simp [hx])).prim _ hreq _
              · rw [hsuf, sufT_none hS, ← he]
            rcases hk with hk | hk | hk
            · refine key [63] (by simp [tailK, hk]) fun y q => ?_
              rw [sufT, if_neg (by decide), if_neg (by decide), if_pos rfl, hk]
            · refine key [42] (by simp [tailK, hk]) fun y q => ?_
              rw [sufT, if_pos rfl, hk]
            · refine key [43] (by simp [tailK, hk]) fun y q => ?_
              rw [sufT, if_neg (by decide), if_pos rfl, hk]
        have hi : ∀ r, nI r = true → nS r = true → ∃ xs, pItems (tkE e ++ r) = .ok xs r ∧ seqOf xs = e := fun r a b => ⟨_, Item.cons (hit r b) (pItems_none a), rfl⟩
        have ha : ∀ r, nI r = true → nS r = true → hd r ≠ [124] → ∃ es, pAlts (tkE e ++ r) = .ok es r ∧ altOf es = e := fun r a b c => by
          obtain ⟨xs, g1, g2⟩ := hi r a b
          exact ⟨_, pAlts_of g1 c, g2⟩
        refine ⟨fun _ => hi, ha, fun b hb r => ?_, fun b hb q => ?_, fun b hb r hS => ?_⟩
        · cases b with
          | true => simp [encK, hd]
          | false => exact hst r
        · cases b with
          | true => exact grpP ha q
          | false =>
            rcases hb with hb | hb
            · cases hb
            · exact (hpr1 hb q).1
        · cases b with
          | true => exact grp ha r hS
          | false => exact hit r hS
end Go.Lg

namespace Go.Lg
def tkLv (l : GLe) : List Tx := bl (wordT l.assoc) :: (l.tokens.map bl ++ [[59]])
def prK (p : Int) : List Tx := if p = 0 then [] else [bl kw4, Lib.itoa p]
def tkAl (a : GAl) : List Tx := encK (tkE a.body) (decide (a.body.kind = 3)) ++ prK a.price
def tkAs (m : Bool) : List GAl → List Tx
  | [] => []
  | a :: l => (if m then [[124]] else []) ++ (tkAl a ++ tkAs true l)
def tkRu (r : GRu) : List Tx := bl r.name :: [61] :: (tkAs false r.alts ++ [[59]])
def tkF (f : GFi) : List Tx := bl kw0 :: bl f.start :: [59] :: ((f.levels.map tkLv).flatten ++ (f.rules.map tkRu).flatten)
def altsS (m : Bool) : List GAl → Tx
  | [] => []
  | a :: l => (if m then [32, 124] else []) ++ (altT a ++ altsS true l)
theorem altsS_snoc (a : GAl) : ∀ (m : Bool) (l : List GAl), altsS m (l ++ [a]) = altsS m l ++ ((if m || !l.isEmpty then [32, 124] else []) ++ altT a)
  | m, [] => by cases m <;> simp [altsS]
  | m, x :: l => by
    rw [List.cons_append, altsS, altsS_snoc a true l, altsS]
    simp only [Bool.true_or, List.isEmpty_cons, Bool.not_false, Bool.or_true, if_true, List.append_assoc]
theorem altsT_S (l : List GAl) : ∀ k, k ≤ l.length → altsT l k = altsS false (l.take k)
  | 0, _ => by simp [altsT, altsS]
  | k + 1, hk => by
    rw [altsT, altsT_S l k (by omega), take_succ_nth (by omega), altsS_snoc]
    cases k with
    | zero => simp
    | succ k => cases l with
      | nil => simp at hk
      | cons x l => simp
theorem lexT_bod {a : GAl} (h : altOk a = true) {r : Tx} (hr : nW r = true) : lexT (bodT a.body ++ r) = encK (tkE a.body) (decide (a.body.kind = 3)) ++ lexT r := by
  have hE := (altOk_iff.1 h).2
  unfold bodT
  split
  · rw [List.append_assoc, List.singleton_append, lexT_blank (by decide), lexT_enc (fun q hq => lexT_ex _ _ hE q hq) _ hr]
  · rename_i hn
    have hk : a.body.kind = 2 ∧ a.body.kids = [] := by
      refine ⟨by omega, List.eq_nil_of_length_eq_zero (by omega)⟩
    have : tkE a.body = [] := by rw [tkE_eq, hk.1, hk.2, tkL]; simp [tailK]
    simp [hk.1, encK, this]
theorem lexT_pr {p : Int} (h0 : 0 ≤ p) {r : Tx} (hr : nW r = true) : lexT (prT p ++ r) = prK p ++ lexT r := by
  unfold prT prK
  split
  · rfl
  · obtain ⟨n, rfl⟩ := Int.eq_ofNat_of_zero_le h0
    have e0 : (wPrice ++ Lib.itoa (n : Int)) ++ r = 32 :: (bl kw4 ++ (32 :: (Lib.itoa (n : Int) ++ r))) := by
      simp [wPrice, bl, kw4]
    rw [e0, lexT_blank (by decide), lexT_word (by decide) (nW_blank (c := 32) (by decide) _), lexT_blank (by decide), Lib.itoa_nonneg, lexT_num (dec_num n) hr]
    rfl
theorem nW_pr {p : Int} {r : Tx} (hr : nW r = true) : nW (prT p ++ r) = true := by
  unfold prT; split
  · exact hr
  · exact nW_blank (c := 32) (by decide) _
theorem lexT_alt {a : GAl} (h : altOk a = true) {r : Tx} (hr : nW r = true) : lexT (altT a ++ r) = tkAl a ++ lexT r := by
  rw [altT, List.append_assoc, lexT_bod h (nW_pr hr), lexT_pr (altOk_iff.1 h).1.1 hr, tkAl, List.append_assoc]
theorem nW_alts {l : List GAl} {r : Tx} (hr : nW r = true) : nW (altsS true l ++ r) = true := by
  cases l with
  | nil => exact hr
  | cons a l => rw [altsS]; exact nW_blank (c := 32) (by decide) _
theorem lexT_alts : ∀ (l : List GAl) (m : Bool), (∀ a, a ∈ l → altOk a = true) → ∀ r : Tx, nW r = true → lexT (altsS m l ++ r) = tkAs m l ++ lexT r
  | [], m, _, r, _ => rfl
  | a :: l, m, h, r, hr => by
    have ih := lexT_alts l true (fun x hx => h x (by simp [hx])) r hr
    have h1 := lexT_alt (h a (by simp)) (nW_alts (l := l) hr)
    rw [altsS, tkAs]
    cases m with
    | false => simp only [Bool.false_eq_true, if_false, List.nil_append, List.append_assoc]; rw [h1, ih]
    | true =>
      simp only [if_true, List.append_assoc, List.cons_append, List.nil_append]
      rw [lexT_blank (by decide), lexT_sym (c := 124) (by decide), h1, ih]
theorem lexT_end (r : Tx) : lexT (endT ++ r) = [59] :: lexT r := by
  show lexT (59 :: 10 :: r) = _
  rw [lexT_sym (by decide), lexT_blank (by decide)]
theorem nW_end (r : Tx) : nW (endT ++ r) = true := nW_sym (c := 59) (by decide) (by decide) _
theorem lexT_ru {r : GRu} (hn : gnOk r.name = true) (ha : ∀ a, a ∈ r.alts → altOk a = true) (q : Tx) : lexT (ruT r ++ q) = tkRu r ++ lexT q := by
  rw [ruT, altsT_S _ _ (Nat.le_refl _), List.take_of_length_le (Nat.le_refl _)]
  have e0 : (bl r.name ++ [32, 61]) ++ (altsS false r.alts ++ endT) ++ q = bl r.name ++ (32 :: 61 :: (altsS false r.alts ++ (endT ++ q))) := by simp
  have h61 : nW (61 :: (altsS false r.alts ++ (endT ++ q))) = true := nW_sym (by decide) (by decide) _
  rw [e0, lexT_word (gn_word hn).1 (nW_blank (c := 32) (by decide) _), lexT_blank (by decide), lexT_sym (c := 61) (by decide), lexT_alts _ _ ha _ (nW_end q), lexT_end, tkRu]
  simp
theorem lexT_names : ∀ (l : List ByteArray), (∀ x, x ∈ l → gnOk x = true) → ∀ r : Tx, nW r = true → lexT (spaced l ++ r) = l.map bl ++ lexT r
  | [], _, r, _ => rfl
  | x :: l, h, r, hr => by
    have ih := lexT_names l (fun y hy => h y (by simp [hy])) r hr
    have e0 : spaced (x :: l) ++ r = 32 :: (bl x ++ (spaced l ++ r)) := by simp [spaced]
    have hw : nW (spaced l ++ r) = true := by
      cases l with
      | nil => exact hr
      | cons y l => exact nW_blank (c := 32) (by decide) _
    rw [e0, lexT_blank (by decide), lexT_word (gn_word (h x (by simp))).1 hw, ih]
    rfl
theorem word_ok (a : Int) : wordOk (bl (wordT a)) = true := by
  unfold wordT; split; · decide
  split <;> decide
theorem lexT_lv {l : GLe} (hne : l.tokens ≠ []) (ht : ∀ x, x ∈ l.tokens → gnOk x = true) (q : Tx) : lexT (lvT l ++ q) = tkLv l ++ lexT q := by
  rw [lvT_eq hne]
  simp only [List.append_assoc]
  have hw : nW (spaced l.tokens ++ (endT ++ q)) = true := by
    cases hl : l.tokens with
    | nil => exact nW_end q
    | cons y l => exact nW_blank (c := 32) (by decide) _
  rw [lexT_word (word_ok _) hw, lexT_names _ ht _ (nW_end q), lexT_end, tkLv]
  simp
end Go.Lg

namespace Go.Lg
theorem numV_snoc (l : Tx) (c : UInt8) : numV (l ++ [c]) = min (10 * numV l + ((c.toNat : Int) - 48)) 1001 := by simp [numV, List.foldl_append]
theorem numV_dec (u : Nat) : u ≤ 1000 → numV (Lib.decDigits u) = u := by
  induction u using Nat.strongRecOn with
  | _ u ih =>
    intro hu
    have key : ∀ k, k < 10 → ((UInt8.ofNat (48 + k)).toNat : Int) - 48 = k := by decide
    rw [Lib.decDigits]
    split
    · rename_i h
      have := key u h
      have e : numV [UInt8.ofNat (48 + u)] = min (10 * 0 + (((UInt8.ofNat (48 + u)).toNat : Int) - 48)) 1001 := rfl
      rw [e, this]; omega
    · rw [numV_snoc, ih (u / 10) (by omega) (by omega), key (u % 10) (by omega)]
      omega
theorem isNum_of {t : Tx} (h : numOk t = true) : isNum t = true := by
  cases t with
  | nil => cases h
  | cons c r => simp only [numOk, Bool.and_eq_true] at h; exact h.1
def Sep (q : List Tx) : Prop := hd q = [124] ∨ hd q = [59]
theorem Sep.nI {q : List Tx} (h : Sep q) : nI q = true := by
  cases q with
  | nil => rfl
  | cons t q =>
    have h : t = [124] ∨ t = [59] := h
    rcases h with rfl | rfl
    · exact nI_124 q
    · simp [Lg.nI, isN, hd]; decide
theorem Sep.nS {q : List Tx} (h : Sep q) : nS q = true := by
  cases q with
  | nil => rfl
  | cons t q =>
    have h : t = [124] ∨ t = [59] := h
    rcases h with rfl | rfl
    · exact nS_124 q
    · simp [Lg.nS, hd]
theorem pPrice_read {p : Int} (h0 : 0 ≤ p) (h1 : p ≤ 1000) {q : List Tx} (hq : Sep q) : pPrice (prK p ++ q) = .ok p q := by
  unfold prK
  split
  · rename_i hp
    subst hp
    cases q with
    | nil => rfl
    | cons t q =>
      have h : t = [124] ∨ t = [59] := hq
      have hne : ¬ t = bl kw4 := by rcases h with rfl | rfl <;> decide
      simp only [List.nil_append, pPrice, if_neg hne]
  · obtain ⟨n, rfl⟩ := Int.eq_ofNat_of_zero_le h0
    have h2 := isNum_of (dec_num n)
    simp only [List.cons_append, List.nil_append, pPrice, if_true, Lib.itoa_nonneg, h2, numV_dec n (by omega)]
theorem prK_nI {p : Int} {q : List Tx} (hq : Sep q) : nI (prK p ++ q) = true ∧ nS (prK p ++ q) = true := by
  unfold prK
  split
  · exact ⟨hq.nI, hq.nS⟩
  · simp only [List.cons_append, nI, nS, isN, hd, List.headD_cons]; exact ⟨rfl, rfl⟩
theorem pAlt_read {a : GAl} (h : altOk a = true) {q : List Tx} (hq : Sep q) : pAlt (tkAl a ++ q) = .ok a q := by
  obtain ⟨⟨hp0, hp1⟩, hE⟩ := altOk_iff.1 h
  have hR := reads _ _ hE
  obtain ⟨h1, h2⟩ := prK_nI (p := a.price) hq
  have hb : ∃ xs, pItems (tkAl a ++ q) = .ok xs (prK a.price ++ q) ∧ seqOf xs = a.body := by
    rw [tkAl, List.append_assoc]
    by_cases h3 : a.body.kind = 3
    · simp only [h3, decide_true]
      exact ⟨_, Item.cons (hR.item true (.inl rfl) _ h2) (pItems_none h1), rfl⟩
    · simp only [h3, decide_false, encK]
      exact hR.items h3 _ h1 h2
  obtain ⟨xs, g1, g2⟩ := hb
  simp only [pAlt, g1, pPrice_read hp0 hp1 hq, g2]
theorem pAltsR_read : ∀ (l : List GAl), l ≠ [] → (∀ a, a ∈ l → altOk a = true) → ∀ q : List Tx, hd q = [59] → pAltsR (tkAs false l ++ q) = .ok l q
  | [], h, _, _, _ => absurd rfl h
  | [a], _, h, q, hq => by
    have e0 : tkAs false [a] ++ q = tkAl a ++ q := by simp [tkAs]
    rw [e0, pAltsR, pAlt_read (h a (by simp)) (.inr hq)]
    cases q with
    | nil => rfl
    | cons t q =>
      have hq : t = [59] := hq
      simp only; rw [if_neg (by rw [hq]; decide)]
  | a :: b :: l, _, h, q, hq => by
    have ih := pAltsR_read (b :: l) (by simp) (fun x hx => h x (by simp [hx])) q hq
    have e0 : tkAs false (a :: b :: l) ++ q = tkAl a ++ ([124] :: (tkAs false (b :: l) ++ q)) := by simp [tkAs]
    rw [e0, pAltsR, pAlt_read (h a (by simp)) (.inl rfl)]
    simp only [if_true]
    rw [dif_pos (by simp; omega), ih]
theorem pName_read {s : ByteArray} (h : gnOk s = true) (q : List Tx) : pName (bl s :: q) = .ok s q := by
  simp only [pName, (gn_word h).2, if_true, tx_bl]
theorem pNames_read : ∀ (l : List ByteArray), (∀ x, x ∈ l → gnOk x = true) → ∀ q : List Tx, isN q = false → pNames (l.map bl ++ q) = (l, q)
  | [], _, q, hq => by
    cases q with
    | nil => rfl
    | cons t q => simp only [isN] at hq; simp [pNames, hq]
  | x :: l, h, q, hq => by
    have ih := pNames_read l (fun y hy => h y (by simp [hy])) q hq
    simp only [List.map_cons, List.cons_append, pNames, (gn_word (h x (by simp))).2, if_true, ih, tx_bl]
theorem assoc_word {a : Int} (h1 : 1 ≤ a) (h3 : a ≤ 3) : assocOf (bl (wordT a)) = some a := by
  have : a = 1 ∨ a = 2 ∨ a = 3 := by omega
  rcases this with rfl | rfl | rfl <;> decide
theorem pLevels_read : ∀ (l : List GLe), (∀ x, x ∈ l → glevelOk x = true ∧ ∀ t, t ∈ x.tokens → gnOk t = true) → ∀ q : List Tx, (∀ t q', q = t :: q' → assocOf t = none) → pLevels ((l.map tkLv).flatten ++ q) = .ok l q
  | [], _, q, hq => by
    cases q with
    | nil => rw [List.map_nil, List.flatten_nil, List.nil_append, pLevels]
    | cons t q => rw [List.map_nil, List.flatten_nil, List.nil_append, pLevels, hq t q rfl]
  | x :: l, h, q, hq => by
    have ih := pLevels_read l (fun y hy => h y (by simp [hy])) q hq
    obtain ⟨h1, h2⟩ := h x (by simp)
    obtain ⟨⟨ha, hb⟩, hne⟩ := glevel_iff.1 h1
    obtain ⟨s, ts, hts⟩ : ∃ s ts, x.tokens = s :: ts := by
      cases hx : x.tokens with
      | nil => rw [hx] at hne; exact absurd rfl hne
      | cons s ts => exact ⟨s, ts, rfl⟩
    have e0 : ((x :: l).map tkLv).flatten ++ q = bl (wordT x.assoc) :: (bl s :: (ts.map bl ++ ([59] :: ((l.map tkLv).flatten ++ q)))) := by
      simp [tkLv, hts]
    rw [e0, pLevels, assoc_word ha hb]
    simp only
    rw [pName_read (h2 s (by simp [hts]))]
    simp only
    rw [pNames_read ts (fun t ht => h2 t (by simp [hts, ht])) _ (by simp [isN]; decide)]
    simp only [pTake, if_true]
    rw [dif_pos (by simp; omega), ih]
    simp only
    congr 2
    rw [← hts]
theorem pRule_read {r : GRu} (hn : gnOk r.name = true) (hne : r.alts ≠ []) (ha : ∀ a, a ∈ r.alts → altOk a = true) (q : List Tx) : pRule (tkRu r ++ q) = .ok r q := by
  have e0 : tkRu r ++ q = bl r.name :: ([61] :: (tkAs false r.alts ++ ([59] :: q))) := by simp [tkRu]
  rw [e0, pRule, pName_read hn]
  simp only [pTake, if_true]
  rw [pAltsR_read _ hne ha _ rfl]
  simp only [if_true]
theorem pRules_read : ∀ (l : List GRu), (∀ r, r ∈ l → gnOk r.name = true ∧ r.alts ≠ [] ∧ ∀ a, a ∈ r.alts → altOk a = true) → pRules (l.map tkRu).flatten = .ok l []
  | [], _ => by rw [List.map_nil, List.flatten_nil, pRules]
  | r :: l, h => by
    have ih := pRules_read l (fun y hy => h y (by simp [hy]))
    obtain ⟨h1, h2, h3⟩ := h r (by simp)
    have e1 := pRule_read h1 h2 h3 (l.map tkRu).flatten
    have e0 : ((r :: l).map tkRu).flatten = bl r.name :: ([61] :: (tkAs false r.alts ++ ([59] :: (l.map tkRu).flatten))) := by simp [tkRu]
    have e2 : tkRu r ++ (l.map tkRu).flatten = bl r.name :: ([61] :: (tkAs false r.alts ++ ([59] :: (l.map tkRu).flatten))) := by simp [tkRu]
    rw [e2] at e1
    rw [e0, pRules, e1]
    simp only
    rw [dif_pos (by simp; omega), ih]
theorem FVal.rname {f : GFi} (h : FVal f) : ∀ r, r ∈ f.rules → gnOk r.name = true := by
  intro r hr
  refine h.rn _ ?_
  rw [rnames_all]; exact List.mem_map.2 ⟨r, hr, rfl⟩
theorem FVal.alts {f : GFi} (h : FVal f) : ∀ r, r ∈ f.rules → r.alts ≠ [] := by
  intro r hr
  have := h.rule r hr
  simp only [gruleOk, Bool.and_eq_true, Bool.not_eq_true', decide_eq_false_iff_not] at this
  exact this.1
theorem FVal.gtok {f : GFi} (h : FVal f) : ∀ l, l ∈ f.levels → ∀ t, t ∈ l.tokens → gnOk t = true := by
  intro l hl t ht
  refine h.tk _ ?_
  simp only [Lg.toks, List.take_of_length_le (Nat.le_refl _), List.mem_flatten, List.mem_map]
  exact ⟨_, ⟨l, hl, rfl⟩, ht⟩
theorem lexT_rules : ∀ (l : List GRu), (∀ r, r ∈ l → gnOk r.name = true ∧ ∀ a, a ∈ r.alts → altOk a = true) → lexT (l.map ruT).flatten = (l.map tkRu).flatten
  | [], _ => lexT_nil
  | r :: l, h => by
    rw [List.map_cons, List.flatten_cons, lexT_ru (h r (by simp)).1 (h r (by simp)).2, lexT_rules l (fun y hy => h y (by simp [hy]))]
    rfl
theorem lexT_levels : ∀ (l : List GLe), (∀ x, x ∈ l → x.tokens ≠ [] ∧ ∀ t, t ∈ x.tokens → gnOk t = true) → ∀ r, lexT ((l.map lvT).flatten ++ r) = (l.map tkLv).flatten ++ lexT r
  | [], _, _ => rfl
  | x :: l, h, r => by
    rw [List.map_cons, List.flatten_cons, List.append_assoc, lexT_lv (h x (by simp)).1 (h x (by simp)).2, lexT_levels l (fun y hy => h y (by simp [hy])), List.map_cons, List.flatten_cons, List.append_assoc]
theorem FVal.lvne {f : GFi} (h : FVal f) : ∀ l, l ∈ f.levels → l.tokens ≠ [] := by
  intro l hl e
  have := (glevel_iff.1 (h.level l hl)).2
  rw [e] at this; exact this rfl
theorem lexT_file {f : GFi} (h : FVal f) : lexT (fmtF f) = tkF f := by
  have e0 : fmtF f = bl kw0 ++ (32 :: (bl f.start ++ (endT ++ ((f.levels.map lvT).flatten ++ (f.rules.map ruT).flatten)))) := by
    simp [fmtF, fmR, fmL, fm0, wStartT, bl, kw0]
  rw [e0, lexT_word (by decide) (nW_blank (c := 32) (by decide) _), lexT_blank (by decide), lexT_word (gn_word h.st).1 (nW_end _), lexT_end,
    lexT_levels _ (fun x hx => ⟨h.lvne x hx, h.gtok x hx⟩), lexT_rules _ (fun r hr => ⟨h.rname r hr, h.alt r hr⟩), tkF]
theorem pFile_read {f : GFi} (h : FVal f) : pFile (tkF f) = .ok f [] := by
  rw [tkF, pFile]
  simp only [pTake, if_true]
  rw [pName_read h.st]
  simp only [if_true]
  rw [pLevels_read _ (fun x hx => ⟨h.level x hx, h.gtok x hx⟩) _ (by
    intro t q' e
    cases hr : f.rules with
    | nil => rw [hr] at e; cases e
    | cons r l =>
      rw [hr] at e
      simp only [List.map_cons, List.flatten_cons, tkRu, List.cons_append, List.cons.injEq] at e
      rw [← e.1]
      have hn := (gn_word (h.rname r (by simp [hr]))).2
      have ne : ∀ k, k ∈ kwT → bl r.name ≠ k := by
        intro k hk e
        rw [e] at hn
        simp only [nmT, Bool.and_eq_true, Bool.not_eq_true', List.any_eq_false, decide_eq_true_eq] at hn
        exact hn.2 k hk rfl
      simp only [assocOf, if_neg (ne (bl kw1) (by decide)), if_neg (ne (bl kw2) (by decide)), if_neg (ne (bl kw3) (by decide))])]
  simp only
  rw [pRules_read _ (fun r hr => ⟨h.rname r hr, h.alts r hr, h.alt r hr⟩)]
end Go.Lg

namespace Go.Lg
set_option linter.unusedVariables false
theorem seqOf_cnt (l : List GEx) : cntE (seqOf l) ≤ cntL l + 1 := by
  unfold seqOf
  split
  · simp only [cntL]; omega
  · rw [cntE]; omega
theorem altOf_cnt {l : List GEx} {k : Nat} (h : cntL l + l.length ≤ k + 2) (h1 : 1 ≤ l.length) : cntE (altOf l) ≤ k + 1 := by
  unfold altOf
  split
  · simp only [cntL, List.length_cons, List.length_nil] at h; omega
  · rename_i hn
    have : l.length ≠ 1 := fun e => by
      obtain ⟨x, rfl⟩ := List.length_eq_one_iff.1 e
      exact hn x rfl
    rw [cntE]; omega
theorem sufT_cnt : ∀ (x : GEx) (l : List Tx), cntE (sufT x l).1 + (sufT x l).2.length = cntE x + l.length
  | x, [] => rfl
  | x, t :: r => by
    have e : ∀ k, cntE (.mk k ⟨#[]⟩ [x]) = cntE x + 1 := fun k => by rw [cntE, cntL, cntL]; omega
    rw [sufT]
    split
    · rw [sufT_cnt, e, List.length_cons]; omega
    · split
      · rw [sufT_cnt, e, List.length_cons]; omega
      · split
        · rw [sufT_cnt, e, List.length_cons]; omega
        · rfl
theorem par_cnt (n : Nat) : ∀ l : List Tx, l.length ≤ n → (∀ x r, pPrim l = .ok x r → cntE x + 2 * r.length ≤ 2 * l.length) ∧ (∀ xs r, pItems l = .ok xs r → cntL xs + 2 * r.length ≤ 2 * l.length) ∧ (∀ xs r, pAlts l = .ok xs r → cntL xs + xs.length + 2 * r.length ≤ 2 * l.length + 2 ∧ 1 ≤ xs.length) := by
  induction n with
  | zero =>
    intro l hl
    obtain rfl : l = [] := List.eq_nil_of_length_eq_zero (by omega)
    have h2 : pItems [] = .ok [] [] := by rw [pItems_eq]; rfl
    refine ⟨fun x r h => (by rw [pPrim] at h; cases h), fun xs r h => ?_, fun xs r h => ?_⟩
    · rw [h2] at h; injection h with e1 e2; subst e1; subst e2; exact Nat.le_refl _
    · rw [pAlts_eq, h2] at h; injection h with e1 e2; subst e1; subst e2
      have := seqOf_cnt []
      simp only [cntL, List.length_cons, List.length_nil] at this ⊢
      omega
  | succ n ih =>
    intro l hl
    have hp : ∀ x r, pPrim l = .ok x r → cntE x + 2 * r.length ≤ 2 * l.length := by
      intro x r h
      cases l with
      | nil => rw [pPrim] at h; cases h
      | cons t q =>
        rw [pPrim] at h
        split at h
        · injection h with e1 e2; subst e1; subst e2
          simp only [cntE, cntL, List.length_cons]; omega
        · split at h
          · have ha := (ih q (by simp at hl; omega)).2.2
            split at h
            · cases h
            · rename_i es q1 hq1
              obtain ⟨h1, h2⟩ := ha es q1 hq1
              split at h
              · cases h
              · rename_i t' q'
                split at h
                · injection h with e1 e2; subst e1; subst e2
                  simp only [List.length_cons] at h1 ⊢
                  have := altOf_cnt (k := 2 * q.length - 2 * (q'.length + 1)) (by omega) h2
                  omega
                · cases h
          · cases h
    have hi : ∀ xs r, pItems l = .ok xs r → cntL xs + 2 * r.length ≤ 2 * l.length := by
      intro xs r h
      rw [pItems_eq] at h
      split at h
      · cases h1 : pPrim l with
        | err q => rw [h1] at h; cases h
        | ok x0 r0 =>
          rw [h1] at h
          simp only at h
          have hlt := pPrim_lt h1
          have hsl := sufT_len x0 r0
          have h2 := (ih (sufT x0 r0).2 (by omega)).2.1
          have h4 := hp _ _ h1
          have h5 := sufT_cnt x0 r0
          cases h3 : pItems (sufT x0 r0).2 with
          | err q => rw [h3] at h; cases h
          | ok xs1 q1 =>
            rw [h3] at h
            injection h with e1 e2; subst e1; subst e2
            have := h2 xs1 q1 h3
            rw [cntL]; omega
      · injection h with e1 e2; subst e1; subst e2; rw [cntL]; omega
    refine ⟨hp, hi, fun xs r h => ?_⟩
    rw [pAlts_eq] at h
    cases h1 : pItems l with
    | err q => rw [h1] at h; cases h
    | ok xs0 q =>
      rw [h1] at h
      simp only at h
      have h0 := hi xs0 q h1
      have h00 := seqOf_cnt xs0
      cases q with
      | nil => injection h with e1 e2; subst e1; subst e2; simp only [cntL, List.length_cons, List.length_nil] at h0 ⊢; omega
      | cons t q =>
        simp only [finA] at h
        simp only [List.length_cons] at h0
        split at h
        · have h2 := (ih q (by omega)).2.2
          cases h3 : pAlts q with
          | err q' => rw [h3] at h; cases h
          | ok es q' =>
            rw [h3] at h
            injection h with e1 e2; subst e1; subst e2
            have := h2 es q' h3
            simp only [List.cons_append, List.nil_append, cntL, List.length_cons]
            omega
        · injection h with e1 e2; subst e1; subst e2; simp only [cntL, List.length_cons, List.length_nil]; omega
def altW (a : GAl) : Nat := cntE a.body + 1
def altsW (l : List GAl) : Nat := (l.map altW).sum
def ruW (r : GRu) : Nat := altsW r.alts + 1
def rusW (l : List GRu) : Nat := (l.map ruW).sum
theorem pPrice_len {l : List Tx} {p : Int} {q : List Tx} (h : pPrice l = .ok p q) : q.length ≤ l.length := by
  have := pPrice_suf l
  rw [h] at this
  exact this.length_le
theorem pAlt_cnt {l : List Tx} {a : GAl} {r : List Tx} (h : pAlt l = .ok a r) : altW a + 2 * r.length ≤ 2 * l.length + 2 := by
  unfold pAlt at h
  cases h1 : pItems l with
  | err q => rw [h1] at h; cases h
  | ok xs q =>
    rw [h1] at h
    simp only at h
    have h2 := (par_cnt _ l (Nat.le_refl _)).2.1 xs q h1
    have h4 := seqOf_cnt xs
    cases h3 : pPrice q with
    | err q' => rw [h3] at h; cases h
    | ok p q' =>
      rw [h3] at h; injection h with e1 e2; subst e1; subst e2
      have := pPrice_len h3
      simp only [altW]; omega
theorem pAltsR_cnt (n : Nat) : ∀ l : List Tx, l.length ≤ n → ∀ xs r, pAltsR l = .ok xs r → altsW xs + 2 * r.length ≤ 2 * l.length + 2 := by
  induction n with
  | zero =>
    intro l hl xs r h
    rw [pAltsR_eq] at h
    cases h1 : pAlt l with
    | err q => rw [h1] at h; cases h
    | ok a0 q =>
      rw [h1] at h
      have hsuf := (pAlt_suf l).length_le
      rw [h1] at hsuf
      simp only [PR.rest] at hsuf
      obtain rfl : q = [] := List.eq_nil_of_length_eq_zero (by omega)
      injection h with e1 e2; subst e1; subst e2
      have := pAlt_cnt h1
      simp only [altsW, List.map_cons, List.map_nil, List.sum_cons, List.sum_nil]; omega
  | succ n ih =>
    intro l hl xs r h
    rw [pAltsR_eq] at h
    cases h1 : pAlt l with
    | err q => rw [h1] at h; cases h
    | ok a0 q =>
      rw [h1] at h
      simp only at h
      have h0 := pAlt_cnt h1
      have hsuf := pAlt_suf l
      rw [h1] at hsuf
      simp only [PR.rest] at hsuf
      have hle := hsuf.length_le
      cases q with
      | nil => injection h with e1 e2; subst e1; subst e2; simp only [altsW, List.map_cons, List.map_nil, List.sum_cons, List.sum_nil]; omega
      | cons t q =>
        simp only [List.length_cons] at hle h0
        simp only [finR] at h
        split at h
        · cases h3 : pAltsR q with
          | err q' => rw [h3] at h; cases h
          | ok es q' =>
            rw [h3] at h
            injection h with e1 e2; subst e1; subst e2
            have := ih q (by omega) es q' h3
            simp only [altsW, List.cons_append, List.nil_append, List.map_cons, List.sum_cons] at this ⊢; omega
        · injection h with e1 e2; subst e1; subst e2; simp only [altsW, List.map_cons, List.map_nil, List.sum_cons, List.sum_nil, List.length_cons]; omega
theorem pRule_cnt {l : List Tx} {x : GRu} {r : List Tx} (h : pRule l = .ok x r) : ruW x + 2 * r.length ≤ 2 * l.length := by
  unfold pRule at h
  cases e1 : pName l with
  | err q => rw [e1] at h; cases h
  | ok n r0 =>
    rw [e1] at h
    have hn := pName_lt e1
    simp only at h
    cases e2 : pTake [61] r0 with
    | err q => rw [e2] at h; cases h
    | ok u r1 =>
      rw [e2] at h
      have h2 := pTake_lt e2
      simp only at h
      cases e3 : pAltsR r1 with
      | err q => rw [e3] at h; cases h
      | ok ys r2 =>
        rw [e3] at h
        simp only at h
        have h3 := pAltsR_cnt _ r1 (Nat.le_refl _) ys r2 e3
        cases e4 : pTake [59] r2 with
        | err q => rw [e4] at h; cases h
        | ok u r3 =>
          have h4 := pTake_lt e4
          rw [e4] at h; injection h with e5 e6; subst e5; subst e6
          simp only [ruW]; omega
theorem pRules_cnt (n : Nat) : ∀ l : List Tx, l.length ≤ n → ∀ xs r, pRules l = .ok xs r → rusW xs + 2 * r.length ≤ 2 * l.length := by
  induction n with
  | zero =>
    intro l hl xs r h
    obtain rfl : l = [] := List.eq_nil_of_length_eq_zero (by omega)
    rw [pRules] at h; injection h with e1 e2; subst e1; subst e2; exact Nat.le_refl _
  | succ n ih =>
    intro l hl xs r h
    cases l with
    | nil => rw [pRules] at h; injection h with e1 e2; subst e1; subst e2; exact Nat.le_refl _
    | cons t q =>
      rw [← finU_nil, finU_step] at h
      cases h1 : pRule (t :: q) with
      | err q1 => rw [h1] at h; cases h
      | ok x0 q1 =>
        rw [h1] at h
        have h0 := pRule_cnt h1
        have hlt := pRule_lt h1
        simp only [finU] at h
        cases h3 : pRules q1 with
        | err q' => rw [h3] at h; cases h
        | ok ls q' =>
          rw [h3] at h
          injection h with e1 e2
          subst e1; subst e2
          have := ih q1 (by simp at hl hlt; omega) ls q' h3
          simp only [rusW, List.nil_append, List.cons_append, List.map_cons, List.sum_cons] at this ⊢; omega
theorem pFile_cnt {l : List Tx} {f : GFi} {q : List Tx} (h : pFile l = .ok f q) : rusW f.rules ≤ 2 * l.length := by
  unfold pFile at h
  have h0 := pTake_suf (bl kw0) l
  cases e0 : pTake (bl kw0) l with
  | err q => rw [e0] at h; cases h
  | ok u r =>
    rw [e0] at h h0
    simp only at h
    have h1 := pName_suf r
    cases e1 : pName r with
    | err q => rw [e1] at h; cases h
    | ok s r1 =>
      rw [e1] at h h1
      simp only at h
      have h2 := pTake_suf [59] r1
      cases e2 : pTake [59] r1 with
      | err q => rw [e2] at h; cases h
      | ok u2 r2 =>
        rw [e2] at h h2
        simp only at h
        have h3 := pLevels_suf _ r2 (Nat.le_refl _)
        cases e3 : pLevels r2 with
        | err q => rw [e3] at h; cases h
        | ok ls r3 =>
          rw [e3] at h h3
          simp only at h
          have hle := (((h3.trans h2).trans h1).trans h0).length_le
          simp only [PR.rest] at hle
          cases e4 : pRules r3 with
          | err q => rw [e4] at h; cases h
          | ok rs q =>
            rw [e4] at h
            injection h with e5 e6; subst e5; subst e6
            have := pRules_cnt _ r3 (Nat.le_refl _) rs q e4
            simp only; omega
theorem altsT_len {l : List GAl} (h : ∀ a, a ∈ l → altOk a = true) : ∀ k, k ≤ l.length → (altsT l k).length ≤ 42 * altsW (l.take k)
  | 0, _ => by simp [altsT]
  | k + 1, hk => by
    have h1 := altsT_len h k (by omega)
    have h2 := altT_len (h _ (nth_mem (l := l) (k := k) (by omega)))
    have h5 : (if k = 0 then ([] : List UInt8) else [32, 124]).length ≤ 2 := by split <;> simp
    rw [altsT, List.length_append, List.length_append, take_succ_nth (by omega)]
    simp only [altsW, List.map_append, List.map_cons, List.map_nil, List.sum_append, List.sum_cons, List.sum_nil, altW] at h1 ⊢
    omega
theorem ruT_len {f : GFi} (h : FVal f) {r : GRu} (hr : r ∈ f.rules) : (ruT r).length ≤ 42 * ruW r := by
  have h1 := altsT_len (h.alt r hr) r.alts.length (Nat.le_refl _)
  rw [List.take_length] at h1
  have h3 := h.name _ hr
  have hrt : (ruT r).length = r.name.size + 2 + ((altsT r.alts r.alts.length).length + 2) := by
    simp [ruT, endT, bl_len]; omega
  rw [hrt, ruW]; omega
theorem flat_len {α : Type} {g : α → Tx} {w : α → Nat} {l : List α} (h : ∀ x, x ∈ l → (g x).length ≤ w x) : (l.map g).flatten.length ≤ (l.map w).sum := by
  induction l with
  | nil => exact Nat.le_refl _
  | cons x l ih =>
    have h1 := h x (by simp)
    have h2 := ih fun y hy => h y (by simp [hy])
    simp only [List.map_cons, List.flatten_cons, List.length_append, List.sum_cons]; omega
theorem sum_mul {α : Type} {w : α → Nat} (c : Nat) (l : List α) : (l.map fun x => c * w x).sum = c * (l.map w).sum := by
  induction l with
  | nil => simp
  | cons x l ih => simp only [List.map_cons, List.sum_cons, ih, Nat.mul_add]
theorem lvs_cnt : ∀ {l : List GLe}, (∀ x, x ∈ l → x.tokens ≠ []) → (l.map fun x => 50 * (1 + x.tokens.length)).sum ≤ 100 * ((l.map (·.tokens)).flatten).length
  | [], _ => by simp
  | x :: l, h => by
    have h1 := lvs_cnt (l := l) fun y hy => h y (by simp [hy])
    have h2 : 1 ≤ x.tokens.length := List.length_pos_iff.2 (h x (by simp))
    simp only [List.map_cons, List.sum_cons, List.flatten_cons, List.length_append] at h1 ⊢
    omega
theorem fmt_bound {N : Nat} (hN : N ≤ 9223372036854775807) {l : List Tx} (hS : Sm N l) {f : GFi} {q : List Tx} (h : pFile l = .ok f q) (hv : validF f = true) : (fmtF f).length ≤ 32 + 200 * l.length := by
  have hV := FVal.of hv
  have h1 := pFile_cnt h
  have h2 := (pFile_fit hN hS h).2
  have hst := gnOk_size hV.st
  have hz : (fm0 f).length = 8 + f.start.size := by simp [fm0, wStartT, endT, bl_len]; omega
  have h3 : ((f.levels.map lvT).flatten).length ≤ (f.levels.map fun x => 50 * (1 + x.tokens.length)).sum := flat_len fun x hx => lv_len hV hx
  have h4 := lvs_cnt (l := f.levels) fun x hx e => by
    have := (glevel_iff.1 (hV.level x hx)).2
    rw [e] at this; exact this rfl
  have h5 : ((f.rules.map ruT).flatten).length ≤ (f.rules.map fun r => 42 * ruW r).sum := flat_len fun x hx => ruT_len hV hx
  rw [sum_mul] at h5
  simp only [toks, List.take_of_length_le (Nat.le_refl _)] at h2
  unfold fmtF fmR fmL
  rw [List.take_of_length_le (Nat.le_refl _), List.take_of_length_le (Nat.le_refl _), List.length_append, List.length_append, hz]
  unfold rusW at h1
  omega
end Go.Lg
