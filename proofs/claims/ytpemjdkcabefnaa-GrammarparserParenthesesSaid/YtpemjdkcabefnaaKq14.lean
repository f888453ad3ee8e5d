/-
  Part 14 of the proof of GrammarparserParentheses: the logic over the model, the functions' contracts and the plain laws.
-/
import Derived.Test.YtpemjdkcabefnaaKq13
import Derived.Recover
import Derived.WalkKit

set_option linter.unusedSimpArgs false
set_option linter.unusedVariables false
set_option linter.unusedSectionVars false
set_option linter.defProp false

namespace Go.Lg
open Go.RowKit
set_option linter.unusedVariables false
def DefD (P : Program) (g : FuncId) (ys : List AV) (os : List AObj) (u : FrameMode) (os' : List AObj) : Prop :=
  enterable P g = true ∧ os.length = os'.length ∧ ∀ (Γ : Cx) (vs : Array Value), Γ.m = os.length → Γ.ds = [] → SR Γ ⟨ys, os.map some⟩ ⟨vs, []⟩ Γ.w0 →
    CallsD P g vs u Γ.w0 fun e u' w' => (∃ v, e = .returned v) ∧ settle u' = .returning ∧ SR Γ ⟨[.tup []], os'.map some⟩ ⟨#[.tuple #[]], []⟩ w'
section
variable {P : Program} {Γ : Cx} {A : Nat → Prop} {ρ : Nat → Option Nat} {s : St} {a : Act} {w : World} {n M : Nat} {l : List (Nat × AV)} {os : List (Nat × Option AObj)} {c : Code} {Q : Exit → St → Prop} {g : FuncId} {ys : List AV}
theorem SRa.boxes (h : SRa Γ A ρ s a w) (hm0 : Γ.m = 0) (hds : Γ.ds = []) (m : Nat) (hl : ∀ i, i < m → ∃ o, s.live i o) (d : Deferred) :
    ∃ Γ' : Cx, Γ'.m = m ∧ Γ'.ds = [d] ∧ Γ'.ρ0 = ρ ∧ SRa Γ' A ρ s { a with defers := [d] } w ∧ ∀ s a w, SR Γ' s a w → SR Γ s { a with defers := [] } w := by
  have hnew : ∀ i, i < m → ∀ b, ρ i = some b → Γ.w0.heap.size ≤ b := fun i hi b hb => by
    obtain ⟨o, ho⟩ := hl i hi
    rcases h.own i o b ho hb with h1 | ⟨j, hj, _⟩
    · exact h1
    · omega
  refine ⟨⟨Γ.w0, Γ.I0, m, ρ, Γ.hG, Γ.hgl, fun i hi b hb => Nat.le_trans Γ.hgl (hnew i hi b hb), [d]⟩, rfl, rfl, rfl, ?_, ?_⟩
  · refine ⟨fun i hi => ⟨(hl i hi).elim fun o ho => h.made i o ho, rfl⟩, h.len, h.tmp, h.obj, h.made, h.bound, fun id o b ho hb => ?_, h.inj, rfl, ⟨h.fr.size, h.fr.os, h.fr.tape, h.fr.output, fun b hb _ => h.fr.block b hb fun i hi => by omega, h.fr.csize⟩⟩
    rcases h.own id o b ho hb with h1 | ⟨j, hj, _⟩
    · exact .inl h1
    · omega
  · rintro s a w ⟨ρ', h'⟩
    refine ⟨ρ', fun i hi => by omega, h'.len, h'.tmp, h'.obj, h'.made, h'.bound, fun id o b ho hb => ?_, h'.inj, hds.symm, ⟨h'.fr.size, h'.fr.os, h'.fr.tape, h'.fr.output, fun b hb _ => h'.fr.block b hb fun i hi e => ?_, h'.fr.csize⟩⟩
    · rcases h'.own id o b ho hb with h1 | ⟨j, hj, h1⟩
      · exact .inl h1
      · exact .inl (hnew j hj b h1)
    · have := hnew i hi b e
      omega
def modeOf : Exit → Option FrameMode
  | .normal | .ret => some .returning
  | .panic ch => some (.panicking ch)
  | _ => none
def bodyD (P : Program) (rs : List ResultVar) (gc : FuncId) (capA : List AV) (X : AV) (e : Exit) (s : St) : Prop :=
  ∃ u, modeOf e = some u ∧ ∃ (is : List Nat) (ys' : List AV) (mid fin : List AObj), Lend is s ([] ++ [] ++ capA) ys' mid ∧ DefD P gc ys' mid u fin ∧ Ret P rs X ⟨s.tmps, updO (apx s.objs.length is) s.objs is (fin.map some)⟩
theorem FnD.intro {fn : Func} {c0 c2 : Code} {id : Nat} {d : Tmp} {gc : FuncId} {caps : Array Operand} {t1 t2 : TypeId} {p1 p2 : String} {af1 af2 : Array Edge} {rs : List ResultVar} {X : AV} {l1 : List (Nat × AV)} {M1 : Nat} {os1 : List (Nat × Option AObj)} {capA : List AV}
    (hX : X.bd 0 = true) (he : enterable P g = true) (hf : P.funcs[g]? = some fn) (hb : fn.body = some (.seq c0 (.seq (.region id [⟨some d, .makeFunc (.func gc) #[] caps, t1, p1, af1, none⟩, ⟨none, .defer ⟨.value (.tmp d), #[], #[]⟩, t2, p2, af2, none⟩].toArray false) c2)))
    (hrs : fn.results = rs.toArray) (hn : fn.ntmps = n) (hl : ys.length ≤ n) (hdn : d < n) (hcap : opqL n l1 caps.toList = some capA) (hptr : ∀ x, x ∈ capA → ∃ i k, x = .ptr i k 0 0 ∧ i < M1) (hlive : ∀ i, i < M1 → (lookq M1 os1 i).isSome = true)
    (h0 : ∀ Γ : Cx, Γ.m = 0 → WP P Γ c0 (fun e s => e = .normal ∧ s = S n l1 M1 os1) (S n (enumA 0 ys) 0 (enumO 0 [])))
    (h2 : ∀ Γ : Cx, Γ.m = M1 → WP P Γ c2 (bodyD P rs gc capA X) (S n ((d, .clo (.func gc) [] capA) :: l1) M1 os1)) : Fn P g ys X := by
  refine ⟨⟨he, fun Γ vs hm hs => calls_of_wp_defers hf hb ?_⟩, hX⟩
  simp only [List.length_nil] at hm
  obtain ⟨ρ, hs⟩ := hs
  have hds : Γ.ds = [] := hs.defers.symm
  have hlen : vs.size = ys.length := hs.len
  have hst : SR Γ ⟨ys ++ List.replicate (fn.ntmps - ys.length) .any, ([] : List AObj).map some⟩ ⟨vs ++ Array.replicate (fn.ntmps - vs.size) undef, []⟩ Γ.w0 := by
    refine ⟨ρ, hs.ext, by simp [hlen], ?_, hs.obj, hs.made, hs.bound, hs.own, hs.inj, hs.defers, hs.fr⟩
    intro i x v hx hv
    simp only at hx hv
    by_cases hi : i < ys.length
    · rw [List.getElem?_append_left hi] at hx
      rw [Array.getElem?_append_left (by omega)] at hv
      exact hs.tmp i x v hx hv
    · rw [List.getElem?_append_right (by omega)] at hx
      have hm := List.mem_of_getElem? hx
      rw [(List.mem_replicate.1 hm).2]
      exact .any
  subst hn
  rw [tl_start _ _ hl] at hst
  have hw0 := h0 Γ hm
  have hst2 : SR Γ (S fn.ntmps (enumA 0 ys) 0 (enumO 0 ([] : List AObj))) ⟨vs ++ Array.replicate (fn.ntmps - vs.size) undef, []⟩ Γ.w0 := hst
  refine wp_seq (wp_mono (hw0 _ _ hst2) ?_)
  rintro e a1 w1 ⟨s1, ⟨rfl, rfl⟩, hs1⟩
  refine wp_seq ?_
  refine wp_region_lit (wpList_plain rfl fun K hK => ?_)
  obtain ⟨ρ1, hρ1⟩ := hs1
  have hcv : ∀ (i : Nat) x v, capA[i]? = some x → (caps.toList.map a1.eval)[i]? = some v → RV (fun id => id < (S fn.ntmps l1 M1 os1).objs.length) ρ1 (Im Γ ρ1 (S fn.ntmps l1 M1 os1) w1) w1 x v := by
    intro i x v hx hv
    have hq := opqL_op (M := M1) (os := os1) hcap
    rw [← hq] at hx
    simp only [List.getElem?_map, Option.map_eq_some_iff] at hx hv
    obtain ⟨p, hp, rfl⟩ := hx
    obtain ⟨q, hq', rfl⟩ := hv
    rw [hp] at hq'; injection hq' with hq'; subst hq'
    exact hρ1.eval p
  have hcl : capA.length = (caps.map a1.eval).size := by
    have hq := opqL_op (M := M1) (os := os1) hcap
    rw [← hq]; simp
  have hrvc : RV (fun id => id < (S fn.ntmps l1 M1 os1).objs.length) ρ1 (Im Γ ρ1 (S fn.ntmps l1 M1 os1) w1) w1 (.clo (.func gc) [] capA) (.func (.func gc) #[] (caps.map a1.eval)) :=
    .clo rfl hcl (fun i x v hx => by simp at hx) (fun i x v hx hv => hcv i x v hx (by simpa using hv))
  unfold Oper.wp
  have hex : (execOp a1.eval ⟨some d, .makeFunc (.func gc) #[] caps, t1, p1, af1, none⟩).run P w1 = .ok (.value (.func (.func gc) #[] (caps.map a1.eval))) w1 := by
    simp [execOp, Instr.makeFunc]
  rw [hex]
  simp only [Oper.upon]
  refine hK _ _ ?_
  refine wpList_plain rfl fun K2 hK2 => ?_
  have hput := hρ1.put (some d) hrvc
  rw [S_put] at hput
  have hdval : (a1.put (some d) (.func (.func gc) #[] (caps.map a1.eval))).eval (.tmp d) = .func (.func gc) #[] (caps.map a1.eval) := by
    have hsz : a1.tmps.size = fn.ntmps := by rw [hρ1.len]; simp [S, tl_length]
    simp [Act.eval, Act.put, hsz, hdn]
  unfold Oper.wp
  generalize ha1 : a1.put (some d) (.func (.func gc) #[] (caps.map a1.eval)) = a1' at *
  have hex2 : (execOp a1'.eval ⟨none, .defer ⟨.value (.tmp d), #[], #[]⟩, t2, p2, af2, none⟩).run P w1 = .ok (.defer ⟨.fn (.func gc) (caps.map a1.eval), #[]⟩) w1 := by
    simp [execOp, resolve, hdval, Deferred.ofValue]
  rw [hex2]
  simp only [Oper.upon]
  refine hK2 _ _ ?_
  refine wpList_nil ?_
  have hda : a1'.defers = [] := hput.defers.trans hds
  have hlv : ∀ i, i < M1 → ∃ o, (S fn.ntmps ((d, .clo (.func gc) [] capA) :: l1) M1 os1).live i o := fun i hi => by
    obtain ⟨o, ho⟩ := Option.isSome_iff_exists.1 (hlive i hi)
    exact ⟨o, St.look_some.1 (by rw [S_look]; exact ho)⟩
  have hMl : ∀ l : List (Nat × AV), (S fn.ntmps l M1 os1).objs.length = M1 := fun l => ol_length M1 os1
  obtain ⟨Γ', hm', hds', hρ0', hsr', hdown⟩ := SRa.boxes (A := fun id => id < M1) (by simpa [hMl] using hput) hm hds M1 hlv ⟨.fn (.func gc) (caps.map a1.eval), #[]⟩
  have hact : ({ a1' with defers := (⟨.fn (.func gc) (caps.map a1.eval), #[]⟩ : Deferred) :: a1'.defers } : Act).put none undef = { a1' with defers := [⟨.fn (.func gc) (caps.map a1.eval), #[]⟩] } := by rw [hda]; rfl
  rw [hact]
  refine wp_mono (h2 Γ' hm' _ _ ⟨ρ1, by simpa [hMl] using hsr'⟩) ?_
  rintro e a' w' ⟨s', ⟨u, hu, is, ys', mid, fin, hL, hD, x0, hres, hz⟩, ρ', hs'⟩
  have hda' : a'.defers = [⟨.fn (.func gc) (caps.map a1.eval), #[]⟩] := hs'.defers.trans hds'
  have hrun : u ≠ .run := by cases e <;> simp [modeOf] at hu <;> subst hu <;> simp
  have hcv' : ∀ (i : Nat) x v, capA[i]? = some x → (caps.map a1.eval)[i]? = some v → RV (fun id => id < s'.objs.length) ρ' (Im Γ' ρ' s' w') w' x v := by
    intro i x v hx hv
    obtain ⟨j, k, rfl, hj⟩ := hptr x (List.mem_of_getElem? hx)
    have h1 := hcv i _ v hx (by simpa using hv)
    obtain ⟨hjA, hjρ⟩ := hs'.ext j (by omega)
    cases h1 with
    | ptr hA hb => exact .ptr hjA (by rw [hjρ, hρ0']; exact hb)
  have hrvc' : RV (fun id => id < s'.objs.length) ρ' (Im Γ' ρ' s' w') w' (.clo (.func gc) [] capA) (.func (.func gc) #[] (caps.map a1.eval)) :=
    .clo rfl hcl (fun i x v hx => by simp at hx) hcv'
  obtain ⟨us, hrn, Γ'', hm'', hw'', hds'', hsr'', hback⟩ := hs'.view is (args := []) (vs := []) hD.1 hrvc' rfl (fun i x v hx => by simp at hx) hL
  have hleaves : Leaves P fn a'.tmps (fun e w' => ∃ r objs' v, e = .returned v ∧ (r = X ∧ r.bd 0 = true) ∧ SR Γ ⟨[r], objs'⟩ ⟨#[v], []⟩ w') a'.defers u w' := by
    rw [hda']
    refine leaves_cons (f := gc) (args := us) hrun (by have := hrn w'; simpa [Deferred.ofValue] using this) ?_
    have hlenL : is.length = mid.length := by have := wkRO_len hL.2.1; simpa using this.symm
    have hDs := hD.2.2 Γ'' us hm'' hds'' (by rw [hw'']; exact hsr'')
    rw [hw''] at hDs
    refine hDs.mono ?_
    rintro e2 u2 w2 ⟨⟨v2, rfl⟩, hset, hsr2⟩
    simp only
    rw [hset]
    have hb2 := hback _ _ _ _ (by rw [List.length_map]; exact Nat.le_of_eq hD.2.1) hsr2
    have hfin := hdown _ _ _ hb2
    obtain ⟨ρ3, h3⟩ := hfin
    obtain ⟨v, hv, _⟩ := resN_sound h3 (by rw [hrs]) hres
    refine ⟨v, hv, X, [], v, rfl, ⟨rfl, hX⟩, SR.out ⟨ρ3, h3⟩ hds hm hz fun ρ4 h4 => ?_⟩
    obtain ⟨v4, hv4, hr4⟩ := resN_sound h4 (by rw [hrs]) hres
    rw [hv] at hv4
    injection hv4 with e1
    subst e1
    exact hr4
  cases e with
  | normal => simp only [modeOf, Option.some.injEq] at hu; subst hu; exact hleaves
  | ret => simp only [modeOf, Option.some.injEq] at hu; subst hu; exact hleaves
  | panic ch => simp only [modeOf, Option.some.injEq] at hu; subst hu; exact hleaves
  | _ => simp [modeOf] at hu
theorem bd_end {rs : List ResultVar} {gc : FuncId} {capA ys' : List AV} {X : AV} {e : Exit} {u : FrameMode} (is : List Nat) {mid fin : List AObj} (hu : modeOf e = some u) (hL : Lend is (S n l M os) ([] ++ [] ++ capA) ys' mid) (hD : DefD P gc ys' mid u fin) (hr : Ret P rs X (S n l M (updN (apx M is) M is (fin.map some) os))) : bodyD P rs gc capA X e (S n l M os) := by
  refine ⟨u, hu, is, ys', mid, fin, hL, hD, ?_⟩
  have hM : (S n l M os).objs.length = M := ol_length M os
  have hil : is.length = mid.length := by have := wkRO_len hL.2.1; simpa using this.symm
  have h1 := hD.2.1
  have e1 : (⟨(S n l M os).tmps, updO (apx (S n l M os).objs.length is) (S n l M os).objs is (fin.map some)⟩ : St) = S n l M (updN (apx M is) M is (fin.map some) os) := by
    rw [hM]
    simp only [S]
    rw [updN_ol is (fin.map some) os (by simp; omega)]
    simp [hil, h1]
  rw [e1]
  exact hr
def upd0 : List Nat → List (Nat × List AV) → List (Nat × Option AObj) → List (Nat × Option AObj)
  | i :: is, (k, vs) :: fs, os => upd0 is fs ((i, some (.arr k vs)) :: os)
  | _, _, os => os
theorem updN_pure {π : Nat → Nat} : ∀ (is : List Nat) (fs : List (Nat × List AV)) (os : List (Nat × Option AObj)), is.length = fs.length → (fs.all fun p => bdL 0 p.2) = true → updN π M is (fs.map fun p => some (.arr p.1 p.2)) os = upd0 is fs os
  | [], [], os, _, _ => by simp [updN, newO, upd0]
  | i :: is, (k, vs) :: fs, os, h, hb => by
    simp only [List.all_cons, Bool.and_eq_true] at hb
    simp only [List.map_cons, updN, Option.map_some, AObj.ren, renL_pure hb.1, upd0]
    exact updN_pure is fs _ (by simpa using h) hb.2
  | [], _ :: _, _, h, _ => by simp at h
  | _ :: _, [], _, h, _ => by simp at h
theorem bd_endp {rs : List ResultVar} {gc : FuncId} {capA ys' : List AV} {X : AV} {e : Exit} {u : FrameMode} (is : List Nat) {mid : List AObj} (fs : List (Nat × List AV)) (hu : modeOf e = some u) (hL : Lend is (S n l M os) ([] ++ [] ++ capA) ys' mid) (hD : DefD P gc ys' mid u (fs.map fun p => .arr p.1 p.2)) (hb : (fs.all fun p => bdL 0 p.2) = true)
    (hr : Ret P rs X (S n l M (upd0 is fs os))) : bodyD P rs gc capA X e (S n l M os) := by
  refine bd_end is hu hL hD ?_
  have hil : is.length = mid.length := by have := wkRO_len hL.2.1; simpa using this.symm
  have h1 := hD.2.1
  rw [List.length_map] at h1
  rw [List.map_map]
  have := updN_pure (M := M) (π := apx M is) is fs os (by omega) hb
  rw [show (some ∘ fun p : Nat × List AV => AObj.arr p.1 p.2) = fun p => some (.arr p.1 p.2) from rfl, this]
  exact hr
theorem DefD.intro {fn : Func} {c2 : Code} {id : Nat} {d x : Tmp} {t1 t2 : TypeId} {p1 p2 : String} {af1 af2 : Array Edge} {aos fin : List AObj} {u u2 : FrameMode} {rv : Value} (he : enterable P g = true) (hlen : aos.length = fin.length) (hf : P.funcs[g]? = some fn)
    (hb : fn.body = some (.seq (.region id [⟨some d, .call ⟨.builtin .recover, #[], #[]⟩, t1, p1, af1, none⟩, ⟨some x, .assign (.tmp d), t2, p2, af2, none⟩].toArray false) c2)) (hrs : fn.results = #[]) (hn : fn.ntmps = n) (hl : ys.length ≤ n) (hdn : d < n) (hat : atom rv = true)
    (hrec : ∀ (c₀ : Frame) (cs : List Frame), c₀.mode = u → (recoverD (c₀ :: cs) = some (rv, { c₀ with mode := u2 } :: cs)) ∨ (recoverD (c₀ :: cs) = none ∧ rv = .nilIface ∧ u2 = u)) (hset : settle u2 = .returning)
    (h2 : ∀ Γ : Cx, Γ.m = aos.length → WP P Γ c2 (bodyQ (RetO P [] aos.length (.tup []) (fin.map some))) (S n ((x, .val rv) :: (d, .val rv) :: enumA 0 ys) aos.length (enumO 0 aos))) : DefD P g ys aos u fin := by
  refine ⟨he, hlen, fun Γ vs hm hds hs => callsD_of_wpS hf hb fun c₀ cs hc => ?_⟩
  obtain ⟨ρ, hs⟩ := hs
  have hlen' : vs.size = ys.length := hs.len
  have hst : SR Γ ⟨ys ++ List.replicate (fn.ntmps - ys.length) .any, aos.map some⟩ ⟨vs ++ Array.replicate (fn.ntmps - vs.size) undef, []⟩ Γ.w0 := by
    refine ⟨ρ, hs.ext, by simp [hlen'], ?_, hs.obj, hs.made, hs.bound, hs.own, hs.inj, hs.defers, hs.fr⟩
    intro i x v hx hv
    simp only at hx hv
    by_cases hi : i < ys.length
    · rw [List.getElem?_append_left hi] at hx
      rw [Array.getElem?_append_left (by omega)] at hv
      exact hs.tmp i x v hx hv
    · rw [List.getElem?_append_right (by omega)] at hx
      have hm := List.mem_of_getElem? hx
      rw [(List.mem_replicate.1 hm).2]
      exact .any
  subst hn
  rw [tl_start _ _ hl, ol_enum] at hst
  generalize hact : (⟨vs ++ Array.replicate (fn.ntmps - vs.size) undef, []⟩ : Act) = a0 at *
  have hst2 : SR Γ (S fn.ntmps (enumA 0 ys) aos.length (enumO 0 aos)) a0 Γ.w0 := hst
  obtain ⟨ρ', h0⟩ := hst2
  have h1 := h0.put (some d) (x := .val rv) (v := rv) (.val hat)
  rw [S_put] at h1
  have hev : (a0.put (some d) rv).eval (.tmp d) = rv := by
    have hsz : a0.tmps.size = fn.ntmps := by rw [h0.len]; simp [S, tl_length]
    simp [Act.eval, Act.put, hsz, hdn]
  generalize ha1 : a0.put (some d) rv = a1 at *
  have h3 : SRa Γ (fun id => id < (S fn.ntmps (enumA 0 ys) aos.length (enumO 0 aos)).objs.length) ρ' (S fn.ntmps ((x, .val rv) :: (d, .val rv) :: enumA 0 ys) aos.length (enumO 0 aos)) (a1.put (some x) rv) Γ.w0 := by
    have := SRa.put (s := S fn.ntmps ((d, .val rv) :: enumA 0 ys) aos.length (enumO 0 aos)) (by simpa [S, ol_length] using h1) (some x) (x := .val rv) (v := rv) (.val hat)
    rw [S_put] at this
    simpa [S, ol_length] using this
  have key : ∀ cs', cs' = { c₀ with mode := u2 } :: cs → c2.wpS P (bodyPostS P fn c₀ cs fun e u' w' => (∃ v, e = .returned v) ∧ settle u' = .returning ∧ SR Γ ⟨[.tup []], fin.map some⟩ ⟨#[.tuple #[]], []⟩ w') (a1.put (some x) rv) cs' Γ.w0 := by
    rintro cs' rfl
    refine wpS_of_wp (wp_mono (h2 Γ hm _ _ ⟨ρ', by simpa [S, ol_length] using h3⟩) ?_)
    rintro e a' w' ⟨s', hq, ρ2, hs'⟩
    have fin2 : RetO P [] aos.length (.tup []) (fin.map some) s' → bodyPostS P fn c₀ cs (fun e u' w' => (∃ v, e = .returned v) ∧ settle u' = .returning ∧ SR Γ ⟨[.tup []], fin.map some⟩ ⟨#[.tuple #[]], []⟩ w') .ret a' ({ c₀ with mode := u2 } :: cs) w' := by
      rintro ⟨y, is, hy, hT⟩
      obtain ⟨v, hv, _⟩ := resN_sound hs' (by rw [hrs]) hy
      have hv0 : v = .tuple #[] := by
        rw [results_rdv, hrs] at hv
        simp at hv
        exact hv.symm
      have hy0 : y = .tup [] := by simp [resN, resL, tupA] at hy; exact hy.symm
      subst hy0
      refine ⟨hs'.defers.trans hds, u2, rfl, v, hv, ⟨v, rfl⟩, hset, ?_⟩
      have h5 : SR Γ ⟨[.tup []], s'.objs⟩ ⟨#[v], []⟩ w' := SR.result ⟨ρ2, hs'⟩ hds fun ρ4 h4 => by
        obtain ⟨v4, hv4, hr4⟩ := resN_sound h4 (by rw [hrs]) hy
        rw [hv] at hv4
        injection hv4 with e1
        subst e1
        exact hr4
      subst hv0
      exact h5.toR (by rw [hm]; exact hT)
    cases e with
    | normal => exact fin2 hq
    | ret => exact fin2 hq
    | _ => exact hq.elim
  refine wpS_seq (wpS_region ?_)
  have hrange : List.range [(⟨some d, .call ⟨.builtin .recover, #[], #[]⟩, t1, p1, af1, none⟩ : Oper), ⟨some x, .assign (.tmp d), t2, p2, af2, none⟩].toArray.size = [0, 1] := rfl
  rw [hrange]
  have hex : (execOp a0.eval ⟨some d, .call ⟨.builtin .recover, #[], #[]⟩, t1, p1, af1, none⟩).run P Γ.w0 = .ok .recover Γ.w0 := by
    simp [execOp, resolve, invoke, builtin]
  have hex2 : (execOp a1.eval ⟨some x, .assign (.tmp d), t2, p2, af2, none⟩).run P Γ.w0 = .ok (.value rv) Γ.w0 := by
    simp [execOp, hev]
  rcases hrec c₀ cs hc with hr | ⟨hr, hrv, hu⟩
  · simp only [wpOpsS, List.getElem?_toArray, List.getElem?_cons_zero, List.getElem?_cons_succ, Region.wanted, if_true, hex, hr, ha1, hex2, Oper.upon]
    exact key _ rfl
  · simp only [wpOpsS, List.getElem?_toArray, List.getElem?_cons_zero, List.getElem?_cons_succ, Region.wanted, if_true, hex, hr, ← hrv, ha1, hex2, Oper.upon]
    refine key _ ?_
    rw [hu, ← hc]
variable {d t : Tmp} {ty ty2 tx : TypeId} {pos : String} {af : Array Edge} {ops : Array Oper} {rest : List Oper} {K : St → Prop} {o1 : Operand} {T : TypeId} {v : Value}
def isIf (P : Program) (tx : TypeId) : Bool := match P.underlying tx with
  | some (.interface _) => true
  | _ => false
theorem equal_iface_nil (h : isIf P tx = true) (w : World) : (Op.equal tx (.iface T v) .nilIface).run P w = .ok false w := by
  unfold isIf at h
  cases hu : P.underlying tx with
  | none => rw [hu] at h; cases h
  | some D =>
    rw [hu] at h
    cases D with
    | interface ms =>
      unfold Op.equal
      obtain ⟨d, hd⟩ : ∃ d, Op.maxDepth = d + 1 := ⟨_, rfl⟩
      rw [hd]
      unfold Op.equalIn
      simp only [Sem.run_bind, run_underlying hu, Result.andThen_ok, Sem.run_pure]
    | _ => cases h
theorem equal_nil_nil (h : isIf P tx = true) (w : World) : (Op.equal tx .nilIface .nilIface).run P w = .ok true w := by
  unfold isIf at h
  cases hu : P.underlying tx with
  | none => rw [hu] at h; cases h
  | some D =>
    rw [hu] at h
    cases D with
    | interface ms =>
      unfold Op.equal
      obtain ⟨d, hd⟩ : ∃ d, Op.maxDepth = d + 1 := ⟨_, rfl⟩
      rw [hd]
      unfold Op.equalIn
      simp only [Sem.run_bind, run_underlying hu, Result.andThen_ok, Sem.run_pure]
    | _ => cases h
theorem run_neq_iface (h : isIf P tx = true) (ρ : Operand → Value) (hv : ρ o1 = .iface T v) (hn : ρ (.const .nilIface) = .nilIface) (w : World) : (execOp ρ ⟨some d, .binOp .neq tx o1 (.const .nilIface) ty2, ty, pos, af, none⟩).run P w = .ok (.value (.bool true)) w := by
  have e1 : execOp ρ ⟨some d, .binOp .neq tx o1 (.const .nilIface) ty2, ty, pos, af, none⟩ = (do let x ← (do eqGuard .neq tx o1 (.const .nilIface) (ρ o1) (ρ (.const .nilIface)); binOp .neq tx (ρ o1) (ρ (.const .nilIface)) : Sem Value); pure (.value x)) := rfl
  rw [e1, hv, hn]
  have e2 : (eqGuard .neq tx o1 (.const .nilIface) (.iface T v) .nilIface : Sem Unit) = pure () := rfl
  have e3 : binOp .neq tx (.iface T v) .nilIface = (do let b ← Op.equal tx (.iface T v) .nilIface; pure (.bool (!b)) : Sem Value) := rfl
  rw [e2, e3]
  simp only [Sem.run_bind, Sem.run_pure, Result.andThen_ok, equal_iface_nil h, Bool.not_false]
theorem run_neq_nil (h : isIf P tx = true) (ρ : Operand → Value) (hv : ρ o1 = .nilIface) (hn : ρ (.const .nilIface) = .nilIface) (w : World) : (execOp ρ ⟨some d, .binOp .neq tx o1 (.const .nilIface) ty2, ty, pos, af, none⟩).run P w = .ok (.value (.bool false)) w := by
  have e1 : execOp ρ ⟨some d, .binOp .neq tx o1 (.const .nilIface) ty2, ty, pos, af, none⟩ = (do let x ← (do eqGuard .neq tx o1 (.const .nilIface) (ρ o1) (ρ (.const .nilIface)); binOp .neq tx (ρ o1) (ρ (.const .nilIface)) : Sem Value); pure (.value x)) := rfl
  rw [e1, hv, hn]
  have e2 : (eqGuard .neq tx o1 (.const .nilIface) .nilIface .nilIface : Sem Unit) = pure () := by
    cases o1 <;> rfl
  have e3 : binOp .neq tx .nilIface .nilIface = (do let b ← Op.equal tx .nilIface .nilIface; pure (.bool (!b)) : Sem Value) := rfl
  rw [e2, e3]
  simp only [Sem.run_bind, Sem.run_pure, Result.andThen_ok, equal_nil_nil h, Bool.not_true]
theorem se_neq_iface (hty : isIf P tx = true) (ha : opq n l o1 = some (.val (.iface T v))) (hk : asemC P ops rest (S n ((d, .val (.bool true)) :: l) M os) K) :
    asemC P ops (⟨some d, .binOp .neq tx o1 (.const .nilIface) ty2, ty, pos, af, none⟩ :: rest) (S n l M os) K := by
  simp only [asemC]
  refine .inr (.inr ⟨_, hk, fun Γ ac w hs => ?_⟩)
  obtain ⟨ρ, hs⟩ := hs
  have hv : ac.eval o1 = .iface T v := by
    have := hs.eval o1
    rw [opq_op ha] at this
    exact this.val_eq
  refine ⟨.bool true, w, run_neq_iface hty _ hv rfl w, ρ, ?_⟩
  have := hs.put (some d) (x := .val (.bool true)) (v := .bool true) (.val rfl)
  rw [S_put] at this
  exact this
theorem se_neq_nil (hty : isIf P tx = true) (ha : opq n l o1 = some (.val .nilIface)) (hk : asemC P ops rest (S n ((d, .val (.bool false)) :: l) M os) K) :
    asemC P ops (⟨some d, .binOp .neq tx o1 (.const .nilIface) ty2, ty, pos, af, none⟩ :: rest) (S n l M os) K := by
  simp only [asemC]
  refine .inr (.inr ⟨_, hk, fun Γ ac w hs => ?_⟩)
  obtain ⟨ρ, hs⟩ := hs
  have hv : ac.eval o1 = .nilIface := by
    have := hs.eval o1
    rw [opq_op ha] at this
    exact this.val_eq
  refine ⟨.bool false, w, run_neq_nil hty _ hv rfl w, ρ, ?_⟩
  have := hs.put (some d) (x := .val (.bool false)) (v := .bool false) (.val rfl)
  rw [S_put] at this
  exact this
def notIf (P : Program) (tx : TypeId) : Bool := match P.underlying tx with
  | some (.interface _) => false
  | some _ => true
  | none => false
theorem run_assert (h : notIf P T = true) (ρ : Operand → Value) (hv : ρ o1 = .iface T v) (w : World) : (execOp ρ ⟨some d, .typeAssert o1 tx T false, ty, pos, af, none⟩).run P w = .ok (.value v) w := by
  unfold notIf at h
  cases hu : P.underlying T with
  | none => rw [hu] at h; cases h
  | some D =>
    rw [hu] at h
    cases D <;> first
      | (simp at h; done)
      | (simp only [execOp, Instr.typeAssert, hv, Sem.run_bind, run_underlying hu, Result.andThen_ok, Sem.run_pure, if_true]; rfl)
theorem se_assert (h : notIf P T = true) (ha : opq n l o1 = some (.val (.iface T v))) (hat : atom v = true) (hk : asemC P ops rest (S n ((d, .val v) :: l) M os) K) :
    asemC P ops (⟨some d, .typeAssert o1 tx T false, ty, pos, af, none⟩ :: rest) (S n l M os) K := by
  simp only [asemC]
  refine .inr (.inr ⟨_, hk, fun Γ ac w hs => ?_⟩)
  obtain ⟨ρ, hs⟩ := hs
  have hv : ac.eval o1 = .iface T v := by
    have := hs.eval o1
    rw [opq_op ha] at this
    exact this.val_eq
  refine ⟨v, w, run_assert h _ hv w, ρ, ?_⟩
  have := hs.put (some d) (x := .val v) (v := v) (.val hat)
  rw [S_put] at this
  exact this
end
end Go.Lg

namespace Go.Lg
def jR := @bo_n
end Go.Lg

namespace Go.Lg
open Go.Proofs
set_option linter.unusedSimpArgs false
set_option linter.unusedVariables false
attribute [local irreducible] Ap Rq asemC WP RunD Ret Gq thenA inBlockA bodyQ noGotoA RqL RqP OpP
set_option maxHeartbeats 4000000
set_option maxRecDepth 20000
attribute [local simp] rdA pkA tokA toks_bd
def boxF (x : AV) : AObj := .arr 3 [x]
def boxI (k : IntKind) (x : Int) : AObj := .arr 1 [.val (.int k x)]
def nilF : AV := .agg [strA ⟨#[]⟩, .val (.slice none 0 0), .val (.slice none 0 0)]
theorem def_ret (xa xb xc : AV) (ha : ∀ n, xa.bd n = true) (hb : ∀ n, xb.bd n = true) (hc' : ∀ n, xc.bd n = true) (o r : Int) : DefD Try.prog 18 [.ptr 0 3 0 0, .ptr 1 1 0 0, .ptr 2 1 0 0] [boxF (.agg [xa, xb, xc]), boxI .i64 o, boxI .i64 r] .returning [boxF (.agg [xa, xb, xc]), boxI .i64 o, boxI .i64 r] := by
  refine DefD.intro (u2 := .returning) (rv := .nilIface) (by kernel_rfl) rfl Try.func18 rfl rfl Try.ntmps18 (by exact Nat.le_of_ble_eq_true rfl) (by decide) rfl (fun c₀ cs hc => .inr ⟨by simp only [recoverD, hc], rfl, rfl⟩) rfl ?_
  intro Γ hm
  (repeat' (first | apply jA | apply jH | apply jI | apply jR | (refine wp_cond rfl (fun hc => ?_) (fun hc => ?_) <;> (try simp only [sB, ne_eq, reduceCtorEq] at hc) <;> (try (exfalso; omega))) | (refine WP.regionC (id := 1) ?_; (refine smove rfl ?_); (refine se_neq_nil (by kernel_rfl) rfl ?_); apply jW)))
  · refine retO_L (x := .tup []) (k := 3) (os1 := [(0, some (boxF (.agg [xa, xb, xc]))), (1, some (boxI .i64 o)), (2, some (boxI .i64 r))]) .nil rfl ⟨[0, 1, 2], ToR.S rfl (by repeat' (first | exact rt_nil | refine rt_e rfl rfl ?_)) (by repeat' (first | exact ro_nil | refine ro_e rfl rfl ?_ | refine ro_p rfl (by first | exact rfl | fail) (by first | (simp [bdL, bdL_append, AV.bd, *]; done) | fail) ?_)) rfl rfl rfl (by (simp [bdT, AV.bd, bdL, bdL_append]; done)) (by repeat' (first | exact True.intro | exact rfl | refine And.intro ?_ ?_ | simp [bdOq, bdL, bdL_append, AV.bd, *])) (by exact Nat.le_of_ble_eq_true rfl)⟩ rfl
theorem def_panic (xa xb xc : AV) (ha : ∀ n, xa.bd n = true) (hb : ∀ n, xb.bd n = true) (hc' : ∀ n, xc.bd n = true) (o r p : Int) : DefD Try.prog 18 [.ptr 0 3 0 0, .ptr 1 1 0 0, .ptr 2 1 0 0] [boxF (.agg [xa, xb, xc]), boxI .i64 o, boxI .i64 r] (.panicking [{ v := synV p, recovered := false }]) [boxF nilF, boxI .i64 p, boxI .i64 3] := by
  refine DefD.intro (u2 := .panicking [{ v := synV p, recovered := true }]) (rv := synV p) (by kernel_rfl) rfl Try.func18 rfl rfl Try.ntmps18 (by exact Nat.le_of_ble_eq_true rfl) (by decide) rfl (fun c₀ cs hc => .inl (by simp only [recoverD, hc])) rfl ?_
  intro Γ hm
  (repeat' (first | apply jA | apply jH | apply jR | (refine wp_cond rfl (fun hc => ?_) (fun hc => ?_) <;> (try simp only [sB, ne_eq, reduceCtorEq] at hc) <;> (try (exfalso; omega))) | (refine WP.regionC (id := 1) ?_; (refine smove rfl ?_); (refine se_neq_iface (by kernel_rfl) rfl ?_); apply jW) | (refine wp_tree (id := 2) 6 mixed rfl ?_ <;> (refine wpt_take 1 rfl still_move (by exact ap_move (rq_p rfl rfl)) (by kernel_rfl) (by kernel_rfl) (by kernel_rfl) (by repeat (exact pind_q)) ?_; (refine wpt_all (rs := [0, 2]) (by kernel_rfl) rfl ⟨?_, ?_, trivial⟩ <;> (first | (refine wpo_do (i := 0) rfl rfl ?_; (refine su (ap_build (RqP.nil) rfl) ?_); apply jW; (refine wpt_all (rs := [2, 3]) (by kernel_rfl) rfl ⟨?_, ?_, trivial⟩ <;> (first | (refine wpo_do (i := 2) rfl rfl ?_; (refine se_assert (by kernel_rfl) rfl (by kernel_rfl) ?_); apply jW; (refine wpt_all (rs := [3]) (by kernel_rfl) rfl ⟨?_, trivial⟩; (refine wpo_do (i := 3) rfl rfl ?_; (refine se_store_b rfl rfl rfl rfl ?_); apply jW; (refine wpt_all (rs := [4]) (by kernel_rfl) rfl ⟨?_, trivial⟩; (refine wpo_do (i := 4) rfl rfl ?_; (refine se_store_b rfl rfl rfl rfl ?_); apply jW; (refine wpt_all (rs := [5]) (by kernel_rfl) rfl ⟨?_, trivial⟩; (refine wpo_do (i := 5) rfl rfl ?_; (refine se_store_b rfl rfl rfl rfl ?_); apply jW; (refine wpt_end (by kernel_rfl) ?_)))))))) | (refine wpo_do (i := 3) rfl rfl ?_; (refine se_store_b rfl rfl rfl rfl ?_); apply jW; (refine wpt_all (rs := [2]) (by kernel_rfl) rfl ⟨?_, trivial⟩; (refine wpo_do (i := 2) rfl rfl ?_; (refine se_assert (by kernel_rfl) rfl (by kernel_rfl) ?_); apply jW; (refine wpt_all (rs := [4]) (by kernel_rfl) rfl ⟨?_, trivial⟩; (refine wpo_do (i := 4) rfl rfl ?_; (refine se_store_b rfl rfl rfl rfl ?_); apply jW; (refine wpt_all (rs := [5]) (by kernel_rfl) rfl ⟨?_, trivial⟩; (refine wpo_do (i := 5) rfl rfl ?_; (refine se_store_b rfl rfl rfl rfl ?_); apply jW; (refine wpt_end (by kernel_rfl) ?_))))))))))) | (refine wpo_do (i := 2) rfl rfl ?_; (refine se_assert (by kernel_rfl) rfl (by kernel_rfl) ?_); apply jW; (refine wpt_all (rs := [0]) (by kernel_rfl) rfl ⟨?_, trivial⟩; (refine wpo_do (i := 0) rfl rfl ?_; (refine su (ap_build (RqP.nil) rfl) ?_); apply jW; (refine wpt_all (rs := [3]) (by kernel_rfl) rfl ⟨?_, trivial⟩; (refine wpo_do (i := 3) rfl rfl ?_; (refine se_store_b rfl rfl rfl rfl ?_); apply jW; (refine wpt_all (rs := [4]) (by kernel_rfl) rfl ⟨?_, trivial⟩; (refine wpo_do (i := 4) rfl rfl ?_; (refine se_store_b rfl rfl rfl rfl ?_); apply jW; (refine wpt_all (rs := [5]) (by kernel_rfl) rfl ⟨?_, trivial⟩; (refine wpo_do (i := 5) rfl rfl ?_; (refine se_store_b rfl rfl rfl rfl ?_); apply jW; (refine wpt_end (by kernel_rfl) ?_))))))))))))))))
  all_goals refine retO_L (x := .tup []) (k := 3) (os1 := [(0, some (boxF nilF)), (1, some (boxI .i64 p)), (2, some (boxI .i64 3))]) .nil rfl ⟨[0, 1, 2], ToR.S rfl (by repeat' (first | exact rt_nil | refine rt_e rfl rfl ?_)) (by repeat' (first | exact ro_nil | refine ro_e rfl rfl ?_)) rfl rfl rfl (by (simp [bdT, AV.bd, bdL, bdL_append]; done)) (by repeat' (first | exact True.intro | exact rfl | refine And.intro ?_ ?_)) (by exact Nat.le_of_ble_eq_true rfl)⟩ rfl
end Go.Lg

namespace Go.Lg
open Go.Proofs
set_option linter.unusedSimpArgs false
set_option linter.unusedVariables false
attribute [local irreducible] Ap Rq asemC WP RunD Ret Gq thenA inBlockA bodyQ noGotoA RqL RqP OpP
set_option maxHeartbeats 4000000
theorem gpletter_fn (c : Int) : Fn Try.prog 49 [.val (.int .u8 c)] (boolA (letB c)) := by
  refine Fn.intro rfl (by kernel_rfl) Try.func49 rfl rfl Try.ntmps49 (by exact Nat.le_of_ble_eq_true rfl) ?_; intro Γ hm
  (repeat' (first | apply jA | apply jH | apply jK | apply jS | (refine WP.regionC (id := 0) ?_; (refine sassign rfl ?_); apply jW) | (refine WP.regionC (id := 1) ?_; (refine smove rfl ?_); (refine su (ageq rfl rfl) ?_); (refine smove rfl ?_); (refine sg (gq_vt rfl rfl) (fun he => ap_move (rq_p rfl rfl)) ?_); (refine sg (gq_vt rfl rfl) (fun he => ap_leq (rq_c rfl rfl) (rq_p rfl rfl)) ?_); (refine su (ap_and (rq_p rfl rfl) (rq_c rfl rfl)) ?_); (refine smove rfl ?_); (refine sg (gq_vf rfl rfl) (fun he => ap_move (rq_p rfl rfl)) ?_); (refine sg (gq_vf rfl rfl) (fun he => ap_geq (rq_c rfl rfl) (rq_p rfl rfl)) ?_); (refine sg (gq_vf rfl rfl) (fun he => ap_move (rq_c rfl rfl)) ?_); (refine sg (gq_ct rfl rfl) (fun he => ap_move (rq_p rfl rfl)) ?_); (refine sg (gq_ct rfl rfl) (fun he => ap_leq (rq_c rfl rfl) (rq_p rfl rfl)) ?_); (refine sg (gq_vf rfl rfl) (fun he => ap_and (rq_c rfl rfl) (rq_c rfl rfl)) ?_); (refine su (ap_or (rq_p rfl rfl) (rq_c rfl rfl)) ?_); (refine sassign rfl ?_); apply jW) | exact ret_eq rfl rfl rfl))
theorem gpdigit_fn (c : Int) : Fn Try.prog 51 [.val (.int .u8 c)] (boolA (digB c)) := by
  refine Fn.intro rfl (by kernel_rfl) Try.func51 rfl rfl Try.ntmps51 (by exact Nat.le_of_ble_eq_true rfl) ?_; intro Γ hm
  (repeat' (first | apply jA | apply jH | apply jK | apply jS | (refine WP.regionC (id := 0) ?_; (refine sassign rfl ?_); apply jW) | (refine WP.regionC (id := 1) ?_; (refine smove rfl ?_); (refine su (ageq rfl rfl) ?_); (refine smove rfl ?_); (refine sg (gq_vt rfl rfl) (fun he => ap_move (rq_p rfl rfl)) ?_); (refine sg (gq_vt rfl rfl) (fun he => ap_leq (rq_c rfl rfl) (rq_p rfl rfl)) ?_); (refine su (ap_and (rq_p rfl rfl) (rq_c rfl rfl)) ?_); (refine sassign rfl ?_); apply jW) | exact ret_eq rfl rfl rfl))
theorem lex1_fn (c : Int) : Fn Try.prog 48 [.val (.int .u8 c)] (boolA (!decide (c = 10))) := by
  refine Fn.intro rfl (by kernel_rfl) Try.func48 rfl rfl Try.ntmps48 (by exact Nat.le_of_ble_eq_true rfl) ?_; intro Γ hm
  (repeat' (first | apply jA | apply jH | apply jK | apply jS | (refine WP.regionC (id := 0) ?_; (refine sassign rfl ?_); apply jW) | (refine WP.regionC (id := 1) ?_; (refine smove rfl ?_); (refine su (aneq rfl rfl) ?_); (refine sassign rfl ?_); apply jW) | exact ret_eq rfl rfl rfl))
def wB (c : Int) : Bool := letB c || digB c || decide (c = 95)
theorem lex2_fn (c : Int) : Fn Try.prog 50 [.val (.int .u8 c)] (boolA (wB c)) := by
  unfold wB
  refine Fn.intro rfl (by kernel_rfl) Try.func50 rfl rfl Try.ntmps50 (by exact Nat.le_of_ble_eq_true rfl) ?_; intro Γ hm
  (repeat' (first | apply jA | apply jH | apply jK | apply jS | (refine WP.regionC (id := 0) ?_; (refine sassign rfl ?_); apply jW) | (refine WP.regionC (id := 1) ?_; (refine smove rfl ?_); (refine sc_p rfl rfl (by first | ((repeat' first | exact SubL.nil | refine SubL.cons ?_ ?_ | exact Sub.refl); done) | fail) (by first | (simp [bdL, bdL_append, AV.bd]; done) | fail) (gpletter_fn _) ?_); (refine smove rfl ?_); (refine sg (gq_vf rfl rfl) (fun he => ap_move (rq_p rfl rfl)) ?_); (refine sg_p (gq_vf rfl rfl) (fun he => ⟨(rq_p rfl rfl), (RqL.cons (rq_c rfl rfl) (RqL.nil)), (by first | ((repeat' first | exact SubL.nil | refine SubL.cons ?_ ?_ | exact Sub.refl); done) | fail), (by first | (simp [bdL, bdL_append, AV.bd]; done) | fail), gpdigit_fn _⟩) ?_); (refine su (ap_or (rq_p rfl rfl) (rq_c rfl rfl)) ?_); (refine smove rfl ?_); (refine sg (gq_vf rfl rfl) (fun he => ap_move (rq_p rfl rfl)) ?_); (refine sg (gq_vf rfl rfl) (fun he => ap_eql (rq_c rfl rfl) (rq_p rfl rfl)) ?_); (refine su (ap_or (rq_p rfl rfl) (rq_c rfl rfl)) ?_); (refine sassign rfl ?_); apply jW) | exact ret_eq rfl rfl rfl))
def spanN (p : Int → Bool) (s : ByteArray) (k : Nat) : Nat := (((bl s).drop k).takeWhile fun c => p (c.toNat : Int)).length
theorem spanN_step {p : Int → Bool} {s : ByteArray} {k : Nat} (hk : k < s.size) (h : p (bAt s k) = true) : spanN p s k = spanN p s (k + 1) + 1 := by
  have hk' : k < (bl s).length := by rw [bl_len]; exact hk
  unfold spanN
  rw [List.drop_eq_getElem_cons hk']
  have : bAt s k = (((bl s)[k]'hk').toNat : Int) := by
    unfold bAt
    show (((bl s).getD k 0).toNat : Int) = _
    simp [List.getD, hk']
  rw [this] at h
  rw [List.takeWhile_cons, if_pos h]
  simp
theorem spanN_stop {p : Int → Bool} {s : ByteArray} {k : Nat} (h : k < s.size → p (bAt s k) = false) : spanN p s k = 0 := by
  unfold spanN
  by_cases hk : k < s.size
  · have hk' : k < (bl s).length := by rw [bl_len]; exact hk
    rw [List.drop_eq_getElem_cons hk']
    have : bAt s k = (((bl s)[k]'hk').toNat : Int) := by
      unfold bAt
      show (((bl s).getD k 0).toNat : Int) = _
      simp [List.getD, hk']
    have h := h hk
    rw [this] at h
    rw [List.takeWhile_cons, if_neg (by simp [h])]
    rfl
  · rw [List.drop_eq_nil_of_le (by rw [bl_len]; omega)]
    rfl
theorem spanN_le (p : Int → Bool) (s : ByteArray) (k : Nat) (hk : k ≤ s.size) : k + spanN p s k ≤ s.size := by
  have := (List.takeWhile_sublist (fun c : UInt8 => p (c.toNat : Int)) (l := (bl s).drop k)).length_le
  unfold spanN
  rw [List.length_drop, bl_len] at this
  omega
theorem span_fn (f : FuncId) (p : Int → Bool) (hp : ∀ c, Fn Try.prog f [.val (.int .u8 c)] (boolA (p c))) (s : ByteArray) (hs : s.size ≤ 1000000) (k : Nat) (hk : k ≤ s.size) :
    Fn Try.prog 47 [strA s, intA (k : Nat), .clo (.func f) [] []] (intA ((k + spanN p s k : Nat) : Int)) := by
  refine Fn.intro rfl (by kernel_rfl) Try.func47 rfl rfl Try.ntmps47 (by exact Nat.le_of_ble_eq_true rfl) ?_; intro Γ hm
  (repeat' (first | apply jA | apply jF | apply jH | (refine WP.regionC (id := 0) ?_; (refine sassign rfl ?_); apply jW)))
  refine wp_loop (fun (j : Nat) => j ≤ s.size ∧ j + spanN p s j = k + spanN p s k) (fun j => s.size - j) (fun j => (S 21 [(0, strA s), (1, intA (j : Nat)), (2, .clo (.func f) [] [])] 0 [])) k ⟨[], ToR.S rfl (by repeat' (first | exact rt_nil | refine rt_e rfl rfl ?_)) (by repeat' (exact ro_nil)) rfl (by (rw [hm]; exact rfl)) rfl (by (simp [bdT, AV.bd, bdL, bdL_append]; done)) (by repeat' (exact True.intro)) (by (rw [hm]; exact Nat.le_of_ble_eq_true rfl))⟩ ⟨hk, rfl⟩ ?_
  rintro j ⟨hj, hjj⟩
  by_cases hl : j < s.size
  · (repeat' (first | apply jA | apply jF | apply jH | apply jI | apply jJ | apply jK | apply jL | apply jN | apply jP | apply jS | (refine wp_cond rfl (fun hc => ?_) (fun hc => ?_) <;> (try simp only [sB, ne_eq, reduceCtorEq] at hc) <;> (try (exfalso; omega))) | (refine WP.regionC (id := 1) ?_; (refine smove rfl ?_); (refine smove rfl ?_); (refine su (alenstr rfl rfl) ?_); (refine slss rfl rfl ?_); (refine smove rfl ?_); (refine sg (gq_vt rfl rfl) (fun he => ap_move (rq_p rfl rfl)) ?_); (refine sg (gq_vt rfl rfl) (fun he => ap_move (rq_p rfl rfl)) ?_); (refine sg (gq_vt rfl rfl) (fun he => ap_move (rq_p rfl rfl)) ?_); (refine sg (gq_vt rfl rfl) (fun he => ap_sidx_n (rq_c rfl rfl) (rq_c rfl rfl) rfl (by (try simp only [sH, id, sB, ne_eq, reduceCtorEq] at he); omega)) ?_); (refine sg_p (gq_vt rfl rfl) (fun he => ⟨(rq_c rfl rfl), (RqL.cons (rq_c rfl rfl) (RqL.nil)), (by first | ((repeat' first | exact SubL.nil | refine SubL.cons ?_ ?_ | exact Sub.refl); done) | fail), (by first | (simp [bdL, bdL_append, AV.bd]; done) | fail), hp _⟩) ?_); (refine su (ap_and (rq_p rfl rfl) (rq_c rfl rfl)) ?_); apply jW) | (refine WP.regionC (id := 2) ?_; (refine smove rfl ?_); (refine sadd rfl rfl (by exact inr_i64_of (by omega)) ?_); (refine sassign rfl ?_); apply jW) | (refine WP.regionC (id := 3) ?_; (refine smove rfl ?_); (refine sassign rfl ?_); apply jW) | refine ret_i rfl ?_))
    · have := spanN_step hl hc.2
      exact ⟨j + 1, ⟨by omega, by omega, by omega⟩, ⟨[], ToR.S rfl (by repeat' (first | exact rt_nil | refine rt_e rfl rfl ?_)) (by repeat' (exact ro_nil)) rfl (by (rw [hm]; exact rfl)) rfl (by (simp [bdT, AV.bd, bdL, bdL_append]; done)) (by repeat' (exact True.intro)) (by (rw [hm]; exact Nat.le_of_ble_eq_true rfl))⟩⟩
    · have := spanN_stop (p := p) (s := s) (k := j) fun _ => by rcases hc with hc | hc; · omega
                                                                exact hc
      omega
  · (repeat' (first | apply jA | apply jH | apply jJ | apply jK | apply jL | apply jP | apply jS | (refine wp_cond rfl (fun hc => ?_) (fun hc => ?_) <;> (try simp only [sB, ne_eq, reduceCtorEq] at hc) <;> (try (exfalso; omega))) | (refine WP.regionC (id := 1) ?_; (refine smove rfl ?_); (refine smove rfl ?_); (refine su (alenstr rfl rfl) ?_); (refine slss rfl rfl ?_); (refine smove rfl ?_); (refine sg (gq_vt rfl rfl) (fun he => ap_move (rq_p rfl rfl)) ?_); (refine sg (gq_vt rfl rfl) (fun he => ap_move (rq_p rfl rfl)) ?_); (refine sg (gq_vt rfl rfl) (fun he => ap_move (rq_p rfl rfl)) ?_); (refine sg (gq_vt rfl rfl) (fun he => ap_sidx_n (rq_c rfl rfl) (rq_c rfl rfl) rfl (by (try simp only [sH, id, sB, ne_eq, reduceCtorEq] at he); omega)) ?_); (refine sg_p (gq_vt rfl rfl) (fun he => ⟨(rq_c rfl rfl), (RqL.cons (rq_c rfl rfl) (RqL.nil)), (by first | ((repeat' first | exact SubL.nil | refine SubL.cons ?_ ?_ | exact Sub.refl); done) | fail), (by first | (simp [bdL, bdL_append, AV.bd]; done) | fail), hp _⟩) ?_); (refine su (ap_and (rq_p rfl rfl) (rq_c rfl rfl)) ?_); apply jW) | (refine WP.regionC (id := 3) ?_; (refine smove rfl ?_); (refine sassign rfl ?_); apply jW) | refine ret_i rfl ?_))
    have := spanN_stop (p := p) (s := s) (k := j) fun h => absurd h hl
    omega
theorem numV_snoc' (l : Tx) (c : UInt8) : numV (l ++ [c]) = min (10 * numV l + ((c.toNat : Int) - 48)) 1001 := by simp [numV, List.foldl_append]
theorem numV_nn (l : Tx) (h : l.all isD = true) : 0 ≤ numV l ∧ numV l ≤ 1001 := by
  induction hn : l.length generalizing l with
  | zero =>
    obtain rfl : l = [] := List.eq_nil_of_length_eq_zero hn
    exact ⟨Int.le_refl _, by decide⟩
  | succ n ih =>
    obtain ⟨l', c, rfl⟩ : ∃ l' c, l = l' ++ [c] := ⟨l.dropLast, l.getLast (by intro e; simp [e] at hn), (List.dropLast_concat_getLast _).symm⟩
    simp only [List.all_append, List.all_cons, List.all_nil, Bool.and_true, Bool.and_eq_true] at h
    have h1 := ih l' h.1 (by simpa using hn)
    have h2 := h.2
    simp only [isD, digB, Bool.and_eq_true, decide_eq_true_eq] at h2
    rw [numV_snoc']
    omega
theorem value_fn (t : Tx) (ht : t.all isD = true) (hl : t.length ≤ 1000000) : Fn Try.prog 52 [strA (tx t)] (intA (numV t)) := by
  have hsz : (tx t).size = t.length := tx_size t
  refine Fn.intro rfl (by kernel_rfl) Try.func52 rfl rfl Try.ntmps52 (by exact Nat.le_of_ble_eq_true rfl) ?_; intro Γ hm
  (repeat' (first | apply jA | apply jF | apply jH | (refine WP.regionC ?_; (refine sassign rfl ?_); apply jW) | (refine WP.regionC (id := 2) ?_; (refine smove rfl ?_); (refine su (alenstr rfl rfl) ?_); (refine smove rfl ?_); apply jW)))
  refine wp_loop (fun (j : Nat) => j ≤ t.length) (fun j => t.length - j) (fun j => (S 21 [(0, strA (tx t)), (3, intA (numV (t.take j))), (6, intA ((tx t).size : Nat)), (7, intA (j : Nat))] 0 [])) 0 ⟨[], ToR.S rfl (by repeat' (first | exact rt_nil | refine rt_e rfl rfl ?_)) (by repeat' (exact ro_nil)) rfl (by (rw [hm]; exact rfl)) rfl (by (simp [bdT, AV.bd, bdL, bdL_append]; done)) (by repeat' (exact True.intro)) (by (rw [hm]; exact Nat.le_of_ble_eq_true rfl))⟩ (Nat.zero_le _) ?_
  rintro j hj
  by_cases hlt : j < t.length
  · have h1 := numV_nn (t.take j) (by rw [List.all_eq_true] at ht ⊢; exact fun x hx => ht x (List.mem_of_mem_take hx))
    have h2 : bAt (tx t) j = ((t[j]'hlt).toNat : Int) := by
      unfold bAt
      show (((bl (tx t)).getD j 0).toNat : Int) = _
      have : bl (tx t) = t := rfl
      rw [this]
      simp [List.getD, hlt]
    have h3 : 48 ≤ bAt (tx t) j ∧ bAt (tx t) j ≤ 57 := by
      have := List.all_eq_true.1 ht _ (List.getElem_mem hlt)
      simp only [isD, digB, Bool.and_eq_true, decide_eq_true_eq] at this
      rw [h2]; exact this
    have h4 : t.take (j + 1) = t.take j ++ [t[j]'hlt] := by rw [List.take_succ_eq_append_getElem hlt]
    have h5 : numV (t.take (j + 1)) = min (10 * numV (t.take j) + (bAt (tx t) j - 48)) 1001 := by rw [h4, numV_snoc', h2]
    (repeat' (first | apply jA | apply jF | apply jH | apply jI | apply jN | (refine wp_cond rfl (fun hc => ?_) (fun hc => ?_) <;> (try simp only [sB, ne_eq, reduceCtorEq] at hc) <;> (try (exfalso; omega))) | (refine WP.regionC (id := 3) ?_; (refine slss rfl rfl ?_); apply jW) | (refine WP.regionC (id := 4) ?_; (refine smove rfl ?_); (refine sassign rfl ?_); apply jW) | (refine WP.regionC (id := 5) ?_; (refine smove rfl ?_); (refine su (amul rfl rfl (by exact inr_i64_of (by omega))) ?_); (refine smove rfl ?_); (refine smove rfl ?_); (refine su (asidxn rfl rfl rfl (by omega)) ?_); (refine su (asub rfl rfl (by exact inr_u8_of (by omega))) ?_); (refine su (aconv rfl rfl (by kernel_rfl) (by exact inr_i64_of (by omega))) ?_); (refine sadd rfl rfl (by exact inr_i64_of (by omega)) ?_); (refine su (amin rfl rfl) ?_); (refine sassign rfl ?_); apply jW) | (refine WP.regionC (id := 6) ?_; (refine sadd rfl rfl (by exact inr_i64_of (by omega)) ?_); (refine smove rfl ?_); apply jW)))
    refine ⟨j + 1, ⟨by omega, by omega⟩, ?_⟩
    rw [h5]
    exact ⟨[], ToR.S rfl (by repeat' (first | exact rt_nil | refine rt_e rfl rfl ?_)) (by repeat' (exact ro_nil)) rfl (by (rw [hm]; exact rfl)) rfl (by (simp [bdT, AV.bd, bdL, bdL_append]; done)) (by repeat' (exact True.intro)) (by (rw [hm]; exact Nat.le_of_ble_eq_true rfl))⟩
  · (repeat' (first | apply jA | apply jH | apply jJ | apply jK | apply jL | apply jP | apply jS | (refine wp_cond rfl (fun hc => ?_) (fun hc => ?_) <;> (try simp only [sB, ne_eq, reduceCtorEq] at hc) <;> (try (exfalso; omega))) | (refine WP.regionC (id := 3) ?_; (refine slss rfl rfl ?_); apply jW) | (refine WP.regionC (id := 7) ?_; (refine smove rfl ?_); (refine sassign rfl ?_); apply jW) | refine ret_i rfl ?_))
    rw [List.take_of_length_le (by omega)]
end Go.Lg

namespace Go.Lg
open Go.Proofs
set_option linter.unusedSimpArgs false
set_option linter.unusedVariables false
attribute [local irreducible] Ap Rq asemC WP RunD Ret Gq thenA inBlockA bodyQ noGotoA RqL RqP OpP
set_option maxHeartbeats 4000000
set_option maxRecDepth 20000
attribute [local simp] tokA toks_bd
theorem bat_cons {s : ByteArray} {k : Nat} (hk : k < s.size) : ∃ (c : UInt8) (r : Tx), (bl s).drop k = c :: r ∧ bAt s k = (c.toNat : Int) ∧ r = (bl s).drop (k + 1) := by
  have hk' : k < (bl s).length := by rw [bl_len]; exact hk
  refine ⟨(bl s)[k]'hk', (bl s).drop (k + 1), List.drop_eq_getElem_cons hk', ?_, rfl⟩
  unfold bAt
  show (((bl s).getD k 0).toNat : Int) = _
  simp [List.getD, hk']
theorem u8eq (c : UInt8) (n : Nat) (hn : n < 256) : ((c.toNat : Int) = n) ↔ c = UInt8.ofNat n := by
  constructor
  · intro h
    have h' : c.toNat = n := by omega
    apply UInt8.toNat_inj.1
    rw [h', UInt8.toNat_ofNat']
    omega
  · rintro rfl
    rw [UInt8.toNat_ofNat']
    omega
theorem extract_tx (s : ByteArray) (a b : Nat) : s.extract a b = tx (((bl s).drop a).take (b - a)) := by
  apply ba_ext
  show (s.extract a b).data.toList = _
  rw [ByteArray.data_extract, Array.toList_extract]
  simp [List.extract_eq_take_drop, bl, tx]
theorem isB_bat {s : ByteArray} {k : Nat} {c : UInt8} (hb : bAt s k = (c.toNat : Int)) : isB c = (decide (bAt s k = 32) || decide (bAt s k = 9) || decide (bAt s k = 13) || decide (bAt s k = 10)) := by
  have e : ∀ n : Nat, n < 256 → decide (bAt s k = (n : Int)) = decide (c = UInt8.ofNat n) := fun n hn => by
    rw [hb]
    have := u8eq c n hn
    simp only [this]
  have e1 := e 32 (by decide); have e2 := e 9 (by decide); have e3 := e 13 (by decide); have e4 := e 10 (by decide)
  simp only [Int.cast_ofNat_Int] at e1 e2 e3 e4
  rw [e1, e2, e3, e4]
  rfl
theorem spanN_r {p : Int → Bool} {s : ByteArray} {k : Nat} {r : Tx} (hr : r = (bl s).drop (k + 1)) : spanN p s (k + 1) = (r.takeWhile fun c => p (c.toNat : Int)).length := by rw [hr]; rfl
theorem drop_add {s : ByteArray} {k : Nat} {l : Tx} (h : (bl s).drop k = l) (n : Nat) : (bl s).drop (k + n) = l.drop n := by rw [← h, List.drop_drop]
theorem lex_fn (s : ByteArray) (hs : s.size ≤ 100000) : Fn Try.prog 19 [strA s] (.sl 4 ((lexL (bl s) 0).map tokA)) := by
  refine Fn.intro (by simp [AV.bd, bdL, bdL_append]) (by kernel_rfl) Try.func19 rfl rfl Try.ntmps19 (by exact Nat.le_of_ble_eq_true rfl) ?_; intro Γ hm
  (repeat' (first | apply jA | apply jF | apply jH | (refine WP.regionC ?_; (refine sassign rfl ?_); apply jW)))
  refine wp_nil 3 4 rfl ?_
  refine wp_loop (fun (σ : List (Nat × Tx) × Nat) => σ.2 ≤ s.size ∧ σ.1.length ≤ σ.2 ∧ σ.1 ++ lexL ((bl s).drop σ.2) σ.2 = lexL (bl s) 0) (fun σ => s.size - σ.2)
    (fun σ => (S 72 [(0, strA s), (3, .ref 0 4 0 σ.1.length), (4, intA (σ.2 : Nat))] 1 [(0, some (.arr 4 (σ.1.map tokA)))])) ([], 0) ⟨[0], ToR.S rfl (by repeat' (first | exact rt_nil | refine rt_r rfl rfl ?_ | refine rt_e rfl rfl ?_)) (by repeat' (first | exact ro_nil | refine ro_e rfl rfl ?_)) rfl (by (rw [hm]; exact rfl)) rfl (by (simp [bdT, AV.bd, bdL, bdL_append]; done)) (by repeat' (first | exact True.intro | exact rfl | refine And.intro ?_ ?_)) (by (rw [hm]; exact Nat.le_of_ble_eq_true rfl))⟩ ⟨Nat.zero_le _, Nat.le_refl _, rfl⟩ ?_
  rintro ⟨acc, k⟩ ⟨hk, ha, hl⟩
  simp only at hk ha hl ⊢
  by_cases hlt : k < s.size
  · obtain ⟨c, r, hd, hb, hr⟩ := bat_cons hlt
    rw [hd, lexL_cons] at hl
    have hB := isB_bat hb
    have h35 : (bAt s k = 35) ↔ c = 35 := by rw [hb]; exact u8eq c 35 (by decide)
    have hL : letB (bAt s k) = isL c := by rw [hb]; rfl
    have hD : digB (bAt s k) = isD c := by rw [hb]; rfl
    cases hBc : isB c with
    | true =>
      rw [hBc] at hB hl
      simp only [if_true] at hl
      (repeat' (first | apply jA | apply jF | apply jH | apply jI | apply jJ | apply jL | apply jP | refine bl_y rfl ?_ | (refine wp_cond rfl (fun hc => ?_) (fun hc => ?_) <;> (try simp only [sB, ne_eq, reduceCtorEq] at hc) <;> (try (exfalso; omega))) | (refine WP.regionC (id := 3) ?_; (refine smove rfl ?_); (refine smove rfl ?_); (refine su (alenstr rfl rfl) ?_); (refine slss rfl rfl ?_); apply jW) | (refine WP.regionC (id := 4) ?_; (refine smove rfl ?_); (refine su (ap_build (RqP.cons (rq_p rfl rfl) (RqP.cons (rq_p rfl rfl) (RqP.nil))) rfl) ?_); (refine se_alloc rfl ?_); (refine se_store_b rfl rfl rfl rfl ?_); apply jW) | (refine WP.regionC ?_; (refine smove rfl ?_); (refine sadd rfl rfl (by exact inr_i64_of (by omega)) ?_); (refine sassign rfl ?_); apply jW) | (refine WP.regionC (id := 6) ?_; (refine smove rfl ?_); (refine smove rfl ?_); (refine su (asidxn rfl rfl rfl (by omega)) ?_); (refine sassign rfl ?_); apply jW) | (refine WP.regionC (id := 7) ?_; (refine smove rfl ?_); (refine seql rfl rfl ?_); (refine smove rfl ?_); (refine sg (gq_vf rfl rfl) (fun he => ap_move (rq_p rfl rfl)) ?_); (refine sg (gq_vf rfl rfl) (fun he => ap_eql (rq_c rfl rfl) (rq_p rfl rfl)) ?_); (refine su (ap_or (rq_p rfl rfl) (rq_c rfl rfl)) ?_); (refine smove rfl ?_); (refine sg (gq_vf rfl rfl) (fun he => ap_move (rq_p rfl rfl)) ?_); (refine sg (gq_vf rfl rfl) (fun he => ap_eql (rq_c rfl rfl) (rq_p rfl rfl)) ?_); (refine su (ap_or (rq_p rfl rfl) (rq_c rfl rfl)) ?_); (refine smove rfl ?_); (refine sg (gq_vf rfl rfl) (fun he => ap_move (rq_p rfl rfl)) ?_); (refine sg (gq_vf rfl rfl) (fun he => ap_eql (rq_c rfl rfl) (rq_p rfl rfl)) ?_); (refine su (ap_or (rq_p rfl rfl) (rq_c rfl rfl)) ?_); (refine sassign rfl ?_); apply jW)))
      · refine ⟨(acc, k + 1), ⟨by simp only; omega, by simp only; omega, by simp only; omega, ?_⟩, ⟨[0], ToR.S rfl (by repeat' (first | exact rt_nil | refine rt_r rfl rfl ?_ | refine rt_e rfl rfl ?_)) (by repeat' (first | exact ro_nil | refine ro_p rfl (by first | exact rfl | fail) (by first | exact bdL_map (fun _ => by exact rfl) _ | fail) ?_)) rfl (by (rw [hm]; exact rfl)) rfl (by (simp [bdT, AV.bd, bdL, bdL_append]; done)) (by repeat' (first | exact True.intro | refine And.intro ?_ ?_ | exact bdL_map (fun _ => by exact rfl) _)) (by (rw [hm]; exact Nat.le_of_ble_eq_true rfl))⟩⟩
        simp only
        rw [← hr]; exact hl
      · exfalso; simp_all
    | false =>
      rw [hBc] at hB hl
      simp only [Bool.false_eq_true, if_false] at hl
      by_cases hc35 : c = 35
      · rw [if_pos hc35] at hl
        have h35' := h35.2 hc35
        have hp1 : spanN (fun c => !decide (c = 10)) s k = comN r + 1 := by
          rw [spanN_step hlt (by rw [h35']; rfl), spanN_r hr]
          unfold comN
          congr 2
          congr 1
          funext d
          have := u8eq d 10 (by decide)
          simp only [Int.cast_ofNat_Int] at this
          simp only [this]
          rfl
        have hle := spanN_le (fun c => !decide (c = 10)) s k hk
        (repeat' (first | apply jA | apply jF | apply jH | apply jI | apply jJ | apply jL | apply jP | refine bl_y rfl ?_ | (refine wp_cond rfl (fun hc => ?_) (fun hc => ?_) <;> (try simp only [sB, ne_eq, reduceCtorEq] at hc) <;> (try (exfalso; omega))) | (refine WP.regionC (id := 3) ?_; (refine smove rfl ?_); (refine smove rfl ?_); (refine su (alenstr rfl rfl) ?_); (refine slss rfl rfl ?_); apply jW) | (refine WP.regionC (id := 4) ?_; (refine smove rfl ?_); (refine su (ap_build (RqP.cons (rq_p rfl rfl) (RqP.cons (rq_p rfl rfl) (RqP.nil))) rfl) ?_); (refine se_alloc rfl ?_); (refine se_store_b rfl rfl rfl rfl ?_); apply jW) | (refine WP.regionC (id := 5) ?_; (refine smove rfl ?_); (refine sadd rfl rfl (by exact inr_i64_of (by omega)) ?_); (refine sassign rfl ?_); apply jW) | (refine WP.regionC (id := 6) ?_; (refine smove rfl ?_); (refine smove rfl ?_); (refine su (asidxn rfl rfl rfl (by omega)) ?_); (refine sassign rfl ?_); apply jW) | (refine WP.regionC (id := 7) ?_; (refine smove rfl ?_); (refine seql rfl rfl ?_); (refine smove rfl ?_); (refine sg (gq_vf rfl rfl) (fun he => ap_move (rq_p rfl rfl)) ?_); (refine sg (gq_vf rfl rfl) (fun he => ap_eql (rq_c rfl rfl) (rq_p rfl rfl)) ?_); (refine su (ap_or (rq_p rfl rfl) (rq_c rfl rfl)) ?_); (refine smove rfl ?_); (refine sg (gq_vf rfl rfl) (fun he => ap_move (rq_p rfl rfl)) ?_); (refine sg (gq_vf rfl rfl) (fun he => ap_eql (rq_c rfl rfl) (rq_p rfl rfl)) ?_); (refine su (ap_or (rq_p rfl rfl) (rq_c rfl rfl)) ?_); (refine smove rfl ?_); (refine sg (gq_vf rfl rfl) (fun he => ap_move (rq_p rfl rfl)) ?_); (refine sg (gq_vf rfl rfl) (fun he => ap_eql (rq_c rfl rfl) (rq_p rfl rfl)) ?_); (refine su (ap_or (rq_p rfl rfl) (rq_c rfl rfl)) ?_); (refine sassign rfl ?_); apply jW) | (refine WP.regionC (id := 9) ?_; (refine smove rfl ?_); (refine seql rfl rfl ?_); (refine sassign rfl ?_); apply jW) | (refine WP.regionC (id := 10) ?_; (refine smove rfl ?_); (refine smove rfl ?_); (refine sc_p rfl rfl (by first | ((repeat' first | exact SubL.nil | refine SubL.cons ?_ ?_ | exact Sub.refl); done) | fail) (by first | (simp [bdL, bdL_append, AV.bd]; done) | fail) (span_fn _ _ lex1_fn s (by omega) k hk) ?_); (refine sassign rfl ?_); apply jW)))
        · refine ⟨(acc, k + spanN (fun c => !decide (c = 10)) s k), ⟨by simp only; omega, by simp only; omega, by simp only; omega, ?_⟩, ⟨[0], ToR.S rfl (by repeat' (first | exact rt_nil | refine rt_r rfl rfl ?_ | refine rt_e rfl rfl ?_)) (by repeat' (first | exact ro_nil | refine ro_p rfl (by first | exact rfl | fail) (by first | exact bdL_map (fun _ => by exact rfl) _ | fail) ?_)) rfl (by (rw [hm]; exact rfl)) rfl (by (simp [bdT, AV.bd, bdL, bdL_append]; done)) (by repeat' (first | exact True.intro | refine And.intro ?_ ?_ | exact bdL_map (fun _ => by exact rfl) _)) (by (rw [hm]; exact Nat.le_of_ble_eq_true rfl))⟩⟩
          simp only
          rw [drop_add hd, hp1]
          have : (c :: r).drop (comN r + 1) = r.drop (comN r) := rfl
          rw [this]
          rw [show k + (comN r + 1) = k + 1 + comN r by omega]
          exact hl
      · rw [if_neg hc35] at hl
        have h35' : ¬ bAt s k = 35 := fun h => hc35 (h35.1 h)
        have htp := tokN_pos c r
        cases hLc : isL c with
        | true =>
          have hsp : spanN wB s k = tokN (c :: r) := by
            rw [spanN_step hlt (by unfold wB; rw [hL, hLc]; rfl), spanN_r hr]
            simp only [tokN, hLc, if_true]
            rw [Nat.add_comm]
            congr 3
            funext d
            have := u8eq d 95 (by decide)
            simp only [Int.cast_ofNat_Int] at this
            simp only [wB, this, isW]
            rfl
          have hle := spanN_le wB s k hk
          have hta : (c :: r).take (tokN (c :: r)) = c :: r.take (tokN (c :: r) - 1) := by
            obtain ⟨m, hm⟩ : ∃ m, tokN (c :: r) = m + 1 := ⟨_, (Nat.sub_add_cancel htp).symm⟩
            rw [hm]; rfl
          have hnD : isD c = false := by
            cases hq : isD c with
            | false => rfl
            | true =>
              simp only [isL, letB, isD, digB, Bool.or_eq_true, Bool.and_eq_true, decide_eq_true_eq] at hLc hq
              omega
          have htW : tkW ((c :: r).take (tokN (c :: r))) = true := by rw [hta]; exact hLc
          have htN : tkNum ((c :: r).take (tokN (c :: r))) = -1 := by rw [hta]; simp only [tkNum, isNum, hnD]; rfl
          have hnext : s.size - (k + spanN wB s k) < s.size - k ∧ k + spanN wB s k ≤ s.size ∧ (acc ++ [(k, (c :: r).take (tokN (c :: r)))]).length ≤ k + spanN wB s k ∧ (acc ++ [(k, (c :: r).take (tokN (c :: r)))]) ++ lexL ((bl s).drop (k + spanN wB s k)) (k + spanN wB s k) = lexL (bl s) 0 := by
            refine ⟨by omega, by omega, by simp only [List.length_append, List.length_cons, List.length_nil]; omega, ?_⟩
            rw [drop_add hd, hsp, ← hl]
            simp
          have htok : tokA (k, (c :: r).take (tokN (c :: r))) = .agg [intA (k : Nat), strA (tx ((c :: r).take (tokN (c :: r)))), boolA true, intA (-1)] := by
            simp only [tokA, htW, htN]
          (repeat' (first | apply jA | apply jF | apply jH | apply jI | apply jN | (refine wp_cond rfl (fun hc => ?_) (fun hc => ?_) <;> (try simp only [sB, ne_eq, reduceCtorEq] at hc) <;> (try (exfalso; omega))) | (refine WP.regionC (id := 3) ?_; (refine smove rfl ?_); (refine smove rfl ?_); (refine su (alenstr rfl rfl) ?_); (refine slss rfl rfl ?_); apply jW) | (refine WP.regionC (id := 4) ?_; (refine smove rfl ?_); (refine su (ap_build (RqP.cons (rq_p rfl rfl) (RqP.cons (rq_p rfl rfl) (RqP.nil))) rfl) ?_); (refine se_alloc rfl ?_); (refine se_store_b rfl rfl rfl rfl ?_); apply jW) | (refine WP.regionC (id := 5) ?_; (refine smove rfl ?_); (refine sadd rfl rfl (by exact inr_i64_of (by omega)) ?_); (refine sassign rfl ?_); apply jW) | (refine WP.regionC (id := 6) ?_; (refine smove rfl ?_); (refine smove rfl ?_); (refine su (asidxn rfl rfl rfl (by omega)) ?_); (refine sassign rfl ?_); apply jW) | (refine WP.regionC (id := 7) ?_; (refine smove rfl ?_); (refine seql rfl rfl ?_); (refine smove rfl ?_); (refine sg (gq_vf rfl rfl) (fun he => ap_move (rq_p rfl rfl)) ?_); (refine sg (gq_vf rfl rfl) (fun he => ap_eql (rq_c rfl rfl) (rq_p rfl rfl)) ?_); (refine su (ap_or (rq_p rfl rfl) (rq_c rfl rfl)) ?_); (refine smove rfl ?_); (refine sg (gq_vf rfl rfl) (fun he => ap_move (rq_p rfl rfl)) ?_); (refine sg (gq_vf rfl rfl) (fun he => ap_eql (rq_c rfl rfl) (rq_p rfl rfl)) ?_); (refine su (ap_or (rq_p rfl rfl) (rq_c rfl rfl)) ?_); (refine smove rfl ?_); (refine sg (gq_vf rfl rfl) (fun he => ap_move (rq_p rfl rfl)) ?_); (refine sg (gq_vf rfl rfl) (fun he => ap_eql (rq_c rfl rfl) (rq_p rfl rfl)) ?_); (refine su (ap_or (rq_p rfl rfl) (rq_c rfl rfl)) ?_); (refine sassign rfl ?_); apply jW) | (refine WP.regionC (id := 9) ?_; (refine smove rfl ?_); (refine seql rfl rfl ?_); (refine sassign rfl ?_); apply jW) | (refine WP.regionC (id := 11) ?_; (refine smove rfl ?_); (refine sc_p rfl rfl (by first | ((repeat' first | exact SubL.nil | refine SubL.cons ?_ ?_ | exact Sub.refl); done) | fail) (by first | (simp [bdL, bdL_append, AV.bd]; done) | fail) (gpletter_fn _) ?_); (refine sassign rfl ?_); apply jW) | (refine WP.regionC (id := 12) ?_; (refine smove rfl ?_); (refine smove rfl ?_); (refine sc_p rfl rfl (by first | ((repeat' first | exact SubL.nil | refine SubL.cons ?_ ?_ | exact Sub.refl); done) | fail) (by first | (simp [bdL, bdL_append, AV.bd]; done) | fail) (span_fn _ wB lex2_fn s (by omega) k hk) ?_); (refine sassign rfl ?_); apply jW) | (refine WP.regionC (id := 13) ?_; (refine sfieldp rfl rfl rfl ?_); (refine se_store_b rfl rfl rfl rfl ?_); apply jW) | (refine WP.regionC (id := 17) ?_; (refine smove rfl ?_); (refine smove rfl ?_); (refine smove rfl ?_); (refine su (ap_slice_s rfl (rq_p rfl rfl) (by exact bq_some (rq_p rfl rfl)) (by exact bq_some (rq_p rfl rfl)) (by omega)) ?_); (refine sfieldp rfl rfl rfl ?_); (refine se_store_b rfl rfl rfl rfl ?_); apply jW)))
          · exfalso; simp_all
          · skip
            have hx : s.extract (k : Int).toNat ((k + spanN wB s k : Nat) : Int).toNat = tx ((c :: r).take (tokN (c :: r))) := by
              rw [extract_tx]
              simp only [Int.toNat_natCast]
              rw [hd, show k + spanN wB s k - k = tokN (c :: r) by omega]
            rw [hx]
            refine wp_st (S 72 [(0, strA s), (3, .ref 0 4 0 acc.length), (4, intA (k : Nat)), (5, .ptr 1 4 0 0), (6, intA ((k + spanN wB s k : Nat) : Int))] 2 [(0, some (.arr 4 (acc.map tokA))), (1, some (.arr 4 [.agg [intA (k : Nat), strA (tx ((c :: r).take (tokN (c :: r)))), boolA true, intA (-1)]]))]) ⟨[0, 1], ToR.S rfl (by repeat' (first | exact rt_nil | refine rt_r rfl rfl ?_ | refine rt_t rfl rfl ?_ | refine rt_e rfl rfl ?_)) (by repeat' (first | exact ro_nil | refine ro_e rfl rfl ?_ | refine ro_p rfl (by first | exact rfl | fail) (by first | exact bdL_map (fun _ => by exact rfl) _ | fail) ?_)) rfl (by (rw [hm]; exact rfl)) rfl (by (simp [bdT, AV.bd, bdL, bdL_append]; done)) (by repeat' (first | exact True.intro | exact rfl | refine And.intro ?_ ?_ | exact bdL_map (fun _ => by exact rfl) _)) (by (rw [hm]; exact Nat.le_of_ble_eq_true rfl))⟩ ?_
            rw [← htok]
            (repeat' (first | apply jH | apply jN | (refine WP.regionC (id := 18) ?_; (refine smove rfl ?_); (refine sloadpw rfl rfl rfl rfl ?_); (refine se_lit (OpP.cons rfl (OpP.nil)) rfl rfl rfl rfl rfl rfl ?_); (refine se_app1 rfl rfl rfl rfl rfl rfl rfl rfl (by omega) ?_); (refine sassign rfl ?_); apply jW) | (refine WP.regionC (id := 19) ?_; (refine smove rfl ?_); (refine sassign rfl ?_); apply jW)))
            exact ⟨(acc ++ [(k, (c :: r).take (tokN (c :: r)))], k + spanN wB s k), hnext, ⟨[3], ToR.S rfl (by repeat' (first | exact rt_nil | refine rt_r rfl rfl ?_ | refine rt_e rfl rfl ?_)) (by repeat' (first | exact ro_nil | refine ro_p rfl (by first | exact rfl | fail) (by first | exact bdL_map (fun _ => by exact rfl) _ | fail) ?_)) rfl (by (rw [hm]; exact rfl)) rfl (by (simp [bdT, AV.bd, bdL, bdL_append]; done)) (by repeat' (first | exact True.intro | refine And.intro ?_ ?_ | exact bdL_map (fun _ => by exact rfl) _)) (by (rw [hm]; exact Nat.le_of_ble_eq_true rfl))⟩⟩
          · exfalso; simp_all
        | false =>
          cases hDc : isD c with
          | true =>
            have hsp : spanN digB s k = tokN (c :: r) := by
              rw [spanN_step hlt (by rw [hD, hDc]), spanN_r hr]
              simp only [tokN, hLc, hDc, Bool.false_eq_true, if_false, if_true]
              rw [Nat.add_comm]
              rfl
            have hle := spanN_le digB s k hk
            have hta : (c :: r).take (tokN (c :: r)) = c :: r.take (tokN (c :: r) - 1) := by
              obtain ⟨m, hm⟩ : ∃ m, tokN (c :: r) = m + 1 := ⟨_, (Nat.sub_add_cancel htp).symm⟩
              rw [hm]; rfl
            have htd : ((c :: r).take (tokN (c :: r))).all isD = true := by
              simp only [tokN, hLc, hDc, Bool.false_eq_true, if_false, if_true]
              rw [Nat.add_comm, List.take_succ_cons, List.all_cons, hDc, Bool.true_and]
              rw [List.all_eq_true]
              intro x hx
              have h1 : r.take (r.takeWhile isD).length = r.takeWhile isD := (List.prefix_iff_eq_take.1 (List.takeWhile_prefix isD)).symm
              rw [h1] at hx
              exact List.all_eq_true.1 List.all_takeWhile x hx
            have htl : ((c :: r).take (tokN (c :: r))).length ≤ 1000000 := by
              have h1 := List.length_take_le (tokN (c :: r)) (c :: r)
              omega
            have hval := value_fn ((c :: r).take (tokN (c :: r))) htd htl
            have htW : tkW ((c :: r).take (tokN (c :: r))) = false := by rw [hta]; exact hLc
            have htN : tkNum ((c :: r).take (tokN (c :: r))) = numV ((c :: r).take (tokN (c :: r))) := by rw [hta]; simp only [tkNum, isNum, hDc, if_true]
            have hx : s.extract (k : Int).toNat ((k + spanN digB s k : Nat) : Int).toNat = tx ((c :: r).take (tokN (c :: r))) := by
              rw [extract_tx]
              simp only [Int.toNat_natCast]
              rw [hd, show k + spanN digB s k - k = tokN (c :: r) by omega]
            rw [← hx] at hval
            have hnext : s.size - (k + spanN digB s k) < s.size - k ∧ k + spanN digB s k ≤ s.size ∧ (acc ++ [(k, (c :: r).take (tokN (c :: r)))]).length ≤ k + spanN digB s k ∧ (acc ++ [(k, (c :: r).take (tokN (c :: r)))]) ++ lexL ((bl s).drop (k + spanN digB s k)) (k + spanN digB s k) = lexL (bl s) 0 := by
              refine ⟨by omega, by omega, by simp only [List.length_append, List.length_cons, List.length_nil]; omega, ?_⟩
              rw [drop_add hd, hsp, ← hl]
              simp
            have htok : tokA (k, (c :: r).take (tokN (c :: r))) = .agg [intA (k : Nat), strA (tx ((c :: r).take (tokN (c :: r)))), boolA false, intA (numV ((c :: r).take (tokN (c :: r))))] := by
              simp only [tokA, htW, htN]
            (repeat' (first | apply jA | apply jF | apply jH | apply jI | apply jN | (refine wp_cond rfl (fun hc => ?_) (fun hc => ?_) <;> (try simp only [sB, ne_eq, reduceCtorEq] at hc) <;> (try (exfalso; omega))) | (refine WP.regionC (id := 3) ?_; (refine smove rfl ?_); (refine smove rfl ?_); (refine su (alenstr rfl rfl) ?_); (refine slss rfl rfl ?_); apply jW) | (refine WP.regionC (id := 4) ?_; (refine smove rfl ?_); (refine su (ap_build (RqP.cons (rq_p rfl rfl) (RqP.cons (rq_p rfl rfl) (RqP.nil))) rfl) ?_); (refine se_alloc rfl ?_); (refine se_store_b rfl rfl rfl rfl ?_); apply jW) | (refine WP.regionC (id := 5) ?_; (refine smove rfl ?_); (refine sadd rfl rfl (by exact inr_i64_of (by omega)) ?_); (refine sassign rfl ?_); apply jW) | (refine WP.regionC (id := 6) ?_; (refine smove rfl ?_); (refine smove rfl ?_); (refine su (asidxn rfl rfl rfl (by omega)) ?_); (refine sassign rfl ?_); apply jW) | (refine WP.regionC (id := 7) ?_; (refine smove rfl ?_); (refine seql rfl rfl ?_); (refine smove rfl ?_); (refine sg (gq_vf rfl rfl) (fun he => ap_move (rq_p rfl rfl)) ?_); (refine sg (gq_vf rfl rfl) (fun he => ap_eql (rq_c rfl rfl) (rq_p rfl rfl)) ?_); (refine su (ap_or (rq_p rfl rfl) (rq_c rfl rfl)) ?_); (refine smove rfl ?_); (refine sg (gq_vf rfl rfl) (fun he => ap_move (rq_p rfl rfl)) ?_); (refine sg (gq_vf rfl rfl) (fun he => ap_eql (rq_c rfl rfl) (rq_p rfl rfl)) ?_); (refine su (ap_or (rq_p rfl rfl) (rq_c rfl rfl)) ?_); (refine smove rfl ?_); (refine sg (gq_vf rfl rfl) (fun he => ap_move (rq_p rfl rfl)) ?_); (refine sg (gq_vf rfl rfl) (fun he => ap_eql (rq_c rfl rfl) (rq_p rfl rfl)) ?_); (refine su (ap_or (rq_p rfl rfl) (rq_c rfl rfl)) ?_); (refine sassign rfl ?_); apply jW) | (refine WP.regionC (id := 9) ?_; (refine smove rfl ?_); (refine seql rfl rfl ?_); (refine sassign rfl ?_); apply jW) | (refine WP.regionC (id := 11) ?_; (refine smove rfl ?_); (refine sc_p rfl rfl (by first | ((repeat' first | exact SubL.nil | refine SubL.cons ?_ ?_ | exact Sub.refl); done) | fail) (by first | (simp [bdL, bdL_append, AV.bd]; done) | fail) (gpletter_fn _) ?_); (refine sassign rfl ?_); apply jW) | (refine WP.regionC (id := 14) ?_; (refine smove rfl ?_); (refine sc_p rfl rfl (by first | ((repeat' first | exact SubL.nil | refine SubL.cons ?_ ?_ | exact Sub.refl); done) | fail) (by first | (simp [bdL, bdL_append, AV.bd]; done) | fail) (gpdigit_fn _) ?_); (refine sassign rfl ?_); apply jW) | (refine WP.regionC (id := 15) ?_; (refine smove rfl ?_); (refine smove rfl ?_); (refine sc_p rfl rfl (by first | ((repeat' first | exact SubL.nil | refine SubL.cons ?_ ?_ | exact Sub.refl); done) | fail) (by first | (simp [bdL, bdL_append, AV.bd]; done) | fail) (span_fn _ _ gpdigit_fn s (by omega) k hk) ?_); (refine sassign rfl ?_); apply jW) | (refine WP.regionC (id := 16) ?_; (refine smove rfl ?_); (refine smove rfl ?_); (refine smove rfl ?_); (refine su (ap_slice_s rfl (rq_p rfl rfl) (by exact bq_some (rq_p rfl rfl)) (by exact bq_some (rq_p rfl rfl)) (by omega)) ?_); (refine sc_p rfl rfl (by first | ((repeat' first | exact SubL.nil | refine SubL.cons ?_ ?_ | exact Sub.refl); done) | fail) (by first | (simp [bdL, bdL_append, AV.bd]; done) | fail) (hval) ?_); (refine sfieldp rfl rfl rfl ?_); (refine se_store_b rfl rfl rfl rfl ?_); apply jW) | (refine WP.regionC (id := 17) ?_; (refine smove rfl ?_); (refine smove rfl ?_); (refine smove rfl ?_); (refine su (ap_slice_s rfl (rq_p rfl rfl) (by exact bq_some (rq_p rfl rfl)) (by exact bq_some (rq_p rfl rfl)) (by omega)) ?_); (refine sfieldp rfl rfl rfl ?_); (refine se_store_b rfl rfl rfl rfl ?_); apply jW)))
            · exfalso; simp_all
            · exfalso; simp_all
            · skip
              have hx : s.extract (k : Int).toNat ((k + spanN digB s k : Nat) : Int).toNat = tx ((c :: r).take (tokN (c :: r))) := by
                rw [extract_tx]
                simp only [Int.toNat_natCast]
                rw [hd, show k + spanN digB s k - k = tokN (c :: r) by omega]
              rw [hx]
              refine wp_st (S 72 [(0, strA s), (3, .ref 0 4 0 acc.length), (4, intA (k : Nat)), (5, .ptr 1 4 0 0), (6, intA ((k + spanN digB s k : Nat) : Int))] 2 [(0, some (.arr 4 (acc.map tokA))), (1, some (.arr 4 [.agg [intA (k : Nat), strA (tx ((c :: r).take (tokN (c :: r)))), boolA false, intA (numV ((c :: r).take (tokN (c :: r))))]]))]) ⟨[0, 1], ToR.S rfl (by repeat' (first | exact rt_nil | refine rt_r rfl rfl ?_ | refine rt_t rfl rfl ?_ | refine rt_e rfl rfl ?_)) (by repeat' (first | exact ro_nil | refine ro_e rfl rfl ?_ | refine ro_p rfl (by first | exact rfl | fail) (by first | exact bdL_map (fun _ => by exact rfl) _ | fail) ?_)) rfl (by (rw [hm]; exact rfl)) rfl (by (simp [bdT, AV.bd, bdL, bdL_append]; done)) (by repeat' (first | exact True.intro | exact rfl | refine And.intro ?_ ?_ | exact bdL_map (fun _ => by exact rfl) _)) (by (rw [hm]; exact Nat.le_of_ble_eq_true rfl))⟩ ?_
              rw [← htok]
              (repeat' (first | apply jH | apply jN | (refine WP.regionC (id := 18) ?_; (refine smove rfl ?_); (refine sloadpw rfl rfl rfl rfl ?_); (refine se_lit (OpP.cons rfl (OpP.nil)) rfl rfl rfl rfl rfl rfl ?_); (refine se_app1 rfl rfl rfl rfl rfl rfl rfl rfl (by omega) ?_); (refine sassign rfl ?_); apply jW) | (refine WP.regionC (id := 19) ?_; (refine smove rfl ?_); (refine sassign rfl ?_); apply jW)))
              exact ⟨(acc ++ [(k, (c :: r).take (tokN (c :: r)))], k + spanN digB s k), hnext, ⟨[3], ToR.S rfl (by repeat' (first | exact rt_nil | refine rt_r rfl rfl ?_ | refine rt_e rfl rfl ?_)) (by repeat' (first | exact ro_nil | refine ro_p rfl (by first | exact rfl | fail) (by first | exact bdL_map (fun _ => by exact rfl) _ | fail) ?_)) rfl (by (rw [hm]; exact rfl)) rfl (by (simp [bdT, AV.bd, bdL, bdL_append]; done)) (by repeat' (first | exact True.intro | refine And.intro ?_ ?_ | exact bdL_map (fun _ => by exact rfl) _)) (by (rw [hm]; exact Nat.le_of_ble_eq_true rfl))⟩⟩
            · exfalso; simp_all
          | false =>
            have hsp : tokN (c :: r) = 1 := by simp only [tokN, hLc, hDc, Bool.false_eq_true, if_false]
            have hta : (c :: r).take (tokN (c :: r)) = [c] := by rw [hsp]; rfl
            have htW : tkW ((c :: r).take (tokN (c :: r))) = false := by rw [hta]; exact hLc
            have htN : tkNum ((c :: r).take (tokN (c :: r))) = -1 := by rw [hta]; simp only [tkNum, isNum, hDc]; rfl
            have hnext : s.size - (k + 1) < s.size - k ∧ k + 1 ≤ s.size ∧ (acc ++ [(k, (c :: r).take (tokN (c :: r)))]).length ≤ k + 1 ∧ (acc ++ [(k, (c :: r).take (tokN (c :: r)))]) ++ lexL ((bl s).drop (k + 1)) (k + 1) = lexL (bl s) 0 := by
              refine ⟨by omega, by omega, by simp only [List.length_append, List.length_cons, List.length_nil]; omega, ?_⟩
              rw [drop_add hd, ← hl, hsp]
              simp
            have htok : tokA (k, (c :: r).take (tokN (c :: r))) = .agg [intA (k : Nat), strA (tx ((c :: r).take (tokN (c :: r)))), boolA false, intA (-1)] := by
              simp only [tokA, htW, htN]
            (repeat' (first | apply jA | apply jF | apply jH | apply jI | apply jN | (refine wp_cond rfl (fun hc => ?_) (fun hc => ?_) <;> (try simp only [sB, ne_eq, reduceCtorEq] at hc) <;> (try (exfalso; omega))) | (refine WP.regionC (id := 3) ?_; (refine smove rfl ?_); (refine smove rfl ?_); (refine su (alenstr rfl rfl) ?_); (refine slss rfl rfl ?_); apply jW) | (refine WP.regionC (id := 4) ?_; (refine smove rfl ?_); (refine su (ap_build (RqP.cons (rq_p rfl rfl) (RqP.cons (rq_p rfl rfl) (RqP.nil))) rfl) ?_); (refine se_alloc rfl ?_); (refine se_store_b rfl rfl rfl rfl ?_); apply jW) | (refine WP.regionC (id := 5) ?_; (refine smove rfl ?_); (refine sadd rfl rfl (by exact inr_i64_of (by omega)) ?_); (refine sassign rfl ?_); apply jW) | (refine WP.regionC (id := 6) ?_; (refine smove rfl ?_); (refine smove rfl ?_); (refine su (asidxn rfl rfl rfl (by omega)) ?_); (refine sassign rfl ?_); apply jW) | (refine WP.regionC (id := 7) ?_; (refine smove rfl ?_); (refine seql rfl rfl ?_); (refine smove rfl ?_); (refine sg (gq_vf rfl rfl) (fun he => ap_move (rq_p rfl rfl)) ?_); (refine sg (gq_vf rfl rfl) (fun he => ap_eql (rq_c rfl rfl) (rq_p rfl rfl)) ?_); (refine su (ap_or (rq_p rfl rfl) (rq_c rfl rfl)) ?_); (refine smove rfl ?_); (refine sg (gq_vf rfl rfl) (fun he => ap_move (rq_p rfl rfl)) ?_); (refine sg (gq_vf rfl rfl) (fun he => ap_eql (rq_c rfl rfl) (rq_p rfl rfl)) ?_); (refine su (ap_or (rq_p rfl rfl) (rq_c rfl rfl)) ?_); (refine smove rfl ?_); (refine sg (gq_vf rfl rfl) (fun he => ap_move (rq_p rfl rfl)) ?_); (refine sg (gq_vf rfl rfl) (fun he => ap_eql (rq_c rfl rfl) (rq_p rfl rfl)) ?_); (refine su (ap_or (rq_p rfl rfl) (rq_c rfl rfl)) ?_); (refine sassign rfl ?_); apply jW) | (refine WP.regionC (id := 9) ?_; (refine smove rfl ?_); (refine seql rfl rfl ?_); (refine sassign rfl ?_); apply jW) | (refine WP.regionC (id := 11) ?_; (refine smove rfl ?_); (refine sc_p rfl rfl (by first | ((repeat' first | exact SubL.nil | refine SubL.cons ?_ ?_ | exact Sub.refl); done) | fail) (by first | (simp [bdL, bdL_append, AV.bd]; done) | fail) (gpletter_fn _) ?_); (refine sassign rfl ?_); apply jW) | (refine WP.regionC (id := 14) ?_; (refine smove rfl ?_); (refine sc_p rfl rfl (by first | ((repeat' first | exact SubL.nil | refine SubL.cons ?_ ?_ | exact Sub.refl); done) | fail) (by first | (simp [bdL, bdL_append, AV.bd]; done) | fail) (gpdigit_fn _) ?_); (refine sassign rfl ?_); apply jW) | (refine WP.regionC (id := 17) ?_; (refine smove rfl ?_); (refine smove rfl ?_); (refine smove rfl ?_); (refine su (ap_slice_s rfl (rq_p rfl rfl) (by exact bq_some (rq_p rfl rfl)) (by exact bq_some (rq_p rfl rfl)) (by omega)) ?_); (refine sfieldp rfl rfl rfl ?_); (refine se_store_b rfl rfl rfl rfl ?_); apply jW)))
            · exfalso; simp_all
            · exfalso; simp_all
            · exfalso; simp_all
            · skip
              have hx : s.extract (k : Int).toNat ((k : Int) + 1).toNat = tx ((c :: r).take (tokN (c :: r))) := by
                rw [extract_tx]
                simp only [Int.toNat_natCast]
                rw [hd, show ((k : Int) + 1).toNat - k = tokN (c :: r) by omega]
              rw [hx]
              refine wp_st (S 72 [(0, strA s), (3, .ref 0 4 0 acc.length), (4, intA (k : Nat)), (5, .ptr 1 4 0 0), (6, intA ((k : Int) + 1))] 2 [(0, some (.arr 4 (acc.map tokA))), (1, some (.arr 4 [.agg [intA (k : Nat), strA (tx ((c :: r).take (tokN (c :: r)))), boolA false, intA (-1)]]))]) ⟨[0, 1], ToR.S rfl (by repeat' (first | exact rt_nil | refine rt_r rfl rfl ?_ | refine rt_t rfl rfl ?_ | refine rt_e rfl rfl ?_)) (by repeat' (first | exact ro_nil | refine ro_e rfl rfl ?_ | refine ro_p rfl (by first | exact rfl | fail) (by first | exact bdL_map (fun _ => by exact rfl) _ | fail) ?_)) rfl (by (rw [hm]; exact rfl)) rfl (by (simp [bdT, AV.bd, bdL, bdL_append]; done)) (by repeat' (first | exact True.intro | exact rfl | refine And.intro ?_ ?_ | exact bdL_map (fun _ => by exact rfl) _)) (by (rw [hm]; exact Nat.le_of_ble_eq_true rfl))⟩ ?_
              rw [← htok]
              (repeat' (first | apply jH | apply jN | (refine WP.regionC (id := 18) ?_; (refine smove rfl ?_); (refine sloadpw rfl rfl rfl rfl ?_); (refine se_lit (OpP.cons rfl (OpP.nil)) rfl rfl rfl rfl rfl rfl ?_); (refine se_app1 rfl rfl rfl rfl rfl rfl rfl rfl (by omega) ?_); (refine sassign rfl ?_); apply jW) | (refine WP.regionC (id := 19) ?_; (refine smove rfl ?_); (refine sassign rfl ?_); apply jW)))
              exact ⟨(acc ++ [(k, (c :: r).take (tokN (c :: r)))], k + 1), hnext, ⟨[3], ToR.S rfl (by repeat' (first | exact rt_nil | refine rt_r rfl rfl ?_ | refine rt_e rfl rfl ?_)) (by repeat' (first | exact ro_nil | refine ro_p rfl (by first | exact rfl | fail) (by first | exact bdL_map (fun _ => by exact rfl) _ | fail) ?_)) rfl (by (rw [hm]; exact rfl)) rfl (by (simp [bdT, AV.bd, bdL, bdL_append]; done)) (by repeat' (first | exact True.intro | refine And.intro ?_ ?_ | exact bdL_map (fun _ => by exact rfl) _)) (by (rw [hm]; exact Nat.le_of_ble_eq_true rfl))⟩⟩
  · have hk2 : k = s.size := by omega
    have hnil : (bl s).drop k = [] := List.drop_eq_nil_of_le (by rw [bl_len]; omega)
    rw [hnil, lexL_nil, List.append_nil] at hl
    subst hl
    refine wp_frzm 3 hm rfl rfl rfl (fun _ => rfl) (fun _ => rfl) rfl ?_
    (repeat' (first | apply jA | apply jH | apply jJ | apply jK | apply jL | apply jP | apply jS | (refine wp_cond rfl (fun hc => ?_) (fun hc => ?_) <;> (try simp only [sB, ne_eq, reduceCtorEq] at hc) <;> (try (exfalso; omega))) | (refine WP.regionC (id := 3) ?_; (refine smove rfl ?_); (refine smove rfl ?_); (refine su (alenstr rfl rfl) ?_); (refine slss rfl rfl ?_); apply jW) | (refine WP.regionC (id := 20) ?_; (refine smove rfl ?_); (refine sassign rfl ?_); apply jW) | exact ret_eq rfl (by (simp [AV.bd, bdL, bdL_append]; done)) rfl))
    all_goals done
end Go.Lg

namespace Go.Lg
open Go.Proofs
set_option linter.unusedSimpArgs false
set_option linter.unusedVariables false
attribute [local irreducible] Ap Rq asemC WP RunD Ret Gq thenA inBlockA bodyQ noGotoA RqL RqP OpP
set_option maxHeartbeats 4000000
set_option maxRecDepth 20000
attribute [local simp] rdA pkA tokA toks_bd AV.cells
theorem ren_levelsA (π : Nat → Nat) (x : List GLe) : AV.ren π (levelsA x) = levelsA x := ren_pure (by simp [levelsA, AV.bd])
theorem ren_gruleA (π : Nat → Nat) (x : GRu) : AV.ren π (gruleA x) = gruleA x := ren_pure (bd_gruleA 0 x)
def noF : GFi := ⟨⟨#[]⟩, [], []⟩
def parseR (s : ByteArray) : GFi × Int × Int := match pFile (lexT (bl s)) with
  | .ok f _ => if validF f then (f, 0, 0) else (noF, 0, 1)
  | .err r => (noF, pos (cut (lexL (bl s) 0) r) (s.size : Int), 3)
def parseA (x : GFi × Int × Int) : AV := .tup [fileA x.1, intA x.2.1, intA x.2.2]
theorem parse_fn (s : ByteArray) (hs : s.size ≤ 100000) (hB : (lexL (bl s) 0).length ≤ 100000) (hW : NumW (lexL (bl s) 0)) (hT : ∀ f q, pFile (lexT (bl s)) = .ok f q → (toks f f.levels.length).length ≤ 1000000) :
    Fn Try.prog 9 [strA s] (parseA (parseR s)) := by
  refine FnD.intro (l1 := [(4, .ptr 2 1 0 0), (3, .ptr 1 1 0 0), (2, .ptr 0 3 0 0), (0, strA s)]) (M1 := 3) (os1 := [(2, some (boxI .i64 0)), (1, some (boxI .i64 0)), (0, some (boxF nilF))]) (capA := [.ptr 0 3 0 0, .ptr 1 1 0 0, .ptr 2 1 0 0]) (rs := [.cell 2 26, .cell 3 3, .cell 4 27])
    (by simp [parseA, AV.bd, bdL]) (by kernel_rfl) Try.func9 rfl rfl Try.ntmps9 (by exact Nat.le_of_ble_eq_true rfl) (by decide) rfl ?_ ?_ ?_ ?_
  · simp
  · intro i hi
    match i, hi with
    | 0, _ => rfl
    | 1, _ => rfl
    | 2, _ => rfl
  · intro Γ hm
    (repeat' ((refine WP.regionC (id := 0) ?_; (refine se_alloc rfl ?_); (refine se_alloc rfl ?_); (refine se_alloc rfl ?_); refine asemC_end ?_)))
    exact ⟨rfl, rfl⟩
  · intro Γ hm
    skip
    generalize hL : lexL (bl s) 0 = L at *
    have hlt : lexT (bl s) = L.map (·.2) := by rw [← hL]; rfl
    have hlex := lex_fn s (by omega)
    rw [hL] at hlex
    have herr : ∀ r, pFile (L.map (·.2)) = .err r → parseR s = (noF, pos (cut L r) (s.size : Int), 3) := fun r h => by unfold parseR; rw [hlt, h, hL]
    have hokk : ∀ f q, pFile (L.map (·.2)) = .ok f q → parseR s = if validF f then (f, 0, 0) else (noF, 0, 1) := fun f q h => by unfold parseR; rw [hlt, h]
    rw [hlt] at hT
    by_cases h0 : hdT L = bl kw0
    · obtain ⟨p1, l1, hl1, hp1⟩ := hdT_cons (by decide) h0
      have hE1 : FnO Try.prog 20 [.ptr 0 2 0 0, strA (tx (bl kw0))] [rdA L (s.size : Int)] (.tup []) [some (rdA l1 (s.size : Int))] := by rw [hl1]; exact expect_ok (bl kw0) (by decide) p1 l1 (s.size : Int) hp1
      have hs1 : l1 <:+ L := by rw [hl1]; exact List.suffix_cons _ _
      have hpt1 : pTake (bl kw0) (L.map (·.2)) = .ok () (l1.map (·.2)) := by rw [hl1, List.map_cons, pTake, if_pos hp1]
      have hnm := gpname_fn l1 (s.size : Int)
      cases hq1 : pName (l1.map (·.2)) with
      | err q =>
        have hqs : q <:+ l1.map (·.2) := by have := pName_suf (l1.map (·.2)); rw [hq1] at this; exact this
        have hX : FnX Try.prog 21 [.ptr 0 2 0 0] [rdA l1 (s.size : Int)] (synV (pos (cut l1 q) (s.size : Int))) := hnm.dies (by rw [hq1]; simp only [pout])
        rw [herr q (by simp only [pFile, hpt1, hq1]), ← cut_cut hs1 hqs]
        (repeat' (first | apply jA | apply jH | apply jT | (refine wpl_region (id := 2) ?_; (refine wpl_step rfl ?_; (refine smove rfl ?_); apply jW; ((refine wpl_step rfl ?_; (refine sc_p rfl rfl (by first | ((repeat' first | exact SubL.nil | refine SubL.cons ?_ ?_ | exact Sub.refl); done) | fail) (by first | (simp [bdL, bdL_append, AV.bd]; done) | fail) (hlex) ?_); apply jW; (refine wpl_step rfl ?_; (refine smove rfl ?_); apply jW; (refine wpl_step rfl ?_; (refine su (alenstr rfl rfl) ?_); apply jW; (refine wpl_step rfl ?_; (refine su (ap_build (RqP.cons (rq_p rfl rfl) (RqP.cons (rq_p rfl rfl) (RqP.nil))) rfl) ?_); apply jW; (refine wpl_step rfl ?_; (refine se_box rfl (by exact ⟨rfl, rfl⟩) ?_); apply jW; (refine wpl_step rfl ?_; (refine sassign rfl ?_); apply jW; (apply jX)))))))))) | (refine wpl_region (id := 3) ?_; (refine wpl_step rfl ?_; (refine smove rfl ?_); apply jW; ((refine wpl_step rfl ?_; (refine sc_o [3] rfl rfl (hE1) (Lend.o1 rfl rfl (by (exact (renL_pure (by simp [AV.bd, bdL, bdL_append])).symm)) rfl (by simp [AV.bd, bdL, bdL_append]) (by simp [AV.bd, bdL, bdL_append])) ?_; simp only [updN, newO, AObj.ren, renL, AV.ren, apx, ap, if_true, if_false, Nat.reduceLT, Nat.reduceAdd, Nat.reduceSub, sO, intA, boolA, strA, rdA, ren_toks]); apply jW; (apply jX))))) | (refine wpl_region (id := 4) ?_; (refine wpl_step rfl ?_; (refine smove rfl ?_); apply jW; ((refine wpl_x [3] rfl rfl (hX) (Lend.S (by first | ((repeat' first | exact RenL.nil | refine RenL.cons rfl ?_); done) | fail) (by first | ((repeat' first | exact LendO.nil | refine LendO.arr rfl (by (exact (renL_pure (by simp [AV.bd, bdL, bdL_append])).symm)) ?_); done) | fail) (by decide) rfl (by simp [AV.bd, bdL, bdL_append]) (by repeat' (first | exact True.intro | refine And.intro ?_ ?_ | simp [AV.bd, bdL, bdL_append]))) ?_))))))
        refine bd_endp (ys' := [.ptr 0 3 0 0, .ptr 1 1 0 0, .ptr 2 1 0 0]) (mid := [boxF (.agg [strA ⟨#[]⟩, .val (.slice none 0 0), .val (.slice none 0 0)]), boxI .i64 0, boxI .i64 0]) [0, 1, 2] [(3, [nilF]), (1, [.val (.int .i64 _)]), (1, [.val (.int .i64 3)])] rfl (Lend.S (by first | ((repeat' first | exact RenL.nil | refine RenL.cons rfl ?_); done) | fail) (by first | ((repeat' first | exact LendO.nil | refine LendO.arr rfl rfl ?_); done) | fail) (by decide) rfl (by simp [AV.bd, bdL, bdL_append]) (by repeat' (first | exact True.intro | refine And.intro ?_ ?_ | simp [AV.bd, bdL, bdL_append]))) (def_panic _ _ _ (fun _ => by simp [strA, AV.bd]) (fun _ => by simp [AV.bd, levelsA]) (fun _ => by simp [AV.bd]) _ _ _) (by simp [nilF, AV.bd, bdL, levelsA]) ?_
        exact ret_many (xs := [nilF, .val (.int .i64 _), .val (.int .i64 3)]) (.cellT rfl rfl rfl rfl (.cellT rfl rfl rfl rfl (.cellT rfl rfl rfl rfl .nil))) (by exact Nat.le_of_ble_eq_true rfl) (by first | ((repeat' first | exact FzL.nil | refine FzL.cons ?_ ?_ | exact Fz.nil | (exact Fz.reflp (by simp [AV.bd, bdL, bdL_append])) | refine Fz.aggL ?_); done) | fail)
      | ok n r2 =>
        have hr2 : r2 <:+ l1.map (·.2) := by have := pName_suf (l1.map (·.2)); rw [hq1] at this; exact this
        have hO2 : FnO Try.prog 21 [.ptr 0 2 0 0] [rdA l1 (s.size : Int)] (strA n) [some (rdA (cut l1 r2) (s.size : Int))] := hnm.oks (by rw [hq1]; simp only [pout])
        have hs2 := (cut_suf l1 r2).trans hs1
        have hm2 := cut_map hr2
        generalize hl2 : cut l1 r2 = l2 at *
        by_cases h59 : hdT l2 = [59]
        · obtain ⟨p3, l3, hl3, hp3⟩ := hdT_cons (by simp) h59
          have hE3 : FnO Try.prog 20 [.ptr 0 2 0 0, strA (tx [59])] [rdA l2 (s.size : Int)] (.tup []) [some (rdA l3 (s.size : Int))] := by rw [hl3]; exact expect_ok [59] (by simp) p3 l3 (s.size : Int) hp3
          have hpt3 : pTake [59] r2 = .ok () (l3.map (·.2)) := by rw [← hm2, hl3, List.map_cons, pTake, if_pos hp3]
          have hs3 : l3 <:+ L := by rw [hl3] at hs2; exact (List.suffix_cons _ _).trans hs2
          have hlen3 := hs3.length_le
          have hlv := gplevels_fn l3 (s.size : Int) (by omega)
          cases hq4 : pLevels (l3.map (·.2)) with
          | err q =>
            have hqs : q <:+ l3.map (·.2) := by have := pLevels_suf _ (l3.map (·.2)) (Nat.le_refl _); rw [hq4] at this; exact this
            have hX : FnX Try.prog 22 [.ptr 0 2 0 0] [rdA l3 (s.size : Int)] (synV (pos (cut l3 q) (s.size : Int))) := hlv.dies (by rw [hq4]; simp only [pout])
            rw [herr q (by simp only [pFile, hpt1, hq1, hpt3, hq4]), ← cut_cut hs3 hqs]
            (repeat' (first | apply jA | apply jH | apply jT | (refine wpl_region (id := 2) ?_; (refine wpl_step rfl ?_; (refine smove rfl ?_); apply jW; ((refine wpl_step rfl ?_; (refine sc_p rfl rfl (by first | ((repeat' first | exact SubL.nil | refine SubL.cons ?_ ?_ | exact Sub.refl); done) | fail) (by first | (simp [bdL, bdL_append, AV.bd]; done) | fail) (hlex) ?_); apply jW; (refine wpl_step rfl ?_; (refine smove rfl ?_); apply jW; (refine wpl_step rfl ?_; (refine su (alenstr rfl rfl) ?_); apply jW; (refine wpl_step rfl ?_; (refine su (ap_build (RqP.cons (rq_p rfl rfl) (RqP.cons (rq_p rfl rfl) (RqP.nil))) rfl) ?_); apply jW; (refine wpl_step rfl ?_; (refine se_box rfl (by exact ⟨rfl, rfl⟩) ?_); apply jW; (refine wpl_step rfl ?_; (refine sassign rfl ?_); apply jW; (apply jX)))))))))) | (refine wpl_region (id := 3) ?_; (refine wpl_step rfl ?_; (refine smove rfl ?_); apply jW; ((refine wpl_step rfl ?_; (refine sc_o [3] rfl rfl (hE1) (Lend.o1 rfl rfl (by (exact (renL_pure (by simp [AV.bd, bdL, bdL_append])).symm)) rfl (by simp [AV.bd, bdL, bdL_append]) (by simp [AV.bd, bdL, bdL_append])) ?_; simp only [updN, newO, AObj.ren, renL, AV.ren, apx, ap, if_true, if_false, Nat.reduceLT, Nat.reduceAdd, Nat.reduceSub, sO, intA, boolA, strA, rdA, ren_toks]); apply jW; (apply jX))))) | (refine wpl_region (id := 4) ?_; (refine wpl_step rfl ?_; (refine smove rfl ?_); apply jW; ((refine wpl_step rfl ?_; (refine sc_o [3] rfl rfl (hO2) (Lend.o1 rfl rfl (by (exact (renL_pure (by simp [AV.bd, bdL, bdL_append])).symm)) rfl (by simp [AV.bd, bdL, bdL_append]) (by simp [AV.bd, bdL, bdL_append])) ?_; simp only [updN, newO, AObj.ren, renL, AV.ren, apx, ap, if_true, if_false, Nat.reduceLT, Nat.reduceAdd, Nat.reduceSub, sO, intA, boolA, strA, rdA, ren_toks]); apply jW; (refine wpl_step rfl ?_; (refine sfieldp rfl rfl rfl ?_); apply jW; (refine wpl_step rfl ?_; (refine se_store_b rfl rfl rfl rfl ?_); apply jW; (apply jX))))))) | (refine wpl_region (id := 5) ?_; (refine wpl_step rfl ?_; (refine smove rfl ?_); apply jW; ((refine wpl_step rfl ?_; (refine sc_o [3] rfl rfl (hE3) (Lend.o1 rfl rfl (by (exact (renL_pure (by simp [AV.bd, bdL, bdL_append])).symm)) rfl (by simp [AV.bd, bdL, bdL_append]) (by simp [AV.bd, bdL, bdL_append])) ?_; simp only [updN, newO, AObj.ren, renL, AV.ren, apx, ap, if_true, if_false, Nat.reduceLT, Nat.reduceAdd, Nat.reduceSub, sO, intA, boolA, strA, rdA, ren_toks]); apply jW; (apply jX))))) | (refine wpl_region (id := 6) ?_; (refine wpl_step rfl ?_; (refine smove rfl ?_); apply jW; ((refine wpl_x [3] rfl rfl (hX) (Lend.S (by first | ((repeat' first | exact RenL.nil | refine RenL.cons rfl ?_); done) | fail) (by first | ((repeat' first | exact LendO.nil | refine LendO.arr rfl (by (exact (renL_pure (by simp [AV.bd, bdL, bdL_append])).symm)) ?_); done) | fail) (by decide) rfl (by simp [AV.bd, bdL, bdL_append]) (by repeat' (first | exact True.intro | refine And.intro ?_ ?_ | simp [AV.bd, bdL, bdL_append]))) ?_))))))
            refine bd_endp (ys' := [.ptr 0 3 0 0, .ptr 1 1 0 0, .ptr 2 1 0 0]) (mid := [boxF (.agg [strA n, .val (.slice none 0 0), .val (.slice none 0 0)]), boxI .i64 0, boxI .i64 0]) [0, 1, 2] [(3, [nilF]), (1, [.val (.int .i64 _)]), (1, [.val (.int .i64 3)])] rfl (Lend.S (by first | ((repeat' first | exact RenL.nil | refine RenL.cons rfl ?_); done) | fail) (by first | ((repeat' first | exact LendO.nil | refine LendO.arr rfl rfl ?_); done) | fail) (by decide) rfl (by simp [AV.bd, bdL, bdL_append]) (by repeat' (first | exact True.intro | refine And.intro ?_ ?_ | simp [AV.bd, bdL, bdL_append]))) (def_panic _ _ _ (fun _ => by simp [strA, AV.bd]) (fun _ => by simp [AV.bd, levelsA]) (fun _ => by simp [AV.bd]) _ _ _) (by simp [nilF, AV.bd, bdL, levelsA]) ?_
            exact ret_many (xs := [nilF, .val (.int .i64 _), .val (.int .i64 3)]) (.cellT rfl rfl rfl rfl (.cellT rfl rfl rfl rfl (.cellT rfl rfl rfl rfl .nil))) (by exact Nat.le_of_ble_eq_true rfl) (by first | ((repeat' first | exact FzL.nil | refine FzL.cons ?_ ?_ | exact Fz.nil | (exact Fz.reflp (by simp [AV.bd, bdL, bdL_append])) | refine Fz.aggL ?_); done) | fail)
          | ok ls r4 =>
            have hr4 : r4 <:+ l3.map (·.2) := by have := pLevels_suf _ (l3.map (·.2)) (Nat.le_refl _); rw [hq4] at this; exact this
            have hO4 : FnO Try.prog 22 [.ptr 0 2 0 0] [rdA l3 (s.size : Int)] (levelsA ls) [some (rdA (cut l3 r4) (s.size : Int))] := hlv.oks (by rw [hq4]; simp only [pout])
            have hs4 := (cut_suf l3 r4).trans hs3
            have hm4 := cut_map hr4
            generalize hl4 : cut l3 r4 = l4 at *
            have hlen4 := hs4.length_le
            have hpf : ∀ q, pRules (l4.map (·.2)) = .err q → pFile (L.map (·.2)) = .err q := fun q h => by rw [hm4] at h; simp only [pFile, hpt1, hq1, hpt3, hq4, h]
            have hpo : ∀ rs q, pRules (l4.map (·.2)) = .ok rs q → pFile (L.map (·.2)) = .ok ⟨n, ls, rs⟩ q := fun rs q h => by rw [hm4] at h; simp only [pFile, hpt1, hq1, hpt3, hq4, h]
            (repeat' (first | apply jA | apply jF | apply jH | (refine WP.regionC (id := 2) ?_; (refine smove rfl ?_); (refine sc_p rfl rfl (by first | ((repeat' first | exact SubL.nil | refine SubL.cons ?_ ?_ | exact Sub.refl); done) | fail) (by first | (simp [bdL, bdL_append, AV.bd]; done) | fail) (hlex) ?_); (refine smove rfl ?_); (refine su (alenstr rfl rfl) ?_); (refine su (ap_build (RqP.cons (rq_p rfl rfl) (RqP.cons (rq_p rfl rfl) (RqP.nil))) rfl) ?_); (refine se_box rfl (by exact ⟨rfl, rfl⟩) ?_); (refine sassign rfl ?_); apply jW) | (refine WP.regionC (id := 3) ?_; (refine smove rfl ?_); (refine sc_o [3] rfl rfl (hE1) (Lend.o1 rfl rfl (by (exact (renL_pure (by simp [AV.bd, bdL, bdL_append])).symm)) rfl (by simp [AV.bd, bdL, bdL_append]) (by simp [AV.bd, bdL, bdL_append])) ?_; simp only [updN, newO, AObj.ren, renL, AV.ren, apx, ap, if_true, if_false, Nat.reduceLT, Nat.reduceAdd, Nat.reduceSub, sO, intA, boolA, strA, rdA, ren_toks]); apply jW) | (refine WP.regionC (id := 4) ?_; (refine smove rfl ?_); (refine sc_o [3] rfl rfl (hO2) (Lend.o1 rfl rfl (by (exact (renL_pure (by simp [AV.bd, bdL, bdL_append])).symm)) rfl (by simp [AV.bd, bdL, bdL_append]) (by simp [AV.bd, bdL, bdL_append])) ?_; simp only [updN, newO, AObj.ren, renL, AV.ren, apx, ap, if_true, if_false, Nat.reduceLT, Nat.reduceAdd, Nat.reduceSub, sO, intA, boolA, strA, rdA, ren_toks]); (refine sfieldp rfl rfl rfl ?_); (refine se_store_b rfl rfl rfl rfl ?_); apply jW) | (refine WP.regionC (id := 5) ?_; (refine smove rfl ?_); (refine sc_o [3] rfl rfl (hE3) (Lend.o1 rfl rfl (by (exact (renL_pure (by simp [AV.bd, bdL, bdL_append])).symm)) rfl (by simp [AV.bd, bdL, bdL_append]) (by simp [AV.bd, bdL, bdL_append])) ?_; simp only [updN, newO, AObj.ren, renL, AV.ren, apx, ap, if_true, if_false, Nat.reduceLT, Nat.reduceAdd, Nat.reduceSub, sO, intA, boolA, strA, rdA, ren_toks]); apply jW) | (refine WP.regionC (id := 6) ?_; (refine smove rfl ?_); (refine sc_o [3] rfl rfl (hO4) (Lend.o1 rfl rfl (by (exact (renL_pure (by simp [AV.bd, bdL, bdL_append])).symm)) rfl (by simp [AV.bd, bdL, bdL_append]) (by simp [AV.bd, bdL, bdL_append])) ?_; simp only [updN, newO, AObj.ren, renL, AV.ren, apx, ap, if_true, if_false, Nat.reduceLT, Nat.reduceAdd, Nat.reduceSub, sO, intA, boolA, strA, rdA, ren_toks, ren_levelsA]); (refine sfieldp rfl rfl rfl ?_); (refine se_store_b rfl rfl rfl rfl ?_); apply jW) | (refine WP.regionC (id := 7) ?_; (refine sassign rfl ?_); apply jW)))
            refine wp_nil 6 2 rfl ?_
            refine wp_loop (fun (σ : List GRu × List (Nat × Tx)) => σ.2 <:+ l4 ∧ σ.1.length + σ.2.length ≤ L.length ∧ finU σ.1 (σ.2.map (·.2)) = pRules (l4.map (·.2))) (fun σ => σ.2.length)
              (fun σ => (S 42 [(2, .ptr 0 3 0 0), (3, .ptr 1 1 0 0), (4, .ptr 2 1 0 0), (5, .ptr 3 2 0 0), (6, .ref 4 2 0 σ.1.length)] 5 [(0, some (boxF (.agg [strA n, levelsA ls, .val (.slice none 0 0)]))), (1, some (boxI .i64 0)), (2, some (boxI .i64 0)), (3, some (rdA σ.2 (s.size : Int))), (4, some (.arr 2 (σ.1.map gruleA)))])) ([], l4) ⟨[0, 1, 2, 3, 4], ToR.S rfl (by repeat' (first | exact rt_nil | refine rt_r rfl rfl ?_ | refine rt_t rfl rfl ?_)) (by repeat' (first | exact ro_nil | refine ro_e rfl rfl ?_ | refine ro_p rfl (by first | exact rfl | fail) (by first | (simp [bdL, bdL_append, AV.bd]; done) | fail) ?_)) rfl (by (rw [hm]; exact rfl)) rfl (by (simp [bdT, AV.bd, bdL, bdL_append]; done)) (by repeat' (first | exact True.intro | exact rfl | refine And.intro ?_ ?_ | (simp [bdOq, bdL, bdL_append, AV.bd]; done))) (by (rw [hm]; exact Nat.le_of_ble_eq_true rfl))⟩ ⟨List.suffix_refl _, by simpa using hlen4, finU_nil _⟩ ?_
            rintro ⟨acc, l5⟩ ⟨hs5, hn5, hf5⟩
            simp only at hs5 hn5 hf5 ⊢
            cases l5 with
            | nil =>
              have hpr : pRules (l4.map (·.2)) = .ok acc [] := by rw [← hf5]; exact finU_stop acc
              have hpF := hpo acc [] hpr
              have hval := gvalid_fn ⟨n, ls, acc⟩ (hT _ _ hpF)
              rw [hokk _ _ hpF]
              (repeat' (first | apply jA | apply jF | apply jH | apply jI | apply jJ | apply jL | apply jP | (refine wp_cond rfl (fun hc => ?_) (fun hc => ?_) <;> (try simp only [sB, ne_eq, reduceCtorEq] at hc) <;> (try (exfalso; omega))) | (refine WP.regionC (id := 8) ?_; (refine smove rfl ?_); (refine snilc rfl ?_); (refine sfieldp rfl rfl rfl ?_); (refine sloadp rfl rfl rfl rfl ?_); (refine slenm rfl rfl ?_); (refine su (agtr rfl rfl) ?_); apply jW)))
              · exfalso; simp at hc
              · refine wp_frzm 6 hm rfl rfl rfl (bd_gruleA 0) (fun _ => rfl) rfl ?_
                (repeat' (first | apply jA | apply jH | apply jI | apply jK | apply jM | (refine wp_cond rfl (fun hc => ?_) (fun hc => ?_) <;> (try simp only [sB, ne_eq, reduceCtorEq] at hc) <;> (try (exfalso; omega))) | (refine WP.regionC (id := 10) ?_; (refine smove rfl ?_); (refine sfieldp rfl rfl rfl ?_); (refine se_store_b rfl rfl rfl rfl ?_); apply jW) | (refine WP.regionC (id := 11) ?_; (refine sloadpw rfl rfl rfl rfl ?_); (refine sc_p rfl rfl (by first | ((repeat' first | exact SubL.nil | refine SubL.cons ?_ ?_ | exact Sub.refl); done) | fail) (by first | (simp [bdL, bdL_append, AV.bd]; done) | fail) (hval) ?_); (refine su (anot rfl) ?_); apply jW) | (refine WP.regionC (id := 12) ?_; (refine su (ap_build (RqP.nil) rfl) ?_); (refine se_store_b rfl rfl rfl rfl ?_); (refine se_store_b rfl rfl rfl rfl ?_); (refine se_store_b rfl rfl rfl rfl ?_); apply jW) | (refine WP.regionC (id := 13) ?_; (refine sloadpw rfl rfl rfl rfl ?_); (refine se_store_b rfl rfl rfl rfl ?_); (refine se_store_b rfl rfl rfl rfl ?_); (refine se_store_b rfl rfl rfl rfl ?_); apply jW)))
                · rw [if_neg (by simpa using hc)]
                  refine bd_endp (ys' := [.ptr 0 3 0 0, .ptr 1 1 0 0, .ptr 2 1 0 0]) (mid := [boxF (.agg [strA ⟨#[]⟩, .val (.slice none 0 0), .val (.slice none 0 0)]), boxI .i64 0, boxI .i64 1]) [0, 1, 2] [(3, [nilF]), (1, [.val (.int .i64 0)]), (1, [.val (.int .i64 1)])] rfl (Lend.S (by first | ((repeat' first | exact RenL.nil | refine RenL.cons rfl ?_); done) | fail) (by first | ((repeat' first | exact LendO.nil | refine LendO.arr rfl rfl ?_); done) | fail) (by decide) rfl (by simp [AV.bd, bdL, bdL_append]) (by repeat' (first | exact True.intro | refine And.intro ?_ ?_ | simp [AV.bd, bdL, bdL_append]))) (def_ret _ _ _ (fun _ => by simp [strA, AV.bd]) (fun _ => by simp [AV.bd, levelsA]) (fun _ => by simp [AV.bd]) _ _) (by simp [nilF, AV.bd, bdL, levelsA]) ?_
                  exact ret_many (xs := [nilF, .val (.int .i64 0), .val (.int .i64 1)]) (.cellT rfl rfl rfl rfl (.cellT rfl rfl rfl rfl (.cellT rfl rfl rfl rfl .nil))) (by exact Nat.le_of_ble_eq_true rfl) (by first | ((repeat' first | exact FzL.nil | refine FzL.cons ?_ ?_ | exact Fz.nil | (exact Fz.reflp (by simp [AV.bd, bdL, bdL_append])) | refine Fz.aggL ?_); done) | fail)
                · rw [if_pos hc]
                  refine bd_endp (ys' := [.ptr 0 3 0 0, .ptr 1 1 0 0, .ptr 2 1 0 0]) (mid := [boxF (.agg [strA n, levelsA ls, .sl 2 (acc.map gruleA)]), boxI .i64 0, boxI .i64 0]) [0, 1, 2] [(3, [.agg [strA n, levelsA ls, .sl 2 (acc.map gruleA)]]), (1, [.val (.int .i64 0)]), (1, [.val (.int .i64 0)])] rfl (Lend.S (by first | ((repeat' first | exact RenL.nil | refine RenL.cons rfl ?_); done) | fail) (by first | ((repeat' first | exact LendO.nil | refine LendO.arr rfl (by first | exact rfl | (exact (renL_pure (by simp [AV.bd, bdL, bdL_append])).symm)) ?_); done) | fail) (by decide) rfl (by simp [AV.bd, bdL, bdL_append]) (by repeat' (first | exact True.intro | refine And.intro ?_ ?_ | simp [AV.bd, bdL, bdL_append]))) (def_ret _ _ _ (fun _ => by simp [strA, AV.bd]) (fun _ => by simp [AV.bd, levelsA]) (fun _ => by simp [AV.bd]) _ _) (by simp [nilF, AV.bd, bdL, levelsA]) ?_
                  exact ret_many (xs := [.agg [strA n, levelsA ls, .sl 2 (acc.map gruleA)], .val (.int .i64 0), .val (.int .i64 0)]) (.cellT rfl rfl rfl rfl (.cellT rfl rfl rfl rfl (.cellT rfl rfl rfl rfl .nil))) (by exact Nat.le_of_ble_eq_true rfl) (by first | ((repeat' first | exact FzL.nil | refine FzL.cons ?_ ?_ | (exact Fz.reflp (by simp [AV.bd, bdL, bdL_append]))); done) | fail)
            | cons p5 l6 =>
              have hs5L := hs5.trans hs4
              have hru := gprule_fn (p5 :: l6) (s.size : Int) (by simp only [List.length_cons] at hn5 ⊢; omega) (hW.suf hs5L)
              have hst := finU_step acc p5.2 (l6.map (·.2))
              cases hq5 : pRule (p5.2 :: l6.map (·.2)) with
              | err q =>
                have hqs : q <:+ (p5 :: l6).map (·.2) := by have := pRule_suf (p5.2 :: l6.map (·.2)); rw [hq5] at this; exact this
                have hX : FnX Try.prog 23 [.ptr 0 2 0 0] [rdA (p5 :: l6) (s.size : Int)] (synV (pos (cut (p5 :: l6) q) (s.size : Int))) := hru.dies (by simp only [List.map_cons]; rw [hq5]; simp only [pout])
                rw [herr q (hpf q (by rw [← hf5, List.map_cons, hst, hq5])), ← cut_cut hs5L hqs]
                have hlen6 : (p5 :: l6).length = l6.length + 1 := rfl
                (repeat' (first | apply jA | apply jF | apply jH | apply jI | apply jT | apply jU | (refine wp_cond rfl (fun hc => ?_) (fun hc => ?_) <;> (try simp only [sB, ne_eq, reduceCtorEq] at hc) <;> (try (exfalso; omega))) | (refine WP.regionC (id := 8) ?_; (refine smove rfl ?_); (refine snilc rfl ?_); (refine sfieldp rfl rfl rfl ?_); (refine sloadp rfl rfl rfl rfl ?_); (refine slenm rfl rfl ?_); (refine su (agtr rfl rfl) ?_); apply jW) | (refine wpl_region (id := 9) ?_; (refine wpl_step rfl ?_; (refine smove rfl ?_); apply jW; (refine wpl_step rfl ?_; (refine smove rfl ?_); apply jW; ((refine wpl_x [3] rfl rfl (hX) (Lend.S (by first | ((repeat' first | exact RenL.nil | refine RenL.cons rfl ?_); done) | fail) (by first | ((repeat' first | exact LendO.nil | refine LendO.arr rfl (by (exact (renL_pure (by simp [AV.bd, bdL, bdL_append])).symm)) ?_); done) | fail) (by decide) rfl (by simp [AV.bd, bdL, bdL_append]) (by repeat' (first | exact True.intro | refine And.intro ?_ ?_ | simp [AV.bd, bdL, bdL_append]))) ?_)))))))
                · skip
                  refine bd_endp (ys' := [.ptr 0 3 0 0, .ptr 1 1 0 0, .ptr 2 1 0 0]) (mid := [boxF (.agg [strA n, levelsA ls, .val (.slice none 0 0)]), boxI .i64 0, boxI .i64 0]) [0, 1, 2] [(3, [nilF]), (1, [.val (.int .i64 _)]), (1, [.val (.int .i64 3)])] rfl (Lend.S (by first | ((repeat' first | exact RenL.nil | refine RenL.cons rfl ?_); done) | fail) (by first | ((repeat' first | exact LendO.nil | refine LendO.arr rfl (by first | exact rfl | (exact (renL_pure (by simp [AV.bd, bdL, bdL_append])).symm)) ?_); done) | fail) (by decide) rfl (by simp [AV.bd, bdL, bdL_append]) (by repeat' (first | exact True.intro | refine And.intro ?_ ?_ | simp [AV.bd, bdL, bdL_append]))) (def_panic _ _ _ (fun _ => by simp [strA, AV.bd]) (fun _ => by simp [AV.bd, levelsA]) (fun _ => by simp [AV.bd]) _ _ _) (by simp [nilF, AV.bd, bdL, levelsA]) ?_
                  exact ret_many (xs := [nilF, .val (.int .i64 _), .val (.int .i64 3)]) (.cellT rfl rfl rfl rfl (.cellT rfl rfl rfl rfl (.cellT rfl rfl rfl rfl .nil))) (by exact Nat.le_of_ble_eq_true rfl) (by first | ((repeat' first | exact FzL.nil | refine FzL.cons ?_ ?_ | exact Fz.nil | (exact Fz.reflp (by simp [AV.bd, bdL, bdL_append])) | refine Fz.aggL ?_); done) | fail)
              | ok x r =>
                have hqs : r <:+ (p5 :: l6).map (·.2) := by have := pRule_suf (p5.2 :: l6.map (·.2)); rw [hq5] at this; exact this
                have hO : FnO Try.prog 23 [.ptr 0 2 0 0] [rdA (p5 :: l6) (s.size : Int)] (gruleA x) [some (rdA (cut (p5 :: l6) r) (s.size : Int))] := hru.oks (by simp only [List.map_cons]; rw [hq5]; simp only [pout])
                have hltr := pRule_lt hq5
                simp only [List.length_cons, List.length_map] at hltr
                have hcl : (cut (p5 :: l6) r).length = r.length := by have := congrArg List.length (cut_map hqs); rwa [List.length_map] at this
                simp only [List.length_cons] at hn5
                have hnext : (cut (p5 :: l6) r).length < (p5 :: l6).length ∧ cut (p5 :: l6) r <:+ l4 ∧ (acc ++ [x]).length + (cut (p5 :: l6) r).length ≤ L.length ∧ finU (acc ++ [x]) ((cut (p5 :: l6) r).map (·.2)) = pRules (l4.map (·.2)) := by
                  refine ⟨by simp only [List.length_cons]; omega, (cut_suf _ _).trans hs5, by simp only [List.length_append, List.length_cons, List.length_nil]; omega, ?_⟩
                  rw [cut_map hqs, ← hf5, List.map_cons, hst, hq5]
                have hlen6 : (p5 :: l6).length = l6.length + 1 := rfl
                (repeat' (first | apply jA | apply jF | apply jH | apply jI | apply jN | (refine wp_cond rfl (fun hc => ?_) (fun hc => ?_) <;> (try simp only [sB, ne_eq, reduceCtorEq] at hc) <;> (try (exfalso; omega))) | (refine WP.regionC (id := 8) ?_; (refine smove rfl ?_); (refine snilc rfl ?_); (refine sfieldp rfl rfl rfl ?_); (refine sloadp rfl rfl rfl rfl ?_); (refine slenm rfl rfl ?_); (refine su (agtr rfl rfl) ?_); apply jW) | (refine WP.regionC (id := 9) ?_; (refine smove rfl ?_); (refine smove rfl ?_); (refine sc_o [3] rfl rfl (hO) (Lend.o1 rfl rfl (by (exact (renL_pure (by simp [AV.bd, bdL, bdL_append])).symm)) rfl (by simp [AV.bd, bdL, bdL_append]) (by simp [AV.bd, bdL, bdL_append])) ?_; simp only [updN, newO, AObj.ren, renL, AV.ren, apx, ap, if_true, if_false, Nat.reduceLT, Nat.reduceAdd, Nat.reduceSub, sO, intA, boolA, strA, rdA, ren_toks, ren_gruleA]); (refine se_lit (OpP.cons rfl (OpP.nil)) rfl rfl rfl rfl rfl rfl ?_); (refine se_app1 rfl rfl rfl rfl rfl rfl rfl rfl (by omega) ?_); (refine sassign rfl ?_); apply jW)))
                exact ⟨(acc ++ [x], cut (p5 :: l6) r), hnext, ⟨[0, 1, 2, 3, 6], ToR.S rfl (by repeat' (first | exact rt_nil | refine rt_r rfl rfl ?_ | refine rt_t rfl rfl ?_)) (by repeat' (first | exact ro_nil | refine ro_e rfl rfl ?_ | refine ro_p rfl (by first | exact rfl | fail) (by first | exact bdL_map (fun _ => by simp [AV.bd, bdL, bdL_append]) _ | (simp [bdL, bdL_append, AV.bd]; done) | fail) ?_)) rfl (by (rw [hm]; exact rfl)) rfl (by (simp [bdT, AV.bd, bdL, bdL_append]; done)) (by repeat' (first | exact True.intro | exact rfl | refine And.intro ?_ ?_ | exact bdL_map (fun _ => by simp [AV.bd, bdL, bdL_append]) _ | (simp [bdOq, bdL, bdL_append, AV.bd]; done))) (by (rw [hm]; exact Nat.le_of_ble_eq_true rfl))⟩⟩
        · have hX := expect_x [59] (by simp) l2 (s.size : Int) h59
          rw [herr r2 (by have : pTake [59] r2 = .err r2 := by rw [← hm2]; exact pTake_bad (by simp) h59
                          simp only [pFile, hpt1, hq1, this]), ← cut_cut hs1 hr2, hl2]
          (repeat' (first | apply jA | apply jH | apply jT | (refine wpl_region (id := 2) ?_; (refine wpl_step rfl ?_; (refine smove rfl ?_); apply jW; ((refine wpl_step rfl ?_; (refine sc_p rfl rfl (by first | ((repeat' first | exact SubL.nil | refine SubL.cons ?_ ?_ | exact Sub.refl); done) | fail) (by first | (simp [bdL, bdL_append, AV.bd]; done) | fail) (hlex) ?_); apply jW; (refine wpl_step rfl ?_; (refine smove rfl ?_); apply jW; (refine wpl_step rfl ?_; (refine su (alenstr rfl rfl) ?_); apply jW; (refine wpl_step rfl ?_; (refine su (ap_build (RqP.cons (rq_p rfl rfl) (RqP.cons (rq_p rfl rfl) (RqP.nil))) rfl) ?_); apply jW; (refine wpl_step rfl ?_; (refine se_box rfl (by exact ⟨rfl, rfl⟩) ?_); apply jW; (refine wpl_step rfl ?_; (refine sassign rfl ?_); apply jW; (apply jX)))))))))) | (refine wpl_region (id := 3) ?_; (refine wpl_step rfl ?_; (refine smove rfl ?_); apply jW; ((refine wpl_step rfl ?_; (refine sc_o [3] rfl rfl (hE1) (Lend.o1 rfl rfl (by (exact (renL_pure (by simp [AV.bd, bdL, bdL_append])).symm)) rfl (by simp [AV.bd, bdL, bdL_append]) (by simp [AV.bd, bdL, bdL_append])) ?_; simp only [updN, newO, AObj.ren, renL, AV.ren, apx, ap, if_true, if_false, Nat.reduceLT, Nat.reduceAdd, Nat.reduceSub, sO, intA, boolA, strA, rdA, ren_toks]); apply jW; (apply jX))))) | (refine wpl_region (id := 4) ?_; (refine wpl_step rfl ?_; (refine smove rfl ?_); apply jW; ((refine wpl_step rfl ?_; (refine sc_o [3] rfl rfl (hO2) (Lend.o1 rfl rfl (by (exact (renL_pure (by simp [AV.bd, bdL, bdL_append])).symm)) rfl (by simp [AV.bd, bdL, bdL_append]) (by simp [AV.bd, bdL, bdL_append])) ?_; simp only [updN, newO, AObj.ren, renL, AV.ren, apx, ap, if_true, if_false, Nat.reduceLT, Nat.reduceAdd, Nat.reduceSub, sO, intA, boolA, strA, rdA, ren_toks]); apply jW; (refine wpl_step rfl ?_; (refine sfieldp rfl rfl rfl ?_); apply jW; (refine wpl_step rfl ?_; (refine se_store_b rfl rfl rfl rfl ?_); apply jW; (apply jX))))))) | (refine wpl_region (id := 5) ?_; (refine wpl_step rfl ?_; (refine smove rfl ?_); apply jW; ((refine wpl_x [3] rfl rfl (hX) (Lend.S (by first | ((repeat' first | exact RenL.nil | refine RenL.cons rfl ?_); done) | fail) (by first | ((repeat' first | exact LendO.nil | refine LendO.arr rfl (by (exact (renL_pure (by simp [AV.bd, bdL, bdL_append])).symm)) ?_); done) | fail) (by decide) rfl (by simp [AV.bd, bdL, bdL_append]) (by repeat' (first | exact True.intro | refine And.intro ?_ ?_ | simp [AV.bd, bdL, bdL_append]))) ?_))))))
          refine bd_endp (ys' := [.ptr 0 3 0 0, .ptr 1 1 0 0, .ptr 2 1 0 0]) (mid := [boxF (.agg [strA n, .val (.slice none 0 0), .val (.slice none 0 0)]), boxI .i64 0, boxI .i64 0]) [0, 1, 2] [(3, [nilF]), (1, [.val (.int .i64 _)]), (1, [.val (.int .i64 3)])] rfl (Lend.S (by first | ((repeat' first | exact RenL.nil | refine RenL.cons rfl ?_); done) | fail) (by first | ((repeat' first | exact LendO.nil | refine LendO.arr rfl rfl ?_); done) | fail) (by decide) rfl (by simp [AV.bd, bdL, bdL_append]) (by repeat' (first | exact True.intro | refine And.intro ?_ ?_ | simp [AV.bd, bdL, bdL_append]))) (def_panic _ _ _ (fun _ => by simp [strA, AV.bd]) (fun _ => by simp [AV.bd, levelsA]) (fun _ => by simp [AV.bd]) _ _ _) (by simp [nilF, AV.bd, bdL, levelsA]) ?_
          exact ret_many (xs := [nilF, .val (.int .i64 _), .val (.int .i64 3)]) (.cellT rfl rfl rfl rfl (.cellT rfl rfl rfl rfl (.cellT rfl rfl rfl rfl .nil))) (by exact Nat.le_of_ble_eq_true rfl) (by first | ((repeat' first | exact FzL.nil | refine FzL.cons ?_ ?_ | exact Fz.nil | (exact Fz.reflp (by simp [AV.bd, bdL, bdL_append])) | refine Fz.aggL ?_); done) | fail)
    · have hX := expect_x (bl kw0) (by decide) L (s.size : Int) h0
      rw [herr (L.map (·.2)) (by simp only [pFile, pTake_bad (by decide) h0]), cut_self]
      (repeat' (first | apply jA | apply jH | apply jT | (refine wpl_region (id := 2) ?_; (refine wpl_step rfl ?_; (refine smove rfl ?_); apply jW; ((refine wpl_step rfl ?_; (refine sc_p rfl rfl (by first | ((repeat' first | exact SubL.nil | refine SubL.cons ?_ ?_ | exact Sub.refl); done) | fail) (by first | (simp [bdL, bdL_append, AV.bd]; done) | fail) (hlex) ?_); apply jW; (refine wpl_step rfl ?_; (refine smove rfl ?_); apply jW; (refine wpl_step rfl ?_; (refine su (alenstr rfl rfl) ?_); apply jW; (refine wpl_step rfl ?_; (refine su (ap_build (RqP.cons (rq_p rfl rfl) (RqP.cons (rq_p rfl rfl) (RqP.nil))) rfl) ?_); apply jW; (refine wpl_step rfl ?_; (refine se_box rfl (by exact ⟨rfl, rfl⟩) ?_); apply jW; (refine wpl_step rfl ?_; (refine sassign rfl ?_); apply jW; (apply jX)))))))))) | (refine wpl_region (id := 3) ?_; (refine wpl_step rfl ?_; (refine smove rfl ?_); apply jW; ((refine wpl_x [3] rfl rfl (hX) (Lend.S (by first | ((repeat' first | exact RenL.nil | refine RenL.cons rfl ?_); done) | fail) (by first | ((repeat' first | exact LendO.nil | refine LendO.arr rfl (by (exact (renL_pure (by simp [AV.bd, bdL, bdL_append])).symm)) ?_); done) | fail) (by decide) rfl (by simp [AV.bd, bdL, bdL_append]) (by repeat' (first | exact True.intro | refine And.intro ?_ ?_ | simp [AV.bd, bdL, bdL_append]))) ?_))))))
      refine bd_endp (ys' := [.ptr 0 3 0 0, .ptr 1 1 0 0, .ptr 2 1 0 0]) (mid := [boxF (.agg [strA ⟨#[]⟩, .val (.slice none 0 0), .val (.slice none 0 0)]), boxI .i64 0, boxI .i64 0]) [0, 1, 2] [(3, [nilF]), (1, [.val (.int .i64 _)]), (1, [.val (.int .i64 3)])] rfl (Lend.S (by first | ((repeat' first | exact RenL.nil | refine RenL.cons rfl ?_); done) | fail) (by first | ((repeat' first | exact LendO.nil | refine LendO.arr rfl rfl ?_); done) | fail) (by decide) rfl (by simp [AV.bd, bdL, bdL_append]) (by repeat' (first | exact True.intro | refine And.intro ?_ ?_ | simp [AV.bd, bdL, bdL_append]))) (def_panic _ _ _ (fun _ => by simp [strA, AV.bd]) (fun _ => by simp [AV.bd, levelsA]) (fun _ => by simp [AV.bd]) _ _ _) (by simp [nilF, AV.bd, bdL, levelsA]) ?_
      exact ret_many (xs := [nilF, .val (.int .i64 _), .val (.int .i64 3)]) (.cellT rfl rfl rfl rfl (.cellT rfl rfl rfl rfl (.cellT rfl rfl rfl rfl .nil))) (by exact Nat.le_of_ble_eq_true rfl) (by first | ((repeat' first | exact FzL.nil | refine FzL.cons ?_ ?_ | exact Fz.nil | (exact Fz.reflp (by simp [AV.bd, bdL, bdL_append])) | refine Fz.aggL ?_); done) | fail)
end Go.Lg

namespace Go.Lg
open Go.Proofs
set_option maxHeartbeats 8000000
set_option maxRecDepth 20000
theorem lexL_num (n : Nat) : ∀ (l : Tx) (k : Nat), l.length ≤ n → ∀ p, p ∈ lexL l k → p.2.length ≤ l.length ∧ (isNum p.2 = true → p.2.all isD = true) := by
  induction n with
  | zero =>
    intro l k hl p hp
    obtain rfl : l = [] := List.eq_nil_of_length_eq_zero (by omega)
    rw [lexL_nil] at hp; cases hp
  | succ n ih =>
    intro l k hl p hp
    cases l with
    | nil => rw [lexL_nil] at hp; cases hp
    | cons c r =>
      simp only [List.length_cons] at hl ⊢
      rw [lexL_cons] at hp
      split at hp
      · have := ih r (k + 1) (by omega) p hp
        exact ⟨by omega, this.2⟩
      · split at hp
        · have := ih (r.drop (comN r)) _ (by rw [List.length_drop]; omega) p hp
          rw [List.length_drop] at this
          exact ⟨by omega, this.2⟩
        · rcases List.mem_cons.1 hp with rfl | hp
          · refine ⟨by rw [List.length_take]; simp only [List.length_cons]; omega, fun hq => ?_⟩
            simp only at hq ⊢
            have htp := tokN_pos c r
            obtain ⟨m, hm⟩ : ∃ m, tokN (c :: r) = m + 1 := ⟨_, (Nat.sub_add_cancel htp).symm⟩
            rw [hm, List.take_succ_cons] at hq
            have hD : isD c = true := hq
            have hL : isL c = false := by
              cases hq : isL c with
              | false => rfl
              | true =>
                simp only [isL, letB, isD, digB, Bool.or_eq_true, Bool.and_eq_true, decide_eq_true_eq] at hD hq
                omega
            simp only [tokN, hL, hD, Bool.false_eq_true, if_false, if_true]
            rw [Nat.add_comm, List.take_succ_cons, List.all_cons, hD, Bool.true_and]
            rw [List.all_eq_true]
            intro x hx
            have h1 : r.take (r.takeWhile isD).length = r.takeWhile isD := (List.prefix_iff_eq_take.1 (List.takeWhile_prefix isD)).symm
            rw [h1] at hx
            exact List.all_eq_true.1 List.all_takeWhile x hx
          · have htp := tokN_pos c r
            have := ih ((c :: r).drop (tokN (c :: r))) _ (by rw [List.length_drop]; simp only [List.length_cons]; omega) p hp
            rw [List.length_drop] at this
            simp only [List.length_cons] at this
            exact ⟨by omega, this.2⟩
theorem lexL_numW (s : ByteArray) (k : Nat) : NumW (lexL ((bl s).drop k) k) := fun p hp hn => (numV_nn p.2 ((lexL_num _ _ k (Nat.le_refl _) p hp).2 hn)).1
end Go.Lg

namespace Go.Lg
set_option linter.unusedVariables false
def lvT2 (ls : List GLe) : Nat := (ls.map fun x => x.tokens.length).sum
theorem pNames_count : ∀ l : List Tx, (pNames l).1.length + (pNames l).2.length = l.length
  | [] => rfl
  | t :: r => by
    rw [pNames]
    split
    · have := pNames_count r
      simp only [List.length_cons]; omega
    · simp
theorem pLevel_count {a : Int} {l : List Tx} {x : GLe} {q : List Tx} (h : pLevel a l = .ok x q) : x.tokens.length + q.length ≤ l.length := by
  unfold pLevel at h
  cases h1 : pName l with
  | err r => rw [h1] at h; cases h
  | ok n r =>
    rw [h1] at h
    have h2 := pName_lt h1
    have h3 := pNames_count r
    simp only at h
    cases h4 : pTake [59] (pNames r).2 with
    | err r => rw [h4] at h; cases h
    | ok u r2 =>
      rw [h4] at h
      have h5 := pTake_lt h4
      injection h with e1 e2
      subst e1 e2
      simp only [List.length_cons]
      omega
theorem pLevels_count (n : Nat) : ∀ (l : List Tx) (ls : List GLe) (q : List Tx), l.length ≤ n → pLevels l = .ok ls q → lvT2 ls + q.length ≤ l.length := by
  induction n with
  | zero =>
    intro l ls q hl h
    obtain rfl : l = [] := List.eq_nil_of_length_eq_zero (by omega)
    rw [pLevels_nil] at h
    injection h with e1 e2
    subst e1 e2
    exact Nat.le_refl _
  | succ n ih =>
    intro l ls q hl h
    cases l with
    | nil =>
      rw [pLevels_nil] at h
      injection h with e1 e2
      subst e1 e2
      exact Nat.le_refl _
    | cons t r =>
      rw [pLevels_cons] at h
      cases h0 : assocOf t with
      | none =>
        rw [h0] at h
        injection h with e1 e2
        subst e1 e2
        simp [lvT2]
      | some a =>
        rw [h0] at h
        simp only at h
        cases h1 : pLevel a r with
        | err r => rw [h1] at h; cases h
        | ok x q1 =>
          rw [h1] at h
          have h2 := pLevel_count h1
          simp only at h
          simp only [List.length_cons] at hl ⊢
          cases h3 : pLevels q1 with
          | err r => rw [h3] at h; cases h
          | ok ls1 q2 =>
            rw [h3] at h
            have h4 := ih q1 ls1 q2 (by omega) h3
            injection h with e1 e2
            subst e1 e2
            simp only [lvT2, List.map_cons, List.sum_cons] at h4 ⊢
            omega
theorem toks_len (f : GFi) : (toks f f.levels.length).length = lvT2 f.levels := by
  unfold toks lvT2
  rw [List.take_of_length_le (Nat.le_refl _), List.length_flatten, List.map_map]
  rfl
def Sm (N : Nat) (l : List Tx) : Prop := ∀ t, t ∈ l → t.length ≤ N
theorem Sm.suf {N : Nat} {l l' : List Tx} (h : Sm N l) (hs : l' <:+ l) : Sm N l' := fun t ht => h t (hs.subset ht)
theorem szT {N : Nat} (hN : N ≤ 9223372036854775807) {t : Tx} (h : t.length ≤ N) : SzOk (tx t) := by unfold SzOk; rw [tx_size]; omega
theorem pName_fit {N : Nat} (hN : N ≤ 9223372036854775807) {l : List Tx} (h : Sm N l) {s : ByteArray} {r : List Tx} (hp : pName l = .ok s r) : SzOk s := by
  cases l with
  | nil => cases hp
  | cons t q =>
    simp only [pName] at hp
    split at hp
    · injection hp with e1 e2
      subst e1
      exact szT hN (h t (by simp))
    · cases hp
theorem pNames_fit {N : Nat} (hN : N ≤ 9223372036854775807) : ∀ (l : List Tx), Sm N l → ∀ s, s ∈ (pNames l).1 → SzOk s
  | [], _, s, hs => by cases hs
  | t :: r, h, s, hs => by
    rw [pNames] at hs
    split at hs
    · rcases List.mem_cons.1 hs with rfl | hs
      · exact szT hN (h t (by simp))
      · exact pNames_fit hN r (fun t ht => h t (List.mem_cons_of_mem _ ht)) s hs
    · cases hs
theorem fitL_mem {l : List GEx} (h : ∀ x, x ∈ l → x.fit) : GEx.fitL l := by
  induction l with
  | nil => rw [GEx.fitL]; trivial
  | cons x l ih => rw [GEx.fitL]; exact ⟨h x (by simp), ih fun y hy => h y (List.mem_cons_of_mem _ hy)⟩
theorem mk_fit {k : Int} {n : ByteArray} {l : List GEx} (hn : SzOk n) (h : ∀ x, x ∈ l → x.fit) : GEx.fit (.mk k n l) := by
  rw [GEx.fit]; exact ⟨hn, fitL_mem h⟩
theorem sz0 : SzOk ⟨#[]⟩ := by unfold SzOk; decide
theorem seqOf_fit {l : List GEx} (h : ∀ x, x ∈ l → x.fit) : (seqOf l).fit := by
  match l, h with
  | [], _ => exact mk_fit sz0 (fun x hx => by cases hx)
  | [x], h => exact h x (by simp)
  | x :: y :: r, h => exact mk_fit sz0 h
theorem altOf_fit {l : List GEx} (h : ∀ x, x ∈ l → x.fit) : (altOf l).fit := by
  match l, h with
  | [], _ => exact mk_fit sz0 (fun x hx => by cases hx)
  | [x], h => exact h x (by simp)
  | x :: y :: r, h => exact mk_fit sz0 h
theorem sufT_fit : ∀ (x : GEx) (l : List Tx), x.fit → (sufT x l).1.fit
  | x, [], h => by rw [sufT]; exact h
  | x, t :: r, h => by
    have h1 : ∀ k : Int, GEx.fit (.mk k ⟨#[]⟩ [x]) := fun k => mk_fit sz0 (fun y hy => by rw [List.mem_singleton.1 hy]; exact h)
    rw [sufT]
    split
    · exact sufT_fit _ r (h1 5)
    · split
      · exact sufT_fit _ r (h1 6)
      · split
        · exact sufT_fit _ r (h1 4)
        · exact h
theorem par_fit {N : Nat} (hN : N ≤ 9223372036854775807) (n : Nat) : ∀ l : List Tx, l.length ≤ n → Sm N l → (∀ x r, pPrim l = .ok x r → x.fit) ∧ (∀ xs r, pItems l = .ok xs r → ∀ x, x ∈ xs → x.fit) ∧ (∀ xs r, pAlts l = .ok xs r → ∀ x, x ∈ xs → x.fit) := by
  induction n with
  | zero =>
    intro l hl hS
    obtain rfl : l = [] := List.eq_nil_of_length_eq_zero (by omega)
    have h2 : pItems [] = .ok [] [] := by rw [pItems_eq]; rfl
    refine ⟨fun x r h => (by rw [pPrim] at h; cases h), fun xs r h => ?_, fun xs r h => ?_⟩
    · rw [h2] at h; injection h with e1 e2; subst e1; intro x hx; cases hx
    · rw [pAlts_eq, h2] at h; injection h with e1 e2; subst e1
      intro x hx
      rw [List.mem_singleton.1 hx]
      exact seqOf_fit (fun y hy => by cases hy)
  | succ n ih =>
    intro l hl hS
    have hp : ∀ x r, pPrim l = .ok x r → x.fit := by
      intro x r h
      cases l with
      | nil => rw [pPrim] at h; cases h
      | cons t q =>
        rw [pPrim] at h
        split at h
        · injection h with e1 e2; subst e1
          exact mk_fit (szT hN (hS t (by simp))) (fun y hy => by cases hy)
        · split at h
          · have ha := (ih q (by simp at hl; omega) (hS.suf (List.suffix_cons _ _))).2.2
            split at h
            · cases h
            · rename_i es q1 hq1
              have := ha es q1 hq1
              split at h
              · cases h
              · split at h
                · injection h with e1 e2; subst e1; exact altOf_fit this
                · cases h
          · cases h
    have hi : ∀ xs r, pItems l = .ok xs r → ∀ x, x ∈ xs → x.fit := by
      intro xs r h
      rw [pItems_eq] at h
      split at h
      · cases h1 : pPrim l with
        | err q => rw [h1] at h; cases h
        | ok x0 r0 =>
          rw [h1] at h
          simp only at h
          have hlt := pPrim_lt h1
          have hsl := sufT_len x0 r0
          have hsuf := pPrim_suf l
          rw [h1] at hsuf
          have h2 := (ih (sufT x0 r0).2 (by omega) (hS.suf ((sufT_suf x0 r0).trans hsuf))).2.1
          cases h3 : pItems (sufT x0 r0).2 with
          | err q => rw [h3] at h; cases h
          | ok xs1 q1 =>
            rw [h3] at h
            injection h with e1 e2; subst e1
            intro x hx
            rcases List.mem_cons.1 hx with rfl | hx
            · exact sufT_fit _ _ (hp _ _ h1)
            · exact h2 xs1 q1 h3 x hx
      · injection h with e1 e2; subst e1; intro x hx; cases hx
    refine ⟨hp, hi, fun xs r h => ?_⟩
    rw [pAlts_eq] at h
    cases h1 : pItems l with
    | err q => rw [h1] at h; cases h
    | ok xs0 q =>
      rw [h1] at h
      simp only at h
      have h0 : (seqOf xs0).fit := seqOf_fit (hi xs0 q h1)
      cases q with
      | nil => injection h with e1 e2; subst e1; intro x hx; rw [List.mem_singleton.1 hx]; exact h0
      | cons t q =>
        simp only [finA] at h
        split at h
        · have hsuf := pItems_suf l
          rw [h1] at hsuf
          have hle := hsuf.length_le
          simp only [PR.rest, List.length_cons] at hle
          have h2 := (ih q (by omega) (hS.suf ((List.suffix_cons _ _).trans hsuf))).2.2
          cases h3 : pAlts q with
          | err q' => rw [h3] at h; cases h
          | ok es q' =>
            rw [h3] at h
            injection h with e1 e2; subst e1
            intro x hx
            rcases List.mem_append.1 hx with hx | hx
            · rw [List.mem_singleton.1 hx]; exact h0
            · exact h2 es q' h3 x hx
        · injection h with e1 e2; subst e1; intro x hx; rw [List.mem_singleton.1 hx]; exact h0
theorem pAlt_fit {N : Nat} (hN : N ≤ 9223372036854775807) {l : List Tx} (hS : Sm N l) {a : GAl} {r : List Tx} (h : pAlt l = .ok a r) : a.body.fit := by
  unfold pAlt at h
  cases h1 : pItems l with
  | err q => rw [h1] at h; cases h
  | ok xs q =>
    rw [h1] at h
    simp only at h
    have h2 := (par_fit hN _ l (Nat.le_refl _) hS).2.1 xs q h1
    cases h3 : pPrice q with
    | err q' => rw [h3] at h; cases h
    | ok p q' => rw [h3] at h; injection h with e1 e2; subst e1; exact seqOf_fit h2
theorem pAltsR_fit {N : Nat} (hN : N ≤ 9223372036854775807) (n : Nat) : ∀ l : List Tx, l.length ≤ n → Sm N l → ∀ xs r, pAltsR l = .ok xs r → ∀ a, a ∈ xs → a.body.fit := by
  induction n with
  | zero =>
    intro l hl hS xs r h
    rw [pAltsR_eq] at h
    cases h1 : pAlt l with
    | err q => rw [h1] at h; cases h
    | ok a0 q =>
      rw [h1] at h
      have hsuf := (pAlt_suf l).length_le
      rw [h1] at hsuf
      simp only [PR.rest] at hsuf
      obtain rfl : q = [] := List.eq_nil_of_length_eq_zero (by omega)
      injection h with e1 e2; subst e1
      intro a ha
      rw [List.mem_singleton.1 ha]; exact pAlt_fit hN hS h1
  | succ n ih =>
    intro l hl hS xs r h
    rw [pAltsR_eq] at h
    cases h1 : pAlt l with
    | err q => rw [h1] at h; cases h
    | ok a0 q =>
      rw [h1] at h
      simp only at h
      have h0 := pAlt_fit hN hS h1
      have hsuf := pAlt_suf l
      rw [h1] at hsuf
      simp only [PR.rest] at hsuf
      have hle := hsuf.length_le
      cases q with
      | nil => injection h with e1 e2; subst e1; intro a ha; rw [List.mem_singleton.1 ha]; exact h0
      | cons t q =>
        simp only [List.length_cons] at hle
        simp only [finR] at h
        split at h
        · cases h3 : pAltsR q with
          | err q' => rw [h3] at h; cases h
          | ok es q' =>
            rw [h3] at h
            injection h with e1 e2; subst e1
            intro a ha
            rcases List.mem_append.1 ha with ha | ha
            · rw [List.mem_singleton.1 ha]; exact h0
            · exact ih q (by omega) (hS.suf ((List.suffix_cons _ _).trans hsuf)) es q' h3 a ha
        · injection h with e1 e2; subst e1; intro a ha; rw [List.mem_singleton.1 ha]; exact h0
theorem pRule_fit {N : Nat} (hN : N ≤ 9223372036854775807) {l : List Tx} (hS : Sm N l) {x : GRu} {r : List Tx} (h : pRule l = .ok x r) : x.fit := by
  unfold pRule at h
  have h1 := pName_suf l
  cases e1 : pName l with
  | err q => rw [e1] at h; cases h
  | ok n r0 =>
    rw [e1] at h h1
    have hn := pName_fit hN hS e1
    simp only at h
    have h2 := pTake_suf [61] r0
    cases e2 : pTake [61] r0 with
    | err q => rw [e2] at h; cases h
    | ok u r1 =>
      rw [e2] at h h2
      simp only at h
      cases e3 : pAltsR r1 with
      | err q => rw [e3] at h; cases h
      | ok ys r2 =>
        rw [e3] at h
        simp only at h
        have h3 := pAltsR_fit hN _ r1 (Nat.le_refl _) (hS.suf (h2.trans h1)) ys r2 e3
        cases e4 : pTake [59] r2 with
        | err q => rw [e4] at h; cases h
        | ok u r3 => rw [e4] at h; injection h with e5 e6; subst e5; exact ⟨hn, h3⟩
theorem pRules_fit {N : Nat} (hN : N ≤ 9223372036854775807) (n : Nat) : ∀ l : List Tx, l.length ≤ n → Sm N l → ∀ xs r, pRules l = .ok xs r → ∀ x, x ∈ xs → x.fit := by
  induction n with
  | zero =>
    intro l hl hS xs r h
    obtain rfl : l = [] := List.eq_nil_of_length_eq_zero (by omega)
    rw [pRules] at h; injection h with e1 e2; subst e1; intro x hx; cases hx
  | succ n ih =>
    intro l hl hS xs r h
    cases l with
    | nil => rw [pRules] at h; injection h with e1 e2; subst e1; intro x hx; cases hx
    | cons t q =>
      rw [← finU_nil, finU_step] at h
      cases h1 : pRule (t :: q) with
      | err q1 => rw [h1] at h; cases h
      | ok x0 q1 =>
        rw [h1] at h
        have h0 := pRule_fit hN hS h1
        have hlt := pRule_lt h1
        have hsuf := pRule_suf (t :: q)
        rw [h1] at hsuf
        simp only [finU] at h
        cases h3 : pRules q1 with
        | err q' => rw [h3] at h; cases h
        | ok ls q' =>
          rw [h3] at h
          injection h with e1 e2
          subst e1
          intro x hx
          rcases List.mem_append.1 hx with hx | hx
          · rw [show x = x0 by simpa using hx]; exact h0
          · exact ih q1 (by simp at hl hlt; omega) (hS.suf hsuf) ls q' h3 x hx
theorem pLevel_fit {N : Nat} (hN : N ≤ 9223372036854775807) {a : Int} {l : List Tx} (hS : Sm N l) {x : GLe} {r : List Tx} (h : pLevel a l = .ok x r) : x.fit := by
  unfold pLevel at h
  have h1 := pName_suf l
  cases e1 : pName l with
  | err q => rw [e1] at h; cases h
  | ok n r0 =>
    rw [e1] at h h1
    simp only at h
    cases e2 : pTake [59] (pNames r0).2 with
    | err q => rw [e2] at h; cases h
    | ok u r1 =>
      rw [e2] at h
      injection h with e5 e6; subst e5
      intro t ht
      rcases List.mem_cons.1 ht with rfl | ht
      · exact pName_fit hN hS e1
      · exact pNames_fit hN r0 (hS.suf h1) t ht
theorem pLevels_fit {N : Nat} (hN : N ≤ 9223372036854775807) (n : Nat) : ∀ l : List Tx, l.length ≤ n → Sm N l → ∀ xs r, pLevels l = .ok xs r → ∀ x, x ∈ xs → x.fit := by
  induction n with
  | zero =>
    intro l hl hS xs r h
    obtain rfl : l = [] := List.eq_nil_of_length_eq_zero (by omega)
    rw [pLevels_nil] at h; injection h with e1 e2; subst e1; intro x hx; cases hx
  | succ n ih =>
    intro l hl hS xs r h
    cases l with
    | nil => rw [pLevels_nil] at h; injection h with e1 e2; subst e1; intro x hx; cases hx
    | cons t q =>
      rw [pLevels_cons] at h
      cases h0 : assocOf t with
      | none => rw [h0] at h; injection h with e1 e2; subst e1; intro x hx; cases hx
      | some a =>
        rw [h0] at h
        simp only at h
        have hsuf := pLevel_suf a q
        cases h1 : pLevel a q with
        | err r => rw [h1] at h; cases h
        | ok x0 q1 =>
          rw [h1] at h hsuf
          simp only at h
          simp only [PR.rest] at hsuf
          have hle := hsuf.length_le
          simp only [List.length_cons] at hl
          have hf := pLevel_fit hN (hS.suf (List.suffix_cons _ _)) h1
          cases h3 : pLevels q1 with
          | err r => rw [h3] at h; cases h
          | ok ls1 q2 =>
            rw [h3] at h
            injection h with e1 e2
            subst e1
            intro x hx
            rcases List.mem_cons.1 hx with rfl | hx
            · exact hf
            · exact ih q1 (by omega) (hS.suf (hsuf.trans (List.suffix_cons _ _))) ls1 q2 h3 x hx
theorem pFile_fit {N : Nat} (hN : N ≤ 9223372036854775807) {l : List Tx} (hS : Sm N l) {f : GFi} {q : List Tx} (h : pFile l = .ok f q) : f.fit ∧ (toks f f.levels.length).length ≤ l.length := by
  unfold pFile at h
  have h0 := pTake_suf (bl kw0) l
  cases e0 : pTake (bl kw0) l with
  | err q => rw [e0] at h; cases h
  | ok u r =>
    rw [e0] at h h0
    simp only at h
    have h1 := pName_suf r
    cases e1 : pName r with
    | err q => rw [e1] at h; cases h
    | ok s r1 =>
      rw [e1] at h h1
      simp only at h
      have h2 := pTake_suf [59] r1
      cases e2 : pTake [59] r1 with
      | err q => rw [e2] at h; cases h
      | ok u2 r2 =>
        rw [e2] at h h2
        simp only at h
        have hs2 := (h2.trans h1).trans h0
        have h3 := pLevels_suf _ r2 (Nat.le_refl _)
        cases e3 : pLevels r2 with
        | err q => rw [e3] at h; cases h
        | ok ls r3 =>
          rw [e3] at h h3
          simp only at h
          have hc := pLevels_count _ r2 ls r3 (Nat.le_refl _) e3
          have hle := hs2.length_le
          simp only [PR.rest] at hle
          cases e4 : pRules r3 with
          | err q => rw [e4] at h; cases h
          | ok rs q4 =>
            rw [e4] at h
            injection h with e5 e6
            subst e5
            refine ⟨⟨pName_fit hN (hS.suf h0) e1, pLevels_fit hN _ r2 (Nat.le_refl _) (hS.suf hs2) ls r3 e3, pRules_fit hN _ r3 (Nat.le_refl _) (hS.suf (h3.trans hs2)) rs q4 e4⟩, ?_⟩
            rw [toks_len]
            simp only
            omega
end Go.Lg

namespace Go.Lg
open Go.Proofs
def s1 : ByteArray := ⟨#[115, 116, 97, 114, 116, 32, 101, 59, 32, 108, 101, 102, 116, 32, 112, 108, 117, 115, 59, 32, 101, 32, 61, 32, 101, 32, 112, 108, 117, 115, 32, 101, 32, 112, 114, 105, 99, 101, 32, 50, 32, 124, 32, 110, 59]⟩
def s2 : ByteArray := ⟨#[115, 116, 97, 114, 116, 32, 101]⟩
def s3 : ByteArray := ⟨#[115, 116, 97, 114, 116, 32, 101, 59, 32, 101, 32, 61, 32, 59, 59]⟩
def nmE (l : Tx) : GEx := .mk 1 (tx l) []
def f1 : GFi := ⟨tx [101], [⟨1, [tx [112, 108, 117, 115]]⟩], [⟨tx [101], [⟨.mk 2 ⟨#[]⟩ [nmE [101], nmE [112, 108, 117, 115], nmE [101]], 2⟩, ⟨nmE [110], 0⟩]⟩]⟩
set_option maxRecDepth 100000
theorem lex1 : lexT (bl s1) = [bl kw0, [101], [59], bl kw1, [112, 108, 117, 115], [59], [101], [61], [101], [112, 108, 117, 115], [101], bl kw4, [50], [124], [110], [59]] := by decide +kernel
theorem lex3 : lexT (bl s3) = [bl kw0, [101], [59], [101], [61], [59], [59]] := by decide +kernel
theorem lex3L : lexL (bl s3) 0 = [(0, bl kw0), (6, [101]), (7, [59]), (9, [101]), (11, [61]), (13, [59]), (14, [59])] := by decide +kernel
theorem pItems_stop {l : List Tx} (h : (isN l || decide (hd l = [40])) = false) : pItems l = .ok [] l := by rw [pItems_eq, h]; rfl
theorem pItems_nm {t : Tx} {r : List Tx} (h : nmT t = true) (hs : (sufT (.mk 1 (tx t) []) r) = (.mk 1 (tx t) [], r)) : pItems (t :: r) = match pItems r with
    | .err q => .err q
    | .ok xs q => .ok (.mk 1 (tx t) [] :: xs) q := by
  have h1 : isN (t :: r) = true := h
  have h2 : pPrim (t :: r) = .ok (.mk 1 (tx t) []) r := by rw [pPrim, if_pos h]
  rw [pItems_eq, h1, h2]
  simp only [Bool.true_or, if_true, hs]
  cases pItems r <;> rfl
theorem file1 : pFile (lexT (bl s1)) = .ok f1 [] := by
  rw [lex1]
  have ha : pAltsR [[101], [112, 108, 117, 115], [101], bl kw4, [50], [124], [110], [59]] = .ok [⟨.mk 2 ⟨#[]⟩ [nmE [101], nmE [112, 108, 117, 115], nmE [101]], 2⟩, ⟨nmE [110], 0⟩] [[59]] := by
    have h1 : pItems [[101], [112, 108, 117, 115], [101], bl kw4, [50], [124], [110], [59]] = .ok [nmE [101], nmE [112, 108, 117, 115], nmE [101]] [bl kw4, [50], [124], [110], [59]] := by
      rw [pItems_nm (by decide) (by rfl), pItems_nm (by decide) (by rfl), pItems_nm (by decide) (by rfl), pItems_stop (by decide)]
      rfl
    have h2 : pItems [[110], [59]] = .ok [nmE [110]] [[59]] := by
      rw [pItems_nm (by decide) (by rfl), pItems_stop (by decide)]
      rfl
    have h3 : pAlt [[101], [112, 108, 117, 115], [101], bl kw4, [50], [124], [110], [59]] = .ok ⟨.mk 2 ⟨#[]⟩ [nmE [101], nmE [112, 108, 117, 115], nmE [101]], 2⟩ [[124], [110], [59]] := by
      unfold pAlt
      rw [h1]
      rfl
    have h4 : pAlt [[110], [59]] = .ok ⟨nmE [110], 0⟩ [[59]] := by
      unfold pAlt
      rw [h2]
      rfl
    rw [pAltsR_eq, h3]
    simp only
    rw [finR_bar, h4]
    rfl
  have hr : pRules [[101], [61], [101], [112, 108, 117, 115], [101], bl kw4, [50], [124], [110], [59]] = .ok [⟨tx [101], [⟨.mk 2 ⟨#[]⟩ [nmE [101], nmE [112, 108, 117, 115], nmE [101]], 2⟩, ⟨nmE [110], 0⟩]⟩] [] := by
    rw [← finU_nil, finU_step]
    have : pRule ([101] :: [[61], [101], [112, 108, 117, 115], [101], bl kw4, [50], [124], [110], [59]]) = .ok ⟨tx [101], [⟨.mk 2 ⟨#[]⟩ [nmE [101], nmE [112, 108, 117, 115], nmE [101]], 2⟩, ⟨nmE [110], 0⟩]⟩ [] := by
      have h1 : nmT [101] = true := by decide
      unfold pRule
      simp only [pName, h1, if_true, pTake]
      rw [ha]
      rfl
    rw [this]
    exact finU_stop _
  have hl : pLevels [bl kw1, [112, 108, 117, 115], [59], [101], [61], [101], [112, 108, 117, 115], [101], bl kw4, [50], [124], [110], [59]] = .ok [⟨1, [tx [112, 108, 117, 115]]⟩] [[101], [61], [101], [112, 108, 117, 115], [101], bl kw4, [50], [124], [110], [59]] := by
    rw [pLevels_cons]
    have h1 : assocOf (bl kw1) = some 1 := by decide
    have h2 : pLevel 1 [[112, 108, 117, 115], [59], [101], [61], [101], [112, 108, 117, 115], [101], bl kw4, [50], [124], [110], [59]] = .ok ⟨1, [tx [112, 108, 117, 115]]⟩ [[101], [61], [101], [112, 108, 117, 115], [101], bl kw4, [50], [124], [110], [59]] := by kernel_rfl
    have h3 : assocOf [101] = none := by decide
    rw [h1]
    simp only
    rw [h2]
    simp only
    rw [pLevels_cons, h3]
  have h1 : nmT [101] = true := by decide
  unfold pFile
  simp only [pTake, pName, h1, if_true]
  rw [hl]
  simp only
  rw [hr]
  rfl
theorem file2 : pFile (lexT (bl s2)) = .err [] := by kernel_rfl
theorem file3 : pFile (lexT (bl s3)) = .err [[59]] := by
  rw [lex3]
  have hr : pRules [[101], [61], [59], [59]] = .err [[59]] := by
    rw [← finU_nil, finU_step]
    have h1 : nmT [101] = true := by decide
    have h2 : pAlt [[59], [59]] = .ok ⟨seqOf [], 0⟩ [[59], [59]] := by
      unfold pAlt
      rw [pItems_stop (by decide)]
      rfl
    have h3 : pAltsR [[59], [59]] = .ok [⟨seqOf [], 0⟩] [[59], [59]] := by
      rw [pAltsR_eq, h2]
      exact finR_stop (by decide)
    have h4 : pRule ([101] :: [[61], [59], [59]]) = .ok ⟨tx [101], [⟨seqOf [], 0⟩]⟩ [[59]] := by
      unfold pRule
      simp only [pName, h1, if_true, pTake]
      rw [h3]
      rfl
    rw [h4]
    simp only
    rw [finU_step]
    rfl
  have hl : pLevels [[101], [61], [59], [59]] = .ok [] [[101], [61], [59], [59]] := by
    have h3 : assocOf [101] = none := by decide
    rw [pLevels_cons, h3]
  have h1 : nmT [101] = true := by decide
  unfold pFile
  simp only [pTake, pName, h1, if_true]
  rw [hl]
  simp only
  rw [hr]
theorem valid1 : validF f1 = true := by decide +kernel
end Go.Lg

namespace Go.Lg
open Go.Proofs
set_option linter.unusedSimpArgs false
set_option linter.unusedVariables false
attribute [local irreducible] Ap Rq asemC WP RunD Ret Gq thenA inBlockA bodyQ noGotoA RqL RqP OpP
set_option maxHeartbeats 8000000
set_option maxRecDepth 20000
theorem lexL_len (n : Nat) : ∀ (l : Tx) (k : Nat), l.length ≤ n → (lexL l k).length ≤ l.length := by
  induction n with
  | zero =>
    intro l k hl
    obtain rfl : l = [] := List.eq_nil_of_length_eq_zero (by omega)
    rw [lexL_nil]; exact Nat.le_refl _
  | succ n ih =>
    intro l k hl
    cases l with
    | nil => rw [lexL_nil]; exact Nat.le_refl _
    | cons c r =>
      simp only [List.length_cons] at hl ⊢
      rw [lexL_cons]
      split
      · have := ih r (k + 1) (by omega); omega
      · split
        · have := ih (r.drop (comN r)) (k + 1 + comN r) (by rw [List.length_drop]; omega)
          rw [List.length_drop] at this; omega
        · have htp := tokN_pos c r
          have := ih ((c :: r).drop (tokN (c :: r))) (k + tokN (c :: r)) (by rw [List.length_drop]; simp only [List.length_cons]; omega)
          rw [List.length_drop] at this
          simp only [List.length_cons] at this ⊢
          omega
theorem lexT_sm (s : ByteArray) : Sm s.size (lexT (bl s)) := by
  intro t ht
  obtain ⟨p, hp, rfl⟩ := List.mem_map.1 ht
  have := (lexL_num _ (bl s) 0 (Nat.le_refl _) p hp).1
  rwa [bl_len] at this
theorem file_bounds (s : ByteArray) (hs : s.size ≤ 100000) (f : GFi) (q : List Tx) (h : pFile (lexT (bl s)) = .ok f q) : (toks f f.levels.length).length ≤ 1000000 ∧ f.fit := by
  have h1 := pFile_fit (N := s.size) (by omega) (lexT_sm s) h
  have h2 : (lexT (bl s)).length ≤ (bl s).length := by
    unfold lexT
    rw [List.length_map]
    exact lexL_len _ _ _ (Nat.le_refl _)
  rw [bl_len] at h2
  exact ⟨by omega, h1.1⟩
theorem parseP_fn (s : ByteArray) (hs : s.size ≤ 100000) : Fn Try.prog 9 [strA s] (parseA (parseR s)) :=
  parse_fn s hs (by have := lexL_len _ (bl s) 0 (Nat.le_refl _); rw [bl_len] at this; omega) (by have := lexL_numW s 0; rwa [List.drop_zero] at this) fun f q h => (file_bounds s hs f q h).1
theorem pr1 : parseR s1 = (f1, 0, 0) := by unfold parseR; rw [file1]; simp only [valid1, if_true]
theorem pr2 : parseR s2 = (noF, 7, 3) := by
  unfold parseR; rw [file2]
  simp only [cut, List.length_nil, Nat.sub_zero, List.drop_length, pos]
  rfl
theorem pr3 : parseR s3 = (noF, 14, 3) := by
  unfold parseR; rw [file3]
  simp only
  rw [lex3L]
  rfl
theorem awake17_fn : Fn Try.prog 8 [] (boolA true) := by
  have h1 := parseP_fn s1 (by decide)
  have h2 := parseP_fn s2 (by decide)
  have h3 := parseP_fn s3 (by decide)
  rw [pr1] at h1
  rw [pr2] at h2
  rw [pr3] at h3
  simp only [parseA] at h1 h2 h3
  refine Fn.intro rfl (by kernel_rfl) Try.func8 rfl rfl Try.ntmps8 (by exact Nat.le_of_ble_eq_true rfl) ?_; intro Γ hm
  (repeat' (first | apply jA | apply jH | apply jI | apply jK | apply jM | apply jS | (refine wp_cond rfl (fun hc => ?_) (fun hc => ?_) <;> (try simp only [sB, ne_eq, reduceCtorEq] at hc) <;> (try (exfalso; omega))) | (refine WP.regionC ?_; (refine sassign rfl ?_); apply jW) | (refine WP.regionC (id := 1) ?_; (refine sc_p rfl rfl (by first | ((repeat' first | exact SubL.nil | refine SubL.cons ?_ ?_ | exact Sub.refl); done) | fail) (by first | (simp [bdL, bdL_append, AV.bd]; done) | fail) (h1) ?_); (refine smove rfl ?_); (refine su (aextract rfl rfl) ?_); (refine su (aextract rfl rfl) ?_); (refine su (aextract rfl rfl) ?_); (refine se_alloc rfl ?_); (refine se_store_b rfl rfl rfl rfl ?_); (refine sassign rfl ?_); (refine sassign rfl ?_); apply jW) | (refine WP.regionC (id := 2) ?_; (refine sc_p rfl rfl (by first | ((repeat' first | exact SubL.nil | refine SubL.cons ?_ ?_ | exact Sub.refl); done) | fail) (by first | (simp [bdL, bdL_append, AV.bd]; done) | fail) (h2) ?_); (refine smove rfl ?_); (refine su (aextract rfl rfl) ?_); (refine su (aextract rfl rfl) ?_); (refine su (aextract rfl rfl) ?_); (refine se_alloc rfl ?_); (refine se_store_b rfl rfl rfl rfl ?_); (refine sassign rfl ?_); (refine sassign rfl ?_); apply jW) | (refine WP.regionC (id := 3) ?_; (refine sc_p rfl rfl (by first | ((repeat' first | exact SubL.nil | refine SubL.cons ?_ ?_ | exact Sub.refl); done) | fail) (by first | (simp [bdL, bdL_append, AV.bd]; done) | fail) (h3) ?_); (refine smove rfl ?_); (refine su (aextract rfl rfl) ?_); (refine su (aextract rfl rfl) ?_); (refine su (aextract rfl rfl) ?_); (refine se_alloc rfl ?_); (refine se_store_b rfl rfl rfl rfl ?_); (refine sassign rfl ?_); (refine sassign rfl ?_); apply jW) | (refine WP.regionC (id := 4) ?_; (refine smove rfl ?_); (refine su (aneq rfl rfl) ?_); (refine smove rfl ?_); (refine sg (gq_vf rfl rfl) (fun he => ap_field_p (rq_p rfl rfl) rfl rfl) ?_); (refine sg (gq_vf rfl rfl) (fun he => ap_load_p (rq_c rfl rfl) rfl rfl rfl) ?_); (refine sg (gq_vf rfl rfl) (fun he => ap_len_m rfl (rq_c rfl rfl)) ?_); (refine sg (gq_vf rfl rfl) (fun he => ap_neq (rq_c rfl rfl) (rq_p rfl rfl)) ?_); (refine su (ap_or (rq_p rfl rfl) (rq_c rfl rfl)) ?_); (refine smove rfl ?_); (refine sg (gq_vf rfl rfl) (fun he => ap_field_p (rq_p rfl rfl) rfl rfl) ?_); (refine sg (gq_vf rfl rfl) (fun he => ap_load_p (rq_c rfl rfl) rfl rfl rfl) ?_); (refine sg (gq_vf rfl rfl) (fun he => ap_len_m rfl (rq_c rfl rfl)) ?_); (refine sg (gq_vf rfl rfl) (fun he => ap_neq (rq_c rfl rfl) (rq_p rfl rfl)) ?_); (refine su (ap_or (rq_p rfl rfl) (rq_c rfl rfl)) ?_); (refine smove rfl ?_); (refine sg (gq_vf rfl rfl) (fun he => ap_field_p (rq_p rfl rfl) rfl rfl) ?_); (refine sg (gq_vf rfl rfl) (fun he => ap_load_p (rq_c rfl rfl) rfl rfl rfl) ?_); (refine sg (gq_vf rfl rfl) (fun he => ap_idx_n (rq_c rfl rfl) (rq_p rfl rfl) (by (try simp only [sH, id, sB, ne_eq, reduceCtorEq] at he); (simp only [sL] <;> omega))) ?_); (refine sg (gq_vf rfl rfl) (fun he => ap_field_i (rq_c rfl rfl) rfl rfl) ?_); (refine sg (gq_vf rfl rfl) (fun he => ap_load_i (rq_c rfl rfl) rfl) ?_); (refine sg (gq_vf rfl rfl) (fun he => ap_len_m rfl (rq_c rfl rfl)) ?_); (refine sg (gq_vf rfl rfl) (fun he => ap_neq (rq_c rfl rfl) (rq_p rfl rfl)) ?_); (refine su (ap_or (rq_p rfl rfl) (rq_c rfl rfl)) ?_); apply jW) | (refine WP.regionC (id := 6) ?_; (refine sfieldp rfl rfl rfl ?_); (refine sloadp rfl rfl rfl rfl ?_); (refine sidxn rfl rfl (by (simp only [sL] <;> omega)) ?_); (refine su (afieldi rfl rfl rfl) ?_); (refine su (aloadi rfl rfl) ?_); (refine sidxn rfl rfl (by (simp only [sL] <;> omega)) ?_); (refine su (afieldi rfl rfl rfl) ?_); (refine su (aloadi rfl rfl) ?_); (refine seql rfl rfl ?_); (refine smove rfl ?_); (refine sg (gq_vt rfl rfl) (fun he => ap_field_p (rq_p rfl rfl) rfl rfl) ?_); (refine sg (gq_vt rfl rfl) (fun he => ap_load_p (rq_c rfl rfl) rfl rfl rfl) ?_); (refine sg (gq_vt rfl rfl) (fun he => ap_idx_n (rq_c rfl rfl) (rq_p rfl rfl) (by (try simp only [sH, id, sB, ne_eq, reduceCtorEq] at he); (simp only [sL] <;> omega))) ?_); (refine sg (gq_vt rfl rfl) (fun he => ap_field_i (rq_c rfl rfl) rfl rfl) ?_); (refine sg (gq_vt rfl rfl) (fun he => ap_load_i (rq_c rfl rfl) rfl) ?_); (refine sg (gq_vt rfl rfl) (fun he => ap_idx_n (rq_c rfl rfl) (rq_p rfl rfl) (by (try simp only [sH, id, sB, ne_eq, reduceCtorEq] at he); (simp only [sL] <;> omega))) ?_); (refine sg (gq_vt rfl rfl) (fun he => ap_field_i (rq_c rfl rfl) rfl rfl) ?_); (refine sg (gq_vt rfl rfl) (fun he => ap_field_i (rq_c rfl rfl) rfl rfl) ?_); (refine sg (gq_vt rfl rfl) (fun he => ap_load_i (rq_c rfl rfl) rfl) ?_); (refine sg (gq_vt rfl rfl) (fun he => ap_eqs (rq_c rfl rfl) (rq_p rfl rfl)) ?_); (refine su (ap_and (rq_p rfl rfl) (rq_c rfl rfl)) ?_); (refine smove rfl ?_); (refine sg (gq_vt rfl rfl) (fun he => ap_move (rq_p rfl rfl)) ?_); (refine sg (gq_vt rfl rfl) (fun he => ap_eql (rq_c rfl rfl) (rq_p rfl rfl)) ?_); (refine su (ap_and (rq_p rfl rfl) (rq_c rfl rfl)) ?_); (refine smove rfl ?_); (refine sg (gq_vt rfl rfl) (fun he => ap_move (rq_p rfl rfl)) ?_); (refine sg (gq_vt rfl rfl) (fun he => ap_eql (rq_c rfl rfl) (rq_p rfl rfl)) ?_); (refine su (ap_and (rq_p rfl rfl) (rq_c rfl rfl)) ?_); (refine smove rfl ?_); (refine sg (gq_vt rfl rfl) (fun he => ap_move (rq_p rfl rfl)) ?_); (refine sg (gq_vt rfl rfl) (fun he => ap_eql (rq_c rfl rfl) (rq_p rfl rfl)) ?_); (refine su (ap_and (rq_p rfl rfl) (rq_c rfl rfl)) ?_); (refine smove rfl ?_); (refine sg (gq_vt rfl rfl) (fun he => ap_move (rq_p rfl rfl)) ?_); (refine sg (gq_vt rfl rfl) (fun he => ap_eql (rq_c rfl rfl) (rq_p rfl rfl)) ?_); (refine su (ap_and (rq_p rfl rfl) (rq_c rfl rfl)) ?_); (refine sassign rfl ?_); apply jW) | exact ret_eq rfl rfl rfl | refine ret_b rfl ?_))
  exfalso
  revert hc
  decide
end Go.Lg

namespace Go.Lg
open Go.Proofs
set_option linter.unusedSimpArgs false
set_option linter.unusedVariables false
attribute [local irreducible] Ap Rq asemC WP RunD Ret Gq thenA inBlockA bodyQ noGotoA RqL RqP OpP
set_option maxHeartbeats 8000000
set_option maxRecDepth 20000
theorem rletter17_fn (c : Int) : Fn Try.prog 63 [.val (.int .u8 c)] (boolA (letB c)) := by
  refine Fn.intro rfl (by kernel_rfl) Try.func63 rfl rfl Try.ntmps63 (by exact Nat.le_of_ble_eq_true rfl) ?_; intro Γ hm
  (repeat' (first | apply jA | apply jH | apply jK | apply jS | (refine WP.regionC (id := 0) ?_; (refine sassign rfl ?_); apply jW) | (refine WP.regionC (id := 1) ?_; (refine smove rfl ?_); (refine su (ageq rfl rfl) ?_); (refine smove rfl ?_); (refine sg (gq_vt rfl rfl) (fun he => ap_move (rq_p rfl rfl)) ?_); (refine sg (gq_vt rfl rfl) (fun he => ap_leq (rq_c rfl rfl) (rq_p rfl rfl)) ?_); (refine su (ap_and (rq_p rfl rfl) (rq_c rfl rfl)) ?_); (refine smove rfl ?_); (refine sg (gq_vf rfl rfl) (fun he => ap_move (rq_p rfl rfl)) ?_); (refine sg (gq_vf rfl rfl) (fun he => ap_geq (rq_c rfl rfl) (rq_p rfl rfl)) ?_); (refine sg (gq_vf rfl rfl) (fun he => ap_move (rq_c rfl rfl)) ?_); (refine sg (gq_ct rfl rfl) (fun he => ap_move (rq_p rfl rfl)) ?_); (refine sg (gq_ct rfl rfl) (fun he => ap_leq (rq_c rfl rfl) (rq_p rfl rfl)) ?_); (refine sg (gq_vf rfl rfl) (fun he => ap_and (rq_c rfl rfl) (rq_c rfl rfl)) ?_); (refine su (ap_or (rq_p rfl rfl) (rq_c rfl rfl)) ?_); (refine sassign rfl ?_); apply jW) | exact ret_eq rfl rfl rfl))
theorem rdigit17_fn (c : Int) : Fn Try.prog 64 [.val (.int .u8 c)] (boolA (digB c)) := by
  refine Fn.intro rfl (by kernel_rfl) Try.func64 rfl rfl Try.ntmps64 (by exact Nat.le_of_ble_eq_true rfl) ?_; intro Γ hm
  (repeat' (first | apply jA | apply jH | apply jK | apply jS | (refine WP.regionC (id := 0) ?_; (refine sassign rfl ?_); apply jW) | (refine WP.regionC (id := 1) ?_; (refine smove rfl ?_); (refine su (ageq rfl rfl) ?_); (refine smove rfl ?_); (refine sg (gq_vt rfl rfl) (fun he => ap_move (rq_p rfl rfl)) ?_); (refine sg (gq_vt rfl rfl) (fun he => ap_leq (rq_c rfl rfl) (rq_p rfl rfl)) ?_); (refine su (ap_and (rq_p rfl rfl) (rq_c rfl rfl)) ?_); (refine sassign rfl ?_); apply jW) | exact ret_eq rfl rfl rfl))
def blkB (c : Int) : Bool := decide (c = 32) || decide (c = 9) || decide (c = 13) || decide (c = 10)
theorem rblank17_fn (c : Int) : Fn Try.prog 62 [.val (.int .u8 c)] (boolA (blkB c)) := by
  refine Fn.intro rfl (by kernel_rfl) Try.func62 rfl rfl Try.ntmps62 (by exact Nat.le_of_ble_eq_true rfl) ?_; intro Γ hm
  (repeat' (first | apply jA | apply jH | apply jK | apply jS | (refine WP.regionC (id := 0) ?_; (refine sassign rfl ?_); apply jW) | (refine WP.regionC (id := 1) ?_; (refine smove rfl ?_); (refine seql rfl rfl ?_); (refine smove rfl ?_); (refine sg (gq_vf rfl rfl) (fun he => ap_move (rq_p rfl rfl)) ?_); (refine sg (gq_vf rfl rfl) (fun he => ap_eql (rq_c rfl rfl) (rq_p rfl rfl)) ?_); (refine su (ap_or (rq_p rfl rfl) (rq_c rfl rfl)) ?_); (refine smove rfl ?_); (refine sg (gq_vf rfl rfl) (fun he => ap_move (rq_p rfl rfl)) ?_); (refine sg (gq_vf rfl rfl) (fun he => ap_eql (rq_c rfl rfl) (rq_p rfl rfl)) ?_); (refine su (ap_or (rq_p rfl rfl) (rq_c rfl rfl)) ?_); (refine smove rfl ?_); (refine sg (gq_vf rfl rfl) (fun he => ap_move (rq_p rfl rfl)) ?_); (refine sg (gq_vf rfl rfl) (fun he => ap_eql (rq_c rfl rfl) (rq_p rfl rfl)) ?_); (refine su (ap_or (rq_p rfl rfl) (rq_c rfl rfl)) ?_); (refine sassign rfl ?_); apply jW) | exact ret_eq rfl rfl rfl))
def psR (s : ByteArray) (a n : Nat) (b : Bool) : AObj := .arr 4 [.agg [strA s, intA (a : Nat), intA (n : Nat), boolA b]]
theorem text17_fn (s : ByteArray) (hs : s.size ≤ 100000) (a n : Nat) (h : a + n ≤ s.size) (b : Bool) : FnO Try.prog 34 [.ptr 0 4 0 0] [psR s a n b] (strA (s.extract a (a + n))) [some (psR s a n b)] := by
  have e : s.extract a (a + n) = s.extract (a : Int).toNat ((a : Int) + (n : Int)).toNat := by congr 1
  rw [e]
  unfold psR
  refine FnO.intro (by exact Nat.le_of_ble_eq_true rfl) rfl (by kernel_rfl) Try.func34 rfl rfl Try.ntmps34 (by exact Nat.le_of_ble_eq_true rfl) ?_; intro Γ hm
  (repeat' (first | apply jA | apply jH | apply jK | apply jS | (refine WP.regionC (id := 0) ?_; (refine sassign rfl ?_); apply jW) | (refine wp_draw (id := 1) 19 mixed (by kernel_rfl) (by kernel_rfl) rfl ?_ <;> (refine rmove rfl ?_) <;> (refine rnilc rfl ?_) <;> (refine rfieldp rfl rfl rfl ?_) <;> (refine rloadp rfl rfl rfl rfl ?_) <;> (refine rmove rfl ?_) <;> (refine rnilc rfl ?_) <;> (refine rfieldp rfl rfl rfl ?_) <;> (refine rloadp rfl rfl rfl rfl ?_) <;> (refine rmove rfl ?_) <;> (refine rnilc rfl ?_) <;> (refine rfieldp rfl rfl rfl ?_) <;> (refine rloadp rfl rfl rfl rfl ?_) <;> (refine rmove rfl ?_) <;> (refine rnilc rfl ?_) <;> (refine rfieldp rfl rfl rfl ?_) <;> (refine rloadp rfl rfl rfl rfl ?_) <;> (refine rd_u rfl rfl (aadd rfl rfl (by exact inr_i64_of (by omega))) ?_) <;> (refine rd_u rfl rfl (ap_slice_s rfl (rq_p rfl rfl) (by exact bq_some (rq_p rfl rfl)) (by exact bq_some (rq_p rfl rfl)) (by omega)) ?_) <;> (refine rd_u rfl rfl (aassign rfl) ?_) <;> (refine rd_end (by kernel_rfl) ?_))))
  refine retO_L (x := strA (s.extract (a : Int).toNat ((a : Int) + (n : Int)).toNat)) (k := 1) (os1 := [(0, some (psR s a n b))]) (.tmp rfl .nil) rfl ⟨[0], ToR.S rfl (by repeat' (first | exact rt_nil | refine rt_e rfl rfl ?_)) (by repeat' (first | exact ro_nil | refine ro_e rfl rfl ?_)) rfl rfl rfl (by (simp [bdT, AV.bd, bdL, bdL_append]; done)) (by repeat' (first | exact True.intro | exact rfl | refine And.intro ?_ ?_)) (by exact Nat.le_of_ble_eq_true rfl)⟩ rfl
end Go.Lg

namespace Go.Lg
open Go.Proofs
set_option linter.unusedSimpArgs false
set_option linter.unusedVariables false
attribute [local irreducible] Ap Rq asemC WP RunD Ret Gq thenA inBlockA bodyQ noGotoA RqL RqP OpP
set_option maxHeartbeats 16000000
set_option maxRecDepth 20000
def nxA (s : ByteArray) (k : Nat) : Nat := match lexL ((bl s).drop k) k with
  | [] => s.size
  | p :: _ => p.1
def nxN (s : ByteArray) (k : Nat) : Nat := match lexL ((bl s).drop k) k with
  | [] => 0
  | p :: _ => p.2.length
def nlB (c : Int) : Bool := !decide (c = 10)
theorem advance_fn (s : ByteArray) (hs : s.size ≤ 100000) (a n : Nat) (h : a + n ≤ s.size) (b : Bool) : FnO Try.prog 25 [.ptr 0 4 0 0] [psR s a n b] (.tup []) [some (psR s (nxA s (a + n)) (nxN s (a + n)) b)] := by
  generalize hA : nxA s (a + n) = A
  generalize hN : nxN s (a + n) = N
  unfold psR
  refine FnO.intro (by exact Nat.le_of_ble_eq_true rfl) rfl (by kernel_rfl) Try.func25 rfl rfl Try.ntmps25 (by exact Nat.le_of_ble_eq_true rfl) ?_; intro Γ hm
  (repeat' (first | apply jA | apply jF | apply jH | (refine wp_draw (id := 0) 13 mixed (by kernel_rfl) (by kernel_rfl) rfl ?_ <;> (refine rmove rfl ?_) <;> (refine rmove rfl ?_) <;> (refine rnilc rfl ?_) <;> (refine rfieldp rfl rfl rfl ?_) <;> (refine rloadp rfl rfl rfl rfl ?_) <;> (refine rmove rfl ?_) <;> (refine rnilc rfl ?_) <;> (refine rfieldp rfl rfl rfl ?_) <;> (refine rloadp rfl rfl rfl rfl ?_) <;> (refine rd_u rfl rfl (aadd rfl rfl (by exact inr_i64_of (by omega))) ?_) <;> (refine rnilc rfl ?_) <;> (refine rfieldp rfl rfl rfl ?_) <;> (refine rd_store_b rfl rfl rfl rfl ?_) <;> (refine rd_end (by kernel_rfl) ?_))))
  refine wp_loop (fun (j : Nat) => j ≤ s.size ∧ lexL ((bl s).drop j) j = lexL ((bl s).drop (a + n)) (a + n)) (fun j => s.size - j) (fun j => (S 195 [(0, .ptr 0 4 0 0)] 1 [(0, some (psR s j n b))])) (a + n) ⟨[0], ToR.S rfl (by repeat' (first | exact rt_nil | refine rt_t rfl rfl ?_)) (by repeat' (first | exact ro_nil | refine ro_e rfl rfl ?_)) rfl (by (rw [hm]; exact rfl)) rfl (by (simp [bdT, AV.bd, bdL, bdL_append]; done)) (by repeat' (first | exact True.intro | exact rfl | refine And.intro ?_ ?_)) (by (rw [hm]; exact Nat.le_of_ble_eq_true rfl))⟩ ⟨h, rfl⟩ ?_
  rintro j ⟨hj, hjj⟩
  unfold psR
  by_cases hlt : j < s.size
  · obtain ⟨c, r, hd, hb, hr⟩ := bat_cons hlt
    have hB := isB_bat hb
    have h35 : (bAt s j = 35) ↔ c = 35 := by rw [hb]; exact u8eq c 35 (by decide)
    rw [hd, lexL_cons] at hjj
    cases hBc : isB c with
    | true =>
      have h35n : ¬ bAt s j = 35 := by
        intro q
        have : c = 35 := h35.1 q
        subst this
        cases hBc
      have hblk : blkB (bAt s j) = true := by unfold blkB; rw [← hB]; exact hBc
      rw [hBc] at hjj
      simp only [if_true] at hjj
      (repeat' (first | apply jA | apply jF | apply jH | apply jI | apply jJ | apply jL | apply jN | apply jP | (refine wp_cond rfl (fun hc => ?_) (fun hc => ?_) <;> (try simp only [sB, ne_eq, reduceCtorEq] at hc) <;> (try (exfalso; omega))) | (refine wp_draw (id := 1) 34 mixed (by kernel_rfl) (by kernel_rfl) rfl ?_ <;> (refine rmove rfl ?_) <;> (refine rnilc rfl ?_) <;> (refine rfieldp rfl rfl rfl ?_) <;> (refine rloadp rfl rfl rfl rfl ?_) <;> (refine rmove rfl ?_) <;> (refine rnilc rfl ?_) <;> (refine rfieldp rfl rfl rfl ?_) <;> (refine rloadp rfl rfl rfl rfl ?_) <;> (refine rd_u rfl rfl (alenstr rfl rfl) ?_) <;> (refine rd_u rfl rfl (alss rfl rfl) ?_) <;> (refine rmove rfl ?_) <;> ((refine rd_split (t := 25) rfl (fun hc => ?_) (fun hc => ?_) <;> (try simp only [sB, ne_eq, reduceCtorEq] at hc) <;> (try (exfalso; omega)) <;> (refine gmove rfl rfl rfl ?_))) <;> (refine gnilc rfl rfl rfl ?_) <;> (refine gfieldp rfl rfl rfl rfl rfl ?_) <;> (refine gloadp rfl rfl rfl rfl rfl rfl ?_) <;> (refine gmove rfl rfl rfl ?_) <;> (refine gnilc rfl rfl rfl ?_) <;> (refine gfieldp rfl rfl rfl rfl rfl ?_) <;> (refine gloadp rfl rfl rfl rfl rfl rfl ?_) <;> (refine rdg_u rfl rfl rfl rfl (asidxn rfl rfl rfl (by omega)) ?_) <;> (refine rdg_call rfl rfl rfl rfl (by first | ((repeat' first | exact SubL.nil | refine SubL.cons ?_ ?_ | exact Sub.refl); done) | fail) (by first | (simp [bdL, bdL_append, AV.bd]; done) | fail) (rblank17_fn _) ?_) <;> (refine gmove rfl rfl rfl ?_) <;> ((refine rd_split (t := 36) rfl (fun hc => ?_) (fun hc => ?_) <;> (try simp only [sB, ne_eq, reduceCtorEq] at hc) <;> (try (exfalso; omega)) <;> (first | refine rd_skip rfl rfl ?_ | refine gmove rfl rfl rfl ?_))) <;> (first | refine rd_skip rfl rfl ?_ | refine gnilc rfl rfl rfl ?_) <;> (first | refine rd_skip rfl rfl ?_ | refine gfieldp rfl rfl rfl rfl rfl ?_) <;> (first | refine rd_skip rfl rfl ?_ | refine gloadp rfl rfl rfl rfl rfl rfl ?_) <;> (first | refine rd_skip rfl rfl ?_ | refine gmove rfl rfl rfl ?_) <;> (first | refine rd_skip rfl rfl ?_ | refine gnilc rfl rfl rfl ?_) <;> (first | refine rd_skip rfl rfl ?_ | refine gfieldp rfl rfl rfl rfl rfl ?_) <;> (first | refine rd_skip rfl rfl ?_ | refine gloadp rfl rfl rfl rfl rfl rfl ?_) <;> (first | refine rd_skip rfl rfl ?_ | refine rdg_u rfl rfl rfl rfl (asidxn rfl rfl rfl (by omega)) ?_) <;> (first | refine rd_skip rfl rfl ?_ | refine rdg_u rfl rfl rfl rfl (aeql rfl rfl) ?_) <;> (first | refine rdg_pick_t rfl rfl rfl rfl ?_ | refine rdg_pick_f rfl rfl rfl rfl ?_) <;> (refine rd_pick_t rfl rfl ?_) <;> (refine rd_end (by kernel_rfl) ?_)) | (refine wp_draw (id := 2) 10 mixed (by kernel_rfl) (by kernel_rfl) rfl ?_ <;> (refine rmove rfl ?_) <;> (refine rnilc rfl ?_) <;> (refine rfieldp rfl rfl rfl ?_) <;> (refine rloadp rfl rfl rfl rfl ?_) <;> (refine rmove rfl ?_) <;> (refine rnilc rfl ?_) <;> (refine rfieldp rfl rfl rfl ?_) <;> (refine rloadp rfl rfl rfl rfl ?_) <;> (refine rd_u rfl rfl (asidxn rfl rfl rfl (by omega)) ?_) <;> (refine rd_u rfl rfl (aeql rfl rfl) ?_) <;> (refine rd_end (by kernel_rfl) ?_)) | (refine WP.regionC (id := 5) ?_; (refine smove rfl ?_); (refine snilc rfl ?_); (refine sfieldp rfl rfl rfl ?_); (refine sloadp rfl rfl rfl rfl ?_); (refine sadd rfl rfl (by exact inr_i64_of (by omega)) ?_); (refine snilc rfl ?_); (refine sfieldp rfl rfl rfl ?_); (refine se_store_b rfl rfl rfl rfl ?_); apply jW)))
      all_goals (first | (exfalso; simp_all; done) | exact ⟨j + 1, ⟨by omega, by omega, by rw [← hjj, hr]⟩, ⟨[0], ToR.S rfl (by repeat' (first | exact rt_nil | refine rt_t rfl rfl ?_)) (by repeat' (first | exact ro_nil | refine ro_e rfl rfl ?_)) rfl (by (rw [hm]; exact rfl)) rfl (by (simp [bdT, AV.bd, bdL, bdL_append]; done)) (by repeat' (first | exact True.intro | exact rfl | refine And.intro ?_ ?_)) (by (rw [hm]; exact Nat.le_of_ble_eq_true rfl))⟩⟩)
    | false =>
      have hblk : blkB (bAt s j) = false := by unfold blkB; rw [← hB]; exact hBc
      rw [hBc] at hjj
      simp only [Bool.false_eq_true, if_false] at hjj
      by_cases hc35 : c = 35
      · have h35e : bAt s j = 35 := h35.2 hc35
        rw [if_pos hc35] at hjj
        have hp1 : spanN nlB s j = comN r + 1 := by
          rw [spanN_step hlt (by rw [h35e]; rfl), spanN_r hr]
          unfold comN
          congr 2
          congr 1
          funext d
          have := u8eq d 10 (by decide)
          simp only [Int.cast_ofNat_Int] at this
          simp only [nlB, this]
          rfl
        (repeat' (first | apply jA | apply jF | apply jH | apply jI | (refine wp_cond rfl (fun hc => ?_) (fun hc => ?_) <;> (try simp only [sB, ne_eq, reduceCtorEq] at hc) <;> (try (exfalso; omega))) | (refine wp_draw (id := 1) 34 mixed (by kernel_rfl) (by kernel_rfl) rfl ?_ <;> (refine rmove rfl ?_) <;> (refine rnilc rfl ?_) <;> (refine rfieldp rfl rfl rfl ?_) <;> (refine rloadp rfl rfl rfl rfl ?_) <;> (refine rmove rfl ?_) <;> (refine rnilc rfl ?_) <;> (refine rfieldp rfl rfl rfl ?_) <;> (refine rloadp rfl rfl rfl rfl ?_) <;> (refine rd_u rfl rfl (alenstr rfl rfl) ?_) <;> (refine rd_u rfl rfl (alss rfl rfl) ?_) <;> (refine rmove rfl ?_) <;> ((refine rd_split (t := 25) rfl (fun hc => ?_) (fun hc => ?_) <;> (try simp only [sB, ne_eq, reduceCtorEq] at hc) <;> (try (exfalso; omega)) <;> (refine gmove rfl rfl rfl ?_))) <;> (refine gnilc rfl rfl rfl ?_) <;> (refine gfieldp rfl rfl rfl rfl rfl ?_) <;> (refine gloadp rfl rfl rfl rfl rfl rfl ?_) <;> (refine gmove rfl rfl rfl ?_) <;> (refine gnilc rfl rfl rfl ?_) <;> (refine gfieldp rfl rfl rfl rfl rfl ?_) <;> (refine gloadp rfl rfl rfl rfl rfl rfl ?_) <;> (refine rdg_u rfl rfl rfl rfl (asidxn rfl rfl rfl (by omega)) ?_) <;> (refine rdg_call rfl rfl rfl rfl (by first | ((repeat' first | exact SubL.nil | refine SubL.cons ?_ ?_ | exact Sub.refl); done) | fail) (by first | (simp [bdL, bdL_append, AV.bd]; done) | fail) (rblank17_fn _) ?_) <;> (refine gmove rfl rfl rfl ?_) <;> ((refine rd_split (t := 36) rfl (fun hc => ?_) (fun hc => ?_) <;> (try simp only [sB, ne_eq, reduceCtorEq] at hc) <;> (try (exfalso; omega)) <;> (first | refine rd_skip rfl rfl ?_ | refine gmove rfl rfl rfl ?_))) <;> (first | refine rd_skip rfl rfl ?_ | refine gnilc rfl rfl rfl ?_) <;> (first | refine rd_skip rfl rfl ?_ | refine gfieldp rfl rfl rfl rfl rfl ?_) <;> (first | refine rd_skip rfl rfl ?_ | refine gloadp rfl rfl rfl rfl rfl rfl ?_) <;> (first | refine rd_skip rfl rfl ?_ | refine gmove rfl rfl rfl ?_) <;> (first | refine rd_skip rfl rfl ?_ | refine gnilc rfl rfl rfl ?_) <;> (first | refine rd_skip rfl rfl ?_ | refine gfieldp rfl rfl rfl rfl rfl ?_) <;> (first | refine rd_skip rfl rfl ?_ | refine gloadp rfl rfl rfl rfl rfl rfl ?_) <;> (first | refine rd_skip rfl rfl ?_ | refine rdg_u rfl rfl rfl rfl (asidxn rfl rfl rfl (by omega)) ?_) <;> (first | refine rd_skip rfl rfl ?_ | refine rdg_u rfl rfl rfl rfl (aeql rfl rfl) ?_) <;> (first | refine rdg_pick_t rfl rfl rfl rfl ?_ | refine rdg_pick_f rfl rfl rfl rfl ?_) <;> (refine rd_pick_t rfl rfl ?_) <;> (refine rd_end (by kernel_rfl) ?_)) | (refine wp_draw (id := 2) 10 mixed (by kernel_rfl) (by kernel_rfl) rfl ?_ <;> (refine rmove rfl ?_) <;> (refine rnilc rfl ?_) <;> (refine rfieldp rfl rfl rfl ?_) <;> (refine rloadp rfl rfl rfl rfl ?_) <;> (refine rmove rfl ?_) <;> (refine rnilc rfl ?_) <;> (refine rfieldp rfl rfl rfl ?_) <;> (refine rloadp rfl rfl rfl rfl ?_) <;> (refine rd_u rfl rfl (asidxn rfl rfl rfl (by omega)) ?_) <;> (refine rd_u rfl rfl (aeql rfl rfl) ?_) <;> (refine rd_end (by kernel_rfl) ?_))))
        all_goals (first | (exfalso; simp_all; done) | skip)
        refine wp_loop (fun (i : Nat) => j ≤ i ∧ i ≤ s.size ∧ i + spanN nlB s i = j + spanN nlB s j) (fun i => s.size - i) (fun i => (S 195 [(0, .ptr 0 4 0 0)] 1 [(0, some (psR s i n b))])) j ⟨[0], ToR.S rfl (by repeat' (first | exact rt_nil | refine rt_t rfl rfl ?_)) (by repeat' (first | exact ro_nil | refine ro_e rfl rfl ?_)) rfl (by (rw [hm]; exact rfl)) rfl (by (simp [bdT, AV.bd, bdL, bdL_append]; done)) (by repeat' (first | exact True.intro | exact rfl | refine And.intro ?_ ?_)) (by (rw [hm]; exact Nat.le_of_ble_eq_true rfl))⟩ ⟨Nat.le_refl _, hj, rfl⟩ ?_
        rintro i ⟨hi1, hi2, hi3⟩
        unfold psR
        by_cases hil : i < s.size
        · cases hnl : nlB (bAt s i) with
          | true =>
            have hst := spanN_step hil hnl
            have hn10 : ¬ bAt s i = 10 := by
              intro q
              rw [q] at hnl
              cases hnl
            (repeat' (first | apply jA | apply jF | apply jH | apply jI | apply jN | (refine wp_cond rfl (fun hc => ?_) (fun hc => ?_) <;> (try simp only [sB, ne_eq, reduceCtorEq] at hc) <;> (try (exfalso; omega))) | (refine wp_draw (id := 3) 22 mixed (by kernel_rfl) (by kernel_rfl) rfl ?_ <;> (refine rmove rfl ?_) <;> (refine rnilc rfl ?_) <;> (refine rfieldp rfl rfl rfl ?_) <;> (refine rloadp rfl rfl rfl rfl ?_) <;> (refine rmove rfl ?_) <;> (refine rnilc rfl ?_) <;> (refine rfieldp rfl rfl rfl ?_) <;> (refine rloadp rfl rfl rfl rfl ?_) <;> (refine rd_u rfl rfl (alenstr rfl rfl) ?_) <;> (refine rd_u rfl rfl (alss rfl rfl) ?_) <;> (refine rmove rfl ?_) <;> ((refine rd_split (t := 69) rfl (fun hc => ?_) (fun hc => ?_) <;> (try simp only [sB, ne_eq, reduceCtorEq] at hc) <;> (try (exfalso; omega)) <;> (refine gmove rfl rfl rfl ?_))) <;> (refine gnilc rfl rfl rfl ?_) <;> (refine gfieldp rfl rfl rfl rfl rfl ?_) <;> (refine gloadp rfl rfl rfl rfl rfl rfl ?_) <;> (refine gmove rfl rfl rfl ?_) <;> (refine gnilc rfl rfl rfl ?_) <;> (refine gfieldp rfl rfl rfl rfl rfl ?_) <;> (refine gloadp rfl rfl rfl rfl rfl rfl ?_) <;> (refine rdg_u rfl rfl rfl rfl (asidxn rfl rfl rfl (by omega)) ?_) <;> (refine rdg_u rfl rfl rfl rfl (aneq rfl rfl) ?_) <;> (refine rd_pick_t rfl rfl ?_) <;> (refine rd_end (by kernel_rfl) ?_)) | (refine WP.regionC (id := 4) ?_; (refine smove rfl ?_); (refine snilc rfl ?_); (refine sfieldp rfl rfl rfl ?_); (refine sloadp rfl rfl rfl rfl ?_); (refine sadd rfl rfl (by exact inr_i64_of (by omega)) ?_); (refine snilc rfl ?_); (refine sfieldp rfl rfl rfl ?_); (refine se_store_b rfl rfl rfl rfl ?_); apply jW)))
            all_goals (exact ⟨i + 1, ⟨by omega, by omega, by omega, by omega⟩, ⟨[0], ToR.S rfl (by repeat' (first | exact rt_nil | refine rt_t rfl rfl ?_)) (by repeat' (first | exact ro_nil | refine ro_e rfl rfl ?_)) rfl (by (rw [hm]; exact rfl)) rfl (by (simp [bdT, AV.bd, bdL, bdL_append]; done)) (by repeat' (first | exact True.intro | exact rfl | refine And.intro ?_ ?_)) (by (rw [hm]; exact Nat.le_of_ble_eq_true rfl))⟩⟩)
          | false =>
            have hst := spanN_stop (p := nlB) (s := s) (k := i) fun _ => hnl
            have hn10 : bAt s i = 10 := by
              simp only [nlB, Bool.not_eq_false', decide_eq_true_eq] at hnl
              exact hnl
            have hiq : i = j + (comN r + 1) := by omega
            have hnx : lexL ((bl s).drop i) i = lexL ((bl s).drop (a + n)) (a + n) := by
              rw [hiq, drop_add hd, ← hjj, show j + (comN r + 1) = j + 1 + comN r by omega]
              rfl
            (repeat' (first | apply jA | apply jH | apply jJ | apply jL | apply jP | (refine wp_cond rfl (fun hc => ?_) (fun hc => ?_) <;> (try simp only [sB, ne_eq, reduceCtorEq] at hc) <;> (try (exfalso; omega))) | (refine wp_draw (id := 3) 22 mixed (by kernel_rfl) (by kernel_rfl) rfl ?_ <;> (refine rmove rfl ?_) <;> (refine rnilc rfl ?_) <;> (refine rfieldp rfl rfl rfl ?_) <;> (refine rloadp rfl rfl rfl rfl ?_) <;> (refine rmove rfl ?_) <;> (refine rnilc rfl ?_) <;> (refine rfieldp rfl rfl rfl ?_) <;> (refine rloadp rfl rfl rfl rfl ?_) <;> (refine rd_u rfl rfl (alenstr rfl rfl) ?_) <;> (refine rd_u rfl rfl (alss rfl rfl) ?_) <;> (refine rmove rfl ?_) <;> ((refine rd_split (t := 69) rfl (fun hc => ?_) (fun hc => ?_) <;> (try simp only [sB, ne_eq, reduceCtorEq] at hc) <;> (try (exfalso; omega)) <;> (refine gmove rfl rfl rfl ?_))) <;> (refine gnilc rfl rfl rfl ?_) <;> (refine gfieldp rfl rfl rfl rfl rfl ?_) <;> (refine gloadp rfl rfl rfl rfl rfl rfl ?_) <;> (refine gmove rfl rfl rfl ?_) <;> (refine gnilc rfl rfl rfl ?_) <;> (refine gfieldp rfl rfl rfl rfl rfl ?_) <;> (refine gloadp rfl rfl rfl rfl rfl rfl ?_) <;> (refine rdg_u rfl rfl rfl rfl (asidxn rfl rfl rfl (by omega)) ?_) <;> (refine rdg_u rfl rfl rfl rfl (aneq rfl rfl) ?_) <;> (refine rd_pick_t rfl rfl ?_) <;> (refine rd_end (by kernel_rfl) ?_))))
            all_goals (exact ⟨i, ⟨by omega, hi2, hnx⟩, ⟨[0], ToR.S rfl (by repeat' (first | exact rt_nil | refine rt_t rfl rfl ?_)) (by repeat' (first | exact ro_nil | refine ro_e rfl rfl ?_)) rfl (by (rw [hm]; exact rfl)) rfl (by (simp [bdT, AV.bd, bdL, bdL_append]; done)) (by repeat' (first | exact True.intro | exact rfl | refine And.intro ?_ ?_)) (by (rw [hm]; exact Nat.le_of_ble_eq_true rfl))⟩⟩)
        · have hst := spanN_stop (p := nlB) (s := s) (k := i) fun q => absurd q hil
          have hiq : i = j + (comN r + 1) := by omega
          have hnx : lexL ((bl s).drop i) i = lexL ((bl s).drop (a + n)) (a + n) := by
            rw [hiq, drop_add hd, ← hjj, show j + (comN r + 1) = j + 1 + comN r by omega]
            rfl
          (repeat' (first | apply jA | apply jH | apply jJ | apply jL | apply jP | (refine wp_cond rfl (fun hc => ?_) (fun hc => ?_) <;> (try simp only [sB, ne_eq, reduceCtorEq] at hc) <;> (try (exfalso; omega))) | (refine wp_draw (id := 3) 22 mixed (by kernel_rfl) (by kernel_rfl) rfl ?_ <;> (refine rmove rfl ?_) <;> (refine rnilc rfl ?_) <;> (refine rfieldp rfl rfl rfl ?_) <;> (refine rloadp rfl rfl rfl rfl ?_) <;> (refine rmove rfl ?_) <;> (refine rnilc rfl ?_) <;> (refine rfieldp rfl rfl rfl ?_) <;> (refine rloadp rfl rfl rfl rfl ?_) <;> (refine rd_u rfl rfl (alenstr rfl rfl) ?_) <;> (refine rd_u rfl rfl (alss rfl rfl) ?_) <;> (refine rmove rfl ?_) <;> ((refine rd_split (t := 69) rfl (fun hc => ?_) (fun hc => ?_) <;> (try simp only [sB, ne_eq, reduceCtorEq] at hc) <;> (try (exfalso; omega)) <;> (refine rd_skip rfl rfl ?_))) <;> (refine rd_skip rfl rfl ?_) <;> (refine rd_skip rfl rfl ?_) <;> (refine rd_skip rfl rfl ?_) <;> (refine rd_skip rfl rfl ?_) <;> (refine rd_skip rfl rfl ?_) <;> (refine rd_skip rfl rfl ?_) <;> (refine rd_skip rfl rfl ?_) <;> (refine rd_skip rfl rfl ?_) <;> (refine rd_skip rfl rfl ?_) <;> (refine rd_pick_f rfl rfl ?_) <;> (refine rd_end (by kernel_rfl) ?_))))
          all_goals (exact ⟨i, ⟨by omega, hi2, hnx⟩, ⟨[0], ToR.S rfl (by repeat' (first | exact rt_nil | refine rt_t rfl rfl ?_)) (by repeat' (first | exact ro_nil | refine ro_e rfl rfl ?_)) rfl (by (rw [hm]; exact rfl)) rfl (by (simp [bdT, AV.bd, bdL, bdL_append]; done)) (by repeat' (first | exact True.intro | exact rfl | refine And.intro ?_ ?_)) (by (rw [hm]; exact Nat.le_of_ble_eq_true rfl))⟩⟩)
      · have h35n : ¬ bAt s j = 35 := fun q => hc35 (h35.1 q)
        rw [if_neg hc35] at hjj
        have htl : ((c :: r).take (tokN (c :: r))).length = tokN (c :: r) := by rw [List.length_take]; have := tokN_le (c :: r); omega
        have hAj : A = j := by rw [← hA]; unfold nxA; rw [← hjj]
        have hNj : N = tokN (c :: r) := by rw [← hN]; unfold nxN; rw [← hjj]; exact htl
        have htp := tokN_pos c r
        have hzz : ∀ z : Nat, z = j + tokN (c :: r) → ((z : Int) - (j : Int)) = ((tokN (c :: r) : Nat) : Int) := fun z hz => by omega
        have hLB : letB (bAt s j) = isL c := by rw [hb]; rfl
        have hDB : digB (bAt s j) = isD c := by rw [hb]; rfl
        (repeat' (first | apply jA | apply jF | apply jH | apply jI | apply jJ | apply jL | apply jP | (refine wp_cond rfl (fun hc => ?_) (fun hc => ?_) <;> (try simp only [sB, ne_eq, reduceCtorEq] at hc) <;> (try (exfalso; omega))) | (refine wp_draw (id := 1) 34 mixed (by kernel_rfl) (by kernel_rfl) rfl ?_ <;> (refine rmove rfl ?_) <;> (refine rnilc rfl ?_) <;> (refine rfieldp rfl rfl rfl ?_) <;> (refine rloadp rfl rfl rfl rfl ?_) <;> (refine rmove rfl ?_) <;> (refine rnilc rfl ?_) <;> (refine rfieldp rfl rfl rfl ?_) <;> (refine rloadp rfl rfl rfl rfl ?_) <;> (refine rd_u rfl rfl (alenstr rfl rfl) ?_) <;> (refine rd_u rfl rfl (alss rfl rfl) ?_) <;> (refine rmove rfl ?_) <;> ((refine rd_split (t := 25) rfl (fun hc => ?_) (fun hc => ?_) <;> (try simp only [sB, ne_eq, reduceCtorEq] at hc) <;> (try (exfalso; omega)) <;> (refine gmove rfl rfl rfl ?_))) <;> (refine gnilc rfl rfl rfl ?_) <;> (refine gfieldp rfl rfl rfl rfl rfl ?_) <;> (refine gloadp rfl rfl rfl rfl rfl rfl ?_) <;> (refine gmove rfl rfl rfl ?_) <;> (refine gnilc rfl rfl rfl ?_) <;> (refine gfieldp rfl rfl rfl rfl rfl ?_) <;> (refine gloadp rfl rfl rfl rfl rfl rfl ?_) <;> (refine rdg_u rfl rfl rfl rfl (asidxn rfl rfl rfl (by omega)) ?_) <;> (refine rdg_call rfl rfl rfl rfl (by first | ((repeat' first | exact SubL.nil | refine SubL.cons ?_ ?_ | exact Sub.refl); done) | fail) (by first | (simp [bdL, bdL_append, AV.bd]; done) | fail) (rblank17_fn _) ?_) <;> (refine gmove rfl rfl rfl ?_) <;> ((refine rd_split (t := 36) rfl (fun hc => ?_) (fun hc => ?_) <;> (try simp only [sB, ne_eq, reduceCtorEq] at hc) <;> (try (exfalso; omega)) <;> (first | refine rd_skip rfl rfl ?_ | refine gmove rfl rfl rfl ?_))) <;> (first | refine rd_skip rfl rfl ?_ | refine gnilc rfl rfl rfl ?_) <;> (first | refine rd_skip rfl rfl ?_ | refine gfieldp rfl rfl rfl rfl rfl ?_) <;> (first | refine rd_skip rfl rfl ?_ | refine gloadp rfl rfl rfl rfl rfl rfl ?_) <;> (first | refine rd_skip rfl rfl ?_ | refine gmove rfl rfl rfl ?_) <;> (first | refine rd_skip rfl rfl ?_ | refine gnilc rfl rfl rfl ?_) <;> (first | refine rd_skip rfl rfl ?_ | refine gfieldp rfl rfl rfl rfl rfl ?_) <;> (first | refine rd_skip rfl rfl ?_ | refine gloadp rfl rfl rfl rfl rfl rfl ?_) <;> (first | refine rd_skip rfl rfl ?_ | refine rdg_u rfl rfl rfl rfl (asidxn rfl rfl rfl (by omega)) ?_) <;> (first | refine rd_skip rfl rfl ?_ | refine rdg_u rfl rfl rfl rfl (aeql rfl rfl) ?_) <;> (first | refine rdg_pick_t rfl rfl rfl rfl ?_ | refine rdg_pick_f rfl rfl rfl rfl ?_) <;> (refine rd_pick_t rfl rfl ?_) <;> (refine rd_end (by kernel_rfl) ?_)) | (refine WP.regionC (id := 6) ?_; (refine smove rfl ?_); (refine snilc rfl ?_); (refine sfieldp rfl rfl rfl ?_); (refine sloadp rfl rfl rfl rfl ?_); (refine sassign rfl ?_); apply jW) | (refine WP.regionC (id := 7) ?_; (refine smove rfl ?_); (refine smove rfl ?_); (refine snilc rfl ?_); (refine sfieldp rfl rfl rfl ?_); (refine sloadp rfl rfl rfl rfl ?_); (refine su (alenstr rfl rfl) ?_); (refine slss rfl rfl ?_); apply jW) | (refine WP.regionC (id := 8) ?_; (refine smove rfl ?_); (refine sadd rfl rfl (by exact inr_i64_of (by omega)) ?_); (refine sassign rfl ?_); apply jW)))
        all_goals (first | (exfalso; simp_all; done) | skip)
        cases hLc : isL c with
        | true =>
          rw [hLc] at hLB
          have hsp : spanN wB s j = tokN (c :: r) := by
            rw [spanN_step hlt (by unfold wB; rw [hLB]; rfl), spanN_r hr]
            simp only [tokN, hLc, if_true]
            rw [Nat.add_comm]
            congr 3
            funext d
            have := u8eq d 95 (by decide)
            simp only [Int.cast_ofNat_Int] at this
            simp only [wB, this, isW]
            rfl
          have hs1 := spanN_step (p := wB) hlt (by unfold wB; rw [hLB]; rfl)
          have hle := spanN_le wB s j hj
          have hnD : digB (bAt s j) = false := by
            cases hq : digB (bAt s j) with
            | false => rfl
            | true =>
              simp only [letB, digB, Bool.or_eq_true, Bool.and_eq_true, decide_eq_true_eq] at hLB hq
              omega
          refine wp_loop (fun (e : Nat) => j + 1 ≤ e ∧ e ≤ s.size ∧ e + spanN wB s e = j + spanN wB s j) (fun e => s.size - e) (fun e => (S 195 [(0, .ptr 0 4 0 0), (2, intA (e : Nat))] 1 [(0, some (psR s j n b))])) (j + 1) ⟨[0], ToR.S rfl (by repeat' (first | exact rt_nil | refine rt_t rfl rfl ?_ | refine rt_e rfl rfl ?_)) (by repeat' (first | exact ro_nil | refine ro_e rfl rfl ?_)) rfl (by (rw [hm]; exact rfl)) rfl (by (simp [bdT, AV.bd, bdL, bdL_append]; done)) (by repeat' (first | exact True.intro | exact rfl | refine And.intro ?_ ?_)) (by (rw [hm]; exact Nat.le_of_ble_eq_true rfl))⟩ ⟨Nat.le_refl _, by omega, by omega⟩ ?_
          rintro e ⟨he1, he2, he3⟩
          unfold psR
          by_cases hel : e < s.size
          · cases hwe : wB (bAt s e) with
            | true =>
              have hst := spanN_step hel hwe
              have hnext : s.size - (e + 1) < s.size - e ∧ j + 1 ≤ e + 1 ∧ e + 1 ≤ s.size ∧ e + 1 + spanN wB s (e + 1) = j + spanN wB s j := ⟨by omega, by omega, by omega, by omega⟩
              (repeat' (first | apply jA | apply jF | apply jH | apply jI | apply jJ | apply jL | apply jN | apply jP | (refine wp_cond rfl (fun hc => ?_) (fun hc => ?_) <;> (try simp only [sB, ne_eq, reduceCtorEq] at hc) <;> (try (exfalso; omega))) | (refine wp_draw (id := 9) 46 mixed (by kernel_rfl) (by kernel_rfl) rfl ?_ <;> (refine rmove rfl ?_) <;> (refine rnilc rfl ?_) <;> (refine rfieldp rfl rfl rfl ?_) <;> (refine rloadp rfl rfl rfl rfl ?_) <;> (refine rmove rfl ?_) <;> (refine rnilc rfl ?_) <;> (refine rfieldp rfl rfl rfl ?_) <;> (refine rloadp rfl rfl rfl rfl ?_) <;> (refine rd_u rfl rfl (asidxn rfl rfl rfl (by omega)) ?_) <;> (refine rd_call rfl rfl (by first | ((repeat' first | exact SubL.nil | refine SubL.cons ?_ ?_ | exact Sub.refl); done) | fail) (by first | (simp [bdL, bdL_append, AV.bd]; done) | fail) (rletter17_fn _) ?_) <;> (refine rmove rfl ?_) <;> ((refine rd_split (t := 118) rfl (fun hc => ?_) (fun hc => ?_) <;> (try simp only [sB, ne_eq, reduceCtorEq] at hc) <;> (try (exfalso; omega)) <;> (first | refine rd_skip rfl rfl ?_ | refine gmove rfl rfl rfl ?_))) <;> (first | refine rd_skip rfl rfl ?_ | refine gmove rfl rfl rfl ?_) <;> (first | refine rd_skip rfl rfl ?_ | refine gnilc rfl rfl rfl ?_) <;> (first | refine rd_skip rfl rfl ?_ | refine gfieldp rfl rfl rfl rfl rfl ?_) <;> (first | refine rd_skip rfl rfl ?_ | refine gloadp rfl rfl rfl rfl rfl rfl ?_) <;> (first | refine rd_skip rfl rfl ?_ | refine rdg_u rfl rfl rfl rfl (alenstr rfl rfl) ?_) <;> (first | refine rd_skip rfl rfl ?_ | refine rdg_u rfl rfl rfl rfl (alss rfl rfl) ?_) <;> (first | refine rd_pick_t rfl rfl ?_ | refine rd_pick_f rfl rfl ?_) <;> (refine rmove rfl ?_) <;> (first | refine rd_skip rfl rfl ?_ | (refine rd_split (t := 127) rfl (fun hc => ?_) (fun hc => ?_) <;> (try simp only [sB, ne_eq, reduceCtorEq] at hc) <;> (try (exfalso; omega)) <;> (refine gmove rfl rfl rfl ?_))) <;> (first | refine rd_skip rfl rfl ?_ | refine gnilc rfl rfl rfl ?_) <;> (first | refine rd_skip rfl rfl ?_ | refine gfieldp rfl rfl rfl rfl rfl ?_) <;> (first | refine rd_skip rfl rfl ?_ | refine gloadp rfl rfl rfl rfl rfl rfl ?_) <;> (first | refine rd_skip rfl rfl ?_ | refine gmove rfl rfl rfl ?_) <;> (first | refine rd_skip rfl rfl ?_ | refine rdg_u rfl rfl rfl rfl (asidxn rfl rfl rfl (by omega)) ?_) <;> (first | refine rd_skip rfl rfl ?_ | refine rdg_call rfl rfl rfl rfl (by first | ((repeat' first | exact SubL.nil | refine SubL.cons ?_ ?_ | exact Sub.refl); done) | fail) (by first | (simp [bdL, bdL_append, AV.bd]; done) | fail) (rletter17_fn _) ?_) <;> (first | refine rd_skip rfl rfl ?_ | refine gmove rfl rfl rfl ?_) <;> (first | refine rd_skip2 rfl rfl ?_ | (refine rd_split (t := 135) rfl (fun hc => ?_) (fun hc => ?_) <;> (try simp only [sB, ne_eq, reduceCtorEq] at hc) <;> (try (exfalso; omega)) <;> (first | refine rd_skip rfl rfl ?_ | refine gmove rfl rfl rfl ?_))) <;> (first | refine rd_skip rfl rfl ?_ | refine rd_skip2 rfl rfl ?_ | refine gnilc rfl rfl rfl ?_) <;> (first | refine rd_skip rfl rfl ?_ | refine rd_skip2 rfl rfl ?_ | refine gfieldp rfl rfl rfl rfl rfl ?_) <;> (first | refine rd_skip rfl rfl ?_ | refine rd_skip2 rfl rfl ?_ | refine gloadp rfl rfl rfl rfl rfl rfl ?_) <;> (first | refine rd_skip rfl rfl ?_ | refine rd_skip2 rfl rfl ?_ | refine gmove rfl rfl rfl ?_) <;> (first | refine rd_skip rfl rfl ?_ | refine rd_skip2 rfl rfl ?_ | refine rdg_u rfl rfl rfl rfl (asidxn rfl rfl rfl (by omega)) ?_) <;> (first | refine rd_skip rfl rfl ?_ | refine rd_skip2 rfl rfl ?_ | refine rdg_call rfl rfl rfl rfl (by first | ((repeat' first | exact SubL.nil | refine SubL.cons ?_ ?_ | exact Sub.refl); done) | fail) (by first | (simp [bdL, bdL_append, AV.bd]; done) | fail) (rdigit17_fn _) ?_) <;> (first | refine rd_skip rfl rfl ?_ | refine rdg_pick_t rfl rfl rfl rfl ?_ | refine rdg_pick_f rfl rfl rfl rfl ?_) <;> (first | refine rd_skip rfl rfl ?_ | refine gmove rfl rfl rfl ?_) <;> (first | refine rd_skip rfl rfl ?_ | refine rd_skip2 rfl rfl ?_ | (refine rd_split (t := 144) rfl (fun hc => ?_) (fun hc => ?_) <;> (try simp only [sB, ne_eq, reduceCtorEq] at hc) <;> (try (exfalso; omega)) <;> (first | refine rd_skip rfl rfl ?_ | refine gmove rfl rfl rfl ?_))) <;> (first | refine rd_skip rfl rfl ?_ | refine rd_skip2 rfl rfl ?_ | refine gnilc rfl rfl rfl ?_) <;> (first | refine rd_skip rfl rfl ?_ | refine rd_skip2 rfl rfl ?_ | refine gfieldp rfl rfl rfl rfl rfl ?_) <;> (first | refine rd_skip rfl rfl ?_ | refine rd_skip2 rfl rfl ?_ | refine gloadp rfl rfl rfl rfl rfl rfl ?_) <;> (first | refine rd_skip rfl rfl ?_ | refine rd_skip2 rfl rfl ?_ | refine gmove rfl rfl rfl ?_) <;> (first | refine rd_skip rfl rfl ?_ | refine rd_skip2 rfl rfl ?_ | refine rdg_u rfl rfl rfl rfl (asidxn rfl rfl rfl (by omega)) ?_) <;> (first | refine rd_skip rfl rfl ?_ | refine rd_skip2 rfl rfl ?_ | refine rdg_u rfl rfl rfl rfl (aeql rfl rfl) ?_) <;> (first | refine rd_skip rfl rfl ?_ | refine rdg_pick_t rfl rfl rfl rfl ?_ | refine rdg_pick_f rfl rfl rfl rfl ?_) <;> (first | refine rd_pick_t rfl rfl ?_ | refine rd_pick_f rfl rfl ?_) <;> (refine rd_end (by kernel_rfl) ?_)) | (refine WP.regionC (id := 10) ?_; (refine smove rfl ?_); (refine sadd rfl rfl (by exact inr_i64_of (by omega)) ?_); (refine sassign rfl ?_); apply jW)))
              all_goals (first | exact ⟨e + 1, hnext, ⟨[0], ToR.S rfl (by repeat' (first | exact rt_nil | refine rt_t rfl rfl ?_ | refine rt_e rfl rfl ?_)) (by repeat' (first | exact ro_nil | refine ro_e rfl rfl ?_)) rfl (by (rw [hm]; exact rfl)) rfl (by (simp [bdT, AV.bd, bdL, bdL_append]; done)) (by repeat' (first | exact True.intro | exact rfl | refine And.intro ?_ ?_)) (by (rw [hm]; exact Nat.le_of_ble_eq_true rfl))⟩⟩ | (exfalso; simp_all [wB]; done))
            | false =>
              have hst := spanN_stop (p := wB) (s := s) (k := e) fun _ => hwe
              have heq : e = j + tokN (c :: r) := by omega
              (repeat' (first | apply jA | apply jF | apply jH | apply jI | apply jJ | apply jL | apply jP | (refine wp_cond rfl (fun hc => ?_) (fun hc => ?_) <;> (try simp only [sB, ne_eq, reduceCtorEq] at hc) <;> (try (exfalso; omega))) | (refine wp_draw (id := 9) 46 mixed (by kernel_rfl) (by kernel_rfl) rfl ?_ <;> (refine rmove rfl ?_) <;> (refine rnilc rfl ?_) <;> (refine rfieldp rfl rfl rfl ?_) <;> (refine rloadp rfl rfl rfl rfl ?_) <;> (refine rmove rfl ?_) <;> (refine rnilc rfl ?_) <;> (refine rfieldp rfl rfl rfl ?_) <;> (refine rloadp rfl rfl rfl rfl ?_) <;> (refine rd_u rfl rfl (asidxn rfl rfl rfl (by omega)) ?_) <;> (refine rd_call rfl rfl (by first | ((repeat' first | exact SubL.nil | refine SubL.cons ?_ ?_ | exact Sub.refl); done) | fail) (by first | (simp [bdL, bdL_append, AV.bd]; done) | fail) (rletter17_fn _) ?_) <;> (refine rmove rfl ?_) <;> ((refine rd_split (t := 118) rfl (fun hc => ?_) (fun hc => ?_) <;> (try simp only [sB, ne_eq, reduceCtorEq] at hc) <;> (try (exfalso; omega)) <;> (first | refine rd_skip rfl rfl ?_ | refine gmove rfl rfl rfl ?_))) <;> (first | refine rd_skip rfl rfl ?_ | refine gmove rfl rfl rfl ?_) <;> (first | refine rd_skip rfl rfl ?_ | refine gnilc rfl rfl rfl ?_) <;> (first | refine rd_skip rfl rfl ?_ | refine gfieldp rfl rfl rfl rfl rfl ?_) <;> (first | refine rd_skip rfl rfl ?_ | refine gloadp rfl rfl rfl rfl rfl rfl ?_) <;> (first | refine rd_skip rfl rfl ?_ | refine rdg_u rfl rfl rfl rfl (alenstr rfl rfl) ?_) <;> (first | refine rd_skip rfl rfl ?_ | refine rdg_u rfl rfl rfl rfl (alss rfl rfl) ?_) <;> (first | refine rd_pick_t rfl rfl ?_ | refine rd_pick_f rfl rfl ?_) <;> (refine rmove rfl ?_) <;> (first | refine rd_skip rfl rfl ?_ | (refine rd_split (t := 127) rfl (fun hc => ?_) (fun hc => ?_) <;> (try simp only [sB, ne_eq, reduceCtorEq] at hc) <;> (try (exfalso; omega)) <;> (refine gmove rfl rfl rfl ?_))) <;> (first | refine rd_skip rfl rfl ?_ | refine gnilc rfl rfl rfl ?_) <;> (first | refine rd_skip rfl rfl ?_ | refine gfieldp rfl rfl rfl rfl rfl ?_) <;> (first | refine rd_skip rfl rfl ?_ | refine gloadp rfl rfl rfl rfl rfl rfl ?_) <;> (first | refine rd_skip rfl rfl ?_ | refine gmove rfl rfl rfl ?_) <;> (first | refine rd_skip rfl rfl ?_ | refine rdg_u rfl rfl rfl rfl (asidxn rfl rfl rfl (by omega)) ?_) <;> (first | refine rd_skip rfl rfl ?_ | refine rdg_call rfl rfl rfl rfl (by first | ((repeat' first | exact SubL.nil | refine SubL.cons ?_ ?_ | exact Sub.refl); done) | fail) (by first | (simp [bdL, bdL_append, AV.bd]; done) | fail) (rletter17_fn _) ?_) <;> (first | refine rd_skip rfl rfl ?_ | refine gmove rfl rfl rfl ?_) <;> (first | refine rd_skip2 rfl rfl ?_ | (refine rd_split (t := 135) rfl (fun hc => ?_) (fun hc => ?_) <;> (try simp only [sB, ne_eq, reduceCtorEq] at hc) <;> (try (exfalso; omega)) <;> (first | refine rd_skip rfl rfl ?_ | refine gmove rfl rfl rfl ?_))) <;> (first | refine rd_skip rfl rfl ?_ | refine rd_skip2 rfl rfl ?_ | refine gnilc rfl rfl rfl ?_) <;> (first | refine rd_skip rfl rfl ?_ | refine rd_skip2 rfl rfl ?_ | refine gfieldp rfl rfl rfl rfl rfl ?_) <;> (first | refine rd_skip rfl rfl ?_ | refine rd_skip2 rfl rfl ?_ | refine gloadp rfl rfl rfl rfl rfl rfl ?_) <;> (first | refine rd_skip rfl rfl ?_ | refine rd_skip2 rfl rfl ?_ | refine gmove rfl rfl rfl ?_) <;> (first | refine rd_skip rfl rfl ?_ | refine rd_skip2 rfl rfl ?_ | refine rdg_u rfl rfl rfl rfl (asidxn rfl rfl rfl (by omega)) ?_) <;> (first | refine rd_skip rfl rfl ?_ | refine rd_skip2 rfl rfl ?_ | refine rdg_call rfl rfl rfl rfl (by first | ((repeat' first | exact SubL.nil | refine SubL.cons ?_ ?_ | exact Sub.refl); done) | fail) (by first | (simp [bdL, bdL_append, AV.bd]; done) | fail) (rdigit17_fn _) ?_) <;> (first | refine rd_skip rfl rfl ?_ | refine rdg_pick_t rfl rfl rfl rfl ?_ | refine rdg_pick_f rfl rfl rfl rfl ?_) <;> (first | refine rd_skip rfl rfl ?_ | refine gmove rfl rfl rfl ?_) <;> (first | refine rd_skip rfl rfl ?_ | refine rd_skip2 rfl rfl ?_ | (refine rd_split (t := 144) rfl (fun hc => ?_) (fun hc => ?_) <;> (try simp only [sB, ne_eq, reduceCtorEq] at hc) <;> (try (exfalso; omega)) <;> (first | refine rd_skip rfl rfl ?_ | refine gmove rfl rfl rfl ?_))) <;> (first | refine rd_skip rfl rfl ?_ | refine rd_skip2 rfl rfl ?_ | refine gnilc rfl rfl rfl ?_) <;> (first | refine rd_skip rfl rfl ?_ | refine rd_skip2 rfl rfl ?_ | refine gfieldp rfl rfl rfl rfl rfl ?_) <;> (first | refine rd_skip rfl rfl ?_ | refine rd_skip2 rfl rfl ?_ | refine gloadp rfl rfl rfl rfl rfl rfl ?_) <;> (first | refine rd_skip rfl rfl ?_ | refine rd_skip2 rfl rfl ?_ | refine gmove rfl rfl rfl ?_) <;> (first | refine rd_skip rfl rfl ?_ | refine rd_skip2 rfl rfl ?_ | refine rdg_u rfl rfl rfl rfl (asidxn rfl rfl rfl (by omega)) ?_) <;> (first | refine rd_skip rfl rfl ?_ | refine rd_skip2 rfl rfl ?_ | refine rdg_u rfl rfl rfl rfl (aeql rfl rfl) ?_) <;> (first | refine rd_skip rfl rfl ?_ | refine rdg_pick_t rfl rfl rfl rfl ?_ | refine rdg_pick_f rfl rfl rfl rfl ?_) <;> (first | refine rd_pick_t rfl rfl ?_ | refine rd_pick_f rfl rfl ?_) <;> (refine rd_end (by kernel_rfl) ?_))))
              all_goals (first | (exfalso; simp_all [wB]; done) | skip)
              refine wp_loop (fun (e' : Nat) => e' = e) (fun _ => 0) (fun e' => (S 195 [(0, .ptr 0 4 0 0), (2, intA (e' : Nat))] 1 [(0, some (psR s j n b))])) e ⟨[0], ToR.S rfl (by repeat' (first | exact rt_nil | refine rt_t rfl rfl ?_ | refine rt_e rfl rfl ?_)) (by repeat' (first | exact ro_nil | refine ro_e rfl rfl ?_)) rfl (by (rw [hm]; exact rfl)) rfl (by (simp [bdT, AV.bd, bdL, bdL_append]; done)) (by repeat' (first | exact True.intro | exact rfl | refine And.intro ?_ ?_)) (by (rw [hm]; exact Nat.le_of_ble_eq_true rfl))⟩ rfl ?_
              rintro e' rfl
              unfold psR
              (repeat' (first | apply jA | apply jF | apply jH | apply jI | apply jJ | apply jL | apply jP | apply jR | (refine wp_cond rfl (fun hc => ?_) (fun hc => ?_) <;> (try simp only [sB, ne_eq, reduceCtorEq] at hc) <;> (try (exfalso; omega))) | (refine wp_draw (id := 11) 28 mixed (by kernel_rfl) (by kernel_rfl) rfl ?_ <;> (refine rmove rfl ?_) <;> (refine rnilc rfl ?_) <;> (refine rfieldp rfl rfl rfl ?_) <;> (refine rloadp rfl rfl rfl rfl ?_) <;> (refine rmove rfl ?_) <;> (refine rnilc rfl ?_) <;> (refine rfieldp rfl rfl rfl ?_) <;> (refine rloadp rfl rfl rfl rfl ?_) <;> (refine rd_u rfl rfl (asidxn rfl rfl rfl (by omega)) ?_) <;> (refine rd_call rfl rfl (by first | ((repeat' first | exact SubL.nil | refine SubL.cons ?_ ?_ | exact Sub.refl); done) | fail) (by first | (simp [bdL, bdL_append, AV.bd]; done) | fail) (rdigit17_fn _) ?_) <;> (refine rmove rfl ?_) <;> ((refine rd_split (t := 166) rfl (fun hc => ?_) (fun hc => ?_) <;> (try simp only [sB, ne_eq, reduceCtorEq] at hc) <;> (try (exfalso; omega)) <;> (first | refine rd_skip rfl rfl ?_ | refine gmove rfl rfl rfl ?_))) <;> (first | refine rd_skip rfl rfl ?_ | refine gmove rfl rfl rfl ?_) <;> (first | refine rd_skip rfl rfl ?_ | refine gnilc rfl rfl rfl ?_) <;> (first | refine rd_skip rfl rfl ?_ | refine gfieldp rfl rfl rfl rfl rfl ?_) <;> (first | refine rd_skip rfl rfl ?_ | refine gloadp rfl rfl rfl rfl rfl rfl ?_) <;> (first | refine rd_skip rfl rfl ?_ | refine rdg_u rfl rfl rfl rfl (alenstr rfl rfl) ?_) <;> (first | refine rd_skip rfl rfl ?_ | refine rdg_u rfl rfl rfl rfl (alss rfl rfl) ?_) <;> (first | refine rd_pick_t rfl rfl ?_ | refine rd_pick_f rfl rfl ?_) <;> (refine rmove rfl ?_) <;> (first | refine rd_skip rfl rfl ?_ | (refine rd_split (t := 175) rfl (fun hc => ?_) (fun hc => ?_) <;> (try simp only [sB, ne_eq, reduceCtorEq] at hc) <;> (try (exfalso; omega)) <;> (refine gmove rfl rfl rfl ?_))) <;> (first | refine rd_skip rfl rfl ?_ | refine gnilc rfl rfl rfl ?_) <;> (first | refine rd_skip rfl rfl ?_ | refine gfieldp rfl rfl rfl rfl rfl ?_) <;> (first | refine rd_skip rfl rfl ?_ | refine gloadp rfl rfl rfl rfl rfl rfl ?_) <;> (first | refine rd_skip rfl rfl ?_ | refine gmove rfl rfl rfl ?_) <;> (first | refine rd_skip rfl rfl ?_ | refine rdg_u rfl rfl rfl rfl (asidxn rfl rfl rfl (by omega)) ?_) <;> (first | refine rd_skip rfl rfl ?_ | refine rdg_call rfl rfl rfl rfl (by first | ((repeat' first | exact SubL.nil | refine SubL.cons ?_ ?_ | exact Sub.refl); done) | fail) (by first | (simp [bdL, bdL_append, AV.bd]; done) | fail) (rdigit17_fn _) ?_) <;> (first | refine rd_pick_t rfl rfl ?_ | refine rd_pick_f rfl rfl ?_) <;> (refine rd_end (by kernel_rfl) ?_)) | (refine WP.regionC (id := 13) ?_; (refine smove rfl ?_); (refine smove rfl ?_); (refine smove rfl ?_); (refine snilc rfl ?_); (refine sfieldp rfl rfl rfl ?_); (refine sloadp rfl rfl rfl rfl ?_); (refine su (asub rfl rfl (by exact inr_i64_of (by omega))) ?_); (refine snilc rfl ?_); (refine sfieldp rfl rfl rfl ?_); (refine se_store_b rfl rfl rfl rfl ?_); apply jW)))
              all_goals (first | (exfalso; simp_all; done) | skip)
              rw [hzz _ heq, hAj, hNj]
              refine retO_L (x := .tup []) (k := 1) (os1 := [(0, some (psR s j (tokN (c :: r)) b))]) .nil rfl ⟨[0], ToR.S rfl (by repeat' (first | exact rt_nil | refine rt_e rfl rfl ?_)) (by repeat' (first | exact ro_nil | refine ro_e rfl rfl ?_)) rfl rfl rfl (by (simp [bdT, AV.bd, bdL, bdL_append]; done)) (by repeat' (first | exact True.intro | exact rfl | refine And.intro ?_ ?_)) (by exact Nat.le_of_ble_eq_true rfl)⟩ rfl
          · have hst := spanN_stop (p := wB) (s := s) (k := e) fun q => absurd q hel
            have heq : e = j + tokN (c :: r) := by omega
            (repeat' (first | apply jA | apply jF | apply jH | apply jJ | apply jL | apply jP | (refine wp_cond rfl (fun hc => ?_) (fun hc => ?_) <;> (try simp only [sB, ne_eq, reduceCtorEq] at hc) <;> (try (exfalso; omega))) | (refine wp_draw (id := 9) 46 mixed (by kernel_rfl) (by kernel_rfl) rfl ?_ <;> (refine rmove rfl ?_) <;> (refine rnilc rfl ?_) <;> (refine rfieldp rfl rfl rfl ?_) <;> (refine rloadp rfl rfl rfl rfl ?_) <;> (refine rmove rfl ?_) <;> (refine rnilc rfl ?_) <;> (refine rfieldp rfl rfl rfl ?_) <;> (refine rloadp rfl rfl rfl rfl ?_) <;> (refine rd_u rfl rfl (asidxn rfl rfl rfl (by omega)) ?_) <;> (refine rd_call rfl rfl (by first | ((repeat' first | exact SubL.nil | refine SubL.cons ?_ ?_ | exact Sub.refl); done) | fail) (by first | (simp [bdL, bdL_append, AV.bd]; done) | fail) (rletter17_fn _) ?_) <;> (refine rmove rfl ?_) <;> ((refine rd_split (t := 118) rfl (fun hc => ?_) (fun hc => ?_) <;> (try simp only [sB, ne_eq, reduceCtorEq] at hc) <;> (try (exfalso; omega)) <;> (first | refine rd_skip rfl rfl ?_ | refine gmove rfl rfl rfl ?_))) <;> (first | refine rd_skip rfl rfl ?_ | refine gmove rfl rfl rfl ?_) <;> (first | refine rd_skip rfl rfl ?_ | refine gnilc rfl rfl rfl ?_) <;> (first | refine rd_skip rfl rfl ?_ | refine gfieldp rfl rfl rfl rfl rfl ?_) <;> (first | refine rd_skip rfl rfl ?_ | refine gloadp rfl rfl rfl rfl rfl rfl ?_) <;> (first | refine rd_skip rfl rfl ?_ | refine rdg_u rfl rfl rfl rfl (alenstr rfl rfl) ?_) <;> (first | refine rd_skip rfl rfl ?_ | refine rdg_u rfl rfl rfl rfl (alss rfl rfl) ?_) <;> (first | refine rd_pick_t rfl rfl ?_ | refine rd_pick_f rfl rfl ?_) <;> (refine rmove rfl ?_) <;> (first | refine rd_skip rfl rfl ?_ | (refine rd_split (t := 127) rfl (fun hc => ?_) (fun hc => ?_) <;> (try simp only [sB, ne_eq, reduceCtorEq] at hc) <;> (try (exfalso; omega)) <;> (refine rd_skip rfl rfl ?_))) <;> (refine rd_skip rfl rfl ?_) <;> (refine rd_skip rfl rfl ?_) <;> (refine rd_skip rfl rfl ?_) <;> (refine rd_skip rfl rfl ?_) <;> (refine rd_skip rfl rfl ?_) <;> (refine rd_skip rfl rfl ?_) <;> (refine rd_skip rfl rfl ?_) <;> (refine rd_skip2 rfl rfl ?_) <;> (refine rd_skip2 rfl rfl ?_) <;> (refine rd_skip2 rfl rfl ?_) <;> (refine rd_skip2 rfl rfl ?_) <;> (refine rd_skip2 rfl rfl ?_) <;> (refine rd_skip2 rfl rfl ?_) <;> (refine rd_skip2 rfl rfl ?_) <;> (refine rd_skip rfl rfl ?_) <;> (refine rd_skip rfl rfl ?_) <;> (refine rd_skip2 rfl rfl ?_) <;> (refine rd_skip2 rfl rfl ?_) <;> (refine rd_skip2 rfl rfl ?_) <;> (refine rd_skip2 rfl rfl ?_) <;> (refine rd_skip2 rfl rfl ?_) <;> (refine rd_skip2 rfl rfl ?_) <;> (refine rd_skip2 rfl rfl ?_) <;> (refine rd_skip rfl rfl ?_) <;> (refine rd_pick_f rfl rfl ?_) <;> (refine rd_end (by kernel_rfl) ?_))))
            all_goals (first | (exfalso; simp_all [wB]; done) | skip)
            refine wp_loop (fun (e' : Nat) => e' = e) (fun _ => 0) (fun e' => (S 195 [(0, .ptr 0 4 0 0), (2, intA (e' : Nat))] 1 [(0, some (psR s j n b))])) e ⟨[0], ToR.S rfl (by repeat' (first | exact rt_nil | refine rt_t rfl rfl ?_ | refine rt_e rfl rfl ?_)) (by repeat' (first | exact ro_nil | refine ro_e rfl rfl ?_)) rfl (by (rw [hm]; exact rfl)) rfl (by (simp [bdT, AV.bd, bdL, bdL_append]; done)) (by repeat' (first | exact True.intro | exact rfl | refine And.intro ?_ ?_)) (by (rw [hm]; exact Nat.le_of_ble_eq_true rfl))⟩ rfl ?_
            rintro e' rfl
            unfold psR
            (repeat' (first | apply jA | apply jH | apply jJ | apply jL | apply jP | apply jR | (refine wp_cond rfl (fun hc => ?_) (fun hc => ?_) <;> (try simp only [sB, ne_eq, reduceCtorEq] at hc) <;> (try (exfalso; omega))) | (refine wp_draw (id := 11) 28 mixed (by kernel_rfl) (by kernel_rfl) rfl ?_ <;> (refine rmove rfl ?_) <;> (refine rnilc rfl ?_) <;> (refine rfieldp rfl rfl rfl ?_) <;> (refine rloadp rfl rfl rfl rfl ?_) <;> (refine rmove rfl ?_) <;> (refine rnilc rfl ?_) <;> (refine rfieldp rfl rfl rfl ?_) <;> (refine rloadp rfl rfl rfl rfl ?_) <;> (refine rd_u rfl rfl (asidxn rfl rfl rfl (by omega)) ?_) <;> (refine rd_call rfl rfl (by first | ((repeat' first | exact SubL.nil | refine SubL.cons ?_ ?_ | exact Sub.refl); done) | fail) (by first | (simp [bdL, bdL_append, AV.bd]; done) | fail) (rdigit17_fn _) ?_) <;> (refine rmove rfl ?_) <;> ((refine rd_split (t := 166) rfl (fun hc => ?_) (fun hc => ?_) <;> (try simp only [sB, ne_eq, reduceCtorEq] at hc) <;> (try (exfalso; omega)) <;> (first | refine rd_skip rfl rfl ?_ | refine gmove rfl rfl rfl ?_))) <;> (first | refine rd_skip rfl rfl ?_ | refine gmove rfl rfl rfl ?_) <;> (first | refine rd_skip rfl rfl ?_ | refine gnilc rfl rfl rfl ?_) <;> (first | refine rd_skip rfl rfl ?_ | refine gfieldp rfl rfl rfl rfl rfl ?_) <;> (first | refine rd_skip rfl rfl ?_ | refine gloadp rfl rfl rfl rfl rfl rfl ?_) <;> (first | refine rd_skip rfl rfl ?_ | refine rdg_u rfl rfl rfl rfl (alenstr rfl rfl) ?_) <;> (first | refine rd_skip rfl rfl ?_ | refine rdg_u rfl rfl rfl rfl (alss rfl rfl) ?_) <;> (first | refine rd_pick_t rfl rfl ?_ | refine rd_pick_f rfl rfl ?_) <;> (refine rmove rfl ?_) <;> (first | refine rd_skip rfl rfl ?_ | (refine rd_split (t := 175) rfl (fun hc => ?_) (fun hc => ?_) <;> (try simp only [sB, ne_eq, reduceCtorEq] at hc) <;> (try (exfalso; omega)) <;> (refine rd_skip rfl rfl ?_))) <;> (refine rd_skip rfl rfl ?_) <;> (refine rd_skip rfl rfl ?_) <;> (refine rd_skip rfl rfl ?_) <;> (refine rd_skip rfl rfl ?_) <;> (refine rd_skip rfl rfl ?_) <;> (refine rd_skip rfl rfl ?_) <;> (refine rd_pick_f rfl rfl ?_) <;> (refine rd_end (by kernel_rfl) ?_)) | (refine WP.regionC (id := 13) ?_; (refine smove rfl ?_); (refine smove rfl ?_); (refine smove rfl ?_); (refine snilc rfl ?_); (refine sfieldp rfl rfl rfl ?_); (refine sloadp rfl rfl rfl rfl ?_); (refine su (asub rfl rfl (by exact inr_i64_of (by omega))) ?_); (refine snilc rfl ?_); (refine sfieldp rfl rfl rfl ?_); (refine se_store_b rfl rfl rfl rfl ?_); apply jW)))
            all_goals (first | (exfalso; simp_all; done) | skip)
            rw [hzz _ heq, hAj, hNj]
            refine retO_L (x := .tup []) (k := 1) (os1 := [(0, some (psR s j (tokN (c :: r)) b))]) .nil rfl ⟨[0], ToR.S rfl (by repeat' (first | exact rt_nil | refine rt_e rfl rfl ?_)) (by repeat' (first | exact ro_nil | refine ro_e rfl rfl ?_)) rfl rfl rfl (by (simp [bdT, AV.bd, bdL, bdL_append]; done)) (by repeat' (first | exact True.intro | exact rfl | refine And.intro ?_ ?_)) (by exact Nat.le_of_ble_eq_true rfl)⟩ rfl
        | false =>
          rw [hLc] at hLB
          refine wp_loop (fun (e : Nat) => e = j + 1) (fun _ => 0) (fun e => (S 195 [(0, .ptr 0 4 0 0), (2, intA (e : Nat))] 1 [(0, some (psR s j n b))])) (j + 1) ⟨[0], ToR.S rfl (by repeat' (first | exact rt_nil | refine rt_t rfl rfl ?_ | refine rt_e rfl rfl ?_)) (by repeat' (first | exact ro_nil | refine ro_e rfl rfl ?_)) rfl (by (rw [hm]; exact rfl)) rfl (by (simp [bdT, AV.bd, bdL, bdL_append]; done)) (by repeat' (first | exact True.intro | exact rfl | refine And.intro ?_ ?_)) (by (rw [hm]; exact Nat.le_of_ble_eq_true rfl))⟩ rfl ?_
          rintro e rfl
          unfold psR
          (repeat' (first | apply jA | apply jF | apply jH | apply jI | apply jJ | apply jL | apply jP | (refine wp_cond rfl (fun hc => ?_) (fun hc => ?_) <;> (try simp only [sB, ne_eq, reduceCtorEq] at hc) <;> (try (exfalso; omega))) | (refine wp_draw (id := 9) 46 mixed (by kernel_rfl) (by kernel_rfl) rfl ?_ <;> (refine rmove rfl ?_) <;> (refine rnilc rfl ?_) <;> (refine rfieldp rfl rfl rfl ?_) <;> (refine rloadp rfl rfl rfl rfl ?_) <;> (refine rmove rfl ?_) <;> (refine rnilc rfl ?_) <;> (refine rfieldp rfl rfl rfl ?_) <;> (refine rloadp rfl rfl rfl rfl ?_) <;> (refine rd_u rfl rfl (asidxn rfl rfl rfl (by omega)) ?_) <;> (refine rd_call rfl rfl (by first | ((repeat' first | exact SubL.nil | refine SubL.cons ?_ ?_ | exact Sub.refl); done) | fail) (by first | (simp [bdL, bdL_append, AV.bd]; done) | fail) (rletter17_fn _) ?_) <;> (refine rmove rfl ?_) <;> ((refine rd_split (t := 118) rfl (fun hc => ?_) (fun hc => ?_) <;> (try simp only [sB, ne_eq, reduceCtorEq] at hc) <;> (try (exfalso; omega)) <;> (first | refine rd_skip rfl rfl ?_ | refine gmove rfl rfl rfl ?_))) <;> (first | refine rd_skip rfl rfl ?_ | refine gmove rfl rfl rfl ?_) <;> (first | refine rd_skip rfl rfl ?_ | refine gnilc rfl rfl rfl ?_) <;> (first | refine rd_skip rfl rfl ?_ | refine gfieldp rfl rfl rfl rfl rfl ?_) <;> (first | refine rd_skip rfl rfl ?_ | refine gloadp rfl rfl rfl rfl rfl rfl ?_) <;> (first | refine rd_skip rfl rfl ?_ | refine rdg_u rfl rfl rfl rfl (alenstr rfl rfl) ?_) <;> (first | refine rd_skip rfl rfl ?_ | refine rdg_u rfl rfl rfl rfl (alss rfl rfl) ?_) <;> (first | refine rd_pick_t rfl rfl ?_ | refine rd_pick_f rfl rfl ?_) <;> (refine rmove rfl ?_) <;> (first | refine rd_skip rfl rfl ?_ | (refine rd_split (t := 127) rfl (fun hc => ?_) (fun hc => ?_) <;> (try simp only [sB, ne_eq, reduceCtorEq] at hc) <;> (try (exfalso; omega)) <;> (first | refine rd_skip rfl rfl ?_ | refine gmove rfl rfl rfl ?_))) <;> (first | refine rd_skip rfl rfl ?_ | refine gnilc rfl rfl rfl ?_) <;> (first | refine rd_skip rfl rfl ?_ | refine gfieldp rfl rfl rfl rfl rfl ?_) <;> (first | refine rd_skip rfl rfl ?_ | refine gloadp rfl rfl rfl rfl rfl rfl ?_) <;> (first | refine rd_skip rfl rfl ?_ | refine gmove rfl rfl rfl ?_) <;> (first | refine rd_skip rfl rfl ?_ | refine rdg_u rfl rfl rfl rfl (asidxn rfl rfl rfl (by omega)) ?_) <;> (first | refine rd_skip rfl rfl ?_ | refine rdg_call rfl rfl rfl rfl (by first | ((repeat' first | exact SubL.nil | refine SubL.cons ?_ ?_ | exact Sub.refl); done) | fail) (by first | (simp [bdL, bdL_append, AV.bd]; done) | fail) (rletter17_fn _) ?_) <;> (first | refine rd_skip rfl rfl ?_ | refine gmove rfl rfl rfl ?_) <;> (first | refine rd_skip2 rfl rfl ?_ | (refine rd_split (t := 135) rfl (fun hc => ?_) (fun hc => ?_) <;> (try simp only [sB, ne_eq, reduceCtorEq] at hc) <;> (try (exfalso; omega)) <;> (first | refine rd_skip rfl rfl ?_ | refine gmove rfl rfl rfl ?_))) <;> (first | refine rd_skip rfl rfl ?_ | refine rd_skip2 rfl rfl ?_ | refine gnilc rfl rfl rfl ?_) <;> (first | refine rd_skip rfl rfl ?_ | refine rd_skip2 rfl rfl ?_ | refine gfieldp rfl rfl rfl rfl rfl ?_) <;> (first | refine rd_skip rfl rfl ?_ | refine rd_skip2 rfl rfl ?_ | refine gloadp rfl rfl rfl rfl rfl rfl ?_) <;> (first | refine rd_skip rfl rfl ?_ | refine rd_skip2 rfl rfl ?_ | refine gmove rfl rfl rfl ?_) <;> (first | refine rd_skip rfl rfl ?_ | refine rd_skip2 rfl rfl ?_ | refine rdg_u rfl rfl rfl rfl (asidxn rfl rfl rfl (by omega)) ?_) <;> (first | refine rd_skip rfl rfl ?_ | refine rd_skip2 rfl rfl ?_ | refine rdg_call rfl rfl rfl rfl (by first | ((repeat' first | exact SubL.nil | refine SubL.cons ?_ ?_ | exact Sub.refl); done) | fail) (by first | (simp [bdL, bdL_append, AV.bd]; done) | fail) (rdigit17_fn _) ?_) <;> (first | refine rd_skip rfl rfl ?_ | refine rdg_pick_t rfl rfl rfl rfl ?_ | refine rdg_pick_f rfl rfl rfl rfl ?_) <;> (first | refine rd_skip rfl rfl ?_ | refine gmove rfl rfl rfl ?_) <;> (first | refine rd_skip rfl rfl ?_ | refine rd_skip2 rfl rfl ?_ | (refine rd_split (t := 144) rfl (fun hc => ?_) (fun hc => ?_) <;> (try simp only [sB, ne_eq, reduceCtorEq] at hc) <;> (try (exfalso; omega)) <;> (first | refine rd_skip rfl rfl ?_ | refine gmove rfl rfl rfl ?_))) <;> (first | refine rd_skip rfl rfl ?_ | refine rd_skip2 rfl rfl ?_ | refine gnilc rfl rfl rfl ?_) <;> (first | refine rd_skip rfl rfl ?_ | refine rd_skip2 rfl rfl ?_ | refine gfieldp rfl rfl rfl rfl rfl ?_) <;> (first | refine rd_skip rfl rfl ?_ | refine rd_skip2 rfl rfl ?_ | refine gloadp rfl rfl rfl rfl rfl rfl ?_) <;> (first | refine rd_skip rfl rfl ?_ | refine rd_skip2 rfl rfl ?_ | refine gmove rfl rfl rfl ?_) <;> (first | refine rd_skip rfl rfl ?_ | refine rd_skip2 rfl rfl ?_ | refine rdg_u rfl rfl rfl rfl (asidxn rfl rfl rfl (by omega)) ?_) <;> (first | refine rd_skip rfl rfl ?_ | refine rd_skip2 rfl rfl ?_ | refine rdg_u rfl rfl rfl rfl (aeql rfl rfl) ?_) <;> (first | refine rd_skip rfl rfl ?_ | refine rdg_pick_t rfl rfl rfl rfl ?_ | refine rdg_pick_f rfl rfl rfl rfl ?_) <;> (first | refine rd_pick_t rfl rfl ?_ | refine rd_pick_f rfl rfl ?_) <;> (refine rd_end (by kernel_rfl) ?_))))
          all_goals (first | (exfalso; simp_all; done) | skip)
          cases hDc : isD c with
          | true =>
            rw [hDc] at hDB
            have hsp : spanN digB s j = tokN (c :: r) := by
              rw [spanN_step hlt hDB, spanN_r hr]
              simp only [tokN, hLc, hDc, Bool.false_eq_true, if_false, if_true]
              rw [Nat.add_comm]
              rfl
            have hs1 := spanN_step (p := digB) hlt hDB
            have hle := spanN_le digB s j hj
            refine wp_loop (fun (e : Nat) => j + 1 ≤ e ∧ e ≤ s.size ∧ e + spanN digB s e = j + spanN digB s j) (fun e => s.size - e) (fun e => (S 195 [(0, .ptr 0 4 0 0), (2, intA (e : Nat))] 1 [(0, some (psR s j n b))])) (j + 1) ⟨[0], ToR.S rfl (by repeat' (first | exact rt_nil | refine rt_t rfl rfl ?_ | refine rt_e rfl rfl ?_)) (by repeat' (first | exact ro_nil | refine ro_e rfl rfl ?_)) rfl (by (rw [hm]; exact rfl)) rfl (by (simp [bdT, AV.bd, bdL, bdL_append]; done)) (by repeat' (first | exact True.intro | exact rfl | refine And.intro ?_ ?_)) (by (rw [hm]; exact Nat.le_of_ble_eq_true rfl))⟩ ⟨Nat.le_refl _, by omega, by omega⟩ ?_
            rintro e ⟨he1, he2, he3⟩
            unfold psR
            by_cases hel : e < s.size
            · cases hwe : digB (bAt s e) with
              | true =>
                have hst := spanN_step hel hwe
                have hnext : s.size - (e + 1) < s.size - e ∧ j + 1 ≤ e + 1 ∧ e + 1 ≤ s.size ∧ e + 1 + spanN digB s (e + 1) = j + spanN digB s j := ⟨by omega, by omega, by omega, by omega⟩
                (repeat' (first | apply jA | apply jF | apply jH | apply jI | apply jJ | apply jL | apply jN | apply jP | (refine wp_cond rfl (fun hc => ?_) (fun hc => ?_) <;> (try simp only [sB, ne_eq, reduceCtorEq] at hc) <;> (try (exfalso; omega))) | (refine wp_draw (id := 11) 28 mixed (by kernel_rfl) (by kernel_rfl) rfl ?_ <;> (refine rmove rfl ?_) <;> (refine rnilc rfl ?_) <;> (refine rfieldp rfl rfl rfl ?_) <;> (refine rloadp rfl rfl rfl rfl ?_) <;> (refine rmove rfl ?_) <;> (refine rnilc rfl ?_) <;> (refine rfieldp rfl rfl rfl ?_) <;> (refine rloadp rfl rfl rfl rfl ?_) <;> (refine rd_u rfl rfl (asidxn rfl rfl rfl (by omega)) ?_) <;> (refine rd_call rfl rfl (by first | ((repeat' first | exact SubL.nil | refine SubL.cons ?_ ?_ | exact Sub.refl); done) | fail) (by first | (simp [bdL, bdL_append, AV.bd]; done) | fail) (rdigit17_fn _) ?_) <;> (refine rmove rfl ?_) <;> ((refine rd_split (t := 166) rfl (fun hc => ?_) (fun hc => ?_) <;> (try simp only [sB, ne_eq, reduceCtorEq] at hc) <;> (try (exfalso; omega)) <;> (first | refine rd_skip rfl rfl ?_ | refine gmove rfl rfl rfl ?_))) <;> (first | refine rd_skip rfl rfl ?_ | refine gmove rfl rfl rfl ?_) <;> (first | refine rd_skip rfl rfl ?_ | refine gnilc rfl rfl rfl ?_) <;> (first | refine rd_skip rfl rfl ?_ | refine gfieldp rfl rfl rfl rfl rfl ?_) <;> (first | refine rd_skip rfl rfl ?_ | refine gloadp rfl rfl rfl rfl rfl rfl ?_) <;> (first | refine rd_skip rfl rfl ?_ | refine rdg_u rfl rfl rfl rfl (alenstr rfl rfl) ?_) <;> (first | refine rd_skip rfl rfl ?_ | refine rdg_u rfl rfl rfl rfl (alss rfl rfl) ?_) <;> (first | refine rd_pick_t rfl rfl ?_ | refine rd_pick_f rfl rfl ?_) <;> (refine rmove rfl ?_) <;> (first | refine rd_skip rfl rfl ?_ | (refine rd_split (t := 175) rfl (fun hc => ?_) (fun hc => ?_) <;> (try simp only [sB, ne_eq, reduceCtorEq] at hc) <;> (try (exfalso; omega)) <;> (refine gmove rfl rfl rfl ?_))) <;> (first | refine rd_skip rfl rfl ?_ | refine gnilc rfl rfl rfl ?_) <;> (first | refine rd_skip rfl rfl ?_ | refine gfieldp rfl rfl rfl rfl rfl ?_) <;> (first | refine rd_skip rfl rfl ?_ | refine gloadp rfl rfl rfl rfl rfl rfl ?_) <;> (first | refine rd_skip rfl rfl ?_ | refine gmove rfl rfl rfl ?_) <;> (first | refine rd_skip rfl rfl ?_ | refine rdg_u rfl rfl rfl rfl (asidxn rfl rfl rfl (by omega)) ?_) <;> (first | refine rd_skip rfl rfl ?_ | refine rdg_call rfl rfl rfl rfl (by first | ((repeat' first | exact SubL.nil | refine SubL.cons ?_ ?_ | exact Sub.refl); done) | fail) (by first | (simp [bdL, bdL_append, AV.bd]; done) | fail) (rdigit17_fn _) ?_) <;> (first | refine rd_pick_t rfl rfl ?_ | refine rd_pick_f rfl rfl ?_) <;> (refine rd_end (by kernel_rfl) ?_)) | (refine WP.regionC (id := 12) ?_; (refine smove rfl ?_); (refine sadd rfl rfl (by exact inr_i64_of (by omega)) ?_); (refine sassign rfl ?_); apply jW)))
                all_goals (first | exact ⟨e + 1, hnext, ⟨[0], ToR.S rfl (by repeat' (first | exact rt_nil | refine rt_t rfl rfl ?_ | refine rt_e rfl rfl ?_)) (by repeat' (first | exact ro_nil | refine ro_e rfl rfl ?_)) rfl (by (rw [hm]; exact rfl)) rfl (by (simp [bdT, AV.bd, bdL, bdL_append]; done)) (by repeat' (first | exact True.intro | exact rfl | refine And.intro ?_ ?_)) (by (rw [hm]; exact Nat.le_of_ble_eq_true rfl))⟩⟩ | (exfalso; simp_all [wB]; done))
              | false =>
                have hst := spanN_stop (p := digB) (s := s) (k := e) fun _ => hwe
                have heq : e = j + tokN (c :: r) := by omega
                (repeat' (first | apply jA | apply jF | apply jH | apply jI | apply jJ | apply jL | apply jP | apply jR | (refine wp_cond rfl (fun hc => ?_) (fun hc => ?_) <;> (try simp only [sB, ne_eq, reduceCtorEq] at hc) <;> (try (exfalso; omega))) | (refine wp_draw (id := 11) 28 mixed (by kernel_rfl) (by kernel_rfl) rfl ?_ <;> (refine rmove rfl ?_) <;> (refine rnilc rfl ?_) <;> (refine rfieldp rfl rfl rfl ?_) <;> (refine rloadp rfl rfl rfl rfl ?_) <;> (refine rmove rfl ?_) <;> (refine rnilc rfl ?_) <;> (refine rfieldp rfl rfl rfl ?_) <;> (refine rloadp rfl rfl rfl rfl ?_) <;> (refine rd_u rfl rfl (asidxn rfl rfl rfl (by omega)) ?_) <;> (refine rd_call rfl rfl (by first | ((repeat' first | exact SubL.nil | refine SubL.cons ?_ ?_ | exact Sub.refl); done) | fail) (by first | (simp [bdL, bdL_append, AV.bd]; done) | fail) (rdigit17_fn _) ?_) <;> (refine rmove rfl ?_) <;> ((refine rd_split (t := 166) rfl (fun hc => ?_) (fun hc => ?_) <;> (try simp only [sB, ne_eq, reduceCtorEq] at hc) <;> (try (exfalso; omega)) <;> (first | refine rd_skip rfl rfl ?_ | refine gmove rfl rfl rfl ?_))) <;> (first | refine rd_skip rfl rfl ?_ | refine gmove rfl rfl rfl ?_) <;> (first | refine rd_skip rfl rfl ?_ | refine gnilc rfl rfl rfl ?_) <;> (first | refine rd_skip rfl rfl ?_ | refine gfieldp rfl rfl rfl rfl rfl ?_) <;> (first | refine rd_skip rfl rfl ?_ | refine gloadp rfl rfl rfl rfl rfl rfl ?_) <;> (first | refine rd_skip rfl rfl ?_ | refine rdg_u rfl rfl rfl rfl (alenstr rfl rfl) ?_) <;> (first | refine rd_skip rfl rfl ?_ | refine rdg_u rfl rfl rfl rfl (alss rfl rfl) ?_) <;> (first | refine rd_pick_t rfl rfl ?_ | refine rd_pick_f rfl rfl ?_) <;> (refine rmove rfl ?_) <;> (first | refine rd_skip rfl rfl ?_ | (refine rd_split (t := 175) rfl (fun hc => ?_) (fun hc => ?_) <;> (try simp only [sB, ne_eq, reduceCtorEq] at hc) <;> (try (exfalso; omega)) <;> (refine gmove rfl rfl rfl ?_))) <;> (first | refine rd_skip rfl rfl ?_ | refine gnilc rfl rfl rfl ?_) <;> (first | refine rd_skip rfl rfl ?_ | refine gfieldp rfl rfl rfl rfl rfl ?_) <;> (first | refine rd_skip rfl rfl ?_ | refine gloadp rfl rfl rfl rfl rfl rfl ?_) <;> (first | refine rd_skip rfl rfl ?_ | refine gmove rfl rfl rfl ?_) <;> (first | refine rd_skip rfl rfl ?_ | refine rdg_u rfl rfl rfl rfl (asidxn rfl rfl rfl (by omega)) ?_) <;> (first | refine rd_skip rfl rfl ?_ | refine rdg_call rfl rfl rfl rfl (by first | ((repeat' first | exact SubL.nil | refine SubL.cons ?_ ?_ | exact Sub.refl); done) | fail) (by first | (simp [bdL, bdL_append, AV.bd]; done) | fail) (rdigit17_fn _) ?_) <;> (first | refine rd_pick_t rfl rfl ?_ | refine rd_pick_f rfl rfl ?_) <;> (refine rd_end (by kernel_rfl) ?_)) | (refine WP.regionC (id := 13) ?_; (refine smove rfl ?_); (refine smove rfl ?_); (refine smove rfl ?_); (refine snilc rfl ?_); (refine sfieldp rfl rfl rfl ?_); (refine sloadp rfl rfl rfl rfl ?_); (refine su (asub rfl rfl (by exact inr_i64_of (by omega))) ?_); (refine snilc rfl ?_); (refine sfieldp rfl rfl rfl ?_); (refine se_store_b rfl rfl rfl rfl ?_); apply jW)))
                all_goals (first | (exfalso; simp_all [wB]; done) | skip)
                rw [hzz _ heq, hAj, hNj]
                refine retO_L (x := .tup []) (k := 1) (os1 := [(0, some (psR s j (tokN (c :: r)) b))]) .nil rfl ⟨[0], ToR.S rfl (by repeat' (first | exact rt_nil | refine rt_e rfl rfl ?_)) (by repeat' (first | exact ro_nil | refine ro_e rfl rfl ?_)) rfl rfl rfl (by (simp [bdT, AV.bd, bdL, bdL_append]; done)) (by repeat' (first | exact True.intro | exact rfl | refine And.intro ?_ ?_)) (by exact Nat.le_of_ble_eq_true rfl)⟩ rfl
            · have hst := spanN_stop (p := digB) (s := s) (k := e) fun q => absurd q hel
              have heq : e = j + tokN (c :: r) := by omega
              (repeat' (first | apply jA | apply jH | apply jJ | apply jL | apply jP | apply jR | (refine wp_cond rfl (fun hc => ?_) (fun hc => ?_) <;> (try simp only [sB, ne_eq, reduceCtorEq] at hc) <;> (try (exfalso; omega))) | (refine wp_draw (id := 11) 28 mixed (by kernel_rfl) (by kernel_rfl) rfl ?_ <;> (refine rmove rfl ?_) <;> (refine rnilc rfl ?_) <;> (refine rfieldp rfl rfl rfl ?_) <;> (refine rloadp rfl rfl rfl rfl ?_) <;> (refine rmove rfl ?_) <;> (refine rnilc rfl ?_) <;> (refine rfieldp rfl rfl rfl ?_) <;> (refine rloadp rfl rfl rfl rfl ?_) <;> (refine rd_u rfl rfl (asidxn rfl rfl rfl (by omega)) ?_) <;> (refine rd_call rfl rfl (by first | ((repeat' first | exact SubL.nil | refine SubL.cons ?_ ?_ | exact Sub.refl); done) | fail) (by first | (simp [bdL, bdL_append, AV.bd]; done) | fail) (rdigit17_fn _) ?_) <;> (refine rmove rfl ?_) <;> ((refine rd_split (t := 166) rfl (fun hc => ?_) (fun hc => ?_) <;> (try simp only [sB, ne_eq, reduceCtorEq] at hc) <;> (try (exfalso; omega)) <;> (first | refine rd_skip rfl rfl ?_ | refine gmove rfl rfl rfl ?_))) <;> (first | refine rd_skip rfl rfl ?_ | refine gmove rfl rfl rfl ?_) <;> (first | refine rd_skip rfl rfl ?_ | refine gnilc rfl rfl rfl ?_) <;> (first | refine rd_skip rfl rfl ?_ | refine gfieldp rfl rfl rfl rfl rfl ?_) <;> (first | refine rd_skip rfl rfl ?_ | refine gloadp rfl rfl rfl rfl rfl rfl ?_) <;> (first | refine rd_skip rfl rfl ?_ | refine rdg_u rfl rfl rfl rfl (alenstr rfl rfl) ?_) <;> (first | refine rd_skip rfl rfl ?_ | refine rdg_u rfl rfl rfl rfl (alss rfl rfl) ?_) <;> (first | refine rd_pick_t rfl rfl ?_ | refine rd_pick_f rfl rfl ?_) <;> (refine rmove rfl ?_) <;> (first | refine rd_skip rfl rfl ?_ | (refine rd_split (t := 175) rfl (fun hc => ?_) (fun hc => ?_) <;> (try simp only [sB, ne_eq, reduceCtorEq] at hc) <;> (try (exfalso; omega)) <;> (refine rd_skip rfl rfl ?_))) <;> (refine rd_skip rfl rfl ?_) <;> (refine rd_skip rfl rfl ?_) <;> (refine rd_skip rfl rfl ?_) <;> (refine rd_skip rfl rfl ?_) <;> (refine rd_skip rfl rfl ?_) <;> (refine rd_skip rfl rfl ?_) <;> (refine rd_pick_f rfl rfl ?_) <;> (refine rd_end (by kernel_rfl) ?_)) | (refine WP.regionC (id := 13) ?_; (refine smove rfl ?_); (refine smove rfl ?_); (refine smove rfl ?_); (refine snilc rfl ?_); (refine sfieldp rfl rfl rfl ?_); (refine sloadp rfl rfl rfl rfl ?_); (refine su (asub rfl rfl (by exact inr_i64_of (by omega))) ?_); (refine snilc rfl ?_); (refine sfieldp rfl rfl rfl ?_); (refine se_store_b rfl rfl rfl rfl ?_); apply jW)))
              all_goals (first | (exfalso; simp_all [wB]; done) | skip)
              rw [hzz _ heq, hAj, hNj]
              refine retO_L (x := .tup []) (k := 1) (os1 := [(0, some (psR s j (tokN (c :: r)) b))]) .nil rfl ⟨[0], ToR.S rfl (by repeat' (first | exact rt_nil | refine rt_e rfl rfl ?_)) (by repeat' (first | exact ro_nil | refine ro_e rfl rfl ?_)) rfl rfl rfl (by (simp [bdT, AV.bd, bdL, bdL_append]; done)) (by repeat' (first | exact True.intro | exact rfl | refine And.intro ?_ ?_)) (by exact Nat.le_of_ble_eq_true rfl)⟩ rfl
          | false =>
            rw [hDc] at hDB
            have hsp : tokN (c :: r) = 1 := by simp only [tokN, hLc, hDc, Bool.false_eq_true, if_false]
            obtain ⟨e, he⟩ : ∃ e, e = j + 1 := ⟨_, rfl⟩
            have heq : e = j + tokN (c :: r) := by omega
            rw [← he]
            refine wp_loop (fun (e' : Nat) => e' = e) (fun _ => 0) (fun e' => (S 195 [(0, .ptr 0 4 0 0), (2, intA (e' : Nat))] 1 [(0, some (psR s j n b))])) e ⟨[0], ToR.S rfl (by repeat' (first | exact rt_nil | refine rt_t rfl rfl ?_ | refine rt_e rfl rfl ?_)) (by repeat' (first | exact ro_nil | refine ro_e rfl rfl ?_)) rfl (by (rw [hm]; exact rfl)) rfl (by (simp [bdT, AV.bd, bdL, bdL_append]; done)) (by repeat' (first | exact True.intro | exact rfl | refine And.intro ?_ ?_)) (by (rw [hm]; exact Nat.le_of_ble_eq_true rfl))⟩ rfl ?_
            rintro e' rfl
            unfold psR
            (repeat' (first | apply jA | apply jF | apply jH | apply jI | apply jJ | apply jL | apply jP | apply jR | (refine wp_cond rfl (fun hc => ?_) (fun hc => ?_) <;> (try simp only [sB, ne_eq, reduceCtorEq] at hc) <;> (try (exfalso; omega))) | (refine wp_draw (id := 11) 28 mixed (by kernel_rfl) (by kernel_rfl) rfl ?_ <;> (refine rmove rfl ?_) <;> (refine rnilc rfl ?_) <;> (refine rfieldp rfl rfl rfl ?_) <;> (refine rloadp rfl rfl rfl rfl ?_) <;> (refine rmove rfl ?_) <;> (refine rnilc rfl ?_) <;> (refine rfieldp rfl rfl rfl ?_) <;> (refine rloadp rfl rfl rfl rfl ?_) <;> (refine rd_u rfl rfl (asidxn rfl rfl rfl (by omega)) ?_) <;> (refine rd_call rfl rfl (by first | ((repeat' first | exact SubL.nil | refine SubL.cons ?_ ?_ | exact Sub.refl); done) | fail) (by first | (simp [bdL, bdL_append, AV.bd]; done) | fail) (rdigit17_fn _) ?_) <;> (refine rmove rfl ?_) <;> ((refine rd_split (t := 166) rfl (fun hc => ?_) (fun hc => ?_) <;> (try simp only [sB, ne_eq, reduceCtorEq] at hc) <;> (try (exfalso; omega)) <;> (first | refine rd_skip rfl rfl ?_ | refine gmove rfl rfl rfl ?_))) <;> (first | refine rd_skip rfl rfl ?_ | refine gmove rfl rfl rfl ?_) <;> (first | refine rd_skip rfl rfl ?_ | refine gnilc rfl rfl rfl ?_) <;> (first | refine rd_skip rfl rfl ?_ | refine gfieldp rfl rfl rfl rfl rfl ?_) <;> (first | refine rd_skip rfl rfl ?_ | refine gloadp rfl rfl rfl rfl rfl rfl ?_) <;> (first | refine rd_skip rfl rfl ?_ | refine rdg_u rfl rfl rfl rfl (alenstr rfl rfl) ?_) <;> (first | refine rd_skip rfl rfl ?_ | refine rdg_u rfl rfl rfl rfl (alss rfl rfl) ?_) <;> (first | refine rd_pick_t rfl rfl ?_ | refine rd_pick_f rfl rfl ?_) <;> (refine rmove rfl ?_) <;> (first | refine rd_skip rfl rfl ?_ | (refine rd_split (t := 175) rfl (fun hc => ?_) (fun hc => ?_) <;> (try simp only [sB, ne_eq, reduceCtorEq] at hc) <;> (try (exfalso; omega)) <;> (first | refine rd_skip rfl rfl ?_ | refine gmove rfl rfl rfl ?_))) <;> (first | refine rd_skip rfl rfl ?_ | refine gnilc rfl rfl rfl ?_) <;> (first | refine rd_skip rfl rfl ?_ | refine gfieldp rfl rfl rfl rfl rfl ?_) <;> (first | refine rd_skip rfl rfl ?_ | refine gloadp rfl rfl rfl rfl rfl rfl ?_) <;> (first | refine rd_skip rfl rfl ?_ | refine gmove rfl rfl rfl ?_) <;> (first | refine rd_skip rfl rfl ?_ | refine rdg_u rfl rfl rfl rfl (asidxn rfl rfl rfl (by omega)) ?_) <;> (first | refine rd_skip rfl rfl ?_ | refine rdg_call rfl rfl rfl rfl (by first | ((repeat' first | exact SubL.nil | refine SubL.cons ?_ ?_ | exact Sub.refl); done) | fail) (by first | (simp [bdL, bdL_append, AV.bd]; done) | fail) (rdigit17_fn _) ?_) <;> (first | refine rd_pick_t rfl rfl ?_ | refine rd_pick_f rfl rfl ?_) <;> (refine rd_end (by kernel_rfl) ?_)) | (refine WP.regionC (id := 13) ?_; (refine smove rfl ?_); (refine smove rfl ?_); (refine smove rfl ?_); (refine snilc rfl ?_); (refine sfieldp rfl rfl rfl ?_); (refine sloadp rfl rfl rfl rfl ?_); (refine su (asub rfl rfl (by exact inr_i64_of (by omega))) ?_); (refine snilc rfl ?_); (refine sfieldp rfl rfl rfl ?_); (refine se_store_b rfl rfl rfl rfl ?_); apply jW)))
            all_goals (first | (exfalso; simp_all; done) | skip)
            rw [hzz _ heq, hAj, hNj]
            refine retO_L (x := .tup []) (k := 1) (os1 := [(0, some (psR s j (tokN (c :: r)) b))]) .nil rfl ⟨[0], ToR.S rfl (by repeat' (first | exact rt_nil | refine rt_e rfl rfl ?_)) (by repeat' (first | exact ro_nil | refine ro_e rfl rfl ?_)) rfl rfl rfl (by (simp [bdT, AV.bd, bdL, bdL_append]; done)) (by repeat' (first | exact True.intro | exact rfl | refine And.intro ?_ ?_)) (by exact Nat.le_of_ble_eq_true rfl)⟩ rfl
  · have hnil : (bl s).drop j = [] := List.drop_eq_nil_of_le (by rw [bl_len]; omega)
    rw [hnil, lexL_nil] at hjj
    have hAj : A = j := by rw [← hA]; unfold nxA; rw [← hjj]; simp only; omega
    have hNj : N = 0 := by rw [← hN]; unfold nxN; rw [← hjj]
    have hzz : ((j : Int) - (j : Int)) = ((0 : Nat) : Int) := by omega
    (repeat' (first | apply jA | apply jH | apply jI | apply jJ | apply jL | apply jP | apply jR | (refine wp_cond rfl (fun hc => ?_) (fun hc => ?_) <;> (try simp only [sB, ne_eq, reduceCtorEq] at hc) <;> (try (exfalso; omega))) | (refine wp_draw (id := 1) 34 mixed (by kernel_rfl) (by kernel_rfl) rfl ?_ <;> (refine rmove rfl ?_) <;> (refine rnilc rfl ?_) <;> (refine rfieldp rfl rfl rfl ?_) <;> (refine rloadp rfl rfl rfl rfl ?_) <;> (refine rmove rfl ?_) <;> (refine rnilc rfl ?_) <;> (refine rfieldp rfl rfl rfl ?_) <;> (refine rloadp rfl rfl rfl rfl ?_) <;> (refine rd_u rfl rfl (alenstr rfl rfl) ?_) <;> (refine rd_u rfl rfl (alss rfl rfl) ?_) <;> (refine rmove rfl ?_) <;> ((refine rd_split (t := 25) rfl (fun hc => ?_) (fun hc => ?_) <;> (try simp only [sB, ne_eq, reduceCtorEq] at hc) <;> (try (exfalso; omega)) <;> (refine rd_skip rfl rfl ?_))) <;> (refine rd_skip rfl rfl ?_) <;> (refine rd_skip rfl rfl ?_) <;> (refine rd_skip rfl rfl ?_) <;> (refine rd_skip rfl rfl ?_) <;> (refine rd_skip rfl rfl ?_) <;> (refine rd_skip rfl rfl ?_) <;> (refine rd_skip rfl rfl ?_) <;> (refine rd_skip rfl rfl ?_) <;> (refine rd_skip rfl rfl ?_) <;> (refine rd_skip rfl rfl ?_) <;> (refine rd_skip2 rfl rfl ?_) <;> (refine rd_skip2 rfl rfl ?_) <;> (refine rd_skip2 rfl rfl ?_) <;> (refine rd_skip2 rfl rfl ?_) <;> (refine rd_skip2 rfl rfl ?_) <;> (refine rd_skip2 rfl rfl ?_) <;> (refine rd_skip2 rfl rfl ?_) <;> (refine rd_skip2 rfl rfl ?_) <;> (refine rd_skip2 rfl rfl ?_) <;> (refine rd_skip2 rfl rfl ?_) <;> (refine rd_skip rfl rfl ?_) <;> (refine rd_pick_f rfl rfl ?_) <;> (refine rd_end (by kernel_rfl) ?_)) | (refine WP.regionC (id := 6) ?_; (refine smove rfl ?_); (refine snilc rfl ?_); (refine sfieldp rfl rfl rfl ?_); (refine sloadp rfl rfl rfl rfl ?_); (refine sassign rfl ?_); apply jW) | (refine WP.regionC (id := 7) ?_; (refine smove rfl ?_); (refine smove rfl ?_); (refine snilc rfl ?_); (refine sfieldp rfl rfl rfl ?_); (refine sloadp rfl rfl rfl rfl ?_); (refine su (alenstr rfl rfl) ?_); (refine slss rfl rfl ?_); apply jW) | (refine WP.regionC (id := 13) ?_; (refine smove rfl ?_); (refine smove rfl ?_); (refine smove rfl ?_); (refine snilc rfl ?_); (refine sfieldp rfl rfl rfl ?_); (refine sloadp rfl rfl rfl rfl ?_); (refine su (asub rfl rfl (by exact inr_i64_of (by omega))) ?_); (refine snilc rfl ?_); (refine sfieldp rfl rfl rfl ?_); (refine se_store_b rfl rfl rfl rfl ?_); apply jW)))
    all_goals (skip)
    rw [hzz, hAj, hNj]
    refine retO_L (x := .tup []) (k := 1) (os1 := [(0, some (psR s j 0 b))]) .nil rfl ⟨[0], ToR.S rfl (by repeat' (first | exact rt_nil | refine rt_e rfl rfl ?_)) (by repeat' (first | exact ro_nil | refine ro_e rfl rfl ?_)) rfl rfl rfl (by (simp [bdT, AV.bd, bdL, bdL_append]; done)) (by repeat' (first | exact True.intro | exact rfl | refine And.intro ?_ ?_)) (by exact Nat.le_of_ble_eq_true rfl)⟩ rfl
end Go.Lg

namespace Go.Lg
open Go.Proofs
set_option linter.unusedSimpArgs false
set_option linter.unusedVariables false
attribute [local irreducible] Ap Rq asemC WP RunD Ret Gq thenA inBlockA bodyQ noGotoA RqL RqP OpP
set_option maxHeartbeats 8000000
set_option maxRecDepth 20000
structure At (s : ByteArray) (l : List (Nat × Tx)) : Prop where
  sz : s.size ≤ 100000
  at_ : ∃ k, k ≤ s.size ∧ l = lexL ((bl s).drop k) k
theorem lexL_cons_at (s : ByteArray) (n : Nat) : ∀ k, k ≤ s.size → s.size - k ≤ n → ∀ p l, lexL ((bl s).drop k) k = p :: l → p.1 + p.2.length ≤ s.size ∧ s.extract p.1 (p.1 + p.2.length) = tx p.2 ∧ l = lexL ((bl s).drop (p.1 + p.2.length)) (p.1 + p.2.length) ∧ p.2 ≠ [] ∧ k ≤ p.1 := by
  induction n with
  | zero =>
    intro k hk hn p l h
    rw [List.drop_eq_nil_of_le (by rw [bl_len]; omega), lexL_nil] at h
    cases h
  | succ n ih =>
    intro k hk hn p l h
    by_cases hlt : k < s.size
    · obtain ⟨c, r, hd, hb, hr⟩ := bat_cons hlt
      rw [hd, lexL_cons] at h
      split at h
      · rw [hr] at h
        have := ih (k + 1) (by omega) (by omega) p l h
        exact ⟨this.1, this.2.1, this.2.2.1, this.2.2.2.1, by omega⟩
      · split at h
        · have hdr : r.drop (comN r) = (bl s).drop (k + 1 + comN r) := by rw [hr, List.drop_drop]
          have hcl := comN_le r
          have hrl : r.length = s.size - (k + 1) := by rw [hr, List.length_drop, bl_len]
          rw [hdr] at h
          have := ih (k + 1 + comN r) (by omega) (by omega) p l h
          exact ⟨this.1, this.2.1, this.2.2.1, this.2.2.2.1, by omega⟩
        · injection h with h1 h2
          subst h1 h2
          have htl : ((c :: r).take (tokN (c :: r))).length = tokN (c :: r) := by rw [List.length_take]; have := tokN_le (c :: r); omega
          have hle := tokN_le (c :: r)
          have hcl : (c :: r).length = s.size - k := by rw [← hd, List.length_drop, bl_len]
          have htp := tokN_pos c r
          refine ⟨by simp only; omega, ?_, ?_, ?_, Nat.le_refl _⟩
          · simp only
            rw [extract_tx, hd, htl, show k + tokN (c :: r) - k = tokN (c :: r) by omega]
          · simp only
            rw [htl, drop_add hd]
          · intro e
            have := congrArg List.length e
            simp only at this
            rw [htl] at this
            simp at this
            omega
    · rw [List.drop_eq_nil_of_le (by rw [bl_len]; omega), lexL_nil] at h
      cases h
theorem At.cons {s : ByteArray} {p : Nat × Tx} {l : List (Nat × Tx)} (h : At s (p :: l)) : p.1 + p.2.length ≤ s.size ∧ s.extract p.1 (p.1 + p.2.length) = tx p.2 ∧ l = lexL ((bl s).drop (p.1 + p.2.length)) (p.1 + p.2.length) ∧ p.2 ≠ [] := by
  obtain ⟨_, k, hk, he⟩ := h
  have := lexL_cons_at s _ k hk (Nat.le_refl _) p l he.symm
  exact ⟨this.1, this.2.1, this.2.2.1, this.2.2.2.1⟩
theorem At.tail {s : ByteArray} {p : Nat × Tx} {l : List (Nat × Tx)} (h : At s (p :: l)) : At s l := ⟨h.sz, _, h.cons.1, h.cons.2.2.1⟩
theorem At.suf {s : ByteArray} : ∀ {l l' : List (Nat × Tx)}, At s l → l' <:+ l → At s l'
  | [], l', h, hs => by rw [List.suffix_nil.1 hs]; exact h
  | p :: l, l', h, hs => by
    rcases List.suffix_cons_iff.1 hs with rfl | hs
    · exact h
    · exact At.suf h.tail hs
def posN (s : ByteArray) (l : List (Nat × Tx)) : Nat := match l with
  | [] => s.size
  | p :: _ => p.1
def psA (s : ByteArray) (l : List (Nat × Tx)) (b : Bool) : AObj := psR s (posN s l) ((hdT l).length) b
theorem At.text {s : ByteArray} {l : List (Nat × Tx)} (h : At s l) : posN s l + (hdT l).length ≤ s.size ∧ s.extract (posN s l) (posN s l + (hdT l).length) = tx (hdT l) := by
  cases l with
  | nil =>
    refine ⟨Nat.le_refl _, ?_⟩
    rw [extract_tx]
    simp [posN, hdT, hd]
  | cons p l => exact ⟨h.cons.1, h.cons.2.1⟩
theorem txt17 {s : ByteArray} {l : List (Nat × Tx)} (h : At s l) (b : Bool) : FnO Try.prog 34 [.ptr 0 4 0 0] [psA s l b] (strA (tx (hdT l))) [some (psA s l b)] := by
  rw [← h.text.2]
  exact text17_fn s h.sz _ _ h.text.1 b
theorem adv17 {s : ByteArray} {p : Nat × Tx} {l : List (Nat × Tx)} (h : At s (p :: l)) (b : Bool) : FnO Try.prog 25 [.ptr 0 4 0 0] [psA s (p :: l) b] (.tup []) [some (psA s l b)] := by
  have h1 := advance_fn s h.sz p.1 p.2.length h.cons.1 b
  have e1 : nxA s (p.1 + p.2.length) = posN s l := by unfold nxA; rw [← h.cons.2.2.1]; cases l <;> rfl
  have e2 : nxN s (p.1 + p.2.length) = (hdT l).length := by unfold nxN; rw [← h.cons.2.2.1]; cases l <;> rfl
  rw [e1, e2] at h1
  exact h1
theorem tx_nil : tx [] = (⟨#[]⟩ : ByteArray) := rfl
attribute [local simp] tx_nil
def Out17 {α : Type} (b : Bool) (p : PR α) (l l2 : List (Nat × Tx)) (y : α) (b2 : Bool) : Prop := l2 <:+ l ∧ (b = true → b2 = true ∧ l2 = l) ∧ (b = false → b2 = false → p = .ok y (l2.map (·.2))) ∧ (b = false → b2 = true → p = .err (l2.map (·.2)))
end Go.Lg

namespace Go.Lg
open Go.Proofs
set_option linter.unusedSimpArgs false
set_option linter.unusedVariables false
attribute [local irreducible] Ap Rq asemC WP RunD Ret Gq thenA inBlockA bodyQ noGotoA RqL RqP OpP
set_option maxHeartbeats 8000000
set_option maxRecDepth 20000
attribute [local simp] psA psR
end Go.Lg

namespace Go.Lg
open Go.Proofs
set_option linter.unusedSimpArgs false
set_option linter.unusedVariables false
attribute [local irreducible] Ap Rq asemC WP RunD Ret Gq thenA inBlockA bodyQ noGotoA RqL RqP OpP
set_option maxHeartbeats 8000000
set_option maxRecDepth 20000
attribute [local simp] psA psR AV.cells
end Go.Lg

namespace Go.Lg
open Go.Proofs
set_option linter.unusedSimpArgs false
set_option linter.unusedVariables false
attribute [local irreducible] Ap Rq asemC WP RunD Ret Gq thenA inBlockA bodyQ noGotoA RqL RqP OpP
set_option maxHeartbeats 8000000
set_option maxRecDepth 20000
attribute [local simp] psA psR
end Go.Lg

namespace Go.Lg
open Go.Proofs
set_option linter.unusedSimpArgs false
set_option linter.unusedVariables false
attribute [local irreducible] Ap Rq asemC WP RunD Ret Gq thenA inBlockA bodyQ noGotoA RqL RqP OpP
set_option maxHeartbeats 8000000
set_option maxRecDepth 20000
attribute [local simp] psA psR tx_nil
def pNum (l : List Tx) : PR Int := match l with
  | [] => .err []
  | t :: r => if isNum t then .ok (numV t) r else .err (t :: r)
end Go.Lg

namespace Go.Lg
open Go.Proofs
set_option linter.unusedSimpArgs false
set_option linter.unusedVariables false
attribute [local irreducible] Ap Rq asemC WP RunD Ret Gq thenA inBlockA bodyQ noGotoA RqL RqP OpP
set_option maxHeartbeats 8000000
set_option maxRecDepth 20000
attribute [local simp] psA psR tx_nil
theorem flag {b b0 : Bool} (h : b = true → b0 = true) (h0 : b0 = false) : b = false := by
  cases b with
  | false => rfl
  | true => rw [h rfl] at h0; cases h0
end Go.Lg

namespace Go.Lg
open Go.Proofs
set_option linter.unusedSimpArgs false
set_option linter.unusedVariables false
attribute [local irreducible] Ap Rq asemC WP RunD Ret Gq thenA inBlockA bodyQ noGotoA RqL RqP OpP
set_option maxHeartbeats 8000000
set_option maxRecDepth 20000
attribute [local simp] psA psR tx_nil
def PR.bind {α β : Type} (p : PR α) (k : α → List Tx → PR β) : PR β := match p with
  | .err q => .err q
  | .ok x r => k x r
theorem Out17.bind {α β : Type} {b b0 b1 : Bool} {p : PR α} {k : α → List Tx → PR β} {l l0 l1 : List (Nat × Tx)} {x : α} {y : β} (h1 : Out17 b p l l0 x b0) (h2 : Out17 b0 (k x (l0.map (·.2))) l0 l1 y b1) : Out17 b (p.bind k) l l1 y b1 := by
  obtain ⟨a1, a2, a3, a4⟩ := h1
  obtain ⟨c1, c2, c3, c4⟩ := h2
  refine ⟨c1.trans a1, fun hb => ?_, fun hb hb1 => ?_, fun hb hb1 => ?_⟩
  · obtain ⟨e1, e2⟩ := a2 hb
    obtain ⟨e3, e4⟩ := c2 e1
    exact ⟨e3, e4.trans e2⟩
  · have h0 : b0 = false := flag (fun q => (c2 q).1) hb1
    rw [a3 hb h0]
    exact c3 h0 hb1
  · cases b0 with
    | true =>
      rw [a4 hb rfl, (c2 rfl).2]
      rfl
    | false =>
      rw [a3 hb rfl]
      exact c4 rfl hb1
theorem Out17.pure {α : Type} (b : Bool) (l : List (Nat × Tx)) (y : α) : Out17 b (.ok y (l.map (·.2))) l l y b := ⟨List.suffix_refl _, fun h => ⟨h, rfl⟩, fun _ _ => rfl, fun h h1 => by rw [h] at h1; cases h1⟩
end Go.Lg

namespace Go.Lg
open Go.Proofs
set_option linter.unusedSimpArgs false
set_option linter.unusedVariables false
attribute [local irreducible] Ap Rq asemC WP RunD Ret Gq thenA inBlockA bodyQ noGotoA RqL RqP OpP
set_option maxHeartbeats 8000000
set_option maxRecDepth 20000
attribute [local simp] psA psR tx_nil
end Go.Lg
