/-
  Part 15 of the proof of GrammarparserWhiteSpace: the logic over the model, the functions' contracts and the plain laws.
-/
import Derived.Test.YtpemjdkcabefnaaKw14
import Derived.Recover
import Derived.WalkKit

set_option linter.unusedSimpArgs false
set_option linter.unusedVariables false
set_option linter.unusedSectionVars false

namespace Go.Lg
open Go.RowKit
set_option linter.unusedVariables false
def DefD (P : Program) (g : FuncId) (ys : List AV) (os : List AObj) (u : FrameMode) (os' : List AObj) : Prop :=
  enterable P g = true ∧ os.length = os'.length ∧ ∀ (Γ : Cx) (vs : Array Value), Γ.m = os.length → Γ.ds = [] → SR Γ ⟨ys, os.map some⟩ ⟨vs, []⟩ Γ.w0 →
    CallsD P g vs u Γ.w0 fun e u' w' => (∃ v, e = .returned v) ∧ settle u' = .returning ∧ SR Γ ⟨[.tup []], os'.map some⟩ ⟨#[.tuple #[]], []⟩ w'
section
variable {P : Program} {Γ : Cx} {A : Nat → Prop} {ρ : Nat → Option Nat} {s : St} {a : Act} {w : World} {n M : Nat} {l : List (Nat × AV)} {os : List (Nat × Option AObj)} {c : Code} {Q : Exit → St → Prop} {g : FuncId} {ys : List AV}
theorem SRa.boxes (h : SRa Γ A ρ s a w) (hm0 : Γ.m = 0) (hds : Γ.ds = []) (m : Nat) (hl : ∀ i, i < m → ∃ o, s.live i o) (d : Deferred) :
    ∃ Γ' : Cx, Γ'.m = m ∧ Γ'.ds = [d] ∧ Γ'.ρ0 = ρ ∧ SRa Γ' A ρ s { a with defers := [d] } w ∧ ∀ s a w, SR Γ' s a w → SR Γ s { a with defers := [] } w := by
  have hnew : ∀ i, i < m → ∀ b, ρ i = some b → Γ.w0.heap.size ≤ b := fun i hi b hb => by
    obtain ⟨o, ho⟩ := hl i hi
    rcases h.own i o b ho hb with h1 | ⟨j, hj, _⟩
    · exact h1
    · omega
  refine ⟨⟨Γ.w0, Γ.I0, m, ρ, Γ.hG, Γ.hgl, fun i hi b hb => Nat.le_trans Γ.hgl (hnew i hi b hb), [d]⟩, rfl, rfl, rfl, ?_, ?_⟩
  · refine ⟨fun i hi => ⟨(hl i hi).elim fun o ho => h.made i o ho, rfl⟩, h.len, h.tmp, h.obj, h.made, h.bound, fun id o b ho hb => ?_, h.inj, rfl, ⟨h.fr.size, h.fr.os, h.fr.tape, h.fr.output, fun b hb _ => h.fr.block b hb fun i hi => by omega, h.fr.csize⟩⟩
    rcases h.own id o b ho hb with h1 | ⟨j, hj, _⟩
    · exact .inl h1
    · omega
  · rintro s a w ⟨ρ', h'⟩
    refine ⟨ρ', fun i hi => by omega, h'.len, h'.tmp, h'.obj, h'.made, h'.bound, fun id o b ho hb => ?_, h'.inj, hds.symm, ⟨h'.fr.size, h'.fr.os, h'.fr.tape, h'.fr.output, fun b hb _ => h'.fr.block b hb fun i hi e => ?_, h'.fr.csize⟩⟩
    · rcases h'.own id o b ho hb with h1 | ⟨j, hj, h1⟩
      · exact .inl h1
      · exact .inl (hnew j hj b h1)
    · have := hnew i hi b e
      omega
def modeOf : Exit → Option FrameMode
  | .normal | .ret => some .returning
  | .panic ch => some (.panicking ch)
  | _ => none
def bodyD (P : Program) (rs : List ResultVar) (gc : FuncId) (capA : List AV) (X : AV) (e : Exit) (s : St) : Prop :=
  ∃ u, modeOf e = some u ∧ ∃ (is : List Nat) (ys' : List AV) (mid fin : List AObj), Lend is s ([] ++ [] ++ capA) ys' mid ∧ DefD P gc ys' mid u fin ∧ Ret P rs X ⟨s.tmps, updO (apx s.objs.length is) s.objs is (fin.map some)⟩
theorem FnD.intro {fn : Func} {c0 c2 : Code} {id : Nat} {d : Tmp} {gc : FuncId} {caps : Array Operand} {t1 t2 : TypeId} {p1 p2 : String} {af1 af2 : Array Edge} {rs : List ResultVar} {X : AV} {l1 : List (Nat × AV)} {M1 : Nat} {os1 : List (Nat × Option AObj)} {capA : List AV}
    (hX : X.bd 0 = true) (he : enterable P g = true) (hf : P.funcs[g]? = some fn) (hb : fn.body = some (.seq c0 (.seq (.region id [⟨some d, .makeFunc (.func gc) #[] caps, t1, p1, af1, none⟩, ⟨none, .defer ⟨.value (.tmp d), #[], #[]⟩, t2, p2, af2, none⟩].toArray false) c2)))
    (hrs : fn.results = rs.toArray) (hn : fn.ntmps = n) (hl : ys.length ≤ n) (hdn : d < n) (hcap : opqL n l1 caps.toList = some capA) (hptr : ∀ x, x ∈ capA → ∃ i k, x = .ptr i k 0 0 ∧ i < M1) (hlive : ∀ i, i < M1 → (lookq M1 os1 i).isSome = true)
    (h0 : ∀ Γ : Cx, Γ.m = 0 → WP P Γ c0 (fun e s => e = .normal ∧ s = S n l1 M1 os1) (S n (enumA 0 ys) 0 (enumO 0 [])))
    (h2 : ∀ Γ : Cx, Γ.m = M1 → WP P Γ c2 (bodyD P rs gc capA X) (S n ((d, .clo (.func gc) [] capA) :: l1) M1 os1)) : Fn P g ys X := by
  refine ⟨⟨he, fun Γ vs hm hs => calls_of_wp_defers hf hb ?_⟩, hX⟩
  simp only [List.length_nil] at hm
  obtain ⟨ρ, hs⟩ := hs
  have hds : Γ.ds = [] := hs.defers.symm
  have hlen : vs.size = ys.length := hs.len
  have hst : SR Γ ⟨ys ++ List.replicate (fn.ntmps - ys.length) .any, ([] : List AObj).map some⟩ ⟨vs ++ Array.replicate (fn.ntmps - vs.size) undef, []⟩ Γ.w0 := by
    refine ⟨ρ, hs.ext, by simp [hlen], ?_, hs.obj, hs.made, hs.bound, hs.own, hs.inj, hs.defers, hs.fr⟩
    intro i x v hx hv
    simp only at hx hv
    by_cases hi : i < ys.length
    · rw [List.getElem?_append_left hi] at hx
      rw [Array.getElem?_append_left (by omega)] at hv
      exact hs.tmp i x v hx hv
    · rw [List.getElem?_append_right (by omega)] at hx
      have hm := List.mem_of_getElem? hx
      rw [(List.mem_replicate.1 hm).2]
      exact .any
  subst hn
  rw [tl_start _ _ hl] at hst
  have hw0 := h0 Γ hm
  have hst2 : SR Γ (S fn.ntmps (enumA 0 ys) 0 (enumO 0 ([] : List AObj))) ⟨vs ++ Array.replicate (fn.ntmps - vs.size) undef, []⟩ Γ.w0 := hst
  refine wp_seq (wp_mono (hw0 _ _ hst2) ?_)
  rintro e a1 w1 ⟨s1, ⟨rfl, rfl⟩, hs1⟩
  refine wp_seq ?_
  refine wp_region_lit (wpList_plain rfl fun K hK => ?_)
  obtain ⟨ρ1, hρ1⟩ := hs1
  have hcv : ∀ (i : Nat) x v, capA[i]? = some x → (caps.toList.map a1.eval)[i]? = some v → RV (fun id => id < (S fn.ntmps l1 M1 os1).objs.length) ρ1 (Im Γ ρ1 (S fn.ntmps l1 M1 os1) w1) w1 x v := by
    intro i x v hx hv
    have hq := opqL_op (M := M1) (os := os1) hcap
    rw [← hq] at hx
    simp only [List.getElem?_map, Option.map_eq_some_iff] at hx hv
    obtain ⟨p, hp, rfl⟩ := hx
    obtain ⟨q, hq', rfl⟩ := hv
    rw [hp] at hq'; injection hq' with hq'; subst hq'
    exact hρ1.eval p
  have hcl : capA.length = (caps.map a1.eval).size := by
    have hq := opqL_op (M := M1) (os := os1) hcap
    rw [← hq]; simp
  have hrvc : RV (fun id => id < (S fn.ntmps l1 M1 os1).objs.length) ρ1 (Im Γ ρ1 (S fn.ntmps l1 M1 os1) w1) w1 (.clo (.func gc) [] capA) (.func (.func gc) #[] (caps.map a1.eval)) :=
    .clo rfl hcl (fun i x v hx => by simp at hx) (fun i x v hx hv => hcv i x v hx (by simpa using hv))
  unfold Oper.wp
  have hex : (execOp a1.eval ⟨some d, .makeFunc (.func gc) #[] caps, t1, p1, af1, none⟩).run P w1 = .ok (.value (.func (.func gc) #[] (caps.map a1.eval))) w1 := by
    simp [execOp, Instr.makeFunc]
  rw [hex]
  simp only [Oper.upon]
  refine hK _ _ ?_
  refine wpList_plain rfl fun K2 hK2 => ?_
  have hput := hρ1.put (some d) hrvc
  rw [S_put] at hput
  have hdval : (a1.put (some d) (.func (.func gc) #[] (caps.map a1.eval))).eval (.tmp d) = .func (.func gc) #[] (caps.map a1.eval) := by
    have hsz : a1.tmps.size = fn.ntmps := by rw [hρ1.len]; simp [S, tl_length]
    simp [Act.eval, Act.put, hsz, hdn]
  unfold Oper.wp
  generalize ha1 : a1.put (some d) (.func (.func gc) #[] (caps.map a1.eval)) = a1' at *
  have hex2 : (execOp a1'.eval ⟨none, .defer ⟨.value (.tmp d), #[], #[]⟩, t2, p2, af2, none⟩).run P w1 = .ok (.defer ⟨.fn (.func gc) (caps.map a1.eval), #[]⟩) w1 := by
    simp [execOp, resolve, hdval, Deferred.ofValue]
  rw [hex2]
  simp only [Oper.upon]
  refine hK2 _ _ ?_
  refine wpList_nil ?_
  have hda : a1'.defers = [] := hput.defers.trans hds
  have hlv : ∀ i, i < M1 → ∃ o, (S fn.ntmps ((d, .clo (.func gc) [] capA) :: l1) M1 os1).live i o := fun i hi => by
    obtain ⟨o, ho⟩ := Option.isSome_iff_exists.1 (hlive i hi)
    exact ⟨o, St.look_some.1 (by rw [S_look]; exact ho)⟩
  have hMl : ∀ l : List (Nat × AV), (S fn.ntmps l M1 os1).objs.length = M1 := fun l => ol_length M1 os1
  obtain ⟨Γ', hm', hds', hρ0', hsr', hdown⟩ := SRa.boxes (A := fun id => id < M1) (by simpa [hMl] using hput) hm hds M1 hlv ⟨.fn (.func gc) (caps.map a1.eval), #[]⟩
  have hact : ({ a1' with defers := (⟨.fn (.func gc) (caps.map a1.eval), #[]⟩ : Deferred) :: a1'.defers } : Act).put none undef = { a1' with defers := [⟨.fn (.func gc) (caps.map a1.eval), #[]⟩] } := by rw [hda]; rfl
  rw [hact]
  refine wp_mono (h2 Γ' hm' _ _ ⟨ρ1, by simpa [hMl] using hsr'⟩) ?_
  rintro e a' w' ⟨s', ⟨u, hu, is, ys', mid, fin, hL, hD, x0, hres, hz⟩, ρ', hs'⟩
  have hda' : a'.defers = [⟨.fn (.func gc) (caps.map a1.eval), #[]⟩] := hs'.defers.trans hds'
  have hrun : u ≠ .run := by cases e <;> simp [modeOf] at hu <;> subst hu <;> simp
  have hcv' : ∀ (i : Nat) x v, capA[i]? = some x → (caps.map a1.eval)[i]? = some v → RV (fun id => id < s'.objs.length) ρ' (Im Γ' ρ' s' w') w' x v := by
    intro i x v hx hv
    obtain ⟨j, k, rfl, hj⟩ := hptr x (List.mem_of_getElem? hx)
    have h1 := hcv i _ v hx (by simpa using hv)
    obtain ⟨hjA, hjρ⟩ := hs'.ext j (by omega)
    cases h1 with
    | ptr hA hb => exact .ptr hjA (by rw [hjρ, hρ0']; exact hb)
  have hrvc' : RV (fun id => id < s'.objs.length) ρ' (Im Γ' ρ' s' w') w' (.clo (.func gc) [] capA) (.func (.func gc) #[] (caps.map a1.eval)) :=
    .clo rfl hcl (fun i x v hx => by simp at hx) hcv'
  obtain ⟨us, hrn, Γ'', hm'', hw'', hds'', hsr'', hback⟩ := hs'.view is (args := []) (vs := []) hD.1 hrvc' rfl (fun i x v hx => by simp at hx) hL
  have hleaves : Leaves P fn a'.tmps (fun e w' => ∃ r objs' v, e = .returned v ∧ (r = X ∧ r.bd 0 = true) ∧ SR Γ ⟨[r], objs'⟩ ⟨#[v], []⟩ w') a'.defers u w' := by
    rw [hda']
    refine leaves_cons (f := gc) (args := us) hrun (by have := hrn w'; simpa [Deferred.ofValue] using this) ?_
    have hlenL : is.length = mid.length := by have := wkRO_len hL.2.1; simpa using this.symm
    have hDs := hD.2.2 Γ'' us hm'' hds'' (by rw [hw'']; exact hsr'')
    rw [hw''] at hDs
    refine hDs.mono ?_
    rintro e2 u2 w2 ⟨⟨v2, rfl⟩, hset, hsr2⟩
    simp only
    rw [hset]
    have hb2 := hback _ _ _ _ (by rw [List.length_map]; exact Nat.le_of_eq hD.2.1) hsr2
    have hfin := hdown _ _ _ hb2
    obtain ⟨ρ3, h3⟩ := hfin
    obtain ⟨v, hv, _⟩ := resN_sound h3 (by rw [hrs]) hres
    refine ⟨v, hv, X, [], v, rfl, ⟨rfl, hX⟩, SR.out ⟨ρ3, h3⟩ hds hm hz fun ρ4 h4 => ?_⟩
    obtain ⟨v4, hv4, hr4⟩ := resN_sound h4 (by rw [hrs]) hres
    rw [hv] at hv4
    injection hv4 with e1
    subst e1
    exact hr4
  cases e with
  | normal => simp only [modeOf, Option.some.injEq] at hu; subst hu; exact hleaves
  | ret => simp only [modeOf, Option.some.injEq] at hu; subst hu; exact hleaves
  | panic ch => simp only [modeOf, Option.some.injEq] at hu; subst hu; exact hleaves
  | _ => simp [modeOf] at hu
theorem bd_end {rs : List ResultVar} {gc : FuncId} {capA ys' : List AV} {X : AV} {e : Exit} {u : FrameMode} (is : List Nat) {mid fin : List AObj} (hu : modeOf e = some u) (hL : Lend is (S n l M os) ([] ++ [] ++ capA) ys' mid) (hD : DefD P gc ys' mid u fin) (hr : Ret P rs X (S n l M (updN (apx M is) M is (fin.map some) os))) : bodyD P rs gc capA X e (S n l M os) := by
  refine ⟨u, hu, is, ys', mid, fin, hL, hD, ?_⟩
  have hM : (S n l M os).objs.length = M := ol_length M os
  have hil : is.length = mid.length := by have := wkRO_len hL.2.1; simpa using this.symm
  have h1 := hD.2.1
  have e1 : (⟨(S n l M os).tmps, updO (apx (S n l M os).objs.length is) (S n l M os).objs is (fin.map some)⟩ : St) = S n l M (updN (apx M is) M is (fin.map some) os) := by
    rw [hM]
    simp only [S]
    rw [updN_ol is (fin.map some) os (by simp; omega)]
    simp [hil, h1]
  rw [e1]
  exact hr
def upd0 : List Nat → List (Nat × List AV) → List (Nat × Option AObj) → List (Nat × Option AObj)
  | i :: is, (k, vs) :: fs, os => upd0 is fs ((i, some (.arr k vs)) :: os)
  | _, _, os => os
theorem updN_pure {π : Nat → Nat} : ∀ (is : List Nat) (fs : List (Nat × List AV)) (os : List (Nat × Option AObj)), is.length = fs.length → (fs.all fun p => bdL 0 p.2) = true → updN π M is (fs.map fun p => some (.arr p.1 p.2)) os = upd0 is fs os
  | [], [], os, _, _ => by simp [updN, newO, upd0]
  | i :: is, (k, vs) :: fs, os, h, hb => by
    simp only [List.all_cons, Bool.and_eq_true] at hb
    simp only [List.map_cons, updN, Option.map_some, AObj.ren, renL_pure hb.1, upd0]
    exact updN_pure is fs _ (by simpa using h) hb.2
  | [], _ :: _, _, h, _ => by simp at h
  | _ :: _, [], _, h, _ => by simp at h
theorem bd_endp {rs : List ResultVar} {gc : FuncId} {capA ys' : List AV} {X : AV} {e : Exit} {u : FrameMode} (is : List Nat) {mid : List AObj} (fs : List (Nat × List AV)) (hu : modeOf e = some u) (hL : Lend is (S n l M os) ([] ++ [] ++ capA) ys' mid) (hD : DefD P gc ys' mid u (fs.map fun p => .arr p.1 p.2)) (hb : (fs.all fun p => bdL 0 p.2) = true)
    (hr : Ret P rs X (S n l M (upd0 is fs os))) : bodyD P rs gc capA X e (S n l M os) := by
  refine bd_end is hu hL hD ?_
  have hil : is.length = mid.length := by have := wkRO_len hL.2.1; simpa using this.symm
  have h1 := hD.2.1
  rw [List.length_map] at h1
  rw [List.map_map]
  have := updN_pure (M := M) (π := apx M is) is fs os (by omega) hb
  rw [show (some ∘ fun p : Nat × List AV => AObj.arr p.1 p.2) = fun p => some (.arr p.1 p.2) from rfl, this]
  exact hr
theorem DefD.intro {fn : Func} {c2 : Code} {id : Nat} {d x : Tmp} {t1 t2 : TypeId} {p1 p2 : String} {af1 af2 : Array Edge} {aos fin : List AObj} {u u2 : FrameMode} {rv : Value} (he : enterable P g = true) (hlen : aos.length = fin.length) (hf : P.funcs[g]? = some fn)
    (hb : fn.body = some (.seq (.region id [⟨some d, .call ⟨.builtin .recover, #[], #[]⟩, t1, p1, af1, none⟩, ⟨some x, .assign (.tmp d), t2, p2, af2, none⟩].toArray false) c2)) (hrs : fn.results = #[]) (hn : fn.ntmps = n) (hl : ys.length ≤ n) (hdn : d < n) (hat : atom rv = true)
    (hrec : ∀ (c₀ : Frame) (cs : List Frame), c₀.mode = u → (recoverD (c₀ :: cs) = some (rv, { c₀ with mode := u2 } :: cs)) ∨ (recoverD (c₀ :: cs) = none ∧ rv = .nilIface ∧ u2 = u)) (hset : settle u2 = .returning)
    (h2 : ∀ Γ : Cx, Γ.m = aos.length → WP P Γ c2 (bodyQ (RetO P [] aos.length (.tup []) (fin.map some))) (S n ((x, .val rv) :: (d, .val rv) :: enumA 0 ys) aos.length (enumO 0 aos))) : DefD P g ys aos u fin := by
  refine ⟨he, hlen, fun Γ vs hm hds hs => callsD_of_wpS hf hb fun c₀ cs hc => ?_⟩
  obtain ⟨ρ, hs⟩ := hs
  have hlen' : vs.size = ys.length := hs.len
  have hst : SR Γ ⟨ys ++ List.replicate (fn.ntmps - ys.length) .any, aos.map some⟩ ⟨vs ++ Array.replicate (fn.ntmps - vs.size) undef, []⟩ Γ.w0 := by
    refine ⟨ρ, hs.ext, by simp [hlen'], ?_, hs.obj, hs.made, hs.bound, hs.own, hs.inj, hs.defers, hs.fr⟩
    intro i x v hx hv
    simp only at hx hv
    by_cases hi : i < ys.length
    · rw [List.getElem?_append_left hi] at hx
      rw [Array.getElem?_append_left (by omega)] at hv
      exact hs.tmp i x v hx hv
    · rw [List.getElem?_append_right (by omega)] at hx
      have hm := List.mem_of_getElem? hx
      rw [(List.mem_replicate.1 hm).2]
      exact .any
  subst hn
  rw [tl_start _ _ hl, ol_enum] at hst
  generalize hact : (⟨vs ++ Array.replicate (fn.ntmps - vs.size) undef, []⟩ : Act) = a0 at *
  have hst2 : SR Γ (S fn.ntmps (enumA 0 ys) aos.length (enumO 0 aos)) a0 Γ.w0 := hst
  obtain ⟨ρ', h0⟩ := hst2
  have h1 := h0.put (some d) (x := .val rv) (v := rv) (.val hat)
  rw [S_put] at h1
  have hev : (a0.put (some d) rv).eval (.tmp d) = rv := by
    have hsz : a0.tmps.size = fn.ntmps := by rw [h0.len]; simp [S, tl_length]
    simp [Act.eval, Act.put, hsz, hdn]
  generalize ha1 : a0.put (some d) rv = a1 at *
  have h3 : SRa Γ (fun id => id < (S fn.ntmps (enumA 0 ys) aos.length (enumO 0 aos)).objs.length) ρ' (S fn.ntmps ((x, .val rv) :: (d, .val rv) :: enumA 0 ys) aos.length (enumO 0 aos)) (a1.put (some x) rv) Γ.w0 := by
    have := SRa.put (s := S fn.ntmps ((d, .val rv) :: enumA 0 ys) aos.length (enumO 0 aos)) (by simpa [S, ol_length] using h1) (some x) (x := .val rv) (v := rv) (.val hat)
    rw [S_put] at this
    simpa [S, ol_length] using this
  have key : ∀ cs', cs' = { c₀ with mode := u2 } :: cs → c2.wpS P (bodyPostS P fn c₀ cs fun e u' w' => (∃ v, e = .returned v) ∧ settle u' = .returning ∧ SR Γ ⟨[.tup []], fin.map some⟩ ⟨#[.tuple #[]], []⟩ w') (a1.put (some x) rv) cs' Γ.w0 := by
    rintro cs' rfl
    refine wpS_of_wp (wp_mono (h2 Γ hm _ _ ⟨ρ', by simpa [S, ol_length] using h3⟩) ?_)
    rintro e a' w' ⟨s', hq, ρ2, hs'⟩
    have fin2 : RetO P [] aos.length (.tup []) (fin.map some) s' → bodyPostS P fn c₀ cs (fun e u' w' => (∃ v, e = .returned v) ∧ settle u' = .returning ∧ SR Γ ⟨[.tup []], fin.map some⟩ ⟨#[.tuple #[]], []⟩ w') .ret a' ({ c₀ with mode := u2 } :: cs) w' := by
      rintro ⟨y, is, hy, hT⟩
      obtain ⟨v, hv, _⟩ := resN_sound hs' (by rw [hrs]) hy
      have hv0 : v = .tuple #[] := by
        rw [results_rdv, hrs] at hv
        simp at hv
        exact hv.symm
      have hy0 : y = .tup [] := by simp [resN, resL, tupA] at hy; exact hy.symm
      subst hy0
      refine ⟨hs'.defers.trans hds, u2, rfl, v, hv, ⟨v, rfl⟩, hset, ?_⟩
      have h5 : SR Γ ⟨[.tup []], s'.objs⟩ ⟨#[v], []⟩ w' := SR.result ⟨ρ2, hs'⟩ hds fun ρ4 h4 => by
        obtain ⟨v4, hv4, hr4⟩ := resN_sound h4 (by rw [hrs]) hy
        rw [hv] at hv4
        injection hv4 with e1
        subst e1
        exact hr4
      subst hv0
      exact h5.toR (by rw [hm]; exact hT)
    cases e with
    | normal => exact fin2 hq
    | ret => exact fin2 hq
    | _ => exact hq.elim
  refine wpS_seq (wpS_region ?_)
  have hrange : List.range [(⟨some d, .call ⟨.builtin .recover, #[], #[]⟩, t1, p1, af1, none⟩ : Oper), ⟨some x, .assign (.tmp d), t2, p2, af2, none⟩].toArray.size = [0, 1] := rfl
  rw [hrange]
  have hex : (execOp a0.eval ⟨some d, .call ⟨.builtin .recover, #[], #[]⟩, t1, p1, af1, none⟩).run P Γ.w0 = .ok .recover Γ.w0 := by
    simp [execOp, resolve, invoke, builtin]
  have hex2 : (execOp a1.eval ⟨some x, .assign (.tmp d), t2, p2, af2, none⟩).run P Γ.w0 = .ok (.value rv) Γ.w0 := by
    simp [execOp, hev]
  rcases hrec c₀ cs hc with hr | ⟨hr, hrv, hu⟩
  · simp only [wpOpsS, List.getElem?_toArray, List.getElem?_cons_zero, List.getElem?_cons_succ, Region.wanted, if_true, hex, hr, ha1, hex2, Oper.upon]
    exact key _ rfl
  · simp only [wpOpsS, List.getElem?_toArray, List.getElem?_cons_zero, List.getElem?_cons_succ, Region.wanted, if_true, hex, hr, ← hrv, ha1, hex2, Oper.upon]
    refine key _ ?_
    rw [hu, ← hc]
variable {d t : Tmp} {ty ty2 tx : TypeId} {pos : String} {af : Array Edge} {ops : Array Oper} {rest : List Oper} {K : St → Prop} {o1 : Operand} {T : TypeId} {v : Value}
def isIf (P : Program) (tx : TypeId) : Bool := match P.underlying tx with
  | some (.interface _) => true
  | _ => false
theorem equal_iface_nil (h : isIf P tx = true) (w : World) : (Op.equal tx (.iface T v) .nilIface).run P w = .ok false w := by
  unfold isIf at h
  cases hu : P.underlying tx with
  | none => rw [hu] at h; cases h
  | some D =>
    rw [hu] at h
    cases D with
    | interface ms =>
      unfold Op.equal
      obtain ⟨d, hd⟩ : ∃ d, Op.maxDepth = d + 1 := ⟨_, rfl⟩
      rw [hd]
      unfold Op.equalIn
      simp only [Sem.run_bind, run_underlying hu, Result.andThen_ok, Sem.run_pure]
    | _ => cases h
theorem equal_nil_nil (h : isIf P tx = true) (w : World) : (Op.equal tx .nilIface .nilIface).run P w = .ok true w := by
  unfold isIf at h
  cases hu : P.underlying tx with
  | none => rw [hu] at h; cases h
  | some D =>
    rw [hu] at h
    cases D with
    | interface ms =>
      unfold Op.equal
      obtain ⟨d, hd⟩ : ∃ d, Op.maxDepth = d + 1 := ⟨_, rfl⟩
      rw [hd]
      unfold Op.equalIn
      simp only [Sem.run_bind, run_underlying hu, Result.andThen_ok, Sem.run_pure]
    | _ => cases h
theorem run_neq_iface (h : isIf P tx = true) (ρ : Operand → Value) (hv : ρ o1 = .iface T v) (hn : ρ (.const .nilIface) = .nilIface) (w : World) : (execOp ρ ⟨some d, .binOp .neq tx o1 (.const .nilIface) ty2, ty, pos, af, none⟩).run P w = .ok (.value (.bool true)) w := by
  have e1 : execOp ρ ⟨some d, .binOp .neq tx o1 (.const .nilIface) ty2, ty, pos, af, none⟩ = (do let x ← (do eqGuard .neq tx o1 (.const .nilIface) (ρ o1) (ρ (.const .nilIface)); binOp .neq tx (ρ o1) (ρ (.const .nilIface)) : Sem Value); pure (.value x)) := rfl
  rw [e1, hv, hn]
  have e2 : (eqGuard .neq tx o1 (.const .nilIface) (.iface T v) .nilIface : Sem Unit) = pure () := rfl
  have e3 : binOp .neq tx (.iface T v) .nilIface = (do let b ← Op.equal tx (.iface T v) .nilIface; pure (.bool (!b)) : Sem Value) := rfl
  rw [e2, e3]
  simp only [Sem.run_bind, Sem.run_pure, Result.andThen_ok, equal_iface_nil h, Bool.not_false]
theorem run_neq_nil (h : isIf P tx = true) (ρ : Operand → Value) (hv : ρ o1 = .nilIface) (hn : ρ (.const .nilIface) = .nilIface) (w : World) : (execOp ρ ⟨some d, .binOp .neq tx o1 (.const .nilIface) ty2, ty, pos, af, none⟩).run P w = .ok (.value (.bool false)) w := by
  have e1 : execOp ρ ⟨some d, .binOp .neq tx o1 (.const .nilIface) ty2, ty, pos, af, none⟩ = (do let x ← (do eqGuard .neq tx o1 (.const .nilIface) (ρ o1) (ρ (.const .nilIface)); binOp .neq tx (ρ o1) (ρ (.const .nilIface)) : Sem Value); pure (.value x)) := rfl
  rw [e1, hv, hn]
  have e2 : (eqGuard .neq tx o1 (.const .nilIface) .nilIface .nilIface : Sem Unit) = pure () := by
    cases o1 <;> rfl
  have e3 : binOp .neq tx .nilIface .nilIface = (do let b ← Op.equal tx .nilIface .nilIface; pure (.bool (!b)) : Sem Value) := rfl
  rw [e2, e3]
  simp only [Sem.run_bind, Sem.run_pure, Result.andThen_ok, equal_nil_nil h, Bool.not_true]
theorem se_neq_iface (hty : isIf P tx = true) (ha : opq n l o1 = some (.val (.iface T v))) (hk : asemC P ops rest (S n ((d, .val (.bool true)) :: l) M os) K) :
    asemC P ops (⟨some d, .binOp .neq tx o1 (.const .nilIface) ty2, ty, pos, af, none⟩ :: rest) (S n l M os) K := by
  simp only [asemC]
  refine .inr (.inr ⟨_, hk, fun Γ ac w hs => ?_⟩)
  obtain ⟨ρ, hs⟩ := hs
  have hv : ac.eval o1 = .iface T v := by
    have := hs.eval o1
    rw [opq_op ha] at this
    exact this.val_eq
  refine ⟨.bool true, w, run_neq_iface hty _ hv rfl w, ρ, ?_⟩
  have := hs.put (some d) (x := .val (.bool true)) (v := .bool true) (.val rfl)
  rw [S_put] at this
  exact this
theorem se_neq_nil (hty : isIf P tx = true) (ha : opq n l o1 = some (.val .nilIface)) (hk : asemC P ops rest (S n ((d, .val (.bool false)) :: l) M os) K) :
    asemC P ops (⟨some d, .binOp .neq tx o1 (.const .nilIface) ty2, ty, pos, af, none⟩ :: rest) (S n l M os) K := by
  simp only [asemC]
  refine .inr (.inr ⟨_, hk, fun Γ ac w hs => ?_⟩)
  obtain ⟨ρ, hs⟩ := hs
  have hv : ac.eval o1 = .nilIface := by
    have := hs.eval o1
    rw [opq_op ha] at this
    exact this.val_eq
  refine ⟨.bool false, w, run_neq_nil hty _ hv rfl w, ρ, ?_⟩
  have := hs.put (some d) (x := .val (.bool false)) (v := .bool false) (.val rfl)
  rw [S_put] at this
  exact this
def notIf (P : Program) (tx : TypeId) : Bool := match P.underlying tx with
  | some (.interface _) => false
  | some _ => true
  | none => false
theorem run_assert (h : notIf P T = true) (ρ : Operand → Value) (hv : ρ o1 = .iface T v) (w : World) : (execOp ρ ⟨some d, .typeAssert o1 tx T false, ty, pos, af, none⟩).run P w = .ok (.value v) w := by
  unfold notIf at h
  cases hu : P.underlying T with
  | none => rw [hu] at h; cases h
  | some D =>
    rw [hu] at h
    cases D <;> first
      | (simp at h; done)
      | (simp only [execOp, Instr.typeAssert, hv, Sem.run_bind, run_underlying hu, Result.andThen_ok, Sem.run_pure, if_true]; rfl)
theorem se_assert (h : notIf P T = true) (ha : opq n l o1 = some (.val (.iface T v))) (hat : atom v = true) (hk : asemC P ops rest (S n ((d, .val v) :: l) M os) K) :
    asemC P ops (⟨some d, .typeAssert o1 tx T false, ty, pos, af, none⟩ :: rest) (S n l M os) K := by
  simp only [asemC]
  refine .inr (.inr ⟨_, hk, fun Γ ac w hs => ?_⟩)
  obtain ⟨ρ, hs⟩ := hs
  have hv : ac.eval o1 = .iface T v := by
    have := hs.eval o1
    rw [opq_op ha] at this
    exact this.val_eq
  refine ⟨v, w, run_assert h _ hv w, ρ, ?_⟩
  have := hs.put (some d) (x := .val v) (v := v) (.val hat)
  rw [S_put] at this
  exact this
end
end Go.Lg

namespace Go.Lg
open Go.Proofs
set_option linter.unusedSimpArgs false
set_option linter.unusedVariables false
attribute [local irreducible] Ap Rq asemC WP RunD Ret Gq thenA inBlockA bodyQ noGotoA RqL RqP OpP
set_option maxHeartbeats 4000000
set_option maxRecDepth 20000
attribute [local simp] rdA pkA tokA toks_bd
def boxF (x : AV) : AObj := .arr 3 [x]
def boxI (k : IntKind) (x : Int) : AObj := .arr 1 [.val (.int k x)]
def nilF : AV := .agg [strA ⟨#[]⟩, .val (.slice none 0 0), .val (.slice none 0 0)]
theorem def_ret (xa xb xc : AV) (ha : ∀ n, xa.bd n = true) (hb : ∀ n, xb.bd n = true) (hc' : ∀ n, xc.bd n = true) (o r : Int) : DefD Try.prog 18 [.ptr 0 3 0 0, .ptr 1 1 0 0, .ptr 2 1 0 0] [boxF (.agg [xa, xb, xc]), boxI .i64 o, boxI .i64 r] .returning [boxF (.agg [xa, xb, xc]), boxI .i64 o, boxI .i64 r] := by
  refine DefD.intro (u2 := .returning) (rv := .nilIface) (by kernel_rfl) rfl Try.func18 rfl rfl Try.ntmps18 (by exact Nat.le_of_ble_eq_true rfl) (by decide) rfl (fun c₀ cs hc => .inr ⟨by simp only [recoverD, hc], rfl, rfl⟩) rfl ?_
  intro Γ hm
  (repeat' (first | refine WP.seq ?_ | refine go_n ?_ | refine WP.skip ?_ | refine bo_n ?_ | (refine wp_cond (by rfl) (fun hc => ?_) (fun hc => ?_) <;> (try simp only [sB, ne_eq, reduceCtorEq] at hc) <;> (try (exfalso; omega))) | (refine WP.regionC (id := 1) ?_; (refine su (ap_move (rq_p rfl rfl)) ?_); (refine se_neq_nil (by kernel_rfl) (by rfl) ?_); refine asemC_end ?_)))
  · refine retO_L (x := .tup []) (k := 3) (os1 := [(0, some (boxF (.agg [xa, xb, xc]))), (1, some (boxI .i64 o)), (2, some (boxI .i64 r))]) .nil (by rfl) ⟨[0, 1, 2], ToR.S rfl (by repeat' (first | exact rt_nil | refine rt_e (by rfl) (by rfl) ?_)) (by repeat' (first | exact ro_nil | refine ro_e (by rfl) (by rfl) ?_ | refine ro_p (by rfl) (by first | exact rfl | fail) (by first | (simp [bdL, bdL_append, AV.bd, *]; done) | fail) ?_)) (by rfl) (by rfl) (by rfl) (by (simp [bdT, AV.bd, bdL, bdL_append]; done)) (by repeat' (first | exact True.intro | exact rfl | refine And.intro ?_ ?_ | simp [bdOq, bdL, bdL_append, AV.bd, *])) (by exact Nat.le_of_ble_eq_true rfl)⟩ (by rfl)
theorem def_panic (xa xb xc : AV) (ha : ∀ n, xa.bd n = true) (hb : ∀ n, xb.bd n = true) (hc' : ∀ n, xc.bd n = true) (o r p : Int) : DefD Try.prog 18 [.ptr 0 3 0 0, .ptr 1 1 0 0, .ptr 2 1 0 0] [boxF (.agg [xa, xb, xc]), boxI .i64 o, boxI .i64 r] (.panicking [{ v := synV p, recovered := false }]) [boxF nilF, boxI .i64 p, boxI .i64 3] := by
  refine DefD.intro (u2 := .panicking [{ v := synV p, recovered := true }]) (rv := synV p) (by kernel_rfl) rfl Try.func18 rfl rfl Try.ntmps18 (by exact Nat.le_of_ble_eq_true rfl) (by decide) rfl (fun c₀ cs hc => .inl (by simp only [recoverD, hc])) rfl ?_
  intro Γ hm
  (repeat' (first | refine WP.seq ?_ | refine go_n ?_ | refine bo_n ?_ | (refine wp_cond (by rfl) (fun hc => ?_) (fun hc => ?_) <;> (try simp only [sB, ne_eq, reduceCtorEq] at hc) <;> (try (exfalso; omega))) | (refine WP.regionC (id := 1) ?_; (refine su (ap_move (rq_p rfl rfl)) ?_); (refine se_neq_iface (by kernel_rfl) (by rfl) ?_); refine asemC_end ?_) | (refine wp_tree (id := 2) 6 mixed rfl ?_ <;> (refine wpt_take 1 (by rfl) still_move (by exact ap_move (rq_p rfl rfl)) (by kernel_rfl) (by kernel_rfl) (by kernel_rfl) (by repeat (exact pind_q)) ?_; (refine wpt_all (rs := [0, 2]) (by kernel_rfl) rfl ⟨?_, ?_, trivial⟩ <;> (first | (refine wpo_do (i := 0) (by rfl) (by rfl) ?_; (refine su (ap_build (RqP.nil) (by rfl)) ?_); refine asemC_end ?_; (refine wpt_all (rs := [2, 3]) (by kernel_rfl) rfl ⟨?_, ?_, trivial⟩ <;> (first | (refine wpo_do (i := 2) (by rfl) (by rfl) ?_; (refine se_assert (by kernel_rfl) (by rfl) (by kernel_rfl) ?_); refine asemC_end ?_; (refine wpt_all (rs := [3]) (by kernel_rfl) rfl ⟨?_, trivial⟩; (refine wpo_do (i := 3) (by rfl) (by rfl) ?_; (refine se_store_b (by rfl) (by rfl) (by rfl) (by rfl) ?_); refine asemC_end ?_; (refine wpt_all (rs := [4]) (by kernel_rfl) rfl ⟨?_, trivial⟩; (refine wpo_do (i := 4) (by rfl) (by rfl) ?_; (refine se_store_b (by rfl) (by rfl) (by rfl) (by rfl) ?_); refine asemC_end ?_; (refine wpt_all (rs := [5]) (by kernel_rfl) rfl ⟨?_, trivial⟩; (refine wpo_do (i := 5) (by rfl) (by rfl) ?_; (refine se_store_b (by rfl) (by rfl) (by rfl) (by rfl) ?_); refine asemC_end ?_; (refine wpt_end (by kernel_rfl) ?_)))))))) | (refine wpo_do (i := 3) (by rfl) (by rfl) ?_; (refine se_store_b (by rfl) (by rfl) (by rfl) (by rfl) ?_); refine asemC_end ?_; (refine wpt_all (rs := [2]) (by kernel_rfl) rfl ⟨?_, trivial⟩; (refine wpo_do (i := 2) (by rfl) (by rfl) ?_; (refine se_assert (by kernel_rfl) (by rfl) (by kernel_rfl) ?_); refine asemC_end ?_; (refine wpt_all (rs := [4]) (by kernel_rfl) rfl ⟨?_, trivial⟩; (refine wpo_do (i := 4) (by rfl) (by rfl) ?_; (refine se_store_b (by rfl) (by rfl) (by rfl) (by rfl) ?_); refine asemC_end ?_; (refine wpt_all (rs := [5]) (by kernel_rfl) rfl ⟨?_, trivial⟩; (refine wpo_do (i := 5) (by rfl) (by rfl) ?_; (refine se_store_b (by rfl) (by rfl) (by rfl) (by rfl) ?_); refine asemC_end ?_; (refine wpt_end (by kernel_rfl) ?_))))))))))) | (refine wpo_do (i := 2) (by rfl) (by rfl) ?_; (refine se_assert (by kernel_rfl) (by rfl) (by kernel_rfl) ?_); refine asemC_end ?_; (refine wpt_all (rs := [0]) (by kernel_rfl) rfl ⟨?_, trivial⟩; (refine wpo_do (i := 0) (by rfl) (by rfl) ?_; (refine su (ap_build (RqP.nil) (by rfl)) ?_); refine asemC_end ?_; (refine wpt_all (rs := [3]) (by kernel_rfl) rfl ⟨?_, trivial⟩; (refine wpo_do (i := 3) (by rfl) (by rfl) ?_; (refine se_store_b (by rfl) (by rfl) (by rfl) (by rfl) ?_); refine asemC_end ?_; (refine wpt_all (rs := [4]) (by kernel_rfl) rfl ⟨?_, trivial⟩; (refine wpo_do (i := 4) (by rfl) (by rfl) ?_; (refine se_store_b (by rfl) (by rfl) (by rfl) (by rfl) ?_); refine asemC_end ?_; (refine wpt_all (rs := [5]) (by kernel_rfl) rfl ⟨?_, trivial⟩; (refine wpo_do (i := 5) (by rfl) (by rfl) ?_; (refine se_store_b (by rfl) (by rfl) (by rfl) (by rfl) ?_); refine asemC_end ?_; (refine wpt_end (by kernel_rfl) ?_))))))))))))))))
  all_goals refine retO_L (x := .tup []) (k := 3) (os1 := [(0, some (boxF nilF)), (1, some (boxI .i64 p)), (2, some (boxI .i64 3))]) .nil (by rfl) ⟨[0, 1, 2], ToR.S rfl (by repeat' (first | exact rt_nil | refine rt_e (by rfl) (by rfl) ?_)) (by repeat' (first | exact ro_nil | refine ro_e (by rfl) (by rfl) ?_)) (by rfl) (by rfl) (by rfl) (by (simp [bdT, AV.bd, bdL, bdL_append]; done)) (by repeat' (first | exact True.intro | exact rfl | refine And.intro ?_ ?_)) (by exact Nat.le_of_ble_eq_true rfl)⟩ (by rfl)
end Go.Lg

namespace Go.Lg
open Go.Proofs
set_option linter.unusedSimpArgs false
set_option linter.unusedVariables false
attribute [local irreducible] Ap Rq asemC WP RunD Ret Gq thenA inBlockA bodyQ noGotoA RqL RqP OpP
set_option maxHeartbeats 4000000
@[simp] theorem bdL_strM (n : Nat) (l : List ByteArray) : bdL n (l.map strA) = true := bdL_map (fun _ => rfl) l
@[simp] theorem bdL_strT (n k : Nat) (l : List ByteArray) : bdL n ((l.map strA).take k) = true := by rw [← List.map_take]; exact bdL_strM n _
def okK (k : Int) (n : ByteArray) (m : Nat) : Bool :=
  decide (k = 1) && gnOk n && decide (m = 0) || !decide (k = 1) && decide (n = ⟨#[]⟩) &&
    (decide (k = 2) && !decide (m = 1) || decide (k = 3) && decide (2 ≤ m) || (decide (k = 4) || decide (k = 5) || decide (k = 6)) && decide (m = 1))
mutual
def okE : GEx → Int → Bool
  | .mk k n l, d => decide (1 ≤ d) && okK k n l.length && okEL l (d - 1)
def okEL : List GEx → Int → Bool
  | [], _ => true
  | e :: l, d => okE e d && okEL l d
end
theorem okEL_all : ∀ (l : List GEx) (d : Int), okEL l d = l.all fun e => okE e d
  | [], d => by rw [okEL]; rfl
  | e :: l, d => by rw [okEL, okEL_all l d]; rfl
theorem okE_eq (e : GEx) (d : Int) : okE e d = (decide (1 ≤ d) && okK e.kind e.name e.kids.length && e.kids.all fun k => okE k (d - 1)) := by
  cases e; rw [okE, okEL_all]; rfl
def exprsA (l : List GEx) : AV := .sl 3 (l.map exprA)
theorem kids_exprsA (e : GEx) : AV.sl 3 (kidsL e) = exprsA e.kids := by rw [exprsA, kidsL_map]
@[simp] theorem bd_exprsA (n : Nat) (l : List GEx) : (exprsA l).bd n = true := bdL_exprs n l
theorem indexFuncE_fn (l : List GEx) (g : FuncId) (cap : List AV) (p : GEx → Bool) (hcap : ∀ n, bdL n cap = true) (h : ∀ x, x ∈ l → Fn Try.prog g (exprA x :: cap) (boolA (p x))) :
    Fn Try.prog 86 [exprsA l, .clo (.func g) [] cap] (intA (indexP p l)) := by
  refine Fn.intro (by rfl) (by kernel_rfl) Try.func86 rfl rfl Try.ntmps86 (by exact Nat.le_of_ble_eq_true rfl) ?_; intro Γ hm
  refine wp_lens 0 rfl fun h0 => ?_
  have h0 : l.length ≤ 9223372036854775807 := by simpa [exprsA] using h0.1
  (repeat' (first | refine WP.seq ?_ | refine WP.block ?_ | refine go_n ?_ | (refine WP.regionC (id := 0) ?_; (refine su (ap_assign (rq_p rfl rfl)) ?_); refine asemC_end ?_) | (refine WP.regionC (id := 1) ?_; (refine su (ap_move (rq_p rfl rfl)) ?_); (refine su (ap_len_m (by rfl) (rq_p rfl rfl)) ?_); (refine su (ap_move (rq_p rfl rfl)) ?_); refine asemC_end ?_)))
  refine wp_loop (fun k => k ≤ l.length ∧ (l.take k).any p = false) (fun k => l.length - k) (fun k => (S 19 [(0, exprsA l), (1, .clo (.func g) [] cap), (7, intA (l.length : Nat)), (8, intA (k : Nat))] 0 [])) 0 ⟨[], ToR.S rfl (by repeat' (first | exact rt_nil | refine rt_e (by rfl) (by rfl) ?_ | refine rt_p (by rfl) (by rfl) (by first | (simp [AV.bd, bdL, bdL_append]; done) | (simp [AV.bd, bdL, bdL_append, *]; done) | fail) ?_)) (by repeat' (exact ro_nil)) (by rfl) (by (rw [hm]; exact rfl)) (by rfl) (by simp [bdT, AV.bd, bdL, bdL_append, *]) (by repeat' (exact True.intro)) (by (rw [hm]; exact Nat.le_of_ble_eq_true rfl))⟩ ⟨Nat.zero_le _, rfl⟩ ?_
  rintro k ⟨hk, hall⟩
  (repeat' (first | refine WP.seq ?_ | refine WP.block ?_ | refine go_n ?_ | refine WP.skip ?_ | refine WP.exit ?_ | refine WP.ret ?_ | refine go_x ?_ | refine go_r ?_ | refine bl_n ?_ | refine bl_r ?_ | refine bl_x ?_ | refine bo_r ?_ | (refine wp_cond (by rfl) (fun hc => ?_) (fun hc => ?_) <;> (try simp only [sB, ne_eq, reduceCtorEq] at hc) <;> (try (exfalso; omega))) | (refine WP.regionC (id := 2) ?_; (refine su (ap_lss (rq_p rfl rfl) (rq_p rfl rfl)) ?_); refine asemC_end ?_) | (refine WP.regionC (id := 3) ?_; (refine su (ap_move (rq_p rfl rfl)) ?_); (refine su (ap_assign (rq_p rfl rfl)) ?_); refine asemC_end ?_) | (refine WP.regionC (id := 4) ?_; (refine su (ap_move (rq_p rfl rfl)) ?_); (refine su (ap_move (rq_p rfl rfl)) ?_); (refine su (ap_move (rq_p rfl rfl)) ?_); (refine su (ap_idx_n (rq_p rfl rfl) (rq_p rfl rfl) (by omega)) ?_); (refine su (ap_load_w (rq_p rfl rfl) (by rfl)) ?_); (refine sc_p rfl rfl (by first | ((repeat' first | refine SubL.cons ?_ ?_ | exact SubL.rfl | exact Sub.refl); done) | fail) (by first | (simp [bdL, bdL_append, AV.bd, *]; done) | fail) (h _ (nth_mem (by omega))) ?_); refine asemC_end ?_) | (refine WP.regionC (id := 5) ?_; (refine su (ap_move (rq_p rfl rfl)) ?_); (refine su (ap_assign (rq_p rfl rfl)) ?_); refine asemC_end ?_) | (refine WP.regionC (id := 6) ?_; (refine su (ap_add (rq_p rfl rfl) (rq_p rfl rfl) (by exact inr_i64_of (by omega))) ?_); (refine su (ap_move (rq_p rfl rfl)) ?_); refine asemC_end ?_) | (refine WP.regionC (id := 7) ?_; (refine su (ap_assign (rq_p rfl rfl)) ?_); refine asemC_end ?_) | refine ret_i (by rfl) ?_))
  · exact (indexP_at (by omega) hall hc).symm
  · exact ⟨k + 1, ⟨by omega, by omega, take_any_succ (by omega) hall hc⟩, ⟨[], ToR.S rfl (by repeat' (first | exact rt_nil | refine rt_e (by rfl) (by rfl) ?_ | refine rt_p (by rfl) (by rfl) (by first | (simp [AV.bd, bdL, bdL_append]; done) | (simp [AV.bd, bdL, bdL_append, *]; done) | fail) ?_)) (by repeat' (exact ro_nil)) (by rfl) (by (rw [hm]; exact rfl)) (by rfl) (by simp [bdT, AV.bd, bdL, bdL_append, *]) (by repeat' (exact True.intro)) (by (rw [hm]; exact Nat.le_of_ble_eq_true rfl))⟩⟩
  · exact (indexP_no (by omega) hall).symm
theorem containsFuncE_fn (l : List GEx) (g : FuncId) (cap : List AV) (p : GEx → Bool) (hcap : ∀ n, bdL n cap = true) (h : ∀ x, x ∈ l → Fn Try.prog g (exprA x :: cap) (boolA (p x))) :
    Fn Try.prog 81 [exprsA l, .clo (.func g) [] cap] (boolA (l.any p)) := by
  refine Fn.intro (by rfl) (by kernel_rfl) Try.func81 rfl rfl Try.ntmps81 (by exact Nat.le_of_ble_eq_true rfl) ?_; intro Γ hm
  (repeat' (first | refine WP.seq ?_ | refine go_n ?_ | refine WP.ret ?_ | refine bo_r ?_ | (refine WP.regionC (id := 0) ?_; (refine su (ap_assign (rq_p rfl rfl)) ?_); refine asemC_end ?_) | (refine WP.regionC (id := 1) ?_; (refine su (ap_move (rq_p rfl rfl)) ?_); (refine su (ap_move (rq_p rfl rfl)) ?_); (refine sc_p rfl rfl (by first | ((repeat' first | exact SubL.nil | refine SubL.cons ?_ ?_ | exact Sub.refl); done) | fail) (by first | (simp [bdL, bdL_append, AV.bd, *]; done) | fail) (indexFuncE_fn _ _ _ p hcap h) ?_); (refine su (ap_geq (rq_p rfl rfl) (rq_p rfl rfl)) ?_); (refine su (ap_assign (rq_p rfl rfl)) ?_); refine asemC_end ?_) | refine ret_b (by rfl) ?_))
  exact indexP_any
theorem indexFuncA_fn (l : List GAl) (g : FuncId) (cap : List AV) (p : GAl → Bool) (hcap : ∀ n, bdL n cap = true) (h : ∀ x, x ∈ l → Fn Try.prog g (altA x :: cap) (boolA (p x))) :
    Fn Try.prog 80 [altsA l, .clo (.func g) [] cap] (intA (indexP p l)) := by
  refine Fn.intro (by rfl) (by kernel_rfl) Try.func80 rfl rfl Try.ntmps80 (by exact Nat.le_of_ble_eq_true rfl) ?_; intro Γ hm
  refine wp_lens 0 rfl fun h0 => ?_
  have h0 : l.length ≤ 9223372036854775807 := by simpa [altsA] using h0.1
  (repeat' (first | refine WP.seq ?_ | refine WP.block ?_ | refine go_n ?_ | (refine WP.regionC (id := 0) ?_; (refine su (ap_assign (rq_p rfl rfl)) ?_); refine asemC_end ?_) | (refine WP.regionC (id := 1) ?_; (refine su (ap_move (rq_p rfl rfl)) ?_); (refine su (ap_len_m (by rfl) (rq_p rfl rfl)) ?_); (refine su (ap_move (rq_p rfl rfl)) ?_); refine asemC_end ?_)))
  refine wp_loop (fun k => k ≤ l.length ∧ (l.take k).any p = false) (fun k => l.length - k) (fun k => (S 19 [(0, altsA l), (1, .clo (.func g) [] cap), (7, intA (l.length : Nat)), (8, intA (k : Nat))] 0 [])) 0 ⟨[], ToR.S rfl (by repeat' (first | exact rt_nil | refine rt_e (by rfl) (by rfl) ?_ | refine rt_p (by rfl) (by rfl) (by first | (simp [AV.bd, bdL, bdL_append]; done) | (simp [AV.bd, bdL, bdL_append, *]; done) | fail) ?_)) (by repeat' (exact ro_nil)) (by rfl) (by (rw [hm]; exact rfl)) (by rfl) (by simp [bdT, AV.bd, bdL, bdL_append, *]) (by repeat' (exact True.intro)) (by (rw [hm]; exact Nat.le_of_ble_eq_true rfl))⟩ ⟨Nat.zero_le _, rfl⟩ ?_
  rintro k ⟨hk, hall⟩
  (repeat' (first | refine WP.seq ?_ | refine WP.block ?_ | refine go_n ?_ | refine WP.skip ?_ | refine WP.exit ?_ | refine WP.ret ?_ | refine go_x ?_ | refine go_r ?_ | refine bl_n ?_ | refine bl_r ?_ | refine bl_x ?_ | refine bo_r ?_ | (refine wp_cond (by rfl) (fun hc => ?_) (fun hc => ?_) <;> (try simp only [sB, ne_eq, reduceCtorEq] at hc) <;> (try (exfalso; omega))) | (refine WP.regionC (id := 2) ?_; (refine su (ap_lss (rq_p rfl rfl) (rq_p rfl rfl)) ?_); refine asemC_end ?_) | (refine WP.regionC (id := 3) ?_; (refine su (ap_move (rq_p rfl rfl)) ?_); (refine su (ap_assign (rq_p rfl rfl)) ?_); refine asemC_end ?_) | (refine WP.regionC (id := 4) ?_; (refine su (ap_move (rq_p rfl rfl)) ?_); (refine su (ap_move (rq_p rfl rfl)) ?_); (refine su (ap_move (rq_p rfl rfl)) ?_); (refine su (ap_idx_n (rq_p rfl rfl) (rq_p rfl rfl) (by omega)) ?_); (refine su (ap_load_w (rq_p rfl rfl) (by rfl)) ?_); (refine sc_p rfl rfl (by first | ((repeat' first | refine SubL.cons ?_ ?_ | exact SubL.rfl | exact Sub.refl); done) | fail) (by first | (simp [bdL, bdL_append, AV.bd, *]; done) | fail) (h _ (nth_mem (by omega))) ?_); refine asemC_end ?_) | (refine WP.regionC (id := 5) ?_; (refine su (ap_move (rq_p rfl rfl)) ?_); (refine su (ap_assign (rq_p rfl rfl)) ?_); refine asemC_end ?_) | (refine WP.regionC (id := 6) ?_; (refine su (ap_add (rq_p rfl rfl) (rq_p rfl rfl) (by exact inr_i64_of (by omega))) ?_); (refine su (ap_move (rq_p rfl rfl)) ?_); refine asemC_end ?_) | (refine WP.regionC (id := 7) ?_; (refine su (ap_assign (rq_p rfl rfl)) ?_); refine asemC_end ?_) | refine ret_i (by rfl) ?_))
  · exact (indexP_at (by omega) hall hc).symm
  · exact ⟨k + 1, ⟨by omega, by omega, take_any_succ (by omega) hall hc⟩, ⟨[], ToR.S rfl (by repeat' (first | exact rt_nil | refine rt_e (by rfl) (by rfl) ?_ | refine rt_p (by rfl) (by rfl) (by first | (simp [AV.bd, bdL, bdL_append]; done) | (simp [AV.bd, bdL, bdL_append, *]; done) | fail) ?_)) (by repeat' (exact ro_nil)) (by rfl) (by (rw [hm]; exact rfl)) (by rfl) (by simp [bdT, AV.bd, bdL, bdL_append, *]) (by repeat' (exact True.intro)) (by (rw [hm]; exact Nat.le_of_ble_eq_true rfl))⟩⟩
  · exact (indexP_no (by omega) hall).symm
theorem containsFuncA_fn (l : List GAl) (g : FuncId) (cap : List AV) (p : GAl → Bool) (hcap : ∀ n, bdL n cap = true) (h : ∀ x, x ∈ l → Fn Try.prog g (altA x :: cap) (boolA (p x))) :
    Fn Try.prog 71 [altsA l, .clo (.func g) [] cap] (boolA (l.any p)) := by
  refine Fn.intro (by rfl) (by kernel_rfl) Try.func71 rfl rfl Try.ntmps71 (by exact Nat.le_of_ble_eq_true rfl) ?_; intro Γ hm
  (repeat' (first | refine WP.seq ?_ | refine go_n ?_ | refine WP.ret ?_ | refine bo_r ?_ | (refine WP.regionC (id := 0) ?_; (refine su (ap_assign (rq_p rfl rfl)) ?_); refine asemC_end ?_) | (refine WP.regionC (id := 1) ?_; (refine su (ap_move (rq_p rfl rfl)) ?_); (refine su (ap_move (rq_p rfl rfl)) ?_); (refine sc_p rfl rfl (by first | ((repeat' first | exact SubL.nil | refine SubL.cons ?_ ?_ | exact Sub.refl); done) | fail) (by first | (simp [bdL, bdL_append, AV.bd, *]; done) | fail) (indexFuncA_fn _ _ _ p hcap h) ?_); (refine su (ap_geq (rq_p rfl rfl) (rq_p rfl rfl)) ?_); (refine su (ap_assign (rq_p rfl rfl)) ?_); refine asemC_end ?_) | refine ret_b (by rfl) ?_))
  exact indexP_any
theorem expr1_fn (k : GEx) (d : Int) (h1 : 1 ≤ d) (h2 : d ≤ 1000) (h : Fn Try.prog 73 [exprA k, intA (d - 1)] (boolA (okE k (d - 1)))) : Fn Try.prog 82 [exprA k, .iptr [intA d] 0] (boolA (!okE k (d - 1))) := by
  refine Fn.intro (by rfl) (by kernel_rfl) Try.func82 rfl rfl Try.ntmps82 (by exact Nat.le_of_ble_eq_true rfl) ?_; intro Γ hm
  (repeat' (first | refine WP.seq ?_ | refine go_n ?_ | refine WP.ret ?_ | refine bo_r ?_ | (refine WP.regionC (id := 0) ?_; (refine se_box (by rfl) (by exact ⟨rfl, rfl⟩) ?_); (refine su (ap_assign (rq_p rfl rfl)) ?_); refine asemC_end ?_) | (refine WP.regionC (id := 1) ?_; (refine su (ap_load_pw (rq_p rfl rfl) (by rfl) (by rfl) (by rfl)) ?_); (refine su (ap_load_i (rq_p rfl rfl) (by rfl)) ?_); (refine su (ap_sub (rq_p rfl rfl) (rq_p rfl rfl) (by exact inr_i64_of (by omega))) ?_); (refine sc_p rfl rfl (by first | ((repeat' first | exact SubL.nil | refine SubL.cons ?_ ?_ | exact Sub.refl); done) | fail) (by first | (simp [bdL, bdL_append, AV.bd]; done) | fail) (h) ?_); (refine su (ap_not (rq_p rfl rfl)) ?_); (refine su (ap_assign (rq_p rfl rfl)) ?_); refine asemC_end ?_) | exact ret_eq (by rfl) (by rfl) rfl))
theorem any_not_all {α : Type} (p : α → Bool) (l : List α) : l.any (fun x => !p x) = !l.all p := by
  induction l with
  | nil => rfl
  | cons x l ih => simp only [List.any_cons, List.all_cons, ih, Bool.not_and]
theorem expr_fn (e : GEx) : ∀ d : Int, 0 ≤ d → d ≤ 1000 → Fn Try.prog 73 [exprA e, intA d] (boolA (okE e d)) := by
  induction e using GEx.ind with
  | h e ih =>
    intro d h0 h1
    rw [okE_eq, exprA, kids_exprsA]
    generalize hkd : e.kids = kids at *
    generalize e.kind = kk
    generalize e.name = nm
    clear hkd e
    by_cases hd : d < 1
    · refine Fn.intro (by rfl) (by kernel_rfl) Try.func73 rfl rfl Try.ntmps73 (by exact Nat.le_of_ble_eq_true rfl) ?_; intro Γ hm
      (repeat' (first | refine WP.seq ?_ | refine go_n ?_ | refine WP.ret ?_ | refine go_r ?_ | refine bo_r ?_ | (refine wp_cond (by rfl) (fun hc => ?_) (fun hc => ?_) <;> (try simp only [sB, ne_eq, reduceCtorEq] at hc) <;> (try (exfalso; omega))) | (refine WP.regionC (id := 0) ?_; (refine se_box (by rfl) (by exact ⟨rfl, rfl⟩) ?_); (refine se_box (by rfl) (by exact ⟨rfl, rfl⟩) ?_); (refine su (ap_assign (rq_p rfl rfl)) ?_); refine asemC_end ?_) | (refine WP.regionC (id := 1) ?_; (refine su (ap_load_pw (rq_p rfl rfl) (by rfl) (by rfl) (by rfl)) ?_); (refine su (ap_lss (rq_p rfl rfl) (rq_p rfl rfl)) ?_); (refine su (ap_move (rq_p rfl rfl)) ?_); (refine sg (gq_vf rfl rfl) (fun he => ap_field_p (rq_p rfl rfl) (by rfl) (by rfl)) ?_); (refine sg (gq_vf rfl rfl) (fun he => ap_load_p (rq_c rfl rfl) (by rfl) (by rfl) (by rfl)) ?_); (refine sg (gq_vf rfl rfl) (fun he => ap_neq (rq_c rfl rfl) (rq_p rfl rfl)) ?_); (refine sg (gq_vf rfl rfl) (fun he => ap_move (rq_c rfl rfl)) ?_); (refine sg (gq_ct rfl rfl) (fun he => ap_field_p (rq_p rfl rfl) (by rfl) (by rfl)) ?_); (refine sg (gq_ct rfl rfl) (fun he => ap_load_p (rq_c rfl rfl) (by rfl) (by rfl) (by rfl)) ?_); (refine sg (gq_ct rfl rfl) (fun he => ap_nes (rq_c rfl rfl) (rq_p rfl rfl)) ?_); (refine sg (gq_vf rfl rfl) (fun he => ap_and (rq_c rfl rfl) (rq_c rfl rfl)) ?_); (refine su (ap_or (rq_p rfl rfl) (rq_c rfl rfl)) ?_); refine asemC_end ?_) | (refine WP.regionC (id := 2) ?_; (refine su (ap_assign (rq_p rfl rfl)) ?_); refine asemC_end ?_) | refine ret_b (by rfl) ?_))
      rw [decide_eq_false (show ¬ 1 ≤ d by omega)]; rfl
    have hd1 : decide (1 ≤ d) = true := by simp; omega
    have c1 : decide ((kids.length : Int) = 1) = decide (kids.length = 1) := by rw [Bool.eq_iff_iff]; simp; omega
    have c2 : decide (2 ≤ (kids.length : Int)) = decide (2 ≤ kids.length) := by rw [Bool.eq_iff_iff]; simp; omega
    have hB := containsFuncE_fn kids 82 [.iptr [intA d] 0] (fun x => !okE x (d - 1)) (fun n => by simp [bdL, AV.bd, AV.cells]) (fun x hx => expr1_fn x d (by omega) h1 (ih x hx (d - 1) (by omega) (by omega)))
    refine Fn.intro (by rfl) (by kernel_rfl) Try.func73 rfl rfl Try.ntmps73 (by exact Nat.le_of_ble_eq_true rfl) ?_; intro Γ hm
    (repeat' (first | refine WP.seq ?_ | refine WP.block ?_ | refine go_n ?_ | refine WP.skip ?_ | refine WP.ret ?_ | refine go_r ?_ | refine bl_n ?_ | refine bo_r ?_ | (refine wp_cond (by rfl) (fun hc => ?_) (fun hc => ?_) <;> (try simp only [sB, ne_eq, reduceCtorEq] at hc) <;> (try (exfalso; omega))) | (refine WP.regionC (id := 0) ?_; (refine se_box (by rfl) (by exact ⟨rfl, rfl⟩) ?_); (refine se_box (by rfl) (by exact ⟨rfl, rfl⟩) ?_); (refine su (ap_assign (rq_p rfl rfl)) ?_); refine asemC_end ?_) | (refine WP.regionC (id := 1) ?_; (refine su (ap_load_pw (rq_p rfl rfl) (by rfl) (by rfl) (by rfl)) ?_); (refine su (ap_lss (rq_p rfl rfl) (rq_p rfl rfl)) ?_); (refine su (ap_move (rq_p rfl rfl)) ?_); (refine sg (gq_vf rfl rfl) (fun he => ap_field_p (rq_p rfl rfl) (by rfl) (by rfl)) ?_); (refine sg (gq_vf rfl rfl) (fun he => ap_load_p (rq_c rfl rfl) (by rfl) (by rfl) (by rfl)) ?_); (refine sg (gq_vf rfl rfl) (fun he => ap_neq (rq_c rfl rfl) (rq_p rfl rfl)) ?_); (refine sg (gq_vf rfl rfl) (fun he => ap_move (rq_c rfl rfl)) ?_); (refine sg (gq_ct rfl rfl) (fun he => ap_field_p (rq_p rfl rfl) (by rfl) (by rfl)) ?_); (refine sg (gq_ct rfl rfl) (fun he => ap_load_p (rq_c rfl rfl) (by rfl) (by rfl) (by rfl)) ?_); (refine sg (gq_ct rfl rfl) (fun he => ap_nes (rq_c rfl rfl) (rq_p rfl rfl)) ?_); (refine sg (gq_vf rfl rfl) (fun he => ap_and (rq_c rfl rfl) (rq_c rfl rfl)) ?_); (refine su (ap_or (rq_p rfl rfl) (rq_c rfl rfl)) ?_); refine asemC_end ?_) | (refine WP.regionC (id := 2) ?_; (refine su (ap_assign (rq_p rfl rfl)) ?_); refine asemC_end ?_) | (refine WP.regionC (id := 3) ?_; (refine su (ap_field_p (rq_p rfl rfl) (by rfl) (by rfl)) ?_); (refine su (ap_load_p (rq_p rfl rfl) (by rfl) (by rfl) (by rfl)) ?_); (refine su (ap_len_m (by rfl) (rq_p rfl rfl)) ?_); (refine su (ap_assign (rq_p rfl rfl)) ?_); (refine su (ap_assign (rq_p rfl rfl)) ?_); refine asemC_end ?_) | (refine WP.regionC (id := 4) ?_; (refine su (ap_field_p (rq_p rfl rfl) (by rfl) (by rfl)) ?_); (refine su (ap_load_p (rq_p rfl rfl) (by rfl) (by rfl) (by rfl)) ?_); refine asemC_end ?_) | (refine WP.regionC (id := 5) ?_; (refine su (ap_eql (rq_p rfl rfl) (rq_p rfl rfl)) ?_); (refine su (ap_assign (rq_p rfl rfl)) ?_); refine asemC_end ?_) | (refine WP.regionC (id := 6) ?_; (refine su (ap_field_p (rq_p rfl rfl) (by rfl) (by rfl)) ?_); (refine su (ap_load_p (rq_p rfl rfl) (by rfl) (by rfl) (by rfl)) ?_); (refine sc_p rfl rfl (by first | ((repeat' first | exact SubL.nil | refine SubL.cons ?_ ?_ | exact Sub.refl); done) | fail) (by first | (simp [bdL, bdL_append, AV.bd]; done) | fail) (name_fn _) ?_); (refine su (ap_move (rq_p rfl rfl)) ?_); (refine sg (gq_vt rfl rfl) (fun he => ap_move (rq_p rfl rfl)) ?_); (refine sg (gq_vt rfl rfl) (fun he => ap_eql (rq_c rfl rfl) (rq_p rfl rfl)) ?_); (refine su (ap_and (rq_p rfl rfl) (rq_c rfl rfl)) ?_); (refine su (ap_assign (rq_p rfl rfl)) ?_); refine asemC_end ?_) | (refine WP.regionC (id := 7) ?_; (refine su (ap_eql (rq_p rfl rfl) (rq_p rfl rfl)) ?_); (refine su (ap_assign (rq_p rfl rfl)) ?_); refine asemC_end ?_) | (refine WP.regionC (id := 8) ?_; (refine su (ap_move (rq_p rfl rfl)) ?_); (refine su (ap_neq (rq_p rfl rfl) (rq_p rfl rfl)) ?_); (refine su (ap_assign (rq_p rfl rfl)) ?_); refine asemC_end ?_) | (refine WP.regionC (id := 9) ?_; (refine su (ap_eql (rq_p rfl rfl) (rq_p rfl rfl)) ?_); (refine su (ap_assign (rq_p rfl rfl)) ?_); refine asemC_end ?_) | (refine WP.regionC (id := 10) ?_; (refine su (ap_move (rq_p rfl rfl)) ?_); (refine su (ap_geq (rq_p rfl rfl) (rq_p rfl rfl)) ?_); (refine su (ap_assign (rq_p rfl rfl)) ?_); refine asemC_end ?_) | (refine WP.regionC (id := 11) ?_; (refine su (ap_eql (rq_p rfl rfl) (rq_p rfl rfl)) ?_); (refine su (ap_assign (rq_p rfl rfl)) ?_); refine asemC_end ?_) | (refine WP.regionC (id := 12) ?_; (refine su (ap_eql (rq_p rfl rfl) (rq_p rfl rfl)) ?_); (refine su (ap_assign (rq_p rfl rfl)) ?_); refine asemC_end ?_) | (refine WP.regionC (id := 13) ?_; (refine su (ap_eql (rq_p rfl rfl) (rq_p rfl rfl)) ?_); (refine su (ap_assign (rq_p rfl rfl)) ?_); refine asemC_end ?_) | (refine WP.regionC (id := 14) ?_; (refine su (ap_move (rq_p rfl rfl)) ?_); (refine su (ap_eql (rq_p rfl rfl) (rq_p rfl rfl)) ?_); (refine su (ap_assign (rq_p rfl rfl)) ?_); refine asemC_end ?_) | (refine WP.regionC (id := 15) ?_; (refine su (ap_move (rq_p rfl rfl)) ?_); (refine su (ap_move (rq_p rfl rfl)) ?_); (refine sg (gq_vt rfl rfl) (fun he => ap_field_p (rq_p rfl rfl) (by rfl) (by rfl)) ?_); (refine sg (gq_vt rfl rfl) (fun he => ap_load_p (rq_c rfl rfl) (by rfl) (by rfl) (by rfl)) ?_); (refine sg (gq_vt rfl rfl) (fun he => ap_clo (RqL.nil) (RqL.cons (rq_p rfl rfl) (RqL.nil))) ?_); (first | refine sk_no (by rfl) (by rfl) ?_ | refine sg_b (gq_vt rfl rfl) (fun he => ⟨(rq_p rfl rfl), (RqL.cons (rq_c rfl rfl) (RqL.cons (rq_c rfl rfl) (RqL.nil))), (by first | ((repeat' first | exact FzL.nil | refine FzL.cons ?_ ?_ | (exact Fz.reflp (by simp [AV.bd, bdL, bdL_append])) | refine Fz.ptrL (by rfl) (by rfl) ?_ | refine Fz.cloL ?_ ?_); done) | fail), hB, (by rfl)⟩) ?_); (first | refine sg (gq_vt rfl rfl) (fun he => ap_not (rq_c rfl rfl)) ?_ | refine sk_no (by rfl) (by rfl) ?_); (first | refine su (ap_and (rq_p rfl rfl) (rq_c rfl rfl)) ?_ | refine pk_f (by rfl) (by rfl) ?_); (refine su (ap_assign (rq_p rfl rfl)) ?_); refine asemC_end ?_) | refine ret_b (by rfl) ?_))
    · rcases hc with hc | hc
      · omega
      · simp [okK, hc.1, hc.2]
    · rw [any_not_all, Bool.not_not]; subst hc; simp [okK, hd1]
    · rw [any_not_all, Bool.not_not]; simp only [c1, c2]; clear c1 c2 hB ih; simp_all [okK]
    · rw [any_not_all, Bool.not_not]; simp only [c1, c2]; clear c1 c2 hB ih; simp_all [okK]
    · rw [any_not_all, Bool.not_not]; simp only [c1, c2]; clear c1 c2 hB ih; simp_all [okK]
    · rw [any_not_all, Bool.not_not]; simp only [c1, c2]; clear c1 c2 hB ih; simp_all [okK]
    · rw [any_not_all, Bool.not_not]; simp only [c1, c2]; clear c1 c2 hB ih; simp_all [okK]
    · simp [okK, *]
def altOk (a : GAl) : Bool := decide (0 ≤ a.price) && decide (a.price ≤ 1000) && okE a.body 30
theorem rule1_fn (a : GAl) : Fn Try.prog 72 [altA a] (boolA (!altOk a)) := by
  unfold altA
  refine Fn.intro (by rfl) (by kernel_rfl) Try.func72 rfl rfl Try.ntmps72 (by exact Nat.le_of_ble_eq_true rfl) ?_; intro Γ hm
  (repeat' (first | refine WP.seq ?_ | refine go_n ?_ | refine WP.ret ?_ | refine bo_r ?_ | (refine WP.regionC (id := 0) ?_; (refine se_box (by rfl) (by exact ⟨rfl, rfl⟩) ?_); (refine su (ap_assign (rq_p rfl rfl)) ?_); refine asemC_end ?_) | (refine WP.regionC (id := 1) ?_; (refine su (ap_field_p (rq_p rfl rfl) (by rfl) (by rfl)) ?_); (refine su (ap_load_p (rq_p rfl rfl) (by rfl) (by rfl) (by rfl)) ?_); (refine su (ap_lss (rq_p rfl rfl) (rq_p rfl rfl)) ?_); (refine su (ap_move (rq_p rfl rfl)) ?_); (refine sg (gq_vf rfl rfl) (fun he => ap_field_p (rq_p rfl rfl) (by rfl) (by rfl)) ?_); (refine sg (gq_vf rfl rfl) (fun he => ap_load_p (rq_c rfl rfl) (by rfl) (by rfl) (by rfl)) ?_); (refine sg (gq_vf rfl rfl) (fun he => ap_gtr (rq_c rfl rfl) (rq_p rfl rfl)) ?_); (refine su (ap_or (rq_p rfl rfl) (rq_c rfl rfl)) ?_); (refine su (ap_move (rq_p rfl rfl)) ?_); (refine sg (gq_vf rfl rfl) (fun he => ap_field_p (rq_p rfl rfl) (by rfl) (by rfl)) ?_); (refine sg (gq_vf rfl rfl) (fun he => ap_load_p (rq_c rfl rfl) (by rfl) (by rfl) (by rfl)) ?_); (refine sg_p (gq_vf rfl rfl) (fun he => ⟨(rq_p rfl rfl), (RqL.cons (rq_c rfl rfl) (RqL.cons (rq_p rfl rfl) (RqL.nil))), (by first | ((repeat' first | exact SubL.nil | refine SubL.cons ?_ ?_ | exact Sub.refl); done) | fail), (by first | (simp [bdL, bdL_append, AV.bd, AV.cells]; done) | fail), expr_fn a.body 30 (by decide) (by decide)⟩) ?_); (refine sg (gq_vf rfl rfl) (fun he => ap_not (rq_c rfl rfl)) ?_); (refine su (ap_or (rq_p rfl rfl) (rq_c rfl rfl)) ?_); (refine su (ap_assign (rq_p rfl rfl)) ?_); refine asemC_end ?_) | refine ret_b (by rfl) ?_))
  simp only [altOk]; rw [Bool.eq_iff_iff]; simp
def gruleOk (r : GRu) : Bool := !decide (r.alts = []) && r.alts.all altOk
theorem rule_fn (r : GRu) : Fn Try.prog 59 [gruleA r] (boolA (gruleOk r)) := by
  refine Fn.intro (by rfl) (by kernel_rfl) Try.func59 rfl rfl Try.ntmps59 (by exact Nat.le_of_ble_eq_true rfl) ?_; intro Γ hm
  (repeat' (first | refine WP.seq ?_ | refine go_n ?_ | refine WP.ret ?_ | refine bo_r ?_ | (refine WP.regionC (id := 0) ?_; (refine se_box (by rfl) (by exact ⟨rfl, rfl⟩) ?_); (refine su (ap_assign (rq_p rfl rfl)) ?_); refine asemC_end ?_) | (refine WP.regionC (id := 1) ?_; (refine su (ap_field_p (rq_p rfl rfl) (by rfl) (by rfl)) ?_); (refine su (ap_load_p (rq_p rfl rfl) (by rfl) (by rfl) (by rfl)) ?_); (refine su (ap_len_m (by rfl) (rq_p rfl rfl)) ?_); (refine su (ap_gtr (rq_p rfl rfl) (rq_p rfl rfl)) ?_); (refine su (ap_move (rq_p rfl rfl)) ?_); (refine sg (gq_vt rfl rfl) (fun he => ap_field_p (rq_p rfl rfl) (by rfl) (by rfl)) ?_); (refine sg (gq_vt rfl rfl) (fun he => ap_load_p (rq_c rfl rfl) (by rfl) (by rfl) (by rfl)) ?_); (refine sg_p (gq_vt rfl rfl) (fun he => ⟨(rq_p rfl rfl), (RqL.cons (rq_c rfl rfl) (RqL.cons (rq_p rfl rfl) (RqL.nil))), (by first | ((repeat' first | exact SubL.nil | refine SubL.cons ?_ ?_ | exact Sub.refl); done) | fail), (by first | (simp [bdL, bdL_append, AV.bd]; done) | fail), containsFuncA_fn r.alts 72 [] (fun x => !altOk x) (fun n => rfl) (fun x hx => rule1_fn x)⟩) ?_); (refine sg (gq_vt rfl rfl) (fun he => ap_not (rq_c rfl rfl)) ?_); (refine su (ap_and (rq_p rfl rfl) (rq_c rfl rfl)) ?_); (refine su (ap_assign (rq_p rfl rfl)) ?_); refine asemC_end ?_) | refine ret_b (by rfl) ?_))
  rw [any_not_all, Bool.not_not]
  simp only [gruleOk]; rw [Bool.eq_iff_iff]; simp [List.length_pos_iff]
def distOk (l : List ByteArray) : Bool := l.all gnOk && decide l.Nodup
theorem distinct_fn (l : List ByteArray) (hl : l.length ≤ 9223372036854775807) : Fn Try.prog 60 [strsA l] (boolA (distOk l)) := by
  refine Fn.intro (by rfl) (by kernel_rfl) Try.func60 rfl rfl Try.ntmps60 (by exact Nat.le_of_ble_eq_true rfl) ?_; intro Γ hm
  (repeat' (first | refine WP.seq ?_ | refine WP.block ?_ | refine go_n ?_ | (refine WP.regionC (id := 0) ?_; (refine su (ap_assign (rq_p rfl rfl)) ?_); refine asemC_end ?_) | (refine WP.regionC (id := 1) ?_; (refine su (ap_move (rq_p rfl rfl)) ?_); (refine su (ap_len_m (by rfl) (rq_p rfl rfl)) ?_); (refine su (ap_move (rq_p rfl rfl)) ?_); refine asemC_end ?_)))
  refine wp_loop (fun k => k ≤ l.length ∧ ∀ j, j < k → gnOk (nth l j) = true ∧ ∀ i, i < j → nth l i ≠ nth l j) (fun k => l.length - k) (fun k => (S 23 [(0, strsA l), (5, strsA l), (6, intA (l.length : Nat)), (7, intA (k : Nat))] 0 [])) 0 ⟨[], ToR.S rfl (by repeat' (first | exact rt_nil | refine rt_e (by rfl) (by rfl) ?_ | refine rt_p (by rfl) (by rfl) (by first | (simp [AV.bd, bdL, bdL_append]; done) | fail) ?_)) (by repeat' (exact ro_nil)) (by rfl) (by (rw [hm]; exact rfl)) (by rfl) (by (simp [bdT, AV.bd, bdL, bdL_append]; done)) (by repeat' (exact True.intro)) (by (rw [hm]; exact Nat.le_of_ble_eq_true rfl))⟩ ⟨Nat.zero_le _, by simp⟩ ?_
  rintro k ⟨hk, hall⟩
  (repeat' (first | refine WP.seq ?_ | refine WP.block ?_ | refine go_n ?_ | refine WP.skip ?_ | refine WP.exit ?_ | refine WP.ret ?_ | refine go_x ?_ | refine go_r ?_ | refine bl_n ?_ | refine bl_r ?_ | refine bl_x ?_ | refine bo_r ?_ | (refine wp_cond (by rfl) (fun hc => ?_) (fun hc => ?_) <;> (try simp only [sB, ne_eq, reduceCtorEq] at hc) <;> (try (exfalso; omega))) | (refine WP.regionC (id := 2) ?_; (refine su (ap_lss (rq_p rfl rfl) (rq_p rfl rfl)) ?_); refine asemC_end ?_) | (refine WP.regionC (id := 3) ?_; (refine su (ap_move (rq_p rfl rfl)) ?_); (refine su (ap_idx_n (rq_p rfl rfl) (rq_p rfl rfl) (by omega)) ?_); (refine su (ap_load_w (rq_p rfl rfl) (by rfl)) ?_); (refine su (ap_assign (rq_p rfl rfl)) ?_); (refine su (ap_assign (rq_p rfl rfl)) ?_); refine asemC_end ?_) | (refine WP.regionC (id := 4) ?_; (refine su (ap_move (rq_p rfl rfl)) ?_); (refine sc_p rfl rfl (by first | ((repeat' first | exact SubL.nil | refine SubL.cons ?_ ?_ | exact Sub.refl); done) | fail) (by first | (simp [bdL, bdL_append, AV.bd]; done) | fail) (name_fn _) ?_); (refine su (ap_not (rq_p rfl rfl)) ?_); (refine su (ap_move (rq_p rfl rfl)) ?_); (refine sg (gq_vf rfl rfl) (fun he => ap_move (rq_p rfl rfl)) ?_); (refine sg (gq_vf rfl rfl) (fun he => ap_move (rq_p rfl rfl)) ?_); (refine sg (gq_vf rfl rfl) (fun he => ap_slice_m (rq_c rfl rfl) (by exact bq_none) (by exact bq_some (rq_c rfl rfl)) (by (try simp only [sH, id, sB, ne_eq, reduceCtorEq] at he); omega)) ?_); (refine sg (gq_vf rfl rfl) (fun he => ap_move (rq_p rfl rfl)) ?_); (refine sg_p (gq_vf rfl rfl) (fun he => ⟨(rq_p rfl rfl), (RqL.cons (rq_c rfl rfl) (RqL.cons (rq_c rfl rfl) (RqL.nil))), (by first | ((repeat' first | exact SubL.nil | refine SubL.cons ?_ ?_ | exact Sub.refl); done) | fail), (by first | (simp [bdL, bdL_append, AV.bd]; done) | fail), containsS_fn ((l.take (k : Int).toNat).drop (0 : Int).toNat) (nth l k)⟩) ?_); (refine su (ap_or (rq_p rfl rfl) (rq_c rfl rfl)) ?_); refine asemC_end ?_) | (refine WP.regionC (id := 5) ?_; (refine su (ap_assign (rq_p rfl rfl)) ?_); refine asemC_end ?_) | (refine WP.regionC (id := 6) ?_; (refine su (ap_add (rq_p rfl rfl) (rq_p rfl rfl) (by exact inr_i64_of (by omega))) ?_); (refine su (ap_move (rq_p rfl rfl)) ?_); refine asemC_end ?_) | (refine WP.regionC (id := 7) ?_; (refine su (ap_assign (rq_p rfl rfl)) ?_); refine asemC_end ?_) | refine ret_b (by rfl) ?_))
  · rcases hc with hc | hc
    · rw [show distOk l = false by simp only [distOk, all_nth_no (l := l) (k := k) (by omega) hc, Bool.false_and]]
    · rw [List.any_eq_true] at hc
      obtain ⟨y, hy, he⟩ := hc
      simp only [Int.toNat_natCast, Int.toNat_zero, List.drop_zero, decide_eq_true_eq] at hy he
      obtain ⟨i, hi, rfl⟩ := List.mem_take_iff_getElem.1 hy
      rw [show distOk l = false by simp only [distOk, decide_eq_false (not_nodup (l := l) (j := k) (k := i) (by omega) (by omega) (by rw [nth_eq (by omega)]; exact he.symm)), Bool.and_false]]
  · refine ⟨k + 1, ⟨by omega, by omega, fun j hj => ?_⟩, ⟨[], ToR.S rfl (by repeat' (first | exact rt_nil | refine rt_e (by rfl) (by rfl) ?_ | refine rt_p (by rfl) (by rfl) (by first | (simp [AV.bd, bdL, bdL_append]; done) | fail) ?_)) (by repeat' (exact ro_nil)) (by rfl) (by (rw [hm]; exact rfl)) (by rfl) (by (simp [bdT, AV.bd, bdL, bdL_append]; done)) (by repeat' (exact True.intro)) (by (rw [hm]; exact Nat.le_of_ble_eq_true rfl))⟩⟩
    by_cases h : j = k
    · subst h
      refine ⟨hc.1, fun i hi e => ?_⟩
      have h2 := hc.2
      rw [List.any_eq_false] at h2
      refine h2 (nth l i) ?_ (by simp [e])
      simp only [Int.toNat_natCast, Int.toNat_zero, List.drop_zero]
      rw [nth_eq (by omega)]
      exact List.mem_take_iff_getElem.2 ⟨i, by omega, rfl⟩
    · exact hall j (by omega)
  have : k = l.length := by omega
  subst this
  simp only [distOk, all_of_nth fun j hj => (hall j hj).1, decide_eq_true (nodup_nth fun j hj => (hall j hj).2), Bool.and_true]
end Go.Lg

namespace Go.Lg
open Go.Proofs
set_option linter.unusedSimpArgs false
set_option linter.unusedVariables false
attribute [local irreducible] Ap Rq asemC WP RunD Ret Gq thenA inBlockA bodyQ noGotoA RqL RqP OpP
set_option maxHeartbeats 4000000
theorem rexpr_fn (e : GEx) (he : e.fit) : ∀ d : Int, 0 ≤ d → d ≤ 1000 → Fn Try.prog 37 [exprA e, intA d] (boolA (okE e d)) := by
  induction e using GEx.ind with
  | h e ih =>
    intro d h0 h1
    obtain ⟨hnm, hks⟩ := GEx.fit_iff.1 he
    rw [okE_eq, exprA, kids_exprsA]
    generalize hkd : e.kids = kids at *
    generalize e.kind = kk
    generalize hn : e.name = nm at *
    clear hkd hn he e
    unfold SzOk at hnm
    have ih' := fun x hx => ih x hx (hks x hx)
    have ig : ∀ x, x ∈ kids → ∀ d, 0 ≤ d → d ≤ 1000 → Fn Try.prog 37 [exprA x, intA d] (boolA (okE x d)) := ih'
    clear ih ih' hks
    have hgn : gnOk nm = true → ¬ nm = ⟨#[]⟩ := by rintro h rfl; exact absurd h (by decide)
    refine Fn.intro (by rfl) (by kernel_rfl) Try.func37 rfl rfl Try.ntmps37 (by exact Nat.le_of_ble_eq_true rfl) ?_; intro Γ hm
    refine wp_lens 0 rfl fun hl => ?_
    have hl : kids.length ≤ 9223372036854775807 := by have := hl; simp [AV.lens, lensL, exprsA] at this; omega
    have hk8 : kk ≤ 0 ∨ 7 ≤ kk ∨ kk = 1 ∨ kk = 2 ∨ kk = 3 ∨ kk = 4 ∨ kk = 5 ∨ kk = 6 := by omega
    by_cases hok : d < 1 ∨ okK kk nm kids.length = false
    · have e1 : (decide (1 ≤ d) && okK kk nm kids.length && kids.all fun k => okE k (d - 1)) = false := by
        rcases hok with h | h
        · rw [decide_eq_false (show ¬ 1 ≤ d by omega)]; rfl
        · simp [h]
      rw [e1]
      (repeat' (first | refine WP.seq ?_ | refine WP.block ?_ | refine go_n ?_ | refine WP.skip ?_ | refine WP.ret ?_ | refine go_r ?_ | refine bl_n ?_ | refine bl_r ?_ | refine bo_r ?_ | (refine wp_cond (by rfl) (fun hc => ?_) (fun hc => ?_) <;> (try simp only [sB, ne_eq, reduceCtorEq] at hc) <;> (try (exfalso; omega))) | (refine WP.regionC (id := 0) ?_; (refine se_box (by rfl) (by exact ⟨rfl, rfl⟩) ?_); (refine su (ap_assign (rq_p rfl rfl)) ?_); refine asemC_end ?_) | (refine WP.regionC (id := 1) ?_; (refine su (ap_move (rq_p rfl rfl)) ?_); (refine su (ap_lss (rq_p rfl rfl) (rq_p rfl rfl)) ?_); (refine su (ap_move (rq_p rfl rfl)) ?_); (refine sg (gq_vf rfl rfl) (fun he => ap_field_p (rq_p rfl rfl) (by rfl) (by rfl)) ?_); (refine sg (gq_vf rfl rfl) (fun he => ap_load_p (rq_c rfl rfl) (by rfl) (by rfl) (by rfl)) ?_); (refine sg (gq_vf rfl rfl) (fun he => ap_lss (rq_c rfl rfl) (rq_p rfl rfl)) ?_); (refine su (ap_or (rq_p rfl rfl) (rq_c rfl rfl)) ?_); (refine su (ap_move (rq_p rfl rfl)) ?_); (refine sg (gq_vf rfl rfl) (fun he => ap_field_p (rq_p rfl rfl) (by rfl) (by rfl)) ?_); (refine sg (gq_vf rfl rfl) (fun he => ap_load_p (rq_c rfl rfl) (by rfl) (by rfl) (by rfl)) ?_); (refine sg (gq_vf rfl rfl) (fun he => ap_gtr (rq_c rfl rfl) (rq_p rfl rfl)) ?_); (refine su (ap_or (rq_p rfl rfl) (rq_c rfl rfl)) ?_); (refine su (ap_move (rq_p rfl rfl)) ?_); (refine sg (gq_vf rfl rfl) (fun he => ap_field_p (rq_p rfl rfl) (by rfl) (by rfl)) ?_); (refine sg (gq_vf rfl rfl) (fun he => ap_load_p (rq_c rfl rfl) (by rfl) (by rfl) (by rfl)) ?_); (refine sg (gq_vf rfl rfl) (fun he => ap_eql (rq_c rfl rfl) (rq_p rfl rfl)) ?_); (refine sg (gq_vf rfl rfl) (fun he => ap_field_p (rq_p rfl rfl) (by rfl) (by rfl)) ?_); (refine sg (gq_vf rfl rfl) (fun he => ap_load_p (rq_c rfl rfl) (by rfl) (by rfl) (by rfl)) ?_); (refine sg (gq_vf rfl rfl) (fun he => ap_nes (rq_c rfl rfl) (rq_p rfl rfl)) ?_); (refine sg (gq_vf rfl rfl) (fun he => ap_neb (by kernel_rfl) (rq_c rfl rfl) (rq_c rfl rfl)) ?_); (refine su (ap_or (rq_p rfl rfl) (rq_c rfl rfl)) ?_); refine asemC_end ?_) | (refine WP.regionC (id := 2) ?_; (refine su (ap_assign (rq_p rfl rfl)) ?_); refine asemC_end ?_) | (refine WP.regionC (id := 3) ?_; (refine su (ap_field_p (rq_p rfl rfl) (by rfl) (by rfl)) ?_); (refine su (ap_load_p (rq_p rfl rfl) (by rfl) (by rfl) (by rfl)) ?_); refine asemC_end ?_) | (refine WP.regionC (id := 6) ?_; (refine su (ap_eql (rq_p rfl rfl) (rq_p rfl rfl)) ?_); (refine su (ap_assign (rq_p rfl rfl)) ?_); refine asemC_end ?_) | (refine WP.regionC (id := 7) ?_; (refine su (ap_field_p (rq_p rfl rfl) (by rfl) (by rfl)) ?_); (refine su (ap_load_p (rq_p rfl rfl) (by rfl) (by rfl) (by rfl)) ?_); (refine sc_p rfl rfl (by first | ((repeat' first | exact SubL.nil | refine SubL.cons ?_ ?_ | exact Sub.refl); done) | fail) (by first | (simp [bdL, bdL_append, AV.bd]; done) | fail) (rname_fn _ (by assumption)) ?_); (refine su (ap_not (rq_p rfl rfl)) ?_); (refine su (ap_move (rq_p rfl rfl)) ?_); (refine sg (gq_vf rfl rfl) (fun he => ap_field_p (rq_p rfl rfl) (by rfl) (by rfl)) ?_); (refine sg (gq_vf rfl rfl) (fun he => ap_load_p (rq_c rfl rfl) (by rfl) (by rfl) (by rfl)) ?_); (refine sg (gq_vf rfl rfl) (fun he => ap_len_m (by rfl) (rq_c rfl rfl)) ?_); (refine sg (gq_vf rfl rfl) (fun he => ap_neq (rq_c rfl rfl) (rq_p rfl rfl)) ?_); (refine su (ap_or (rq_p rfl rfl) (rq_c rfl rfl)) ?_); refine asemC_end ?_) | (refine WP.regionC (id := 8) ?_; (refine su (ap_assign (rq_p rfl rfl)) ?_); refine asemC_end ?_) | (refine WP.regionC (id := 9) ?_; (refine su (ap_eql (rq_p rfl rfl) (rq_p rfl rfl)) ?_); (refine su (ap_assign (rq_p rfl rfl)) ?_); refine asemC_end ?_) | (refine WP.regionC (id := 10) ?_; (refine su (ap_field_p (rq_p rfl rfl) (by rfl) (by rfl)) ?_); (refine su (ap_load_p (rq_p rfl rfl) (by rfl) (by rfl) (by rfl)) ?_); (refine su (ap_len_m (by rfl) (rq_p rfl rfl)) ?_); (refine su (ap_eql (rq_p rfl rfl) (rq_p rfl rfl)) ?_); refine asemC_end ?_) | (refine WP.regionC (id := 11) ?_; (refine su (ap_assign (rq_p rfl rfl)) ?_); refine asemC_end ?_) | (refine WP.regionC (id := 12) ?_; (refine su (ap_eql (rq_p rfl rfl) (rq_p rfl rfl)) ?_); (refine su (ap_assign (rq_p rfl rfl)) ?_); refine asemC_end ?_) | (refine WP.regionC (id := 13) ?_; (refine su (ap_field_p (rq_p rfl rfl) (by rfl) (by rfl)) ?_); (refine su (ap_load_p (rq_p rfl rfl) (by rfl) (by rfl) (by rfl)) ?_); (refine su (ap_len_m (by rfl) (rq_p rfl rfl)) ?_); (refine su (ap_lss (rq_p rfl rfl) (rq_p rfl rfl)) ?_); refine asemC_end ?_) | (refine WP.regionC (id := 14) ?_; (refine su (ap_assign (rq_p rfl rfl)) ?_); refine asemC_end ?_) | (refine WP.regionC (id := 4) ?_; (refine su (ap_field_p (rq_p rfl rfl) (by rfl) (by rfl)) ?_); (refine su (ap_load_p (rq_p rfl rfl) (by rfl) (by rfl) (by rfl)) ?_); (refine su (ap_len_m (by rfl) (rq_p rfl rfl)) ?_); (refine su (ap_neq (rq_p rfl rfl) (rq_p rfl rfl)) ?_); refine asemC_end ?_) | (refine WP.regionC (id := 5) ?_; (refine su (ap_assign (rq_p rfl rfl)) ?_); refine asemC_end ?_) | (refine WP.regionC (id := 15) ?_; (refine su (ap_assign (rq_p rfl rfl)) ?_); refine asemC_end ?_) | exact ret_eq (by rfl) (by rfl) rfl))
      all_goals (exfalso; clear ig e1; unfold okK at hok; grind)
    · have hok1 : 1 ≤ d := by omega
      have hok2 : okK kk nm kids.length = true := by simpa using fun h => hok (.inr h)
      have e1 : (decide (1 ≤ d) && okK kk nm kids.length && kids.all fun k => okE k (d - 1)) = kids.all fun k => okE k (d - 1) := by
        rw [hok2, decide_eq_true hok1]; rfl
      rw [e1]
      (repeat' (first | refine WP.seq ?_ | refine WP.block ?_ | refine go_n ?_ | refine WP.skip ?_ | refine WP.ret ?_ | refine go_r ?_ | refine bl_n ?_ | refine bl_r ?_ | refine bo_r ?_ | (refine wp_cond (by rfl) (fun hc => ?_) (fun hc => ?_) <;> (try simp only [sB, ne_eq, reduceCtorEq] at hc) <;> (try (exfalso; omega))) | (refine WP.regionC (id := 0) ?_; (refine se_box (by rfl) (by exact ⟨rfl, rfl⟩) ?_); (refine su (ap_assign (rq_p rfl rfl)) ?_); refine asemC_end ?_) | (refine WP.regionC (id := 1) ?_; (refine su (ap_move (rq_p rfl rfl)) ?_); (refine su (ap_lss (rq_p rfl rfl) (rq_p rfl rfl)) ?_); (refine su (ap_move (rq_p rfl rfl)) ?_); (refine sg (gq_vf rfl rfl) (fun he => ap_field_p (rq_p rfl rfl) (by rfl) (by rfl)) ?_); (refine sg (gq_vf rfl rfl) (fun he => ap_load_p (rq_c rfl rfl) (by rfl) (by rfl) (by rfl)) ?_); (refine sg (gq_vf rfl rfl) (fun he => ap_lss (rq_c rfl rfl) (rq_p rfl rfl)) ?_); (refine su (ap_or (rq_p rfl rfl) (rq_c rfl rfl)) ?_); (refine su (ap_move (rq_p rfl rfl)) ?_); (refine sg (gq_vf rfl rfl) (fun he => ap_field_p (rq_p rfl rfl) (by rfl) (by rfl)) ?_); (refine sg (gq_vf rfl rfl) (fun he => ap_load_p (rq_c rfl rfl) (by rfl) (by rfl) (by rfl)) ?_); (refine sg (gq_vf rfl rfl) (fun he => ap_gtr (rq_c rfl rfl) (rq_p rfl rfl)) ?_); (refine su (ap_or (rq_p rfl rfl) (rq_c rfl rfl)) ?_); (refine su (ap_move (rq_p rfl rfl)) ?_); (refine sg (gq_vf rfl rfl) (fun he => ap_field_p (rq_p rfl rfl) (by rfl) (by rfl)) ?_); (refine sg (gq_vf rfl rfl) (fun he => ap_load_p (rq_c rfl rfl) (by rfl) (by rfl) (by rfl)) ?_); (refine sg (gq_vf rfl rfl) (fun he => ap_eql (rq_c rfl rfl) (rq_p rfl rfl)) ?_); (refine sg (gq_vf rfl rfl) (fun he => ap_field_p (rq_p rfl rfl) (by rfl) (by rfl)) ?_); (refine sg (gq_vf rfl rfl) (fun he => ap_load_p (rq_c rfl rfl) (by rfl) (by rfl) (by rfl)) ?_); (refine sg (gq_vf rfl rfl) (fun he => ap_nes (rq_c rfl rfl) (rq_p rfl rfl)) ?_); (refine sg (gq_vf rfl rfl) (fun he => ap_neb (by kernel_rfl) (rq_c rfl rfl) (rq_c rfl rfl)) ?_); (refine su (ap_or (rq_p rfl rfl) (rq_c rfl rfl)) ?_); refine asemC_end ?_) | (refine WP.regionC (id := 2) ?_; (refine su (ap_assign (rq_p rfl rfl)) ?_); refine asemC_end ?_) | (refine WP.regionC (id := 3) ?_; (refine su (ap_field_p (rq_p rfl rfl) (by rfl) (by rfl)) ?_); (refine su (ap_load_p (rq_p rfl rfl) (by rfl) (by rfl) (by rfl)) ?_); refine asemC_end ?_) | (refine WP.regionC (id := 6) ?_; (refine su (ap_eql (rq_p rfl rfl) (rq_p rfl rfl)) ?_); (refine su (ap_assign (rq_p rfl rfl)) ?_); refine asemC_end ?_) | (refine WP.regionC (id := 7) ?_; (refine su (ap_field_p (rq_p rfl rfl) (by rfl) (by rfl)) ?_); (refine su (ap_load_p (rq_p rfl rfl) (by rfl) (by rfl) (by rfl)) ?_); (refine sc_p rfl rfl (by first | ((repeat' first | exact SubL.nil | refine SubL.cons ?_ ?_ | exact Sub.refl); done) | fail) (by first | (simp [bdL, bdL_append, AV.bd]; done) | fail) (rname_fn _ (by assumption)) ?_); (refine su (ap_not (rq_p rfl rfl)) ?_); (refine su (ap_move (rq_p rfl rfl)) ?_); (refine sg (gq_vf rfl rfl) (fun he => ap_field_p (rq_p rfl rfl) (by rfl) (by rfl)) ?_); (refine sg (gq_vf rfl rfl) (fun he => ap_load_p (rq_c rfl rfl) (by rfl) (by rfl) (by rfl)) ?_); (refine sg (gq_vf rfl rfl) (fun he => ap_len_m (by rfl) (rq_c rfl rfl)) ?_); (refine sg (gq_vf rfl rfl) (fun he => ap_neq (rq_c rfl rfl) (rq_p rfl rfl)) ?_); (refine su (ap_or (rq_p rfl rfl) (rq_c rfl rfl)) ?_); refine asemC_end ?_) | (refine WP.regionC (id := 8) ?_; (refine su (ap_assign (rq_p rfl rfl)) ?_); refine asemC_end ?_) | (refine WP.regionC (id := 9) ?_; (refine su (ap_eql (rq_p rfl rfl) (rq_p rfl rfl)) ?_); (refine su (ap_assign (rq_p rfl rfl)) ?_); refine asemC_end ?_) | (refine WP.regionC (id := 10) ?_; (refine su (ap_field_p (rq_p rfl rfl) (by rfl) (by rfl)) ?_); (refine su (ap_load_p (rq_p rfl rfl) (by rfl) (by rfl) (by rfl)) ?_); (refine su (ap_len_m (by rfl) (rq_p rfl rfl)) ?_); (refine su (ap_eql (rq_p rfl rfl) (rq_p rfl rfl)) ?_); refine asemC_end ?_) | (refine WP.regionC (id := 11) ?_; (refine su (ap_assign (rq_p rfl rfl)) ?_); refine asemC_end ?_) | (refine WP.regionC (id := 12) ?_; (refine su (ap_eql (rq_p rfl rfl) (rq_p rfl rfl)) ?_); (refine su (ap_assign (rq_p rfl rfl)) ?_); refine asemC_end ?_) | (refine WP.regionC (id := 13) ?_; (refine su (ap_field_p (rq_p rfl rfl) (by rfl) (by rfl)) ?_); (refine su (ap_load_p (rq_p rfl rfl) (by rfl) (by rfl) (by rfl)) ?_); (refine su (ap_len_m (by rfl) (rq_p rfl rfl)) ?_); (refine su (ap_lss (rq_p rfl rfl) (rq_p rfl rfl)) ?_); refine asemC_end ?_) | (refine WP.regionC (id := 14) ?_; (refine su (ap_assign (rq_p rfl rfl)) ?_); refine asemC_end ?_) | (refine WP.regionC (id := 4) ?_; (refine su (ap_field_p (rq_p rfl rfl) (by rfl) (by rfl)) ?_); (refine su (ap_load_p (rq_p rfl rfl) (by rfl) (by rfl) (by rfl)) ?_); (refine su (ap_len_m (by rfl) (rq_p rfl rfl)) ?_); (refine su (ap_neq (rq_p rfl rfl) (rq_p rfl rfl)) ?_); refine asemC_end ?_) | (refine WP.regionC (id := 5) ?_; (refine su (ap_assign (rq_p rfl rfl)) ?_); refine asemC_end ?_) | (refine WP.regionC (id := 15) ?_; (refine su (ap_assign (rq_p rfl rfl)) ?_); refine asemC_end ?_) | refine ret_b (by rfl) ?_))
      all_goals try (exfalso; clear ig e1; unfold okK at hok2; grind; done)
      · refine wp_loop (fun (i : Nat) => i ≤ kids.length ∧ (kids.take i).all (fun k => okE k (d - 1)) = true) (fun i => kids.length - i) (fun i => (S 73 [(1, intA d), (2, .ptr 0 3 0 0), (5, intA (i : Nat))] 1 [(0, some (.arr 3 [.agg [intA kk, strA nm, exprsA kids]]))])) 0 ⟨[0], ToR.S rfl (by repeat' (first | exact rt_nil | refine rt_t (by rfl) (by rfl) ?_ | refine rt_e (by rfl) (by rfl) ?_)) (by repeat' (first | exact ro_nil | refine ro_p (by rfl) (by first | exact rfl | fail) (by first | (simp [bdL, bdL_append, AV.bd]; done) | fail) ?_)) (by rfl) (by (rw [hm]; exact rfl)) (by rfl) (by (simp [bdT, AV.bd, bdL, bdL_append]; done)) (by repeat' (first | exact True.intro | refine And.intro ?_ ?_ | (simp [bdOq, bdL, bdL_append, AV.bd]; done))) (by (rw [hm]; exact Nat.le_of_ble_eq_true rfl))⟩ ⟨Nat.zero_le _, rfl⟩ ?_
        rintro i ⟨hi, hall⟩
        (repeat' (first | refine WP.seq ?_ | refine go_n ?_ | refine WP.exit ?_ | refine WP.ret ?_ | refine go_x ?_ | refine bl_x ?_ | refine bo_r ?_ | (refine wp_cond (by rfl) (fun hc => ?_) (fun hc => ?_) <;> (try simp only [sB, ne_eq, reduceCtorEq] at hc) <;> (try (exfalso; omega))) | (refine WP.regionC (id := 16) ?_; (refine su (ap_move (rq_p rfl rfl)) ?_); (refine su (ap_field_p (rq_p rfl rfl) (by rfl) (by rfl)) ?_); (refine su (ap_load_p (rq_p rfl rfl) (by rfl) (by rfl) (by rfl)) ?_); (refine su (ap_len_m (by rfl) (rq_p rfl rfl)) ?_); (refine su (ap_lss (rq_p rfl rfl) (rq_p rfl rfl)) ?_); refine asemC_end ?_) | (refine WP.regionC (id := 20) ?_; (refine su (ap_assign (rq_p rfl rfl)) ?_); refine asemC_end ?_) | refine ret_b (by rfl) ?_))
        rw [all_of_take' (by omega) hall]
      · refine wp_loop (fun (i : Nat) => i ≤ kids.length ∧ (kids.take i).all (fun k => okE k (d - 1)) = true) (fun i => kids.length - i) (fun i => (S 73 [(1, intA d), (2, .ptr 0 3 0 0), (5, intA (i : Nat))] 1 [(0, some (.arr 3 [.agg [intA kk, strA nm, exprsA kids]]))])) 0 ⟨[0], ToR.S rfl (by repeat' (first | exact rt_nil | refine rt_t (by rfl) (by rfl) ?_ | refine rt_e (by rfl) (by rfl) ?_)) (by repeat' (first | exact ro_nil | refine ro_p (by rfl) (by first | exact rfl | fail) (by first | (simp [bdL, bdL_append, AV.bd]; done) | fail) ?_)) (by rfl) (by (rw [hm]; exact rfl)) (by rfl) (by (simp [bdT, AV.bd, bdL, bdL_append]; done)) (by repeat' (first | exact True.intro | refine And.intro ?_ ?_ | (simp [bdOq, bdL, bdL_append, AV.bd]; done))) (by (rw [hm]; exact Nat.le_of_ble_eq_true rfl))⟩ ⟨Nat.zero_le _, rfl⟩ ?_
        rintro i ⟨hi, hall⟩
        by_cases hlt : i < kids.length
        · have hx := ig _ (nth_mem hlt) (d - 1) (by omega) (by omega)
          (repeat' (first | refine WP.seq ?_ | refine WP.block ?_ | refine go_n ?_ | refine WP.skip ?_ | refine WP.ret ?_ | refine go_r ?_ | refine bl_n ?_ | refine bl_r ?_ | refine bo_r ?_ | (refine wp_cond (by rfl) (fun hc => ?_) (fun hc => ?_) <;> (try simp only [sB, ne_eq, reduceCtorEq] at hc) <;> (try (exfalso; omega))) | (refine WP.regionC (id := 16) ?_; (refine su (ap_move (rq_p rfl rfl)) ?_); (refine su (ap_field_p (rq_p rfl rfl) (by rfl) (by rfl)) ?_); (refine su (ap_load_p (rq_p rfl rfl) (by rfl) (by rfl) (by rfl)) ?_); (refine su (ap_len_m (by rfl) (rq_p rfl rfl)) ?_); (refine su (ap_lss (rq_p rfl rfl) (rq_p rfl rfl)) ?_); refine asemC_end ?_) | (refine WP.regionC (id := 18) ?_; (refine su (ap_field_p (rq_p rfl rfl) (by rfl) (by rfl)) ?_); (refine su (ap_load_p (rq_p rfl rfl) (by rfl) (by rfl) (by rfl)) ?_); (refine su (ap_move (rq_p rfl rfl)) ?_); (refine su (ap_idx_n (rq_p rfl rfl) (rq_p rfl rfl) (by omega)) ?_); (refine su (ap_load_w (rq_p rfl rfl) (by rfl)) ?_); (refine su (ap_move (rq_p rfl rfl)) ?_); (refine su (ap_sub (rq_p rfl rfl) (rq_p rfl rfl) (by exact inr_i64_of (by omega))) ?_); (refine sc_p rfl rfl (by first | ((repeat' first | exact SubL.nil | refine SubL.cons ?_ ?_ | exact Sub.refl); done) | fail) (by first | (simp [bdL, bdL_append, AV.bd]; done) | fail) (hx) ?_); (refine su (ap_not (rq_p rfl rfl)) ?_); refine asemC_end ?_) | (refine WP.regionC (id := 19) ?_; (refine su (ap_assign (rq_p rfl rfl)) ?_); refine asemC_end ?_) | (refine WP.regionC (id := 17) ?_; (refine su (ap_move (rq_p rfl rfl)) ?_); (refine su (ap_add (rq_p rfl rfl) (rq_p rfl rfl) (by exact inr_i64_of (by omega))) ?_); (refine su (ap_assign (rq_p rfl rfl)) ?_); refine asemC_end ?_) | refine ret_b (by rfl) ?_))
          · rw [all_nth_no hlt hc]
          · exact ⟨i + 1, ⟨by omega, by omega, take_all_succ hlt hall hc⟩, ⟨[0], ToR.S rfl (by repeat' (first | exact rt_nil | refine rt_t (by rfl) (by rfl) ?_ | refine rt_e (by rfl) (by rfl) ?_)) (by repeat' (first | exact ro_nil | refine ro_p (by rfl) (by first | exact rfl | fail) (by first | (simp [bdL, bdL_append, AV.bd]; done) | fail) ?_)) (by rfl) (by (rw [hm]; exact rfl)) (by rfl) (by (simp [bdT, AV.bd, bdL, bdL_append]; done)) (by repeat' (first | exact True.intro | refine And.intro ?_ ?_ | (simp [bdOq, bdL, bdL_append, AV.bd]; done))) (by (rw [hm]; exact Nat.le_of_ble_eq_true rfl))⟩⟩
        · (repeat' (first | refine WP.seq ?_ | refine go_n ?_ | refine WP.exit ?_ | refine WP.ret ?_ | refine go_x ?_ | refine bl_x ?_ | refine bo_r ?_ | (refine wp_cond (by rfl) (fun hc => ?_) (fun hc => ?_) <;> (try simp only [sB, ne_eq, reduceCtorEq] at hc) <;> (try (exfalso; omega))) | (refine WP.regionC (id := 16) ?_; (refine su (ap_move (rq_p rfl rfl)) ?_); (refine su (ap_field_p (rq_p rfl rfl) (by rfl) (by rfl)) ?_); (refine su (ap_load_p (rq_p rfl rfl) (by rfl) (by rfl) (by rfl)) ?_); (refine su (ap_len_m (by rfl) (rq_p rfl rfl)) ?_); (refine su (ap_lss (rq_p rfl rfl) (rq_p rfl rfl)) ?_); refine asemC_end ?_) | (refine WP.regionC (id := 20) ?_; (refine su (ap_assign (rq_p rfl rfl)) ?_); refine asemC_end ?_) | refine ret_b (by rfl) ?_))
          rw [all_of_take' (by omega) hall]
      · refine wp_loop (fun (i : Nat) => i ≤ kids.length ∧ (kids.take i).all (fun k => okE k (d - 1)) = true) (fun i => kids.length - i) (fun i => (S 73 [(1, intA d), (2, .ptr 0 3 0 0), (5, intA (i : Nat))] 1 [(0, some (.arr 3 [.agg [intA kk, strA nm, exprsA kids]]))])) 0 ⟨[0], ToR.S rfl (by repeat' (first | exact rt_nil | refine rt_t (by rfl) (by rfl) ?_ | refine rt_e (by rfl) (by rfl) ?_)) (by repeat' (first | exact ro_nil | refine ro_p (by rfl) (by first | exact rfl | fail) (by first | (simp [bdL, bdL_append, AV.bd]; done) | fail) ?_)) (by rfl) (by (rw [hm]; exact rfl)) (by rfl) (by (simp [bdT, AV.bd, bdL, bdL_append]; done)) (by repeat' (first | exact True.intro | refine And.intro ?_ ?_ | (simp [bdOq, bdL, bdL_append, AV.bd]; done))) (by (rw [hm]; exact Nat.le_of_ble_eq_true rfl))⟩ ⟨Nat.zero_le _, rfl⟩ ?_
        rintro i ⟨hi, hall⟩
        by_cases hlt : i < kids.length
        · have hx := ig _ (nth_mem hlt) (d - 1) (by omega) (by omega)
          (repeat' (first | refine WP.seq ?_ | refine WP.block ?_ | refine go_n ?_ | refine WP.skip ?_ | refine WP.ret ?_ | refine go_r ?_ | refine bl_n ?_ | refine bl_r ?_ | refine bo_r ?_ | (refine wp_cond (by rfl) (fun hc => ?_) (fun hc => ?_) <;> (try simp only [sB, ne_eq, reduceCtorEq] at hc) <;> (try (exfalso; omega))) | (refine WP.regionC (id := 16) ?_; (refine su (ap_move (rq_p rfl rfl)) ?_); (refine su (ap_field_p (rq_p rfl rfl) (by rfl) (by rfl)) ?_); (refine su (ap_load_p (rq_p rfl rfl) (by rfl) (by rfl) (by rfl)) ?_); (refine su (ap_len_m (by rfl) (rq_p rfl rfl)) ?_); (refine su (ap_lss (rq_p rfl rfl) (rq_p rfl rfl)) ?_); refine asemC_end ?_) | (refine WP.regionC (id := 18) ?_; (refine su (ap_field_p (rq_p rfl rfl) (by rfl) (by rfl)) ?_); (refine su (ap_load_p (rq_p rfl rfl) (by rfl) (by rfl) (by rfl)) ?_); (refine su (ap_move (rq_p rfl rfl)) ?_); (refine su (ap_idx_n (rq_p rfl rfl) (rq_p rfl rfl) (by omega)) ?_); (refine su (ap_load_w (rq_p rfl rfl) (by rfl)) ?_); (refine su (ap_move (rq_p rfl rfl)) ?_); (refine su (ap_sub (rq_p rfl rfl) (rq_p rfl rfl) (by exact inr_i64_of (by omega))) ?_); (refine sc_p rfl rfl (by first | ((repeat' first | exact SubL.nil | refine SubL.cons ?_ ?_ | exact Sub.refl); done) | fail) (by first | (simp [bdL, bdL_append, AV.bd]; done) | fail) (hx) ?_); (refine su (ap_not (rq_p rfl rfl)) ?_); refine asemC_end ?_) | (refine WP.regionC (id := 19) ?_; (refine su (ap_assign (rq_p rfl rfl)) ?_); refine asemC_end ?_) | (refine WP.regionC (id := 17) ?_; (refine su (ap_move (rq_p rfl rfl)) ?_); (refine su (ap_add (rq_p rfl rfl) (rq_p rfl rfl) (by exact inr_i64_of (by omega))) ?_); (refine su (ap_assign (rq_p rfl rfl)) ?_); refine asemC_end ?_) | refine ret_b (by rfl) ?_))
          · rw [all_nth_no hlt hc]
          · exact ⟨i + 1, ⟨by omega, by omega, take_all_succ hlt hall hc⟩, ⟨[0], ToR.S rfl (by repeat' (first | exact rt_nil | refine rt_t (by rfl) (by rfl) ?_ | refine rt_e (by rfl) (by rfl) ?_)) (by repeat' (first | exact ro_nil | refine ro_p (by rfl) (by first | exact rfl | fail) (by first | (simp [bdL, bdL_append, AV.bd]; done) | fail) ?_)) (by rfl) (by (rw [hm]; exact rfl)) (by rfl) (by (simp [bdT, AV.bd, bdL, bdL_append]; done)) (by repeat' (first | exact True.intro | refine And.intro ?_ ?_ | (simp [bdOq, bdL, bdL_append, AV.bd]; done))) (by (rw [hm]; exact Nat.le_of_ble_eq_true rfl))⟩⟩
        · (repeat' (first | refine WP.seq ?_ | refine go_n ?_ | refine WP.exit ?_ | refine WP.ret ?_ | refine go_x ?_ | refine bl_x ?_ | refine bo_r ?_ | (refine wp_cond (by rfl) (fun hc => ?_) (fun hc => ?_) <;> (try simp only [sB, ne_eq, reduceCtorEq] at hc) <;> (try (exfalso; omega))) | (refine WP.regionC (id := 16) ?_; (refine su (ap_move (rq_p rfl rfl)) ?_); (refine su (ap_field_p (rq_p rfl rfl) (by rfl) (by rfl)) ?_); (refine su (ap_load_p (rq_p rfl rfl) (by rfl) (by rfl) (by rfl)) ?_); (refine su (ap_len_m (by rfl) (rq_p rfl rfl)) ?_); (refine su (ap_lss (rq_p rfl rfl) (rq_p rfl rfl)) ?_); refine asemC_end ?_) | (refine WP.regionC (id := 20) ?_; (refine su (ap_assign (rq_p rfl rfl)) ?_); refine asemC_end ?_) | refine ret_b (by rfl) ?_))
          rw [all_of_take' (by omega) hall]
      · refine wp_loop (fun (i : Nat) => i ≤ kids.length ∧ (kids.take i).all (fun k => okE k (d - 1)) = true) (fun i => kids.length - i) (fun i => (S 73 [(1, intA d), (2, .ptr 0 3 0 0), (5, intA (i : Nat))] 1 [(0, some (.arr 3 [.agg [intA kk, strA nm, exprsA kids]]))])) 0 ⟨[0], ToR.S rfl (by repeat' (first | exact rt_nil | refine rt_t (by rfl) (by rfl) ?_ | refine rt_e (by rfl) (by rfl) ?_)) (by repeat' (first | exact ro_nil | refine ro_p (by rfl) (by first | exact rfl | fail) (by first | (simp [bdL, bdL_append, AV.bd]; done) | fail) ?_)) (by rfl) (by (rw [hm]; exact rfl)) (by rfl) (by (simp [bdT, AV.bd, bdL, bdL_append]; done)) (by repeat' (first | exact True.intro | refine And.intro ?_ ?_ | (simp [bdOq, bdL, bdL_append, AV.bd]; done))) (by (rw [hm]; exact Nat.le_of_ble_eq_true rfl))⟩ ⟨Nat.zero_le _, rfl⟩ ?_
        rintro i ⟨hi, hall⟩
        by_cases hlt : i < kids.length
        · have hx := ig _ (nth_mem hlt) (d - 1) (by omega) (by omega)
          (repeat' (first | refine WP.seq ?_ | refine WP.block ?_ | refine go_n ?_ | refine WP.skip ?_ | refine WP.ret ?_ | refine go_r ?_ | refine bl_n ?_ | refine bl_r ?_ | refine bo_r ?_ | (refine wp_cond (by rfl) (fun hc => ?_) (fun hc => ?_) <;> (try simp only [sB, ne_eq, reduceCtorEq] at hc) <;> (try (exfalso; omega))) | (refine WP.regionC (id := 16) ?_; (refine su (ap_move (rq_p rfl rfl)) ?_); (refine su (ap_field_p (rq_p rfl rfl) (by rfl) (by rfl)) ?_); (refine su (ap_load_p (rq_p rfl rfl) (by rfl) (by rfl) (by rfl)) ?_); (refine su (ap_len_m (by rfl) (rq_p rfl rfl)) ?_); (refine su (ap_lss (rq_p rfl rfl) (rq_p rfl rfl)) ?_); refine asemC_end ?_) | (refine WP.regionC (id := 18) ?_; (refine su (ap_field_p (rq_p rfl rfl) (by rfl) (by rfl)) ?_); (refine su (ap_load_p (rq_p rfl rfl) (by rfl) (by rfl) (by rfl)) ?_); (refine su (ap_move (rq_p rfl rfl)) ?_); (refine su (ap_idx_n (rq_p rfl rfl) (rq_p rfl rfl) (by omega)) ?_); (refine su (ap_load_w (rq_p rfl rfl) (by rfl)) ?_); (refine su (ap_move (rq_p rfl rfl)) ?_); (refine su (ap_sub (rq_p rfl rfl) (rq_p rfl rfl) (by exact inr_i64_of (by omega))) ?_); (refine sc_p rfl rfl (by first | ((repeat' first | exact SubL.nil | refine SubL.cons ?_ ?_ | exact Sub.refl); done) | fail) (by first | (simp [bdL, bdL_append, AV.bd]; done) | fail) (hx) ?_); (refine su (ap_not (rq_p rfl rfl)) ?_); refine asemC_end ?_) | (refine WP.regionC (id := 19) ?_; (refine su (ap_assign (rq_p rfl rfl)) ?_); refine asemC_end ?_) | (refine WP.regionC (id := 17) ?_; (refine su (ap_move (rq_p rfl rfl)) ?_); (refine su (ap_add (rq_p rfl rfl) (rq_p rfl rfl) (by exact inr_i64_of (by omega))) ?_); (refine su (ap_assign (rq_p rfl rfl)) ?_); refine asemC_end ?_) | refine ret_b (by rfl) ?_))
          · rw [all_nth_no hlt hc]
          · exact ⟨i + 1, ⟨by omega, by omega, take_all_succ hlt hall hc⟩, ⟨[0], ToR.S rfl (by repeat' (first | exact rt_nil | refine rt_t (by rfl) (by rfl) ?_ | refine rt_e (by rfl) (by rfl) ?_)) (by repeat' (first | exact ro_nil | refine ro_p (by rfl) (by first | exact rfl | fail) (by first | (simp [bdL, bdL_append, AV.bd]; done) | fail) ?_)) (by rfl) (by (rw [hm]; exact rfl)) (by rfl) (by (simp [bdT, AV.bd, bdL, bdL_append]; done)) (by repeat' (first | exact True.intro | refine And.intro ?_ ?_ | (simp [bdOq, bdL, bdL_append, AV.bd]; done))) (by (rw [hm]; exact Nat.le_of_ble_eq_true rfl))⟩⟩
        · (repeat' (first | refine WP.seq ?_ | refine go_n ?_ | refine WP.exit ?_ | refine WP.ret ?_ | refine go_x ?_ | refine bl_x ?_ | refine bo_r ?_ | (refine wp_cond (by rfl) (fun hc => ?_) (fun hc => ?_) <;> (try simp only [sB, ne_eq, reduceCtorEq] at hc) <;> (try (exfalso; omega))) | (refine WP.regionC (id := 16) ?_; (refine su (ap_move (rq_p rfl rfl)) ?_); (refine su (ap_field_p (rq_p rfl rfl) (by rfl) (by rfl)) ?_); (refine su (ap_load_p (rq_p rfl rfl) (by rfl) (by rfl) (by rfl)) ?_); (refine su (ap_len_m (by rfl) (rq_p rfl rfl)) ?_); (refine su (ap_lss (rq_p rfl rfl) (rq_p rfl rfl)) ?_); refine asemC_end ?_) | (refine WP.regionC (id := 20) ?_; (refine su (ap_assign (rq_p rfl rfl)) ?_); refine asemC_end ?_) | refine ret_b (by rfl) ?_))
          rw [all_of_take' (by omega) hall]
end Go.Lg

namespace Go.Lg
open Go.Proofs
set_option linter.unusedSimpArgs false
set_option linter.unusedVariables false
attribute [local irreducible] Ap Rq asemC WP RunD Ret Gq thenA inBlockA bodyQ noGotoA RqL RqP OpP
set_option maxHeartbeats 4000000
def toks (f : GFi) (k : Nat) : List ByteArray := ((f.levels.take k).map (·.tokens)).flatten
def rnames (f : GFi) (k : Nat) : List ByteArray := (f.rules.take k).map (·.name)
def glevelOk (l : GLe) : Bool := decide (1 ≤ l.assoc) && decide (l.assoc ≤ 3) && !decide (l.tokens.length = 0)
theorem glevel_iff {l : GLe} : glevelOk l = true ↔ (1 ≤ l.assoc ∧ l.assoc ≤ 3) ∧ l.tokens.length ≠ 0 := by
  simp only [glevelOk, Bool.and_eq_true, Bool.not_eq_true', decide_eq_true_eq, decide_eq_false_iff_not, ne_eq]
theorem glevel_no {l : GLe} (h : (l.assoc < 1 ∨ 3 < l.assoc) ∨ l.tokens.length = 0) : glevelOk l = false := by
  cases hg : glevelOk l with
  | false => rfl
  | true => have := glevel_iff.1 hg; omega
def validF (f : GFi) : Bool := decide (1 ≤ f.rules.length) && decide (f.rules.length ≤ 120) && f.rules.all gruleOk && f.levels.all glevelOk && distOk (rnames f f.rules.length) && distOk (toks f f.levels.length) && (rnames f f.rules.length).any (fun x => decide (f.start = x))
theorem toks_succ {f : GFi} {k : Nat} (hk : k < f.levels.length) : toks f (k + 1) = toks f k ++ (nth f.levels k).tokens := by
  simp only [toks, take_succ_nth hk, List.map_append, List.flatten_append]; simp
theorem rnames_succ {f : GFi} {k : Nat} (hk : k < f.rules.length) : rnames f (k + 1) = rnames f k ++ [(nth f.rules k).name] := by
  simp only [rnames, take_succ_nth hk, List.map_append]; rfl
theorem rnames_len {f : GFi} {k : Nat} (hk : k ≤ f.rules.length) : (rnames f k).length = k := by simp [rnames]; omega
theorem toks_mono (f : GFi) {k : Nat} (hk : k ≤ f.levels.length) : (toks f k).length ≤ (toks f f.levels.length).length := by
  induction h : f.levels.length - k generalizing k with
  | zero => obtain rfl : k = f.levels.length := by omega
            exact Nat.le_refl _
  | succ n ih =>
    have := ih (k := k + 1) (by omega) (by omega)
    rw [toks_succ (by omega), List.length_append] at this
    omega
theorem gvalid_fn (f : GFi) (hT : (toks f f.levels.length).length ≤ 1000000) : Fn Try.prog 24 [fileA f] (boolA (validF f)) := by
  refine Fn.intro (by rfl) (by kernel_rfl) Try.func24 rfl rfl Try.ntmps24 (by exact Nat.le_of_ble_eq_true rfl) ?_; intro Γ hm
  refine wp_lens 0 rfl fun hl => ?_
  have hl2 : f.rules.length ≤ 9223372036854775807 ∧ f.levels.length ≤ 9223372036854775807 := by have := hl; simp [AV.lens, lensL, fileA, levelsA, grulesA] at this; omega
  (repeat' (first | refine WP.seq ?_ | refine go_n ?_ | refine WP.skip ?_ | refine WP.ret ?_ | refine go_r ?_ | refine bo_r ?_ | (refine wp_cond (by rfl) (fun hc => ?_) (fun hc => ?_) <;> (try simp only [sB, ne_eq, reduceCtorEq] at hc) <;> (try (exfalso; omega))) | (refine WP.regionC (id := 0) ?_; (refine se_box (by rfl) (by exact ⟨rfl, rfl⟩) ?_); (refine su (ap_assign (rq_p rfl rfl)) ?_); refine asemC_end ?_) | (refine WP.regionC (id := 1) ?_; (refine su (ap_field_p (rq_p rfl rfl) (by rfl) (by rfl)) ?_); (refine su (ap_load_p (rq_p rfl rfl) (by rfl) (by rfl) (by rfl)) ?_); (refine su (ap_len_m (by rfl) (rq_p rfl rfl)) ?_); (refine su (ap_lss (rq_p rfl rfl) (rq_p rfl rfl)) ?_); (refine su (ap_move (rq_p rfl rfl)) ?_); (refine sg (gq_vf rfl rfl) (fun he => ap_field_p (rq_p rfl rfl) (by rfl) (by rfl)) ?_); (refine sg (gq_vf rfl rfl) (fun he => ap_load_p (rq_c rfl rfl) (by rfl) (by rfl) (by rfl)) ?_); (refine sg (gq_vf rfl rfl) (fun he => ap_len_m (by rfl) (rq_c rfl rfl)) ?_); (refine sg (gq_vf rfl rfl) (fun he => ap_gtr (rq_c rfl rfl) (rq_p rfl rfl)) ?_); (refine su (ap_or (rq_p rfl rfl) (rq_c rfl rfl)) ?_); refine asemC_end ?_) | (refine WP.regionC (id := 2) ?_; (refine su (ap_assign (rq_p rfl rfl)) ?_); refine asemC_end ?_) | (refine WP.regionC (id := 3) ?_; (refine su (ap_assign (rq_p rfl rfl)) ?_); (refine su (ap_assign (rq_p rfl rfl)) ?_); refine asemC_end ?_) | refine ret_b (by rfl) ?_))
  · simp [validF]; omega
  refine wp_nil 3 1 (by rfl) ?_
  refine wp_nil 4 1 (by rfl) ?_
  (repeat' (first | refine WP.block ?_ | refine go_n ?_ | (refine WP.regionC (id := 4) ?_; (refine su (ap_field_p (rq_p rfl rfl) (by rfl) (by rfl)) ?_); (refine su (ap_load_p (rq_p rfl rfl) (by rfl) (by rfl) (by rfl)) ?_); (refine su (ap_len_m (by rfl) (rq_p rfl rfl)) ?_); (refine su (ap_move (rq_p rfl rfl)) ?_); refine asemC_end ?_)))
  refine wp_loop (fun (k : Nat) => k ≤ f.rules.length ∧ (f.rules.take k).all gruleOk = true) (fun k => f.rules.length - k)
    (fun k => (S 73 [(1, .ptr 0 3 0 0), (3, .ref 1 1 0 (rnames f k).length), (4, .ref 2 1 0 0), (20, grulesA f.rules), (21, intA (f.rules.length : Nat)), (22, intA (k : Nat))] 3 [(0, some (.arr 3 [fileA f])), (1, some (.arr 1 ((rnames f k).map strA))), (2, some (.arr 1 []))])) 0 ⟨[0, 1, 2], ToR.S rfl (by repeat' (first | exact rt_nil | refine rt_r (by rfl) (by rfl) ?_ | refine rt_t (by rfl) (by rfl) ?_ | refine rt_e (by rfl) (by rfl) ?_ | refine rt_p (by rfl) (by rfl) (by first | (simp [AV.bd, bdL, bdL_append]; done) | fail) ?_)) (by repeat' (first | exact ro_nil | refine ro_e (by rfl) (by rfl) ?_ | refine ro_p (by rfl) (by first | exact rfl | fail) (by first | (simp [bdL, bdL_append, AV.bd]; done) | fail) ?_)) (by rfl) (by (rw [hm]; exact rfl)) (by rfl) (by (simp [bdT, AV.bd, bdL, bdL_append]; done)) (by repeat' (first | exact True.intro | exact rfl | refine And.intro ?_ ?_ | (simp [bdOq, bdL, bdL_append, AV.bd]; done))) (by (rw [hm]; exact Nat.le_of_ble_eq_true rfl))⟩ ⟨Nat.zero_le _, rfl⟩ ?_
  rintro k ⟨hk, hall⟩
  have hnl := rnames_len hk
  (repeat' (first | refine WP.seq ?_ | refine WP.block ?_ | refine go_n ?_ | refine WP.skip ?_ | refine WP.exit ?_ | refine WP.ret ?_ | refine go_x ?_ | refine go_r ?_ | refine bl_n ?_ | refine bl_r ?_ | refine bl_x ?_ | refine bo_r ?_ | (refine wp_cond (by rfl) (fun hc => ?_) (fun hc => ?_) <;> (try simp only [sB, ne_eq, reduceCtorEq] at hc) <;> (try (exfalso; omega))) | (refine WP.regionC (id := 5) ?_; (refine su (ap_lss (rq_p rfl rfl) (rq_p rfl rfl)) ?_); refine asemC_end ?_) | (refine WP.regionC (id := 6) ?_; (refine su (ap_idx_n (rq_p rfl rfl) (rq_p rfl rfl) (by omega)) ?_); (refine su (ap_load_w (rq_p rfl rfl) (by rfl)) ?_); (refine se_alloc (by rfl) ?_); (refine se_store_b (by rfl) (by rfl) (by rfl) (by rfl) ?_); refine asemC_end ?_) | (refine WP.regionC (id := 7) ?_; (refine su (ap_load_pw (rq_p rfl rfl) (by rfl) (by rfl) (by rfl)) ?_); (refine sc_p rfl rfl (by first | ((repeat' first | exact SubL.nil | refine SubL.cons ?_ ?_ | exact Sub.refl); done) | fail) (by first | (simp [bdL, bdL_append, AV.bd]; done) | fail) (rule_fn _) ?_); (refine su (ap_not (rq_p rfl rfl)) ?_); refine asemC_end ?_) | (refine WP.regionC (id := 8) ?_; (refine su (ap_assign (rq_p rfl rfl)) ?_); refine asemC_end ?_) | (refine WP.regionC (id := 9) ?_; (refine su (ap_move (rq_p rfl rfl)) ?_); (refine su (ap_field_p (rq_p rfl rfl) (by rfl) (by rfl)) ?_); (refine su (ap_load_p (rq_p rfl rfl) (by rfl) (by rfl) (by rfl)) ?_); (refine se_lit (OpP.cons (by rfl) (OpP.nil)) (by rfl) (by rfl) (by rfl) (by rfl) (by rfl) (by rfl) ?_); (refine se_app1 (by rfl) (by rfl) (by rfl) (by rfl) (by rfl) (by rfl) (by rfl) (by rfl) (by omega) ?_); (refine su (ap_assign (rq_p rfl rfl)) ?_); refine asemC_end ?_) | (refine WP.regionC (id := 10) ?_; (refine su (ap_add (rq_p rfl rfl) (rq_p rfl rfl) (by exact inr_i64_of (by omega))) ?_); (refine su (ap_move (rq_p rfl rfl)) ?_); refine asemC_end ?_) | (refine WP.regionC (id := 11) ?_; (refine su (ap_field_p (rq_p rfl rfl) (by rfl) (by rfl)) ?_); (refine su (ap_load_p (rq_p rfl rfl) (by rfl) (by rfl) (by rfl)) ?_); (refine su (ap_len_m (by rfl) (rq_p rfl rfl)) ?_); (refine su (ap_move (rq_p rfl rfl)) ?_); refine asemC_end ?_) | refine ret_b (by rfl) ?_))
  · rw [show validF f = false by simp only [validF, all_nth_no (l := f.rules) (k := k) (by omega) hc, Bool.and_false, Bool.false_and]]
  · refine ⟨k + 1, ⟨by omega, by omega, take_all_succ (by omega) hall hc⟩, ?_⟩
    rw [rnames_succ (by omega)]
    exact ⟨[0, 5, 2], ToR.S rfl (by repeat' (first | exact rt_nil | refine rt_r (by rfl) (by rfl) ?_ | refine rt_t (by rfl) (by rfl) ?_ | refine rt_e (by rfl) (by rfl) ?_ | refine rt_p (by rfl) (by rfl) (by first | (simp [AV.bd, bdL, bdL_append]; done) | fail) ?_)) (by repeat' (first | exact ro_nil | refine ro_e (by rfl) (by rfl) ?_ | refine ro_p (by rfl) (by first | exact rfl | fail) (by first | exact bdL_map (fun _ => by exact rfl) _ | (simp [bdL, bdL_append, AV.bd]; done) | fail) ?_)) (by rfl) (by (rw [hm]; exact rfl)) (by rfl) (by (simp [bdT, AV.bd, bdL, bdL_append]; done)) (by repeat' (first | exact True.intro | exact rfl | refine And.intro ?_ ?_ | exact bdL_map (fun _ => by exact rfl) _ | (simp [bdOq, bdL, bdL_append, AV.bd]; done))) (by (rw [hm]; exact Nat.le_of_ble_eq_true rfl))⟩
  obtain rfl : k = f.rules.length := by omega
  have hrs := all_of_take' (by omega) hall
  refine wp_loop (fun (j : Nat) => j ≤ f.levels.length ∧ (f.levels.take j).all glevelOk = true) (fun j => f.levels.length - j)
    (fun j => (S 73 [(1, .ptr 0 3 0 0), (3, .ref 1 1 0 (rnames f f.rules.length).length), (4, .ref 2 1 0 (toks f j).length), (36, levelsA f.levels), (37, intA (f.levels.length : Nat)), (38, intA (j : Nat))] 3 [(0, some (.arr 3 [fileA f])), (1, some (.arr 1 ((rnames f f.rules.length).map strA))), (2, some (.arr 1 ((toks f j).map strA)))])) 0 ⟨[0, 1, 2], ToR.S rfl (by repeat' (first | exact rt_nil | refine rt_r (by rfl) (by rfl) ?_ | refine rt_t (by rfl) (by rfl) ?_ | refine rt_e (by rfl) (by rfl) ?_ | refine rt_p (by rfl) (by rfl) (by first | (simp [AV.bd, bdL, bdL_append]; done) | fail) ?_)) (by repeat' (first | exact ro_nil | refine ro_e (by rfl) (by rfl) ?_ | refine ro_p (by rfl) (by first | exact rfl | fail) (by first | exact bdL_map (fun _ => by exact rfl) _ | (simp [bdL, bdL_append, AV.bd]; done) | fail) ?_)) (by rfl) (by (rw [hm]; exact rfl)) (by rfl) (by (simp [bdT, AV.bd, bdL, bdL_append]; done)) (by repeat' (first | exact True.intro | exact rfl | refine And.intro ?_ ?_ | exact bdL_map (fun _ => by exact rfl) _ | (simp [bdOq, bdL, bdL_append, AV.bd]; done))) (by (rw [hm]; exact Nat.le_of_ble_eq_true rfl))⟩ ⟨Nat.zero_le _, rfl⟩ ?_
  rintro j ⟨hj, hjall⟩
  have htm := toks_mono f hj
  by_cases hlt : j < f.levels.length
  · have htm2 := toks_mono f (k := j + 1) (by omega)
    rw [toks_succ hlt, List.length_append] at htm2
    (repeat' (first | refine WP.seq ?_ | refine WP.block ?_ | refine go_n ?_ | refine WP.skip ?_ | refine WP.ret ?_ | refine go_r ?_ | refine bl_n ?_ | refine bl_r ?_ | refine bo_r ?_ | (refine wp_cond (by rfl) (fun hc => ?_) (fun hc => ?_) <;> (try simp only [sB, ne_eq, reduceCtorEq] at hc) <;> (try (exfalso; omega))) | (refine WP.regionC (id := 12) ?_; (refine su (ap_lss (rq_p rfl rfl) (rq_p rfl rfl)) ?_); refine asemC_end ?_) | (refine WP.regionC (id := 13) ?_; (refine su (ap_idx_n (rq_p rfl rfl) (rq_p rfl rfl) (by omega)) ?_); (refine su (ap_load_w (rq_p rfl rfl) (by rfl)) ?_); (refine se_alloc (by rfl) ?_); (refine se_store_b (by rfl) (by rfl) (by rfl) (by rfl) ?_); refine asemC_end ?_) | (refine WP.regionC (id := 14) ?_; (refine su (ap_field_p (rq_p rfl rfl) (by rfl) (by rfl)) ?_); (refine su (ap_load_p (rq_p rfl rfl) (by rfl) (by rfl) (by rfl)) ?_); (refine su (ap_lss (rq_p rfl rfl) (rq_p rfl rfl)) ?_); (refine su (ap_move (rq_p rfl rfl)) ?_); (refine sg (gq_vf rfl rfl) (fun he => ap_field_p (rq_p rfl rfl) (by rfl) (by rfl)) ?_); (refine sg (gq_vf rfl rfl) (fun he => ap_load_p (rq_c rfl rfl) (by rfl) (by rfl) (by rfl)) ?_); (refine sg (gq_vf rfl rfl) (fun he => ap_gtr (rq_c rfl rfl) (rq_p rfl rfl)) ?_); (refine su (ap_or (rq_p rfl rfl) (rq_c rfl rfl)) ?_); (refine su (ap_move (rq_p rfl rfl)) ?_); (refine sg (gq_vf rfl rfl) (fun he => ap_field_p (rq_p rfl rfl) (by rfl) (by rfl)) ?_); (refine sg (gq_vf rfl rfl) (fun he => ap_load_p (rq_c rfl rfl) (by rfl) (by rfl) (by rfl)) ?_); (refine sg (gq_vf rfl rfl) (fun he => ap_len_m (by rfl) (rq_c rfl rfl)) ?_); (refine sg (gq_vf rfl rfl) (fun he => ap_eql (rq_c rfl rfl) (rq_p rfl rfl)) ?_); (refine su (ap_or (rq_p rfl rfl) (rq_c rfl rfl)) ?_); refine asemC_end ?_) | (refine WP.regionC (id := 15) ?_; (refine su (ap_assign (rq_p rfl rfl)) ?_); refine asemC_end ?_) | (refine WP.regionC (id := 16) ?_; (refine su (ap_move (rq_p rfl rfl)) ?_); (refine su (ap_field_p (rq_p rfl rfl) (by rfl) (by rfl)) ?_); (refine su (ap_load_p (rq_p rfl rfl) (by rfl) (by rfl) (by rfl)) ?_); (refine se_appL (by rfl) (by rfl) (by rfl) (by rfl) (by rfl) (by rfl) (by rfl) (by omega) ?_); (refine su (ap_assign (rq_p rfl rfl)) ?_); refine asemC_end ?_) | (refine WP.regionC (id := 17) ?_; (refine su (ap_add (rq_p rfl rfl) (rq_p rfl rfl) (by exact inr_i64_of (by omega))) ?_); (refine su (ap_move (rq_p rfl rfl)) ?_); refine asemC_end ?_) | refine ret_b (by rfl) ?_))
    · rw [show validF f = false by simp only [validF, all_nth_no (l := f.levels) (f := glevelOk) (k := j) (by omega) (glevel_no (by omega)), Bool.and_false, Bool.false_and]]
    · refine ⟨j + 1, ⟨by omega, by omega, take_all_succ (by omega) hjall (glevel_iff.2 (by omega))⟩, ?_⟩
      rw [toks_succ (by omega)]
      exact ⟨[0, 1, 4], ToR.S rfl (by repeat' (first | exact rt_nil | refine rt_r (by rfl) (by rfl) ?_ | refine rt_t (by rfl) (by rfl) ?_ | refine rt_e (by rfl) (by rfl) ?_ | refine rt_p (by rfl) (by rfl) (by first | (simp [AV.bd, bdL, bdL_append]; done) | fail) ?_)) (by repeat' (first | exact ro_nil | refine ro_p (by rfl) (by first | exact rfl | fail) (by first | exact bdL_map (fun _ => by exact rfl) _ | (simp [bdL, bdL_append, AV.bd]; done) | fail) ?_)) (by rfl) (by (rw [hm]; exact rfl)) (by rfl) (by (simp [bdT, AV.bd, bdL, bdL_append]; done)) (by repeat' (first | exact True.intro | refine And.intro ?_ ?_ | exact bdL_map (fun _ => by exact rfl) _ | (simp [bdOq, bdL, bdL_append, AV.bd]; done))) (by (rw [hm]; exact Nat.le_of_ble_eq_true rfl))⟩
  obtain rfl : j = f.levels.length := by omega
  have hls := all_of_take' (by omega) hjall
  (repeat' (first | refine WP.seq ?_ | refine go_n ?_ | refine WP.exit ?_ | refine WP.ret ?_ | refine go_x ?_ | refine bl_x ?_ | refine bo_r ?_ | (refine wp_cond (by rfl) (fun hc => ?_) (fun hc => ?_) <;> (try simp only [sB, ne_eq, reduceCtorEq] at hc) <;> (try (exfalso; omega))) | (refine WP.regionC (id := 12) ?_; (refine su (ap_lss (rq_p rfl rfl) (rq_p rfl rfl)) ?_); refine asemC_end ?_) | (refine WP.regionC (id := 18) ?_; (refine su (ap_move (rq_p rfl rfl)) ?_); (refine sc_b rfl rfl (by first | ((repeat' first | exact FzL.nil | refine FzL.cons ?_ ?_ | (exact Fz.list (by rfl) (by rfl) (fun _ => by simp [AV.bd, bdL, bdL_append]) (fun _ => rfl))); done) | fail) (distinct_fn (rnames f f.rules.length) (by omega)) (by rfl) ?_); (refine su (ap_move (rq_p rfl rfl)) ?_); (refine sg (gq_vt rfl rfl) (fun he => ap_move (rq_p rfl rfl)) ?_); (refine sg_b (gq_vt rfl rfl) (fun he => ⟨(rq_p rfl rfl), (RqL.cons (rq_c rfl rfl) (RqL.nil)), (by first | ((repeat' first | exact FzL.nil | refine FzL.cons ?_ ?_ | (exact Fz.list (by rfl) (by rfl) (fun _ => by simp [AV.bd, bdL, bdL_append]) (fun _ => rfl))); done) | fail), distinct_fn (toks f f.levels.length) (by omega), (by rfl)⟩) ?_); (refine su (ap_and (rq_p rfl rfl) (rq_c rfl rfl)) ?_); (refine su (ap_move (rq_p rfl rfl)) ?_); (refine sg (gq_vt rfl rfl) (fun he => ap_move (rq_p rfl rfl)) ?_); (refine sg (gq_vt rfl rfl) (fun he => ap_field_p (rq_p rfl rfl) (by rfl) (by rfl)) ?_); (refine sg (gq_vt rfl rfl) (fun he => ap_load_p (rq_c rfl rfl) (by rfl) (by rfl) (by rfl)) ?_); (refine sg_b (gq_vt rfl rfl) (fun he => ⟨(rq_p rfl rfl), (RqL.cons (rq_c rfl rfl) (RqL.cons (rq_c rfl rfl) (RqL.nil))), (by first | ((repeat' first | exact FzL.nil | refine FzL.cons ?_ ?_ | (exact Fz.list (by rfl) (by rfl) (fun _ => by simp [AV.bd, bdL, bdL_append]) (fun _ => rfl)) | (exact Fz.reflp (by simp [AV.bd, bdL, bdL_append]))); done) | fail), containsS_fn (rnames f f.rules.length) f.start, (by rfl)⟩) ?_); (refine su (ap_and (rq_p rfl rfl) (rq_c rfl rfl)) ?_); (refine su (ap_assign (rq_p rfl rfl)) ?_); refine asemC_end ?_) | refine ret_b (by rfl) ?_))
  have a1 : decide (1 ≤ f.rules.length) = true := decide_eq_true (by omega)
  have a2 : decide (f.rules.length ≤ 120) = true := decide_eq_true (by omega)
  simp only [validF, a1, a2, hrs, hls, Bool.true_and]
end Go.Lg

namespace Go.Lg
open Go.Proofs
set_option linter.unusedSimpArgs false
set_option linter.unusedVariables false
attribute [local irreducible] Ap Rq asemC WP RunD Ret Gq thenA inBlockA bodyQ noGotoA RqL RqP OpP
set_option maxHeartbeats 4000000
set_option maxRecDepth 20000
attribute [local simp] rdA pkA tokA toks_bd AV.cells
theorem ren_levelsA (π : Nat → Nat) (x : List GLe) : AV.ren π (levelsA x) = levelsA x := ren_pure (by simp [levelsA, AV.bd])
theorem ren_gruleA (π : Nat → Nat) (x : GRu) : AV.ren π (gruleA x) = gruleA x := ren_pure (bd_gruleA 0 x)
def noF : GFi := ⟨⟨#[]⟩, [], []⟩
def parseR (s : ByteArray) : GFi × Int × Int := match pFile (lexT (bl s)) with
  | .ok f _ => if validF f then (f, 0, 0) else (noF, 0, 1)
  | .err r => (noF, pos (cut (lexL (bl s) 0) r) (s.size : Int), 3)
def parseA (x : GFi × Int × Int) : AV := .tup [fileA x.1, intA x.2.1, intA x.2.2]
theorem parse_fn (s : ByteArray) (hs : s.size ≤ 100000) (hB : (lexL (bl s) 0).length ≤ 100000) (hW : NumW (lexL (bl s) 0)) (hT : ∀ f q, pFile (lexT (bl s)) = .ok f q → (toks f f.levels.length).length ≤ 1000000) :
    Fn Try.prog 9 [strA s] (parseA (parseR s)) := by
  refine FnD.intro (l1 := [(4, .ptr 2 1 0 0), (3, .ptr 1 1 0 0), (2, .ptr 0 3 0 0), (0, strA s)]) (M1 := 3) (os1 := [(2, some (boxI .i64 0)), (1, some (boxI .i64 0)), (0, some (boxF nilF))]) (capA := [.ptr 0 3 0 0, .ptr 1 1 0 0, .ptr 2 1 0 0]) (rs := [.cell 2 26, .cell 3 3, .cell 4 27])
    (by simp [parseA, AV.bd, bdL]) (by kernel_rfl) Try.func9 rfl rfl Try.ntmps9 (by exact Nat.le_of_ble_eq_true rfl) (by decide) rfl ?_ ?_ ?_ ?_
  · simp
  · intro i hi
    match i, hi with
    | 0, _ => rfl
    | 1, _ => rfl
    | 2, _ => rfl
  · intro Γ hm
    (repeat' ((refine WP.regionC (id := 0) ?_; (refine se_alloc (by rfl) ?_); (refine se_alloc (by rfl) ?_); (refine se_alloc (by rfl) ?_); refine asemC_end ?_)))
    exact ⟨rfl, rfl⟩
  · intro Γ hm
    skip
    generalize hL : lexL (bl s) 0 = L at *
    have hlt : lexT (bl s) = L.map (·.2) := by rw [← hL]; rfl
    have hlex := lex_fn s (by omega)
    rw [hL] at hlex
    have herr : ∀ r, pFile (L.map (·.2)) = .err r → parseR s = (noF, pos (cut L r) (s.size : Int), 3) := fun r h => by unfold parseR; rw [hlt, h, hL]
    have hokk : ∀ f q, pFile (L.map (·.2)) = .ok f q → parseR s = if validF f then (f, 0, 0) else (noF, 0, 1) := fun f q h => by unfold parseR; rw [hlt, h]
    rw [hlt] at hT
    by_cases h0 : hdT L = bl kw0
    · obtain ⟨p1, l1, hl1, hp1⟩ := hdT_cons (by decide) h0
      have hE1 : FnO Try.prog 20 [.ptr 0 2 0 0, strA (tx (bl kw0))] [rdA L (s.size : Int)] (.tup []) [some (rdA l1 (s.size : Int))] := by rw [hl1]; exact expect_ok (bl kw0) (by decide) p1 l1 (s.size : Int) hp1
      have hs1 : l1 <:+ L := by rw [hl1]; exact List.suffix_cons _ _
      have hpt1 : pTake (bl kw0) (L.map (·.2)) = .ok () (l1.map (·.2)) := by rw [hl1, List.map_cons, pTake, if_pos hp1]
      have hnm := gpname_fn l1 (s.size : Int)
      cases hq1 : pName (l1.map (·.2)) with
      | err q =>
        have hqs : q <:+ l1.map (·.2) := by have := pName_suf (l1.map (·.2)); rw [hq1] at this; exact this
        have hX : FnX Try.prog 21 [.ptr 0 2 0 0] [rdA l1 (s.size : Int)] (synV (pos (cut l1 q) (s.size : Int))) := hnm.dies (by rw [hq1]; simp only [pout])
        rw [herr q (by simp only [pFile, hpt1, hq1]), ← cut_cut hs1 hqs]
        (repeat' (first | refine WP.seq ?_ | refine go_n ?_ | refine go_p ?_ | (refine wpl_region (id := 2) ?_; (refine wpl_step rfl ?_; (refine su (ap_move (rq_p rfl rfl)) ?_); refine asemC_end ?_; ((refine wpl_step rfl ?_; (refine sc_p rfl rfl (by first | ((repeat' first | exact SubL.nil | refine SubL.cons ?_ ?_ | exact Sub.refl); done) | fail) (by first | (simp [bdL, bdL_append, AV.bd]; done) | fail) (hlex) ?_); refine asemC_end ?_; (refine wpl_step rfl ?_; (refine su (ap_move (rq_p rfl rfl)) ?_); refine asemC_end ?_; (refine wpl_step rfl ?_; (refine su (ap_len_str (by rfl) (rq_p rfl rfl)) ?_); refine asemC_end ?_; (refine wpl_step rfl ?_; (refine su (ap_build (RqP.cons (rq_p rfl rfl) (RqP.cons (rq_p rfl rfl) (RqP.nil))) (by rfl)) ?_); refine asemC_end ?_; (refine wpl_step rfl ?_; (refine se_box (by rfl) (by exact ⟨rfl, rfl⟩) ?_); refine asemC_end ?_; (refine wpl_step rfl ?_; (refine su (ap_assign (rq_p rfl rfl)) ?_); refine asemC_end ?_; (refine wpl_end ?_)))))))))) | (refine wpl_region (id := 3) ?_; (refine wpl_step rfl ?_; (refine su (ap_move (rq_p rfl rfl)) ?_); refine asemC_end ?_; ((refine wpl_step rfl ?_; (refine sc_o [3] rfl rfl (hE1) (Lend.o1 (by rfl) (by rfl) (by (exact (renL_pure (by simp [AV.bd, bdL, bdL_append])).symm)) (by rfl) (by simp [AV.bd, bdL, bdL_append]) (by simp [AV.bd, bdL, bdL_append])) ?_; simp only [updN, newO, AObj.ren, renL, AV.ren, apx, ap, if_true, if_false, Nat.reduceLT, Nat.reduceAdd, Nat.reduceSub, sO, intA, boolA, strA, rdA, ren_toks]); refine asemC_end ?_; (refine wpl_end ?_))))) | (refine wpl_region (id := 4) ?_; (refine wpl_step rfl ?_; (refine su (ap_move (rq_p rfl rfl)) ?_); refine asemC_end ?_; ((refine wpl_x [3] rfl rfl (hX) (Lend.S (by first | ((repeat' first | exact RenL.nil | refine RenL.cons (by rfl) ?_); done) | fail) (by first | ((repeat' first | exact LendO.nil | refine LendO.arr (by rfl) (by (exact (renL_pure (by simp [AV.bd, bdL, bdL_append])).symm)) ?_); done) | fail) (by decide) (by rfl) (by simp [AV.bd, bdL, bdL_append]) (by repeat' (first | exact True.intro | refine And.intro ?_ ?_ | simp [AV.bd, bdL, bdL_append]))) ?_))))))
        refine bd_endp (ys' := [.ptr 0 3 0 0, .ptr 1 1 0 0, .ptr 2 1 0 0]) (mid := [boxF (.agg [strA ⟨#[]⟩, .val (.slice none 0 0), .val (.slice none 0 0)]), boxI .i64 0, boxI .i64 0]) [0, 1, 2] [(3, [nilF]), (1, [.val (.int .i64 _)]), (1, [.val (.int .i64 3)])] rfl (Lend.S (by first | ((repeat' first | exact RenL.nil | refine RenL.cons (by rfl) ?_); done) | fail) (by first | ((repeat' first | exact LendO.nil | refine LendO.arr (by rfl) (by rfl) ?_); done) | fail) (by decide) (by rfl) (by simp [AV.bd, bdL, bdL_append]) (by repeat' (first | exact True.intro | refine And.intro ?_ ?_ | simp [AV.bd, bdL, bdL_append]))) (def_panic _ _ _ (fun _ => by simp [strA, AV.bd]) (fun _ => by simp [AV.bd, levelsA]) (fun _ => by simp [AV.bd]) _ _ _) (by simp [nilF, AV.bd, bdL, levelsA]) ?_
        exact ret_many (xs := [nilF, .val (.int .i64 _), .val (.int .i64 3)]) (.cellT (by rfl) (by rfl) (by rfl) (by rfl) (.cellT (by rfl) (by rfl) (by rfl) (by rfl) (.cellT (by rfl) (by rfl) (by rfl) (by rfl) .nil))) (by exact Nat.le_of_ble_eq_true rfl) (by first | ((repeat' first | exact FzL.nil | refine FzL.cons ?_ ?_ | exact Fz.nil | (exact Fz.reflp (by simp [AV.bd, bdL, bdL_append])) | refine Fz.aggL ?_); done) | fail)
      | ok n r2 =>
        have hr2 : r2 <:+ l1.map (·.2) := by have := pName_suf (l1.map (·.2)); rw [hq1] at this; exact this
        have hO2 : FnO Try.prog 21 [.ptr 0 2 0 0] [rdA l1 (s.size : Int)] (strA n) [some (rdA (cut l1 r2) (s.size : Int))] := hnm.oks (by rw [hq1]; simp only [pout])
        have hs2 := (cut_suf l1 r2).trans hs1
        have hm2 := cut_map hr2
        generalize hl2 : cut l1 r2 = l2 at *
        by_cases h59 : hdT l2 = [59]
        · obtain ⟨p3, l3, hl3, hp3⟩ := hdT_cons (by simp) h59
          have hE3 : FnO Try.prog 20 [.ptr 0 2 0 0, strA (tx [59])] [rdA l2 (s.size : Int)] (.tup []) [some (rdA l3 (s.size : Int))] := by rw [hl3]; exact expect_ok [59] (by simp) p3 l3 (s.size : Int) hp3
          have hpt3 : pTake [59] r2 = .ok () (l3.map (·.2)) := by rw [← hm2, hl3, List.map_cons, pTake, if_pos hp3]
          have hs3 : l3 <:+ L := by rw [hl3] at hs2; exact (List.suffix_cons _ _).trans hs2
          have hlen3 := hs3.length_le
          have hlv := gplevels_fn l3 (s.size : Int) (by omega)
          cases hq4 : pLevels (l3.map (·.2)) with
          | err q =>
            have hqs : q <:+ l3.map (·.2) := by have := pLevels_suf _ (l3.map (·.2)) (Nat.le_refl _); rw [hq4] at this; exact this
            have hX : FnX Try.prog 22 [.ptr 0 2 0 0] [rdA l3 (s.size : Int)] (synV (pos (cut l3 q) (s.size : Int))) := hlv.dies (by rw [hq4]; simp only [pout])
            rw [herr q (by simp only [pFile, hpt1, hq1, hpt3, hq4]), ← cut_cut hs3 hqs]
            (repeat' (first | refine WP.seq ?_ | refine go_n ?_ | refine go_p ?_ | (refine wpl_region (id := 2) ?_; (refine wpl_step rfl ?_; (refine su (ap_move (rq_p rfl rfl)) ?_); refine asemC_end ?_; ((refine wpl_step rfl ?_; (refine sc_p rfl rfl (by first | ((repeat' first | exact SubL.nil | refine SubL.cons ?_ ?_ | exact Sub.refl); done) | fail) (by first | (simp [bdL, bdL_append, AV.bd]; done) | fail) (hlex) ?_); refine asemC_end ?_; (refine wpl_step rfl ?_; (refine su (ap_move (rq_p rfl rfl)) ?_); refine asemC_end ?_; (refine wpl_step rfl ?_; (refine su (ap_len_str (by rfl) (rq_p rfl rfl)) ?_); refine asemC_end ?_; (refine wpl_step rfl ?_; (refine su (ap_build (RqP.cons (rq_p rfl rfl) (RqP.cons (rq_p rfl rfl) (RqP.nil))) (by rfl)) ?_); refine asemC_end ?_; (refine wpl_step rfl ?_; (refine se_box (by rfl) (by exact ⟨rfl, rfl⟩) ?_); refine asemC_end ?_; (refine wpl_step rfl ?_; (refine su (ap_assign (rq_p rfl rfl)) ?_); refine asemC_end ?_; (refine wpl_end ?_)))))))))) | (refine wpl_region (id := 3) ?_; (refine wpl_step rfl ?_; (refine su (ap_move (rq_p rfl rfl)) ?_); refine asemC_end ?_; ((refine wpl_step rfl ?_; (refine sc_o [3] rfl rfl (hE1) (Lend.o1 (by rfl) (by rfl) (by (exact (renL_pure (by simp [AV.bd, bdL, bdL_append])).symm)) (by rfl) (by simp [AV.bd, bdL, bdL_append]) (by simp [AV.bd, bdL, bdL_append])) ?_; simp only [updN, newO, AObj.ren, renL, AV.ren, apx, ap, if_true, if_false, Nat.reduceLT, Nat.reduceAdd, Nat.reduceSub, sO, intA, boolA, strA, rdA, ren_toks]); refine asemC_end ?_; (refine wpl_end ?_))))) | (refine wpl_region (id := 4) ?_; (refine wpl_step rfl ?_; (refine su (ap_move (rq_p rfl rfl)) ?_); refine asemC_end ?_; ((refine wpl_step rfl ?_; (refine sc_o [3] rfl rfl (hO2) (Lend.o1 (by rfl) (by rfl) (by (exact (renL_pure (by simp [AV.bd, bdL, bdL_append])).symm)) (by rfl) (by simp [AV.bd, bdL, bdL_append]) (by simp [AV.bd, bdL, bdL_append])) ?_; simp only [updN, newO, AObj.ren, renL, AV.ren, apx, ap, if_true, if_false, Nat.reduceLT, Nat.reduceAdd, Nat.reduceSub, sO, intA, boolA, strA, rdA, ren_toks]); refine asemC_end ?_; (refine wpl_step rfl ?_; (refine su (ap_field_p (rq_p rfl rfl) (by rfl) (by rfl)) ?_); refine asemC_end ?_; (refine wpl_step rfl ?_; (refine se_store_b (by rfl) (by rfl) (by rfl) (by rfl) ?_); refine asemC_end ?_; (refine wpl_end ?_))))))) | (refine wpl_region (id := 5) ?_; (refine wpl_step rfl ?_; (refine su (ap_move (rq_p rfl rfl)) ?_); refine asemC_end ?_; ((refine wpl_step rfl ?_; (refine sc_o [3] rfl rfl (hE3) (Lend.o1 (by rfl) (by rfl) (by (exact (renL_pure (by simp [AV.bd, bdL, bdL_append])).symm)) (by rfl) (by simp [AV.bd, bdL, bdL_append]) (by simp [AV.bd, bdL, bdL_append])) ?_; simp only [updN, newO, AObj.ren, renL, AV.ren, apx, ap, if_true, if_false, Nat.reduceLT, Nat.reduceAdd, Nat.reduceSub, sO, intA, boolA, strA, rdA, ren_toks]); refine asemC_end ?_; (refine wpl_end ?_))))) | (refine wpl_region (id := 6) ?_; (refine wpl_step rfl ?_; (refine su (ap_move (rq_p rfl rfl)) ?_); refine asemC_end ?_; ((refine wpl_x [3] rfl rfl (hX) (Lend.S (by first | ((repeat' first | exact RenL.nil | refine RenL.cons (by rfl) ?_); done) | fail) (by first | ((repeat' first | exact LendO.nil | refine LendO.arr (by rfl) (by (exact (renL_pure (by simp [AV.bd, bdL, bdL_append])).symm)) ?_); done) | fail) (by decide) (by rfl) (by simp [AV.bd, bdL, bdL_append]) (by repeat' (first | exact True.intro | refine And.intro ?_ ?_ | simp [AV.bd, bdL, bdL_append]))) ?_))))))
            refine bd_endp (ys' := [.ptr 0 3 0 0, .ptr 1 1 0 0, .ptr 2 1 0 0]) (mid := [boxF (.agg [strA n, .val (.slice none 0 0), .val (.slice none 0 0)]), boxI .i64 0, boxI .i64 0]) [0, 1, 2] [(3, [nilF]), (1, [.val (.int .i64 _)]), (1, [.val (.int .i64 3)])] rfl (Lend.S (by first | ((repeat' first | exact RenL.nil | refine RenL.cons (by rfl) ?_); done) | fail) (by first | ((repeat' first | exact LendO.nil | refine LendO.arr (by rfl) (by rfl) ?_); done) | fail) (by decide) (by rfl) (by simp [AV.bd, bdL, bdL_append]) (by repeat' (first | exact True.intro | refine And.intro ?_ ?_ | simp [AV.bd, bdL, bdL_append]))) (def_panic _ _ _ (fun _ => by simp [strA, AV.bd]) (fun _ => by simp [AV.bd, levelsA]) (fun _ => by simp [AV.bd]) _ _ _) (by simp [nilF, AV.bd, bdL, levelsA]) ?_
            exact ret_many (xs := [nilF, .val (.int .i64 _), .val (.int .i64 3)]) (.cellT (by rfl) (by rfl) (by rfl) (by rfl) (.cellT (by rfl) (by rfl) (by rfl) (by rfl) (.cellT (by rfl) (by rfl) (by rfl) (by rfl) .nil))) (by exact Nat.le_of_ble_eq_true rfl) (by first | ((repeat' first | exact FzL.nil | refine FzL.cons ?_ ?_ | exact Fz.nil | (exact Fz.reflp (by simp [AV.bd, bdL, bdL_append])) | refine Fz.aggL ?_); done) | fail)
          | ok ls r4 =>
            have hr4 : r4 <:+ l3.map (·.2) := by have := pLevels_suf _ (l3.map (·.2)) (Nat.le_refl _); rw [hq4] at this; exact this
            have hO4 : FnO Try.prog 22 [.ptr 0 2 0 0] [rdA l3 (s.size : Int)] (levelsA ls) [some (rdA (cut l3 r4) (s.size : Int))] := hlv.oks (by rw [hq4]; simp only [pout])
            have hs4 := (cut_suf l3 r4).trans hs3
            have hm4 := cut_map hr4
            generalize hl4 : cut l3 r4 = l4 at *
            have hlen4 := hs4.length_le
            have hpf : ∀ q, pRules (l4.map (·.2)) = .err q → pFile (L.map (·.2)) = .err q := fun q h => by rw [hm4] at h; simp only [pFile, hpt1, hq1, hpt3, hq4, h]
            have hpo : ∀ rs q, pRules (l4.map (·.2)) = .ok rs q → pFile (L.map (·.2)) = .ok ⟨n, ls, rs⟩ q := fun rs q h => by rw [hm4] at h; simp only [pFile, hpt1, hq1, hpt3, hq4, h]
            (repeat' (first | refine WP.seq ?_ | refine WP.block ?_ | refine go_n ?_ | (refine WP.regionC (id := 2) ?_; (refine su (ap_move (rq_p rfl rfl)) ?_); (refine sc_p rfl rfl (by first | ((repeat' first | exact SubL.nil | refine SubL.cons ?_ ?_ | exact Sub.refl); done) | fail) (by first | (simp [bdL, bdL_append, AV.bd]; done) | fail) (hlex) ?_); (refine su (ap_move (rq_p rfl rfl)) ?_); (refine su (ap_len_str (by rfl) (rq_p rfl rfl)) ?_); (refine su (ap_build (RqP.cons (rq_p rfl rfl) (RqP.cons (rq_p rfl rfl) (RqP.nil))) (by rfl)) ?_); (refine se_box (by rfl) (by exact ⟨rfl, rfl⟩) ?_); (refine su (ap_assign (rq_p rfl rfl)) ?_); refine asemC_end ?_) | (refine WP.regionC (id := 3) ?_; (refine su (ap_move (rq_p rfl rfl)) ?_); (refine sc_o [3] rfl rfl (hE1) (Lend.o1 (by rfl) (by rfl) (by (exact (renL_pure (by simp [AV.bd, bdL, bdL_append])).symm)) (by rfl) (by simp [AV.bd, bdL, bdL_append]) (by simp [AV.bd, bdL, bdL_append])) ?_; simp only [updN, newO, AObj.ren, renL, AV.ren, apx, ap, if_true, if_false, Nat.reduceLT, Nat.reduceAdd, Nat.reduceSub, sO, intA, boolA, strA, rdA, ren_toks]); refine asemC_end ?_) | (refine WP.regionC (id := 4) ?_; (refine su (ap_move (rq_p rfl rfl)) ?_); (refine sc_o [3] rfl rfl (hO2) (Lend.o1 (by rfl) (by rfl) (by (exact (renL_pure (by simp [AV.bd, bdL, bdL_append])).symm)) (by rfl) (by simp [AV.bd, bdL, bdL_append]) (by simp [AV.bd, bdL, bdL_append])) ?_; simp only [updN, newO, AObj.ren, renL, AV.ren, apx, ap, if_true, if_false, Nat.reduceLT, Nat.reduceAdd, Nat.reduceSub, sO, intA, boolA, strA, rdA, ren_toks]); (refine su (ap_field_p (rq_p rfl rfl) (by rfl) (by rfl)) ?_); (refine se_store_b (by rfl) (by rfl) (by rfl) (by rfl) ?_); refine asemC_end ?_) | (refine WP.regionC (id := 5) ?_; (refine su (ap_move (rq_p rfl rfl)) ?_); (refine sc_o [3] rfl rfl (hE3) (Lend.o1 (by rfl) (by rfl) (by (exact (renL_pure (by simp [AV.bd, bdL, bdL_append])).symm)) (by rfl) (by simp [AV.bd, bdL, bdL_append]) (by simp [AV.bd, bdL, bdL_append])) ?_; simp only [updN, newO, AObj.ren, renL, AV.ren, apx, ap, if_true, if_false, Nat.reduceLT, Nat.reduceAdd, Nat.reduceSub, sO, intA, boolA, strA, rdA, ren_toks]); refine asemC_end ?_) | (refine WP.regionC (id := 6) ?_; (refine su (ap_move (rq_p rfl rfl)) ?_); (refine sc_o [3] rfl rfl (hO4) (Lend.o1 (by rfl) (by rfl) (by (exact (renL_pure (by simp [AV.bd, bdL, bdL_append])).symm)) (by rfl) (by simp [AV.bd, bdL, bdL_append]) (by simp [AV.bd, bdL, bdL_append])) ?_; simp only [updN, newO, AObj.ren, renL, AV.ren, apx, ap, if_true, if_false, Nat.reduceLT, Nat.reduceAdd, Nat.reduceSub, sO, intA, boolA, strA, rdA, ren_toks, ren_levelsA]); (refine su (ap_field_p (rq_p rfl rfl) (by rfl) (by rfl)) ?_); (refine se_store_b (by rfl) (by rfl) (by rfl) (by rfl) ?_); refine asemC_end ?_) | (refine WP.regionC (id := 7) ?_; (refine su (ap_assign (rq_p rfl rfl)) ?_); refine asemC_end ?_)))
            refine wp_nil 6 2 rfl ?_
            refine wp_loop (fun (σ : List GRu × List (Nat × Tx)) => σ.2 <:+ l4 ∧ σ.1.length + σ.2.length ≤ L.length ∧ finU σ.1 (σ.2.map (·.2)) = pRules (l4.map (·.2))) (fun σ => σ.2.length)
              (fun σ => (S 42 [(2, .ptr 0 3 0 0), (3, .ptr 1 1 0 0), (4, .ptr 2 1 0 0), (5, .ptr 3 2 0 0), (6, .ref 4 2 0 σ.1.length)] 5 [(0, some (boxF (.agg [strA n, levelsA ls, .val (.slice none 0 0)]))), (1, some (boxI .i64 0)), (2, some (boxI .i64 0)), (3, some (rdA σ.2 (s.size : Int))), (4, some (.arr 2 (σ.1.map gruleA)))])) ([], l4) ⟨[0, 1, 2, 3, 4], ToR.S rfl (by repeat' (first | exact rt_nil | refine rt_r (by rfl) (by rfl) ?_ | refine rt_t (by rfl) (by rfl) ?_)) (by repeat' (first | exact ro_nil | refine ro_e (by rfl) (by rfl) ?_ | refine ro_p (by rfl) (by first | exact rfl | fail) (by first | (simp [bdL, bdL_append, AV.bd]; done) | fail) ?_)) (by rfl) (by (rw [hm]; exact rfl)) (by rfl) (by (simp [bdT, AV.bd, bdL, bdL_append]; done)) (by repeat' (first | exact True.intro | exact rfl | refine And.intro ?_ ?_ | (simp [bdOq, bdL, bdL_append, AV.bd]; done))) (by (rw [hm]; exact Nat.le_of_ble_eq_true rfl))⟩ ⟨List.suffix_refl _, by simpa using hlen4, finU_nil _⟩ ?_
            rintro ⟨acc, l5⟩ ⟨hs5, hn5, hf5⟩
            simp only at hs5 hn5 hf5 ⊢
            cases l5 with
            | nil =>
              have hpr : pRules (l4.map (·.2)) = .ok acc [] := by rw [← hf5]; exact finU_stop acc
              have hpF := hpo acc [] hpr
              have hval := gvalid_fn ⟨n, ls, acc⟩ (hT _ _ hpF)
              rw [hokk _ _ hpF]
              (repeat' (first | refine WP.seq ?_ | refine WP.block ?_ | refine go_n ?_ | refine WP.skip ?_ | refine WP.exit ?_ | refine go_x ?_ | refine bl_x ?_ | (refine wp_cond (by rfl) (fun hc => ?_) (fun hc => ?_) <;> (try simp only [sB, ne_eq, reduceCtorEq] at hc) <;> (try (exfalso; omega))) | (refine WP.regionC (id := 8) ?_; (refine su (ap_move (rq_p rfl rfl)) ?_); (refine su (ap_nilc (rq_p rfl rfl)) ?_); (refine su (ap_field_p (rq_p rfl rfl) (by rfl) (by rfl)) ?_); (refine su (ap_load_p (rq_p rfl rfl) (by rfl) (by rfl) (by rfl)) ?_); (refine su (ap_len_m (by rfl) (rq_p rfl rfl)) ?_); (refine su (ap_gtr (rq_p rfl rfl) (rq_p rfl rfl)) ?_); refine asemC_end ?_)))
              · exfalso; simp at hc
              · refine wp_frzm 6 hm rfl rfl rfl (bd_gruleA 0) (fun _ => rfl) (by rfl) ?_
                (repeat' (first | refine WP.seq ?_ | refine go_n ?_ | refine WP.skip ?_ | refine WP.ret ?_ | refine go_r ?_ | (refine wp_cond (by rfl) (fun hc => ?_) (fun hc => ?_) <;> (try simp only [sB, ne_eq, reduceCtorEq] at hc) <;> (try (exfalso; omega))) | (refine WP.regionC (id := 10) ?_; (refine su (ap_move (rq_p rfl rfl)) ?_); (refine su (ap_field_p (rq_p rfl rfl) (by rfl) (by rfl)) ?_); (refine se_store_b (by rfl) (by rfl) (by rfl) (by rfl) ?_); refine asemC_end ?_) | (refine WP.regionC (id := 11) ?_; (refine su (ap_load_pw (rq_p rfl rfl) (by rfl) (by rfl) (by rfl)) ?_); (refine sc_p rfl rfl (by first | ((repeat' first | exact SubL.nil | refine SubL.cons ?_ ?_ | exact Sub.refl); done) | fail) (by first | (simp [bdL, bdL_append, AV.bd]; done) | fail) (hval) ?_); (refine su (ap_not (rq_p rfl rfl)) ?_); refine asemC_end ?_) | (refine WP.regionC (id := 12) ?_; (refine su (ap_build (RqP.nil) (by rfl)) ?_); (refine se_store_b (by rfl) (by rfl) (by rfl) (by rfl) ?_); (refine se_store_b (by rfl) (by rfl) (by rfl) (by rfl) ?_); (refine se_store_b (by rfl) (by rfl) (by rfl) (by rfl) ?_); refine asemC_end ?_) | (refine WP.regionC (id := 13) ?_; (refine su (ap_load_pw (rq_p rfl rfl) (by rfl) (by rfl) (by rfl)) ?_); (refine se_store_b (by rfl) (by rfl) (by rfl) (by rfl) ?_); (refine se_store_b (by rfl) (by rfl) (by rfl) (by rfl) ?_); (refine se_store_b (by rfl) (by rfl) (by rfl) (by rfl) ?_); refine asemC_end ?_)))
                · rw [if_neg (by simpa using hc)]
                  refine bd_endp (ys' := [.ptr 0 3 0 0, .ptr 1 1 0 0, .ptr 2 1 0 0]) (mid := [boxF (.agg [strA ⟨#[]⟩, .val (.slice none 0 0), .val (.slice none 0 0)]), boxI .i64 0, boxI .i64 1]) [0, 1, 2] [(3, [nilF]), (1, [.val (.int .i64 0)]), (1, [.val (.int .i64 1)])] rfl (Lend.S (by first | ((repeat' first | exact RenL.nil | refine RenL.cons (by rfl) ?_); done) | fail) (by first | ((repeat' first | exact LendO.nil | refine LendO.arr (by rfl) (by rfl) ?_); done) | fail) (by decide) (by rfl) (by simp [AV.bd, bdL, bdL_append]) (by repeat' (first | exact True.intro | refine And.intro ?_ ?_ | simp [AV.bd, bdL, bdL_append]))) (def_ret _ _ _ (fun _ => by simp [strA, AV.bd]) (fun _ => by simp [AV.bd, levelsA]) (fun _ => by simp [AV.bd]) _ _) (by simp [nilF, AV.bd, bdL, levelsA]) ?_
                  exact ret_many (xs := [nilF, .val (.int .i64 0), .val (.int .i64 1)]) (.cellT (by rfl) (by rfl) (by rfl) (by rfl) (.cellT (by rfl) (by rfl) (by rfl) (by rfl) (.cellT (by rfl) (by rfl) (by rfl) (by rfl) .nil))) (by exact Nat.le_of_ble_eq_true rfl) (by first | ((repeat' first | exact FzL.nil | refine FzL.cons ?_ ?_ | exact Fz.nil | (exact Fz.reflp (by simp [AV.bd, bdL, bdL_append])) | refine Fz.aggL ?_); done) | fail)
                · rw [if_pos hc]
                  refine bd_endp (ys' := [.ptr 0 3 0 0, .ptr 1 1 0 0, .ptr 2 1 0 0]) (mid := [boxF (.agg [strA n, levelsA ls, .sl 2 (acc.map gruleA)]), boxI .i64 0, boxI .i64 0]) [0, 1, 2] [(3, [.agg [strA n, levelsA ls, .sl 2 (acc.map gruleA)]]), (1, [.val (.int .i64 0)]), (1, [.val (.int .i64 0)])] rfl (Lend.S (by first | ((repeat' first | exact RenL.nil | refine RenL.cons (by rfl) ?_); done) | fail) (by first | ((repeat' first | exact LendO.nil | refine LendO.arr (by rfl) (by first | exact rfl | (exact (renL_pure (by simp [AV.bd, bdL, bdL_append])).symm)) ?_); done) | fail) (by decide) (by rfl) (by simp [AV.bd, bdL, bdL_append]) (by repeat' (first | exact True.intro | refine And.intro ?_ ?_ | simp [AV.bd, bdL, bdL_append]))) (def_ret _ _ _ (fun _ => by simp [strA, AV.bd]) (fun _ => by simp [AV.bd, levelsA]) (fun _ => by simp [AV.bd]) _ _) (by simp [nilF, AV.bd, bdL, levelsA]) ?_
                  exact ret_many (xs := [.agg [strA n, levelsA ls, .sl 2 (acc.map gruleA)], .val (.int .i64 0), .val (.int .i64 0)]) (.cellT (by rfl) (by rfl) (by rfl) (by rfl) (.cellT (by rfl) (by rfl) (by rfl) (by rfl) (.cellT (by rfl) (by rfl) (by rfl) (by rfl) .nil))) (by exact Nat.le_of_ble_eq_true rfl) (by first | ((repeat' first | exact FzL.nil | refine FzL.cons ?_ ?_ | (exact Fz.reflp (by simp [AV.bd, bdL, bdL_append]))); done) | fail)
            | cons p5 l6 =>
              have hs5L := hs5.trans hs4
              have hru := gprule_fn (p5 :: l6) (s.size : Int) (by simp only [List.length_cons] at hn5 ⊢; omega) (hW.suf hs5L)
              have hst := finU_step acc p5.2 (l6.map (·.2))
              cases hq5 : pRule (p5.2 :: l6.map (·.2)) with
              | err q =>
                have hqs : q <:+ (p5 :: l6).map (·.2) := by have := pRule_suf (p5.2 :: l6.map (·.2)); rw [hq5] at this; exact this
                have hX : FnX Try.prog 23 [.ptr 0 2 0 0] [rdA (p5 :: l6) (s.size : Int)] (synV (pos (cut (p5 :: l6) q) (s.size : Int))) := hru.dies (by simp only [List.map_cons]; rw [hq5]; simp only [pout])
                rw [herr q (hpf q (by rw [← hf5, List.map_cons, hst, hq5])), ← cut_cut hs5L hqs]
                have hlen6 : (p5 :: l6).length = l6.length + 1 := rfl
                (repeat' (first | refine WP.seq ?_ | refine WP.block ?_ | refine go_n ?_ | refine WP.skip ?_ | refine go_p ?_ | refine bl_p ?_ | (refine wp_cond (by rfl) (fun hc => ?_) (fun hc => ?_) <;> (try simp only [sB, ne_eq, reduceCtorEq] at hc) <;> (try (exfalso; omega))) | (refine WP.regionC (id := 8) ?_; (refine su (ap_move (rq_p rfl rfl)) ?_); (refine su (ap_nilc (rq_p rfl rfl)) ?_); (refine su (ap_field_p (rq_p rfl rfl) (by rfl) (by rfl)) ?_); (refine su (ap_load_p (rq_p rfl rfl) (by rfl) (by rfl) (by rfl)) ?_); (refine su (ap_len_m (by rfl) (rq_p rfl rfl)) ?_); (refine su (ap_gtr (rq_p rfl rfl) (rq_p rfl rfl)) ?_); refine asemC_end ?_) | (refine wpl_region (id := 9) ?_; (refine wpl_step rfl ?_; (refine su (ap_move (rq_p rfl rfl)) ?_); refine asemC_end ?_; (refine wpl_step rfl ?_; (refine su (ap_move (rq_p rfl rfl)) ?_); refine asemC_end ?_; ((refine wpl_x [3] rfl rfl (hX) (Lend.S (by first | ((repeat' first | exact RenL.nil | refine RenL.cons (by rfl) ?_); done) | fail) (by first | ((repeat' first | exact LendO.nil | refine LendO.arr (by rfl) (by (exact (renL_pure (by simp [AV.bd, bdL, bdL_append])).symm)) ?_); done) | fail) (by decide) (by rfl) (by simp [AV.bd, bdL, bdL_append]) (by repeat' (first | exact True.intro | refine And.intro ?_ ?_ | simp [AV.bd, bdL, bdL_append]))) ?_)))))))
                · skip
                  refine bd_endp (ys' := [.ptr 0 3 0 0, .ptr 1 1 0 0, .ptr 2 1 0 0]) (mid := [boxF (.agg [strA n, levelsA ls, .val (.slice none 0 0)]), boxI .i64 0, boxI .i64 0]) [0, 1, 2] [(3, [nilF]), (1, [.val (.int .i64 _)]), (1, [.val (.int .i64 3)])] rfl (Lend.S (by first | ((repeat' first | exact RenL.nil | refine RenL.cons (by rfl) ?_); done) | fail) (by first | ((repeat' first | exact LendO.nil | refine LendO.arr (by rfl) (by first | exact rfl | (exact (renL_pure (by simp [AV.bd, bdL, bdL_append])).symm)) ?_); done) | fail) (by decide) (by rfl) (by simp [AV.bd, bdL, bdL_append]) (by repeat' (first | exact True.intro | refine And.intro ?_ ?_ | simp [AV.bd, bdL, bdL_append]))) (def_panic _ _ _ (fun _ => by simp [strA, AV.bd]) (fun _ => by simp [AV.bd, levelsA]) (fun _ => by simp [AV.bd]) _ _ _) (by simp [nilF, AV.bd, bdL, levelsA]) ?_
                  exact ret_many (xs := [nilF, .val (.int .i64 _), .val (.int .i64 3)]) (.cellT (by rfl) (by rfl) (by rfl) (by rfl) (.cellT (by rfl) (by rfl) (by rfl) (by rfl) (.cellT (by rfl) (by rfl) (by rfl) (by rfl) .nil))) (by exact Nat.le_of_ble_eq_true rfl) (by first | ((repeat' first | exact FzL.nil | refine FzL.cons ?_ ?_ | exact Fz.nil | (exact Fz.reflp (by simp [AV.bd, bdL, bdL_append])) | refine Fz.aggL ?_); done) | fail)
              | ok x r =>
                have hqs : r <:+ (p5 :: l6).map (·.2) := by have := pRule_suf (p5.2 :: l6.map (·.2)); rw [hq5] at this; exact this
                have hO : FnO Try.prog 23 [.ptr 0 2 0 0] [rdA (p5 :: l6) (s.size : Int)] (gruleA x) [some (rdA (cut (p5 :: l6) r) (s.size : Int))] := hru.oks (by simp only [List.map_cons]; rw [hq5]; simp only [pout])
                have hltr := pRule_lt hq5
                simp only [List.length_cons, List.length_map] at hltr
                have hcl : (cut (p5 :: l6) r).length = r.length := by have := congrArg List.length (cut_map hqs); rwa [List.length_map] at this
                simp only [List.length_cons] at hn5
                have hnext : (cut (p5 :: l6) r).length < (p5 :: l6).length ∧ cut (p5 :: l6) r <:+ l4 ∧ (acc ++ [x]).length + (cut (p5 :: l6) r).length ≤ L.length ∧ finU (acc ++ [x]) ((cut (p5 :: l6) r).map (·.2)) = pRules (l4.map (·.2)) := by
                  refine ⟨by simp only [List.length_cons]; omega, (cut_suf _ _).trans hs5, by simp only [List.length_append, List.length_cons, List.length_nil]; omega, ?_⟩
                  rw [cut_map hqs, ← hf5, List.map_cons, hst, hq5]
                have hlen6 : (p5 :: l6).length = l6.length + 1 := rfl
                (repeat' (first | refine WP.seq ?_ | refine WP.block ?_ | refine go_n ?_ | refine WP.skip ?_ | refine bl_n ?_ | (refine wp_cond (by rfl) (fun hc => ?_) (fun hc => ?_) <;> (try simp only [sB, ne_eq, reduceCtorEq] at hc) <;> (try (exfalso; omega))) | (refine WP.regionC (id := 8) ?_; (refine su (ap_move (rq_p rfl rfl)) ?_); (refine su (ap_nilc (rq_p rfl rfl)) ?_); (refine su (ap_field_p (rq_p rfl rfl) (by rfl) (by rfl)) ?_); (refine su (ap_load_p (rq_p rfl rfl) (by rfl) (by rfl) (by rfl)) ?_); (refine su (ap_len_m (by rfl) (rq_p rfl rfl)) ?_); (refine su (ap_gtr (rq_p rfl rfl) (rq_p rfl rfl)) ?_); refine asemC_end ?_) | (refine WP.regionC (id := 9) ?_; (refine su (ap_move (rq_p rfl rfl)) ?_); (refine su (ap_move (rq_p rfl rfl)) ?_); (refine sc_o [3] rfl rfl (hO) (Lend.o1 (by rfl) (by rfl) (by (exact (renL_pure (by simp [AV.bd, bdL, bdL_append])).symm)) (by rfl) (by simp [AV.bd, bdL, bdL_append]) (by simp [AV.bd, bdL, bdL_append])) ?_; simp only [updN, newO, AObj.ren, renL, AV.ren, apx, ap, if_true, if_false, Nat.reduceLT, Nat.reduceAdd, Nat.reduceSub, sO, intA, boolA, strA, rdA, ren_toks, ren_gruleA]); (refine se_lit (OpP.cons (by rfl) (OpP.nil)) (by rfl) (by rfl) (by rfl) (by rfl) (by rfl) (by rfl) ?_); (refine se_app1 (by rfl) (by rfl) (by rfl) (by rfl) (by rfl) (by rfl) (by rfl) (by rfl) (by omega) ?_); (refine su (ap_assign (rq_p rfl rfl)) ?_); refine asemC_end ?_)))
                exact ⟨(acc ++ [x], cut (p5 :: l6) r), hnext, ⟨[0, 1, 2, 3, 6], ToR.S rfl (by repeat' (first | exact rt_nil | refine rt_r (by rfl) (by rfl) ?_ | refine rt_t (by rfl) (by rfl) ?_)) (by repeat' (first | exact ro_nil | refine ro_e (by rfl) (by rfl) ?_ | refine ro_p (by rfl) (by first | exact rfl | fail) (by first | exact bdL_map (fun _ => by simp [AV.bd, bdL, bdL_append]) _ | (simp [bdL, bdL_append, AV.bd]; done) | fail) ?_)) (by rfl) (by (rw [hm]; exact rfl)) (by rfl) (by (simp [bdT, AV.bd, bdL, bdL_append]; done)) (by repeat' (first | exact True.intro | exact rfl | refine And.intro ?_ ?_ | exact bdL_map (fun _ => by simp [AV.bd, bdL, bdL_append]) _ | (simp [bdOq, bdL, bdL_append, AV.bd]; done))) (by (rw [hm]; exact Nat.le_of_ble_eq_true rfl))⟩⟩
        · have hX := expect_x [59] (by simp) l2 (s.size : Int) h59
          rw [herr r2 (by have : pTake [59] r2 = .err r2 := by rw [← hm2]; exact pTake_bad (by simp) h59
                          simp only [pFile, hpt1, hq1, this]), ← cut_cut hs1 hr2, hl2]
          (repeat' (first | refine WP.seq ?_ | refine go_n ?_ | refine go_p ?_ | (refine wpl_region (id := 2) ?_; (refine wpl_step rfl ?_; (refine su (ap_move (rq_p rfl rfl)) ?_); refine asemC_end ?_; ((refine wpl_step rfl ?_; (refine sc_p rfl rfl (by first | ((repeat' first | exact SubL.nil | refine SubL.cons ?_ ?_ | exact Sub.refl); done) | fail) (by first | (simp [bdL, bdL_append, AV.bd]; done) | fail) (hlex) ?_); refine asemC_end ?_; (refine wpl_step rfl ?_; (refine su (ap_move (rq_p rfl rfl)) ?_); refine asemC_end ?_; (refine wpl_step rfl ?_; (refine su (ap_len_str (by rfl) (rq_p rfl rfl)) ?_); refine asemC_end ?_; (refine wpl_step rfl ?_; (refine su (ap_build (RqP.cons (rq_p rfl rfl) (RqP.cons (rq_p rfl rfl) (RqP.nil))) (by rfl)) ?_); refine asemC_end ?_; (refine wpl_step rfl ?_; (refine se_box (by rfl) (by exact ⟨rfl, rfl⟩) ?_); refine asemC_end ?_; (refine wpl_step rfl ?_; (refine su (ap_assign (rq_p rfl rfl)) ?_); refine asemC_end ?_; (refine wpl_end ?_)))))))))) | (refine wpl_region (id := 3) ?_; (refine wpl_step rfl ?_; (refine su (ap_move (rq_p rfl rfl)) ?_); refine asemC_end ?_; ((refine wpl_step rfl ?_; (refine sc_o [3] rfl rfl (hE1) (Lend.o1 (by rfl) (by rfl) (by (exact (renL_pure (by simp [AV.bd, bdL, bdL_append])).symm)) (by rfl) (by simp [AV.bd, bdL, bdL_append]) (by simp [AV.bd, bdL, bdL_append])) ?_; simp only [updN, newO, AObj.ren, renL, AV.ren, apx, ap, if_true, if_false, Nat.reduceLT, Nat.reduceAdd, Nat.reduceSub, sO, intA, boolA, strA, rdA, ren_toks]); refine asemC_end ?_; (refine wpl_end ?_))))) | (refine wpl_region (id := 4) ?_; (refine wpl_step rfl ?_; (refine su (ap_move (rq_p rfl rfl)) ?_); refine asemC_end ?_; ((refine wpl_step rfl ?_; (refine sc_o [3] rfl rfl (hO2) (Lend.o1 (by rfl) (by rfl) (by (exact (renL_pure (by simp [AV.bd, bdL, bdL_append])).symm)) (by rfl) (by simp [AV.bd, bdL, bdL_append]) (by simp [AV.bd, bdL, bdL_append])) ?_; simp only [updN, newO, AObj.ren, renL, AV.ren, apx, ap, if_true, if_false, Nat.reduceLT, Nat.reduceAdd, Nat.reduceSub, sO, intA, boolA, strA, rdA, ren_toks]); refine asemC_end ?_; (refine wpl_step rfl ?_; (refine su (ap_field_p (rq_p rfl rfl) (by rfl) (by rfl)) ?_); refine asemC_end ?_; (refine wpl_step rfl ?_; (refine se_store_b (by rfl) (by rfl) (by rfl) (by rfl) ?_); refine asemC_end ?_; (refine wpl_end ?_))))))) | (refine wpl_region (id := 5) ?_; (refine wpl_step rfl ?_; (refine su (ap_move (rq_p rfl rfl)) ?_); refine asemC_end ?_; ((refine wpl_x [3] rfl rfl (hX) (Lend.S (by first | ((repeat' first | exact RenL.nil | refine RenL.cons (by rfl) ?_); done) | fail) (by first | ((repeat' first | exact LendO.nil | refine LendO.arr (by rfl) (by (exact (renL_pure (by simp [AV.bd, bdL, bdL_append])).symm)) ?_); done) | fail) (by decide) (by rfl) (by simp [AV.bd, bdL, bdL_append]) (by repeat' (first | exact True.intro | refine And.intro ?_ ?_ | simp [AV.bd, bdL, bdL_append]))) ?_))))))
          refine bd_endp (ys' := [.ptr 0 3 0 0, .ptr 1 1 0 0, .ptr 2 1 0 0]) (mid := [boxF (.agg [strA n, .val (.slice none 0 0), .val (.slice none 0 0)]), boxI .i64 0, boxI .i64 0]) [0, 1, 2] [(3, [nilF]), (1, [.val (.int .i64 _)]), (1, [.val (.int .i64 3)])] rfl (Lend.S (by first | ((repeat' first | exact RenL.nil | refine RenL.cons (by rfl) ?_); done) | fail) (by first | ((repeat' first | exact LendO.nil | refine LendO.arr (by rfl) (by rfl) ?_); done) | fail) (by decide) (by rfl) (by simp [AV.bd, bdL, bdL_append]) (by repeat' (first | exact True.intro | refine And.intro ?_ ?_ | simp [AV.bd, bdL, bdL_append]))) (def_panic _ _ _ (fun _ => by simp [strA, AV.bd]) (fun _ => by simp [AV.bd, levelsA]) (fun _ => by simp [AV.bd]) _ _ _) (by simp [nilF, AV.bd, bdL, levelsA]) ?_
          exact ret_many (xs := [nilF, .val (.int .i64 _), .val (.int .i64 3)]) (.cellT (by rfl) (by rfl) (by rfl) (by rfl) (.cellT (by rfl) (by rfl) (by rfl) (by rfl) (.cellT (by rfl) (by rfl) (by rfl) (by rfl) .nil))) (by exact Nat.le_of_ble_eq_true rfl) (by first | ((repeat' first | exact FzL.nil | refine FzL.cons ?_ ?_ | exact Fz.nil | (exact Fz.reflp (by simp [AV.bd, bdL, bdL_append])) | refine Fz.aggL ?_); done) | fail)
    · have hX := expect_x (bl kw0) (by decide) L (s.size : Int) h0
      rw [herr (L.map (·.2)) (by simp only [pFile, pTake_bad (by decide) h0]), cut_self]
      (repeat' (first | refine WP.seq ?_ | refine go_n ?_ | refine go_p ?_ | (refine wpl_region (id := 2) ?_; (refine wpl_step rfl ?_; (refine su (ap_move (rq_p rfl rfl)) ?_); refine asemC_end ?_; ((refine wpl_step rfl ?_; (refine sc_p rfl rfl (by first | ((repeat' first | exact SubL.nil | refine SubL.cons ?_ ?_ | exact Sub.refl); done) | fail) (by first | (simp [bdL, bdL_append, AV.bd]; done) | fail) (hlex) ?_); refine asemC_end ?_; (refine wpl_step rfl ?_; (refine su (ap_move (rq_p rfl rfl)) ?_); refine asemC_end ?_; (refine wpl_step rfl ?_; (refine su (ap_len_str (by rfl) (rq_p rfl rfl)) ?_); refine asemC_end ?_; (refine wpl_step rfl ?_; (refine su (ap_build (RqP.cons (rq_p rfl rfl) (RqP.cons (rq_p rfl rfl) (RqP.nil))) (by rfl)) ?_); refine asemC_end ?_; (refine wpl_step rfl ?_; (refine se_box (by rfl) (by exact ⟨rfl, rfl⟩) ?_); refine asemC_end ?_; (refine wpl_step rfl ?_; (refine su (ap_assign (rq_p rfl rfl)) ?_); refine asemC_end ?_; (refine wpl_end ?_)))))))))) | (refine wpl_region (id := 3) ?_; (refine wpl_step rfl ?_; (refine su (ap_move (rq_p rfl rfl)) ?_); refine asemC_end ?_; ((refine wpl_x [3] rfl rfl (hX) (Lend.S (by first | ((repeat' first | exact RenL.nil | refine RenL.cons (by rfl) ?_); done) | fail) (by first | ((repeat' first | exact LendO.nil | refine LendO.arr (by rfl) (by (exact (renL_pure (by simp [AV.bd, bdL, bdL_append])).symm)) ?_); done) | fail) (by decide) (by rfl) (by simp [AV.bd, bdL, bdL_append]) (by repeat' (first | exact True.intro | refine And.intro ?_ ?_ | simp [AV.bd, bdL, bdL_append]))) ?_))))))
      refine bd_endp (ys' := [.ptr 0 3 0 0, .ptr 1 1 0 0, .ptr 2 1 0 0]) (mid := [boxF (.agg [strA ⟨#[]⟩, .val (.slice none 0 0), .val (.slice none 0 0)]), boxI .i64 0, boxI .i64 0]) [0, 1, 2] [(3, [nilF]), (1, [.val (.int .i64 _)]), (1, [.val (.int .i64 3)])] rfl (Lend.S (by first | ((repeat' first | exact RenL.nil | refine RenL.cons (by rfl) ?_); done) | fail) (by first | ((repeat' first | exact LendO.nil | refine LendO.arr (by rfl) (by rfl) ?_); done) | fail) (by decide) (by rfl) (by simp [AV.bd, bdL, bdL_append]) (by repeat' (first | exact True.intro | refine And.intro ?_ ?_ | simp [AV.bd, bdL, bdL_append]))) (def_panic _ _ _ (fun _ => by simp [strA, AV.bd]) (fun _ => by simp [AV.bd, levelsA]) (fun _ => by simp [AV.bd]) _ _ _) (by simp [nilF, AV.bd, bdL, levelsA]) ?_
      exact ret_many (xs := [nilF, .val (.int .i64 _), .val (.int .i64 3)]) (.cellT (by rfl) (by rfl) (by rfl) (by rfl) (.cellT (by rfl) (by rfl) (by rfl) (by rfl) (.cellT (by rfl) (by rfl) (by rfl) (by rfl) .nil))) (by exact Nat.le_of_ble_eq_true rfl) (by first | ((repeat' first | exact FzL.nil | refine FzL.cons ?_ ?_ | exact Fz.nil | (exact Fz.reflp (by simp [AV.bd, bdL, bdL_append])) | refine Fz.aggL ?_); done) | fail)
end Go.Lg

namespace Go.Lg
open Go.Proofs
set_option linter.unusedSimpArgs false
set_option linter.unusedVariables false
attribute [local irreducible] Ap Rq asemC WP RunD Ret Gq thenA inBlockA bodyQ noGotoA RqL RqP OpP
set_option maxHeartbeats 8000000
def rulesTo (f : GFi) (k : Nat) : Prop := ∀ j, j < k → (gnOk (nth f.rules j).name = true ∧ gruleOk (nth f.rules j) = true) ∧ ∀ i, i < j → (nth f.rules i).name ≠ (nth f.rules j).name
def startTo (f : GFi) (k : Nat) : Bool := (f.rules.take k).any fun r => decide (r.name = f.start)
theorem startTo_succ {f : GFi} {k : Nat} (hk : k < f.rules.length) : startTo f (k + 1) = (startTo f k || decide ((nth f.rules k).name = f.start)) := by
  simp [startTo, take_succ_nth hk]
theorem altOk_iff {a : GAl} : altOk a = true ↔ (0 ≤ a.price ∧ a.price ≤ 1000) ∧ okE a.body 30 = true := by
  simp only [altOk, Bool.and_eq_true, decide_eq_true_eq]
theorem altOk_no {a : GAl} (h : (a.price < 0 ∨ 1000 < a.price) ∨ okE a.body 30 = false) : altOk a = false := by
  cases hg : altOk a with
  | false => rfl
  | true =>
    have := altOk_iff.1 hg
    rcases h with h | h
    · omega
    · rw [h] at this; exact absurd this.2 (by decide)
theorem nth_map {α β : Type} [Inhabited α] [Inhabited β] (g : α → β) {l : List α} {k : Nat} (hk : k < l.length) : nth (l.map g) k = g (nth l k) := by
  rw [nth_eq (by simpa using hk), nth_eq hk, List.getElem_map]
theorem rnames_all (f : GFi) : rnames f f.rules.length = f.rules.map (·.name) := by simp [rnames]
theorem rules_no1 {f : GFi} {k : Nat} (hk : k < f.rules.length) (h : gnOk (nth f.rules k).name = false) : validF f = false := by
  have : distOk (rnames f f.rules.length) = false := by
    rw [rnames_all]
    simp only [distOk, all_nth_no (l := f.rules.map (·.name)) (f := gnOk) (k := k) (by simpa using hk) (by rw [nth_map _ hk]; exact h), Bool.false_and]
  simp only [validF, this, Bool.and_false, Bool.false_and]
theorem rules_no2 {f : GFi} {i k : Nat} (hk : k < f.rules.length) (hi : i < k) (h : (nth f.rules i).name = (nth f.rules k).name) : validF f = false := by
  have : distOk (rnames f f.rules.length) = false := by
    rw [rnames_all]
    simp only [distOk, decide_eq_false (not_nodup (l := f.rules.map (·.name)) (j := k) (k := i) (by simpa using hk) hi (by rw [nth_map _ (by omega), nth_map _ hk]; exact h)), Bool.and_false]
  simp only [validF, this, Bool.and_false, Bool.false_and]
theorem rules_no3 {f : GFi} {k : Nat} (hk : k < f.rules.length) (h : gruleOk (nth f.rules k) = false) : validF f = false := by
  simp only [validF, all_nth_no (l := f.rules) (f := gruleOk) (k := k) hk h, Bool.and_false, Bool.false_and]
theorem rules_yes {f : GFi} (h : rulesTo f f.rules.length) : f.rules.all gruleOk = true ∧ distOk (rnames f f.rules.length) = true := by
  refine ⟨all_of_nth fun j hj => (h j hj).1.2, ?_⟩
  rw [rnames_all]
  simp only [distOk, Bool.and_eq_true, decide_eq_true_eq]
  refine ⟨all_of_nth fun j hj => ?_, nodup_nth fun j hj i hi => ?_⟩
  · have hj' : j < f.rules.length := by simpa using hj
    rw [nth_map _ hj']; exact (h j hj').1.1
  · have hj' : j < f.rules.length := by simpa using hj
    rw [nth_map _ hj', nth_map _ (by omega)]; exact (h j hj').2 i hi
theorem start_any (f : GFi) : (rnames f f.rules.length).any (fun x => decide (f.start = x)) = startTo f f.rules.length := by
  rw [rnames_all, startTo, List.take_of_length_le (Nat.le_refl _), List.any_map]
  congr 1
  funext r
  simp only [Function.comp]
  rw [Bool.eq_iff_iff]; simp [eq_comm]
theorem distOk_iff {l : List ByteArray} : distOk l = true ↔ (∀ x, x ∈ l → gnOk x = true) ∧ l.Nodup := by
  simp only [distOk, Bool.and_eq_true, decide_eq_true_eq, List.all_eq_true]
theorem distOk_add {l : List ByteArray} {x : ByteArray} (h : distOk l = true) (h1 : gnOk x = true) (h2 : x ∉ l) : distOk (l ++ [x]) = true := by
  rw [distOk_iff] at h ⊢
  refine ⟨fun y hy => ?_, ?_⟩
  · rcases List.mem_append.1 hy with hy | hy
    · exact h.1 y hy
    · rw [List.mem_singleton.1 hy]; exact h1
  · rw [List.nodup_append]; exact ⟨h.2, by simp, fun a ha b hb => by rw [List.mem_singleton.1 hb]; rintro rfl; exact h2 ha⟩
theorem distOk_no {l r : List ByteArray} {x : ByteArray} (h : gnOk x = false ∨ x ∈ l) : distOk (l ++ x :: r) = false := by
  cases hg : distOk (l ++ x :: r) with
  | false => rfl
  | true =>
    rw [distOk_iff] at hg
    rcases h with h | h
    · have := hg.1 x (by simp); rw [h] at this; cases this
    · exact absurd rfl ((List.nodup_append.1 hg.2).2.2 x h x (by simp))
def toks2 (f : GFi) (j k : Nat) : List ByteArray := toks f j ++ (nth f.levels j).tokens.take k
theorem toks2_no {f : GFi} {j k : Nat} (hj : j < f.levels.length) (hk : k < (nth f.levels j).tokens.length) (h : gnOk (nth (nth f.levels j).tokens k) = false ∨ nth (nth f.levels j).tokens k ∈ toks2 f j k) : validF f = false := by
  have key : ∃ r, toks f f.levels.length = toks2 f j k ++ nth (nth f.levels j).tokens k :: r := by
    refine ⟨(nth f.levels j).tokens.drop (k + 1) ++ ((f.levels.drop (j + 1)).map (·.tokens)).flatten, ?_⟩
    have e1 : toks f f.levels.length = toks f (j + 1) ++ ((f.levels.drop (j + 1)).map (·.tokens)).flatten := by
      simp only [toks, List.take_of_length_le (Nat.le_refl f.levels.length)]
      rw [← List.flatten_append, ← List.map_append, List.take_append_drop]
    rw [e1, toks_succ hj, toks2]
    have e2 : (nth f.levels j).tokens = (nth f.levels j).tokens.take k ++ nth (nth f.levels j).tokens k :: (nth f.levels j).tokens.drop (k + 1) := by
      rw [nth_eq hk, ← List.drop_eq_getElem_cons hk, List.take_append_drop]
    conv => lhs; rw [e2]
    simp only [List.append_assoc, List.cons_append]
  obtain ⟨r, hr⟩ := key
  have : distOk (toks f f.levels.length) = false := by rw [hr]; exact distOk_no h
  simp only [validF, this, Bool.and_false, Bool.false_and]
theorem rvalid_fn (f : GFi) (hf : f.fit) (hT : (toks f f.levels.length).length ≤ 1000000) : Fn Try.prog 15 [fileA f] (boolA (validF f)) := by
  obtain ⟨hf1, hf2, hf3⟩ := hf
  refine Fn.intro (by rfl) (by kernel_rfl) Try.func15 rfl rfl Try.ntmps15 (by exact Nat.le_of_ble_eq_true rfl) ?_; intro Γ hm
  refine wp_lens 0 rfl fun hl => ?_
  have hl2 : f.rules.length ≤ 9223372036854775807 ∧ f.levels.length ≤ 9223372036854775807 := by have := hl; simp [AV.lens, lensL, fileA, levelsA, grulesA] at this; omega
  (repeat' (first | refine WP.seq ?_ | refine WP.block ?_ | refine go_n ?_ | refine WP.skip ?_ | refine WP.ret ?_ | refine go_r ?_ | refine bo_r ?_ | (refine wp_cond (by rfl) (fun hc => ?_) (fun hc => ?_) <;> (try simp only [sB, ne_eq, reduceCtorEq] at hc) <;> (try (exfalso; omega))) | (refine WP.regionC (id := 0) ?_; (refine se_box (by rfl) (by exact ⟨rfl, rfl⟩) ?_); (refine su (ap_assign (rq_p rfl rfl)) ?_); refine asemC_end ?_) | (refine WP.regionC (id := 1) ?_; (refine su (ap_field_p (rq_p rfl rfl) (by rfl) (by rfl)) ?_); (refine su (ap_load_p (rq_p rfl rfl) (by rfl) (by rfl) (by rfl)) ?_); (refine su (ap_len_m (by rfl) (rq_p rfl rfl)) ?_); (refine su (ap_lss (rq_p rfl rfl) (rq_p rfl rfl)) ?_); (refine su (ap_move (rq_p rfl rfl)) ?_); (refine sg (gq_vf rfl rfl) (fun he => ap_field_p (rq_p rfl rfl) (by rfl) (by rfl)) ?_); (refine sg (gq_vf rfl rfl) (fun he => ap_load_p (rq_c rfl rfl) (by rfl) (by rfl) (by rfl)) ?_); (refine sg (gq_vf rfl rfl) (fun he => ap_len_m (by rfl) (rq_c rfl rfl)) ?_); (refine sg (gq_vf rfl rfl) (fun he => ap_gtr (rq_c rfl rfl) (rq_p rfl rfl)) ?_); (refine su (ap_or (rq_p rfl rfl) (rq_c rfl rfl)) ?_); refine asemC_end ?_) | (refine WP.regionC (id := 2) ?_; (refine su (ap_assign (rq_p rfl rfl)) ?_); refine asemC_end ?_) | (refine WP.regionC (id := 3) ?_; (refine su (ap_assign (rq_p rfl rfl)) ?_); refine asemC_end ?_) | (refine WP.regionC (id := 4) ?_; (refine su (ap_assign (rq_p rfl rfl)) ?_); refine asemC_end ?_) | refine ret_b (by rfl) ?_))
  · simp [validF]; omega
  refine wp_loop (fun (i : Nat) => i ≤ f.rules.length ∧ rulesTo f i) (fun i => f.rules.length - i)
    (fun i => (S 159 [(1, .ptr 0 3 0 0), (3, boolA (startTo f i)), (4, intA (i : Nat))] 1 [(0, some (.arr 3 [fileA f]))])) 0 ⟨[0], ToR.S rfl (by repeat' (first | exact rt_nil | refine rt_t (by rfl) (by rfl) ?_ | refine rt_e (by rfl) (by rfl) ?_)) (by repeat' (first | exact ro_nil | refine ro_p (by rfl) (by first | exact rfl | fail) (by first | (simp [bdL, bdL_append, AV.bd]; done) | fail) ?_)) (by rfl) (by (rw [hm]; exact rfl)) (by rfl) (by (simp [bdT, AV.bd, bdL, bdL_append]; done)) (by repeat' (first | exact True.intro | refine And.intro ?_ ?_ | (simp [bdOq, bdL, bdL_append, AV.bd]; done))) (by (rw [hm]; exact Nat.le_of_ble_eq_true rfl))⟩ ⟨Nat.zero_le _, fun j hj => absurd hj (Nat.not_lt_zero _)⟩ ?_
  rintro i ⟨hi, hall⟩
  by_cases hlt : i < f.rules.length
  · have hrf := hf3 _ (nth_mem hlt)
    have hns : (nth f.rules i).name.size ≤ 9223372036854775807 := hrf.1
    have hal : (nth f.rules i).alts.length ≤ 9223372036854775807 := by
      have := hl; simp [AV.lens, lensL, fileA, levelsA, grulesA, lensL_map] at this
      have := this.2.2.2 _ (nth_mem hlt)
      simp [gruleA, AV.lens, lensL, altsA] at this
      omega
    (repeat' (first | refine WP.seq ?_ | refine WP.block ?_ | refine go_n ?_ | refine WP.skip ?_ | refine WP.ret ?_ | refine go_r ?_ | refine bl_r ?_ | refine bo_r ?_ | (refine wp_cond (by rfl) (fun hc => ?_) (fun hc => ?_) <;> (try simp only [sB, ne_eq, reduceCtorEq] at hc) <;> (try (exfalso; omega))) | (refine WP.regionC (id := 5) ?_; (refine su (ap_move (rq_p rfl rfl)) ?_); (refine su (ap_field_p (rq_p rfl rfl) (by rfl) (by rfl)) ?_); (refine su (ap_load_p (rq_p rfl rfl) (by rfl) (by rfl) (by rfl)) ?_); (refine su (ap_len_m (by rfl) (rq_p rfl rfl)) ?_); (refine su (ap_lss (rq_p rfl rfl) (rq_p rfl rfl)) ?_); refine asemC_end ?_) | (refine WP.regionC (id := 7) ?_; (refine su (ap_field_p (rq_p rfl rfl) (by rfl) (by rfl)) ?_); (refine su (ap_load_p (rq_p rfl rfl) (by rfl) (by rfl) (by rfl)) ?_); (refine su (ap_move (rq_p rfl rfl)) ?_); (refine su (ap_idx_n (rq_p rfl rfl) (rq_p rfl rfl) (by omega)) ?_); (refine su (ap_load_w (rq_p rfl rfl) (by rfl)) ?_); (refine se_alloc (by rfl) ?_); (refine se_store_b (by rfl) (by rfl) (by rfl) (by rfl) ?_); refine asemC_end ?_) | (refine WP.regionC (id := 8) ?_; (refine su (ap_move (rq_p rfl rfl)) ?_); (refine su (ap_move (rq_p rfl rfl)) ?_); (refine sg (gq_vf rfl rfl) (fun he => ap_field_p (rq_p rfl rfl) (by rfl) (by rfl)) ?_); (refine sg (gq_vf rfl rfl) (fun he => ap_load_p (rq_c rfl rfl) (by rfl) (by rfl) (by rfl)) ?_); (refine sg (gq_vf rfl rfl) (fun he => ap_field_p (rq_p rfl rfl) (by rfl) (by rfl)) ?_); (refine sg (gq_vf rfl rfl) (fun he => ap_load_p (rq_c rfl rfl) (by rfl) (by rfl) (by rfl)) ?_); (refine sg (gq_vf rfl rfl) (fun he => ap_eqs (rq_c rfl rfl) (rq_c rfl rfl)) ?_); (refine su (ap_or (rq_p rfl rfl) (rq_c rfl rfl)) ?_); (refine su (ap_assign (rq_p rfl rfl)) ?_); refine asemC_end ?_) | (refine WP.regionC (id := 9) ?_; (refine su (ap_field_p (rq_p rfl rfl) (by rfl) (by rfl)) ?_); (refine su (ap_load_p (rq_p rfl rfl) (by rfl) (by rfl) (by rfl)) ?_); (refine sc_p rfl rfl (by first | ((repeat' first | exact SubL.nil | refine SubL.cons ?_ ?_ | exact Sub.refl); done) | fail) (by first | (simp [bdL, bdL_append, AV.bd]; done) | fail) (rname_fn _ (by assumption)) ?_); (refine su (ap_not (rq_p rfl rfl)) ?_); (refine su (ap_move (rq_p rfl rfl)) ?_); (refine sg (gq_vf rfl rfl) (fun he => ap_field_p (rq_p rfl rfl) (by rfl) (by rfl)) ?_); (refine sg (gq_vf rfl rfl) (fun he => ap_load_p (rq_c rfl rfl) (by rfl) (by rfl) (by rfl)) ?_); (refine sg (gq_vf rfl rfl) (fun he => ap_len_m (by rfl) (rq_c rfl rfl)) ?_); (refine sg (gq_vf rfl rfl) (fun he => ap_eql (rq_c rfl rfl) (rq_p rfl rfl)) ?_); (refine su (ap_or (rq_p rfl rfl) (rq_c rfl rfl)) ?_); refine asemC_end ?_) | (refine WP.regionC (id := 10) ?_; (refine su (ap_assign (rq_p rfl rfl)) ?_); refine asemC_end ?_) | (refine WP.regionC (id := 11) ?_; (refine su (ap_assign (rq_p rfl rfl)) ?_); refine asemC_end ?_) | refine ret_b (by rfl) ?_))
    · rcases hc with hc | hc
      · rw [rules_no1 hlt hc]
      · rw [rules_no3 hlt (by unfold gruleOk; rw [show (nth f.rules i).alts = [] from List.eq_nil_of_length_eq_zero (by omega)]; rfl)]
    have hnm : gnOk (nth f.rules i).name = true := hc.1
    have hne : ¬ (nth f.rules i).alts.length = 0 := by omega
    rw [← startTo_succ hlt]
    refine wp_loop (fun (k : Nat) => k ≤ i ∧ ∀ j, j < k → (nth f.rules j).name ≠ (nth f.rules i).name) (fun k => i - k)
      (fun k => (S 159 [(1, .ptr 0 3 0 0), (3, boolA (startTo f (i + 1))), (4, intA (i : Nat)), (5, .ptr 1 2 0 0), (6, intA (k : Nat))] 2 [(0, some (.arr 3 [fileA f])), (1, some (.arr 2 [gruleA (nth f.rules i)]))])) 0 ⟨[0, 1], ToR.S rfl (by repeat' (first | exact rt_nil | refine rt_t (by rfl) (by rfl) ?_ | refine rt_e (by rfl) (by rfl) ?_)) (by repeat' (first | exact ro_nil | refine ro_p (by rfl) (by first | exact rfl | fail) (by first | (simp [bdL, bdL_append, AV.bd]; done) | fail) ?_)) (by rfl) (by (rw [hm]; exact rfl)) (by rfl) (by (simp [bdT, AV.bd, bdL, bdL_append]; done)) (by repeat' (first | exact True.intro | refine And.intro ?_ ?_ | (simp [bdOq, bdL, bdL_append, AV.bd]; done))) (by (rw [hm]; exact Nat.le_of_ble_eq_true rfl))⟩ ⟨Nat.zero_le _, fun j hj => absurd hj (Nat.not_lt_zero _)⟩ ?_
    rintro k ⟨hk, hnd⟩
    by_cases hki : k < i
    · (repeat' (first | refine WP.seq ?_ | refine WP.block ?_ | refine go_n ?_ | refine WP.skip ?_ | refine WP.ret ?_ | refine go_r ?_ | refine bl_n ?_ | refine bl_r ?_ | refine bo_r ?_ | (refine wp_cond (by rfl) (fun hc => ?_) (fun hc => ?_) <;> (try simp only [sB, ne_eq, reduceCtorEq] at hc) <;> (try (exfalso; omega))) | (refine WP.regionC (id := 12) ?_; (refine su (ap_move (rq_p rfl rfl)) ?_); (refine su (ap_move (rq_p rfl rfl)) ?_); (refine su (ap_lss (rq_p rfl rfl) (rq_p rfl rfl)) ?_); refine asemC_end ?_) | (refine wp_draw (id := 14) 9 mixed (by kernel_rfl) (by kernel_rfl) rfl ?_ <;> (refine rd_u (by rfl) (by rfl) (ap_field_p (rq_p rfl rfl) (by rfl) (by rfl)) ?_) <;> (refine rd_u (by rfl) (by rfl) (ap_load_p (rq_p rfl rfl) (by rfl) (by rfl) (by rfl)) ?_) <;> (refine rd_u (by rfl) (by rfl) (ap_move (rq_p rfl rfl)) ?_) <;> (refine rd_u (by rfl) (by rfl) (ap_idx_n (rq_p rfl rfl) (rq_p rfl rfl) (by omega)) ?_) <;> (refine rd_u (by rfl) (by rfl) (ap_field_i (rq_p rfl rfl) (by rfl) (by rfl)) ?_) <;> (refine rd_u (by rfl) (by rfl) (ap_load_i (rq_p rfl rfl) (by rfl)) ?_) <;> (refine rd_u (by rfl) (by rfl) (ap_field_p (rq_p rfl rfl) (by rfl) (by rfl)) ?_) <;> (refine rd_u (by rfl) (by rfl) (ap_load_p (rq_p rfl rfl) (by rfl) (by rfl) (by rfl)) ?_) <;> (refine rd_u (by rfl) (by rfl) (ap_eqs (rq_p rfl rfl) (rq_p rfl rfl)) ?_) <;> (refine rd_end (by kernel_rfl) ?_)) | (refine WP.regionC (id := 15) ?_; (refine su (ap_assign (rq_p rfl rfl)) ?_); refine asemC_end ?_) | (refine WP.regionC (id := 13) ?_; (refine su (ap_move (rq_p rfl rfl)) ?_); (refine su (ap_add (rq_p rfl rfl) (rq_p rfl rfl) (by exact inr_i64_of (by omega))) ?_); (refine su (ap_assign (rq_p rfl rfl)) ?_); refine asemC_end ?_) | refine ret_b (by rfl) ?_))
      · rw [rules_no2 hlt hki hc]
      · refine ⟨k + 1, ⟨by omega, by omega, fun j hj => ?_⟩, ⟨[0, 1], ToR.S rfl (by repeat' (first | exact rt_nil | refine rt_t (by rfl) (by rfl) ?_ | refine rt_e (by rfl) (by rfl) ?_)) (by repeat' (first | exact ro_nil | refine ro_p (by rfl) (by first | exact rfl | fail) (by first | (simp [bdL, bdL_append, AV.bd]; done) | fail) ?_)) (by rfl) (by (rw [hm]; exact rfl)) (by rfl) (by (simp [bdT, AV.bd, bdL, bdL_append]; done)) (by repeat' (first | exact True.intro | refine And.intro ?_ ?_ | (simp [bdOq, bdL, bdL_append, AV.bd]; done))) (by (rw [hm]; exact Nat.le_of_ble_eq_true rfl))⟩⟩
        by_cases h : j = k
        · subst h; exact hc
        · exact hnd j (by omega)
    obtain rfl : k = i := by omega
    (repeat' (first | refine WP.seq ?_ | refine WP.block ?_ | refine go_n ?_ | refine WP.exit ?_ | refine go_x ?_ | refine bl_x ?_ | (refine wp_cond (by rfl) (fun hc => ?_) (fun hc => ?_) <;> (try simp only [sB, ne_eq, reduceCtorEq] at hc) <;> (try (exfalso; omega))) | (refine WP.regionC (id := 12) ?_; (refine su (ap_move (rq_p rfl rfl)) ?_); (refine su (ap_move (rq_p rfl rfl)) ?_); (refine su (ap_lss (rq_p rfl rfl) (rq_p rfl rfl)) ?_); refine asemC_end ?_) | (refine WP.regionC (id := 16) ?_; (refine su (ap_assign (rq_p rfl rfl)) ?_); refine asemC_end ?_)))
    refine wp_loop (fun (m : Nat) => m ≤ (nth f.rules k).alts.length ∧ ((nth f.rules k).alts.take m).all altOk = true) (fun m => (nth f.rules k).alts.length - m)
      (fun m => (S 159 [(1, .ptr 0 3 0 0), (3, boolA (startTo f (k + 1))), (4, intA (k : Nat)), (5, .ptr 1 2 0 0), (7, intA (m : Nat))] 2 [(0, some (.arr 3 [fileA f])), (1, some (.arr 2 [gruleA (nth f.rules k)]))])) 0 ⟨[0, 1], ToR.S rfl (by repeat' (first | exact rt_nil | refine rt_t (by rfl) (by rfl) ?_ | refine rt_e (by rfl) (by rfl) ?_)) (by repeat' (first | exact ro_nil | refine ro_p (by rfl) (by first | exact rfl | fail) (by first | (simp [bdL, bdL_append, AV.bd]; done) | fail) ?_)) (by rfl) (by (rw [hm]; exact rfl)) (by rfl) (by (simp [bdT, AV.bd, bdL, bdL_append]; done)) (by repeat' (first | exact True.intro | refine And.intro ?_ ?_ | (simp [bdOq, bdL, bdL_append, AV.bd]; done))) (by (rw [hm]; exact Nat.le_of_ble_eq_true rfl))⟩ ⟨Nat.zero_le _, rfl⟩ ?_
    rintro m ⟨hm2, hall2⟩
    by_cases hml : m < (nth f.rules k).alts.length
    · have hbf := hrf.2 _ (nth_mem hml)
      have hE := rexpr_fn _ hbf 30 (by decide) (by decide)
      (repeat' (first | refine WP.seq ?_ | refine WP.block ?_ | refine go_n ?_ | refine WP.skip ?_ | refine WP.ret ?_ | refine go_r ?_ | refine bl_n ?_ | refine bl_r ?_ | refine bo_r ?_ | (refine wp_cond (by rfl) (fun hc => ?_) (fun hc => ?_) <;> (try simp only [sB, ne_eq, reduceCtorEq] at hc) <;> (try (exfalso; omega))) | (refine WP.regionC (id := 17) ?_; (refine su (ap_move (rq_p rfl rfl)) ?_); (refine su (ap_field_p (rq_p rfl rfl) (by rfl) (by rfl)) ?_); (refine su (ap_load_p (rq_p rfl rfl) (by rfl) (by rfl) (by rfl)) ?_); (refine su (ap_len_m (by rfl) (rq_p rfl rfl)) ?_); (refine su (ap_lss (rq_p rfl rfl) (rq_p rfl rfl)) ?_); refine asemC_end ?_) | (refine WP.regionC (id := 19) ?_; (refine su (ap_field_p (rq_p rfl rfl) (by rfl) (by rfl)) ?_); (refine su (ap_load_p (rq_p rfl rfl) (by rfl) (by rfl) (by rfl)) ?_); (refine su (ap_move (rq_p rfl rfl)) ?_); (refine su (ap_idx_n (rq_p rfl rfl) (rq_p rfl rfl) (by omega)) ?_); (refine su (ap_load_w (rq_p rfl rfl) (by rfl)) ?_); (refine se_alloc (by rfl) ?_); (refine se_store_b (by rfl) (by rfl) (by rfl) (by rfl) ?_); refine asemC_end ?_) | (refine WP.regionC (id := 20) ?_; (refine su (ap_field_p (rq_p rfl rfl) (by rfl) (by rfl)) ?_); (refine su (ap_load_p (rq_p rfl rfl) (by rfl) (by rfl) (by rfl)) ?_); (refine su (ap_lss (rq_p rfl rfl) (rq_p rfl rfl)) ?_); (refine su (ap_move (rq_p rfl rfl)) ?_); (refine sg (gq_vf rfl rfl) (fun he => ap_field_p (rq_p rfl rfl) (by rfl) (by rfl)) ?_); (refine sg (gq_vf rfl rfl) (fun he => ap_load_p (rq_c rfl rfl) (by rfl) (by rfl) (by rfl)) ?_); (refine sg (gq_vf rfl rfl) (fun he => ap_gtr (rq_c rfl rfl) (rq_p rfl rfl)) ?_); (refine su (ap_or (rq_p rfl rfl) (rq_c rfl rfl)) ?_); (refine su (ap_move (rq_p rfl rfl)) ?_); (refine sg (gq_vf rfl rfl) (fun he => ap_field_p (rq_p rfl rfl) (by rfl) (by rfl)) ?_); (refine sg (gq_vf rfl rfl) (fun he => ap_load_p (rq_c rfl rfl) (by rfl) (by rfl) (by rfl)) ?_); (refine sg_p (gq_vf rfl rfl) (fun he => ⟨(rq_p rfl rfl), (RqL.cons (rq_c rfl rfl) (RqL.cons (rq_p rfl rfl) (RqL.nil))), (by first | ((repeat' first | exact SubL.nil | refine SubL.cons ?_ ?_ | exact Sub.refl); done) | fail), (by first | (simp [bdL, bdL_append, AV.bd, AV.cells]; done) | fail), hE⟩) ?_); (refine sg (gq_vf rfl rfl) (fun he => ap_not (rq_c rfl rfl)) ?_); (refine su (ap_or (rq_p rfl rfl) (rq_c rfl rfl)) ?_); refine asemC_end ?_) | (refine WP.regionC (id := 21) ?_; (refine su (ap_assign (rq_p rfl rfl)) ?_); refine asemC_end ?_) | (refine WP.regionC (id := 18) ?_; (refine su (ap_move (rq_p rfl rfl)) ?_); (refine su (ap_add (rq_p rfl rfl) (rq_p rfl rfl) (by exact inr_i64_of (by omega))) ?_); (refine su (ap_assign (rq_p rfl rfl)) ?_); refine asemC_end ?_) | refine ret_b (by rfl) ?_))
      · rw [rules_no3 hlt (by unfold gruleOk; rw [all_nth_no (l := (nth f.rules k).alts) (f := altOk) (k := m) hml (altOk_no hc), Bool.and_false])]
      · exact ⟨m + 1, ⟨by omega, by omega, take_all_succ hml hall2 (altOk_iff.2 hc)⟩, ⟨[0, 1], ToR.S rfl (by repeat' (first | exact rt_nil | refine rt_t (by rfl) (by rfl) ?_ | refine rt_e (by rfl) (by rfl) ?_)) (by repeat' (first | exact ro_nil | refine ro_p (by rfl) (by first | exact rfl | fail) (by first | (simp [bdL, bdL_append, AV.bd]; done) | fail) ?_)) (by rfl) (by (rw [hm]; exact rfl)) (by rfl) (by (simp [bdT, AV.bd, bdL, bdL_append]; done)) (by repeat' (first | exact True.intro | refine And.intro ?_ ?_ | (simp [bdOq, bdL, bdL_append, AV.bd]; done))) (by (rw [hm]; exact Nat.le_of_ble_eq_true rfl))⟩⟩
    have hra := all_of_take' (by omega) hall2
    (repeat' (first | refine WP.seq ?_ | refine go_n ?_ | refine WP.exit ?_ | refine go_x ?_ | refine bl_n ?_ | refine bl_x ?_ | (refine wp_cond (by rfl) (fun hc => ?_) (fun hc => ?_) <;> (try simp only [sB, ne_eq, reduceCtorEq] at hc) <;> (try (exfalso; omega))) | (refine WP.regionC (id := 17) ?_; (refine su (ap_move (rq_p rfl rfl)) ?_); (refine su (ap_field_p (rq_p rfl rfl) (by rfl) (by rfl)) ?_); (refine su (ap_load_p (rq_p rfl rfl) (by rfl) (by rfl) (by rfl)) ?_); (refine su (ap_len_m (by rfl) (rq_p rfl rfl)) ?_); (refine su (ap_lss (rq_p rfl rfl) (rq_p rfl rfl)) ?_); refine asemC_end ?_) | (refine WP.regionC (id := 6) ?_; (refine su (ap_move (rq_p rfl rfl)) ?_); (refine su (ap_add (rq_p rfl rfl) (rq_p rfl rfl) (by exact inr_i64_of (by omega))) ?_); (refine su (ap_assign (rq_p rfl rfl)) ?_); refine asemC_end ?_)))
    refine ⟨k + 1, ⟨by omega, by omega, fun j hj => ?_⟩, ⟨[0], ToR.S rfl (by repeat' (first | exact rt_nil | refine rt_t (by rfl) (by rfl) ?_ | refine rt_e (by rfl) (by rfl) ?_)) (by repeat' (first | exact ro_nil | refine ro_p (by rfl) (by first | exact rfl | fail) (by first | (simp [bdL, bdL_append, AV.bd]; done) | fail) ?_)) (by rfl) (by (rw [hm]; exact rfl)) (by rfl) (by (simp [bdT, AV.bd, bdL, bdL_append]; done)) (by repeat' (first | exact True.intro | refine And.intro ?_ ?_ | (simp [bdOq, bdL, bdL_append, AV.bd]; done))) (by (rw [hm]; exact Nat.le_of_ble_eq_true rfl))⟩⟩
    by_cases h : j = k
    · subst h
      refine ⟨⟨hnm, ?_⟩, hnd⟩
      unfold gruleOk
      rw [hra, decide_eq_false (by rintro e; rw [e] at hne; exact hne rfl)]; rfl
    · exact hall j (by omega)
  obtain rfl : i = f.rules.length := by omega
  obtain ⟨hr1, hr2⟩ := rules_yes hall
  (repeat' (first | refine WP.seq ?_ | refine WP.block ?_ | refine go_n ?_ | refine WP.exit ?_ | refine go_x ?_ | refine bl_x ?_ | (refine wp_cond (by rfl) (fun hc => ?_) (fun hc => ?_) <;> (try simp only [sB, ne_eq, reduceCtorEq] at hc) <;> (try (exfalso; omega))) | (refine WP.regionC (id := 5) ?_; (refine su (ap_move (rq_p rfl rfl)) ?_); (refine su (ap_field_p (rq_p rfl rfl) (by rfl) (by rfl)) ?_); (refine su (ap_load_p (rq_p rfl rfl) (by rfl) (by rfl) (by rfl)) ?_); (refine su (ap_len_m (by rfl) (rq_p rfl rfl)) ?_); (refine su (ap_lss (rq_p rfl rfl) (rq_p rfl rfl)) ?_); refine asemC_end ?_) | (refine WP.regionC (id := 22) ?_; (refine su (ap_assign (rq_p rfl rfl)) ?_); refine asemC_end ?_) | (refine WP.regionC (id := 23) ?_; (refine su (ap_assign (rq_p rfl rfl)) ?_); refine asemC_end ?_)))
  refine wp_nil 9 1 (by rfl) ?_
  refine wp_loop (fun (j : Nat) => j ≤ f.levels.length ∧ (f.levels.take j).all glevelOk = true ∧ distOk (toks f j) = true) (fun j => f.levels.length - j)
    (fun j => (S 159 [(1, .ptr 0 3 0 0), (3, boolA (startTo f f.rules.length)), (9, .ref 1 1 0 (toks f j).length), (10, intA (j : Nat))] 2 [(0, some (.arr 3 [fileA f])), (1, some (.arr 1 ((toks f j).map strA)))])) 0 ⟨[0, 1], ToR.S rfl (by repeat' (first | exact rt_nil | refine rt_r (by rfl) (by rfl) ?_ | refine rt_t (by rfl) (by rfl) ?_ | refine rt_e (by rfl) (by rfl) ?_)) (by repeat' (first | exact ro_nil | refine ro_e (by rfl) (by rfl) ?_ | refine ro_p (by rfl) (by first | exact rfl | fail) (by first | (simp [bdL, bdL_append, AV.bd]; done) | fail) ?_)) (by rfl) (by (rw [hm]; exact rfl)) (by rfl) (by (simp [bdT, AV.bd, bdL, bdL_append]; done)) (by repeat' (first | exact True.intro | exact rfl | refine And.intro ?_ ?_ | (simp [bdOq, bdL, bdL_append, AV.bd]; done))) (by (rw [hm]; exact Nat.le_of_ble_eq_true rfl))⟩ ⟨Nat.zero_le _, rfl, by simp [toks, distOk]⟩ ?_
  rintro j ⟨hj, hjall, hjd⟩
  have htm := toks_mono f hj
  by_cases hlt2 : j < f.levels.length
  · have htm2 := toks_mono f (k := j + 1) (by omega)
    rw [toks_succ hlt2, List.length_append] at htm2
    have hlf := hf2 _ (nth_mem hlt2)
    (repeat' (first | refine WP.seq ?_ | refine WP.block ?_ | refine go_n ?_ | refine WP.skip ?_ | refine WP.ret ?_ | refine go_r ?_ | refine bl_r ?_ | refine bo_r ?_ | (refine wp_cond (by rfl) (fun hc => ?_) (fun hc => ?_) <;> (try simp only [sB, ne_eq, reduceCtorEq] at hc) <;> (try (exfalso; omega))) | (refine WP.regionC (id := 24) ?_; (refine su (ap_move (rq_p rfl rfl)) ?_); (refine su (ap_field_p (rq_p rfl rfl) (by rfl) (by rfl)) ?_); (refine su (ap_load_p (rq_p rfl rfl) (by rfl) (by rfl) (by rfl)) ?_); (refine su (ap_len_m (by rfl) (rq_p rfl rfl)) ?_); (refine su (ap_lss (rq_p rfl rfl) (rq_p rfl rfl)) ?_); refine asemC_end ?_) | (refine WP.regionC (id := 26) ?_; (refine su (ap_field_p (rq_p rfl rfl) (by rfl) (by rfl)) ?_); (refine su (ap_load_p (rq_p rfl rfl) (by rfl) (by rfl) (by rfl)) ?_); (refine su (ap_move (rq_p rfl rfl)) ?_); (refine su (ap_idx_n (rq_p rfl rfl) (rq_p rfl rfl) (by omega)) ?_); (refine su (ap_load_w (rq_p rfl rfl) (by rfl)) ?_); (refine se_alloc (by rfl) ?_); (refine se_store_b (by rfl) (by rfl) (by rfl) (by rfl) ?_); refine asemC_end ?_) | (refine WP.regionC (id := 27) ?_; (refine su (ap_field_p (rq_p rfl rfl) (by rfl) (by rfl)) ?_); (refine su (ap_load_p (rq_p rfl rfl) (by rfl) (by rfl) (by rfl)) ?_); (refine su (ap_lss (rq_p rfl rfl) (rq_p rfl rfl)) ?_); (refine su (ap_move (rq_p rfl rfl)) ?_); (refine sg (gq_vf rfl rfl) (fun he => ap_field_p (rq_p rfl rfl) (by rfl) (by rfl)) ?_); (refine sg (gq_vf rfl rfl) (fun he => ap_load_p (rq_c rfl rfl) (by rfl) (by rfl) (by rfl)) ?_); (refine sg (gq_vf rfl rfl) (fun he => ap_gtr (rq_c rfl rfl) (rq_p rfl rfl)) ?_); (refine su (ap_or (rq_p rfl rfl) (rq_c rfl rfl)) ?_); (refine su (ap_move (rq_p rfl rfl)) ?_); (refine sg (gq_vf rfl rfl) (fun he => ap_field_p (rq_p rfl rfl) (by rfl) (by rfl)) ?_); (refine sg (gq_vf rfl rfl) (fun he => ap_load_p (rq_c rfl rfl) (by rfl) (by rfl) (by rfl)) ?_); (refine sg (gq_vf rfl rfl) (fun he => ap_len_m (by rfl) (rq_c rfl rfl)) ?_); (refine sg (gq_vf rfl rfl) (fun he => ap_eql (rq_c rfl rfl) (rq_p rfl rfl)) ?_); (refine su (ap_or (rq_p rfl rfl) (rq_c rfl rfl)) ?_); refine asemC_end ?_) | (refine WP.regionC (id := 28) ?_; (refine su (ap_assign (rq_p rfl rfl)) ?_); refine asemC_end ?_) | (refine WP.regionC (id := 29) ?_; (refine su (ap_assign (rq_p rfl rfl)) ?_); refine asemC_end ?_) | refine ret_b (by rfl) ?_))
    · rw [show validF f = false by simp only [validF, all_nth_no (l := f.levels) (f := glevelOk) (k := j) hlt2 (glevel_no (by omega)), Bool.and_false, Bool.false_and]]
    have hgl : glevelOk (nth f.levels j) = true := glevel_iff.2 (by omega)
    refine wp_loop (fun (k : Nat) => k ≤ (nth f.levels j).tokens.length ∧ distOk (toks2 f j k) = true) (fun k => (nth f.levels j).tokens.length - k)
      (fun k => (S 159 [(1, .ptr 0 3 0 0), (3, boolA (startTo f f.rules.length)), (9, .ref 1 1 0 (toks2 f j k).length), (10, intA (j : Nat)), (11, .ptr 2 2 0 0), (12, intA (k : Nat))] 3 [(0, some (.arr 3 [fileA f])), (1, some (.arr 1 ((toks2 f j k).map strA))), (2, some (.arr 2 [levelA (nth f.levels j)]))])) 0 ?_ ⟨Nat.zero_le _, by rw [toks2, List.take_zero, List.append_nil]; exact hjd⟩ ?_
    · rw [show toks2 f j 0 = toks f j by rw [toks2, List.take_zero, List.append_nil]]
      exact ⟨[0, 1, 2], ToR.S rfl (by repeat' (first | exact rt_nil | refine rt_r (by rfl) (by rfl) ?_ | refine rt_t (by rfl) (by rfl) ?_ | refine rt_e (by rfl) (by rfl) ?_)) (by repeat' (first | exact ro_nil | refine ro_p (by rfl) (by first | exact rfl | fail) (by first | exact bdL_map (fun _ => by exact rfl) _ | (simp [bdL, bdL_append, AV.bd]; done) | fail) ?_)) (by rfl) (by (rw [hm]; exact rfl)) (by rfl) (by (simp [bdT, AV.bd, bdL, bdL_append]; done)) (by repeat' (first | exact True.intro | refine And.intro ?_ ?_ | exact bdL_map (fun _ => by exact rfl) _ | (simp [bdOq, bdL, bdL_append, AV.bd]; done))) (by (rw [hm]; exact Nat.le_of_ble_eq_true rfl))⟩
    rintro k ⟨hk, hkd⟩
    have hk2 : (toks2 f j k).length = (toks f j).length + k := by simp [toks2]; omega
    by_cases hkl : k < (nth f.levels j).tokens.length
    · have hsz : (nth (nth f.levels j).tokens k).size ≤ 9223372036854775807 := hlf _ (nth_mem hkl)
      (repeat' (first | refine WP.seq ?_ | refine WP.block ?_ | refine go_n ?_ | refine WP.skip ?_ | (refine wp_cond (by rfl) (fun hc => ?_) (fun hc => ?_) <;> (try simp only [sB, ne_eq, reduceCtorEq] at hc) <;> (try (exfalso; omega))) | (refine WP.regionC (id := 30) ?_; (refine su (ap_move (rq_p rfl rfl)) ?_); (refine su (ap_field_p (rq_p rfl rfl) (by rfl) (by rfl)) ?_); (refine su (ap_load_p (rq_p rfl rfl) (by rfl) (by rfl) (by rfl)) ?_); (refine su (ap_len_m (by rfl) (rq_p rfl rfl)) ?_); (refine su (ap_lss (rq_p rfl rfl) (rq_p rfl rfl)) ?_); refine asemC_end ?_) | (refine WP.regionC (id := 32) ?_; (refine su (ap_assign (rq_p rfl rfl)) ?_); refine asemC_end ?_)))
      refine wp_loop (fun (m : Nat) => m ≤ (toks2 f j k).length ∧ ∀ i, i < m → nth (toks2 f j k) i ≠ nth (nth f.levels j).tokens k) (fun m => (toks2 f j k).length - m)
        (fun m => (S 159 [(1, .ptr 0 3 0 0), (3, boolA (startTo f f.rules.length)), (9, .ref 1 1 0 (toks2 f j k).length), (10, intA (j : Nat)), (11, .ptr 2 2 0 0), (12, intA (k : Nat)), (13, intA (m : Nat))] 3 [(0, some (.arr 3 [fileA f])), (1, some (.arr 1 ((toks2 f j k).map strA))), (2, some (.arr 2 [levelA (nth f.levels j)]))])) 0 ⟨[0, 1, 2], ToR.S rfl (by repeat' (first | exact rt_nil | refine rt_r (by rfl) (by rfl) ?_ | refine rt_t (by rfl) (by rfl) ?_ | refine rt_e (by rfl) (by rfl) ?_)) (by repeat' (first | exact ro_nil | refine ro_p (by rfl) (by first | exact rfl | fail) (by first | exact bdL_map (fun _ => by exact rfl) _ | (simp [bdL, bdL_append, AV.bd]; done) | fail) ?_)) (by rfl) (by (rw [hm]; exact rfl)) (by rfl) (by (simp [bdT, AV.bd, bdL, bdL_append]; done)) (by repeat' (first | exact True.intro | refine And.intro ?_ ?_ | exact bdL_map (fun _ => by exact rfl) _ | (simp [bdOq, bdL, bdL_append, AV.bd]; done))) (by (rw [hm]; exact Nat.le_of_ble_eq_true rfl))⟩ ⟨Nat.zero_le _, fun j hj => absurd hj (Nat.not_lt_zero _)⟩ ?_
      rintro m ⟨hm3, hmne⟩
      by_cases hml : m < (toks2 f j k).length
      · (repeat' (first | refine WP.seq ?_ | refine WP.block ?_ | refine go_n ?_ | refine WP.skip ?_ | refine WP.ret ?_ | refine go_r ?_ | refine bl_n ?_ | refine bl_r ?_ | refine bo_r ?_ | (refine wp_cond (by rfl) (fun hc => ?_) (fun hc => ?_) <;> (try simp only [sB, ne_eq, reduceCtorEq] at hc) <;> (try (exfalso; omega))) | (refine WP.regionC (id := 33) ?_; (refine su (ap_move (rq_p rfl rfl)) ?_); (refine su (ap_move (rq_p rfl rfl)) ?_); (refine su (ap_len_r (by rfl) (rq_p rfl rfl)) ?_); (refine su (ap_lss (rq_p rfl rfl) (rq_p rfl rfl)) ?_); refine asemC_end ?_) | (refine wp_draw (id := 35) 10 mixed (by kernel_rfl) (by kernel_rfl) rfl ?_ <;> (refine rd_u (by rfl) (by rfl) (ap_move (rq_p rfl rfl)) ?_) <;> (refine rd_u (by rfl) (by rfl) (ap_move (rq_p rfl rfl)) ?_) <;> (refine rd_u (by rfl) (by rfl) (ap_idxr_n (rq_p rfl rfl) (rq_p rfl rfl) (by omega)) ?_) <;> (refine rd_u (by rfl) (by rfl) (ap_load_pt (rq_p rfl rfl) (by rfl) (by omega) (by rfl)) ?_) <;> (refine rd_u (by rfl) (by rfl) (ap_field_p (rq_p rfl rfl) (by rfl) (by rfl)) ?_) <;> (refine rd_u (by rfl) (by rfl) (ap_load_p (rq_p rfl rfl) (by rfl) (by rfl) (by rfl)) ?_) <;> (refine rd_u (by rfl) (by rfl) (ap_move (rq_p rfl rfl)) ?_) <;> (refine rd_u (by rfl) (by rfl) (ap_idx_n (rq_p rfl rfl) (rq_p rfl rfl) (by omega)) ?_) <;> (refine rd_u (by rfl) (by rfl) (ap_load_w (rq_p rfl rfl) (by rfl)) ?_) <;> (refine rd_u (by rfl) (by rfl) (ap_eqs (rq_p rfl rfl) (rq_p rfl rfl)) ?_) <;> (refine rd_end (by kernel_rfl) ?_)) | (refine WP.regionC (id := 36) ?_; (refine su (ap_assign (rq_p rfl rfl)) ?_); refine asemC_end ?_) | (refine WP.regionC (id := 34) ?_; (refine su (ap_move (rq_p rfl rfl)) ?_); (refine su (ap_add (rq_p rfl rfl) (rq_p rfl rfl) (by exact inr_i64_of (by omega))) ?_); (refine su (ap_assign (rq_p rfl rfl)) ?_); refine asemC_end ?_) | refine ret_b (by rfl) ?_))
        · rw [toks2_no hlt2 hkl (.inr (hc ▸ nth_mem hml))]
        · refine ⟨m + 1, ⟨by omega, by omega, fun i hi => ?_⟩, ⟨[0, 1, 2], ToR.S rfl (by repeat' (first | exact rt_nil | refine rt_r (by rfl) (by rfl) ?_ | refine rt_t (by rfl) (by rfl) ?_ | refine rt_e (by rfl) (by rfl) ?_)) (by repeat' (first | exact ro_nil | refine ro_p (by rfl) (by first | exact rfl | fail) (by first | exact bdL_map (fun _ => by exact rfl) _ | (simp [bdL, bdL_append, AV.bd]; done) | fail) ?_)) (by rfl) (by (rw [hm]; exact rfl)) (by rfl) (by (simp [bdT, AV.bd, bdL, bdL_append]; done)) (by repeat' (first | exact True.intro | refine And.intro ?_ ?_ | exact bdL_map (fun _ => by exact rfl) _ | (simp [bdOq, bdL, bdL_append, AV.bd]; done))) (by (rw [hm]; exact Nat.le_of_ble_eq_true rfl))⟩⟩
          by_cases h : i = m
          · subst h; exact hc
          · exact hmne i (by omega)
      obtain rfl : m = (toks2 f j k).length := by omega
      (repeat' (first | refine WP.seq ?_ | refine go_n ?_ | refine WP.skip ?_ | refine WP.exit ?_ | refine WP.ret ?_ | refine go_x ?_ | refine go_r ?_ | refine bl_n ?_ | refine bl_r ?_ | refine bl_x ?_ | refine bo_r ?_ | (refine wp_cond (by rfl) (fun hc => ?_) (fun hc => ?_) <;> (try simp only [sB, ne_eq, reduceCtorEq] at hc) <;> (try (exfalso; omega))) | (refine WP.regionC (id := 33) ?_; (refine su (ap_move (rq_p rfl rfl)) ?_); (refine su (ap_move (rq_p rfl rfl)) ?_); (refine su (ap_len_r (by rfl) (rq_p rfl rfl)) ?_); (refine su (ap_lss (rq_p rfl rfl) (rq_p rfl rfl)) ?_); refine asemC_end ?_) | (refine WP.regionC (id := 37) ?_; (refine su (ap_field_p (rq_p rfl rfl) (by rfl) (by rfl)) ?_); (refine su (ap_load_p (rq_p rfl rfl) (by rfl) (by rfl) (by rfl)) ?_); (refine su (ap_move (rq_p rfl rfl)) ?_); (refine su (ap_idx_n (rq_p rfl rfl) (rq_p rfl rfl) (by omega)) ?_); (refine su (ap_load_w (rq_p rfl rfl) (by rfl)) ?_); (refine sc_p rfl rfl (by first | ((repeat' first | exact SubL.nil | refine SubL.cons ?_ ?_ | exact Sub.refl); done) | fail) (by first | (simp [bdL, bdL_append, AV.bd]; done) | fail) (rname_fn _ (by assumption)) ?_); (refine su (ap_not (rq_p rfl rfl)) ?_); refine asemC_end ?_) | (refine WP.regionC (id := 38) ?_; (refine su (ap_assign (rq_p rfl rfl)) ?_); refine asemC_end ?_) | (refine WP.regionC (id := 39) ?_; (refine su (ap_move (rq_p rfl rfl)) ?_); (refine su (ap_field_p (rq_p rfl rfl) (by rfl) (by rfl)) ?_); (refine su (ap_load_p (rq_p rfl rfl) (by rfl) (by rfl) (by rfl)) ?_); (refine su (ap_move (rq_p rfl rfl)) ?_); (refine su (ap_idx_n (rq_p rfl rfl) (rq_p rfl rfl) (by omega)) ?_); (refine su (ap_load_w (rq_p rfl rfl) (by rfl)) ?_); (refine se_lit (OpP.cons (by rfl) (OpP.nil)) (by rfl) (by rfl) (by rfl) (by rfl) (by rfl) (by rfl) ?_); (refine se_app1 (by rfl) (by rfl) (by rfl) (by rfl) (by rfl) (by rfl) (by rfl) (by rfl) (by omega) ?_); (refine su (ap_assign (rq_p rfl rfl)) ?_); refine asemC_end ?_) | (refine WP.regionC (id := 31) ?_; (refine su (ap_move (rq_p rfl rfl)) ?_); (refine su (ap_add (rq_p rfl rfl) (rq_p rfl rfl) (by exact inr_i64_of (by omega))) ?_); (refine su (ap_assign (rq_p rfl rfl)) ?_); refine asemC_end ?_) | refine ret_b (by rfl) ?_))
      · rw [toks2_no hlt2 hkl (.inl hc)]
      · have e1 : toks2 f j (k + 1) = toks2 f j k ++ [nth (nth f.levels j).tokens k] := by rw [toks2, toks2, take_succ_nth hkl, List.append_assoc]
        refine ⟨k + 1, ⟨by omega, by omega, ?_⟩, ?_⟩
        · rw [e1]
          refine distOk_add hkd hc fun hx => ?_
          obtain ⟨i, hi, he⟩ := List.getElem_of_mem hx
          exact hmne i hi (by rw [nth_eq hi]; exact he)
        · rw [e1]
          exact ⟨[0, 4, 2], ToR.S rfl (by repeat' (first | exact rt_nil | refine rt_r (by rfl) (by rfl) ?_ | refine rt_t (by rfl) (by rfl) ?_ | refine rt_e (by rfl) (by rfl) ?_)) (by repeat' (first | exact ro_nil | refine ro_p (by rfl) (by first | exact rfl | fail) (by first | exact bdL_map (fun _ => by exact rfl) _ | (simp [bdL, bdL_append, AV.bd]; done) | fail) ?_)) (by rfl) (by (rw [hm]; exact rfl)) (by rfl) (by (simp [bdT, AV.bd, bdL, bdL_append]; done)) (by repeat' (first | exact True.intro | refine And.intro ?_ ?_ | exact bdL_map (fun _ => by exact rfl) _ | (simp [bdOq, bdL, bdL_append, AV.bd]; done))) (by (rw [hm]; exact Nat.le_of_ble_eq_true rfl))⟩
    obtain rfl : k = (nth f.levels j).tokens.length := by omega
    have e2 : toks2 f j (nth f.levels j).tokens.length = toks f (j + 1) := by rw [toks2, List.take_of_length_le (Nat.le_refl _), toks_succ hlt2]
    rw [e2] at hkd
    rw [e2]
    (repeat' (first | refine WP.seq ?_ | refine go_n ?_ | refine WP.exit ?_ | refine go_x ?_ | refine bl_n ?_ | refine bl_x ?_ | (refine wp_cond (by rfl) (fun hc => ?_) (fun hc => ?_) <;> (try simp only [sB, ne_eq, reduceCtorEq] at hc) <;> (try (exfalso; omega))) | (refine WP.regionC (id := 30) ?_; (refine su (ap_move (rq_p rfl rfl)) ?_); (refine su (ap_field_p (rq_p rfl rfl) (by rfl) (by rfl)) ?_); (refine su (ap_load_p (rq_p rfl rfl) (by rfl) (by rfl) (by rfl)) ?_); (refine su (ap_len_m (by rfl) (rq_p rfl rfl)) ?_); (refine su (ap_lss (rq_p rfl rfl) (rq_p rfl rfl)) ?_); refine asemC_end ?_) | (refine WP.regionC (id := 25) ?_; (refine su (ap_move (rq_p rfl rfl)) ?_); (refine su (ap_add (rq_p rfl rfl) (rq_p rfl rfl) (by exact inr_i64_of (by omega))) ?_); (refine su (ap_assign (rq_p rfl rfl)) ?_); refine asemC_end ?_)))
    exact ⟨j + 1, ⟨by omega, by omega, take_all_succ hlt2 hjall hgl, hkd⟩, ⟨[0, 1], ToR.S rfl (by repeat' (first | exact rt_nil | refine rt_r (by rfl) (by rfl) ?_ | refine rt_t (by rfl) (by rfl) ?_ | refine rt_e (by rfl) (by rfl) ?_)) (by repeat' (first | exact ro_nil | refine ro_p (by rfl) (by first | exact rfl | fail) (by first | exact bdL_map (fun _ => by exact rfl) _ | (simp [bdL, bdL_append, AV.bd]; done) | fail) ?_)) (by rfl) (by (rw [hm]; exact rfl)) (by rfl) (by (simp [bdT, AV.bd, bdL, bdL_append]; done)) (by repeat' (first | exact True.intro | refine And.intro ?_ ?_ | exact bdL_map (fun _ => by exact rfl) _ | (simp [bdOq, bdL, bdL_append, AV.bd]; done))) (by (rw [hm]; exact Nat.le_of_ble_eq_true rfl))⟩⟩
  obtain rfl : j = f.levels.length := by omega
  have hls := all_of_take' (by omega) hjall
  (repeat' (first | refine WP.seq ?_ | refine go_n ?_ | refine WP.exit ?_ | refine WP.ret ?_ | refine go_x ?_ | refine bl_x ?_ | refine bo_r ?_ | (refine wp_cond (by rfl) (fun hc => ?_) (fun hc => ?_) <;> (try simp only [sB, ne_eq, reduceCtorEq] at hc) <;> (try (exfalso; omega))) | (refine WP.regionC (id := 24) ?_; (refine su (ap_move (rq_p rfl rfl)) ?_); (refine su (ap_field_p (rq_p rfl rfl) (by rfl) (by rfl)) ?_); (refine su (ap_load_p (rq_p rfl rfl) (by rfl) (by rfl) (by rfl)) ?_); (refine su (ap_len_m (by rfl) (rq_p rfl rfl)) ?_); (refine su (ap_lss (rq_p rfl rfl) (rq_p rfl rfl)) ?_); refine asemC_end ?_) | (refine WP.regionC (id := 40) ?_; (refine su (ap_move (rq_p rfl rfl)) ?_); (refine su (ap_assign (rq_p rfl rfl)) ?_); refine asemC_end ?_) | refine ret_b (by rfl) ?_))
  have a1 : decide (1 ≤ f.rules.length) = true := decide_eq_true (by omega)
  have a2 : decide (f.rules.length ≤ 120) = true := decide_eq_true (by omega)
  simp only [validF, a1, a2, hr1, hr2, hls, hjd, start_any, Bool.true_and]
end Go.Lg

namespace Go.Lg
open Go.Proofs
set_option linter.unusedSimpArgs false
set_option linter.unusedVariables false
attribute [local irreducible] Ap Rq asemC WP RunD Ret Gq thenA inBlockA bodyQ noGotoA RqL RqP OpP
set_option maxHeartbeats 8000000
set_option maxRecDepth 20000
attribute [local simp] psA psR tx_nil parseA
theorem pFile_bind (l : List Tx) : pFile l = (pTake (bl kw0) l).bind fun _ r => (pName r).bind fun n r1 => (pTake [59] r1).bind fun _ r2 => (pLevels r2).bind fun ls r3 => (pRules r3).bind fun rs q => .ok ⟨n, ls, rs⟩ q := by
  unfold pFile PR.bind
  cases pTake (bl kw0) l with
  | err q => rfl
  | ok u r =>
    simp only
    cases pName r with
    | err q => rfl
    | ok n r1 =>
      simp only
      cases pTake [59] r1 with
      | err q => rfl
      | ok u r2 =>
        simp only
        cases pLevels r2 with
        | err q => rfl
        | ok ls r3 => simp only; cases pRules r3 <;> rfl
theorem posN_pos (s : ByteArray) (l : List (Nat × Tx)) : pos l (s.size : Int) = (posN s l : Int) := by cases l <;> rfl
theorem adv17_0 (s : ByteArray) (hs : s.size ≤ 100000) : FnO Try.prog 25 [.ptr 0 4 0 0] [psR s 0 0 false] (.tup []) [some (psA s (lexL (bl s) 0) false)] := by
  have h1 := advance_fn s hs 0 0 (Nat.zero_le _) false
  have e1 : nxA s (0 + 0) = posN s (lexL (bl s) 0) := by
    have e : lexL ((bl s).drop (0 + 0)) (0 + 0) = lexL (bl s) 0 := rfl
    unfold nxA; rw [e]; cases lexL (bl s) 0 <;> rfl
  have e2 : nxN s (0 + 0) = (hdT (lexL (bl s) 0)).length := by
    have e : lexL ((bl s).drop (0 + 0)) (0 + 0) = lexL (bl s) 0 := rfl
    unfold nxN; rw [e]; cases lexL (bl s) 0 <;> rfl
  rw [e1, e2] at h1
  exact h1
theorem parse17_fn (s : ByteArray) (hs : s.size ≤ 100000) (hB : (lexL (bl s) 0).length ≤ 100000) (hT : ∀ f q, pFile (lexT (bl s)) = .ok f q → (toks f f.levels.length).length ≤ 1000000 ∧ f.fit) :
    Fn Try.prog 10 [strA s] (parseA (parseR s)) := by
  have hAt : At s (lexL (bl s) 0) := ⟨hs, 0, Nat.zero_le _, by rw [List.drop_zero]⟩
  have hadv := adv17_0 s hs
  have hlt : lexT (bl s) = (lexL (bl s) 0).map (·.2) := rfl
  have hpR : parseR s = match pFile ((lexL (bl s) 0).map (·.2)) with
    | .ok f _ => if validF f then (f, 0, 0) else (noF, 0, 1)
    | .err r => (noF, pos (cut (lexL (bl s) 0) r) (s.size : Int), 3) := rfl
  rw [hlt] at hT
  generalize hL : lexL (bl s) 0 = L at *
  refine Fn.intro (by simp [AV.bd, bdL, bdL_append]) (by kernel_rfl) Try.func10 rfl rfl Try.ntmps10 (by exact Nat.le_of_ble_eq_true rfl) ?_; intro Γ hm
  (repeat' (first | refine WP.seq ?_ | refine go_n ?_ | (refine WP.regionC (id := 0) ?_; (refine se_alloc (by rfl) ?_); (refine su (ap_assign (rq_p rfl rfl)) ?_); (refine su (ap_assign (rq_p rfl rfl)) ?_); refine asemC_end ?_) | (refine WP.regionC (id := 1) ?_; (refine su (ap_move (rq_p rfl rfl)) ?_); (refine su (ap_build (RqP.cons (rq_p rfl rfl) (RqP.nil)) (by rfl)) ?_); (refine se_box (by rfl) (by exact ⟨rfl, rfl⟩) ?_); (refine su (ap_assign (rq_p rfl rfl)) ?_); refine asemC_end ?_) | (refine WP.regionC (id := 2) ?_; (refine su (ap_move (rq_p rfl rfl)) ?_); (refine sc_o [1] rfl rfl (hadv) (Lend.o1 (by rfl) (by rfl) (by rfl) (by rfl) (by simp [AV.bd, bdL, bdL_append]) (by simp [AV.bd, bdL, bdL_append])) ?_; simp only [updN, newO, AObj.ren, renL, AV.ren, apx, ap, if_true, if_false, Nat.reduceLT, Nat.reduceAdd, Nat.reduceSub, sO, intA, boolA, strA, psA, psR]); refine asemC_end ?_)))
  (repeat' (first | refine WP.seq ?_ | refine go_n ?_ | (refine WP.regionC (id := 3) ?_; (refine su (ap_move (rq_p rfl rfl)) ?_); (refine sc_v [1] rfl rfl (take17_fn hAt ⟨#[115, 116, 97, 114, 116]⟩ (by decide) false) (Lend.o1 (by rfl) (by rfl) (by rfl) (by rfl) (by simp [AV.bd, bdL, bdL_append]) (by simp [AV.bd, bdL, bdL_append])) ?_; rintro r os' hlen ⟨u1, l1, b1, rfl, rfl, ho1⟩; simp only [psA, psR, upd, AObj.ren, renL, AV.ren, renL_pure, bdL_boolA, bdL_intA, bdL_strA, bd_boolA, bd_intA, bd_strA, apx, ap, List.length_cons, List.length_nil, List.getD_cons_zero, List.getD_cons_succ, Nat.lt_irrefl, if_true, if_false, Nat.zero_lt_succ, Nat.reduceLT, Nat.reduceAdd, intA, boolA, strA]); refine asemC_end ?_)))
  have h1 := hAt.suf ho1.1
  (repeat' (first | refine WP.seq ?_ | refine go_n ?_ | (refine WP.regionC (id := 4) ?_; (refine su (ap_move (rq_p rfl rfl)) ?_); (refine sc_v [1] rfl rfl (name17_fn h1 b1) (Lend.o1 (by rfl) (by rfl) (by rfl) (by rfl) (by simp [AV.bd, bdL, bdL_append]) (by simp [AV.bd, bdL, bdL_append])) ?_; rintro r os' hlen ⟨n, l2, b2, rfl, rfl, ho2⟩; simp only [psA, psR, upd, AObj.ren, renL, AV.ren, renL_pure, bdL_boolA, bdL_intA, bdL_strA, bd_boolA, bd_intA, bd_strA, apx, ap, List.length_cons, List.length_nil, List.getD_cons_zero, List.getD_cons_succ, Nat.lt_irrefl, if_true, if_false, Nat.zero_lt_succ, Nat.reduceLT, Nat.reduceAdd, intA, boolA, strA]); (refine su (ap_build (RqP.cons (rq_p rfl rfl) (RqP.nil)) (by rfl)) ?_); (refine se_alloc (by rfl) ?_); (refine se_store_b (by rfl) (by rfl) (by rfl) (by rfl) ?_); refine asemC_end ?_)))
  have h2 := h1.suf ho2.1
  (repeat' (first | refine WP.seq ?_ | refine go_n ?_ | (refine WP.regionC (id := 5) ?_; (refine su (ap_move (rq_p rfl rfl)) ?_); (refine sc_v [1] rfl rfl (take17_fn h2 ⟨#[59]⟩ (by decide) b2) (Lend.o1 (by rfl) (by rfl) (by rfl) (by rfl) (by simp [AV.bd, bdL, bdL_append]) (by simp [AV.bd, bdL, bdL_append])) ?_; rintro r os' hlen ⟨u3, l3, b3, rfl, rfl, ho3⟩; simp only [psA, psR, upd, AObj.ren, renL, AV.ren, renL_pure, bdL_boolA, bdL_intA, bdL_strA, bd_boolA, bd_intA, bd_strA, apx, ap, List.length_cons, List.length_nil, List.getD_cons_zero, List.getD_cons_succ, Nat.lt_irrefl, if_true, if_false, Nat.zero_lt_succ, Nat.reduceLT, Nat.reduceAdd, intA, boolA, strA]); refine asemC_end ?_)))
  have h3 := h2.suf ho3.1
  have hle3 := ((ho3.1.trans ho2.1).trans ho1.1).length_le
  (repeat' (first | refine WP.seq ?_ | refine WP.block ?_ | refine go_n ?_ | (refine WP.regionC (id := 6) ?_; (refine su (ap_assign (rq_p rfl rfl)) ?_); refine asemC_end ?_)))
  refine wp_nil 7 2 rfl ?_
  refine wp_loop (fun (σ : List GLe × List (Nat × Tx) × Bool) => σ.1.length + σ.2.1.length ≤ L.length + 1 + (if σ.2.2 then 1 else 0) ∧ σ.2.1 <:+ l3 ∧ (b3 = true → σ.2.2 = true ∧ σ.2.1 = l3) ∧ (b3 = false → σ.2.2 = false → finL σ.1 (σ.2.1.map (·.2)) = pLevels (l3.map (·.2))) ∧ (b3 = false → σ.2.2 = true → pLevels (l3.map (·.2)) = .err (σ.2.1.map (·.2)))) (fun σ => 2 * σ.2.1.length + (if σ.2.2 then 0 else 1))
    (fun σ => (S 70 [(0, strA s), (2, .ptr 0 3 0 0), (5, .ptr 1 4 0 0), (6, .ptr 2 3 0 0), (7, .ref 3 2 0 σ.1.length)] 4 [(0, some (.arr 3 [nilF])), (1, some (psA s σ.2.1 σ.2.2)), (2, some (.arr 3 [.agg [strA n, .val (.slice none 0 0), .val (.slice none 0 0)]])), (3, some (.arr 2 (σ.1.map levelA)))])) ([], l3, b3) ⟨[0, 1, 2, 3], ToR.S rfl (by repeat' (first | exact rt_nil | refine rt_r (by rfl) (by rfl) ?_ | refine rt_t (by rfl) (by rfl) ?_ | refine rt_e (by rfl) (by rfl) ?_)) (by repeat' (first | exact ro_nil | refine ro_e (by rfl) (by rfl) ?_)) (by rfl) (by (rw [hm]; exact rfl)) (by rfl) (by (simp [bdT, AV.bd, bdL, bdL_append]; done)) (by repeat' (first | exact True.intro | exact rfl | refine And.intro ?_ ?_)) (by (rw [hm]; exact Nat.le_of_ble_eq_true rfl))⟩ ⟨by simp only [List.length_nil]; omega, List.suffix_refl _, fun hb => ⟨hb, rfl⟩, fun _ _ => finL_nil _, fun q1 q2 => by simp only at q2; rw [q1] at q2; cases q2⟩ ?_
  rintro ⟨acc, l4, b4⟩ ⟨hn4, hs4, hv1, hv2, hv3⟩
  simp only at hn4 hs4 hv1 hv2 hv3 ⊢
  have h4 := h3.suf hs4
  have hle4 := hs4.length_le
  have hstop : ∀ c : Bool, c = b4 → (b4 = false → asT (l4.map (·.2)) = none) → Out17 b3 (pLevels (l3.map (·.2))) l3 l4 acc b4 := by
    intro c _ ha
    refine ⟨hs4, hv1, fun q1 q2 => ?_, hv3⟩
    rw [← hv2 q1 q2]
    exact finL_stop (ha q2)
  cases hgo : (if b4 then none else asT (l4.map (·.2))) with
  | some a =>
    have hb4 : b4 = false := by cases b4 <;> simp_all
    subst hb4
    simp only [Bool.false_eq_true, if_false] at hgo hn4
    have hb3 : b3 = false := flag (fun q => (hv1 q).1) rfl
    obtain ⟨p, l5, hl5⟩ : ∃ p l5, l4 = p :: l5 := by
      cases l4 with
      | nil => cases hgo
      | cons p l5 => exact ⟨_, _, rfl⟩
    have ha : assocOf p.2 = some a := by rw [hl5] at hgo; exact hgo
    have hs5 : l5 <:+ l3 := by rw [hl5] at hs4; exact (List.suffix_cons _ _).trans hs4
    have hlen5 : l4.length = l5.length + 1 := by rw [hl5]; rfl
    have hlv : FnM Try.prog 29 [.ptr 0 4 0 0] [psA s l4 false] (post17 levelA s false (pLevel a (l5.map (·.2))) l5) := by rw [hl5]; exact level17_fn (hl5 ▸ h4) (by omega) ha
    have hst := finL_step (acc := acc) (r := l5.map (·.2)) ha
    have hl4m : l4.map (·.2) = p.2 :: l5.map (·.2) := by rw [hl5]; rfl
    have hnext : ∀ y l6 b6, Out17 false (pLevel a (l5.map (·.2))) l5 l6 y b6 → (2 * l6.length + (if b6 = true then 0 else 1) < 2 * l4.length + (if false = true then 0 else 1) ∧ (acc ++ [y]).length + l6.length ≤ L.length + 1 + (if b6 = true then 1 else 0) ∧ l6 <:+ l3 ∧ (b3 = true → b6 = true ∧ l6 = l3) ∧ (b3 = false → b6 = false → finL (acc ++ [y]) (l6.map (·.2)) = pLevels (l3.map (·.2))) ∧ (b3 = false → b6 = true → pLevels (l3.map (·.2)) = .err (l6.map (·.2)))) := by
      rintro y l6 b6 ⟨o1, o2, o3, o4⟩
      have hle := o1.length_le
      refine ⟨by cases b6 <;> simp only [Bool.false_eq_true, if_false, if_true] <;> omega, by cases b6 <;> simp only [Bool.false_eq_true, if_false, if_true, List.length_append, List.length_cons, List.length_nil] <;> omega, o1.trans hs5, fun q => (by rw [hb3] at q; cases q), fun _ q => ?_, fun _ q => ?_⟩
      · rw [← hv2 hb3 rfl, hl4m, hst, o3 rfl q]
      · rw [← hv2 hb3 rfl, hl4m, hst, o4 rfl q]
    have htx : hdT l4 = p.2 := by rw [hl5]; rfl
    rcases assoc_cases ha with ⟨_, ht⟩ | ⟨_, ht⟩ | ⟨_, ht⟩
    all_goals
      rw [← htx] at ht
      (repeat' (first | refine WP.seq ?_ | refine WP.block ?_ | refine go_n ?_ | refine WP.skip ?_ | refine WP.exit ?_ | refine go_x ?_ | refine bl_n ?_ | refine bl_x ?_ | (refine wp_cond (by rfl) (fun hc => ?_) (fun hc => ?_) <;> (try simp only [sB, ne_eq, reduceCtorEq] at hc) <;> (try (exfalso; omega))) | (refine WP.regionC (id := 7) ?_ <;> (refine su (ap_move (rq_p rfl rfl)) ?_) <;> (refine sc_o [1] rfl rfl (is17_fn h4 _ _) (Lend.o1 (by rfl) (by rfl) (by rfl) (by rfl) (by simp [AV.bd, bdL, bdL_append]) (by simp [AV.bd, bdL, bdL_append])) ?_; simp only [updN, newO, AObj.ren, renL, AV.ren, apx, ap, if_true, if_false, Nat.reduceLT, Nat.reduceAdd, Nat.reduceSub, sO, intA, boolA, strA, psA, psR]) <;> (refine su (ap_move (rq_p rfl rfl)) ?_) <;> (first | (refine as_split (t := 23) (by rfl) (fun hc => ?_) (fun hc => ?_) <;> (try simp only [sB, ne_eq, reduceCtorEq] at hc) <;> (try (exfalso; omega)) <;> (first | refine sgt_u rfl (by rfl) (by rfl) (by rfl) rfl (ap_move (rq_p rfl rfl)) ?_ | refine sg (x := .val (.bool true)) (gq_vf rfl rfl) (fun he => absurd he (by first | decide | fail)) ?_ | fail)) | fail) <;> (first | refine sgt_o [1] rfl (by rfl) (by rfl) rfl rfl (is17_fn h4 _ _) (Lend.S (by first | ((repeat' first | exact RenL.nil | refine RenL.cons (by rfl) ?_); done) | fail) (by first | ((repeat' first | exact LendO.nil | refine LendO.arr (by rfl) (by rfl) ?_); done) | fail) (by decide) (by rfl) (by simp [AV.bd, bdL, bdL_append]) (by repeat' (first | exact True.intro | refine And.intro ?_ ?_ | simp [AV.bd, bdL, bdL_append]))) ?_; simp only [updN, newO, AObj.ren, renL, AV.ren, apx, ap, if_true, if_false, Nat.reduceLT, Nat.reduceAdd, Nat.reduceSub, sO, intA, boolA, strA, psA, psR] | refine sg (x := .val (.bool true)) (gq_vf rfl rfl) (fun he => absurd he (by first | decide | fail)) ?_ | fail) <;> (refine su (ap_or (rq_p rfl rfl) (by first | exact rq_p rfl rfl | exact rq_c rfl rfl)) ?_) <;> (refine su (ap_move (rq_p rfl rfl)) ?_) <;> (first | refine sg (x := .val (.bool true)) (gq_vf rfl rfl) (fun he => absurd he (by first | decide | fail)) ?_ | (refine as_split (t := 27) (by rfl) (fun hc => ?_) (fun hc => ?_) <;> (try simp only [sB, ne_eq, reduceCtorEq] at hc) <;> (try (exfalso; omega)) <;> (first | refine sgt_u rfl (by rfl) (by rfl) (by rfl) rfl (ap_move (rq_p rfl rfl)) ?_ | refine sg (x := .val (.bool true)) (gq_vf rfl rfl) (fun he => absurd he (by first | decide | fail)) ?_ | fail)) | fail) <;> (first | refine sgt_o [1] rfl (by rfl) (by rfl) rfl rfl (is17_fn h4 _ _) (Lend.S (by first | ((repeat' first | exact RenL.nil | refine RenL.cons (by rfl) ?_); done) | fail) (by first | ((repeat' first | exact LendO.nil | refine LendO.arr (by rfl) (by rfl) ?_); done) | fail) (by decide) (by rfl) (by simp [AV.bd, bdL, bdL_append]) (by repeat' (first | exact True.intro | refine And.intro ?_ ?_ | simp [AV.bd, bdL, bdL_append]))) ?_; simp only [updN, newO, AObj.ren, renL, AV.ren, apx, ap, if_true, if_false, Nat.reduceLT, Nat.reduceAdd, Nat.reduceSub, sO, intA, boolA, strA, psA, psR] | refine sg (x := .val (.bool true)) (gq_vf rfl rfl) (fun he => absurd he (by first | decide | fail)) ?_ | fail) <;> (refine su (ap_or (rq_p rfl rfl) (by first | exact rq_p rfl rfl | exact rq_c rfl rfl)) ?_) <;> refine asemC_end ?_) | (refine WP.regionC (id := 8) ?_; (refine su (ap_move (rq_p rfl rfl)) ?_); (refine su (ap_move (rq_p rfl rfl)) ?_); (refine sc_v [1] rfl rfl (hlv) (Lend.o1 (by rfl) (by rfl) (by rfl) (by rfl) (by simp [AV.bd, bdL, bdL_append]) (by simp [AV.bd, bdL, bdL_append])) ?_; rintro r os' hlen ⟨y, l6, b6, rfl, rfl, ho⟩; simp only [psA, psR, ren_levelA, upd, AObj.ren, renL, AV.ren, renL_pure, bdL_boolA, bdL_intA, bdL_strA, bd_boolA, bd_intA, bd_strA, apx, ap, List.length_cons, List.length_nil, List.getD_cons_zero, List.getD_cons_succ, Nat.lt_irrefl, if_true, if_false, Nat.zero_lt_succ, Nat.reduceLT, Nat.reduceAdd, intA, boolA, strA]); (refine se_lit (OpP.cons (by rfl) (OpP.nil)) (by rfl) (by rfl) (by rfl) (by rfl) (by rfl) (by rfl) ?_); (refine se_app1 (by rfl) (by rfl) (by rfl) (by rfl) (by rfl) (by rfl) (by rfl) (by rfl) (by omega) ?_); (refine su (ap_assign (rq_p rfl rfl)) ?_); refine asemC_end ?_)))
      all_goals (first | exact ⟨(acc ++ [y], l6, b6), by simpa using hnext y l6 b6 ho, ⟨[0, 1, 2, 5], ToR.S rfl (by repeat' (first | exact rt_nil | refine rt_r (by rfl) (by rfl) ?_ | refine rt_t (by rfl) (by rfl) ?_ | refine rt_e (by rfl) (by rfl) ?_)) (by repeat' (first | exact ro_nil | refine ro_e (by rfl) (by rfl) ?_ | refine ro_p (by rfl) (by first | exact rfl | fail) (by first | exact bdL_map (fun _ => by simp [AV.bd, bdL, bdL_append]) _ | fail) ?_)) (by rfl) (by (rw [hm]; exact rfl)) (by rfl) (by (simp [bdT, AV.bd, bdL, bdL_append]; done)) (by repeat' (first | exact True.intro | exact rfl | refine And.intro ?_ ?_ | exact bdL_map (fun _ => by simp [AV.bd, bdL, bdL_append]) _)) (by (rw [hm]; exact Nat.le_of_ble_eq_true rfl))⟩⟩ | (exfalso; simp_all; done))
  | none =>
    have hno : b4 = false → asT (l4.map (·.2)) = none := fun q => by rw [q] at hgo; simpa using hgo
    have hLv := hstop b4 rfl hno
    have hx : ∀ k : ByteArray, assocOf (bl k) ≠ none → bl k ≠ [] → (!b4 && decide (tx (hdT l4) = k)) = false := by
      intro k hk hk0
      cases b4 with
      | true => rfl
      | false =>
        simp only [Bool.not_false, Bool.true_and, decide_eq_false_iff_not]
        intro e
        obtain ⟨p, l5, hl5, hp⟩ := hdT_cons hk0 (tx_eq e)
        have := hno rfl
        rw [hl5] at this
        have h' : assocOf p.2 = none := this
        rw [hp] at h'
        exact hk h'
    have hx1 := hx ⟨#[108, 101, 102, 116]⟩ (by decide) (by decide)
    have hx2 := hx ⟨#[114, 105, 103, 104, 116]⟩ (by decide) (by decide)
    have hx3 := hx ⟨#[110, 111, 110, 101]⟩ (by decide) (by decide)
    clear hx
    (repeat' (first | refine WP.seq ?_ | refine WP.block ?_ | refine go_n ?_ | refine WP.skip ?_ | refine WP.exit ?_ | refine go_x ?_ | refine bl_x ?_ | (refine wp_cond (by rfl) (fun hc => ?_) (fun hc => ?_) <;> (try simp only [sB, ne_eq, reduceCtorEq] at hc) <;> (try (exfalso; omega))) | (refine WP.regionC (id := 7) ?_ <;> (refine su (ap_move (rq_p rfl rfl)) ?_) <;> (refine sc_o [1] rfl rfl (is17_fn h4 _ _) (Lend.o1 (by rfl) (by rfl) (by rfl) (by rfl) (by simp [AV.bd, bdL, bdL_append]) (by simp [AV.bd, bdL, bdL_append])) ?_; simp only [updN, newO, AObj.ren, renL, AV.ren, apx, ap, if_true, if_false, Nat.reduceLT, Nat.reduceAdd, Nat.reduceSub, sO, intA, boolA, strA, psA, psR]) <;> (refine su (ap_move (rq_p rfl rfl)) ?_) <;> (first | (refine as_split (t := 23) (by rfl) (fun hc => ?_) (fun hc => ?_) <;> (try simp only [sB, ne_eq, reduceCtorEq] at hc) <;> (try (exfalso; omega)) <;> (first | refine sgt_u rfl (by rfl) (by rfl) (by rfl) rfl (ap_move (rq_p rfl rfl)) ?_ | refine sg (x := .val (.bool true)) (gq_vf rfl rfl) (fun he => absurd he (by first | decide | fail)) ?_ | fail)) | fail) <;> (first | refine sgt_o [1] rfl (by rfl) (by rfl) rfl rfl (is17_fn h4 _ _) (Lend.S (by first | ((repeat' first | exact RenL.nil | refine RenL.cons (by rfl) ?_); done) | fail) (by first | ((repeat' first | exact LendO.nil | refine LendO.arr (by rfl) (by rfl) ?_); done) | fail) (by decide) (by rfl) (by simp [AV.bd, bdL, bdL_append]) (by repeat' (first | exact True.intro | refine And.intro ?_ ?_ | simp [AV.bd, bdL, bdL_append]))) ?_; simp only [updN, newO, AObj.ren, renL, AV.ren, apx, ap, if_true, if_false, Nat.reduceLT, Nat.reduceAdd, Nat.reduceSub, sO, intA, boolA, strA, psA, psR] | refine sg (x := .val (.bool true)) (gq_vf rfl rfl) (fun he => absurd he (by first | decide | fail)) ?_ | fail) <;> (refine su (ap_or (rq_p rfl rfl) (by first | exact rq_p rfl rfl | exact rq_c rfl rfl)) ?_) <;> (refine su (ap_move (rq_p rfl rfl)) ?_) <;> (first | refine sg (x := .val (.bool true)) (gq_vf rfl rfl) (fun he => absurd he (by first | decide | fail)) ?_ | (refine as_split (t := 27) (by rfl) (fun hc => ?_) (fun hc => ?_) <;> (try simp only [sB, ne_eq, reduceCtorEq] at hc) <;> (try (exfalso; omega)) <;> (first | refine sgt_u rfl (by rfl) (by rfl) (by rfl) rfl (ap_move (rq_p rfl rfl)) ?_ | refine sg (x := .val (.bool true)) (gq_vf rfl rfl) (fun he => absurd he (by first | decide | fail)) ?_ | fail)) | fail) <;> (first | refine sgt_o [1] rfl (by rfl) (by rfl) rfl rfl (is17_fn h4 _ _) (Lend.S (by first | ((repeat' first | exact RenL.nil | refine RenL.cons (by rfl) ?_); done) | fail) (by first | ((repeat' first | exact LendO.nil | refine LendO.arr (by rfl) (by rfl) ?_); done) | fail) (by decide) (by rfl) (by simp [AV.bd, bdL, bdL_append]) (by repeat' (first | exact True.intro | refine And.intro ?_ ?_ | simp [AV.bd, bdL, bdL_append]))) ?_; simp only [updN, newO, AObj.ren, renL, AV.ren, apx, ap, if_true, if_false, Nat.reduceLT, Nat.reduceAdd, Nat.reduceSub, sO, intA, boolA, strA, psA, psR] | refine sg (x := .val (.bool true)) (gq_vf rfl rfl) (fun he => absurd he (by first | decide | fail)) ?_ | fail) <;> (refine su (ap_or (rq_p rfl rfl) (by first | exact rq_p rfl rfl | exact rq_c rfl rfl)) ?_) <;> refine asemC_end ?_) | (refine WP.regionC (id := 9) ?_; (refine su (ap_assign (rq_p rfl rfl)) ?_); refine asemC_end ?_)))
    all_goals (first | (exfalso; simp_all; done) | skip)
    refine wp_nil 8 2 rfl ?_
    refine wp_loop (fun (σ : List GRu × List (Nat × Tx) × Bool) => σ.1.length + σ.2.1.length ≤ L.length + 1 + (if σ.2.2 then 1 else 0) ∧ σ.2.1 <:+ l4 ∧ (b4 = true → σ.2.2 = true ∧ σ.2.1 = l4) ∧ (b4 = false → σ.2.2 = false → finU σ.1 (σ.2.1.map (·.2)) = pRules (l4.map (·.2))) ∧ (b4 = false → σ.2.2 = true → pRules (l4.map (·.2)) = .err (σ.2.1.map (·.2)))) (fun σ => 2 * σ.2.1.length + (if σ.2.2 then 0 else 1))
      (fun σ => (S 70 [(0, strA s), (2, .ptr 0 3 0 0), (5, .ptr 1 4 0 0), (6, .ptr 2 3 0 0), (7, .ref 3 2 0 acc.length), (8, .ref 4 2 0 σ.1.length)] 5 [(0, some (.arr 3 [nilF])), (1, some (psA s σ.2.1 σ.2.2)), (2, some (.arr 3 [.agg [strA n, .val (.slice none 0 0), .val (.slice none 0 0)]])), (3, some (.arr 2 (acc.map levelA))), (4, some (.arr 2 (σ.1.map gruleA)))])) ([], l4, b4) ⟨[0, 1, 2, 3, 4], ToR.S rfl (by repeat' (first | exact rt_nil | refine rt_r (by rfl) (by rfl) ?_ | refine rt_t (by rfl) (by rfl) ?_ | refine rt_e (by rfl) (by rfl) ?_)) (by repeat' (first | exact ro_nil | refine ro_e (by rfl) (by rfl) ?_ | refine ro_p (by rfl) (by first | exact rfl | fail) (by first | exact bdL_map (fun _ => by simp [AV.bd, bdL, bdL_append]) _ | fail) ?_)) (by rfl) (by (rw [hm]; exact rfl)) (by rfl) (by (simp [bdT, AV.bd, bdL, bdL_append]; done)) (by repeat' (first | exact True.intro | exact rfl | refine And.intro ?_ ?_ | exact bdL_map (fun _ => by simp [AV.bd, bdL, bdL_append]) _)) (by (rw [hm]; exact Nat.le_of_ble_eq_true rfl))⟩ ⟨by simp only [List.length_nil]; omega, List.suffix_refl _, fun hb => ⟨hb, rfl⟩, fun _ _ => finU_nil _, fun q1 q2 => by simp only at q2; rw [q1] at q2; cases q2⟩ ?_
    clear hx1 hx2 hx3 hgo hstop hv1 hv2 hv3
    rintro ⟨ac2, l5, b5⟩ ⟨hn5, hs5, hv1, hv2, hv3⟩
    simp only at hn5 hs5 hv1 hv2 hv3 ⊢
    have h5 := h4.suf hs5
    have hle5 := hs5.length_le
    cases hgo : (!b5 && isN (l5.map (·.2))) with
    | true =>
      simp only [Bool.and_eq_true, Bool.not_eq_true'] at hgo
      obtain ⟨hb5, hnn⟩ := hgo
      subst hb5
      have hb4 : b4 = false := flag (fun q => (hv1 q).1) rfl
      simp only [Bool.false_eq_true, if_false] at hn5
      obtain ⟨p, l6, hl6⟩ : ∃ p l6, l5 = p :: l6 := by
        cases l5 with
        | nil => cases hnn
        | cons p l6 => exact ⟨_, _, rfl⟩
      have hl5m : l5.map (·.2) = p.2 :: l6.map (·.2) := by rw [hl6]; rfl
      have hst := finU_step ac2 p.2 (l6.map (·.2))
      have hru := rule17_fn h5 (by omega) false
      have hnext : ∀ y l7 b7, Out17 false (pRule (l5.map (·.2))) l5 l7 y b7 → (2 * l7.length + (if b7 = true then 0 else 1) < 2 * l5.length + (if false = true then 0 else 1) ∧ (ac2 ++ [y]).length + l7.length ≤ L.length + 1 + (if b7 = true then 1 else 0) ∧ l7 <:+ l4 ∧ (b4 = true → b7 = true ∧ l7 = l4) ∧ (b4 = false → b7 = false → finU (ac2 ++ [y]) (l7.map (·.2)) = pRules (l4.map (·.2))) ∧ (b4 = false → b7 = true → pRules (l4.map (·.2)) = .err (l7.map (·.2)))) := by
        rintro y l7 b7 ⟨o1, o2, o3, o4⟩
        have hle := o1.length_le
        cases b7 with
        | false =>
          have hq := o3 rfl rfl
          have hlt := pRule_lt hq
          simp only [List.length_map] at hlt
          refine ⟨by simp only [Bool.false_eq_true, if_false]; omega, by simp only [Bool.false_eq_true, if_false, List.length_append, List.length_cons, List.length_nil]; omega, o1.trans hs5, fun q => (by rw [hb4] at q; cases q), fun _ _ => ?_, fun _ q => (by cases q)⟩
          rw [← hv2 hb4 rfl, hl5m, hst, ← hl5m, hq]
        | true =>
          have hq := o4 rfl rfl
          refine ⟨by simp only [Bool.false_eq_true, if_false, if_true]; omega, by simp only [if_true, List.length_append, List.length_cons, List.length_nil]; omega, o1.trans hs5, fun q => (by rw [hb4] at q; cases q), fun _ q => (by cases q), fun _ _ => ?_⟩
          rw [← hv2 hb4 rfl, hl5m, hst, ← hl5m, hq]
      (repeat' (first | refine WP.seq ?_ | refine WP.block ?_ | refine go_n ?_ | refine WP.skip ?_ | refine WP.exit ?_ | refine go_x ?_ | refine bl_n ?_ | refine bl_x ?_ | (refine wp_cond (by rfl) (fun hc => ?_) (fun hc => ?_) <;> (try simp only [sB, ne_eq, reduceCtorEq] at hc) <;> (try (exfalso; omega))) | (refine WP.regionC (id := 10) ?_; (refine su (ap_move (rq_p rfl rfl)) ?_); (refine sc_o [1] rfl rfl (isname17_fn h5 _) (Lend.o1 (by rfl) (by rfl) (by rfl) (by rfl) (by simp [AV.bd, bdL, bdL_append]) (by simp [AV.bd, bdL, bdL_append])) ?_; simp only [updN, newO, AObj.ren, renL, AV.ren, apx, ap, if_true, if_false, Nat.reduceLT, Nat.reduceAdd, Nat.reduceSub, sO, intA, boolA, strA, psA, psR]); refine asemC_end ?_) | (refine WP.regionC (id := 11) ?_; (refine su (ap_move (rq_p rfl rfl)) ?_); (refine su (ap_move (rq_p rfl rfl)) ?_); (refine sc_v [1] rfl rfl (hru) (Lend.o1 (by rfl) (by rfl) (by rfl) (by rfl) (by simp [AV.bd, bdL, bdL_append]) (by simp [AV.bd, bdL, bdL_append])) ?_; rintro r os' hlen ⟨y, l7, b7, rfl, rfl, ho⟩; simp only [psA, psR, ren_gruleA, upd, AObj.ren, renL, AV.ren, renL_pure, bdL_boolA, bdL_intA, bdL_strA, bd_boolA, bd_intA, bd_strA, apx, ap, List.length_cons, List.length_nil, List.getD_cons_zero, List.getD_cons_succ, Nat.lt_irrefl, if_true, if_false, Nat.zero_lt_succ, Nat.reduceLT, Nat.reduceAdd, intA, boolA, strA]); (refine se_lit (OpP.cons (by rfl) (OpP.nil)) (by rfl) (by rfl) (by rfl) (by rfl) (by rfl) (by rfl) ?_); (refine se_app1 (by rfl) (by rfl) (by rfl) (by rfl) (by rfl) (by rfl) (by rfl) (by rfl) (by omega) ?_); (refine su (ap_assign (rq_p rfl rfl)) ?_); refine asemC_end ?_)))
      · exact ⟨(ac2 ++ [y], l7, b7), by simpa using hnext y l7 b7 ho, ⟨[0, 1, 2, 3, 6], ToR.S rfl (by repeat' (first | exact rt_nil | refine rt_r (by rfl) (by rfl) ?_ | refine rt_t (by rfl) (by rfl) ?_ | refine rt_e (by rfl) (by rfl) ?_)) (by repeat' (first | exact ro_nil | refine ro_e (by rfl) (by rfl) ?_ | refine ro_p (by rfl) (by first | exact rfl | fail) (by first | exact bdL_map (fun _ => by simp [AV.bd, bdL, bdL_append]) _ | fail) ?_)) (by rfl) (by (rw [hm]; exact rfl)) (by rfl) (by (simp [bdT, AV.bd, bdL, bdL_append]; done)) (by repeat' (first | exact True.intro | exact rfl | refine And.intro ?_ ?_ | exact bdL_map (fun _ => by simp [AV.bd, bdL, bdL_append]) _)) (by (rw [hm]; exact Nat.le_of_ble_eq_true rfl))⟩⟩
      all_goals (exfalso; simp_all; done)
    | false =>
      have hRu : Out17 b4 (pRules (l4.map (·.2))) l4 l5 ac2 (b5 || !l5.isEmpty) := by
        refine ⟨hs5, fun q => ?_, fun q1 q2 => ?_, fun q1 q2 => ?_⟩
        · obtain ⟨e1, e2⟩ := hv1 q
          exact ⟨by rw [e1]; rfl, e2⟩
        · simp only [Bool.or_eq_false_iff, Bool.not_eq_false'] at q2
          have he : l5 = [] := List.isEmpty_iff.1 q2.2
          rw [← hv2 q1 q2.1, he]
          exact finU_stop ac2
        · cases hb5 : b5 with
          | true => exact hv3 q1 hb5
          | false =>
            rw [hb5] at q2 hgo
            cases l5 with
            | nil => cases q2
            | cons p l6 =>
              have hnm : nmT p.2 = false := hgo
              rw [← hv2 q1 hb5, List.map_cons, finU_step]
              have : pRule (p.2 :: l6.map (·.2)) = .err (p.2 :: l6.map (·.2)) := by simp only [pRule, pName, hnm, Bool.false_eq_true, if_false]
              rw [this]
      have hF : Out17 false (pFile (L.map (·.2))) L l5 (⟨n, acc, ac2⟩ : GFi) (b5 || !l5.isEmpty) := Out17.to (ho1.bind (ho2.bind (ho3.bind (hLv.bind (hRu.bind (k := fun rs q => .ok (⟨n, acc, rs⟩ : GFi) q) (Out17.pure _ l5 (⟨n, acc, ac2⟩ : GFi))))))) (pFile_bind _).symm
      have hps : decide ((posN s l5 : Int) < s.size) = !l5.isEmpty := by
        cases l5 with
        | nil => simp [posN]
        | cons p l6 =>
          have e1 := h5.cons.1
          have e2 : 1 ≤ p.2.length := by
            cases hq : p.2 with
            | nil => exact absurd hq h5.cons.2.2.2
            | cons c t => simp
          have e3 : posN s (p :: l6) = p.1 := rfl
          rw [e3]
          simp only [List.isEmpty_cons, Bool.not_false, decide_eq_true_eq]
          omega
      refine wp_frzm 7 hm rfl rfl rfl (bd_levelA 0) (fun _ => rfl) (by rfl) ?_
      refine wp_frzm 8 hm rfl rfl rfl (bd_gruleA 0) (fun _ => rfl) (by rfl) ?_
      cases hfl : (b5 || !l5.isEmpty) with
      | true =>
        rw [hfl] at hF
        have hpf := hF.2.2.2 rfl rfl
        rw [hpf] at hpR
        simp only at hpR
        rw [cut_of hF.1, posN_pos] at hpR
        rw [hpR]
        rw [← hps] at hfl
        (repeat' (first | refine WP.seq ?_ | refine WP.block ?_ | refine go_n ?_ | refine WP.skip ?_ | refine WP.exit ?_ | refine WP.ret ?_ | refine go_x ?_ | refine go_r ?_ | refine bl_x ?_ | refine bo_r ?_ | (refine wp_cond (by rfl) (fun hc => ?_) (fun hc => ?_) <;> (try simp only [sB, ne_eq, reduceCtorEq] at hc) <;> (try (exfalso; omega))) | (refine WP.regionC (id := 10) ?_; (refine su (ap_move (rq_p rfl rfl)) ?_); (refine sc_o [1] rfl rfl (isname17_fn h5 _) (Lend.o1 (by rfl) (by rfl) (by rfl) (by rfl) (by simp [AV.bd, bdL, bdL_append]) (by simp [AV.bd, bdL, bdL_append])) ?_; simp only [updN, newO, AObj.ren, renL, AV.ren, apx, ap, if_true, if_false, Nat.reduceLT, Nat.reduceAdd, Nat.reduceSub, sO, intA, boolA, strA, psA, psR]); refine asemC_end ?_) | (refine WP.regionC (id := 12) ?_; (refine su (ap_move (rq_p rfl rfl)) ?_); (refine su (ap_nilc (rq_p rfl rfl)) ?_); (refine su (ap_field_p (rq_p rfl rfl) (by rfl) (by rfl)) ?_); (refine su (ap_load_p (rq_p rfl rfl) (by rfl) (by rfl) (by rfl)) ?_); (refine su (ap_move (rq_p rfl rfl)) ?_); (refine sg (gq_vf rfl rfl) (fun he => ap_move (rq_p rfl rfl)) ?_); (refine sg (gq_vf rfl rfl) (fun he => ap_nilc (rq_c rfl rfl)) ?_); (refine sg (gq_vf rfl rfl) (fun he => ap_field_p (rq_c rfl rfl) (by rfl) (by rfl)) ?_); (refine sg (gq_vf rfl rfl) (fun he => ap_load_p (rq_c rfl rfl) (by rfl) (by rfl) (by rfl)) ?_); (refine sg (gq_vf rfl rfl) (fun he => ap_move (rq_p rfl rfl)) ?_); (refine sg (gq_vf rfl rfl) (fun he => ap_len_str (by rfl) (rq_c rfl rfl)) ?_); (refine sg (gq_vf rfl rfl) (fun he => ap_lss (rq_c rfl rfl) (rq_c rfl rfl)) ?_); (refine su (ap_or (rq_p rfl rfl) (rq_c rfl rfl)) ?_); refine asemC_end ?_) | (refine wp_draw (id := 13) 8 mixed (by kernel_rfl) (by kernel_rfl) rfl ?_ <;> (refine rd_u (by rfl) (by rfl) (ap_build (RqP.nil) (by rfl)) ?_) <;> (refine rd_u (by rfl) (by rfl) (ap_move (rq_p rfl rfl)) ?_) <;> (refine rd_u (by rfl) (by rfl) (ap_nilc (rq_p rfl rfl)) ?_) <;> (refine rd_u (by rfl) (by rfl) (ap_field_p (rq_p rfl rfl) (by rfl) (by rfl)) ?_) <;> (refine rd_u (by rfl) (by rfl) (ap_load_p (rq_p rfl rfl) (by rfl) (by rfl) (by rfl)) ?_) <;> (refine rd_store_b (by rfl) (by rfl) (by rfl) (by rfl) ?_) <;> (refine rd_u (by rfl) (by rfl) (ap_assign (rq_p rfl rfl)) ?_) <;> (refine rd_u (by rfl) (by rfl) (ap_assign (rq_p rfl rfl)) ?_) <;> (refine rd_end (by kernel_rfl) ?_))))
        all_goals (first | (exfalso; simp only [hc.1, Bool.false_or, decide_eq_true_eq] at hfl; omega) | (exfalso; simp_all; done) | skip)
        exact ret_many (xs := [nilF, .val (.int .i64 _), .val (.int .i64 3)]) (.cellT (by rfl) (by rfl) (by rfl) (by rfl) (.tmp (by rfl) (.tmp (by rfl) .nil))) (by exact Nat.le_of_ble_eq_true rfl) (by first | ((repeat' first | exact FzL.nil | refine FzL.cons ?_ ?_ | exact Fz.nil | (exact Fz.reflp (by simp [AV.bd, bdL, bdL_append])) | refine Fz.aggL ?_); done) | fail)
      | false =>
        rw [hfl] at hF
        have hpf := hF.2.2.1 rfl rfl
        have hTT := hT _ _ hpf
        have hval := rvalid_fn ⟨n, acc, ac2⟩ hTT.2 hTT.1
        rw [hpf] at hpR
        simp only at hpR
        rw [← hps] at hfl
        cases hvv : validF ⟨n, acc, ac2⟩ with
        | true =>
          rw [hvv] at hpR hval
          simp only [if_true] at hpR
          rw [hpR]
          (repeat' (first | refine WP.seq ?_ | refine WP.block ?_ | refine go_n ?_ | refine WP.skip ?_ | refine WP.exit ?_ | refine WP.ret ?_ | refine go_x ?_ | refine bl_x ?_ | refine bo_r ?_ | (refine wp_cond (by rfl) (fun hc => ?_) (fun hc => ?_) <;> (try simp only [sB, ne_eq, reduceCtorEq] at hc) <;> (try (exfalso; omega))) | (refine WP.regionC (id := 10) ?_; (refine su (ap_move (rq_p rfl rfl)) ?_); (refine sc_o [1] rfl rfl (isname17_fn h5 _) (Lend.o1 (by rfl) (by rfl) (by rfl) (by rfl) (by simp [AV.bd, bdL, bdL_append]) (by simp [AV.bd, bdL, bdL_append])) ?_; simp only [updN, newO, AObj.ren, renL, AV.ren, apx, ap, if_true, if_false, Nat.reduceLT, Nat.reduceAdd, Nat.reduceSub, sO, intA, boolA, strA, psA, psR]); refine asemC_end ?_) | (refine WP.regionC (id := 12) ?_; (refine su (ap_move (rq_p rfl rfl)) ?_); (refine su (ap_nilc (rq_p rfl rfl)) ?_); (refine su (ap_field_p (rq_p rfl rfl) (by rfl) (by rfl)) ?_); (refine su (ap_load_p (rq_p rfl rfl) (by rfl) (by rfl) (by rfl)) ?_); (refine su (ap_move (rq_p rfl rfl)) ?_); (refine sg (gq_vf rfl rfl) (fun he => ap_move (rq_p rfl rfl)) ?_); (refine sg (gq_vf rfl rfl) (fun he => ap_nilc (rq_c rfl rfl)) ?_); (refine sg (gq_vf rfl rfl) (fun he => ap_field_p (rq_c rfl rfl) (by rfl) (by rfl)) ?_); (refine sg (gq_vf rfl rfl) (fun he => ap_load_p (rq_c rfl rfl) (by rfl) (by rfl) (by rfl)) ?_); (refine sg (gq_vf rfl rfl) (fun he => ap_move (rq_p rfl rfl)) ?_); (refine sg (gq_vf rfl rfl) (fun he => ap_len_str (by rfl) (rq_c rfl rfl)) ?_); (refine sg (gq_vf rfl rfl) (fun he => ap_lss (rq_c rfl rfl) (rq_c rfl rfl)) ?_); (refine su (ap_or (rq_p rfl rfl) (rq_c rfl rfl)) ?_); refine asemC_end ?_) | (refine WP.regionC (id := 14) ?_; (refine su (ap_move (rq_p rfl rfl)) ?_); (refine su (ap_move (rq_p rfl rfl)) ?_); (refine su (ap_field_p (rq_p rfl rfl) (by rfl) (by rfl)) ?_); (refine se_store_b (by rfl) (by rfl) (by rfl) (by rfl) ?_); (refine su (ap_field_p (rq_p rfl rfl) (by rfl) (by rfl)) ?_); (refine se_store_b (by rfl) (by rfl) (by rfl) (by rfl) ?_); refine asemC_end ?_) | (refine WP.regionC (id := 15) ?_; (refine su (ap_load_pw (rq_p rfl rfl) (by rfl) (by rfl) (by rfl)) ?_); (refine sc_p rfl rfl (by first | ((repeat' first | exact SubL.nil | refine SubL.cons ?_ ?_ | exact Sub.refl); done) | fail) (by first | (simp [bdL, bdL_append, AV.bd]; done) | fail) (hval) ?_); (refine su (ap_not (rq_p rfl rfl)) ?_); refine asemC_end ?_) | (refine WP.regionC (id := 17) ?_; (refine su (ap_load_pw (rq_p rfl rfl) (by rfl) (by rfl) (by rfl)) ?_); (refine se_store_b (by rfl) (by rfl) (by rfl) (by rfl) ?_); (refine su (ap_assign (rq_p rfl rfl)) ?_); (refine su (ap_assign (rq_p rfl rfl)) ?_); refine asemC_end ?_)))
          all_goals (first | (exfalso; simp_all; done) | skip)
          exact ret_many (xs := [.agg [strA n, levelsA acc, .sl 2 (ac2.map gruleA)], .val (.int .i64 0), .val (.int .i64 0)]) (.cellT (by rfl) (by rfl) (by rfl) (by rfl) (.tmp (by rfl) (.tmp (by rfl) .nil))) (by exact Nat.le_of_ble_eq_true rfl) (by first | ((repeat' first | exact FzL.nil | refine FzL.cons ?_ ?_ | (exact Fz.reflp (by simp [AV.bd, bdL, bdL_append]))); done) | fail)
        | false =>
          rw [hvv] at hpR hval
          simp only [Bool.false_eq_true, if_false] at hpR
          rw [hpR]
          (repeat' (first | refine WP.seq ?_ | refine WP.block ?_ | refine go_n ?_ | refine WP.skip ?_ | refine WP.exit ?_ | refine WP.ret ?_ | refine go_x ?_ | refine go_r ?_ | refine bl_x ?_ | refine bo_r ?_ | (refine wp_cond (by rfl) (fun hc => ?_) (fun hc => ?_) <;> (try simp only [sB, ne_eq, reduceCtorEq] at hc) <;> (try (exfalso; omega))) | (refine WP.regionC (id := 10) ?_; (refine su (ap_move (rq_p rfl rfl)) ?_); (refine sc_o [1] rfl rfl (isname17_fn h5 _) (Lend.o1 (by rfl) (by rfl) (by rfl) (by rfl) (by simp [AV.bd, bdL, bdL_append]) (by simp [AV.bd, bdL, bdL_append])) ?_; simp only [updN, newO, AObj.ren, renL, AV.ren, apx, ap, if_true, if_false, Nat.reduceLT, Nat.reduceAdd, Nat.reduceSub, sO, intA, boolA, strA, psA, psR]); refine asemC_end ?_) | (refine WP.regionC (id := 12) ?_; (refine su (ap_move (rq_p rfl rfl)) ?_); (refine su (ap_nilc (rq_p rfl rfl)) ?_); (refine su (ap_field_p (rq_p rfl rfl) (by rfl) (by rfl)) ?_); (refine su (ap_load_p (rq_p rfl rfl) (by rfl) (by rfl) (by rfl)) ?_); (refine su (ap_move (rq_p rfl rfl)) ?_); (refine sg (gq_vf rfl rfl) (fun he => ap_move (rq_p rfl rfl)) ?_); (refine sg (gq_vf rfl rfl) (fun he => ap_nilc (rq_c rfl rfl)) ?_); (refine sg (gq_vf rfl rfl) (fun he => ap_field_p (rq_c rfl rfl) (by rfl) (by rfl)) ?_); (refine sg (gq_vf rfl rfl) (fun he => ap_load_p (rq_c rfl rfl) (by rfl) (by rfl) (by rfl)) ?_); (refine sg (gq_vf rfl rfl) (fun he => ap_move (rq_p rfl rfl)) ?_); (refine sg (gq_vf rfl rfl) (fun he => ap_len_str (by rfl) (rq_c rfl rfl)) ?_); (refine sg (gq_vf rfl rfl) (fun he => ap_lss (rq_c rfl rfl) (rq_c rfl rfl)) ?_); (refine su (ap_or (rq_p rfl rfl) (rq_c rfl rfl)) ?_); refine asemC_end ?_) | (refine WP.regionC (id := 14) ?_; (refine su (ap_move (rq_p rfl rfl)) ?_); (refine su (ap_move (rq_p rfl rfl)) ?_); (refine su (ap_field_p (rq_p rfl rfl) (by rfl) (by rfl)) ?_); (refine se_store_b (by rfl) (by rfl) (by rfl) (by rfl) ?_); (refine su (ap_field_p (rq_p rfl rfl) (by rfl) (by rfl)) ?_); (refine se_store_b (by rfl) (by rfl) (by rfl) (by rfl) ?_); refine asemC_end ?_) | (refine WP.regionC (id := 15) ?_; (refine su (ap_load_pw (rq_p rfl rfl) (by rfl) (by rfl) (by rfl)) ?_); (refine sc_p rfl rfl (by first | ((repeat' first | exact SubL.nil | refine SubL.cons ?_ ?_ | exact Sub.refl); done) | fail) (by first | (simp [bdL, bdL_append, AV.bd]; done) | fail) (hval) ?_); (refine su (ap_not (rq_p rfl rfl)) ?_); refine asemC_end ?_) | (refine WP.regionC (id := 16) ?_; (refine su (ap_build (RqP.nil) (by rfl)) ?_); (refine se_store_b (by rfl) (by rfl) (by rfl) (by rfl) ?_); (refine su (ap_assign (rq_p rfl rfl)) ?_); (refine su (ap_assign (rq_p rfl rfl)) ?_); refine asemC_end ?_)))
          all_goals (first | (exfalso; simp_all; done) | skip)
          exact ret_many (xs := [nilF, .val (.int .i64 0), .val (.int .i64 1)]) (.cellT (by rfl) (by rfl) (by rfl) (by rfl) (.tmp (by rfl) (.tmp (by rfl) .nil))) (by exact Nat.le_of_ble_eq_true rfl) (by first | ((repeat' first | exact FzL.nil | refine FzL.cons ?_ ?_ | exact Fz.nil | (exact Fz.reflp (by simp [AV.bd, bdL, bdL_append])) | refine Fz.aggL ?_); done) | fail)
end Go.Lg

namespace Go.Lg
set_option linter.unusedVariables false
def lvT2 (ls : List GLe) : Nat := (ls.map fun x => x.tokens.length).sum
theorem pNames_count : ∀ l : List Tx, (pNames l).1.length + (pNames l).2.length = l.length
  | [] => rfl
  | t :: r => by
    rw [pNames]
    split
    · have := pNames_count r
      simp only [List.length_cons]; omega
    · simp
theorem pLevel_count {a : Int} {l : List Tx} {x : GLe} {q : List Tx} (h : pLevel a l = .ok x q) : x.tokens.length + q.length ≤ l.length := by
  unfold pLevel at h
  cases h1 : pName l with
  | err r => rw [h1] at h; cases h
  | ok n r =>
    rw [h1] at h
    have h2 := pName_lt h1
    have h3 := pNames_count r
    simp only at h
    cases h4 : pTake [59] (pNames r).2 with
    | err r => rw [h4] at h; cases h
    | ok u r2 =>
      rw [h4] at h
      have h5 := pTake_lt h4
      injection h with e1 e2
      subst e1 e2
      simp only [List.length_cons]
      omega
theorem pLevels_count (n : Nat) : ∀ (l : List Tx) (ls : List GLe) (q : List Tx), l.length ≤ n → pLevels l = .ok ls q → lvT2 ls + q.length ≤ l.length := by
  induction n with
  | zero =>
    intro l ls q hl h
    obtain rfl : l = [] := List.eq_nil_of_length_eq_zero (by omega)
    rw [pLevels_nil] at h
    injection h with e1 e2
    subst e1 e2
    exact Nat.le_refl _
  | succ n ih =>
    intro l ls q hl h
    cases l with
    | nil =>
      rw [pLevels_nil] at h
      injection h with e1 e2
      subst e1 e2
      exact Nat.le_refl _
    | cons t r =>
      rw [pLevels_cons] at h
      cases h0 : assocOf t with
      | none =>
        rw [h0] at h
        injection h with e1 e2
        subst e1 e2
        simp [lvT2]
      | some a =>
        rw [h0] at h
        simp only at h
        cases h1 : pLevel a r with
        | err r => rw [h1] at h; cases h
        | ok x q1 =>
          rw [h1] at h
          have h2 := pLevel_count h1
          simp only at h
          simp only [List.length_cons] at hl ⊢
          cases h3 : pLevels q1 with
          | err r => rw [h3] at h; cases h
          | ok ls1 q2 =>
            rw [h3] at h
            have h4 := ih q1 ls1 q2 (by omega) h3
            injection h with e1 e2
            subst e1 e2
            simp only [lvT2, List.map_cons, List.sum_cons] at h4 ⊢
            omega
theorem toks_len (f : GFi) : (toks f f.levels.length).length = lvT2 f.levels := by
  unfold toks lvT2
  rw [List.take_of_length_le (Nat.le_refl _), List.length_flatten, List.map_map]
  rfl
def Sm (N : Nat) (l : List Tx) : Prop := ∀ t, t ∈ l → t.length ≤ N
theorem Sm.suf {N : Nat} {l l' : List Tx} (h : Sm N l) (hs : l' <:+ l) : Sm N l' := fun t ht => h t (hs.subset ht)
theorem szT {N : Nat} (hN : N ≤ 9223372036854775807) {t : Tx} (h : t.length ≤ N) : SzOk (tx t) := by unfold SzOk; rw [tx_size]; omega
theorem pName_fit {N : Nat} (hN : N ≤ 9223372036854775807) {l : List Tx} (h : Sm N l) {s : ByteArray} {r : List Tx} (hp : pName l = .ok s r) : SzOk s := by
  cases l with
  | nil => cases hp
  | cons t q =>
    simp only [pName] at hp
    split at hp
    · injection hp with e1 e2
      subst e1
      exact szT hN (h t (by simp))
    · cases hp
theorem pNames_fit {N : Nat} (hN : N ≤ 9223372036854775807) : ∀ (l : List Tx), Sm N l → ∀ s, s ∈ (pNames l).1 → SzOk s
  | [], _, s, hs => by cases hs
  | t :: r, h, s, hs => by
    rw [pNames] at hs
    split at hs
    · rcases List.mem_cons.1 hs with rfl | hs
      · exact szT hN (h t (by simp))
      · exact pNames_fit hN r (fun t ht => h t (List.mem_cons_of_mem _ ht)) s hs
    · cases hs
theorem fitL_mem {l : List GEx} (h : ∀ x, x ∈ l → x.fit) : GEx.fitL l := by
  induction l with
  | nil => rw [GEx.fitL]; trivial
  | cons x l ih => rw [GEx.fitL]; exact ⟨h x (by simp), ih fun y hy => h y (List.mem_cons_of_mem _ hy)⟩
theorem mk_fit {k : Int} {n : ByteArray} {l : List GEx} (hn : SzOk n) (h : ∀ x, x ∈ l → x.fit) : GEx.fit (.mk k n l) := by
  rw [GEx.fit]; exact ⟨hn, fitL_mem h⟩
theorem sz0 : SzOk ⟨#[]⟩ := by unfold SzOk; decide
theorem seqOf_fit {l : List GEx} (h : ∀ x, x ∈ l → x.fit) : (seqOf l).fit := by
  match l, h with
  | [], _ => exact mk_fit sz0 (fun x hx => by cases hx)
  | [x], h => exact h x (by simp)
  | x :: y :: r, h => exact mk_fit sz0 h
theorem altOf_fit {l : List GEx} (h : ∀ x, x ∈ l → x.fit) : (altOf l).fit := by
  match l, h with
  | [], _ => exact mk_fit sz0 (fun x hx => by cases hx)
  | [x], h => exact h x (by simp)
  | x :: y :: r, h => exact mk_fit sz0 h
theorem sufT_fit : ∀ (x : GEx) (l : List Tx), x.fit → (sufT x l).1.fit
  | x, [], h => by rw [sufT]; exact h
  | x, t :: r, h => by
    have h1 : ∀ k : Int, GEx.fit (.mk k ⟨#[]⟩ [x]) := fun k => mk_fit sz0 (fun y hy => by rw [List.mem_singleton.1 hy]; exact h)
    rw [sufT]
    split
    · exact sufT_fit _ r (h1 5)
    · split
      · exact sufT_fit _ r (h1 6)
      · split
        · exact sufT_fit _ r (h1 4)
        · exact h
theorem par_fit {N : Nat} (hN : N ≤ 9223372036854775807) (n : Nat) : ∀ l : List Tx, l.length ≤ n → Sm N l → (∀ x r, pPrim l = .ok x r → x.fit) ∧ (∀ xs r, pItems l = .ok xs r → ∀ x, x ∈ xs → x.fit) ∧ (∀ xs r, pAlts l = .ok xs r → ∀ x, x ∈ xs → x.fit) := by
  induction n with
  | zero =>
    intro l hl hS
    obtain rfl : l = [] := List.eq_nil_of_length_eq_zero (by omega)
    have h2 : pItems [] = .ok [] [] := by rw [pItems_eq]; rfl
    refine ⟨fun x r h => (by rw [pPrim] at h; cases h), fun xs r h => ?_, fun xs r h => ?_⟩
    · rw [h2] at h; injection h with e1 e2; subst e1; intro x hx; cases hx
    · rw [pAlts_eq, h2] at h; injection h with e1 e2; subst e1
      intro x hx
      rw [List.mem_singleton.1 hx]
      exact seqOf_fit (fun y hy => by cases hy)
  | succ n ih =>
    intro l hl hS
    have hp : ∀ x r, pPrim l = .ok x r → x.fit := by
      intro x r h
      cases l with
      | nil => rw [pPrim] at h; cases h
      | cons t q =>
        rw [pPrim] at h
        split at h
        · injection h with e1 e2; subst e1
          exact mk_fit (szT hN (hS t (by simp))) (fun y hy => by cases hy)
        · split at h
          · have ha := (ih q (by simp at hl; omega) (hS.suf (List.suffix_cons _ _))).2.2
            split at h
            · cases h
            · rename_i es q1 hq1
              have := ha es q1 hq1
              split at h
              · cases h
              · split at h
                · injection h with e1 e2; subst e1; exact altOf_fit this
                · cases h
          · cases h
    have hi : ∀ xs r, pItems l = .ok xs r → ∀ x, x ∈ xs → x.fit := by
      intro xs r h
      rw [pItems_eq] at h
      split at h
      · cases h1 : pPrim l with
        | err q => rw [h1] at h; cases h
        | ok x0 r0 =>
          rw [h1] at h
          simp only at h
          have hlt := pPrim_lt h1
          have hsl := sufT_len x0 r0
          have hsuf := pPrim_suf l
          rw [h1] at hsuf
          have h2 := (ih (sufT x0 r0).2 (by omega) (hS.suf ((sufT_suf x0 r0).trans hsuf))).2.1
          cases h3 : pItems (sufT x0 r0).2 with
          | err q => rw [h3] at h; cases h
          | ok xs1 q1 =>
            rw [h3] at h
            injection h with e1 e2; subst e1
            intro x hx
            rcases List.mem_cons.1 hx with rfl | hx
            · exact sufT_fit _ _ (hp _ _ h1)
            · exact h2 xs1 q1 h3 x hx
      · injection h with e1 e2; subst e1; intro x hx; cases hx
    refine ⟨hp, hi, fun xs r h => ?_⟩
    rw [pAlts_eq] at h
    cases h1 : pItems l with
    | err q => rw [h1] at h; cases h
    | ok xs0 q =>
      rw [h1] at h
      simp only at h
      have h0 : (seqOf xs0).fit := seqOf_fit (hi xs0 q h1)
      cases q with
      | nil => injection h with e1 e2; subst e1; intro x hx; rw [List.mem_singleton.1 hx]; exact h0
      | cons t q =>
        simp only [finA] at h
        split at h
        · have hsuf := pItems_suf l
          rw [h1] at hsuf
          have hle := hsuf.length_le
          simp only [PR.rest, List.length_cons] at hle
          have h2 := (ih q (by omega) (hS.suf ((List.suffix_cons _ _).trans hsuf))).2.2
          cases h3 : pAlts q with
          | err q' => rw [h3] at h; cases h
          | ok es q' =>
            rw [h3] at h
            injection h with e1 e2; subst e1
            intro x hx
            rcases List.mem_append.1 hx with hx | hx
            · rw [List.mem_singleton.1 hx]; exact h0
            · exact h2 es q' h3 x hx
        · injection h with e1 e2; subst e1; intro x hx; rw [List.mem_singleton.1 hx]; exact h0
theorem pAlt_fit {N : Nat} (hN : N ≤ 9223372036854775807) {l : List Tx} (hS : Sm N l) {a : GAl} {r : List Tx} (h : pAlt l = .ok a r) : a.body.fit := by
  unfold pAlt at h
  cases h1 : pItems l with
  | err q => rw [h1] at h; cases h
  | ok xs q =>
    rw [h1] at h
    simp only at h
    have h2 := (par_fit hN _ l (Nat.le_refl _) hS).2.1 xs q h1
    cases h3 : pPrice q with
    | err q' => rw [h3] at h; cases h
    | ok p q' => rw [h3] at h; injection h with e1 e2; subst e1; exact seqOf_fit h2
theorem pAltsR_fit {N : Nat} (hN : N ≤ 9223372036854775807) (n : Nat) : ∀ l : List Tx, l.length ≤ n → Sm N l → ∀ xs r, pAltsR l = .ok xs r → ∀ a, a ∈ xs → a.body.fit := by
  induction n with
  | zero =>
    intro l hl hS xs r h
    rw [pAltsR_eq] at h
    cases h1 : pAlt l with
    | err q => rw [h1] at h; cases h
    | ok a0 q =>
      rw [h1] at h
      have hsuf := (pAlt_suf l).length_le
      rw [h1] at hsuf
      simp only [PR.rest] at hsuf
      obtain rfl : q = [] := List.eq_nil_of_length_eq_zero (by omega)
      injection h with e1 e2; subst e1
      intro a ha
      rw [List.mem_singleton.1 ha]; exact pAlt_fit hN hS h1
  | succ n ih =>
    intro l hl hS xs r h
    rw [pAltsR_eq] at h
    cases h1 : pAlt l with
    | err q => rw [h1] at h; cases h
    | ok a0 q =>
      rw [h1] at h
      simp only at h
      have h0 := pAlt_fit hN hS h1
      have hsuf := pAlt_suf l
      rw [h1] at hsuf
      simp only [PR.rest] at hsuf
      have hle := hsuf.length_le
      cases q with
      | nil => injection h with e1 e2; subst e1; intro a ha; rw [List.mem_singleton.1 ha]; exact h0
      | cons t q =>
        simp only [List.length_cons] at hle
        simp only [finR] at h
        split at h
        · cases h3 : pAltsR q with
          | err q' => rw [h3] at h; cases h
          | ok es q' =>
            rw [h3] at h
            injection h with e1 e2; subst e1
            intro a ha
            rcases List.mem_append.1 ha with ha | ha
            · rw [List.mem_singleton.1 ha]; exact h0
            · exact ih q (by omega) (hS.suf ((List.suffix_cons _ _).trans hsuf)) es q' h3 a ha
        · injection h with e1 e2; subst e1; intro a ha; rw [List.mem_singleton.1 ha]; exact h0
theorem pRule_fit {N : Nat} (hN : N ≤ 9223372036854775807) {l : List Tx} (hS : Sm N l) {x : GRu} {r : List Tx} (h : pRule l = .ok x r) : x.fit := by
  unfold pRule at h
  have h1 := pName_suf l
  cases e1 : pName l with
  | err q => rw [e1] at h; cases h
  | ok n r0 =>
    rw [e1] at h h1
    have hn := pName_fit hN hS e1
    simp only at h
    have h2 := pTake_suf [61] r0
    cases e2 : pTake [61] r0 with
    | err q => rw [e2] at h; cases h
    | ok u r1 =>
      rw [e2] at h h2
      simp only at h
      cases e3 : pAltsR r1 with
      | err q => rw [e3] at h; cases h
      | ok ys r2 =>
        rw [e3] at h
        simp only at h
        have h3 := pAltsR_fit hN _ r1 (Nat.le_refl _) (hS.suf (h2.trans h1)) ys r2 e3
        cases e4 : pTake [59] r2 with
        | err q => rw [e4] at h; cases h
        | ok u r3 => rw [e4] at h; injection h with e5 e6; subst e5; exact ⟨hn, h3⟩
theorem pRules_fit {N : Nat} (hN : N ≤ 9223372036854775807) (n : Nat) : ∀ l : List Tx, l.length ≤ n → Sm N l → ∀ xs r, pRules l = .ok xs r → ∀ x, x ∈ xs → x.fit := by
  induction n with
  | zero =>
    intro l hl hS xs r h
    obtain rfl : l = [] := List.eq_nil_of_length_eq_zero (by omega)
    rw [pRules] at h; injection h with e1 e2; subst e1; intro x hx; cases hx
  | succ n ih =>
    intro l hl hS xs r h
    cases l with
    | nil => rw [pRules] at h; injection h with e1 e2; subst e1; intro x hx; cases hx
    | cons t q =>
      rw [← finU_nil, finU_step] at h
      cases h1 : pRule (t :: q) with
      | err q1 => rw [h1] at h; cases h
      | ok x0 q1 =>
        rw [h1] at h
        have h0 := pRule_fit hN hS h1
        have hlt := pRule_lt h1
        have hsuf := pRule_suf (t :: q)
        rw [h1] at hsuf
        simp only [finU] at h
        cases h3 : pRules q1 with
        | err q' => rw [h3] at h; cases h
        | ok ls q' =>
          rw [h3] at h
          injection h with e1 e2
          subst e1
          intro x hx
          rcases List.mem_append.1 hx with hx | hx
          · rw [show x = x0 by simpa using hx]; exact h0
          · exact ih q1 (by simp at hl hlt; omega) (hS.suf hsuf) ls q' h3 x hx
theorem pLevel_fit {N : Nat} (hN : N ≤ 9223372036854775807) {a : Int} {l : List Tx} (hS : Sm N l) {x : GLe} {r : List Tx} (h : pLevel a l = .ok x r) : x.fit := by
  unfold pLevel at h
  have h1 := pName_suf l
  cases e1 : pName l with
  | err q => rw [e1] at h; cases h
  | ok n r0 =>
    rw [e1] at h h1
    simp only at h
    cases e2 : pTake [59] (pNames r0).2 with
    | err q => rw [e2] at h; cases h
    | ok u r1 =>
      rw [e2] at h
      injection h with e5 e6; subst e5
      intro t ht
      rcases List.mem_cons.1 ht with rfl | ht
      · exact pName_fit hN hS e1
      · exact pNames_fit hN r0 (hS.suf h1) t ht
theorem pLevels_fit {N : Nat} (hN : N ≤ 9223372036854775807) (n : Nat) : ∀ l : List Tx, l.length ≤ n → Sm N l → ∀ xs r, pLevels l = .ok xs r → ∀ x, x ∈ xs → x.fit := by
  induction n with
  | zero =>
    intro l hl hS xs r h
    obtain rfl : l = [] := List.eq_nil_of_length_eq_zero (by omega)
    rw [pLevels_nil] at h; injection h with e1 e2; subst e1; intro x hx; cases hx
  | succ n ih =>
    intro l hl hS xs r h
    cases l with
    | nil => rw [pLevels_nil] at h; injection h with e1 e2; subst e1; intro x hx; cases hx
    | cons t q =>
      rw [pLevels_cons] at h
      cases h0 : assocOf t with
      | none => rw [h0] at h; injection h with e1 e2; subst e1; intro x hx; cases hx
      | some a =>
        rw [h0] at h
        simp only at h
        have hsuf := pLevel_suf a q
        cases h1 : pLevel a q with
        | err r => rw [h1] at h; cases h
        | ok x0 q1 =>
          rw [h1] at h hsuf
          simp only at h
          simp only [PR.rest] at hsuf
          have hle := hsuf.length_le
          simp only [List.length_cons] at hl
          have hf := pLevel_fit hN (hS.suf (List.suffix_cons _ _)) h1
          cases h3 : pLevels q1 with
          | err r => rw [h3] at h; cases h
          | ok ls1 q2 =>
            rw [h3] at h
            injection h with e1 e2
            subst e1
            intro x hx
            rcases List.mem_cons.1 hx with rfl | hx
            · exact hf
            · exact ih q1 (by omega) (hS.suf (hsuf.trans (List.suffix_cons _ _))) ls1 q2 h3 x hx
theorem pFile_fit {N : Nat} (hN : N ≤ 9223372036854775807) {l : List Tx} (hS : Sm N l) {f : GFi} {q : List Tx} (h : pFile l = .ok f q) : f.fit ∧ (toks f f.levels.length).length ≤ l.length := by
  unfold pFile at h
  have h0 := pTake_suf (bl kw0) l
  cases e0 : pTake (bl kw0) l with
  | err q => rw [e0] at h; cases h
  | ok u r =>
    rw [e0] at h h0
    simp only at h
    have h1 := pName_suf r
    cases e1 : pName r with
    | err q => rw [e1] at h; cases h
    | ok s r1 =>
      rw [e1] at h h1
      simp only at h
      have h2 := pTake_suf [59] r1
      cases e2 : pTake [59] r1 with
      | err q => rw [e2] at h; cases h
      | ok u2 r2 =>
        rw [e2] at h h2
        simp only at h
        have hs2 := (h2.trans h1).trans h0
        have h3 := pLevels_suf _ r2 (Nat.le_refl _)
        cases e3 : pLevels r2 with
        | err q => rw [e3] at h; cases h
        | ok ls r3 =>
          rw [e3] at h h3
          simp only at h
          have hc := pLevels_count _ r2 ls r3 (Nat.le_refl _) e3
          have hle := hs2.length_le
          simp only [PR.rest] at hle
          cases e4 : pRules r3 with
          | err q => rw [e4] at h; cases h
          | ok rs q4 =>
            rw [e4] at h
            injection h with e5 e6
            subst e5
            refine ⟨⟨pName_fit hN (hS.suf h0) e1, pLevels_fit hN _ r2 (Nat.le_refl _) (hS.suf hs2) ls r3 e3, pRules_fit hN _ r3 (Nat.le_refl _) (hS.suf (h3.trans hs2)) rs q4 e4⟩, ?_⟩
            rw [toks_len]
            simp only
            omega
end Go.Lg

namespace Go.Lg
open Go.Proofs
def s1 : ByteArray := ⟨#[115, 116, 97, 114, 116, 32, 101, 59, 32, 108, 101, 102, 116, 32, 112, 108, 117, 115, 59, 32, 101, 32, 61, 32, 101, 32, 112, 108, 117, 115, 32, 101, 32, 112, 114, 105, 99, 101, 32, 50, 32, 124, 32, 110, 59]⟩
def s2 : ByteArray := ⟨#[115, 116, 97, 114, 116, 32, 101]⟩
def s3 : ByteArray := ⟨#[115, 116, 97, 114, 116, 32, 101, 59, 32, 101, 32, 61, 32, 59, 59]⟩
def nmE (l : Tx) : GEx := .mk 1 (tx l) []
def f1 : GFi := ⟨tx [101], [⟨1, [tx [112, 108, 117, 115]]⟩], [⟨tx [101], [⟨.mk 2 ⟨#[]⟩ [nmE [101], nmE [112, 108, 117, 115], nmE [101]], 2⟩, ⟨nmE [110], 0⟩]⟩]⟩
set_option maxRecDepth 100000
theorem lex1 : lexT (bl s1) = [bl kw0, [101], [59], bl kw1, [112, 108, 117, 115], [59], [101], [61], [101], [112, 108, 117, 115], [101], bl kw4, [50], [124], [110], [59]] := by decide +kernel
theorem lex3 : lexT (bl s3) = [bl kw0, [101], [59], [101], [61], [59], [59]] := by decide +kernel
theorem lex3L : lexL (bl s3) 0 = [(0, bl kw0), (6, [101]), (7, [59]), (9, [101]), (11, [61]), (13, [59]), (14, [59])] := by decide +kernel
theorem pItems_stop {l : List Tx} (h : (isN l || decide (hd l = [40])) = false) : pItems l = .ok [] l := by rw [pItems_eq, h]; rfl
theorem pItems_nm {t : Tx} {r : List Tx} (h : nmT t = true) (hs : (sufT (.mk 1 (tx t) []) r) = (.mk 1 (tx t) [], r)) : pItems (t :: r) = match pItems r with
    | .err q => .err q
    | .ok xs q => .ok (.mk 1 (tx t) [] :: xs) q := by
  have h1 : isN (t :: r) = true := h
  have h2 : pPrim (t :: r) = .ok (.mk 1 (tx t) []) r := by rw [pPrim, if_pos h]
  rw [pItems_eq, h1, h2]
  simp only [Bool.true_or, if_true, hs]
  cases pItems r <;> rfl
theorem file1 : pFile (lexT (bl s1)) = .ok f1 [] := by
  rw [lex1]
  have ha : pAltsR [[101], [112, 108, 117, 115], [101], bl kw4, [50], [124], [110], [59]] = .ok [⟨.mk 2 ⟨#[]⟩ [nmE [101], nmE [112, 108, 117, 115], nmE [101]], 2⟩, ⟨nmE [110], 0⟩] [[59]] := by
    have h1 : pItems [[101], [112, 108, 117, 115], [101], bl kw4, [50], [124], [110], [59]] = .ok [nmE [101], nmE [112, 108, 117, 115], nmE [101]] [bl kw4, [50], [124], [110], [59]] := by
      rw [pItems_nm (by decide) (by rfl), pItems_nm (by decide) (by rfl), pItems_nm (by decide) (by rfl), pItems_stop (by decide)]
      rfl
    have h2 : pItems [[110], [59]] = .ok [nmE [110]] [[59]] := by
      rw [pItems_nm (by decide) (by rfl), pItems_stop (by decide)]
      rfl
    have h3 : pAlt [[101], [112, 108, 117, 115], [101], bl kw4, [50], [124], [110], [59]] = .ok ⟨.mk 2 ⟨#[]⟩ [nmE [101], nmE [112, 108, 117, 115], nmE [101]], 2⟩ [[124], [110], [59]] := by
      unfold pAlt
      rw [h1]
      rfl
    have h4 : pAlt [[110], [59]] = .ok ⟨nmE [110], 0⟩ [[59]] := by
      unfold pAlt
      rw [h2]
      rfl
    rw [pAltsR_eq, h3]
    simp only
    rw [finR_bar, h4]
    rfl
  have hr : pRules [[101], [61], [101], [112, 108, 117, 115], [101], bl kw4, [50], [124], [110], [59]] = .ok [⟨tx [101], [⟨.mk 2 ⟨#[]⟩ [nmE [101], nmE [112, 108, 117, 115], nmE [101]], 2⟩, ⟨nmE [110], 0⟩]⟩] [] := by
    rw [← finU_nil, finU_step]
    have : pRule ([101] :: [[61], [101], [112, 108, 117, 115], [101], bl kw4, [50], [124], [110], [59]]) = .ok ⟨tx [101], [⟨.mk 2 ⟨#[]⟩ [nmE [101], nmE [112, 108, 117, 115], nmE [101]], 2⟩, ⟨nmE [110], 0⟩]⟩ [] := by
      have h1 : nmT [101] = true := by decide
      unfold pRule
      simp only [pName, h1, if_true, pTake]
      rw [ha]
      rfl
    rw [this]
    exact finU_stop _
  have hl : pLevels [bl kw1, [112, 108, 117, 115], [59], [101], [61], [101], [112, 108, 117, 115], [101], bl kw4, [50], [124], [110], [59]] = .ok [⟨1, [tx [112, 108, 117, 115]]⟩] [[101], [61], [101], [112, 108, 117, 115], [101], bl kw4, [50], [124], [110], [59]] := by
    rw [pLevels_cons]
    have h1 : assocOf (bl kw1) = some 1 := by decide
    have h2 : pLevel 1 [[112, 108, 117, 115], [59], [101], [61], [101], [112, 108, 117, 115], [101], bl kw4, [50], [124], [110], [59]] = .ok ⟨1, [tx [112, 108, 117, 115]]⟩ [[101], [61], [101], [112, 108, 117, 115], [101], bl kw4, [50], [124], [110], [59]] := by kernel_rfl
    have h3 : assocOf [101] = none := by decide
    rw [h1]
    simp only
    rw [h2]
    simp only
    rw [pLevels_cons, h3]
  have h1 : nmT [101] = true := by decide
  unfold pFile
  simp only [pTake, pName, h1, if_true]
  rw [hl]
  simp only
  rw [hr]
  rfl
theorem file2 : pFile (lexT (bl s2)) = .err [] := by kernel_rfl
theorem file3 : pFile (lexT (bl s3)) = .err [[59]] := by
  rw [lex3]
  have hr : pRules [[101], [61], [59], [59]] = .err [[59]] := by
    rw [← finU_nil, finU_step]
    have h1 : nmT [101] = true := by decide
    have h2 : pAlt [[59], [59]] = .ok ⟨seqOf [], 0⟩ [[59], [59]] := by
      unfold pAlt
      rw [pItems_stop (by decide)]
      rfl
    have h3 : pAltsR [[59], [59]] = .ok [⟨seqOf [], 0⟩] [[59], [59]] := by
      rw [pAltsR_eq, h2]
      exact finR_stop (by decide)
    have h4 : pRule ([101] :: [[61], [59], [59]]) = .ok ⟨tx [101], [⟨seqOf [], 0⟩]⟩ [[59]] := by
      unfold pRule
      simp only [pName, h1, if_true, pTake]
      rw [h3]
      rfl
    rw [h4]
    simp only
    rw [finU_step]
    rfl
  have hl : pLevels [[101], [61], [59], [59]] = .ok [] [[101], [61], [59], [59]] := by
    have h3 : assocOf [101] = none := by decide
    rw [pLevels_cons, h3]
  have h1 : nmT [101] = true := by decide
  unfold pFile
  simp only [pTake, pName, h1, if_true]
  rw [hl]
  simp only
  rw [hr]
theorem valid1 : validF f1 = true := by decide +kernel
end Go.Lg

namespace Go.Lg
open Go.Proofs
set_option linter.unusedSimpArgs false
set_option linter.unusedVariables false
attribute [local irreducible] Ap Rq asemC WP RunD Ret Gq thenA inBlockA bodyQ noGotoA RqL RqP OpP
set_option maxHeartbeats 8000000
set_option maxRecDepth 20000
theorem lexL_len (n : Nat) : ∀ (l : Tx) (k : Nat), l.length ≤ n → (lexL l k).length ≤ l.length := by
  induction n with
  | zero =>
    intro l k hl
    obtain rfl : l = [] := List.eq_nil_of_length_eq_zero (by omega)
    rw [lexL_nil]; exact Nat.le_refl _
  | succ n ih =>
    intro l k hl
    cases l with
    | nil => rw [lexL_nil]; exact Nat.le_refl _
    | cons c r =>
      simp only [List.length_cons] at hl ⊢
      rw [lexL_cons]
      split
      · have := ih r (k + 1) (by omega); omega
      · split
        · have := ih (r.drop (comN r)) (k + 1 + comN r) (by rw [List.length_drop]; omega)
          rw [List.length_drop] at this; omega
        · have htp := tokN_pos c r
          have := ih ((c :: r).drop (tokN (c :: r))) (k + tokN (c :: r)) (by rw [List.length_drop]; simp only [List.length_cons]; omega)
          rw [List.length_drop] at this
          simp only [List.length_cons] at this ⊢
          omega
theorem lexT_sm (s : ByteArray) : Sm s.size (lexT (bl s)) := by
  intro t ht
  obtain ⟨p, hp, rfl⟩ := List.mem_map.1 ht
  have := (lexL_num _ (bl s) 0 (Nat.le_refl _) p hp).1
  rwa [bl_len] at this
theorem file_bounds (s : ByteArray) (hs : s.size ≤ 100000) (f : GFi) (q : List Tx) (h : pFile (lexT (bl s)) = .ok f q) : (toks f f.levels.length).length ≤ 1000000 ∧ f.fit := by
  have h1 := pFile_fit (N := s.size) (by omega) (lexT_sm s) h
  have h2 : (lexT (bl s)).length ≤ (bl s).length := by
    unfold lexT
    rw [List.length_map]
    exact lexL_len _ _ _ (Nat.le_refl _)
  rw [bl_len] at h2
  exact ⟨by omega, h1.1⟩
theorem parseP_fn (s : ByteArray) (hs : s.size ≤ 100000) : Fn Try.prog 9 [strA s] (parseA (parseR s)) :=
  parse_fn s hs (by have := lexL_len _ (bl s) 0 (Nat.le_refl _); rw [bl_len] at this; omega) (by have := lexL_numW s 0; rwa [List.drop_zero] at this) fun f q h => (file_bounds s hs f q h).1
theorem pr1 : parseR s1 = (f1, 0, 0) := by unfold parseR; rw [file1]; simp only [valid1, if_true]
theorem pr2 : parseR s2 = (noF, 7, 3) := by
  unfold parseR; rw [file2]
  simp only [cut, List.length_nil, Nat.sub_zero, List.drop_length, pos]
  rfl
theorem pr3 : parseR s3 = (noF, 14, 3) := by
  unfold parseR; rw [file3]
  simp only
  rw [lex3L]
  rfl
theorem awake17_fn : Fn Try.prog 8 [] (boolA true) := by
  have h1 := parseP_fn s1 (by decide)
  have h2 := parseP_fn s2 (by decide)
  have h3 := parseP_fn s3 (by decide)
  rw [pr1] at h1
  rw [pr2] at h2
  rw [pr3] at h3
  simp only [parseA] at h1 h2 h3
  refine Fn.intro (by rfl) (by kernel_rfl) Try.func8 rfl rfl Try.ntmps8 (by exact Nat.le_of_ble_eq_true rfl) ?_; intro Γ hm
  (repeat' (first | refine WP.seq ?_ | refine go_n ?_ | refine WP.skip ?_ | refine WP.ret ?_ | refine go_r ?_ | refine bo_r ?_ | (refine wp_cond (by rfl) (fun hc => ?_) (fun hc => ?_) <;> (try simp only [sB, ne_eq, reduceCtorEq] at hc) <;> (try (exfalso; omega))) | (refine WP.regionC (id := 0) ?_; (refine su (ap_assign (rq_p rfl rfl)) ?_); refine asemC_end ?_) | (refine WP.regionC (id := 1) ?_; (refine sc_p rfl rfl (by first | ((repeat' first | exact SubL.nil | refine SubL.cons ?_ ?_ | exact Sub.refl); done) | fail) (by first | (simp [bdL, bdL_append, AV.bd]; done) | fail) (h1) ?_); (refine su (ap_move (rq_p rfl rfl)) ?_); (refine su (ap_extract (rq_p rfl rfl) (by rfl)) ?_); (refine su (ap_extract (rq_p rfl rfl) (by rfl)) ?_); (refine su (ap_extract (rq_p rfl rfl) (by rfl)) ?_); (refine se_alloc (by rfl) ?_); (refine se_store_b (by rfl) (by rfl) (by rfl) (by rfl) ?_); (refine su (ap_assign (rq_p rfl rfl)) ?_); (refine su (ap_assign (rq_p rfl rfl)) ?_); refine asemC_end ?_) | (refine WP.regionC (id := 2) ?_; (refine sc_p rfl rfl (by first | ((repeat' first | exact SubL.nil | refine SubL.cons ?_ ?_ | exact Sub.refl); done) | fail) (by first | (simp [bdL, bdL_append, AV.bd]; done) | fail) (h2) ?_); (refine su (ap_move (rq_p rfl rfl)) ?_); (refine su (ap_extract (rq_p rfl rfl) (by rfl)) ?_); (refine su (ap_extract (rq_p rfl rfl) (by rfl)) ?_); (refine su (ap_extract (rq_p rfl rfl) (by rfl)) ?_); (refine se_alloc (by rfl) ?_); (refine se_store_b (by rfl) (by rfl) (by rfl) (by rfl) ?_); (refine su (ap_assign (rq_p rfl rfl)) ?_); (refine su (ap_assign (rq_p rfl rfl)) ?_); refine asemC_end ?_) | (refine WP.regionC (id := 3) ?_; (refine sc_p rfl rfl (by first | ((repeat' first | exact SubL.nil | refine SubL.cons ?_ ?_ | exact Sub.refl); done) | fail) (by first | (simp [bdL, bdL_append, AV.bd]; done) | fail) (h3) ?_); (refine su (ap_move (rq_p rfl rfl)) ?_); (refine su (ap_extract (rq_p rfl rfl) (by rfl)) ?_); (refine su (ap_extract (rq_p rfl rfl) (by rfl)) ?_); (refine su (ap_extract (rq_p rfl rfl) (by rfl)) ?_); (refine se_alloc (by rfl) ?_); (refine se_store_b (by rfl) (by rfl) (by rfl) (by rfl) ?_); (refine su (ap_assign (rq_p rfl rfl)) ?_); (refine su (ap_assign (rq_p rfl rfl)) ?_); refine asemC_end ?_) | (refine WP.regionC (id := 4) ?_; (refine su (ap_move (rq_p rfl rfl)) ?_); (refine su (ap_neq (rq_p rfl rfl) (rq_p rfl rfl)) ?_); (refine su (ap_move (rq_p rfl rfl)) ?_); (refine sg (gq_vf rfl rfl) (fun he => ap_field_p (rq_p rfl rfl) (by rfl) (by rfl)) ?_); (refine sg (gq_vf rfl rfl) (fun he => ap_load_p (rq_c rfl rfl) (by rfl) (by rfl) (by rfl)) ?_); (refine sg (gq_vf rfl rfl) (fun he => ap_len_m (by rfl) (rq_c rfl rfl)) ?_); (refine sg (gq_vf rfl rfl) (fun he => ap_neq (rq_c rfl rfl) (rq_p rfl rfl)) ?_); (refine su (ap_or (rq_p rfl rfl) (rq_c rfl rfl)) ?_); (refine su (ap_move (rq_p rfl rfl)) ?_); (refine sg (gq_vf rfl rfl) (fun he => ap_field_p (rq_p rfl rfl) (by rfl) (by rfl)) ?_); (refine sg (gq_vf rfl rfl) (fun he => ap_load_p (rq_c rfl rfl) (by rfl) (by rfl) (by rfl)) ?_); (refine sg (gq_vf rfl rfl) (fun he => ap_len_m (by rfl) (rq_c rfl rfl)) ?_); (refine sg (gq_vf rfl rfl) (fun he => ap_neq (rq_c rfl rfl) (rq_p rfl rfl)) ?_); (refine su (ap_or (rq_p rfl rfl) (rq_c rfl rfl)) ?_); (refine su (ap_move (rq_p rfl rfl)) ?_); (refine sg (gq_vf rfl rfl) (fun he => ap_field_p (rq_p rfl rfl) (by rfl) (by rfl)) ?_); (refine sg (gq_vf rfl rfl) (fun he => ap_load_p (rq_c rfl rfl) (by rfl) (by rfl) (by rfl)) ?_); (refine sg (gq_vf rfl rfl) (fun he => ap_idx_n (rq_c rfl rfl) (rq_p rfl rfl) (by (try simp only [sH, id, sB, ne_eq, reduceCtorEq] at he); (simp only [sL] <;> omega))) ?_); (refine sg (gq_vf rfl rfl) (fun he => ap_field_i (rq_c rfl rfl) (by rfl) (by rfl)) ?_); (refine sg (gq_vf rfl rfl) (fun he => ap_load_i (rq_c rfl rfl) (by rfl)) ?_); (refine sg (gq_vf rfl rfl) (fun he => ap_len_m (by rfl) (rq_c rfl rfl)) ?_); (refine sg (gq_vf rfl rfl) (fun he => ap_neq (rq_c rfl rfl) (rq_p rfl rfl)) ?_); (refine su (ap_or (rq_p rfl rfl) (rq_c rfl rfl)) ?_); refine asemC_end ?_) | (refine WP.regionC (id := 5) ?_; (refine su (ap_assign (rq_p rfl rfl)) ?_); refine asemC_end ?_) | (refine WP.regionC (id := 6) ?_; (refine su (ap_field_p (rq_p rfl rfl) (by rfl) (by rfl)) ?_); (refine su (ap_load_p (rq_p rfl rfl) (by rfl) (by rfl) (by rfl)) ?_); (refine su (ap_idx_n (rq_p rfl rfl) (rq_p rfl rfl) (by (simp only [sL] <;> omega))) ?_); (refine su (ap_field_i (rq_p rfl rfl) (by rfl) (by rfl)) ?_); (refine su (ap_load_i (rq_p rfl rfl) (by rfl)) ?_); (refine su (ap_idx_n (rq_p rfl rfl) (rq_p rfl rfl) (by (simp only [sL] <;> omega))) ?_); (refine su (ap_field_i (rq_p rfl rfl) (by rfl) (by rfl)) ?_); (refine su (ap_load_i (rq_p rfl rfl) (by rfl)) ?_); (refine su (ap_eql (rq_p rfl rfl) (rq_p rfl rfl)) ?_); (refine su (ap_move (rq_p rfl rfl)) ?_); (refine sg (gq_vt rfl rfl) (fun he => ap_field_p (rq_p rfl rfl) (by rfl) (by rfl)) ?_); (refine sg (gq_vt rfl rfl) (fun he => ap_load_p (rq_c rfl rfl) (by rfl) (by rfl) (by rfl)) ?_); (refine sg (gq_vt rfl rfl) (fun he => ap_idx_n (rq_c rfl rfl) (rq_p rfl rfl) (by (try simp only [sH, id, sB, ne_eq, reduceCtorEq] at he); (simp only [sL] <;> omega))) ?_); (refine sg (gq_vt rfl rfl) (fun he => ap_field_i (rq_c rfl rfl) (by rfl) (by rfl)) ?_); (refine sg (gq_vt rfl rfl) (fun he => ap_load_i (rq_c rfl rfl) (by rfl)) ?_); (refine sg (gq_vt rfl rfl) (fun he => ap_idx_n (rq_c rfl rfl) (rq_p rfl rfl) (by (try simp only [sH, id, sB, ne_eq, reduceCtorEq] at he); (simp only [sL] <;> omega))) ?_); (refine sg (gq_vt rfl rfl) (fun he => ap_field_i (rq_c rfl rfl) (by rfl) (by rfl)) ?_); (refine sg (gq_vt rfl rfl) (fun he => ap_field_i (rq_c rfl rfl) (by rfl) (by rfl)) ?_); (refine sg (gq_vt rfl rfl) (fun he => ap_load_i (rq_c rfl rfl) (by rfl)) ?_); (refine sg (gq_vt rfl rfl) (fun he => ap_eqs (rq_c rfl rfl) (rq_p rfl rfl)) ?_); (refine su (ap_and (rq_p rfl rfl) (rq_c rfl rfl)) ?_); (refine su (ap_move (rq_p rfl rfl)) ?_); (refine sg (gq_vt rfl rfl) (fun he => ap_move (rq_p rfl rfl)) ?_); (refine sg (gq_vt rfl rfl) (fun he => ap_eql (rq_c rfl rfl) (rq_p rfl rfl)) ?_); (refine su (ap_and (rq_p rfl rfl) (rq_c rfl rfl)) ?_); (refine su (ap_move (rq_p rfl rfl)) ?_); (refine sg (gq_vt rfl rfl) (fun he => ap_move (rq_p rfl rfl)) ?_); (refine sg (gq_vt rfl rfl) (fun he => ap_eql (rq_c rfl rfl) (rq_p rfl rfl)) ?_); (refine su (ap_and (rq_p rfl rfl) (rq_c rfl rfl)) ?_); (refine su (ap_move (rq_p rfl rfl)) ?_); (refine sg (gq_vt rfl rfl) (fun he => ap_move (rq_p rfl rfl)) ?_); (refine sg (gq_vt rfl rfl) (fun he => ap_eql (rq_c rfl rfl) (rq_p rfl rfl)) ?_); (refine su (ap_and (rq_p rfl rfl) (rq_c rfl rfl)) ?_); (refine su (ap_move (rq_p rfl rfl)) ?_); (refine sg (gq_vt rfl rfl) (fun he => ap_move (rq_p rfl rfl)) ?_); (refine sg (gq_vt rfl rfl) (fun he => ap_eql (rq_c rfl rfl) (rq_p rfl rfl)) ?_); (refine su (ap_and (rq_p rfl rfl) (rq_c rfl rfl)) ?_); (refine su (ap_assign (rq_p rfl rfl)) ?_); refine asemC_end ?_) | exact ret_eq (by rfl) (by rfl) rfl | refine ret_b (by rfl) ?_))
  exfalso
  revert hc
  decide
end Go.Lg

namespace Go.Lg
open Go.Proofs
set_option linter.unusedSimpArgs false
set_option linter.unusedVariables false
attribute [local irreducible] Ap Rq asemC WP RunD Ret Gq thenA inBlockA bodyQ noGotoA RqL RqP OpP
set_option maxHeartbeats 4000000
noncomputable instance : DecidableEq GEx := fun _ _ => Classical.propDecidable _
noncomputable instance : DecidableEq GRu := fun _ _ => Classical.propDecidable _
noncomputable instance : DecidableEq GLe := fun _ _ => Classical.propDecidable _
noncomputable instance : DecidableEq GFi := fun _ _ => Classical.propDecidable _
theorem gex_iff {a b : GEx} : a = b ↔ (a.kind = b.kind ∧ a.name = b.name) ∧ a.kids = b.kids := ⟨by rintro rfl; exact ⟨⟨rfl, rfl⟩, rfl⟩, fun h => GEx.ext' h.1.1 h.1.2 h.2⟩
theorem gal_iff {a b : GAl} : a = b ↔ a.price = b.price ∧ a.body = b.body := ⟨by rintro rfl; exact ⟨rfl, rfl⟩, fun h => by cases a; cases b; simp only at h; rw [h.1, h.2]⟩
theorem gru_iff {a b : GRu} : a = b ↔ a.name = b.name ∧ a.alts = b.alts := ⟨by rintro rfl; exact ⟨rfl, rfl⟩, fun h => by cases a; cases b; simp only at h; rw [h.1, h.2]⟩
theorem gle_iff {a b : GLe} : a = b ↔ a.assoc = b.assoc ∧ a.tokens = b.tokens := ⟨by rintro rfl; exact ⟨rfl, rfl⟩, fun h => by cases a; cases b; simp only at h; rw [h.1, h.2]⟩
theorem gfi_iff {a b : GFi} : a = b ↔ (a.start = b.start ∧ a.levels = b.levels) ∧ a.rules = b.rules := ⟨by rintro rfl; exact ⟨⟨rfl, rfl⟩, rfl⟩, fun h => by cases a; cases b; simp only at h; rw [h.1.1, h.1.2, h.2]⟩
end Go.Lg
