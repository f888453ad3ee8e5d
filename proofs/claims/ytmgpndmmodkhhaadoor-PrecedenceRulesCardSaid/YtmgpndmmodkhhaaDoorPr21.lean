/-
  Part 21 of the proof of PrecedenceRulesCard: the logic over the model, the functions' contracts and the plain laws.
-/
import Derived.Test.YtmgpndmmodkhhaaDoorPr20
import Derived.Recover

set_option linter.unusedSimpArgs false
set_option linter.unusedVariables false
set_option linter.unusedSectionVars false
set_option linter.defProp false

namespace Go.Lg
open Go.RowKit
set_option linter.unusedVariables false
def DefD (P : Program) (g : FuncId) (ys : List AV) (os : List AObj) (u : FrameMode) (os' : List AObj) : Prop :=
  enterable P g = true ∧ os.length = os'.length ∧ ∀ (Γ : Cx) (vs : Array Value), Γ.m = os.length ∧ Γ.mrk = false → Γ.ds = [] → SR Γ ⟨ys, os.map some⟩ ⟨vs, []⟩ Γ.w0 →
    CallsD P g vs u Γ.w0 fun e u' w' => (∃ v, e = .returned v) ∧ settle u' = .returning ∧ SR Γ ⟨[.tup []], os'.map some⟩ ⟨#[.tuple #[]], []⟩ w'
section
variable {P : Program} {Γ : Cx} {A : Nat → Prop} {ρ : Nat → Option Nat} {s : St} {a : Act} {w : World} {n M : Nat} {l : List (Nat × AV)} {os : List (Nat × Option AObj)} {c : Code} {Q : Exit → St → Prop} {g : FuncId} {ys : List AV}
theorem SRa.boxes (h : SRa Γ A ρ s a w) (hm0 : Γ.m = 0) (hds : Γ.ds = []) (m : Nat) (hl : ∀ i, i < m → ∃ o, s.live i o) (d : Deferred) :
    ∃ Γ' : Cx, Γ'.m = m ∧ Γ'.ds = [d] ∧ Γ'.mrk = false ∧ Γ'.ρ0 = ρ ∧ SRa Γ' A ρ s { a with defers := [d] } w ∧ ∀ s a w, SR Γ' s a w → SR Γ s { a with defers := [] } w := by
  have hnew : ∀ i, i < m → ∀ b, ρ i = some b → Γ.w0.heap.size ≤ b := fun i hi b hb => by
    obtain ⟨o, ho⟩ := hl i hi
    rcases h.own i o b ho hb with h1 | ⟨j, hj, _⟩
    · exact h1
    · omega
  refine ⟨⟨Γ.w0, Γ.I0, m, ρ, Γ.hG, Γ.hgl, fun i hi b hb => Nat.le_trans Γ.hgl (hnew i hi b hb), [d], fun i hi b hb => .inr (hnew i hi b hb), false⟩, rfl, rfl, rfl, rfl, ?_, ?_⟩
  · refine ⟨fun i hi => ⟨(hl i hi).elim fun o ho => h.made i o ho, rfl⟩, h.len, h.tmp, h.obj, h.made, h.bound, fun id o b ho hb => ?_, h.inj, .nil rfl, ⟨h.fr.size, h.fr.os, h.fr.tape, h.fr.output, fun b hb _ => h.fr.block b hb fun i hi => by omega, h.fr.csize⟩⟩
    rcases h.own id o b ho hb with h1 | ⟨j, hj, _⟩
    · exact .inl h1
    · omega
  · rintro s a w ⟨ρ', h'⟩
    refine ⟨ρ', fun i hi => by omega, h'.len, h'.tmp, h'.obj, h'.made, h'.bound, fun id o b ho hb => ?_, h'.inj, .nil hds.symm, ⟨h'.fr.size, h'.fr.os, h'.fr.tape, h'.fr.output, fun b hb _ => h'.fr.block b hb fun i hi e => ?_, h'.fr.csize⟩⟩
    · rcases h'.own id o b ho hb with h1 | ⟨j, hj, h1⟩
      · exact .inl h1
      · exact .inl (hnew j hj b h1)
    · have := hnew i hi b e
      omega
def modeOf : Exit → Option FrameMode
  | .normal | .ret => some .returning
  | .panic ch => some (.panicking ch)
  | _ => none
def bodyD (P : Program) (rs : List ResultVar) (gc : FuncId) (capA : List AV) (X : AV) (e : Exit) (s : St) : Prop :=
  ∃ u, modeOf e = some u ∧ ∃ (is : List Nat) (ys' : List AV) (mid fin : List AObj), Lend is s ([] ++ [] ++ capA) ys' mid ∧ DefD P gc ys' mid u fin ∧ Ret P rs X ⟨s.tmps, updO (apx s.objs.length is) s.objs is (fin.map some)⟩
theorem FnD.intro {fn : Func} {c0 c2 : Code} {id : Nat} {d : Tmp} {gc : FuncId} {caps : Array Operand} {t1 t2 : TypeId} {p1 p2 : String} {af1 af2 : Array Edge} {rs : List ResultVar} {X : AV} {l1 : List (Nat × AV)} {M1 : Nat} {os1 : List (Nat × Option AObj)} {capA : List AV}
    (hX : X.bd 0 = true) (he : enterable P g = true) (hf : P.funcs[g]? = some fn) (hb : fn.body = some (.seq c0 (.seq (.region id [⟨some d, .makeFunc (.func gc) #[] caps, t1, p1, af1, none⟩, ⟨none, .defer ⟨.value (.tmp d), #[], #[]⟩, t2, p2, af2, none⟩].toArray false) c2)))
    (hrs : fn.results = rs.toArray) (hn : fn.ntmps = n) (hl : ys.length ≤ n) (hdn : d < n) (hcap : opqL n l1 caps.toList = some capA) (hptr : ∀ x, x ∈ capA → ∃ i k, x = .ptr i k 0 0 ∧ i < M1) (hlive : ∀ i, i < M1 → (lookq M1 os1 i).isSome = true)
    (h0 : ∀ Γ : Cx, Γ.m = 0 → WP P Γ c0 (fun e s => e = .normal ∧ s = S n l1 M1 os1) (S n (enumA 0 ys) 0 (enumO 0 [])))
    (h2 : ∀ Γ : Cx, Γ.m = M1 → WP P Γ c2 (bodyD P rs gc capA X) (S n ((d, .clo (.func gc) [] capA) :: l1) M1 os1)) : Fn P g ys X := by
  refine ⟨⟨he, fun Γ vs hm hs => calls_of_wp_defers hf hb ?_⟩, hX⟩
  simp only [List.length_nil] at hm
  obtain ⟨ρ, hs⟩ := hs
  have hds : Γ.ds = [] := (hs.defers.eq hm.2).symm
  have hlen : vs.size = ys.length := hs.len
  have hst : SR Γ ⟨ys ++ List.replicate (fn.ntmps - ys.length) .any, ([] : List AObj).map some⟩ ⟨vs ++ Array.replicate (fn.ntmps - vs.size) undef, []⟩ Γ.w0 := by
    refine ⟨ρ, hs.ext, by simp [hlen], ?_, hs.obj, hs.made, hs.bound, hs.own, hs.inj, hs.defers, hs.fr⟩
    intro i x v hx hv
    simp only at hx hv
    by_cases hi : i < ys.length
    · rw [List.getElem?_append_left hi] at hx
      rw [Array.getElem?_append_left (by omega)] at hv
      exact hs.tmp i x v hx hv
    · rw [List.getElem?_append_right (by omega)] at hx
      have hm := List.mem_of_getElem? hx
      rw [(List.mem_replicate.1 hm).2]
      exact .any
  subst hn
  rw [tl_start _ _ hl] at hst
  have hw0 := h0 Γ hm.1
  have hst2 : SR Γ (S fn.ntmps (enumA 0 ys) 0 (enumO 0 ([] : List AObj))) ⟨vs ++ Array.replicate (fn.ntmps - vs.size) undef, []⟩ Γ.w0 := hst
  refine wp_seq (wp_mono (hw0 _ _ hst2) ?_)
  rintro e a1 w1 ⟨s1, ⟨rfl, rfl⟩, hs1⟩
  refine wp_seq ?_
  refine wp_region_lit (wpList_plain rfl fun K hK => ?_)
  obtain ⟨ρ1, hρ1⟩ := hs1
  have hcv : ∀ (i : Nat) x v, capA[i]? = some x → (caps.toList.map a1.eval)[i]? = some v → RV (fun id => id < (S fn.ntmps l1 M1 os1).objs.length) ρ1 (Im Γ ρ1 (S fn.ntmps l1 M1 os1) w1) w1 x v := by
    intro i x v hx hv
    have hq := opqL_op (M := M1) (os := os1) hcap
    rw [← hq] at hx
    simp only [List.getElem?_map, Option.map_eq_some_iff] at hx hv
    obtain ⟨p, hp, rfl⟩ := hx
    obtain ⟨q, hq', rfl⟩ := hv
    rw [hp] at hq'; injection hq' with hq'; subst hq'
    exact hρ1.eval p
  have hcl : capA.length = (caps.map a1.eval).size := by
    have hq := opqL_op (M := M1) (os := os1) hcap
    rw [← hq]; simp
  have hrvc : RV (fun id => id < (S fn.ntmps l1 M1 os1).objs.length) ρ1 (Im Γ ρ1 (S fn.ntmps l1 M1 os1) w1) w1 (.clo (.func gc) [] capA) (.func (.func gc) #[] (caps.map a1.eval)) :=
    .clo rfl hcl (fun i x v hx => by simp at hx) (fun i x v hx hv => hcv i x v hx (by simpa using hv))
  unfold Oper.wp
  have hex : (execOp a1.eval ⟨some d, .makeFunc (.func gc) #[] caps, t1, p1, af1, none⟩).run P w1 = .ok (.value (.func (.func gc) #[] (caps.map a1.eval))) w1 := by
    simp [execOp, Instr.makeFunc]
  rw [hex]
  simp only [Oper.upon]
  refine hK _ _ ?_
  refine wpList_plain rfl fun K2 hK2 => ?_
  have hput := hρ1.put (some d) hrvc
  rw [S_put] at hput
  have hdval : (a1.put (some d) (.func (.func gc) #[] (caps.map a1.eval))).eval (.tmp d) = .func (.func gc) #[] (caps.map a1.eval) := by
    have hsz : a1.tmps.size = fn.ntmps := by rw [hρ1.len]; simp [S, tl_length]
    simp [Act.eval, Act.put, hsz, hdn]
  unfold Oper.wp
  generalize ha1 : a1.put (some d) (.func (.func gc) #[] (caps.map a1.eval)) = a1' at *
  have hex2 : (execOp a1'.eval ⟨none, .defer ⟨.value (.tmp d), #[], #[]⟩, t2, p2, af2, none⟩).run P w1 = .ok (.defer ⟨.fn (.func gc) (caps.map a1.eval), #[]⟩) w1 := by
    simp [execOp, resolve, hdval, Deferred.ofValue]
  rw [hex2]
  simp only [Oper.upon]
  refine hK2 _ _ ?_
  refine wpList_nil ?_
  have hda : a1'.defers = [] := (hput.defers.eq hm.2).trans hds
  have hlv : ∀ i, i < M1 → ∃ o, (S fn.ntmps ((d, .clo (.func gc) [] capA) :: l1) M1 os1).live i o := fun i hi => by
    obtain ⟨o, ho⟩ := Option.isSome_iff_exists.1 (hlive i hi)
    exact ⟨o, St.look_some.1 (by rw [S_look]; exact ho)⟩
  have hMl : ∀ l : List (Nat × AV), (S fn.ntmps l M1 os1).objs.length = M1 := fun l => ol_length M1 os1
  obtain ⟨Γ', hm', hds', hk', hρ0', hsr', hdown⟩ := SRa.boxes (A := fun id => id < M1) (by simpa [hMl] using hput) hm.1 hds M1 hlv ⟨.fn (.func gc) (caps.map a1.eval), #[]⟩
  have hact : ({ a1' with defers := (⟨.fn (.func gc) (caps.map a1.eval), #[]⟩ : Deferred) :: a1'.defers } : Act).put none undef = { a1' with defers := [⟨.fn (.func gc) (caps.map a1.eval), #[]⟩] } := by rw [hda]; rfl
  rw [hact]
  refine wp_mono (h2 Γ' hm' _ _ ⟨ρ1, by simpa [hMl] using hsr'⟩) ?_
  rintro e a' w' ⟨s', ⟨u, hu, is, ys', mid, fin, hL, hD, x0, hres, hz⟩, ρ', hs'⟩
  have hda' : a'.defers = [⟨.fn (.func gc) (caps.map a1.eval), #[]⟩] := (hs'.defers.eq hk').trans hds'
  have hrun : u ≠ .run := by cases e <;> simp [modeOf] at hu <;> subst hu <;> simp
  have hcv' : ∀ (i : Nat) x v, capA[i]? = some x → (caps.map a1.eval)[i]? = some v → RV (fun id => id < s'.objs.length) ρ' (Im Γ' ρ' s' w') w' x v := by
    intro i x v hx hv
    obtain ⟨j, k, rfl, hj⟩ := hptr x (List.mem_of_getElem? hx)
    have h1 := hcv i _ v hx (by simpa using hv)
    obtain ⟨hjA, hjρ⟩ := hs'.ext j (by omega)
    cases h1 with
    | ptr hA hb => exact .ptr hjA (by rw [hjρ, hρ0']; exact hb)
  have hrvc' : RV (fun id => id < s'.objs.length) ρ' (Im Γ' ρ' s' w') w' (.clo (.func gc) [] capA) (.func (.func gc) #[] (caps.map a1.eval)) :=
    .clo rfl hcl (fun i x v hx => by simp at hx) hcv'
  obtain ⟨us, hrn, Γ'', hm'', hw'', hds'', hk'', hsr'', hback⟩ := hs'.view is (args := []) (vs := []) hD.1 hrvc' rfl (fun i x v hx => by simp at hx) hL
  have hleaves : Leaves P fn a'.tmps (fun e w' => ∃ r objs' v, e = .returned v ∧ (r = X ∧ r.bd 0 = true) ∧ SR Γ ⟨[r], objs'⟩ ⟨#[v], []⟩ w') a'.defers u w' := by
    rw [hda']
    refine leaves_cons (f := gc) (args := us) hrun (by have := hrn w'; simpa [Deferred.ofValue] using this) ?_
    have hlenL : is.length = mid.length := by have := wkRO_len hL.2.1; simpa using this.symm
    have hDs := hD.2.2 Γ'' us ⟨hm'', hk''⟩ hds'' (by rw [hw'']; exact hsr'')
    rw [hw''] at hDs
    refine hDs.mono ?_
    rintro e2 u2 w2 ⟨⟨v2, rfl⟩, hset, hsr2⟩
    simp only
    rw [hset]
    have hb2 := hback _ _ _ _ (by rw [List.length_map]; exact Nat.le_of_eq hD.2.1) hsr2
    have hfin := hdown _ _ _ hb2
    obtain ⟨ρ3, h3⟩ := hfin
    obtain ⟨v, hv, _⟩ := resN_sound h3 (by rw [hrs]) hres
    refine ⟨v, hv, X, [], v, rfl, ⟨rfl, hX⟩, SR.out ⟨ρ3, h3⟩ hds hm.1 hz fun ρ4 h4 => ?_⟩
    obtain ⟨v4, hv4, hr4⟩ := resN_sound h4 (by rw [hrs]) hres
    rw [hv] at hv4
    injection hv4 with e1
    subst e1
    exact hr4
  cases e with
  | normal => simp only [modeOf, Option.some.injEq] at hu; subst hu; exact hleaves
  | ret => simp only [modeOf, Option.some.injEq] at hu; subst hu; exact hleaves
  | panic ch => simp only [modeOf, Option.some.injEq] at hu; subst hu; exact hleaves
  | _ => simp [modeOf] at hu
def upd0 : List Nat → List (Nat × List AV) → List (Nat × Option AObj) → List (Nat × Option AObj)
  | i :: is, (k, vs) :: fs, os => upd0 is fs ((i, some (.arr k vs)) :: os)
  | _, _, os => os
theorem DefD.intro {fn : Func} {c2 : Code} {id : Nat} {d x : Tmp} {t1 t2 : TypeId} {p1 p2 : String} {af1 af2 : Array Edge} {aos fin : List AObj} {u u2 : FrameMode} {rv : Value} (he : enterable P g = true) (hlen : aos.length = fin.length) (hf : P.funcs[g]? = some fn)
    (hb : fn.body = some (.seq (.region id [⟨some d, .call ⟨.builtin .recover, #[], #[]⟩, t1, p1, af1, none⟩, ⟨some x, .assign (.tmp d), t2, p2, af2, none⟩].toArray false) c2)) (hrs : fn.results = #[]) (hn : fn.ntmps = n) (hl : ys.length ≤ n) (hdn : d < n) (hat : atom rv = true)
    (hrec : ∀ (c₀ : Frame) (cs : List Frame), c₀.mode = u → (recoverD (c₀ :: cs) = some (rv, { c₀ with mode := u2 } :: cs)) ∨ (recoverD (c₀ :: cs) = none ∧ rv = .nilIface ∧ u2 = u)) (hset : settle u2 = .returning)
    (h2 : ∀ Γ : Cx, Γ.m = aos.length → WP P Γ c2 (bodyQ (RetO P [] aos.length (.tup []) (fin.map some))) (S n ((x, .val rv) :: (d, .val rv) :: enumA 0 ys) aos.length (enumO 0 aos))) : DefD P g ys aos u fin := by
  refine ⟨he, hlen, fun Γ vs hm hds hs => callsD_of_wpS hf hb fun c₀ cs hc => ?_⟩
  obtain ⟨ρ, hs⟩ := hs
  have hlen' : vs.size = ys.length := hs.len
  have hst : SR Γ ⟨ys ++ List.replicate (fn.ntmps - ys.length) .any, aos.map some⟩ ⟨vs ++ Array.replicate (fn.ntmps - vs.size) undef, []⟩ Γ.w0 := by
    refine ⟨ρ, hs.ext, by simp [hlen'], ?_, hs.obj, hs.made, hs.bound, hs.own, hs.inj, hs.defers, hs.fr⟩
    intro i x v hx hv
    simp only at hx hv
    by_cases hi : i < ys.length
    · rw [List.getElem?_append_left hi] at hx
      rw [Array.getElem?_append_left (by omega)] at hv
      exact hs.tmp i x v hx hv
    · rw [List.getElem?_append_right (by omega)] at hx
      have hm := List.mem_of_getElem? hx
      rw [(List.mem_replicate.1 hm).2]
      exact .any
  subst hn
  rw [tl_start _ _ hl, ol_enum] at hst
  generalize hact : (⟨vs ++ Array.replicate (fn.ntmps - vs.size) undef, []⟩ : Act) = a0 at *
  have hst2 : SR Γ (S fn.ntmps (enumA 0 ys) aos.length (enumO 0 aos)) a0 Γ.w0 := hst
  obtain ⟨ρ', h0⟩ := hst2
  have h1 := h0.put (some d) (x := .val rv) (v := rv) (.val hat)
  rw [S_put] at h1
  have hev : (a0.put (some d) rv).eval (.tmp d) = rv := by
    have hsz : a0.tmps.size = fn.ntmps := by rw [h0.len]; simp [S, tl_length]
    simp [Act.eval, Act.put, hsz, hdn]
  generalize ha1 : a0.put (some d) rv = a1 at *
  have h3 : SRa Γ (fun id => id < (S fn.ntmps (enumA 0 ys) aos.length (enumO 0 aos)).objs.length) ρ' (S fn.ntmps ((x, .val rv) :: (d, .val rv) :: enumA 0 ys) aos.length (enumO 0 aos)) (a1.put (some x) rv) Γ.w0 := by
    have := SRa.put (s := S fn.ntmps ((d, .val rv) :: enumA 0 ys) aos.length (enumO 0 aos)) (by simpa [S, ol_length] using h1) (some x) (x := .val rv) (v := rv) (.val hat)
    rw [S_put] at this
    simpa [S, ol_length] using this
  have key : ∀ cs', cs' = { c₀ with mode := u2 } :: cs → c2.wpS P (bodyPostS P fn c₀ cs fun e u' w' => (∃ v, e = .returned v) ∧ settle u' = .returning ∧ SR Γ ⟨[.tup []], fin.map some⟩ ⟨#[.tuple #[]], []⟩ w') (a1.put (some x) rv) cs' Γ.w0 := by
    rintro cs' rfl
    refine wpS_of_wp (wp_mono (h2 Γ hm.1 _ _ ⟨ρ', by simpa [S, ol_length] using h3⟩) ?_)
    rintro e a' w' ⟨s', hq, ρ2, hs'⟩
    have fin2 : RetO P [] aos.length (.tup []) (fin.map some) s' → bodyPostS P fn c₀ cs (fun e u' w' => (∃ v, e = .returned v) ∧ settle u' = .returning ∧ SR Γ ⟨[.tup []], fin.map some⟩ ⟨#[.tuple #[]], []⟩ w') .ret a' ({ c₀ with mode := u2 } :: cs) w' := by
      rintro ⟨y, is, hy, hT⟩
      obtain ⟨v, hv, _⟩ := resN_sound hs' (by rw [hrs]) hy
      have hv0 : v = .tuple #[] := by
        rw [results_rdv, hrs] at hv
        simp at hv
        exact hv.symm
      have hy0 : y = .tup [] := by simp [resN, resL, tupA] at hy; exact hy.symm
      subst hy0
      refine ⟨(hs'.defers.eq hm.2).trans hds, u2, rfl, v, hv, ⟨v, rfl⟩, hset, ?_⟩
      have h5 : SR Γ ⟨[.tup []], s'.objs⟩ ⟨#[v], []⟩ w' := SR.result ⟨ρ2, hs'⟩ hds fun ρ4 h4 => by
        obtain ⟨v4, hv4, hr4⟩ := resN_sound h4 (by rw [hrs]) hy
        rw [hv] at hv4
        injection hv4 with e1
        subst e1
        exact hr4
      subst hv0
      exact h5.toR (by rw [hm.1]; exact hT)
    cases e with
    | normal => exact fin2 hq
    | ret => exact fin2 hq
    | _ => exact hq.elim
  refine wpS_seq (wpS_region ?_)
  have hrange : List.range [(⟨some d, .call ⟨.builtin .recover, #[], #[]⟩, t1, p1, af1, none⟩ : Oper), ⟨some x, .assign (.tmp d), t2, p2, af2, none⟩].toArray.size = [0, 1] := rfl
  rw [hrange]
  have hex : (execOp a0.eval ⟨some d, .call ⟨.builtin .recover, #[], #[]⟩, t1, p1, af1, none⟩).run P Γ.w0 = .ok .recover Γ.w0 := by
    simp [execOp, resolve, invoke, builtin]
  have hex2 : (execOp a1.eval ⟨some x, .assign (.tmp d), t2, p2, af2, none⟩).run P Γ.w0 = .ok (.value rv) Γ.w0 := by
    simp [execOp, hev]
  rcases hrec c₀ cs hc with hr | ⟨hr, hrv, hu⟩
  · simp only [wpOpsS, List.getElem?_toArray, List.getElem?_cons_zero, List.getElem?_cons_succ, Region.wanted, if_true, hex, hr, ha1, hex2, Oper.upon]
    exact key _ rfl
  · simp only [wpOpsS, List.getElem?_toArray, List.getElem?_cons_zero, List.getElem?_cons_succ, Region.wanted, if_true, hex, hr, ← hrv, ha1, hex2, Oper.upon]
    refine key _ ?_
    rw [hu, ← hc]
variable {d t : Tmp} {ty ty2 tx : TypeId} {pos : String} {af : Array Edge} {ops : Array Oper} {rest : List Oper} {K : St → Prop} {o1 : Operand} {T : TypeId} {v : Value}
end
end Go.Lg
