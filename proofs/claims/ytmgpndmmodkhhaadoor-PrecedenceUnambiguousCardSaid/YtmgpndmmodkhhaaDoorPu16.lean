/-
  Part 16 of the proof of PrecedenceUnambiguousCard: the logic over the model, the functions' contracts and the plain laws.
-/
import Derived.Test.YtmgpndmmodkhhaaDoorPu15
import Derived.Lib.ItoaNum

set_option linter.unusedSimpArgs false
set_option linter.unusedVariables false
set_option linter.unusedSectionVars false
set_option linter.defProp false

namespace Go.Lg
theorem itoa_nat (k : Nat) : Lib.itoa (k : Int) = Lib.decDigits k := by unfold Lib.itoa; rw [if_neg (by omega)]; simp
structure NVal (g : Gram) : Prop where
 nm : ∀ s, s ∈ g.terms ++ g.nonterms -> nameOk s = true
 nd : (g.terms ++ g.nonterms).Nodup
 hd : ∀ r, r ∈ g.rules -> 0 <= r.head /\ r.head < g.nonterms.length
theorem NVal.of {g : Gram} (h : validG g = true) : NVal g := by
 have hv := validG_iff.1 h
 simp only [validG, Bool.and_eq_true, decide_eq_true_eq, List.all_eq_true, namesOk] at h
 obtain ⟨⟨⟨⟨⟨⟨⟨⟨h1, h2⟩, h3⟩, h4⟩, h5⟩, h6⟩, h7⟩, h8⟩, h9⟩ := h
 exact ⟨h8.1, h8.2, fun r hr => ⟨(hv.rule r hr).h0, (hv.rule r hr).hn⟩⟩
section
variable {g : Gram}
end
section
variable {g : Gram} {pr : List Bool}
end
def rparL (f : Int -> RT) (n : Nat) : List Int -> Nat -> Tre × Int × Int
 | [], most => (zT, (most : Int), 3)
 | x :: l, most => if (f x).2.2 = true /\ n <= (f x).2.1 then (if 30 < depT (f x).1 then (zT, 0, 11) else ((f x).1, 0, 0)) else rparL f n l (max most (f x).2.1)
section
variable {g : Gram} {pr : List Bool}
end
section
variable {g : Gram}
theorem len2 {α : Type} {l : List α} (h : l.length = 2) : ∃ a b, l = [a, b] := by
 match l, h with
 | [a, b], _ => exact ⟨a, b, rfl⟩
structure Unr (g : Gram) (i k : Nat) (p : Prs) (l : List Prs) : Prop where
 len : l.length = (nth g.rules i).body.length - k
 ok : ∀ j, j < l.length -> okP (nrmOf g) (symN g (nth (nth g.rules i).body (k + j))) (nth l j) = true
 back : chainP ((posN g.rules i + k : Nat) : Int) l = p
 sz : ∀ x, x ∈ l -> szP x < szP p
end
section
variable {g : Gram}
structure From (g : Gram) (x : Int) (k : Nat) (t : Tre) : Prop where
 ok : okP (nrmOf g) (-1 - x) (fromTF g k t) = true
 yl : yieldP (nrmOf g) (fromTF g k t) = leavesT t
 pr : priceP (nrmOf g) (fromTF g k t) = priceT g t
 back : toTF g k (fromTF g k t) = t
end
section
variable {g : Gram} {pr : List Bool}
end
section
variable {g : Gram} {pr : List Bool}
end
open Go.RowKit
theorem bsz (a : Array UInt8) : (⟨a⟩ : ByteArray).size = a.size := rfl
structure FnO (P : Program) (g : FuncId) (ys : List AV) (os : List AObj) (X : AV) (os' : List (Option AObj)) : Prop where
 spec : Spec P g ys (os.map some) fun r o' => r = X /\ o' = os'
 len : os.length <= os'.length
 bd : X.bd os'.length = true
def newO (π : Nat -> Nat) (M : Nat) : List (Option AObj) -> List (Nat × Option AObj) -> List (Nat × Option AObj)
 | [], os => os
 | o :: r, os => newO π (M + 1) r ((M, o.map (AObj.ren π)) :: os)
def updN (π : Nat -> Nat) (M : Nat) : List Nat -> List (Option AObj) -> List (Nat × Option AObj) -> List (Nat × Option AObj)
 | i :: is, o :: os', os => updN π M is os' ((i, o.map (AObj.ren π)) :: os)
 | _, os', os => newO π M os' os
theorem ol_newO {π : Nat -> Nat} : ∀ (os' : List (Option AObj)) (M : Nat) (os : List (Nat × Option AObj)), ol M os ++ os'.map (Option.map (AObj.ren π)) = ol (M + os'.length) (newO π M os' os)
  | [], M, os => by simp [newO]
  | o :: r, M, os => by
    rw [List.map_cons, <- List.singleton_append, <- List.append_assoc, ol_push, ol_newO r (M + 1), newO]
    congr 1; simp; omega
theorem updN_ol {π : Nat -> Nat} {M : Nat} : ∀ (is : List Nat) (os' : List (Option AObj)) (os : List (Nat × Option AObj)), is.length <= os'.length -> updO π (ol M os) is os' = ol (M + (os'.length - is.length)) (updN π M is os' os)
  | [], os', os, _ => by
    have e : updN π M [] os' os = newO π M os' os := by unfold updN; rfl
    have e2 : updO π (ol M os) [] os' = ol M os ++ os'.map (Option.map (AObj.ren π)) := by unfold updO; rfl
    rw [e, e2, ol_newO]; simp
  | i :: is, o :: os', os, h => by
    simp only [updO, ol_set, updN]
    rw [updN_ol is os' _ (by simpa using h)]
    simp
  | _ :: _, [], _, h => by simp at h
section
variable {P : Program} {Γ : Cx} {n M : Nat} {l : List (Nat × AV)} {os : List (Nat × Option AObj)} {x X : AV} {d t : Tmp} {ty : TypeId} {pos : String} {af : Array Edge} {ops : Array Oper} {rest : List Oper} {K : St -> Prop} {g : FuncId} {first cap xa ys : List AV} {f : Operand} {args : Array Operand} {tys : Array TypeId}
theorem sc_o {aos : List AObj} {os' : List (Option AObj)} (is : List Nat) (hf : opq n l f = some (.clo (.func g) first cap)) (has : opqL n l args.toList = some xa) (hspec : FnO P g ys aos X os')
  (hL : Lend is (S n l M os) (first ++ xa ++ cap) ys aos)
  (hk : asemC P ops rest (S n ((d, X.ren (apx M is)) :: l) (M + (os'.length - is.length)) (updN (apx M is) M is os' os)) K) :
  asemC P ops (⟨some d, .call ⟨.value f, args, tys⟩, ty, pos, af, none⟩ :: rest) (S n l M os) K := by
 simp only [asemC]
 refine .inl ?_
 have hM : (S n l M os).objs.length = M := ol_length M os
 simp only [execA, opq_op hf, opqL_op has]
 refine Call.via is hspec.spec hL ?_
 rintro r o' ⟨rfl, rfl⟩
 have hil : is.length = aos.length := by have := wkRO_len hL.2.1; simpa using this.symm
 have := hspec.len
 refine ⟨hspec.len, hspec.bd, ?_⟩
 rw [hM]
 have e : (⟨(S n l M os).tmps, updO (apx M is) (S n l M os).objs is o'⟩ : St) = S n l (M + (o'.length - is.length)) (updN (apx M is) M is o' os) := by
  simp only [S]; rw [updN_ol is o' os (by omega)]
 rw [e, S_put]
 exact hk
def RetO (P : Program) (rs : List ResultVar) (m : Nat) (X : AV) (os' : List (Option AObj)) (s : St) : Prop :=
 ∃ x is, resN P s rs = some x /\ ToR m is ⟨[x], s.objs⟩ ⟨[X], os'⟩
theorem FnO.intro {fn : Func} {c : Code} {aos : List AObj} {os' : List (Option AObj)} {rs : List ResultVar} (hlen : aos.length <= os'.length) (hbd : X.bd os'.length = true) (he : enterable P g = true) (hf : P.funcs[g]? = some fn) (hb : fn.body = some c) (hrs : fn.results = rs.toArray) (hn : fn.ntmps = n) (hl : ys.length <= n)
  (h : ∀ Γ : Cx, Γ.m = aos.length -> WP P Γ c (bodyQ (RetO P rs aos.length X os')) (S n (enumA 0 ys) aos.length (enumO 0 aos))) : FnO P g ys aos X os' := by
 refine ⟨Spec.introR he hf hb (rs := rs) (by rw [hrs]) fun Γ hm => ?_, hlen, hbd⟩
 subst hn
 rw [List.length_map] at hm
 rw [tl_start _ _ hl]
 have hw := h Γ hm
 simp only [S, <- ol_enum] at hw
 refine WP.mono hw ?_
 have key : ∀ s, RetO P rs aos.length X os' s -> ∃ x y l t, resN P s rs = some x /\ ToR (aos.map some).length l ⟨[x], s.objs⟩ ⟨[y], t⟩ /\ (y = X /\ t = os') := by
  rintro s ⟨x, is, h1, h2⟩
  exact ⟨x, X, is, os', h1, by rw [List.length_map]; exact h2, rfl, rfl⟩
 intro e s hq
 cases e with
 | normal => exact key s hq
 | ret => exact key s hq
 | _ => exact hq
theorem retO_L {m : Nat} {rs : List ResultVar} {xs : List AV} {os' : List (Option AObj)} {os1 : List (Nat × Option AObj)} {k : Nat} (hr : ResL P n l M os rs xs) (hx : tupA xs = x) (hT : ∃ is, ToR m is (S 1 [(0, x)] M os) (S 1 [(0, X)] k os1)) (he : ol k os1 = os') : RetO P rs m X os' (S n l M os) := by
 obtain ⟨is, hT⟩ := hT
 refine ⟨x, is, ?_, ?_⟩
 ·simp only [resN, hr.ok, Option.map_some, hx]
 ·subst he
  have e1 : ∀ y : AV, tl 1 [(0, y)] = [y] := fun y => rfl
  simp only [S, e1] at hT
  exact hT
end
section
variable {P : Program} {Γ : Cx} {a : Act} {w : World}
theorem asemC_one {ops : Array Oper} {s : St} {o : Oper} {K : St -> Prop} {QQ : Exit -> Act -> World -> Prop} (hg : o.guard = none) (h : SR Γ s a w) (hk : asemC P ops [o] s K) : o.wp P a w (fun a' w' => ∃ s', K s' /\ SR Γ s' a' w') QQ := by
 simp only [asemC, hg] at hk
 rcases hk with hk | ⟨x, hx, hk⟩ | hs1
 ·exact exec_sound h hk fun s' a' w' hk' hs' => ⟨s', hk', hs'⟩
 ·obtain ⟨ρ, hρ⟩ := h
  obtain ⟨v, hrun, hrv⟩ := pure_sound (P := P) hρ (e := []) rfl hx
  unfold Oper.wp
  rw [hrun]
  exact ⟨_, hk, ρ, by simpa using hρ.put o.dst hrv⟩
 ·rcases hs1 Γ a w h with ⟨s1, v, w', hk, hrun, hsr⟩ | ⟨s1, w', hd, hk, hrun, hsr⟩
  ·unfold Oper.wp
   rw [hrun]
   exact ⟨_, hk, hsr⟩
  ·unfold Oper.wp
   rw [hrun]
   exact ⟨_, hk, by first | exact hsr | (rw [hd]; exact hsr) | simpa [hd, Act.put] using hsr⟩
end
section
variable {P : Program} {Γ : Cx} {ops : Array Oper}
end
section
variable {P : Program} {Γ : Cx} {n M : Nat} {l : List (Nat × AV)} {os : List (Nat × Option AObj)} {Q : Exit -> St -> Prop}
end
section
variable {P : Program} {n M : Nat} {l : List (Nat × AV)} {os : List (Nat × Option AObj)} {d t : Tmp} {ty : TypeId} {pos : String} {af : Array Edge} {ops : Array Oper} {rest : List Oper} {K : St -> Prop} {j : Nat} {want p : Bool} {x : AV} {op : Op} {a b c : Operand}
theorem sk_no (ht : (ops[j]?).bind (·.dst) = some t) (hg : opq n l (.tmp t) = some (.val (.bool (!want)))) (hk : asemC P ops rest (S n ((d, .any) :: l) M os) K) : asemC P ops (⟨some d, op, ty, pos, af, some (j, want)⟩ :: rest) (S n l M os) K := by
 simp only [asemC]
 refine .inl ⟨!want, yielded_q ht hg, ?_, fun _ => ?_⟩
 ·intro h; exact absurd h (by cases want <;> decide)
 rw [ht, S_put, S_lit hg, S_put]
 exact hk
theorem pk_t (hc : opq n l c = some (.val (.bool true))) (ha : opq n l a = some x) (hk : asemC P ops rest (S n ((d, x) :: l) M os) K) : asemC P ops (⟨some d, .pick c a b, ty, pos, af, none⟩ :: rest) (S n l M os) K := by
 simp only [asemC]
 refine .inl ⟨(x, .none), ?_, ?_⟩
 ·simp only [aop, opq_op hc, opq_op ha, pickA, pure']
  split <;> simp_all
 ·simp only [St.after, S_put]; exact hk
theorem pk_f (hc : opq n l c = some (.val (.bool false))) (hb : opq n l b = some x) (hk : asemC P ops rest (S n ((d, x) :: l) M os) K) : asemC P ops (⟨some d, .pick c a b, ty, pos, af, none⟩ :: rest) (S n l M os) K := by
 simp only [asemC]
 refine .inl ⟨(x, .none), ?_, ?_⟩
 ·simp only [aop, opq_op hc, opq_op hb, pickA, pure']
  split <;> simp_all
 ·simp only [St.after, S_put]; exact hk
end
def WPL (P : Program) (Γ : Cx) (ops : Array Oper) (l : List Oper) (Q : Exit -> St -> Prop) (s : St) : Prop :=
 ∀ a w, SR Γ s a w -> wpList P ops (fun e a' w' => ∃ s', Q e s' /\ SR Γ s' a' w') l a w
section
variable {P : Program} {Γ : Cx} {ops : Array Oper} {Q : Exit -> St -> Prop} {s : St} {rest : List Oper} {o : Oper}
theorem wpl_region {id : Nat} {l : List Oper} (h : WPL P Γ l.toArray l Q s) : WP P Γ (.region id l.toArray false) Q s := fun a w hs => wp_region_lit (h a w hs)
theorem wpl_step (hg : o.guard = none) (h : asemC P ops [o] s fun s' => WPL P Γ ops rest Q s') : WPL P Γ ops (o :: rest) Q s := fun a w hs =>
 wpList_plain hg fun K hK => Oper.wp_mono (fun a' w' ⟨s', h1, h2⟩ => hK a' w' (h1 a' w' h2)) (asemC_one hg hs h)
theorem wpl_end (h : Q .normal s) : WPL P Γ ops [] Q s := fun a w hs => ⟨s, h, hs⟩
variable {n M : Nat} {l : List (Nat × AV)} {os : List (Nat × Option AObj)}
theorem wpl_frz {id k len : Nat} {vs : List AV} (j : Nat) (hm : Γ.m = 0) (h : opq n l (.tmp j) = some (.ref id k 0 len)) (ho : lookq M os id = some (.arr k vs)) (hl : vs.length = len) (hb : bdL 0 vs = true) (hk : (vs.all fun x => Nat.beq x.cells.length k) = true)
  (hw : WPL P Γ ops rest Q (S n ((j, .sl k vs) :: l) M ((id, none) :: os))) : WPL P Γ ops rest Q (S n l M os) := fun a w hs => by
 refine hw a w ?_
 obtain ⟨ρ, hs⟩ := hs
 have hj : j < n := by
  simp only [opq] at h
  cases hb : Nat.blt j n with
  | false => rw [hb] at h; simp at h
  | true => exact blt_of hb
 have hx := opq_op (M := M) (os := os) h
 simp only [St.op, S] at hx
 rw [tl_getD l hj] at hx
 have hlen : a.tmps.size = n := by rw [hs.len]; simp [S, tl_length]
 have hv : a.tmps[j]? = some (a.tmps[j]'(by omega)) := Array.getElem?_eq_getElem (by omega)
 have hrv := hs.tmp j (.ref id k 0 len) _ (by simp only [S, tl_get l hj, hx]) hv
 have h1 := hs.kill id
 have hmap : vs.attach.map (fun x => x.1) = vs := List.attach_map_subtype_val vs
 have hlist := hs.list (α := {x // x ∈ vs}) (f := fun x => x.1) (L := vs.attach) hm (by rw [S_look, hmap]; exact ho) (by simpa using hl) (fun x => bdL_iff.1 hb x.1 x.2) (fun x => Nat.eq_of_beq_eq_true (List.all_eq_true.1 hk x.1 x.2)) hrv
 rw [hmap] at hlist
 have h2 := h1.put (some j) hlist
 rw [act_same hv] at h2
 refine ⟨ρ, ?_⟩
 have e : ((S n l M os).set id none).put (some j) (.sl k vs) = S n ((j, .sl k vs) :: l) M ((id, none) :: os) := by simp [S, St.set, St.put, ol_set, tl_set]
 rw [e] at h2
 simpa [S, ol_length] using h2
end
def CallX (P : Program) (fv : AV) (args : List AV) (s : St) (v : Value) (s' : St) : Prop :=
 ∀ (Γ : Cx) (a : Act) (w : World) (f : Value) (vs : List Value), SR Γ s a w -> (∀ ρ, SRa Γ (fun id => id < s.objs.length) ρ s a w -> RV (fun id => id < s.objs.length) ρ (Im Γ ρ s w) w fv f /\ vs.length = args.length /\
   ∀ (i : Nat) x v, args[i]? = some x -> vs[i]? = some v -> RV (fun id => id < s.objs.length) ρ (Im Γ ρ s w) w x v) ->
  ∃ g us, (∀ w : World, (do let d <- Deferred.ofValue f vs.toArray; invoke d.target d.args : Sem Next).run P w = .ok (.enter g us) w) /\
   Calls P g us w fun e w' => e = .panicked [{ v, recovered := false }] /\ SR Γ s' a w'
structure FnX (P : Program) (g : FuncId) (ys : List AV) (os : List AObj) (v : Value) : Prop where
 en : enterable P g = true
 spec : ∀ (Γ : Cx) (vs : Array Value), Γ.m = (os.map some).length /\ Γ.mrk = false -> SR Γ ⟨ys, os.map some⟩ ⟨vs, []⟩ Γ.w0 ->
  Calls P g vs Γ.w0 fun e w' => e = .panicked [{ v, recovered := false }] /\ SR Γ ⟨[.any], os.map fun _ => none⟩ ⟨#[undef], []⟩ w'
section
variable {P : Program} {Γ : Cx} {A : Nat -> Prop} {ρ : Nat -> Option Nat} {s : St} {a : Act} {w : World}
theorem SRa.view {g : FuncId} {first cap args ys : List AV} {os : List AObj} (l : List Nat) {f : Value} {vs : List Value} (he : enterable P g = true) (h : SRa Γ (fun id => id < s.objs.length) ρ s a w)
  (hf : RV (fun id => id < s.objs.length) ρ (Im Γ ρ s w) w (.clo (.func g) first cap) f) (hl : vs.length = args.length) (hv : ∀ (i : Nat) x v, args[i]? = some x -> vs[i]? = some v -> RV (fun id => id < s.objs.length) ρ (Im Γ ρ s w) w x v) (hL : Lend l s (first ++ args ++ cap) ys os) :
  ∃ us, (∀ w : World, (do let d <- Deferred.ofValue f vs.toArray; invoke d.target d.args : Sem Next).run P w = .ok (.enter g us) w) /\ ∃ Γ' : Cx, Γ'.m = os.length /\ Γ'.w0 = w /\ Γ'.ds = [] /\ Γ'.mrk = false /\ SR Γ' ⟨ys, os.map some⟩ ⟨us, []⟩ w /\
   ∀ (objs' : List (Option AObj)) w' (r : AV) (v : Value), os.length <= objs'.length -> SR Γ' ⟨[r], objs'⟩ ⟨#[v], []⟩ w' -> SR Γ ⟨s.tmps, updO (apx s.objs.length l) s.objs l objs'⟩ a w' := by
 obtain ⟨us, hrun, hsz, hrv⟩ := call_args he hf hl hv
 obtain ⟨h1, h2, h3, h5, h6⟩ := hL
 have hm : os.length = l.length := by simpa using wkRO_len h2
 have hlive : ∀ j o, os[j]? = some o -> s.live (ap l j) (o.ren (ap l)) := fun j o ho => wkRO_get h2 j o (by simp [ho])
 have hlive' : ∀ j, j < l.length -> ∃ o, s.live (ap l j) o := fun j hj => ⟨_, hlive j _ (List.getElem?_eq_getElem (by omega))⟩
 have hlt : ∀ j, j < l.length -> ap l j < s.objs.length := fun j hj => wkRO_lt h2 j hj
 have happ : ∀ j, j < l.length -> ap l j ∈ l := fun j hj => by simp [ap, List.getD, List.getElem?_eq_getElem hj]
 let Γ' : Cx := ⟨w, fun b => Im Γ ρ s w b \/ ∃ j, j < l.length /\ ρ (ap l j) = some b, os.length, fun j => ρ (ap l j), h.fr.next.1, h.fr.next.2, fun j hj b hb => by
  obtain ⟨o, ho⟩ := hlive' j (by omega)
  rcases h.own _ o b ho hb with q | ⟨i, hi, q⟩
  ·exact Nat.le_trans Γ.hgl q
  ·exact Γ.hext i hi b q, [], fun j hj b hb => .inl (.inr ⟨j, by omega, hb⟩), false⟩
 have hst : ∀ id o, St.live ⟨ys, os.map some⟩ id o -> os[id]? = some o := fun id o hl => by
  unfold St.live at hl
  simp only [List.getElem?_map, Option.map_eq_some_iff] at hl
  obtain ⟨x, hx, hxo⟩ := hl
  injection hxo with hxo; subst hxo; exact hx
 have hI0 : ∀ b, Im Γ ρ s w b -> Im Γ' (fun j => ρ (ap l j)) ⟨ys, os.map some⟩ w b /\ w.heap[b]? = w.heap[b]? := fun b hb => ⟨⟨.inl (.inl hb), hb.2.1, fun id o hl => hb.2.2 _ _ (hlive id o (hst id o hl))⟩, rfl⟩
 have h0 : SR Γ' ⟨ys, os.map some⟩ ⟨us, []⟩ w := by
  refine ⟨fun j => ρ (ap l j), fun i hi => ⟨by simpa using hi, rfl⟩, by simp only; rw [hsz, wkR_len h1], ?_, fun id o hl => ?_, fun id o hl => (List.getElem?_eq_some_iff.1 hl).1, fun _ hid => hid, fun id o b hl hb => .inr ⟨id, (List.getElem?_eq_some_iff.1 (hst id o hl)).1, hb⟩, fun i j o o' b g1 g2 g3 g4 => ?_, .nil rfl, ⟨Nat.le_refl _, rfl, rfl, rfl, fun _ _ _ => rfl, fun _ _ hn => hn⟩⟩
  ·intro i y v hy hu
   simp only at hy hu
   have hi : i < (first ++ args ++ cap).length := by rw [<- wkR_len h1]; exact (List.getElem?_eq_some_iff.1 hy).1
   have hx := List.getElem?_eq_getElem hi
   rcases wkR_get h1 i _ y hx hy with rfl | hxy
   ·exact .any
   ·have := (hrv i _ v hx hu).unren (π := ap l) (n := os.length) (ρ' := fun j => ρ (ap l j)) (fun _ _ => rfl) hI0 (fun _ _ hn => hn) hxy (bdL_iff.1 h5 _ (List.mem_of_getElem? hy))
    simpa using this
  ·have := (h.obj _ _ (hlive id o (hst id o hl))).unren (π := ap l) (n := os.length) (ρ' := fun j => ρ (ap l j)) (fun _ _ => rfl) hI0 (fun _ _ hn => hn) (fun _ _ => rfl) (by have := bdO_get h6 id o (by simp [hst id o hl]); cases o <;> exact this)
   simpa using this
  ·have e := h.inj _ _ _ _ b (hlive i o (hst i o g1)) (hlive j o' (hst j o' g2)) g3 g4
   have hi := (List.getElem?_eq_some_iff.1 (hst i o g1)).1
   have hj := (List.getElem?_eq_some_iff.1 (hst j o' g2)).1
   rw [hm] at hi hj
   simp only [ap, List.getD, List.getElem?_eq_getElem hi, List.getElem?_eq_getElem hj, Option.getD_some] at e
   exact (List.getElem_inj h3).1 e
 refine ⟨us, hrun, Γ', rfl, rfl, rfl, rfl, h0, ?_⟩
 rintro objs' w' r rv hle ⟨ρ'', hs'⟩
 have hfr := hs'.fr
 have hext : ∀ j, j < l.length -> ρ'' j = ρ (ap l j) := fun j hj => (hs'.ext j (by simp only [Γ']; omega)).2
 generalize hs2 : (⟨s.tmps, updO (apx s.objs.length l) s.objs l objs'⟩ : St) = s2
 let ρn : Nat -> Option Nat := fun id => if id < s.objs.length then ρ id else ρ'' (id - s.objs.length + l.length)
 have hρold : ∀ id, id < s.objs.length -> ρn id = ρ id := fun id hid => if_pos hid
 have hρnew : ∀ j, ρn (apx s.objs.length l j) = ρ'' j := fun j => by
  unfold apx
  split
  ·rename_i hj; rw [hρold _ (hlt j hj)]; exact (hext j hj).symm
  ·rename_i hj
   simp only [ρn]
   rw [if_neg (by omega)]
   congr 1; omega
 have hn2 : s2.objs.length = s.objs.length + (objs'.length - l.length) := by rw [<- hs2]; exact updO_len (by omega)
 have hapx : ∀ j, j < objs'.length -> apx s.objs.length l j < s2.objs.length := fun j hj => by
  rw [hn2]; unfold apx
  split
  ·rename_i h; have := hlt j h; omega
  ·omega
 have cases2 : ∀ id o, s2.live id o -> (id < s.objs.length /\ s.live id o /\ id ∉ l) \/ ∃ j o0, St.live ⟨[r], objs'⟩ j o0 /\ o = o0.ren (apx s.objs.length l) /\ id = apx s.objs.length l j := by
  intro id o ho
  rw [<- hs2] at ho
  exact updO_get (os := objs') (show l.length <= objs'.length by omega) (fun j i hi => by
   have hj := (List.getElem?_eq_some_iff.1 hi).1
   have := hlt j hj
   simpa [ap, List.getD, hi] using this) h3 ho
 have hblk : ∀ b, b < w.heap.size -> (∀ j, j < l.length -> ρ (ap l j) ≠ some b) -> w'.heap[b]? = w.heap[b]? := fun b hb hne => hfr.block b hb (fun i hi => hne i (by simp only [Γ'] at hi; omega))
 have hIold : ∀ b, Im Γ ρ s w b -> Im Γ ρn s2 w' b /\ w'.heap[b]? = w.heap[b]? := by
  rintro b ⟨g1, g2, g3⟩
  refine ⟨⟨g1, Nat.lt_of_lt_of_le g2 hfr.size, fun id o ho => ?_⟩, hblk b g2 fun j hj => ?_⟩
  ·rcases cases2 id o ho with ⟨c1, c2, _⟩ | ⟨j, o0, c1, _, rfl⟩
   ·rw [hρold id c1]; exact g3 id o c2
   ·rw [hρnew]
    intro hb
    rcases hs'.own j o0 b c1 hb with q | ⟨i, hi, q⟩
    ·simp only [Γ'] at q; omega
    ·simp only [Γ'] at hi q
     obtain ⟨o', ho'⟩ := hlive' i (by omega)
     exact g3 _ _ ho' q
  ·obtain ⟨o', ho'⟩ := hlive' j hj
   exact g3 _ _ ho'
 have hInew : ∀ b, Im Γ' ρ'' ⟨[r], objs'⟩ w' b -> Im Γ ρn s2 w' b /\ w'.heap[b]? = w'.heap[b]? := by
  rintro b ⟨g1, g2, g3⟩
  refine ⟨⟨?_, g2, fun id o ho => ?_⟩, rfl⟩
  ·rcases g1 with (g1 | ⟨j1, q1, q2⟩) | g1
   ·exact g1.1
   ·obtain ⟨o', ho'⟩ := hlive' j1 q1
    rcases h.own _ o' b ho' q2 with q | ⟨i, hi, q⟩
    ·exact .inr q
    ·exact Γ.hin i hi b q
   ·exact .inr (Nat.le_trans h.fr.size g1)
  ·rcases cases2 id o ho with ⟨c1, c2, c3⟩ | ⟨j, o0, c1, _, rfl⟩
   ·rw [hρold id c1]
    intro hb
    have := live_block h c2 hb
    rcases g1 with (g1 | ⟨j1, q1, q2⟩) | g1
    ·exact g1.2.2 id o c2 hb
    ·obtain ⟨o', ho'⟩ := hlive' j1 q1
     have := h.inj _ _ _ _ b c2 ho' hb q2
     exact c3 (this ▸ happ j1 q1)
    ·simp only [Γ'] at g1; omega
   ·rw [hρnew]; exact g3 j o0 c1
 have hown : ∀ j o0 b, St.live ⟨[r], objs'⟩ j o0 -> ρ'' j = some b -> w.heap.size <= b \/ ∃ i, i < l.length /\ ρ (ap l i) = some b := fun j o0 b c1 hb => by
  rcases hs'.own j o0 b c1 hb with q | ⟨i, hi, q⟩
  ·exact .inl q
  ·exact .inr ⟨i, by simp only [Γ'] at hi; omega, q⟩
 have hw' : SRa Γ (fun id => id < s2.objs.length) ρn s2 a w' := by
  refine ⟨fun i hi => ?_, by rw [<- hs2]; exact h.len, ?_, ?_, fun id o ho => (List.getElem?_eq_some_iff.1 ho).1, fun _ hid => hid, ?_, ?_, h.defers.mono hIold, h.fr.turn hfr.size hfr.os hfr.tape hfr.output ?_ hfr.csize⟩
  ·have g := h.ext i hi
   exact ⟨by have := g.1; omega, (hρold i g.1).trans g.2⟩
  ·intro i x u hx hu
   exact (h.tmp i x u (by rw [<- hs2] at hx; exact hx) hu).mono (fun id hid => ⟨by omega, hρold id hid⟩) hIold hfr.csize
  ·intro id o ho
   rcases cases2 id o ho with ⟨c1, c2, c3⟩ | ⟨j, o0, c1, rfl, rfl⟩
   ·rw [hρold id c1]
    refine (h.obj id o c2).mono (fun id hid => ⟨by omega, hρold id hid⟩) hIold hfr.csize fun c hc => hblk c (live_block h c2 hc) fun j hj hj' => ?_
    obtain ⟨o', ho'⟩ := hlive' j hj
    have := h.inj _ _ _ _ c c2 ho' hc hj'
    exact c3 (this ▸ happ j hj)
   ·rw [hρnew]
    exact (hs'.obj j o0 c1).reren (fun id hid => ⟨hapx id hid, hρnew id⟩) hInew (fun _ _ hn => hn) (fun _ _ => rfl)
  ·intro id o b ho hb
   rcases cases2 id o ho with ⟨c1, c2, c3⟩ | ⟨j, o0, c1, rfl, rfl⟩
   ·rw [hρold id c1] at hb; exact h.own id o b c2 hb
   ·rw [hρnew] at hb
    rcases hown j o0 b c1 hb with q | ⟨i, hi, q⟩
    ·exact .inl (Nat.le_trans h.fr.size q)
    ·obtain ⟨o', ho'⟩ := hlive' i hi
     exact h.own _ _ b ho' q
  ·have mix : ∀ id o b j o0, s.live id o -> id ∉ l -> ρ id = some b -> St.live ⟨[r], objs'⟩ j o0 -> ρ'' j = some b -> False := by
    intro id o b j o0 c2 c3 hb c1 hb'
    rcases hown j o0 b c1 hb' with q | ⟨i, hi, q⟩
    ·have := live_block h c2 hb; omega
    ·obtain ⟨o', ho'⟩ := hlive' i hi
     have := h.inj _ _ _ _ b c2 ho' hb q
     exact c3 (this ▸ happ i hi)
   intro id id' o o' b ho ho' hb hb'
   rcases cases2 id o ho with ⟨c1, c2, c3⟩ | ⟨j, o0, c1, rfl, rfl⟩ <;> rcases cases2 id' o' ho' with ⟨d1, d2, d3⟩ | ⟨j', o0', d1, rfl, rfl⟩
   ·rw [hρold id c1] at hb; rw [hρold id' d1] at hb'
    exact h.inj _ _ _ _ b c2 d2 hb hb'
   ·rw [hρold id c1] at hb; rw [hρnew] at hb'
    exact (mix _ _ _ _ _ c2 c3 hb d1 hb').elim
   ·rw [hρnew] at hb; rw [hρold id' d1] at hb'
    exact (mix _ _ _ _ _ d2 d3 hb' c1 hb).elim
   ·rw [hρnew] at hb hb'
    rw [hs'.inj _ _ _ _ b c1 d1 hb hb']
  ·intro b hb
   by_cases hj : ∃ j, j < l.length /\ ρ (ap l j) = some b
   ·obtain ⟨j, hj, hjb⟩ := hj
    obtain ⟨o', ho'⟩ := hlive' j hj
    exact .inr (h.own _ _ b ho' hjb)
   ·exact .inl (hblk b hb fun j hj' he => hj ⟨j, hj', he⟩)
 exact ⟨ρn, hw'⟩
theorem CallX.via {g : FuncId} {first cap args ys : List AV} {os : List AObj} (l : List Nat) {pv : Value} (hspec : FnX P g ys os pv) (hL : Lend l s (first ++ args ++ cap) ys os) :
  CallX P (.clo (.func g) first cap) args s pv ⟨s.tmps, updO (apx s.objs.length l) s.objs l (os.map fun _ => none)⟩ := by
 intro Γ a w f vs hs hfv
 obtain ⟨ρ, h⟩ := hs
 obtain ⟨hf, hl, hv⟩ := hfv ρ h
 obtain ⟨us, hrun, Γ', hm, hw, hd, hk, h0, hback⟩ := h.view l hspec.en hf hl hv hL
 refine ⟨g, us, hrun, ?_⟩
 subst hw
 refine (hspec.spec Γ' us ⟨by simp [hm], hk⟩ h0).mono ?_
 rintro e w' ⟨rfl, hs'⟩
 exact ⟨rfl, hback _ _ _ _ (by simp) hs'⟩
theorem SR.dead (h : SR Γ s a w) (hd : Γ.ds = []) {m : Nat} (hm : Γ.m = m) : SR Γ ⟨[.any], List.replicate m none⟩ ⟨#[undef], []⟩ w := by
 obtain ⟨ρ, h⟩ := h
 have hl : ∀ id o, ¬ St.live ⟨[.any], List.replicate m none⟩ id o := fun id o hl => by
  unfold St.live at hl
  simp only [List.getElem?_replicate] at hl
  split at hl <;> simp at hl
 refine ⟨ρ, fun i hi => ⟨by simp; omega, (h.ext i hi).2⟩, rfl, fun i x v hx hv => ?_, fun id o h => absurd h (hl id o), fun id o h => absurd h (hl id o), fun _ hid => hid, fun id o b h => absurd h (hl id o), fun i j o o' b h => absurd h (hl i o), .nil hd.symm, h.fr⟩
 cases i with
 | zero => simp at hx; subst hx; exact .any
 | succ i => simp at hx
end
def bodyX (v : Value) : Exit -> St -> Prop
 | .panic ch, _ => ch = [{ v, recovered := false }]
 | _, _ => False
section
variable {P : Program} {Γ : Cx} {n M : Nat} {l : List (Nat × AV)} {os : List (Nat × Option AObj)} {x X : AV} {d t : Tmp} {ty : TypeId} {pos : String} {af : Array Edge} {ops : Array Oper} {rest : List Oper} {K : St -> Prop} {g : FuncId} {first cap xa ys : List AV} {f : Operand} {args : Array Operand} {tys : Array TypeId} {Q : Exit -> St -> Prop} {s : St} {next : St -> Prop}
theorem FnX.intro {fn : Func} {c : Code} {aos : List AObj} {v : Value} (he : enterable P g = true) (hf : P.funcs[g]? = some fn) (hb : fn.body = some c) (hn : fn.ntmps = n) (hl : ys.length <= n)
  (h : ∀ Γ : Cx, Γ.m = aos.length -> WP P Γ c (bodyX v) (S n (enumA 0 ys) aos.length (enumO 0 aos))) : FnX P g ys aos v := by
 refine ⟨he, fun Γ vs hm hs => calls_of_wp hf hb ?_⟩
 obtain ⟨ρ, hs⟩ := hs
 have hlen : vs.size = ys.length := hs.len
 have h0 : SR Γ ⟨ys ++ List.replicate (fn.ntmps - ys.length) .any, aos.map some⟩ ⟨vs ++ Array.replicate (fn.ntmps - vs.size) undef, []⟩ Γ.w0 := by
  refine ⟨ρ, hs.ext, by simp [hlen], ?_, hs.obj, hs.made, hs.bound, hs.own, hs.inj, hs.defers, hs.fr⟩
  intro i x v hx hv
  simp only at hx hv
  by_cases hi : i < ys.length
  ·rw [List.getElem?_append_left hi] at hx
   rw [Array.getElem?_append_left (by omega)] at hv
   exact hs.tmp i x v hx hv
  ·rw [List.getElem?_append_right (by omega)] at hx
   have hm := List.mem_of_getElem? hx
   rw [(List.mem_replicate.1 hm).2]
   exact .any
 subst hn
 rw [tl_start _ _ hl] at h0
 rw [List.length_map] at hm
 have hw := h Γ hm.1
 simp only [S, <- ol_enum] at hw
 refine wp_mono (hw _ _ h0) ?_
 rintro e a' w' ⟨s', hq, hs'⟩
 cases e with
 | panic ch =>
  have hd : Γ.ds = [] := (hs.defers.eq hm.2).symm
  have e1 : (aos.map fun _ => (none : Option AObj)) = List.replicate aos.length none := by
   rw [List.map_const']
  obtain ⟨ρ', hs''⟩ := hs'
  refine ⟨(hs''.defers.eq hm.2).trans hd, ?_⟩
  simp only [bodyX] at hq
  exact ⟨by rw [hq], by rw [e1]; exact SR.dead ⟨ρ', hs''⟩ hd hm.1⟩
 | _ => exact hq.elim
def kill : List Nat -> List (Nat × Option AObj) -> List (Nat × Option AObj)
 | [], os => os
 | i :: is, os => kill is ((i, none) :: os)
end
inductive Res where
 | ok (X : AV) (os : List (Option AObj))
 | die (v : Value)
def FnP (P : Program) (g : FuncId) (ys : List AV) (os : List AObj) : Res -> Prop
 | .ok X os' => FnO P g ys os X os'
 | .die v => FnX P g ys os v
def bodyP (P : Program) (rs : List ResultVar) (m : Nat) (r : Res) : Exit -> St -> Prop
 | .normal, s | .ret, s => ∃ X os', r = .ok X os' /\ RetO P rs m X os' s
 | .panic ch, _ => ∃ v, r = .die v /\ ch = [{ v, recovered := false }]
 | _, _ => False
def Res.fine (m : Nat) : Res -> Prop
 | .ok X os' => m <= os'.length /\ X.bd os'.length = true
 | .die _ => True
section
variable {P : Program} {Γ : Cx} {n M : Nat} {l : List (Nat × AV)} {os : List (Nat × Option AObj)} {x X : AV} {d t : Tmp} {ty : TypeId} {pos : String} {af : Array Edge} {ops : Array Oper} {rest : List Oper} {K : St -> Prop} {g : FuncId} {first cap xa ys : List AV} {f : Operand} {args : Array Operand} {tys : Array TypeId} {Q : Exit -> St -> Prop} {s : St} {next : St -> Prop}
theorem FnP.intro {fn : Func} {c : Code} {aos : List AObj} {rs : List ResultVar} {r : Res} (hr : r.fine aos.length) (he : enterable P g = true) (hf : P.funcs[g]? = some fn) (hb : fn.body = some c) (hrs : fn.results = rs.toArray) (hn : fn.ntmps = n) (hl : ys.length <= n)
  (h : ∀ Γ : Cx, Γ.m = aos.length -> WP P Γ c (bodyP P rs aos.length r) (S n (enumA 0 ys) aos.length (enumO 0 aos))) : FnP P g ys aos r := by
 cases r with
 | ok X os' =>
  refine FnO.intro hr.1 hr.2 he hf hb hrs hn hl fun Γ hm => WP.mono (h Γ hm) ?_
  intro e s hq
  cases e with
  | normal => obtain ⟨X', o', e, h⟩ := hq; injection e with e1 e2; subst e1 e2; exact h
  | ret => obtain ⟨X', o', e, h⟩ := hq; injection e with e1 e2; subst e1 e2; exact h
  | panic ch => obtain ⟨v, e, _⟩ := hq; cases e
  | _ => exact hq
 | die v =>
  refine FnX.intro he hf hb hn hl fun Γ hm => WP.mono (h Γ hm) ?_
  intro e s hq
  cases e with
  | normal => obtain ⟨X', o', e, h⟩ := hq; cases e
  | ret => obtain ⟨X', o', e, h⟩ := hq; cases e
  | panic ch => obtain ⟨v', e, h⟩ := hq; injection e with e; subst e; exact h
  | _ => exact hq
def PInd (Q : Exit -> St -> Prop) : Prop := ∀ ch s t x, Q (.panic ch) s -> Q (.panic ch) (s.put t x)
theorem pind_then (h : PInd Q) : PInd (thenA next Q) := fun ch s t x hq => h ch s t x hq
theorem pind_q {R : St -> Prop} : PInd (bodyQ R) := fun ch s t x hq => hq
def liftQ (Γ : Cx) (Q : Exit -> St -> Prop) : Exit -> Act -> World -> Prop := fun e a' w' => ∃ s', Q e s' /\ SR Γ s' a' w'
def WPT (P : Program) (Γ : Cx) (ops : Array Oper) (Q : Exit -> St -> Prop) (fuel : Nat) (listed : Array Bool) (s : St) : Prop :=
 ∀ a w, SR Γ s a w -> wpAny P .any ops (liftQ Γ Q) fuel listed a w
def WPO (P : Program) (Γ : Cx) (ops : Array Oper) (Q : Exit -> St -> Prop) (i : Nat) (K : St -> Prop) (s : St) : Prop :=
 ∀ a w, SR Γ s a w -> wpOp P ops (liftQ Γ Q) i (fun a' w' => ∃ s', K s' /\ SR Γ s' a' w') a w
def AllO (P : Program) (Γ : Cx) (ops : Array Oper) (Q : Exit -> St -> Prop) (fuel : Nat) (listed : Array Bool) (s : St) : List Nat -> Prop
 | [] => True
 | i :: r => WPO P Γ ops Q i (WPT P Γ ops Q fuel (listed.setIfInBounds i true)) s /\ AllO P Γ ops Q fuel listed s r
theorem wp_tree {id : Nat} {L : List Oper} (k : Nat) (hm : P.follows .mixedOrders = true) (hk : L.length = k) (h : WPT P Γ L.toArray Q k (Array.replicate k false) s) : WP P Γ (.region id L.toArray true) Q s := by
 intro a w hs
 have hsz : L.toArray.size = k := by simpa using hk
 refine wp_region_any hm ?_
 rw [hsz]
 exact h a _ (hs.drawn _)
variable {fuel i : Nat} {listed : Array Bool}
theorem wpt_all {rs : List Nat} (hr : Region.ready .any ops listed = rs) (hne : rs.isEmpty = false) (h : AllO P Γ ops Q fuel listed s rs) : WPT P Γ ops Q (fuel + 1) listed s := by
 intro a w hs
 refine wpAny_all hr (by cases rs <;> simp_all) fun i hi => ?_
 have key : ∀ rs, AllO P Γ ops Q fuel listed s rs -> ∀ i, i ∈ rs -> WPO P Γ ops Q i (WPT P Γ ops Q fuel (listed.setIfInBounds i true)) s := by
  intro rs
  induction rs with
  | nil => intro _ i hi; cases hi
  | cons j r ih =>
   intro h i hi
   rcases List.mem_cons.1 hi with rfl | hi
   ·exact h.1
   ·exact ih h.2 i hi
 exact wpOp_mono (fun a' w' ⟨s', h1, h2⟩ => h1 a' w' h2) (key rs h i hi a w hs)
theorem wpt_end (hr : Region.ready .any ops listed = []) (h : Q .normal s) : WPT P Γ ops Q fuel listed s := fun a w hs => wpAny_done hr ⟨s, h, hs⟩ fuel
theorem wpo_do {o : Oper} (ho : ops[i]? = some o) (hg : o.guard = none) (h : asemC P ops [o] s K) : WPO P Γ ops Q i K s := by
 intro a w hs
 unfold wpOp
 rw [ho]
 simp only
 rw [if_pos (by simp [Region.wanted, hg])]
 exact .inl (asemC_one hg hs h)
def Still (P : Program) (op : Op) : Prop := ∀ (ρ : Operand -> Value) (dst : Option Tmp) (ty : TypeId) (pos : String) (af : Array Edge) (v : Value) (w w' w1 : World), (execOp ρ ⟨dst, op, ty, pos, af, none⟩).run P w = .ok (.value v) w1 -> (execOp ρ ⟨dst, op, ty, pos, af, none⟩).run P w' = .ok (.value v) w'
theorem still_move {a : Operand} : Still P (.move a) := by
 intro ρ dst ty pos af v w w' w1 h
 simp only [execOp, Sem.run_pure] at h ⊢
 injection h with h1 h2
 rw [h1]
theorem still_assign {a : Operand} : Still P (.assign a) := by
 intro ρ dst ty pos af v w w' w1 h
 simp only [execOp, Sem.run_pure] at h ⊢
 injection h with h1 h2
 rw [h1]
theorem wpt_take {op : Op} (i : Nat) (ho : ops[i]? = some ⟨some d, op, ty, pos, af, none⟩) (hst : Still P op) (hap : Ap P n l M os [] op x) (hs : Region.noSelect ops = true) (hf : Region.free .any ops listed i = true) (hr : (Region.ready .any ops listed).contains i = true) (hQ : PInd Q)
  (hk : WPT P Γ ops Q fuel (listed.setIfInBounds i true) (S n ((d, x) :: l) M os)) : WPT P Γ ops Q (fuel + 1) listed (S n l M os) := by
 intro a w hs'
 obtain ⟨ρ, hρ⟩ := hs'
 obtain ⟨v, hrun, hrv⟩ := pure_sound (P := P) hρ (o := ⟨some d, op, ty, pos, af, none⟩) (e := []) rfl hap
 refine wpAny_take (v := v) ho hs hf hr ?_ (.inl ⟨by simp [Region.wanted], fun w' => hst _ _ _ _ _ _ _ _ _ hrun⟩) ?_
 ·rintro c a1 w1 ⟨s', hq, ρ', h'⟩
  by_cases hd : d < a1.tmps.size
  ·have hv : a1.tmps[d]? = some a1.tmps[d] := Array.getElem?_eq_getElem hd
   refine ⟨s'.put (some d) .any, hQ _ _ _ _ hq, ρ', ?_⟩
   have h2 := h'.put (some d) (x := .any) (v := a1.tmps[d]) .any
   have e : (a1.put (some d) v).put (some d) a1.tmps[d] = a1 := by
    have e1 : (a1.put (some d) v).put (some d) a1.tmps[d] = a1.put (some d) a1.tmps[d] := by simp [Act.put]
    rw [e1]; exact act_same hv
   rw [e] at h2
   simpa [St.put] using h2
  ·refine ⟨s', hq, ρ', ?_⟩
   have e : a1.put (some d) v = a1 := by
    cases a1 with | mk tm df => simp only [Act.put, Act.mk.injEq, and_true]; exact Array.setIfInBounds_eq_of_size_le (by simpa using hd)
   rwa [e] at h'
 ·refine hk _ _ ⟨ρ, ?_⟩
  have h2 := hρ.put (some d) hrv
  rw [S_put] at h2
  simpa [S, ol_length] using h2
end
inductive FzB (id : Nat) (cells : List AV) : AV -> AV -> Prop
 | same {x : AV} : FzB id cells x x
 | ptr {k f : Nat} : FzB id cells (.ptr id k 0 f) (.iptr cells f)
 | clo {fn : Go.Fn} {xs ys xs' ys' : List AV} (h1 : xs'.length = xs.length) (h2 : ys'.length = ys.length) (h3 : ∀ (i : Nat) x y, xs[i]? = some x -> xs'[i]? = some y -> FzB id cells x y) (h4 : ∀ (i : Nat) x y, ys[i]? = some x -> ys'[i]? = some y -> FzB id cells x y) : FzB id cells (.clo fn xs ys) (.clo fn xs' ys')
inductive FzBL (id : Nat) (cells : List AV) : List AV -> List AV -> Prop
 | nil : FzBL id cells [] []
 | cons {x y : AV} {xs ys : List AV} (h : FzB id cells x y) (t : FzBL id cells xs ys) : FzBL id cells (x :: xs) (y :: ys)
theorem FzBL.get {id : Nat} {cells xs ys : List AV} (h : FzBL id cells xs ys) : ys.length = xs.length /\ ∀ (i : Nat) x y, xs[i]? = some x -> ys[i]? = some y -> FzB id cells x y := by
 induction h with
 | nil => exact ⟨rfl, fun i x y hx => by simp at hx⟩
 | cons h _ ih =>
  refine ⟨by simp [ih.1], fun i x y hx hy => ?_⟩
  cases i with
  | zero => simp at hx hy; subst hx hy; exact h
  | succ i => exact ih.2 i x y (by simpa using hx) (by simpa using hy)
theorem FzB.cloL {id : Nat} {cells : List AV} {fn : Go.Fn} {xs ys xs' ys' : List AV} (h1 : FzBL id cells xs xs') (h2 : FzBL id cells ys ys') : FzB id cells (.clo fn xs ys) (.clo fn xs' ys') := .clo h1.get.1 h2.get.1 h1.get.2 h2.get.2
section
variable {P : Program} {Γ : Cx} {A : Nat -> Prop} {ρ : Nat -> Option Nat} {s : St} {a : Act} {w : World}
end
section
variable {P : Program} {Γ : Cx} {n M : Nat} {l : List (Nat × AV)} {os : List (Nat × Option AObj)} {Q : Exit -> St -> Prop}
end
section
variable {P : Program} {Γ : Cx} {A : Nat -> Prop} {ρ : Nat -> Option Nat} {s : St} {a : Act} {w : World}
end
def St.kills (s : St) : List Nat -> St
 | [] => s
 | i :: is => St.kills (s.set i none) is
section
variable {P : Program} {Γ : Cx} {A : Nat -> Prop} {ρ : Nat -> Option Nat} {s : St} {a : Act} {w : World}
theorem SRa.kills (h : SRa Γ A ρ s a w) : ∀ is : List Nat, SRa Γ A ρ (s.kills is) a w := by
 intro is
 induction is generalizing s with
 | nil => exact h
 | cons i is ih => exact ih (h.kill i)
end
section
variable {P : Program} {Γ : Cx} {n M : Nat} {l : List (Nat × AV)} {os : List (Nat × Option AObj)} {Q : Exit -> St -> Prop}
end
section
variable {P : Program} {Γ : Cx} {ops : Array Oper}
end
section
variable {P : Program} {Γ : Cx} {n M : Nat} {l : List (Nat × AV)} {os : List (Nat × Option AObj)} {Q : Exit -> St -> Prop} {ops : Array Oper} {K : St -> Prop}
end
def frzq (_m _id _M : Nat) (_os : List (Nat × Option AObj)) : Bool := true
section
variable {P : Program} {Γ : Cx} {A : Nat -> Prop} {ρ : Nat -> Option Nat} {s : St} {a : Act} {w : World}
theorem SRa.list1 (h : SRa Γ A ρ s a w) {id k len : Nat} {α : Type} {f : α -> AV} {L : List α} (ho : s.look id = some (.arr k (L.map f))) (hl : L.length = len) (hb : ∀ x, (f x).bd 0 = true) (hk : ∀ x, (f x).cells.length = k)
  (hnb : ∀ b, ρ id = some b -> Γ.I0 b \/ Γ.w0.heap.size <= b) {I : Nat -> Prop} {v : Value} (hv : RV A ρ I w (.ref id k 0 len) v) : RV A ρ (Im Γ ρ (s.set id none) w) w (.sl k (L.map f)) v := by
 have hlive := St.look_some.1 ho
 have hI : ∀ b, Im Γ ρ s w b -> Im Γ ρ (s.set id none) w b /\ w.heap[b]? = w.heap[b]? := fun b ⟨h1, h2, h3⟩ => ⟨⟨h1, h2, fun i o hl => h3 i o (St.live_kill hl).2⟩, rfl⟩
 cases hv with
 | @ref _ _ _ _ cap b hA hbk hlc hcs hmx =>
  obtain ⟨cs, t, hblk, hrow⟩ := h.row ho hbk
  have hflat : (flat (L.map f)).length = (L.map f).length * k := flat_length hrow.wide
  have hIb : Im Γ ρ (s.set id none) w b := by
   refine ⟨?_, World.lt_of_block hblk, fun i o hl hr => ?_⟩
   ·exact hnb b hbk
   ·obtain ⟨h1, h2⟩ := St.live_kill hl
    exact h1 (h.inj i id o _ b h2 hlive hr hbk)
  have key : RV A ρ (Im Γ ρ (s.set id none) w) w (.sl k (L.map f)) (.slice (some ⟨b, 0 * k, none⟩) (L.map f).length cap) := by
   refine .sl (fun j => cs.getD j undef) ⟨by simp; omega, hmx⟩ hIb (fun e he => by obtain ⟨x, _, rfl⟩ := List.mem_map.1 he; exact hk x) (fun j hj => ?_) (fun j hj => ?_) (fun j x hx => ?_)
   ·have : j < cs.size := Nat.lt_of_lt_of_le hj hrow.len
    rw [cell_of_block hblk]; simp [Array.getD, this]
   ·have : j < cs.size := Nat.lt_of_lt_of_le hj hrow.len
    exact hrow.atoms j _ hj (by simp [Array.getD, this])
   ·have hj := (List.getElem?_eq_some_iff.1 hx).1
    have : j < cs.size := Nat.lt_of_lt_of_le hj hrow.len
    exact (hrow.vals j x _ hx (by simp [Array.getD, this])).pure (flat_bd (bdL_map hb L) x (List.mem_of_getElem? hx)) hI (fun _ _ hn => hn)
  rw [List.length_map, hl] at key
  exact key
 | refn hA hbk =>
  have : L = [] := List.eq_nil_of_length_eq_zero hl
  subst this
  exact .nils
theorem SRa.newb {n M : Nat} {l : List (Nat × AV)} {os : List (Nat × Option AObj)} {id mm : Nat} {o : AObj} (h : SRa Γ A ρ (S n l M os) a w) (_hm : Γ.m = mm) (_hfq : frzq mm id M os = true) (hl : (S n l M os).live id o) : ∀ b, ρ id = some b -> Γ.I0 b \/ Γ.w0.heap.size <= b := by
 intro b hb
 rcases h.own id o b hl hb with h1 | ⟨i, hi, h1⟩
 ·exact .inr h1
 ·exact Γ.hin i hi b h1
end
section
variable {P : Program} {Γ : Cx} {n M : Nat} {l : List (Nat × AV)} {os : List (Nat × Option AObj)} {c : Code} {Q : Exit -> St -> Prop} {ops : Array Oper} {rest : List Oper}
theorem still_fieldAddr {a : Operand} {ty : TypeId} {f off sz : Nat} {ti : TI} [h : TIc P ty ti] (hf : ti.fields[f]? = some (off, sz)) (hz : Nat.beq sz 0 = false) : Still P (.fieldAddr ty a f) := by
  obtain ⟨fs, fd, i, h1, h2, h3, h4, h5⟩ := fields_spec h.h hf (Nat.ne_of_beq_eq_false hz)
  have hz' : ¬ sz = 0 := Nat.ne_of_beq_eq_false hz
  subst h5
  intro ρ dst ty' pos af v w w' w1 h
  have hs : ∀ x : Value, (∃ ad, x = .pointer (some ad)) ∨ (∀ w : World, (Instr.fieldAt ty x f).run P w = (stuck "an address expected (no nilCheck in front?)" : Sem Value).run P w) := by
    intro x
    cases x with
    | pointer o => cases o with
      | some ad => exact .inl ⟨ad, rfl⟩
      | none => exact .inr fun w => by simp [Instr.fieldAt, run_underlying h1, h2, Instr.sureAddr]
    | _ => exact .inr fun w => by simp [Instr.fieldAt, run_underlying h1, h2, Instr.sureAddr]
  rcases hs (ρ a) with ⟨ad, had⟩ | hst
  · simp [execOp, had, Instr.fieldAt, run_underlying h1, h2, Instr.sureAddr, fieldPlace, sizeOf, typeInfo, h4, hz'] at h ⊢
    exact h.1
  · simp only [execOp, Sem.run_bind, hst w] at h
    simp [stuck] at h
theorem retM_L {post : AV -> List AObj -> Prop} {m : Nat} {rs : List ResultVar} {xs : List AV} {x : AV} {os1 : List (Nat × Option AObj)} (os' : List AObj) (hr : ResL P n l M os rs xs) (hx : tupA xs = x) (hb : x.bd 0 = true) (hT : ∃ is, ToR m is (S 0 [] M os) (S 0 [] m os1)) (he : ol m os1 = os'.map some) (hp : post x os') : RetM P rs m post (S n l M os) := by
 obtain ⟨is, hT⟩ := hT
 refine ⟨x, is, os', ?_, hb, ?_, ?_, hp⟩
 ·simp only [resN, hr.ok, Option.map_some, hx]
 ·simp only [S, tl, List.range_zero, List.map_nil] at hT
  rw [he] at hT
  exact hT
 ·have := congrArg List.length he
  rw [ol_length, List.length_map] at this
  exact this.symm
end
end Go.Lg
