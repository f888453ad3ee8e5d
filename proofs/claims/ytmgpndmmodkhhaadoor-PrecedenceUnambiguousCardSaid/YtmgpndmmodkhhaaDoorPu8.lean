/-
  Part 8 of the proof of PrecedenceUnambiguousCard: the logic over the model, the functions' contracts and the plain laws.
-/
import Derived.Test.YtmgpndmmodkhhaaDoorPu7
import Derived.Scope

set_option linter.unusedSimpArgs false
set_option linter.unusedVariables false
set_option linter.unusedSectionVars false
set_option linter.defProp false

namespace Go.Lg
open Go.RowKit
structure FnM (P : Program) (g : FuncId) (ys : List AV) (os : List AObj) (post : AV -> List AObj -> Prop) : Prop where
 spec : Spec P g ys (os.map some) fun r o' => ∃ os' : List AObj, o' = os'.map some /\ os'.length = os.length /\ r.bd 0 = true /\ post r os'
theorem FnM.mono {P : Program} {g : FuncId} {ys : List AV} {os : List AObj} {post post' : AV -> List AObj -> Prop} (h : FnM P g ys os post) (hp : ∀ r o, post r o -> post' r o) : FnM P g ys os post' :=
 ⟨h.spec.mono fun r _ ⟨os', h1, h2, h3, h4⟩ => ⟨os', h1, h2, h3, hp r os' h4⟩⟩
mutual
theorem bd_le {m n : Nat} (h : m <= n) : ∀ {x : AV}, x.bd m = true -> x.bd n = true
 | .any, _ => rfl
 | .val _, _ => rfl
 | .agg cs, hx => by simp only [AV.bd] at *; exact bdL_le h hx
 | .tup cs, hx => by simp only [AV.bd] at *; exact bdL_le h hx
 | .sl _ es, hx => by simp only [AV.bd] at *; exact bdL_le h hx
 | .ref id _ _ _, hx => by simp only [AV.bd, decide_eq_true_eq] at *; omega
 | .ptr id _ _ _, hx => by simp only [AV.bd, decide_eq_true_eq] at *; omega
 | .iptr cs _, hx => by simp only [AV.bd] at *; exact bdL_le h hx
 | .clo _ xs ys, hx => by simp only [AV.bd, Bool.and_eq_true] at *; exact ⟨bdL_le h hx.1, bdL_le h hx.2⟩
 | .map id, hx => by simp only [AV.bd, decide_eq_true_eq] at *; omega
 | .yld id, hx => by simp only [AV.bd, decide_eq_true_eq] at *; omega
 | .cond _ x, hx => by simp only [AV.bd] at *; exact bd_le h hx
theorem bdL_le {m n : Nat} (h : m <= n) : ∀ {l : List AV}, bdL m l = true -> bdL n l = true
 | [], _ => rfl
 | x :: xs, hx => by simp only [bdL, Bool.and_eq_true] at *; exact ⟨bd_le h hx.1, bdL_le h hx.2⟩
end
theorem bdL_of0 {n : Nat} {l : List AV} (h : bdL 0 l = true) : bdL n l = true := bdL_le (Nat.zero_le n) h
def enumO (i : Nat) : List AObj -> List (Nat × Option AObj)
 | [] => []
 | o :: os => (i, some o) :: enumO (i + 1) os
theorem lkO_enum : ∀ (os : List AObj) (k i : Nat), lkO (k + i) (enumO k os) = os[i]?
  | [], k, i => by simp [enumO, lkO]
  | o :: os, k, 0 => by simp [enumO, lkO]
  | o :: os, k, i + 1 => by
    have : Nat.beq k (k + (i + 1)) = false := by cases hb : Nat.beq k (k + (i + 1)) with
      | false => rfl
      | true => have := Nat.eq_of_beq_eq_true hb; omega
    simp only [enumO, lkO, this, cond_false, List.getElem?_cons_succ]
    rw [show k + (i + 1) = (k + 1) + i by omega]
    exact lkO_enum os (k + 1) i
theorem ol_enum (os : List AObj) : os.map some = ol os.length (enumO 0 os) := by
 apply List.ext_getElem?
 intro i
 by_cases h : i < os.length
 ·rw [ol_get _ h]
  have := lkO_enum os 0 i
  rw [Nat.zero_add] at this
  rw [this]; simp [h]
 ·rw [List.getElem?_eq_none (by simp; omega), List.getElem?_eq_none (by rw [ol_length]; omega)]
section
variable {P : Program} {Γ : Cx} {n M : Nat} {l : List (Nat × AV)} {os : List (Nat × Option AObj)} {x X : AV} {d t : Tmp} {ty : TypeId} {pos : String} {af : Array Edge} {ops : Array Oper} {rest : List Oper} {K : St -> Prop} {g : FuncId} {first cap as ys : List AV} {f : Operand} {args : Array Operand} {tys : Array TypeId}
def RetM (P : Program) (rs : List ResultVar) (m : Nat) (post : AV -> List AObj -> Prop) (s : St) : Prop :=
 ∃ x is os', resN P s rs = some x /\ x.bd 0 = true /\ ToR m is ⟨[], s.objs⟩ ⟨[], os'.map some⟩ /\ os'.length = m /\ post x os'
theorem FnM.intro {fn : Func} {c : Code} {aos : List AObj} {post : AV -> List AObj -> Prop} {rs : List ResultVar} (he : enterable P g = true) (hf : P.funcs[g]? = some fn) (hb : fn.body = some c) (hrs : fn.results = rs.toArray) (hn : fn.ntmps = n) (hl : ys.length <= n)
  (h : ∀ Γ : Cx, Γ.m = aos.length -> WP P Γ c (bodyQ (RetM P rs aos.length post)) (S n (enumA 0 ys) aos.length (enumO 0 aos))) : FnM P g ys aos post := by
 refine ⟨Spec.introR he hf hb (rs := rs) (by rw [hrs]) fun Γ hm => ?_⟩
 subst hn
 rw [List.length_map] at hm
 rw [tl_start _ _ hl]
 have hw := h Γ hm
 simp only [S, <- ol_enum] at hw
 refine WP.mono hw ?_
 have key : ∀ s, RetM P rs aos.length post s -> ∃ x y l t, resN P s rs = some x /\ ToR (aos.map some).length l ⟨[x], s.objs⟩ ⟨[y], t⟩ /\ ∃ os' : List AObj, t = os'.map some /\ os'.length = aos.length /\ y.bd 0 = true /\ post y os' := by
  rintro s ⟨x, is, os', h1, h2, h3, h4, h5⟩
  refine ⟨x, x, is, os'.map some, h1, ?_, os', rfl, h4, h2, h5⟩
  obtain ⟨_, g2, g3, g4, _, g6, g7⟩ := h3
  refine ⟨⟨.inr (ren_pure h2).symm, trivial⟩, g2, g3, by simpa using g4, ?_, g6, by simpa using g7⟩
  have := bdL_of0 (n := (os'.map some).length) (l := [x]) (by simp [bdL, h2])
  exact this
 intro e s hq
 cases e with
 | normal => exact key s hq
 | ret => exact key s hq
 | _ => exact hq
def upd (π : Nat -> Nat) : List Nat -> List AObj -> List (Nat × Option AObj) -> List (Nat × Option AObj)
 | i :: is, o :: os', os => upd π is os' ((i, some (o.ren π)) :: os)
 | _, _, os => os
theorem updO_ol {π : Nat -> Nat} : ∀ (is : List Nat) (os' : List AObj) (os : List (Nat × Option AObj)), is.length = os'.length -> updO π (ol M os) is (os'.map some) = ol M (upd π is os' os)
  | [], [], os, _ => by simp [updO, upd]
  | i :: is, o :: os', os, h => by
    simp only [List.map_cons, updO, Option.map_some, ol_set, upd]
    exact updO_ol is os' _ (by simpa using h)
  | [], _ :: _, _, h => by simp at h
  | _ :: _, [], _, h => by simp at h
theorem sc_v {aos : List AObj} {post : AV -> List AObj -> Prop} (is : List Nat) (hf : opq n l f = some (.clo (.func g) first cap)) (has : opqL n l args.toList = some as) (hspec : FnM P g ys aos post)
  (hL : Lend is (S n l M os) (first ++ as ++ cap) ys aos)
  (hk : ∀ r os', os'.length = aos.length -> post r os' -> asemC P ops rest (S n ((d, r) :: l) M (upd (apx M is) is os' os)) K) :
  asemC P ops (⟨some d, .call ⟨.value f, args, tys⟩, ty, pos, af, none⟩ :: rest) (S n l M os) K := by
 simp only [asemC]
 refine .inl ?_
 have hM : (S n l M os).objs.length = M := ol_length M os
 simp only [execA, opq_op hf, opqL_op has]
 refine Call.via is hspec.spec hL ?_
 rintro r _ ⟨os', rfl, hlen, hr, hp⟩
 have hil : is.length = aos.length := by have := wkRO_len hL.2.1; simpa using this.symm
 refine ⟨by simp [hlen], ?_, ?_⟩
 ·have := bdL_of0 (n := (os'.map some).length) (l := [r]) (by simp [bdL, hr])
  simpa [bdL] using this
 ·rw [ren_pure hr, hM]
  have e : (⟨(S n l M os).tmps, updO (apx M is) (S n l M os).objs is (os'.map some)⟩ : St) = S n l M (upd (apx M is) is os' os) := by
   simp only [S]; rw [updO_ol is os' os (by omega)]
  rw [e, S_put]
  exact hk r os' hlen hp
inductive RenL (π : Nat -> Nat) : List AV -> List AV -> Prop
 | nil : RenL π [] []
 | cons {x y : AV} {xs ys : List AV} (h : x = y.ren π) (t : RenL π xs ys) : RenL π (x :: xs) (y :: ys)
theorem RenL.wk {π : Nat -> Nat} {xs ys : List AV} (h : RenL π xs ys) : wkR π xs ys := by
 induction h with
 | nil => trivial
 | cons h _ ih => exact ⟨.inr h, ih⟩
theorem ren_p {π : Nat -> Nat} {x : AV} (h : x.bd 0 = true) : x = x.ren π := (ren_pure h).symm
inductive LendO (π : Nat -> Nat) (os : List (Nat × Option AObj)) : List Nat -> List AObj -> Prop
 | nil : LendO π os [] []
 | arr {i k : Nat} {es es' : List AV} {is : List Nat} {r : List AObj} (h : lkO i os = some (.arr k es)) (he : es = renL π es') (t : LendO π os is r) : LendO π os (i :: is) (.arr k es' :: r)
 | map {i : Nat} {m m' : List (Value × AV)} {is : List Nat} {r : List AObj} (h : lkO i os = some (.map m)) (he : m = m'.map fun p => (p.1, p.2.ren π)) (t : LendO π os is r) : LendO π os (i :: is) (.map m' :: r)
 | byt {i : Nat} {bs : List UInt8} {is : List Nat} {r : List AObj} (h : lkO i os = some (.bytes bs)) (t : LendO π os is r) : LendO π os (i :: is) (.bytes bs :: r)
 | bld {i : Nat} {T : TypeId} {x x' : AV} {is : List Nat} {r : List AObj} (h : lkO i os = some (.bld T x)) (he : x = x'.ren π) (t : LendO π os is r) : LendO π os (i :: is) (.bld T x' :: r)
 | lop {i : Nat} {c : LoopC} {ts ts' : List AV} {is : List Nat} {r : List AObj} (h : lkO i os = some (.lop c ts)) (he : ts = renL π ts') (t : LendO π os is r) : LendO π os (i :: is) (.lop c ts' :: r)
theorem LendO.wk {π : Nat -> Nat} {is : List Nat} {r : List AObj} (h : LendO π os is r) (hlt : (is.all fun i => Nat.blt i M) = true) : wkRO π (ol M os) is (r.map some) := by
 induction h with
 | nil => trivial
 | arr h he _ ih =>
  simp only [List.all_cons, Bool.and_eq_true] at hlt
  refine ⟨by rw [ol_length]; exact blt_of hlt.1, .inr ?_, ih hlt.2⟩
  rw [ol_get _ (blt_of hlt.1), h, he]; rfl
 | map h he _ ih =>
  simp only [List.all_cons, Bool.and_eq_true] at hlt
  refine ⟨by rw [ol_length]; exact blt_of hlt.1, .inr ?_, ih hlt.2⟩
  rw [ol_get _ (blt_of hlt.1), h, he]; rfl
 | byt h _ ih =>
  simp only [List.all_cons, Bool.and_eq_true] at hlt
  refine ⟨by rw [ol_length]; exact blt_of hlt.1, .inr ?_, ih hlt.2⟩
  rw [ol_get _ (blt_of hlt.1), h]; rfl
 | bld h he _ ih =>
  simp only [List.all_cons, Bool.and_eq_true] at hlt
  refine ⟨by rw [ol_length]; exact blt_of hlt.1, .inr ?_, ih hlt.2⟩
  rw [ol_get _ (blt_of hlt.1), h, he]; rfl
 | lop h he _ ih =>
  simp only [List.all_cons, Bool.and_eq_true] at hlt
  refine ⟨by rw [ol_length]; exact blt_of hlt.1, .inr ?_, ih hlt.2⟩
  rw [ol_get _ (blt_of hlt.1), h, he]; rfl
def bdOs (m : Nat) : List AObj -> Prop
 | [] => True
 | .arr _ es :: r => bdL m es = true /\ bdOs m r
 | .map mm :: r => (mm.all fun p => p.2.bd m) = true /\ bdOs m r
 | .bytes _ :: r => True /\ bdOs m r
 | .bld _ x :: r => x.bd m = true /\ bdOs m r
 | .lop _ ts :: r => bdL m ts = true /\ bdOs m r
 | .itr i _ _ :: r => decide (i < m) = true /\ bdOs m r
theorem bdO_of {m : Nat} : ∀ {r : List AObj}, bdOs m r -> bdO m (r.map some) = true
 | [], _ => rfl
 | .arr _ es :: r, h => by simp only [List.map_cons, bdO, Bool.and_eq_true]; exact ⟨h.1, bdO_of h.2⟩
 | .map mm :: r, h => by simp only [List.map_cons, bdO, Bool.and_eq_true]; exact ⟨h.1, bdO_of h.2⟩
 | .bytes _ :: r, h => by simp only [List.map_cons, bdO, Bool.and_eq_true]; exact ⟨trivial, bdO_of h.2⟩
 | .bld _ x :: r, h => by simp only [List.map_cons, bdO, Bool.and_eq_true]; exact ⟨h.1, bdO_of h.2⟩
 | .lop _ ts :: r, h => by simp only [List.map_cons, bdO, Bool.and_eq_true]; exact ⟨h.1, bdO_of h.2⟩
 | .itr _ _ _ :: r, h => by simp only [List.map_cons, bdO, Bool.and_eq_true]; exact ⟨h.1, bdO_of h.2⟩
theorem Lend.S {xs ys : List AV} {aos : List AObj} {is : List Nat} (h1 : RenL (ap is) xs ys) (h2 : LendO (ap is) os is aos) (hn : is.Nodup) (hlt : (is.all fun i => Nat.blt i M) = true) (h3 : bdL aos.length ys = true) (h4 : bdOs aos.length aos) : Lend is (Lg.S n l M os) xs ys aos :=
 ⟨h1.wk, h2.wk hlt, hn, h3, bdO_of h4⟩
theorem WP.label {Q : Exit -> St -> Prop} {s : St} {i : Nat} (h : Q .normal s) : WP P Γ (.label i) Q s := fun _ _ hs => wp_label ⟨s, h, hs⟩
def noGotoA (Q : Exit -> St -> Prop) : Exit -> St -> Prop
 | .goto _, _ => False
 | e, s => Q e s
theorem WP.scope {Q : Exit -> St -> Prop} {s : St} {c : Code} (h : WP P Γ c (noGotoA Q) s) : WP P Γ (.scope c) Q s := fun a w hs => by
 refine wp_scope_straight (wp_mono (h a w hs) ?_)
 rintro e a' w' ⟨s', h1, h2⟩
 cases e with
 | goto l => exact h1.elim
 | _ => exact ⟨s', h1, h2⟩
theorem ng_n {Q : Exit -> St -> Prop} {s : St} (h : Q .normal s) : noGotoA Q .normal s := h
theorem ng_r {Q : Exit -> St -> Prop} {s : St} (h : Q .ret s) : noGotoA Q .ret s := h
theorem ng_x {Q : Exit -> St -> Prop} {s : St} {i : Nat} (h : Q (.exit i) s) : noGotoA Q (.exit i) s := h
theorem Fn.of_same {vs : List Value} {v : Value} (he : enterable P g = true) (hat : atom v = true) (h : ∀ w, GW w -> Calls P g vs.toArray w fun e w' => e = .returned v /\ w' = w) : Fn P g (vs.map .val) (.val v) := by
 refine ⟨⟨he, fun Γ us _ hs => ?_⟩, rfl⟩
 obtain ⟨ρ, hs⟩ := hs
 have hu : us = vs.toArray := by
  have hl : us.size = vs.length := by have := hs.len; simpa using this
  apply Array.ext (by simpa using hl)
  intro i h1 h2
  have h3 : i < vs.length := by omega
  have := hs.tmp i (.val vs[i]) us[i] (by simp [h3]) (Array.getElem?_eq_getElem h1)
  simpa using this.val_eq
 subst hu
 refine (h Γ.w0 Γ.hG).mono ?_
 rintro e w' ⟨rfl, rfl⟩
 refine ⟨.val v, [], v, rfl, ⟨rfl, rfl⟩, ρ, hs.ext, rfl, fun i x u hx hu => ?_, hs.obj, hs.made, hs.bound, hs.own, hs.inj, hs.defers, hs.fr⟩
 cases i with
 | zero => simp at hx hu; subst hx hu; exact .val hat
 | succ i => simp at hx
theorem Fr.below (h : Fr Γ Γ.w0) {w' : World} (hb : Below Γ.w0.heap.size Γ.w0 w') : Fr Γ w' :=
 ⟨hb.size, hb.os, hb.tape, hb.output, fun b hlt _ => hb.block b hlt, fun b n hn => by have := csize_lt hn; unfold Lg.csize at *; rw [hb.block b this]; exact hn⟩
theorem Fn.clone {α : Type} {vf : α -> Value} {e : TypeId} {bytes : Nat} (he : enterable P g = true) (hat : ∀ x, atom (vf x) = true)
  (hnil : ∀ (c : Nat) (w : World), Calls P g #[.slice none 0 c] w fun e w' => e = .returned (.slice none 0 0) /\ w' = w)
  (hzero : ∀ (a : Addr) (c : Nat) (w : World), Calls P g #[.slice (some a) 0 c] w fun ee w' => ∃ v', ee = .returned v' /\ w'.ownsRow w.heap.size e 1 v' 0 [] /\ Below w.heap.size w w')
  (hsome : ∀ (b off n c : Nat) (news : List Value) (w : World), news.length = n -> n <= maxLen -> n * bytes <= 140737488355328 -> (∀ j u, news[j]? = some u -> w.cell? ⟨b, off + j, none⟩ = some u) -> (∀ u ∈ news, u.oneCell' = true) ->
   Calls P g #[.slice (some ⟨b, off, none⟩) n c] w fun ee w' => ∃ v', ee = .returned v' /\ w'.ownsRow w.heap.size e 1 v' n news /\ Below w.heap.size w w')
  (L : List α) (hbig : L.length * bytes <= 140737488355328) : Fn P g [.sl 1 (L.map fun x => .val (vf x))] (.sl 1 (L.map fun x => .val (vf x))) := by
 have hpure : (AV.sl 1 (L.map fun x => AV.val (vf x))).bd 0 = true := bdL_map (fun _ => rfl) L
 have hfl : flat (L.map fun x => AV.val (vf x)) = L.map fun x => AV.val (vf x) := flat_one (fun _ => rfl) L
 refine ⟨⟨he, fun Γ us hm hs => ?_⟩, hpure⟩
 obtain ⟨ρ, hs⟩ := hs
 have hl : us.size = 1 := hs.len
 obtain ⟨v, rfl⟩ : ∃ v, us = #[v] := ⟨us[0], by apply Array.ext (by simpa using hl); intro i h1 h2; simp at h2; subst h2; rfl⟩
 have hv := hs.tmp 0 _ v rfl rfl
 have fin : ∀ (w' : World) (v' : Value), Below Γ.w0.heap.size Γ.w0 w' -> RV (fun _ => False) (fun _ => none) (fun b => Γ.w0.heap.size <= b /\ b < w'.heap.size) w' (.sl 1 (L.map fun x => AV.val (vf x))) v' ->
   ∃ r objs' v, Ending.returned v' = .returned v /\ (r = AV.sl 1 (L.map fun x => AV.val (vf x)) /\ r.bd 0 = true) /\ SR Γ ⟨[r], objs'⟩ ⟨#[v], []⟩ w' := by
  intro w' v' hb hr
  refine ⟨_, [], v', rfl, ⟨rfl, hpure⟩, ρ, hs.ext, rfl, fun i x u hx hu => ?_, fun id o hl => by simp [St.live] at hl, fun id o hl => by simp [St.live] at hl, fun id hid => hs.bound id hid, fun id o b hl => by simp [St.live] at hl, fun i j o o' b hl => by simp [St.live] at hl, .nil (hs.defers.eq hm.2), hs.fr.below hb⟩
  cases i with
  | zero =>
   simp at hx hu; subst hx hu
   exact hr.mono (fun _ hA => hA.elim) (fun b hb' => ⟨⟨.inr hb'.1, hb'.2, fun id o hl => by simp [St.live] at hl⟩, rfl⟩) (fun _ _ hn => hn)
  | succ i => simp at hx
 have own : ∀ (w' : World) (v' : Value), w'.ownsRow Γ.w0.heap.size e 1 v' L.length (L.map vf) -> RV (fun _ => False) (fun _ => none) (fun b => Γ.w0.heap.size <= b /\ b < w'.heap.size) w' (.sl 1 (L.map fun x => AV.val (vf x))) v' := by
  rintro w' v' ⟨_, h | ⟨gb, cap, cur, rfl, hge, hblk, hle, hmx, hcs, htk⟩⟩
  ·obtain ⟨rfl, h0⟩ := h
   have : L = [] := List.eq_nil_of_length_eq_zero h0
   subst this; exact .nils
  ·have key : RV (fun _ => False) (fun _ => none) (fun b => Γ.w0.heap.size <= b /\ b < w'.heap.size) w' (.sl 1 (L.map fun x => AV.val (vf x))) (.slice (some ⟨gb, 0, none⟩) (L.map fun x => AV.val (vf x)).length cap) := by
    have hget : ∀ j (hj : j < L.length), cur[j]? = some (vf L[j]) := fun j hj => by
     have : (cur.toList.take (L.length * 1))[j]? = (L.map vf)[j]? := by rw [htk]
     rw [List.getElem?_take, if_pos (by omega)] at this
     simp only [Array.getElem?_toList, List.getElem?_map, List.getElem?_eq_getElem hj, Option.map_some] at this
     exact this
    refine .sl (fun j => cur.getD j undef) ⟨by simpa using hle, hmx⟩ ⟨hge, World.lt_of_block hblk⟩ (fun e he => by obtain ⟨x, _, rfl⟩ := List.mem_map.1 he; rfl) (fun j hj => ?_) (fun j hj => ?_) (fun j x hx => ?_)
    ·rw [hfl, List.length_map] at hj
     rw [Nat.zero_add, cell_of_block hblk, hget j hj]
     simp [Array.getD_eq_getD_getElem?, hget j hj]
    ·rw [hfl, List.length_map] at hj
     simp only [Array.getD_eq_getD_getElem?, hget j hj, Option.getD_some]; exact hat _
    ·rw [hfl] at hx
     have hj : j < L.length := by have := (List.getElem?_eq_some_iff.1 hx).1; simpa using this
     simp only [List.getElem?_map, List.getElem?_eq_getElem hj, Option.map_some, Option.some.injEq] at hx
     subst hx
     simp only [Array.getD_eq_getD_getElem?, hget j hj, Option.getD_some]; exact .val (hat _)
   rwa [List.length_map] at key
 generalize hE : (L.map fun x => AV.val (vf x)) = E at hv
 cases hv with
 | @nils _ a c =>
  have : L = [] := by simpa using hE
  subst this
  cases a with
  | none =>
   refine (hnil c Γ.w0).mono ?_
   rintro e w' ⟨rfl, rfl⟩
   exact fin _ _ (.refl _ _) .nils
  | some a =>
   refine (hzero a c Γ.w0).mono ?_
   rintro e w' ⟨v', rfl, ho, hb⟩
   exact fin _ _ hb (own w' v' ho)
 | @sl _ _ b o c f hn hI hk hc ha hr =>
  subst hE
  rw [hfl] at hc ha hr
  rw [List.length_map]
  refine (hsome b o L.length c (L.map vf) Γ.w0 (by simp) (by have := hn.1; have := hn.2; simp at *; omega) hbig (fun j u hj => ?_) (fun u hu => by obtain ⟨x, _, rfl⟩ := List.mem_map.1 hu; exact hat x)).mono ?_
  ·have hjl : j < L.length := by have := (List.getElem?_eq_some_iff.1 hj).1; simpa using this
   simp only [List.getElem?_map, List.getElem?_eq_getElem hjl, Option.map_some, Option.some.injEq] at hj
   subst hj
   rw [hc j (by simpa using hjl)]
   have := (hr j (.val (vf L[j])) (by simp [hjl])).val_eq
   rw [this]
  ·rintro e w' ⟨v', rfl, ho, hb⟩
   exact fin _ _ hb (own w' v' ho)
end
end Go.Lg
