/-
  Part 20 of the proof of TreeLiftStratifiedCard: the logic over the model, the functions' contracts and the plain laws.
-/
import Derived.Test.YtfaoljcgigkonabDoorTs19
import Derived.OrdersIn
set_option linter.unusedSimpArgs false
set_option linter.unusedVariables false
set_option linter.unusedSectionVars false
set_option linter.defProp false
set_option maxRecDepth 20000
set_option maxHeartbeats 4000000
namespace Go.Lg
open Go.RowKit
section
variable {P : Program} {Γ : Cx} {n M : Nat} {l : List (Nat × AV)} {os : List (Nat × Option AObj)} {Q : Exit -> St -> Prop}
theorem wp_mvr {c : Code} {id ido k len : Nat} {es : List AV} (hne : Nat.beq id ido = false) (hob : lookq M os ido = some (.arr 1 [.ref id k 0 len])) (ho : lookq M os id = some (.arr k es))
  (hw : WP P Γ c Q (S n l (M + 1) ((ido, some (.arr 1 [.ref M k 0 len])) :: (M, some (.arr k es)) :: (id, none) :: os))) : WP P Γ c Q (S n l M os) := fun a w hs => by
 refine hw a w ?_
 obtain ⟨ρ, hs⟩ := hs
 have hM : (S n l M os).objs.length = M := ol_length M os
 have look : ∀ {i : Nat} {o : AObj}, lookq M os i = some o -> (S n l M os).live i o := fun h => St.look_some.1 (by rw [S_look]; exact h)
 have hlt : ∀ {i : Nat} {o : AObj}, lookq M os i = some o -> i < M := fun h => by
  simp only [lookq] at h
  cases hb : Nat.blt _ M with
  | false => rw [hb] at h; simp at h
  | true => exact blt_of hb
 have hi := hlt ho
 have hio := hlt hob
 have hlo := look ho
 have hlob := look hob
 have hn0 : id ≠ ido := Nat.ne_of_beq_eq_false hne
 have h1 := hs.extend
 have hAM : ¬ (M < M) := Nat.lt_irrefl M
 rw [hM] at h1
 have hl1 : (S n l M os).ext.live id (.arr k es) := ext_live.2 hlo
 have h2 := h1.rename hl1 (nid := M) (by simp [St.ext, hM]) (fun e => hAM e)
 have hM1 : (S n l M os).ext.objs = ol (M + 1) ((M, none) :: os) := by
  simp only [St.ext, S, ol_push]
 have e1 : (((S n l M os).ext.set id none).set M (some (.arr k es))) = S n l (M + 1) ((M, some (.arr k es)) :: (id, none) :: (M, none) :: os) := by
  show St.mk _ _ = St.mk _ _
  simp only [St.set, hM1, ol_set]
  rfl
 rw [e1] at h2
 have hlk : (S n l (M + 1) ((M, some (.arr k es)) :: (id, none) :: (M, none) :: os)).live ido (.arr 1 [.ref id k 0 len]) := by
  rw [<- e1]
  have a1 : (S n l M os).ext.live ido (.arr 1 [.ref id k 0 len]) := ext_live.2 hlob
  simp only [St.live, St.set_objs] at a1 ⊢
  rw [List.getElem?_set_ne (by omega), List.getElem?_set_ne hn0]; exact a1
 have h3 := h2.recell hlk (es' := [.ref M k 0 len]) (by simp [flat, AV.cells]) (by simp [AV.cells]) (by simp) (fun j x y hx hy v hv => by
  simp only [flat, AV.cells, List.flatMap_cons, List.flatMap_nil, List.append_nil] at hx hy
  cases j with
  | zero =>
   simp only [List.getElem?_cons_zero] at hx hy
   injection hx with hx; subst hx
   injection hy with hy; subst hy
   have hne2 : id ≠ M := by omega
   cases hv with
   | ref hA hb hl hcs hm => exact .ref (.inr rfl) (by simp only [if_true]; rw [if_neg hne2] at hb; exact hb) hl hcs hm
   | refn hA hb => exact .refn (.inr rfl) (by simp only [if_true]; rw [if_neg hne2] at hb; exact hb)
  | succ j => simp at hx)
 have e2 : (S n l (M + 1) ((M, some (.arr k es)) :: (id, none) :: (M, none) :: os)).set ido (some (.arr 1 [.ref M k 0 len])) = S n l (M + 1) ((ido, some (.arr 1 [.ref M k 0 len])) :: (M, some (.arr k es)) :: (id, none) :: os) := by
  show St.mk _ _ = St.mk _ _
  have : ∀ os' : List (Nat × Option AObj), ol (M + 1) ((ido, some (AObj.arr 1 [.ref M k 0 len])) :: (M, some (.arr k es)) :: (id, none) :: (M, none) :: os') = ol (M + 1) ((ido, some (AObj.arr 1 [.ref M k 0 len])) :: (M, some (.arr k es)) :: (id, none) :: os') := by
   intro os'
   simp only [ol]
   apply List.map_congr_left
   intro i _
   simp only [lkO]
   by_cases q1 : i = ido
   ·subst q1; simp
   ·by_cases q2 : i = M
    ·subst q2; simp
    ·have : Nat.beq M i = false := by
      cases hb : Nat.beq M i with
      | false => rfl
      | true => exact absurd (Nat.eq_of_beq_eq_true hb).symm q2
     simp [this]
  simp only [S, St.set, ol_set]
  rw [this]
 rw [e2] at h3
 refine ⟨_, h3.more (fun i hi => ?_) (fun i hi => hi)⟩
 have : (S n l (M + 1) ((ido, some (.arr 1 [.ref M k 0 len])) :: (M, some (.arr k es)) :: (id, none) :: os)).objs.length = M + 1 := ol_length _ _
 rw [this]
 rcases hi with hi | rfl
 ·exact Nat.lt_succ_of_lt hi
 ·exact Nat.lt_succ_self _
theorem wp_nilr {c : Code} (ido k : Nat) (hob : lookq M os ido = some (.arr 1 [.val (.slice none 0 0)]))
  (hw : WP P Γ c Q (S n l (M + 1) ((ido, some (.arr 1 [.ref M k 0 0])) :: (M, some (.arr k [])) :: os))) : WP P Γ c Q (S n l M os) := fun a w hs => by
 refine hw a w ?_
 obtain ⟨ρ, hs⟩ := hs
 have hM : (S n l M os).objs.length = M := ol_length M os
 have hlt : ido < M := by
  simp only [lookq] at hob
  cases hb : Nat.blt ido M with
  | false => rw [hb] at hob; simp at hob
  | true => exact blt_of hb
 have hlook := St.look_some.1 (by rw [S_look]; exact hob : (S n l M os).look ido = some (.arr 1 [.val (.slice none 0 0)]))
 have h1 := hs.nil' k
 have hob' : St.live { S n l M os with objs := (S n l M os).objs ++ [some (AObj.arr k [])] } ido (.arr 1 [.val (.slice none 0 0)]) := by
  simp only [St.live] at hlook ⊢
  rw [List.getElem?_append_left (by rw [hM]; exact hlt)]; exact hlook
 have h2 := h1.recell hob' (es' := [.ref M k 0 0]) (by simp [flat, AV.cells]) (by simp [AV.cells]) (by simp) (fun j x y hx hy v hv => by
  simp only [flat, AV.cells, List.flatMap_cons, List.flatMap_nil, List.append_nil] at hx hy
  cases j with
  | zero =>
   simp only [List.getElem?_cons_zero] at hx hy
   injection hx with hx; subst hx
   injection hy with hy; subst hy
   rw [hv.val_eq]
   exact .refn (by simp [hM]) (by simp [hM])
  | succ j => simp at hx)
 refine ⟨fun i => if i = (S n l M os).objs.length then none else ρ i, ?_⟩
 have e : (St.set { S n l M os with objs := (S n l M os).objs ++ [some (AObj.arr k [])] } ido (some (.arr 1 [.ref M k 0 0]))) = S n l (M + 1) ((ido, some (.arr 1 [.ref M k 0 0])) :: (M, some (.arr k [])) :: os) := by simp [S, St.set, ol_set, ol_push]
 rw [e] at h2
 simpa [S, ol_length] using h2
theorem runD_mono {ops : Array Oper} {N : Nat} {K K' : List Rec -> St -> Prop} (hk : ∀ rs s, K rs s -> K' rs s) : ∀ {L : List Oper} {i : Nat} {s : St} {rs : List Rec}, RunD P ops N i L s rs K -> RunD P ops N i L s rs K'
 | [], _, _, _, h => hk _ _ h
 | _ :: _, _, _, _, ⟨out, s', h1, h2⟩ => ⟨out, s', h1, runD_mono hk h2⟩
theorem any_fw {r : Option Nat} {ops : Array Oper} {md : Region.Mode} {Q1 Q2 : Exit -> Act -> World -> Prop} (hd : ∀ (i : Nat) (o : Oper), ops[i]? = some o -> ∀ c, o.op ≠ .defer c) (hlo : ¬ LetsOut Q1) (hq : ∀ e a w, Q1 e a w -> Q2 e a w) :
  ∀ (fuel : Nat) (listed : Array Bool) (a : Act) (w : World), wpAny P md ops Q1 fuel listed a w -> wpAnyIn (FW r) 0 P md ops Q2 fuel listed a w
 | 0, listed, a, w, h => ⟨h.1, hq _ _ _ h.2⟩
 | fuel + 1, listed, a, w, h => ⟨fun h0 => hq _ _ _ (h.1 h0), fun i hi => by
   have h := h.2 i hi
   unfold wpOp at h
   unfold wpOpIn
   cases ho : ops[i]? with
   | none =>
    rw [ho] at h
    exact any_fw hd hlo hq fuel _ _ _ h
   | some o =>
    rw [ho] at h
    simp only at h ⊢
    split
    ·rename_i hw
     rw [if_pos hw] at h
     rcases h with h | ⟨_, h⟩
     ·exact op_fw (.inr (hd i o ho)) h (fun a w h => any_fw hd hlo hq fuel _ _ _ h) (fun e a w _ h => hq e a w h)
     ·exact absurd h hlo
    ·rename_i hw
     rw [if_neg hw] at h
     exact ⟨fun _ _ => trivial, any_fw hd hlo hq fuel _ _ _ h⟩⟩
theorem nodeferA {l : List Oper} (h : (l.all fun o => match o.op with | .defer _ => false | _ => true) = true) : ∀ (i : Nat) (o : Oper), l.toArray[i]? = some o -> ∀ c, o.op ≠ .defer c := fun i o ho => nodefer h o (by simpa using List.mem_of_getElem? (by simpa using ho))
theorem wpi_draw {id q : Nat} {l' : List Oper} (k : Nat) (hd : (l'.all fun o => match o.op with | .defer _ => false | _ => true) = true) (hm : P.follows .mixedOrders = true) (he : edgeOk l'.toArray = true) (hcl : closeOk l'.toArray = true) (hk : l'.length = k)
  (h : RunD P l'.toArray M 0 l' (S n l (M + k) ((List.range k).map (fun i => (M + i, (none : Option AObj))) ++ os)) [] fun rs s' => freeOk l'.toArray rs = true /\ Q .normal s') : WPI P Γ q (.region id l'.toArray true) Q (S n l M os) := fun a w hs => by
 have hM : (S n l M os).objs.length = M := ol_length M os
 have h' := draw_any (Γ := Γ) (Q := fun e s' => e = .normal /\ Q .normal s') (s := S n l M os) (l := l') he hcl (by rw [hM, hk, S_more]; exact runD_mono (fun rs s' h => ⟨h.1, rfl, h.2⟩) h) a w hs
 refine wpIn_region_any hm (any_fw (nodeferA hd) ?_ ?_ _ _ _ _ h')
 ·rintro ⟨_, _, s', ⟨h, _⟩, _⟩; cases h
 ·rintro e a w ⟨s', ⟨rfl, h⟩, hs⟩; exact ⟨s', h, hs⟩
end
section
variable {P : Program} {Γ : Cx} {n M : Nat} {l : List (Nat × AV)} {os : List (Nat × Option AObj)} {Q : Exit -> St -> Prop}
def nzL : List AV -> List AV -> Prop
 | [], [] => True
 | x :: xs, y :: ys => (x = y \/ (x = .val (.slice none 0 0) /\ ∃ k, y = .sl k [])) /\ nzL xs ys
 | _, _ => False
theorem nzL_len : ∀ {xs ys : List AV}, nzL xs ys -> ys.length = xs.length
 | [], [], _ => rfl
 | _ :: _, _ :: _, h => by simp [nzL_len h.2]
 | [], _ :: _, h => h.elim
 | _ :: _, [], h => h.elim
theorem nzL_get : ∀ {xs ys : List AV}, nzL xs ys -> ∀ (j : Nat) x y, xs[j]? = some x -> ys[j]? = some y -> x = y \/ (x = .val (.slice none 0 0) /\ ∃ k, y = .sl k [])
 | _ :: _, _ :: _, h, 0, x, y, hx, hy => by simp at hx hy; subst hx hy; exact h.1
 | _ :: _, _ :: _, h, j + 1, x, y, hx, hy => nzL_get h.2 j x y (by simpa using hx) (by simpa using hy)
 | [], _, _, _, _, _, hx, _ => by simp at hx
 | _ :: _, [], h, _, _, _, _, _ => h.elim
theorem wp_lastw {c : Code} (id : Nat) {k : Nat} {A : List AV} {x : AV} (y : AV) (ho : lookq M os id = some (.arr k (A ++ [x]))) (hz : nzL x.cells y.cells)
  (hw : WP P Γ c Q (S n l M ((id, some (.arr k (A ++ [y]))) :: os))) : WP P Γ c Q (S n l M os) := fun a w hs => by
 refine hw a w ?_
 obtain ⟨ρ, hs⟩ := hs
 have hlook := St.look_some.1 (by rw [S_look]; exact ho : (S n l M os).look id = some (.arr k (A ++ [x])))
 have hwide : ∀ e, e ∈ A ++ [x] -> e.cells.length = k := by
  have := hs.obj id _ hlook
  cases hr : ρ id with
  | none => rw [hr] at this; obtain ⟨_, h2⟩ := this.resolve_left (by simp); simp at h2
  | some b => rw [hr] at this; obtain ⟨_, _, _, _, h3, _⟩ := this; exact h3
 have hlen : y.cells.length = x.cells.length := by simpa using nzL_len hz
 have h2 := hs.recell hlook (es' := A ++ [y]) (by simp [flat, hlen]) (fun e he => by
  rcases List.mem_append.1 he with he | he
  ·exact hwide e (List.mem_append_left _ he)
  ·rw [List.mem_singleton.1 he, hlen]; exact hwide x (by simp)) (by simp) (fun j u v hu hv z hzv => by
  simp only [flat, List.flatMap_append, List.flatMap_cons, List.flatMap_nil, List.append_nil] at hu hv
  rw [List.getElem?_append] at hu hv
  split at hu
  ·rename_i hj
   rw [if_pos hj, hu] at hv
   injection hv with hv; subst hv; exact hzv
  ·rename_i hj
   rw [if_neg hj] at hv
   rcases nzL_get hz _ _ _ (by simpa using hu) (by simpa using hv) with rfl | ⟨rfl, k2, rfl⟩
   ·exact hzv
   ·rw [hzv.val_eq]; exact .nils)
 have e : (St.set (S n l M os) id (some (.arr k (A ++ [y])))) = S n l M ((id, some (.arr k (A ++ [y]))) :: os) := by simp [S, St.set, ol_set]
 rw [e] at h2
 exact ⟨ρ, by simpa [S, ol_length] using h2⟩
end
end Go.Lg
namespace Go.Lg
def jT := @go_p
def jU := @bl_p
def jX := @wpl_end
open Go.Proofs
attribute [local irreducible] Ap Rq asemC WP RunD Ret Gq thenA inBlockA bodyQ noGotoA RqL RqP OpP
attribute [local simp] AV.cells rdT
theorem FnP.okC {g : Gram} {s : ByteArray} {pr : List Bool} {p : PT Tre} {f : FuncId} {ys : List AV} {os : List AObj} {t : Tre} {a : Nat} (h : FnP Tryd.prog f ys os (resC g s pr p)) (hp : p = .ok t a) :
  FnO Tryd.prog f ys os (rawA t) [some (.arr 7 [.agg [strsA g.terms, strsA g.nonterms, intA g.start, rulesA g.rules, strA s, intA a, boolsA pr]])] := by subst hp; exact h
theorem FnP.dieC {g : Gram} {s : ByteArray} {pr : List Bool} {p : PT Tre} {f : FuncId} {ys : List AV} {os : List AObj} {e : Nat} (h : FnP Tryd.prog f ys os (resC g s pr p)) (hp : p = .err e) : FnX Tryd.prog f ys os (synY e) := by subst hp; exact h
theorem choose1_fn (g : Gram) (s : ByteArray) (a : Nat) (pr : List Bool) (tm : ByteArray) (f : UInt8) (t : Tre) (hs : s.size <= 1000000) (ha : a <= 1000000) (hl : tm.size <= 1000) :
  FnP Tryd.prog 52 [.ptr 0 7 0 0, .sl 4 [.agg [strA (tm ++ ⟨#[f]⟩), intA t.rule, intA t.term, .val (.slice none 0 0)]]] [.arr 7 [.agg [strsA g.terms, strsA g.nonterms, intA g.start, rulesA g.rules, strA s, intA a, boolsA pr]]] (resC g s pr (chooseT ((bl s).drop a) a [(bl tm ++ [f], t)] 0)) := by
 have h := choose_fn g s a pr [(bl tm ++ [f], t)] hs ha (fun c hc => by
  rw [List.mem_singleton.1 hc]
  simp only [List.length_append, List.length_cons, List.length_nil, bl_len]
  omega)
 have e : tx (bl tm ++ [f]) = tm ++ ⟨#[f]⟩ := by apply bl_injY; rw [bl_tx, bl_app]; rfl
 have e2 : chsA [(bl tm ++ [f], t)] = .sl 4 [.agg [strA (tm ++ ⟨#[f]⟩), intA t.rule, intA t.term, .val (.slice none 0 0)]] := by
  unfold chsA choA
  simp only [List.map_cons, List.map_nil]
  rw [e]
 rw [e2] at h
 exact h
theorem choose1_ge {r : Tx} {a : Nat} {u : Tx} {t t' : Tre} {a' : Nat} (h : chooseT r a [(u, t)] 0 = .ok t' a') : t' = t /\ a' = a + u.length /\ u <+: r := by
 simp only [chooseT] at h
 split at h
 ·rename_i hl
  injection h with h1 h2
  exact ⟨h1.symm, h2.symm, (lcp_full _ _).1 hl⟩
 ·cases h
theorem choose0_fn (g : Gram) (s : ByteArray) (a : Nat) (pr : List Bool) (f : UInt8) (hs : s.size <= 1000000) (ha : a <= 1000000) :
  FnP Tryd.prog 52 [.ptr 0 7 0 0, .sl 4 [.agg [strA ⟨#[f]⟩, intA 0, intA 0, .val (.slice none 0 0)]]] [.arr 7 [.agg [strsA g.terms, strsA g.nonterms, intA g.start, rulesA g.rules, strA s, intA a, boolsA pr]]] (resC g s pr (chooseT ((bl s).drop a) a [([f], .mk 0 0 [])] 0)) :=
 choose_fn g s a pr [([f], .mk 0 0 [])] hs ha (fun c hc => by rw [List.mem_singleton.1 hc]; simp)
theorem choose_ok {r : Tx} {a : Nat} {t : Tre} {a1 : Nat} : ∀ {l : List (Tx × Tre)} {b : Nat}, chooseT r a l b = .ok t a1 -> ∃ c, c ∈ l /\ t = c.2 /\ a1 = a + c.1.length /\ c.1 <+: r
  | [], b, h => by simp [chooseT] at h
  | c :: l, b, h => by
    rw [chooseT] at h
    split at h
    · rename_i hl
      injection h with h1 h2
      exact ⟨c, by simp, h1.symm, h2.symm, (lcp_full _ _).1 hl⟩
    · obtain ⟨d, h1, h2⟩ := choose_ok h
      exact ⟨d, by simp [h1], h2⟩
theorem choose_le {s : Tx} {a : Nat} {l : List (Tx × Tre)} {b : Nat} {t : Tre} {a1 : Nat} (ha : a <= s.length) (h : chooseT (s.drop a) a l b = .ok t a1) : a <= a1 /\ a1 <= s.length := by
 obtain ⟨c, _, _, h1, h2⟩ := choose_ok h
 have := h2.length_le
 rw [List.length_drop] at this
 omega
theorem kids_le (g : Gram) (pr : List Bool) (s : Tx) : ∀ (k i a : Nat) (t : Tre) (a' : Nat), a <= s.length -> kidsT g pr s k i a = .ok t a' -> a <= a' /\ a' <= s.length := by
 intro k
 induction k with
 | zero => intro i a t a' _ h; simp [kidsT] at h
 | succ k ih =>
  intro i a t a' ha h
  have hsym : ∀ (x : Int) (f : Tx) (a : Nat) (t : Tre) (a' : Nat), a <= s.length -> symT (kidsT g pr s k) g pr s x f a = .ok t a' -> a <= a' /\ a' <= s.length := by
   intro x f a t a' ha h
   unfold symT at h
   split at h
   ·exact choose_le ha h
   ·cases h1 : chooseT (s.drop a) a (chR g pr (-1 - x) g.rules.length) 0 with
    | err e => rw [h1] at h; cases h
    | ok t1 a1 =>
     rw [h1] at h
     simp only at h
     have l1 := choose_le ha h1
     cases h2 : kidsT g pr s k t1.rule.toNat a1 with
     | err e => rw [h2] at h; cases h
     | ok t2 a2 =>
      rw [h2] at h
      simp only at h
      have l2 := ih _ _ _ _ l1.2 h2
      cases h3 : chooseT (s.drop a2) a2 [(f, .mk 0 0 [])] 0 with
      | err e => rw [h3] at h; cases h
      | ok t3 a3 =>
       rw [h3] at h
       simp only at h
       have l3 := choose_le l2.2 h3
       injection h with _ h
       omega
  have hbody : ∀ (l : List Int) (a : Nat) (ks ks' : List Tre) (a' : Nat), a <= s.length -> bodyT (kidsT g pr s k) g pr s l a ks = .ok ks' a' -> a <= a' /\ a' <= s.length := by
   intro l
   induction l with
   | nil => intro a ks ks' a' ha h; rw [bodyT] at h; injection h with _ h; omega
   | cons x l ihl =>
    intro a ks ks' a' ha h
    rw [bodyT] at h
    cases h1 : symT (kidsT g pr s k) g pr s x (folT l.isEmpty) a with
    | err e => rw [h1] at h; cases h
    | ok t1 a1 =>
     rw [h1] at h
     have l1 := hsym _ _ _ _ _ ha h1
     have l2 := ihl _ _ _ _ l1.2 h
     omega
  rw [kidsT] at h
  cases h1 : bodyT (kidsT g pr s k) g pr s (nth g.rules i).body a [] with
  | err e => rw [h1] at h; cases h
  | ok ks a1 =>
   rw [h1] at h
   injection h with _ h
   have := hbody _ _ _ _ _ ha h1
   omega
theorem ren_chsY (π : Nat -> Nat) (l : List (Tx × Tre)) : AV.ren π (chsA l) = chsA l := ren_pure (by simp)
theorem ren_treY (π : Nat -> Nat) (t : Tre) : AV.ren π (treA t) = treA t := ren_pure (by simp)
theorem kids_fn {g : Gram} (hv : GVal g) (hnt : ∀ x, x ∈ g.terms -> x.size <= 48) (hnm : ∀ x, x ∈ g.nonterms -> x.size <= 48) (s : ByteArray) (hs : s.size <= 100000) (pr : List Bool) (hpr : pr.length = g.nonterms.length) :
  ∀ (fuel i a : Nat), a <= s.size -> s.size - a < fuel -> i < g.rules.length -> FnP Tryd.prog 51 [.ptr 0 7 0 0, .agg [intA (i : Nat), intA 0, .val (.slice none 0 0)]] [rdT g s a pr] (resT g s pr (kidsT g pr (bl s) fuel i a)) := by
 intro fuel
 induction fuel with
 | zero => intro i a _ h; omega
 | succ k ih =>
  intro i a ha hk hi
  have hfine := resT_fine g s pr (kidsT g pr (bl s) (k + 1) i a)
  have hrf := hv.rule _ (nth_mem hi)
  have hbl := hrf.len
  have hr2 := hv.r2
  have hn2 := hv.n2
  have ht2 := hv.terms
  rw [kidsT] at hfine ⊢
  unfold rdT
  refine FnP.intro ?_ (by kernel_rfl) Tryd.func51 rfl rfl Tryd.ntmps51 (by exact nle rfl) ?_; rotate_left; intro Γ hm
  ·(repeat' (first | apply jA | apply jF | apply jH | (refine rgC 0 ?_; (refine se_box rfl (by exact ⟨rfl, rfl⟩) ?_); (refine se_alloc rfl ?_); apply jW) | (refine wp_draw (id := 1) 11 mixed (by kernel_rfl) (by kernel_rfl) rfl ?_ <;> (refine rmove rfl ?_) <;> (refine rnilc rfl ?_) <;> (refine rfieldp rfl rfl rfl ?_) <;> (refine rfieldp rfl rfl rfl ?_) <;> (refine rloadp rfl rfl rfl rfl ?_) <;> (refine rfieldp rfl rfl rfl ?_) <;> (refine rloadp rfl rfl rfl rfl ?_) <;> (refine rd_u rfl rfl (aidxn rfl rfl (by omega)) ?_) <;> (refine rd_u rfl rfl (afieldi rfl rfl rfl) ?_) <;> (refine rd_u rfl rfl (aloadi rfl rfl) ?_) <;> (refine rd_u rfl rfl (aassign rfl) ?_) <;> (refine rd_end (by kernel_rfl) ?_)) | (refine rgC 2 ?_; (refine smove rfl ?_); (refine slenm rfl rfl ?_); (refine smove rfl ?_); apply jW)))
   refine wp_nilo 1 2 3 rfl rfl ?_
   refine wp_loop (fun (x : Nat × Nat × List Tre) => x.1 <= (nth g.rules i).body.length /\ x.2.1 <= s.size /\ a <= x.2.1 /\ x.2.2.length = x.1 /\ bodyT (kidsT g pr (bl s) k) g pr (bl s) ((nth g.rules i).body.drop x.1) x.2.1 x.2.2 = bodyT (kidsT g pr (bl s) k) g pr (bl s) (nth g.rules i).body a []) (fun x => (nth g.rules i).body.length - x.1)
    (fun x => (S 77 [(0, .ptr 0 7 0 0), (3, .ptr 1 3 0 0), (4, .ptr 2 3 0 0), (5, intsA (nth g.rules i).body), (20, intsA (nth g.rules i).body), (21, intA ((nth g.rules i).body.length : Nat)), (22, intA (x.1 : Nat))] 4 [(0, some (.arr 7 [.agg [strsA g.terms, strsA g.nonterms, intA g.start, rulesA g.rules, strA s, intA x.2.1, boolsA pr]])), (1, some (.arr 3 [.agg [intA (i : Nat), intA 0, .ref 3 3 0 x.2.2.length]])), (2, some (.arr 3 [.agg [intA 0, intA 0, .val (.slice none 0 0)]])), (3, some (.arr 3 (x.2.2.map treA)))])) (0, a, []) ⟨[0, 1, 2, 14], ToR.S rfl (by repeat' (first | exact rt_nil | refine rt_t rfl rfl ?_ | refine rt_e rfl rfl ?_ | refine rt_p rfl rfl (by first | (simp [AV.bd, bdL, bdL_append]; done) | fail) ?_)) (by repeat' (first | exact ro_nil | refine ro_e rfl rfl ?_ | refine ro_p rfl (by first | exact rfl | fail) zq5 ?_)) rfl (by (rw [hm]; exact rfl)) rfl zq4 (by repeat' (first | exact True.intro | exact rfl | refine And.intro ?_ ?_ | (simp [bdOq, bdL, bdL_append, AV.bd]; done))) (by (rw [hm]; exact nle rfl))⟩ ⟨Nat.zero_le _, ha, Nat.le_refl _, rfl, rfl⟩ ?_
   rintro ⟨j, a', ks⟩ ⟨hj, ha', haa, hkl, hB⟩
   simp only at hj ha' haa hkl hB ⊢
   by_cases hlt : j < (nth g.rules i).body.length
   ·have hd : (nth g.rules i).body.drop j = nth (nth g.rules i).body j :: (nth g.rules i).body.drop (j + 1) := by rw [List.drop_eq_getElem_cons hlt, nth_eq hlt]
    have hxhi := hrf.hi _ (nth_mem hlt)
    have hxlo := hrf.lo _ (nth_mem hlt)
    have hlast : ((nth g.rules i).body.drop (j + 1)).isEmpty = decide (j + 1 = (nth g.rules i).body.length) := by
     rw [Bool.eq_iff_iff]
     simp only [List.isEmpty_iff, List.drop_eq_nil_iff, decide_eq_true_eq]
     omega
    rw [hd, bodyT, hlast] at hB
    by_cases hx : 0 <= nth (nth g.rules i).body j
    ·have htm : (nth (nth g.rules i).body j).toNat < g.terms.length := by omega
     have hts := hnt _ (nth_mem htm)
     by_cases hfin : j + 1 = (nth g.rules i).body.length
     ·skip
      rw [decide_eq_true hfin] at hB
      have hc1 := choose1_fn g s a' pr (nth g.terms (nth (nth g.rules i).body j).toNat) 41 (.mk (-1) (nth (nth g.rules i).body j) []) (by omega) (by omega) (by omega)
      have hsy : symT (kidsT g pr (bl s) k) g pr (bl s) (nth (nth g.rules i).body j) (folT true) a' = chooseT ((bl s).drop a') a' [(bl (nth g.terms (nth (nth g.rules i).body j).toNat) ++ [41], .mk (-1) (nth (nth g.rules i).body j) [])] 0 := by unfold symT; rw [if_pos hx]; rfl
      rw [hsy] at hB
      cases hq : chooseT ((bl s).drop a') a' [(bl (nth g.terms (nth (nth g.rules i).body j).toNat) ++ [41], .mk (-1) (nth (nth g.rules i).body j) [])] 0 with
      | err e =>
       have hX := hc1.dieC hq
       rw [hq] at hB
       simp only at hB
       rw [<- hB]
       (repeat' (first | apply jA | apply jF | apply jH | apply jI | apply jT | apply jU | (refine wp_cond rfl (fun hc => ?_) (fun hc => ?_) <;> (try simp only [sB, ne_eq, reduceCtorEq] at hc) <;> (try (exfalso; omega))) | (refine rgC 3 ?_; (refine slss rfl rfl ?_); apply jW) | (refine rgC 4 ?_; (refine smove rfl ?_); (refine sidxn rfl rfl (by omega) ?_); (refine sloadw rfl rfl ?_); (refine sassign rfl ?_); (refine sassign rfl ?_); apply jW) | (refine WP.regionC ?_; (refine sassign rfl ?_); apply jW) | (refine rgC 6 ?_; (refine smove rfl ?_); (refine smove rfl ?_); (refine slenm rfl rfl ?_); (refine su (asub rfl rfl (by exact inr_i64_of (by omega))) ?_); (refine seql rfl rfl ?_); apply jW) | (refine rgC 8 ?_; (refine smove rfl ?_); (refine su (ageq rfl rfl) ?_); apply jW) | (refine wpl_region (id := 9) ?_; (refine wpl_step rfl ?_; (refine smove rfl ?_); apply jW; (refine wpl_step rfl ?_; (refine smove rfl ?_); apply jW; (refine wpl_step rfl ?_; (refine snilc rfl ?_); apply jW; (refine wpl_step rfl ?_; (refine sfieldp rfl rfl rfl ?_); apply jW; (refine wpl_step rfl ?_; (refine sfieldp rfl rfl rfl ?_); apply jW; (refine wpl_step rfl ?_; (refine sloadp rfl rfl rfl rfl ?_); apply jW; (refine wpl_step rfl ?_; (refine smove rfl ?_); apply jW; (refine wpl_step rfl ?_; (refine su (aidxz rfl rfl (by omega)) ?_); apply jW; (refine wpl_step rfl ?_; (refine sloadw rfl rfl ?_); apply jW; (refine wpl_step rfl ?_; (refine smove rfl ?_); apply jW; (refine wpl_step rfl ?_; (refine su (acat rfl rfl (by (simp only [bsz, sZ] <;> omega))) ?_); apply jW; (refine wpl_step rfl ?_; (refine smove rfl ?_); apply jW; (refine wpl_step rfl ?_; (refine su (ap_build (RqP.cons (rq_p rfl rfl) (RqP.cons (rq_p rfl rfl) (RqP.nil))) rfl) ?_); apply jW; (refine wpl_step rfl ?_; (refine su (ap_build (RqP.cons (rq_p rfl rfl) (RqP.cons (rq_p rfl rfl) (RqP.nil))) rfl) ?_); apply jW; (refine wpl_step rfl ?_; (refine se_lit (OpP.cons rfl (OpP.nil)) rfl rfl rfl rfl rfl rfl ?_); apply jW; refine wpl_frzm 48 hm rfl rfl (by first | exact rfl | fail) (by first | exact rfl | fail) rfl rfl ?_; ((refine wpl_x [0] rfl rfl (hX) (Lend.S (by first | ((repeat' first | exact RenL.nil | refine RenL.cons rfl ?_); done) | fail) zq2 (by decide) rfl (by simp [AV.bd, bdL, bdL_append]) (by repeat' (first | exact True.intro | refine And.intro ?_ ?_ | simp [AV.bd, bdL, bdL_append]))) ?_))))))))))))))))))))
       all_goals exact bp_p rfl
      | ok t a1 =>
       have hO := hc1.okC hq
       obtain ⟨rfl, rfl, hpre⟩ := choose1_ge hq
       have hlen := hpre.length_le
       rw [List.length_drop, bl_len] at hlen
       have hlen0 : (bl (nth g.terms (nth (nth g.rules i).body j).toNat) ++ [41]).length = (nth g.terms (nth (nth g.rules i).body j).toNat).size + 1 := by rw [List.length_append, bl_len]; rfl
       rw [hq] at hB
       simp only at hB
       have hml : (ks ++ [Tre.mk (-1) (nth (nth g.rules i).body j) []]).length = (ks.map treA ++ [AV.agg [intA (-1), intA (nth (nth g.rules i).body j), .val (.slice none 0 0)]]).length := by simp
       have hmap : (ks ++ [Tre.mk (-1) (nth (nth g.rules i).body j) []]).map treA = ks.map treA ++ [.agg [intA (-1), intA (nth (nth g.rules i).body j), .sl 3 []]] := by rw [List.map_append]; rfl
       (repeat' (first | apply jA | apply jF | apply jH | apply jI | (refine wp_cond rfl (fun hc => ?_) (fun hc => ?_) <;> (try simp only [sB, ne_eq, reduceCtorEq] at hc) <;> (try (exfalso; omega))) | (refine rgC 3 ?_; (refine slss rfl rfl ?_); apply jW) | (refine rgC 4 ?_; (refine smove rfl ?_); (refine sidxn rfl rfl (by omega) ?_); (refine sloadw rfl rfl ?_); (refine sassign rfl ?_); (refine sassign rfl ?_); apply jW) | (refine WP.regionC ?_; (refine sassign rfl ?_); apply jW) | (refine rgC 6 ?_; (refine smove rfl ?_); (refine smove rfl ?_); (refine slenm rfl rfl ?_); (refine su (asub rfl rfl (by exact inr_i64_of (by omega))) ?_); (refine seql rfl rfl ?_); apply jW) | (refine rgC 8 ?_; (refine smove rfl ?_); (refine su (ageq rfl rfl) ?_); apply jW) | (refine wpl_region (id := 9) ?_; (refine wpl_step rfl ?_); (refine smove rfl ?_); (apply jW); (refine wpl_step rfl ?_); (refine smove rfl ?_); (apply jW); (refine wpl_step rfl ?_); (refine snilc rfl ?_); (apply jW); (refine wpl_step rfl ?_); (refine sfieldp rfl rfl rfl ?_); (apply jW); (refine wpl_step rfl ?_); (refine sfieldp rfl rfl rfl ?_); (apply jW); (refine wpl_step rfl ?_); (refine sloadp rfl rfl rfl rfl ?_); (apply jW); (refine wpl_step rfl ?_); (refine smove rfl ?_); (apply jW); (refine wpl_step rfl ?_); (refine su (aidxz rfl rfl (by omega)) ?_); (apply jW); (refine wpl_step rfl ?_); (refine sloadw rfl rfl ?_); (apply jW); (refine wpl_step rfl ?_); (refine smove rfl ?_); (apply jW); (refine wpl_step rfl ?_); (refine su (acat rfl rfl (by (simp only [bsz, sZ] <;> omega))) ?_); (apply jW); (refine wpl_step rfl ?_); (refine smove rfl ?_); (apply jW); (refine wpl_step rfl ?_); (refine su (ap_build (RqP.cons (rq_p rfl rfl) (RqP.cons (rq_p rfl rfl) (RqP.nil))) rfl) ?_); (apply jW); (refine wpl_step rfl ?_); (refine su (ap_build (RqP.cons (rq_p rfl rfl) (RqP.cons (rq_p rfl rfl) (RqP.nil))) rfl) ?_); (apply jW); (refine wpl_step rfl ?_); (refine se_lit (OpP.cons rfl (OpP.nil)) rfl rfl rfl rfl rfl rfl ?_); (apply jW); (refine wpl_frzm 48 hm rfl rfl (by first | exact rfl | fail) (by first | exact rfl | fail) rfl rfl ?_); (refine wpl_step rfl ?_); (refine sc_o [0] rfl rfl (hO) (Lend.S (by first | ((repeat' first | exact RenL.nil | refine RenL.cons rfl ?_); done) | fail) zq2 (by decide) rfl (by simp [AV.bd, bdL, bdL_append]) (by repeat' (first | exact True.intro | refine And.intro ?_ ?_ | simp [AV.bd, bdL, bdL_append]))) ?_; simp only [updN, newO, AObj.ren, renL, AV.ren, apx, ap, if_true, if_false, Nat.reduceLT, Nat.reduceAdd, Nat.reduceSub, sO, intA, boolA, strA, ren_rulesY, ren_boolsY]); (apply jW); (refine wpl_step rfl ?_); (refine se_alloc rfl ?_); (apply jW); (refine wpl_step rfl ?_); (refine se_store_b rfl rfl rfl rfl ?_); (apply jW); (apply jX))))
       (repeat' (first | apply jH | apply jJ | apply jL | apply jP | (refine rgC 10 ?_; (refine sfieldp rfl rfl rfl ?_); (refine sloadp rfl rfl rfl rfl ?_); (refine sloadpw rfl rfl rfl rfl ?_); (refine se_lit (OpP.cons rfl (OpP.nil)) rfl rfl rfl rfl rfl rfl ?_); (refine se_app rfl rfl rfl (by (simp; done)) rfl rfl rfl rfl (by (simp only [sL] <;> omega)) ?_); (refine sfieldp rfl rfl rfl ?_); (refine se_store_b rfl rfl rfl rfl ?_); apply jW)))
       refine wp_lastw 7 (A := ks.map treA) (x := .agg [intA (-1), intA (nth (nth g.rules i).body j), .val (.slice none 0 0)]) (.agg [intA (-1), intA (nth (nth g.rules i).body j), .sl 3 []]) rfl ⟨.inl rfl, .inl rfl, .inr ⟨rfl, 3, rfl⟩, trivial⟩ ?_
       (repeat' (first | apply jH | (refine rgC 13 ?_; (refine sadd rfl rfl (by exact inr_i64_of (by omega)) ?_); (refine smove rfl ?_); apply jW)))
       refine ⟨(j + 1, a' + (bl (nth g.terms (nth (nth g.rules i).body j).toNat) ++ [41]).length, ks ++ [Tre.mk (-1) (nth (nth g.rules i).body j) []]), ⟨by simp only; omega, by simp only; omega, by simp only; omega, by simp only; omega, by simp only [List.length_append, List.length_cons, List.length_nil]; omega, hB⟩, ?_⟩
       simp only
       rw [hml, hmap]
       exact ⟨[0, 1, 2, 7], ToR.S rfl (by repeat' (first | exact rt_nil | refine rt_t rfl rfl ?_ | refine rt_e rfl rfl ?_ | refine rt_p rfl rfl (by first | (simp [AV.bd, bdL, bdL_append]; done) | fail) ?_)) (by repeat' (first | exact ro_nil | refine ro_e rfl rfl ?_ | refine ro_p rfl (by first | exact rfl | fail) zq5 ?_)) rfl (by (rw [hm]; exact rfl)) rfl zq4 (by repeat' (first | exact True.intro | exact rfl | refine And.intro ?_ ?_ | (simp [bdOq, bdL, bdL_append, AV.bd]; done))) (by (rw [hm]; exact nle rfl))⟩
     ·skip
      rw [decide_eq_false hfin] at hB
      have hc1 := choose1_fn g s a' pr (nth g.terms (nth (nth g.rules i).body j).toNat) 32 (.mk (-1) (nth (nth g.rules i).body j) []) (by omega) (by omega) (by omega)
      have hsy : symT (kidsT g pr (bl s) k) g pr (bl s) (nth (nth g.rules i).body j) (folT false) a' = chooseT ((bl s).drop a') a' [(bl (nth g.terms (nth (nth g.rules i).body j).toNat) ++ [32], .mk (-1) (nth (nth g.rules i).body j) [])] 0 := by unfold symT; rw [if_pos hx]; rfl
      rw [hsy] at hB
      cases hq : chooseT ((bl s).drop a') a' [(bl (nth g.terms (nth (nth g.rules i).body j).toNat) ++ [32], .mk (-1) (nth (nth g.rules i).body j) [])] 0 with
      | err e =>
       have hX := hc1.dieC hq
       rw [hq] at hB
       simp only at hB
       rw [<- hB]
       (repeat' (first | apply jA | apply jF | apply jH | apply jI | apply jT | apply jU | (refine wp_cond rfl (fun hc => ?_) (fun hc => ?_) <;> (try simp only [sB, ne_eq, reduceCtorEq] at hc) <;> (try (exfalso; omega))) | (refine rgC 3 ?_; (refine slss rfl rfl ?_); apply jW) | (refine rgC 4 ?_; (refine smove rfl ?_); (refine sidxn rfl rfl (by omega) ?_); (refine sloadw rfl rfl ?_); (refine sassign rfl ?_); (refine sassign rfl ?_); apply jW) | (refine rgC 5 ?_; (refine sassign rfl ?_); apply jW) | (refine rgC 6 ?_; (refine smove rfl ?_); (refine smove rfl ?_); (refine slenm rfl rfl ?_); (refine su (asub rfl rfl (by exact inr_i64_of (by omega))) ?_); (refine seql rfl rfl ?_); apply jW) | (refine rgC 8 ?_; (refine smove rfl ?_); (refine su (ageq rfl rfl) ?_); apply jW) | (refine wpl_region (id := 9) ?_; (refine wpl_step rfl ?_; (refine smove rfl ?_); apply jW; (refine wpl_step rfl ?_; (refine smove rfl ?_); apply jW; (refine wpl_step rfl ?_; (refine snilc rfl ?_); apply jW; (refine wpl_step rfl ?_; (refine sfieldp rfl rfl rfl ?_); apply jW; (refine wpl_step rfl ?_; (refine sfieldp rfl rfl rfl ?_); apply jW; (refine wpl_step rfl ?_; (refine sloadp rfl rfl rfl rfl ?_); apply jW; (refine wpl_step rfl ?_; (refine smove rfl ?_); apply jW; (refine wpl_step rfl ?_; (refine su (aidxz rfl rfl (by omega)) ?_); apply jW; (refine wpl_step rfl ?_; (refine sloadw rfl rfl ?_); apply jW; (refine wpl_step rfl ?_; (refine smove rfl ?_); apply jW; (refine wpl_step rfl ?_; (refine su (acat rfl rfl (by (simp only [bsz, sZ] <;> omega))) ?_); apply jW; (refine wpl_step rfl ?_; (refine smove rfl ?_); apply jW; (refine wpl_step rfl ?_; (refine su (ap_build (RqP.cons (rq_p rfl rfl) (RqP.cons (rq_p rfl rfl) (RqP.nil))) rfl) ?_); apply jW; (refine wpl_step rfl ?_; (refine su (ap_build (RqP.cons (rq_p rfl rfl) (RqP.cons (rq_p rfl rfl) (RqP.nil))) rfl) ?_); apply jW; (refine wpl_step rfl ?_; (refine se_lit (OpP.cons rfl (OpP.nil)) rfl rfl rfl rfl rfl rfl ?_); apply jW; refine wpl_frzm 48 hm rfl rfl (by first | exact rfl | fail) (by first | exact rfl | fail) rfl rfl ?_; ((refine wpl_x [0] rfl rfl (hX) (Lend.S (by first | ((repeat' first | exact RenL.nil | refine RenL.cons rfl ?_); done) | fail) zq2 (by decide) rfl (by simp [AV.bd, bdL, bdL_append]) (by repeat' (first | exact True.intro | refine And.intro ?_ ?_ | simp [AV.bd, bdL, bdL_append]))) ?_))))))))))))))))))))
       all_goals exact bp_p rfl
      | ok t a1 =>
       have hO := hc1.okC hq
       obtain ⟨rfl, rfl, hpre⟩ := choose1_ge hq
       have hlen := hpre.length_le
       rw [List.length_drop, bl_len] at hlen
       have hlen0 : (bl (nth g.terms (nth (nth g.rules i).body j).toNat) ++ [32]).length = (nth g.terms (nth (nth g.rules i).body j).toNat).size + 1 := by rw [List.length_append, bl_len]; rfl
       rw [hq] at hB
       simp only at hB
       have hml : (ks ++ [Tre.mk (-1) (nth (nth g.rules i).body j) []]).length = (ks.map treA ++ [AV.agg [intA (-1), intA (nth (nth g.rules i).body j), .val (.slice none 0 0)]]).length := by simp
       have hmap : (ks ++ [Tre.mk (-1) (nth (nth g.rules i).body j) []]).map treA = ks.map treA ++ [.agg [intA (-1), intA (nth (nth g.rules i).body j), .sl 3 []]] := by rw [List.map_append]; rfl
       (repeat' (first | apply jA | apply jF | apply jH | apply jI | (refine wp_cond rfl (fun hc => ?_) (fun hc => ?_) <;> (try simp only [sB, ne_eq, reduceCtorEq] at hc) <;> (try (exfalso; omega))) | (refine rgC 3 ?_; (refine slss rfl rfl ?_); apply jW) | (refine rgC 4 ?_; (refine smove rfl ?_); (refine sidxn rfl rfl (by omega) ?_); (refine sloadw rfl rfl ?_); (refine sassign rfl ?_); (refine sassign rfl ?_); apply jW) | (refine rgC 5 ?_; (refine sassign rfl ?_); apply jW) | (refine rgC 6 ?_; (refine smove rfl ?_); (refine smove rfl ?_); (refine slenm rfl rfl ?_); (refine su (asub rfl rfl (by exact inr_i64_of (by omega))) ?_); (refine seql rfl rfl ?_); apply jW) | (refine rgC 8 ?_; (refine smove rfl ?_); (refine su (ageq rfl rfl) ?_); apply jW) | (refine wpl_region (id := 9) ?_; (refine wpl_step rfl ?_); (refine smove rfl ?_); (apply jW); (refine wpl_step rfl ?_); (refine smove rfl ?_); (apply jW); (refine wpl_step rfl ?_); (refine snilc rfl ?_); (apply jW); (refine wpl_step rfl ?_); (refine sfieldp rfl rfl rfl ?_); (apply jW); (refine wpl_step rfl ?_); (refine sfieldp rfl rfl rfl ?_); (apply jW); (refine wpl_step rfl ?_); (refine sloadp rfl rfl rfl rfl ?_); (apply jW); (refine wpl_step rfl ?_); (refine smove rfl ?_); (apply jW); (refine wpl_step rfl ?_); (refine su (aidxz rfl rfl (by omega)) ?_); (apply jW); (refine wpl_step rfl ?_); (refine sloadw rfl rfl ?_); (apply jW); (refine wpl_step rfl ?_); (refine smove rfl ?_); (apply jW); (refine wpl_step rfl ?_); (refine su (acat rfl rfl (by (simp only [bsz, sZ] <;> omega))) ?_); (apply jW); (refine wpl_step rfl ?_); (refine smove rfl ?_); (apply jW); (refine wpl_step rfl ?_); (refine su (ap_build (RqP.cons (rq_p rfl rfl) (RqP.cons (rq_p rfl rfl) (RqP.nil))) rfl) ?_); (apply jW); (refine wpl_step rfl ?_); (refine su (ap_build (RqP.cons (rq_p rfl rfl) (RqP.cons (rq_p rfl rfl) (RqP.nil))) rfl) ?_); (apply jW); (refine wpl_step rfl ?_); (refine se_lit (OpP.cons rfl (OpP.nil)) rfl rfl rfl rfl rfl rfl ?_); (apply jW); (refine wpl_frzm 48 hm rfl rfl (by first | exact rfl | fail) (by first | exact rfl | fail) rfl rfl ?_); (refine wpl_step rfl ?_); (refine sc_o [0] rfl rfl (hO) (Lend.S (by first | ((repeat' first | exact RenL.nil | refine RenL.cons rfl ?_); done) | fail) zq2 (by decide) rfl (by simp [AV.bd, bdL, bdL_append]) (by repeat' (first | exact True.intro | refine And.intro ?_ ?_ | simp [AV.bd, bdL, bdL_append]))) ?_; simp only [updN, newO, AObj.ren, renL, AV.ren, apx, ap, if_true, if_false, Nat.reduceLT, Nat.reduceAdd, Nat.reduceSub, sO, intA, boolA, strA, ren_rulesY, ren_boolsY]); (apply jW); (refine wpl_step rfl ?_); (refine se_alloc rfl ?_); (apply jW); (refine wpl_step rfl ?_); (refine se_store_b rfl rfl rfl rfl ?_); (apply jW); (apply jX))))
       (repeat' (first | apply jH | apply jJ | apply jL | apply jP | (refine rgC 10 ?_; (refine sfieldp rfl rfl rfl ?_); (refine sloadp rfl rfl rfl rfl ?_); (refine sloadpw rfl rfl rfl rfl ?_); (refine se_lit (OpP.cons rfl (OpP.nil)) rfl rfl rfl rfl rfl rfl ?_); (refine se_app rfl rfl rfl (by (simp; done)) rfl rfl rfl rfl (by (simp only [sL] <;> omega)) ?_); (refine sfieldp rfl rfl rfl ?_); (refine se_store_b rfl rfl rfl rfl ?_); apply jW)))
       refine wp_lastw 7 (A := ks.map treA) (x := .agg [intA (-1), intA (nth (nth g.rules i).body j), .val (.slice none 0 0)]) (.agg [intA (-1), intA (nth (nth g.rules i).body j), .sl 3 []]) rfl ⟨.inl rfl, .inl rfl, .inr ⟨rfl, 3, rfl⟩, trivial⟩ ?_
       (repeat' (first | apply jH | (refine rgC 13 ?_; (refine sadd rfl rfl (by exact inr_i64_of (by omega)) ?_); (refine smove rfl ?_); apply jW)))
       refine ⟨(j + 1, a' + (bl (nth g.terms (nth (nth g.rules i).body j).toNat) ++ [32]).length, ks ++ [Tre.mk (-1) (nth (nth g.rules i).body j) []]), ⟨by simp only; omega, by simp only; omega, by simp only; omega, by simp only; omega, by simp only [List.length_append, List.length_cons, List.length_nil]; omega, hB⟩, ?_⟩
       simp only
       rw [hml, hmap]
       exact ⟨[0, 1, 2, 7], ToR.S rfl (by repeat' (first | exact rt_nil | refine rt_t rfl rfl ?_ | refine rt_e rfl rfl ?_ | refine rt_p rfl rfl (by first | (simp [AV.bd, bdL, bdL_append]; done) | fail) ?_)) (by repeat' (first | exact ro_nil | refine ro_e rfl rfl ?_ | refine ro_p rfl (by first | exact rfl | fail) zq5 ?_)) rfl (by (rw [hm]; exact rfl)) rfl zq4 (by repeat' (first | exact True.intro | exact rfl | refine And.intro ?_ ?_ | (simp [bdOq, bdL, bdL_append, AV.bd]; done))) (by (rw [hm]; exact nle rfl))⟩
    ·have hx' : nth (nth g.rules i).body j < 0 := by omega
     have hru := rules_fn hv hnm s a' pr hpr (-1 - nth (nth g.rules i).body j) (by omega) (by omega)
     have hchl : ∀ c, c ∈ chR g pr (-1 - nth (nth g.rules i).body j) g.rules.length -> c.1.length <= 1000000 := fun c hc => by
      obtain ⟨q, hq, _, _, rfl⟩ := mem_chR.1 hc
      have hrq := hv.rule _ (nth_mem hq)
      have h0 := hrq.h0
      have h1 := hrq.hn
      have := label_len g q (by rw [bl_len]; exact hnm _ (nth_mem (by omega))) (by omega)
      rw [ch_eq, folT_is]
      simp only [List.length_append, List.length_cons, List.length_nil]
      omega
     have hcc := choose_fn g s a' pr (chR g pr (-1 - nth (nth g.rules i).body j) g.rules.length) (by omega) (by omega) hchl
     unfold rdT at hru hcc
     rw [symT, if_neg hx] at hB
     cases hq1 : chooseT ((bl s).drop a') a' (chR g pr (-1 - nth (nth g.rules i).body j) g.rules.length) 0 with
     | err e =>
      have hX := hcc.dieC hq1
      rw [hq1] at hB
      simp only at hB
      rw [<- hB]
      (repeat' (first | apply jA | apply jF | apply jH | apply jI | apply jT | apply jU | (refine wp_cond rfl (fun hc => ?_) (fun hc => ?_) <;> (try simp only [sB, ne_eq, reduceCtorEq] at hc) <;> (try (exfalso; omega))) | (refine rgC 3 ?_; (refine slss rfl rfl ?_); apply jW) | (refine rgC 4 ?_; (refine smove rfl ?_); (refine sidxn rfl rfl (by omega) ?_); (refine sloadw rfl rfl ?_); (refine sassign rfl ?_); (refine sassign rfl ?_); apply jW) | (refine WP.regionC ?_; (refine sassign rfl ?_); apply jW) | (refine rgC 6 ?_; (refine smove rfl ?_); (refine smove rfl ?_); (refine slenm rfl rfl ?_); (refine su (asub rfl rfl (by exact inr_i64_of (by omega))) ?_); (refine seql rfl rfl ?_); apply jW) | (refine rgC 8 ?_; (refine smove rfl ?_); (refine su (ageq rfl rfl) ?_); apply jW) | (refine wp_tree (id := 11) 14 mixed rfl ?_ <;> (refine wpt_take 0 rfl (by exact still_fieldAddr rfl rfl) (by exact ap_field_p (rq_p rfl rfl) rfl rfl) (by kernel_rfl) (by kernel_rfl) (by kernel_rfl) (by repeat (first | exact pind_p | apply pind_then | apply pind_block)) ?_; (refine wpt_take 2 rfl still_move (by exact ap_move (rq_p rfl rfl)) (by kernel_rfl) (by kernel_rfl) (by kernel_rfl) (by repeat (first | exact pind_p | apply pind_then | apply pind_block)) ?_; (refine wpt_take 3 rfl still_move (by exact ap_move (rq_p rfl rfl)) (by kernel_rfl) (by kernel_rfl) (by kernel_rfl) (by repeat (first | exact pind_p | apply pind_then | apply pind_block)) ?_; (refine wpt_take 4 rfl still_move (by exact ap_move (rq_p rfl rfl)) (by kernel_rfl) (by kernel_rfl) (by kernel_rfl) (by repeat (first | exact pind_p | apply pind_then | apply pind_block)) ?_; (refine wpt_take 5 rfl still_move (by exact ap_move (rq_p rfl rfl)) (by kernel_rfl) (by kernel_rfl) (by kernel_rfl) (by repeat (first | exact pind_p | apply pind_then | apply pind_block)) ?_; (refine wpt_all (rs := [1, 6]) (by kernel_rfl) rfl ⟨?_, ?_, trivial⟩ <;> (first | (refine wpo_do (i := 1) rfl rfl ?_; (refine sloadp rfl rfl rfl rfl ?_); apply jW; (refine wpt_all (rs := [6]) (by kernel_rfl) rfl ⟨?_, trivial⟩; (refine wpo_do (i := 6) rfl rfl ?_; (refine su (asub rfl rfl (by exact inr_i64_of (by omega))) ?_); apply jW; (refine wpt_all (rs := [7]) (by kernel_rfl) rfl ⟨?_, trivial⟩; ((refine wpo_do (i := 7) rfl rfl ?_; (refine sc_o [0] rfl rfl (hru) (Lend.S (by first | ((repeat' first | exact RenL.nil | refine RenL.cons rfl ?_); done) | fail) zq2 (by decide) rfl (by simp [AV.bd, bdL, bdL_append]) (by repeat' (first | exact True.intro | refine And.intro ?_ ?_ | simp [AV.bd, bdL, bdL_append]))) ?_; simp only [updN, newO, AObj.ren, renL, AV.ren, apx, ap, if_true, if_false, Nat.reduceLT, Nat.reduceAdd, Nat.reduceSub, sO, intA, boolA, strA, ren_rulesY, ren_boolsY, ren_chsY]); apply jW; (refine wpt_all (rs := [8]) (by kernel_rfl) rfl ⟨?_, trivial⟩; ((refine wpo_x (i := 8) [0] rfl rfl rfl (hX) (Lend.S (by first | ((repeat' first | exact RenL.nil | refine RenL.cons (by first | exact rfl | exact ren_p (by simp [AV.bd, bdL, bdL_append])) ?_); done) | fail) zq2 (by decide) rfl (by simp [AV.bd, bdL, bdL_append]) (by repeat' (first | exact True.intro | refine And.intro ?_ ?_ | simp [AV.bd, bdL, bdL_append]))) ?_))))))))) | (refine wpo_do (i := 6) rfl rfl ?_; (refine su (asub rfl rfl (by exact inr_i64_of (by omega))) ?_); apply jW; (refine wpt_all (rs := [1, 7]) (by kernel_rfl) rfl ⟨?_, ?_, trivial⟩ <;> (first | (refine wpo_do (i := 1) rfl rfl ?_; (refine sloadp rfl rfl rfl rfl ?_); apply jW; (refine wpt_all (rs := [7]) (by kernel_rfl) rfl ⟨?_, trivial⟩; ((refine wpo_do (i := 7) rfl rfl ?_; (refine sc_o [0] rfl rfl (hru) (Lend.S (by first | ((repeat' first | exact RenL.nil | refine RenL.cons rfl ?_); done) | fail) zq2 (by decide) rfl (by simp [AV.bd, bdL, bdL_append]) (by repeat' (first | exact True.intro | refine And.intro ?_ ?_ | simp [AV.bd, bdL, bdL_append]))) ?_; simp only [updN, newO, AObj.ren, renL, AV.ren, apx, ap, if_true, if_false, Nat.reduceLT, Nat.reduceAdd, Nat.reduceSub, sO, intA, boolA, strA, ren_rulesY, ren_boolsY, ren_chsY]); apply jW; (refine wpt_all (rs := [8]) (by kernel_rfl) rfl ⟨?_, trivial⟩; ((refine wpo_x (i := 8) [0] rfl rfl rfl (hX) (Lend.S (by first | ((repeat' first | exact RenL.nil | refine RenL.cons (by first | exact rfl | exact ren_p (by simp [AV.bd, bdL, bdL_append])) ?_); done) | fail) zq2 (by decide) rfl (by simp [AV.bd, bdL, bdL_append]) (by repeat' (first | exact True.intro | refine And.intro ?_ ?_ | simp [AV.bd, bdL, bdL_append]))) ?_))))))) | ((refine wpo_do (i := 7) rfl rfl ?_; (refine sc_o [0] rfl rfl (hru) (Lend.S (by first | ((repeat' first | exact RenL.nil | refine RenL.cons rfl ?_); done) | fail) zq2 (by decide) rfl (by simp [AV.bd, bdL, bdL_append]) (by repeat' (first | exact True.intro | refine And.intro ?_ ?_ | simp [AV.bd, bdL, bdL_append]))) ?_; simp only [updN, newO, AObj.ren, renL, AV.ren, apx, ap, if_true, if_false, Nat.reduceLT, Nat.reduceAdd, Nat.reduceSub, sO, intA, boolA, strA, ren_rulesY, ren_boolsY, ren_chsY]); apply jW; (refine wpt_all (rs := [1, 8]) (by kernel_rfl) rfl ⟨?_, ?_, trivial⟩ <;> (first | (refine wpo_do (i := 1) rfl rfl ?_; (refine sloadp rfl rfl rfl rfl ?_); apply jW; (refine wpt_all (rs := [8]) (by kernel_rfl) rfl ⟨?_, trivial⟩; ((refine wpo_x (i := 8) [0] rfl rfl rfl (hX) (Lend.S (by first | ((repeat' first | exact RenL.nil | refine RenL.cons (by first | exact rfl | exact ren_p (by simp [AV.bd, bdL, bdL_append])) ?_); done) | fail) zq2 (by decide) rfl (by simp [AV.bd, bdL, bdL_append]) (by repeat' (first | exact True.intro | refine And.intro ?_ ?_ | simp [AV.bd, bdL, bdL_append]))) ?_)))) | ((refine wpo_x (i := 8) [0] rfl rfl rfl (hX) (Lend.S (by first | ((repeat' first | exact RenL.nil | refine RenL.cons (by first | exact rfl | exact ren_p (by simp [AV.bd, bdL, bdL_append])) ?_); done) | fail) zq2 (by decide) rfl (by simp [AV.bd, bdL, bdL_append]) (by repeat' (first | exact True.intro | refine And.intro ?_ ?_ | simp [AV.bd, bdL, bdL_append]))) ?_)))))))))))))))))))
      all_goals exact bp_p rfl
     | ok t a1 =>
      obtain ⟨c, hc1, rfl, rfl, hpre⟩ := choose_ok hq1
      obtain ⟨q, hqn, _, _, rfl⟩ := mem_chR.1 hc1
      have hO := hcc.okC hq1
      have hraw : rawA (chT g q).2 = .agg [intA (q : Nat), intA 0, .val (.slice none 0 0)] := rfl
      rw [hraw] at hO
      have hlen := hpre.length_le
      rw [List.length_drop, bl_len] at hlen
      have hpos : 1 <= (chT g q).1.length := by rw [ch_eq, folT_is]; simp
      rw [hq1] at hB
      have hto : (chT g q).2.rule.toNat = q := Int.toNat_natCast _
      simp only [hto] at hB
      generalize (chT g q).1.length = L at *
      have hki := ih q (a' + L) (by omega) (by omega) hqn
      unfold rdT at hki
      cases hq2 : kidsT g pr (bl s) k q (a' + L) with
      | err e =>
       rw [hq2] at hB hki
       have hX : FnX Tryd.prog _ _ _ _ := hki
       simp only at hB
       rw [<- hB]
       (repeat' (first | apply jA | apply jF | apply jH | apply jI | apply jT | apply jU | (refine wp_cond rfl (fun hc => ?_) (fun hc => ?_) <;> (try simp only [sB, ne_eq, reduceCtorEq] at hc) <;> (try (exfalso; omega))) | (refine rgC 3 ?_; (refine slss rfl rfl ?_); apply jW) | (refine rgC 4 ?_; (refine smove rfl ?_); (refine sidxn rfl rfl (by omega) ?_); (refine sloadw rfl rfl ?_); (refine sassign rfl ?_); (refine sassign rfl ?_); apply jW) | (refine WP.regionC ?_; (refine sassign rfl ?_); apply jW) | (refine rgC 6 ?_; (refine smove rfl ?_); (refine smove rfl ?_); (refine slenm rfl rfl ?_); (refine su (asub rfl rfl (by exact inr_i64_of (by omega))) ?_); (refine seql rfl rfl ?_); apply jW) | (refine rgC 8 ?_; (refine smove rfl ?_); (refine su (ageq rfl rfl) ?_); apply jW) | (refine wp_tree (id := 11) 14 mixed rfl ?_ <;> (refine wpt_take 0 rfl (by exact still_fieldAddr rfl rfl) (by exact ap_field_p (rq_p rfl rfl) rfl rfl) (by kernel_rfl) (by kernel_rfl) (by kernel_rfl) (by repeat (first | exact pind_p | apply pind_then | apply pind_block)) ?_; (refine wpt_take 2 rfl still_move (by exact ap_move (rq_p rfl rfl)) (by kernel_rfl) (by kernel_rfl) (by kernel_rfl) (by repeat (first | exact pind_p | apply pind_then | apply pind_block)) ?_; (refine wpt_take 3 rfl still_move (by exact ap_move (rq_p rfl rfl)) (by kernel_rfl) (by kernel_rfl) (by kernel_rfl) (by repeat (first | exact pind_p | apply pind_then | apply pind_block)) ?_; (refine wpt_take 4 rfl still_move (by exact ap_move (rq_p rfl rfl)) (by kernel_rfl) (by kernel_rfl) (by kernel_rfl) (by repeat (first | exact pind_p | apply pind_then | apply pind_block)) ?_; (refine wpt_take 5 rfl still_move (by exact ap_move (rq_p rfl rfl)) (by kernel_rfl) (by kernel_rfl) (by kernel_rfl) (by repeat (first | exact pind_p | apply pind_then | apply pind_block)) ?_; (refine wpt_all (rs := [1, 6]) (by kernel_rfl) rfl ⟨?_, ?_, trivial⟩ <;> (first | (refine wpo_do (i := 1) rfl rfl ?_; (refine sloadp rfl rfl rfl rfl ?_); apply jW; (refine wpt_all (rs := [6]) (by kernel_rfl) rfl ⟨?_, trivial⟩; (refine wpo_do (i := 6) rfl rfl ?_; (refine su (asub rfl rfl (by exact inr_i64_of (by omega))) ?_); apply jW; (refine wpt_all (rs := [7]) (by kernel_rfl) rfl ⟨?_, trivial⟩; ((refine wpo_do (i := 7) rfl rfl ?_; (refine sc_o [0] rfl rfl (hru) (Lend.S (by first | ((repeat' first | exact RenL.nil | refine RenL.cons rfl ?_); done) | fail) zq2 (by decide) rfl (by simp [AV.bd, bdL, bdL_append]) (by repeat' (first | exact True.intro | refine And.intro ?_ ?_ | simp [AV.bd, bdL, bdL_append]))) ?_; simp only [updN, newO, AObj.ren, renL, AV.ren, apx, ap, if_true, if_false, Nat.reduceLT, Nat.reduceAdd, Nat.reduceSub, sO, intA, boolA, strA, ren_rulesY, ren_boolsY, ren_chsY]); apply jW; (refine wpt_all (rs := [8]) (by kernel_rfl) rfl ⟨?_, trivial⟩; ((refine wpo_do (i := 8) rfl rfl ?_; (refine sc_o [0] rfl rfl (hO) (Lend.S (by first | ((repeat' first | exact RenL.nil | refine RenL.cons (by first | exact rfl | exact ren_p (by simp [AV.bd, bdL, bdL_append])) ?_); done) | fail) zq2 (by decide) rfl (by simp [AV.bd, bdL, bdL_append]) (by repeat' (first | exact True.intro | refine And.intro ?_ ?_ | simp [AV.bd, bdL, bdL_append]))) ?_; simp only [updN, newO, AObj.ren, renL, AV.ren, apx, ap, if_true, if_false, Nat.reduceLT, Nat.reduceAdd, Nat.reduceSub, sO, intA, boolA, strA, ren_rulesY, ren_boolsY, ren_chsY]); apply jW; (refine wpt_all (rs := [9]) (by kernel_rfl) rfl ⟨?_, trivial⟩; ((refine wpo_x (i := 9) [0] rfl rfl rfl (hX) (Lend.S (by first | ((repeat' first | exact RenL.nil | refine RenL.cons rfl ?_); done) | fail) zq2 (by decide) rfl (by simp [AV.bd, bdL, bdL_append]) (by repeat' (first | exact True.intro | refine And.intro ?_ ?_ | simp [AV.bd, bdL, bdL_append]))) ?_)))))))))))) | (refine wpo_do (i := 6) rfl rfl ?_; (refine su (asub rfl rfl (by exact inr_i64_of (by omega))) ?_); apply jW; (refine wpt_all (rs := [1, 7]) (by kernel_rfl) rfl ⟨?_, ?_, trivial⟩ <;> (first | (refine wpo_do (i := 1) rfl rfl ?_; (refine sloadp rfl rfl rfl rfl ?_); apply jW; (refine wpt_all (rs := [7]) (by kernel_rfl) rfl ⟨?_, trivial⟩; ((refine wpo_do (i := 7) rfl rfl ?_; (refine sc_o [0] rfl rfl (hru) (Lend.S (by first | ((repeat' first | exact RenL.nil | refine RenL.cons rfl ?_); done) | fail) zq2 (by decide) rfl (by simp [AV.bd, bdL, bdL_append]) (by repeat' (first | exact True.intro | refine And.intro ?_ ?_ | simp [AV.bd, bdL, bdL_append]))) ?_; simp only [updN, newO, AObj.ren, renL, AV.ren, apx, ap, if_true, if_false, Nat.reduceLT, Nat.reduceAdd, Nat.reduceSub, sO, intA, boolA, strA, ren_rulesY, ren_boolsY, ren_chsY]); apply jW; (refine wpt_all (rs := [8]) (by kernel_rfl) rfl ⟨?_, trivial⟩; ((refine wpo_do (i := 8) rfl rfl ?_; (refine sc_o [0] rfl rfl (hO) (Lend.S (by first | ((repeat' first | exact RenL.nil | refine RenL.cons (by first | exact rfl | exact ren_p (by simp [AV.bd, bdL, bdL_append])) ?_); done) | fail) zq2 (by decide) rfl (by simp [AV.bd, bdL, bdL_append]) (by repeat' (first | exact True.intro | refine And.intro ?_ ?_ | simp [AV.bd, bdL, bdL_append]))) ?_; simp only [updN, newO, AObj.ren, renL, AV.ren, apx, ap, if_true, if_false, Nat.reduceLT, Nat.reduceAdd, Nat.reduceSub, sO, intA, boolA, strA, ren_rulesY, ren_boolsY, ren_chsY]); apply jW; (refine wpt_all (rs := [9]) (by kernel_rfl) rfl ⟨?_, trivial⟩; ((refine wpo_x (i := 9) [0] rfl rfl rfl (hX) (Lend.S (by first | ((repeat' first | exact RenL.nil | refine RenL.cons rfl ?_); done) | fail) zq2 (by decide) rfl (by simp [AV.bd, bdL, bdL_append]) (by repeat' (first | exact True.intro | refine And.intro ?_ ?_ | simp [AV.bd, bdL, bdL_append]))) ?_)))))))))) | ((refine wpo_do (i := 7) rfl rfl ?_; (refine sc_o [0] rfl rfl (hru) (Lend.S (by first | ((repeat' first | exact RenL.nil | refine RenL.cons rfl ?_); done) | fail) zq2 (by decide) rfl (by simp [AV.bd, bdL, bdL_append]) (by repeat' (first | exact True.intro | refine And.intro ?_ ?_ | simp [AV.bd, bdL, bdL_append]))) ?_; simp only [updN, newO, AObj.ren, renL, AV.ren, apx, ap, if_true, if_false, Nat.reduceLT, Nat.reduceAdd, Nat.reduceSub, sO, intA, boolA, strA, ren_rulesY, ren_boolsY, ren_chsY]); apply jW; (refine wpt_all (rs := [1, 8]) (by kernel_rfl) rfl ⟨?_, ?_, trivial⟩ <;> (first | (refine wpo_do (i := 1) rfl rfl ?_; (refine sloadp rfl rfl rfl rfl ?_); apply jW; (refine wpt_all (rs := [8]) (by kernel_rfl) rfl ⟨?_, trivial⟩; ((refine wpo_do (i := 8) rfl rfl ?_; (refine sc_o [0] rfl rfl (hO) (Lend.S (by first | ((repeat' first | exact RenL.nil | refine RenL.cons (by first | exact rfl | exact ren_p (by simp [AV.bd, bdL, bdL_append])) ?_); done) | fail) zq2 (by decide) rfl (by simp [AV.bd, bdL, bdL_append]) (by repeat' (first | exact True.intro | refine And.intro ?_ ?_ | simp [AV.bd, bdL, bdL_append]))) ?_; simp only [updN, newO, AObj.ren, renL, AV.ren, apx, ap, if_true, if_false, Nat.reduceLT, Nat.reduceAdd, Nat.reduceSub, sO, intA, boolA, strA, ren_rulesY, ren_boolsY, ren_chsY]); apply jW; (refine wpt_all (rs := [9]) (by kernel_rfl) rfl ⟨?_, trivial⟩; ((refine wpo_x (i := 9) [0] rfl rfl rfl (hX) (Lend.S (by first | ((repeat' first | exact RenL.nil | refine RenL.cons rfl ?_); done) | fail) zq2 (by decide) rfl (by simp [AV.bd, bdL, bdL_append]) (by repeat' (first | exact True.intro | refine And.intro ?_ ?_ | simp [AV.bd, bdL, bdL_append]))) ?_))))))) | ((refine wpo_do (i := 8) rfl rfl ?_; (refine sc_o [0] rfl rfl (hO) (Lend.S (by first | ((repeat' first | exact RenL.nil | refine RenL.cons (by first | exact rfl | exact ren_p (by simp [AV.bd, bdL, bdL_append])) ?_); done) | fail) zq2 (by decide) rfl (by simp [AV.bd, bdL, bdL_append]) (by repeat' (first | exact True.intro | refine And.intro ?_ ?_ | simp [AV.bd, bdL, bdL_append]))) ?_; simp only [updN, newO, AObj.ren, renL, AV.ren, apx, ap, if_true, if_false, Nat.reduceLT, Nat.reduceAdd, Nat.reduceSub, sO, intA, boolA, strA, ren_rulesY, ren_boolsY, ren_chsY]); apply jW; (refine wpt_all (rs := [1, 9]) (by kernel_rfl) rfl ⟨?_, ?_, trivial⟩ <;> (first | (refine wpo_do (i := 1) rfl rfl ?_; (refine sloadp rfl rfl rfl rfl ?_); apply jW; (refine wpt_all (rs := [9]) (by kernel_rfl) rfl ⟨?_, trivial⟩; ((refine wpo_x (i := 9) [0] rfl rfl rfl (hX) (Lend.S (by first | ((repeat' first | exact RenL.nil | refine RenL.cons rfl ?_); done) | fail) zq2 (by decide) rfl (by simp [AV.bd, bdL, bdL_append]) (by repeat' (first | exact True.intro | refine And.intro ?_ ?_ | simp [AV.bd, bdL, bdL_append]))) ?_)))) | ((refine wpo_x (i := 9) [0] rfl rfl rfl (hX) (Lend.S (by first | ((repeat' first | exact RenL.nil | refine RenL.cons rfl ?_); done) | fail) zq2 (by decide) rfl (by simp [AV.bd, bdL, bdL_append]) (by repeat' (first | exact True.intro | refine And.intro ?_ ?_ | simp [AV.bd, bdL, bdL_append]))) ?_)))))))))))))))))))))))
       all_goals exact bp_p rfl
      | ok t' a2 =>
       have hle2 := kids_le g pr (bl s) k q (a' + L) t' a2 (by rw [bl_len]; omega) hq2
       rw [bl_len] at hle2
       rw [hq2] at hB hki
       have hO2 : FnO Tryd.prog _ _ _ _ _ := hki
       unfold rdT at hO2
       simp only at hB
       by_cases hfin : j + 1 = (nth g.rules i).body.length
       ·skip
        rw [decide_eq_true hfin] at hB
        have hc3 := choose0_fn g s a2 pr 41 (by omega) (by omega)
        rw [show folT true = [41] from rfl] at hB
        (repeat' (first | apply jA | apply jF | apply jH | apply jI | (refine wp_cond rfl (fun hc => ?_) (fun hc => ?_) <;> (try simp only [sB, ne_eq, reduceCtorEq] at hc) <;> (try (exfalso; omega))) | (refine rgC 3 ?_; (refine slss rfl rfl ?_); apply jW) | (refine rgC 4 ?_; (refine smove rfl ?_); (refine sidxn rfl rfl (by omega) ?_); (refine sloadw rfl rfl ?_); (refine sassign rfl ?_); (refine sassign rfl ?_); apply jW) | (refine WP.regionC ?_; (refine sassign rfl ?_); apply jW) | (refine rgC 6 ?_; (refine smove rfl ?_); (refine smove rfl ?_); (refine slenm rfl rfl ?_); (refine su (asub rfl rfl (by exact inr_i64_of (by omega))) ?_); (refine seql rfl rfl ?_); apply jW) | (refine rgC 8 ?_; (refine smove rfl ?_); (refine su (ageq rfl rfl) ?_); apply jW) | (refine wp_tree (id := 11) 14 mixed rfl ?_ <;> (refine wpt_take 0 rfl (by exact still_fieldAddr rfl rfl) (by exact ap_field_p (rq_p rfl rfl) rfl rfl) (by kernel_rfl) (by kernel_rfl) (by kernel_rfl) (by repeat (first | exact pind_p | apply pind_then | apply pind_block)) ?_; (refine wpt_take 2 rfl still_move (by exact ap_move (rq_p rfl rfl)) (by kernel_rfl) (by kernel_rfl) (by kernel_rfl) (by repeat (first | exact pind_p | apply pind_then | apply pind_block)) ?_; (refine wpt_take 3 rfl still_move (by exact ap_move (rq_p rfl rfl)) (by kernel_rfl) (by kernel_rfl) (by kernel_rfl) (by repeat (first | exact pind_p | apply pind_then | apply pind_block)) ?_; (refine wpt_take 4 rfl still_move (by exact ap_move (rq_p rfl rfl)) (by kernel_rfl) (by kernel_rfl) (by kernel_rfl) (by repeat (first | exact pind_p | apply pind_then | apply pind_block)) ?_; (refine wpt_take 5 rfl still_move (by exact ap_move (rq_p rfl rfl)) (by kernel_rfl) (by kernel_rfl) (by kernel_rfl) (by repeat (first | exact pind_p | apply pind_then | apply pind_block)) ?_; (refine wpt_all (rs := [1, 6]) (by kernel_rfl) rfl ⟨?_, ?_, trivial⟩ <;> (first | (refine wpo_do (i := 1) rfl rfl ?_; (refine sloadp rfl rfl rfl rfl ?_); apply jW; (refine wpt_all (rs := [6]) (by kernel_rfl) rfl ⟨?_, trivial⟩; (refine wpo_do (i := 6) rfl rfl ?_; (refine su (asub rfl rfl (by exact inr_i64_of (by omega))) ?_); apply jW; (refine wpt_all (rs := [7]) (by kernel_rfl) rfl ⟨?_, trivial⟩; (refine wpo_do (i := 7) rfl rfl ?_; (refine sc_o [0] rfl rfl (hru) (Lend.S (by first | ((repeat' first | exact RenL.nil | refine RenL.cons rfl ?_); done) | fail) zq2 (by decide) rfl (by simp [AV.bd, bdL, bdL_append]) (by repeat' (first | exact True.intro | refine And.intro ?_ ?_ | simp [AV.bd, bdL, bdL_append]))) ?_; simp only [updN, newO, AObj.ren, renL, AV.ren, apx, ap, if_true, if_false, Nat.reduceLT, Nat.reduceAdd, Nat.reduceSub, sO, intA, boolA, strA, ren_rulesY, ren_boolsY, ren_chsY]); apply jW; (refine wpt_all (rs := [8]) (by kernel_rfl) rfl ⟨?_, trivial⟩; (refine wpo_do (i := 8) rfl rfl ?_; (refine sc_o [0] rfl rfl (hO) (Lend.S (by first | ((repeat' first | exact RenL.nil | refine RenL.cons (by first | exact rfl | exact ren_p (by simp [AV.bd, bdL, bdL_append])) ?_); done) | fail) zq2 (by decide) rfl (by simp [AV.bd, bdL, bdL_append]) (by repeat' (first | exact True.intro | refine And.intro ?_ ?_ | simp [AV.bd, bdL, bdL_append]))) ?_; simp only [updN, newO, AObj.ren, renL, AV.ren, apx, ap, if_true, if_false, Nat.reduceLT, Nat.reduceAdd, Nat.reduceSub, sO, intA, boolA, strA, ren_rulesY, ren_boolsY, ren_chsY]); apply jW; (refine wpt_all (rs := [9]) (by kernel_rfl) rfl ⟨?_, trivial⟩; (refine wpo_do (i := 9) rfl rfl ?_; (refine sc_o [0] rfl rfl (hO2) (Lend.S (by first | ((repeat' first | exact RenL.nil | refine RenL.cons rfl ?_); done) | fail) zq2 (by decide) rfl (by simp [AV.bd, bdL, bdL_append]) (by repeat' (first | exact True.intro | refine And.intro ?_ ?_ | simp [AV.bd, bdL, bdL_append]))) ?_; simp only [updN, newO, AObj.ren, renL, AV.ren, apx, ap, if_true, if_false, Nat.reduceLT, Nat.reduceAdd, Nat.reduceSub, sO, intA, boolA, strA, ren_rulesY, ren_boolsY, ren_treY]); apply jW; (refine wpt_all (rs := [10]) (by kernel_rfl) rfl ⟨?_, trivial⟩; (refine wpo_do (i := 10) rfl rfl ?_; (refine se_lit (OpP.cons rfl (OpP.nil)) rfl rfl rfl rfl rfl rfl ?_); apply jW; (refine wpt_all (rs := [11]) (by kernel_rfl) rfl ⟨?_, trivial⟩; (refine wpo_do (i := 11) rfl rfl ?_; (refine se_app1 rfl rfl rfl rfl rfl rfl rfl rfl (by omega) ?_); apply jW; (refine wpt_take 12 rfl (by exact still_fieldAddr rfl rfl) (by exact ap_field_p (rq_p rfl rfl) rfl rfl) (by kernel_rfl) (by kernel_rfl) (by kernel_rfl) (by repeat (first | exact pind_p | apply pind_then | apply pind_block)) ?_; (refine wpt_all (rs := [13]) (by kernel_rfl) rfl ⟨?_, trivial⟩; (refine wpo_do (i := 13) rfl rfl ?_; (refine se_store_b rfl rfl rfl rfl ?_); apply jW; (refine wpt_end (by kernel_rfl) ?_))))))))))))))))) | (refine wpo_do (i := 6) rfl rfl ?_; (refine su (asub rfl rfl (by exact inr_i64_of (by omega))) ?_); apply jW; (refine wpt_all (rs := [1, 7]) (by kernel_rfl) rfl ⟨?_, ?_, trivial⟩ <;> (first | (refine wpo_do (i := 1) rfl rfl ?_; (refine sloadp rfl rfl rfl rfl ?_); apply jW; (refine wpt_all (rs := [7]) (by kernel_rfl) rfl ⟨?_, trivial⟩; (refine wpo_do (i := 7) rfl rfl ?_; (refine sc_o [0] rfl rfl (hru) (Lend.S (by first | ((repeat' first | exact RenL.nil | refine RenL.cons rfl ?_); done) | fail) zq2 (by decide) rfl (by simp [AV.bd, bdL, bdL_append]) (by repeat' (first | exact True.intro | refine And.intro ?_ ?_ | simp [AV.bd, bdL, bdL_append]))) ?_; simp only [updN, newO, AObj.ren, renL, AV.ren, apx, ap, if_true, if_false, Nat.reduceLT, Nat.reduceAdd, Nat.reduceSub, sO, intA, boolA, strA, ren_rulesY, ren_boolsY, ren_chsY]); apply jW; (refine wpt_all (rs := [8]) (by kernel_rfl) rfl ⟨?_, trivial⟩; (refine wpo_do (i := 8) rfl rfl ?_; (refine sc_o [0] rfl rfl (hO) (Lend.S (by first | ((repeat' first | exact RenL.nil | refine RenL.cons (by first | exact rfl | exact ren_p (by simp [AV.bd, bdL, bdL_append])) ?_); done) | fail) zq2 (by decide) rfl (by simp [AV.bd, bdL, bdL_append]) (by repeat' (first | exact True.intro | refine And.intro ?_ ?_ | simp [AV.bd, bdL, bdL_append]))) ?_; simp only [updN, newO, AObj.ren, renL, AV.ren, apx, ap, if_true, if_false, Nat.reduceLT, Nat.reduceAdd, Nat.reduceSub, sO, intA, boolA, strA, ren_rulesY, ren_boolsY, ren_chsY]); apply jW; (refine wpt_all (rs := [9]) (by kernel_rfl) rfl ⟨?_, trivial⟩; (refine wpo_do (i := 9) rfl rfl ?_; (refine sc_o [0] rfl rfl (hO2) (Lend.S (by first | ((repeat' first | exact RenL.nil | refine RenL.cons rfl ?_); done) | fail) zq2 (by decide) rfl (by simp [AV.bd, bdL, bdL_append]) (by repeat' (first | exact True.intro | refine And.intro ?_ ?_ | simp [AV.bd, bdL, bdL_append]))) ?_; simp only [updN, newO, AObj.ren, renL, AV.ren, apx, ap, if_true, if_false, Nat.reduceLT, Nat.reduceAdd, Nat.reduceSub, sO, intA, boolA, strA, ren_rulesY, ren_boolsY, ren_treY]); apply jW; (refine wpt_all (rs := [10]) (by kernel_rfl) rfl ⟨?_, trivial⟩; (refine wpo_do (i := 10) rfl rfl ?_; (refine se_lit (OpP.cons rfl (OpP.nil)) rfl rfl rfl rfl rfl rfl ?_); apply jW; (refine wpt_all (rs := [11]) (by kernel_rfl) rfl ⟨?_, trivial⟩; (refine wpo_do (i := 11) rfl rfl ?_; (refine se_app1 rfl rfl rfl rfl rfl rfl rfl rfl (by omega) ?_); apply jW; (refine wpt_take 12 rfl (by exact still_fieldAddr rfl rfl) (by exact ap_field_p (rq_p rfl rfl) rfl rfl) (by kernel_rfl) (by kernel_rfl) (by kernel_rfl) (by repeat (first | exact pind_p | apply pind_then | apply pind_block)) ?_; (refine wpt_all (rs := [13]) (by kernel_rfl) rfl ⟨?_, trivial⟩; (refine wpo_do (i := 13) rfl rfl ?_; (refine se_store_b rfl rfl rfl rfl ?_); apply jW; (refine wpt_end (by kernel_rfl) ?_))))))))))))))) | (refine wpo_do (i := 7) rfl rfl ?_; (refine sc_o [0] rfl rfl (hru) (Lend.S (by first | ((repeat' first | exact RenL.nil | refine RenL.cons rfl ?_); done) | fail) zq2 (by decide) rfl (by simp [AV.bd, bdL, bdL_append]) (by repeat' (first | exact True.intro | refine And.intro ?_ ?_ | simp [AV.bd, bdL, bdL_append]))) ?_; simp only [updN, newO, AObj.ren, renL, AV.ren, apx, ap, if_true, if_false, Nat.reduceLT, Nat.reduceAdd, Nat.reduceSub, sO, intA, boolA, strA, ren_rulesY, ren_boolsY, ren_chsY]); apply jW; (refine wpt_all (rs := [1, 8]) (by kernel_rfl) rfl ⟨?_, ?_, trivial⟩ <;> (first | (refine wpo_do (i := 1) rfl rfl ?_; (refine sloadp rfl rfl rfl rfl ?_); apply jW; (refine wpt_all (rs := [8]) (by kernel_rfl) rfl ⟨?_, trivial⟩; (refine wpo_do (i := 8) rfl rfl ?_; (refine sc_o [0] rfl rfl (hO) (Lend.S (by first | ((repeat' first | exact RenL.nil | refine RenL.cons (by first | exact rfl | exact ren_p (by simp [AV.bd, bdL, bdL_append])) ?_); done) | fail) zq2 (by decide) rfl (by simp [AV.bd, bdL, bdL_append]) (by repeat' (first | exact True.intro | refine And.intro ?_ ?_ | simp [AV.bd, bdL, bdL_append]))) ?_; simp only [updN, newO, AObj.ren, renL, AV.ren, apx, ap, if_true, if_false, Nat.reduceLT, Nat.reduceAdd, Nat.reduceSub, sO, intA, boolA, strA, ren_rulesY, ren_boolsY, ren_chsY]); apply jW; (refine wpt_all (rs := [9]) (by kernel_rfl) rfl ⟨?_, trivial⟩; (refine wpo_do (i := 9) rfl rfl ?_; (refine sc_o [0] rfl rfl (hO2) (Lend.S (by first | ((repeat' first | exact RenL.nil | refine RenL.cons rfl ?_); done) | fail) zq2 (by decide) rfl (by simp [AV.bd, bdL, bdL_append]) (by repeat' (first | exact True.intro | refine And.intro ?_ ?_ | simp [AV.bd, bdL, bdL_append]))) ?_; simp only [updN, newO, AObj.ren, renL, AV.ren, apx, ap, if_true, if_false, Nat.reduceLT, Nat.reduceAdd, Nat.reduceSub, sO, intA, boolA, strA, ren_rulesY, ren_boolsY, ren_treY]); apply jW; (refine wpt_all (rs := [10]) (by kernel_rfl) rfl ⟨?_, trivial⟩; (refine wpo_do (i := 10) rfl rfl ?_; (refine se_lit (OpP.cons rfl (OpP.nil)) rfl rfl rfl rfl rfl rfl ?_); apply jW; (refine wpt_all (rs := [11]) (by kernel_rfl) rfl ⟨?_, trivial⟩; (refine wpo_do (i := 11) rfl rfl ?_; (refine se_app1 rfl rfl rfl rfl rfl rfl rfl rfl (by omega) ?_); apply jW; (refine wpt_take 12 rfl (by exact still_fieldAddr rfl rfl) (by exact ap_field_p (rq_p rfl rfl) rfl rfl) (by kernel_rfl) (by kernel_rfl) (by kernel_rfl) (by repeat (first | exact pind_p | apply pind_then | apply pind_block)) ?_; (refine wpt_all (rs := [13]) (by kernel_rfl) rfl ⟨?_, trivial⟩; (refine wpo_do (i := 13) rfl rfl ?_; (refine se_store_b rfl rfl rfl rfl ?_); apply jW; (refine wpt_end (by kernel_rfl) ?_))))))))))))) | (refine wpo_do (i := 8) rfl rfl ?_; (refine sc_o [0] rfl rfl (hO) (Lend.S (by first | ((repeat' first | exact RenL.nil | refine RenL.cons (by first | exact rfl | exact ren_p (by simp [AV.bd, bdL, bdL_append])) ?_); done) | fail) zq2 (by decide) rfl (by simp [AV.bd, bdL, bdL_append]) (by repeat' (first | exact True.intro | refine And.intro ?_ ?_ | simp [AV.bd, bdL, bdL_append]))) ?_; simp only [updN, newO, AObj.ren, renL, AV.ren, apx, ap, if_true, if_false, Nat.reduceLT, Nat.reduceAdd, Nat.reduceSub, sO, intA, boolA, strA, ren_rulesY, ren_boolsY, ren_chsY]); apply jW; (refine wpt_all (rs := [1, 9]) (by kernel_rfl) rfl ⟨?_, ?_, trivial⟩ <;> (first | (refine wpo_do (i := 1) rfl rfl ?_; (refine sloadp rfl rfl rfl rfl ?_); apply jW; (refine wpt_all (rs := [9]) (by kernel_rfl) rfl ⟨?_, trivial⟩; (refine wpo_do (i := 9) rfl rfl ?_; (refine sc_o [0] rfl rfl (hO2) (Lend.S (by first | ((repeat' first | exact RenL.nil | refine RenL.cons rfl ?_); done) | fail) zq2 (by decide) rfl (by simp [AV.bd, bdL, bdL_append]) (by repeat' (first | exact True.intro | refine And.intro ?_ ?_ | simp [AV.bd, bdL, bdL_append]))) ?_; simp only [updN, newO, AObj.ren, renL, AV.ren, apx, ap, if_true, if_false, Nat.reduceLT, Nat.reduceAdd, Nat.reduceSub, sO, intA, boolA, strA, ren_rulesY, ren_boolsY, ren_treY]); apply jW; (refine wpt_all (rs := [10]) (by kernel_rfl) rfl ⟨?_, trivial⟩; (refine wpo_do (i := 10) rfl rfl ?_; (refine se_lit (OpP.cons rfl (OpP.nil)) rfl rfl rfl rfl rfl rfl ?_); apply jW; (refine wpt_all (rs := [11]) (by kernel_rfl) rfl ⟨?_, trivial⟩; (refine wpo_do (i := 11) rfl rfl ?_; (refine se_app1 rfl rfl rfl rfl rfl rfl rfl rfl (by omega) ?_); apply jW; (refine wpt_take 12 rfl (by exact still_fieldAddr rfl rfl) (by exact ap_field_p (rq_p rfl rfl) rfl rfl) (by kernel_rfl) (by kernel_rfl) (by kernel_rfl) (by repeat (first | exact pind_p | apply pind_then | apply pind_block)) ?_; (refine wpt_all (rs := [13]) (by kernel_rfl) rfl ⟨?_, trivial⟩; (refine wpo_do (i := 13) rfl rfl ?_; (refine se_store_b rfl rfl rfl rfl ?_); apply jW; (refine wpt_end (by kernel_rfl) ?_))))))))))) | (refine wpo_do (i := 9) rfl rfl ?_; (refine sc_o [0] rfl rfl (hO2) (Lend.S (by first | ((repeat' first | exact RenL.nil | refine RenL.cons rfl ?_); done) | fail) zq2 (by decide) rfl (by simp [AV.bd, bdL, bdL_append]) (by repeat' (first | exact True.intro | refine And.intro ?_ ?_ | simp [AV.bd, bdL, bdL_append]))) ?_; simp only [updN, newO, AObj.ren, renL, AV.ren, apx, ap, if_true, if_false, Nat.reduceLT, Nat.reduceAdd, Nat.reduceSub, sO, intA, boolA, strA, ren_rulesY, ren_boolsY, ren_treY]); apply jW; (refine wpt_all (rs := [1, 10]) (by kernel_rfl) rfl ⟨?_, ?_, trivial⟩ <;> (first | (refine wpo_do (i := 1) rfl rfl ?_; (refine sloadp rfl rfl rfl rfl ?_); apply jW; (refine wpt_all (rs := [10]) (by kernel_rfl) rfl ⟨?_, trivial⟩; (refine wpo_do (i := 10) rfl rfl ?_; (refine se_lit (OpP.cons rfl (OpP.nil)) rfl rfl rfl rfl rfl rfl ?_); apply jW; (refine wpt_all (rs := [11]) (by kernel_rfl) rfl ⟨?_, trivial⟩; (refine wpo_do (i := 11) rfl rfl ?_; (refine se_app1 rfl rfl rfl rfl rfl rfl rfl rfl (by omega) ?_); apply jW; (refine wpt_take 12 rfl (by exact still_fieldAddr rfl rfl) (by exact ap_field_p (rq_p rfl rfl) rfl rfl) (by kernel_rfl) (by kernel_rfl) (by kernel_rfl) (by repeat (first | exact pind_p | apply pind_then | apply pind_block)) ?_; (refine wpt_all (rs := [13]) (by kernel_rfl) rfl ⟨?_, trivial⟩; (refine wpo_do (i := 13) rfl rfl ?_; (refine se_store_b rfl rfl rfl rfl ?_); apply jW; (refine wpt_end (by kernel_rfl) ?_))))))))) | (refine wpo_do (i := 10) rfl rfl ?_; (refine se_lit (OpP.cons rfl (OpP.nil)) rfl rfl rfl rfl rfl rfl ?_); apply jW; (refine wpt_all (rs := [1]) (by kernel_rfl) rfl ⟨?_, trivial⟩; (refine wpo_do (i := 1) rfl rfl ?_; (refine sloadp rfl rfl rfl rfl ?_); apply jW; (refine wpt_all (rs := [11]) (by kernel_rfl) rfl ⟨?_, trivial⟩; (refine wpo_do (i := 11) rfl rfl ?_; (refine se_app1 rfl rfl rfl rfl rfl rfl rfl rfl (by omega) ?_); apply jW; (refine wpt_take 12 rfl (by exact still_fieldAddr rfl rfl) (by exact ap_field_p (rq_p rfl rfl) rfl rfl) (by kernel_rfl) (by kernel_rfl) (by kernel_rfl) (by repeat (first | exact pind_p | apply pind_then | apply pind_block)) ?_; (refine wpt_all (rs := [13]) (by kernel_rfl) rfl ⟨?_, trivial⟩; (refine wpo_do (i := 13) rfl rfl ?_; (refine se_store_b rfl rfl rfl rfl ?_); apply jW; (refine wpt_end (by kernel_rfl) ?_)))))))))))))))))))))))))))))))
        all_goals
         cases hq3 : chooseT ((bl s).drop a2) a2 [([41], .mk 0 0 [])] 0 with
         | err e =>
          have hX := hc3.dieC hq3
          rw [hq3] at hB
          simp only at hB
          rw [<- hB]
          all_goals ((repeat' (first | apply jT | apply jU | (refine wpl_region (id := 12) ?_; (refine wpl_step rfl ?_; (refine smove rfl ?_); apply jW; (refine wpl_step rfl ?_; (refine smove rfl ?_); apply jW; (refine wpl_step rfl ?_; (refine su (ap_build (RqP.nil) rfl) ?_); apply jW; (refine wpl_step rfl ?_; (refine su (ap_build (RqP.cons (rq_p rfl rfl) (RqP.cons (rq_p rfl rfl) (RqP.nil))) rfl) ?_); apply jW; (refine wpl_step rfl ?_; (refine se_lit (OpP.cons rfl (OpP.nil)) rfl rfl rfl rfl rfl rfl ?_); apply jW; refine wpl_frzm 73 hm rfl rfl (by first | exact rfl | fail) (by first | exact rfl | fail) rfl rfl ?_; ((refine wpl_x [0] rfl rfl (hX) (Lend.S (by first | ((repeat' first | exact RenL.nil | refine RenL.cons rfl ?_); done) | fail) zq2 (by decide) rfl (by simp [AV.bd, bdL, bdL_append]) (by repeat' (first | exact True.intro | refine And.intro ?_ ?_ | simp [AV.bd, bdL, bdL_append]))) ?_)))))))))))
          all_goals exact bp_p rfl
         | ok t3 a3 =>
          have hO3 := hc3.okC hq3
          have hle3 := choose_le (s := bl s) (by rw [bl_len]; omega) hq3
          rw [bl_len] at hle3
          rw [hq3] at hB
          simp only at hB
          have hmap : (ks ++ [t']).map treA = ks.map treA ++ [treA t'] := by rw [List.map_append]; rfl
          have hml : (ks ++ [t']).length = (ks.map treA ++ [treA t']).length := by simp
          all_goals ((repeat' (first | apply jH | apply jN | (refine wpl_region (id := 12) ?_; (refine wpl_step rfl ?_); (refine smove rfl ?_); (apply jW); (refine wpl_step rfl ?_); (refine smove rfl ?_); (apply jW); (refine wpl_step rfl ?_); (refine su (ap_build (RqP.nil) rfl) ?_); (apply jW); (refine wpl_step rfl ?_); (refine su (ap_build (RqP.cons (rq_p rfl rfl) (RqP.cons (rq_p rfl rfl) (RqP.nil))) rfl) ?_); (apply jW); (refine wpl_step rfl ?_); (refine se_lit (OpP.cons rfl (OpP.nil)) rfl rfl rfl rfl rfl rfl ?_); (apply jW); (refine wpl_frzm 73 hm rfl rfl (by first | exact rfl | fail) (by first | exact rfl | fail) rfl rfl ?_); (refine wpl_step rfl ?_); (refine sc_o [0] rfl rfl (hO3) (Lend.S (by first | ((repeat' first | exact RenL.nil | refine RenL.cons rfl ?_); done) | fail) zq2 (by decide) rfl (by simp [AV.bd, bdL, bdL_append]) (by repeat' (first | exact True.intro | refine And.intro ?_ ?_ | simp [AV.bd, bdL, bdL_append]))) ?_; simp only [updN, newO, AObj.ren, renL, AV.ren, apx, ap, if_true, if_false, Nat.reduceLT, Nat.reduceAdd, Nat.reduceSub, sO, intA, boolA, strA, ren_rulesY, ren_boolsY]); (apply jW); (apply jX)) | (refine rgC 13 ?_; (refine sadd rfl rfl (by exact inr_i64_of (by omega)) ?_); (refine smove rfl ?_); apply jW))))
          all_goals refine ⟨(j + 1, a3, ks ++ [t']), ⟨by simp only; omega, by simp only; omega, by simp only; omega, by simp only; omega, by simp only [List.length_append, List.length_cons, List.length_nil]; omega, hB⟩, ?_⟩
          all_goals simp only
          all_goals rw [hml, hmap]
          all_goals exact ⟨[0, 1, 2, 5], ToR.S rfl (by repeat' (first | exact rt_nil | refine rt_t rfl rfl ?_ | refine rt_e rfl rfl ?_ | refine rt_p rfl rfl (by first | (simp [AV.bd, bdL, bdL_append]; done) | fail) ?_)) (by repeat' (first | exact ro_nil | refine ro_e rfl rfl ?_ | refine ro_p rfl (by first | exact rfl | fail) zq5 ?_)) rfl (by (rw [hm]; exact rfl)) rfl zq4 (by repeat' (first | exact True.intro | exact rfl | refine And.intro ?_ ?_ | (simp [bdOq, bdL, bdL_append, AV.bd]; done))) (by (rw [hm]; exact nle rfl))⟩
       ·skip
        rw [decide_eq_false hfin] at hB
        have hc3 := choose0_fn g s a2 pr 32 (by omega) (by omega)
        rw [show folT false = [32] from rfl] at hB
        (repeat' (first | apply jA | apply jF | apply jH | apply jI | (refine wp_cond rfl (fun hc => ?_) (fun hc => ?_) <;> (try simp only [sB, ne_eq, reduceCtorEq] at hc) <;> (try (exfalso; omega))) | (refine rgC 3 ?_; (refine slss rfl rfl ?_); apply jW) | (refine rgC 4 ?_; (refine smove rfl ?_); (refine sidxn rfl rfl (by omega) ?_); (refine sloadw rfl rfl ?_); (refine sassign rfl ?_); (refine sassign rfl ?_); apply jW) | (refine rgC 5 ?_; (refine sassign rfl ?_); apply jW) | (refine rgC 6 ?_; (refine smove rfl ?_); (refine smove rfl ?_); (refine slenm rfl rfl ?_); (refine su (asub rfl rfl (by exact inr_i64_of (by omega))) ?_); (refine seql rfl rfl ?_); apply jW) | (refine rgC 8 ?_; (refine smove rfl ?_); (refine su (ageq rfl rfl) ?_); apply jW) | (refine wp_tree (id := 11) 14 mixed rfl ?_ <;> (refine wpt_take 0 rfl (by exact still_fieldAddr rfl rfl) (by exact ap_field_p (rq_p rfl rfl) rfl rfl) (by kernel_rfl) (by kernel_rfl) (by kernel_rfl) (by repeat (first | exact pind_p | apply pind_then | apply pind_block)) ?_; (refine wpt_take 2 rfl still_move (by exact ap_move (rq_p rfl rfl)) (by kernel_rfl) (by kernel_rfl) (by kernel_rfl) (by repeat (first | exact pind_p | apply pind_then | apply pind_block)) ?_; (refine wpt_take 3 rfl still_move (by exact ap_move (rq_p rfl rfl)) (by kernel_rfl) (by kernel_rfl) (by kernel_rfl) (by repeat (first | exact pind_p | apply pind_then | apply pind_block)) ?_; (refine wpt_take 4 rfl still_move (by exact ap_move (rq_p rfl rfl)) (by kernel_rfl) (by kernel_rfl) (by kernel_rfl) (by repeat (first | exact pind_p | apply pind_then | apply pind_block)) ?_; (refine wpt_take 5 rfl still_move (by exact ap_move (rq_p rfl rfl)) (by kernel_rfl) (by kernel_rfl) (by kernel_rfl) (by repeat (first | exact pind_p | apply pind_then | apply pind_block)) ?_; (refine wpt_all (rs := [1, 6]) (by kernel_rfl) rfl ⟨?_, ?_, trivial⟩ <;> (first | (refine wpo_do (i := 1) rfl rfl ?_; (refine sloadp rfl rfl rfl rfl ?_); apply jW; (refine wpt_all (rs := [6]) (by kernel_rfl) rfl ⟨?_, trivial⟩; (refine wpo_do (i := 6) rfl rfl ?_; (refine su (asub rfl rfl (by exact inr_i64_of (by omega))) ?_); apply jW; (refine wpt_all (rs := [7]) (by kernel_rfl) rfl ⟨?_, trivial⟩; (refine wpo_do (i := 7) rfl rfl ?_; (refine sc_o [0] rfl rfl (hru) (Lend.S (by first | ((repeat' first | exact RenL.nil | refine RenL.cons rfl ?_); done) | fail) zq2 (by decide) rfl (by simp [AV.bd, bdL, bdL_append]) (by repeat' (first | exact True.intro | refine And.intro ?_ ?_ | simp [AV.bd, bdL, bdL_append]))) ?_; simp only [updN, newO, AObj.ren, renL, AV.ren, apx, ap, if_true, if_false, Nat.reduceLT, Nat.reduceAdd, Nat.reduceSub, sO, intA, boolA, strA, ren_rulesY, ren_boolsY, ren_chsY]); apply jW; (refine wpt_all (rs := [8]) (by kernel_rfl) rfl ⟨?_, trivial⟩; (refine wpo_do (i := 8) rfl rfl ?_; (refine sc_o [0] rfl rfl (hO) (Lend.S (by first | ((repeat' first | exact RenL.nil | refine RenL.cons (by first | exact rfl | exact ren_p (by simp [AV.bd, bdL, bdL_append])) ?_); done) | fail) zq2 (by decide) rfl (by simp [AV.bd, bdL, bdL_append]) (by repeat' (first | exact True.intro | refine And.intro ?_ ?_ | simp [AV.bd, bdL, bdL_append]))) ?_; simp only [updN, newO, AObj.ren, renL, AV.ren, apx, ap, if_true, if_false, Nat.reduceLT, Nat.reduceAdd, Nat.reduceSub, sO, intA, boolA, strA, ren_rulesY, ren_boolsY, ren_chsY]); apply jW; (refine wpt_all (rs := [9]) (by kernel_rfl) rfl ⟨?_, trivial⟩; (refine wpo_do (i := 9) rfl rfl ?_; (refine sc_o [0] rfl rfl (hO2) (Lend.S (by first | ((repeat' first | exact RenL.nil | refine RenL.cons rfl ?_); done) | fail) zq2 (by decide) rfl (by simp [AV.bd, bdL, bdL_append]) (by repeat' (first | exact True.intro | refine And.intro ?_ ?_ | simp [AV.bd, bdL, bdL_append]))) ?_; simp only [updN, newO, AObj.ren, renL, AV.ren, apx, ap, if_true, if_false, Nat.reduceLT, Nat.reduceAdd, Nat.reduceSub, sO, intA, boolA, strA, ren_rulesY, ren_boolsY, ren_treY]); apply jW; (refine wpt_all (rs := [10]) (by kernel_rfl) rfl ⟨?_, trivial⟩; (refine wpo_do (i := 10) rfl rfl ?_; (refine se_lit (OpP.cons rfl (OpP.nil)) rfl rfl rfl rfl rfl rfl ?_); apply jW; (refine wpt_all (rs := [11]) (by kernel_rfl) rfl ⟨?_, trivial⟩; (refine wpo_do (i := 11) rfl rfl ?_; (refine se_app1 rfl rfl rfl rfl rfl rfl rfl rfl (by omega) ?_); apply jW; (refine wpt_take 12 rfl (by exact still_fieldAddr rfl rfl) (by exact ap_field_p (rq_p rfl rfl) rfl rfl) (by kernel_rfl) (by kernel_rfl) (by kernel_rfl) (by repeat (first | exact pind_p | apply pind_then | apply pind_block)) ?_; (refine wpt_all (rs := [13]) (by kernel_rfl) rfl ⟨?_, trivial⟩; (refine wpo_do (i := 13) rfl rfl ?_; (refine se_store_b rfl rfl rfl rfl ?_); apply jW; (refine wpt_end (by kernel_rfl) ?_))))))))))))))))) | (refine wpo_do (i := 6) rfl rfl ?_; (refine su (asub rfl rfl (by exact inr_i64_of (by omega))) ?_); apply jW; (refine wpt_all (rs := [1, 7]) (by kernel_rfl) rfl ⟨?_, ?_, trivial⟩ <;> (first | (refine wpo_do (i := 1) rfl rfl ?_; (refine sloadp rfl rfl rfl rfl ?_); apply jW; (refine wpt_all (rs := [7]) (by kernel_rfl) rfl ⟨?_, trivial⟩; (refine wpo_do (i := 7) rfl rfl ?_; (refine sc_o [0] rfl rfl (hru) (Lend.S (by first | ((repeat' first | exact RenL.nil | refine RenL.cons rfl ?_); done) | fail) zq2 (by decide) rfl (by simp [AV.bd, bdL, bdL_append]) (by repeat' (first | exact True.intro | refine And.intro ?_ ?_ | simp [AV.bd, bdL, bdL_append]))) ?_; simp only [updN, newO, AObj.ren, renL, AV.ren, apx, ap, if_true, if_false, Nat.reduceLT, Nat.reduceAdd, Nat.reduceSub, sO, intA, boolA, strA, ren_rulesY, ren_boolsY, ren_chsY]); apply jW; (refine wpt_all (rs := [8]) (by kernel_rfl) rfl ⟨?_, trivial⟩; (refine wpo_do (i := 8) rfl rfl ?_; (refine sc_o [0] rfl rfl (hO) (Lend.S (by first | ((repeat' first | exact RenL.nil | refine RenL.cons (by first | exact rfl | exact ren_p (by simp [AV.bd, bdL, bdL_append])) ?_); done) | fail) zq2 (by decide) rfl (by simp [AV.bd, bdL, bdL_append]) (by repeat' (first | exact True.intro | refine And.intro ?_ ?_ | simp [AV.bd, bdL, bdL_append]))) ?_; simp only [updN, newO, AObj.ren, renL, AV.ren, apx, ap, if_true, if_false, Nat.reduceLT, Nat.reduceAdd, Nat.reduceSub, sO, intA, boolA, strA, ren_rulesY, ren_boolsY, ren_chsY]); apply jW; (refine wpt_all (rs := [9]) (by kernel_rfl) rfl ⟨?_, trivial⟩; (refine wpo_do (i := 9) rfl rfl ?_; (refine sc_o [0] rfl rfl (hO2) (Lend.S (by first | ((repeat' first | exact RenL.nil | refine RenL.cons rfl ?_); done) | fail) zq2 (by decide) rfl (by simp [AV.bd, bdL, bdL_append]) (by repeat' (first | exact True.intro | refine And.intro ?_ ?_ | simp [AV.bd, bdL, bdL_append]))) ?_; simp only [updN, newO, AObj.ren, renL, AV.ren, apx, ap, if_true, if_false, Nat.reduceLT, Nat.reduceAdd, Nat.reduceSub, sO, intA, boolA, strA, ren_rulesY, ren_boolsY, ren_treY]); apply jW; (refine wpt_all (rs := [10]) (by kernel_rfl) rfl ⟨?_, trivial⟩; (refine wpo_do (i := 10) rfl rfl ?_; (refine se_lit (OpP.cons rfl (OpP.nil)) rfl rfl rfl rfl rfl rfl ?_); apply jW; (refine wpt_all (rs := [11]) (by kernel_rfl) rfl ⟨?_, trivial⟩; (refine wpo_do (i := 11) rfl rfl ?_; (refine se_app1 rfl rfl rfl rfl rfl rfl rfl rfl (by omega) ?_); apply jW; (refine wpt_take 12 rfl (by exact still_fieldAddr rfl rfl) (by exact ap_field_p (rq_p rfl rfl) rfl rfl) (by kernel_rfl) (by kernel_rfl) (by kernel_rfl) (by repeat (first | exact pind_p | apply pind_then | apply pind_block)) ?_; (refine wpt_all (rs := [13]) (by kernel_rfl) rfl ⟨?_, trivial⟩; (refine wpo_do (i := 13) rfl rfl ?_; (refine se_store_b rfl rfl rfl rfl ?_); apply jW; (refine wpt_end (by kernel_rfl) ?_))))))))))))))) | (refine wpo_do (i := 7) rfl rfl ?_; (refine sc_o [0] rfl rfl (hru) (Lend.S (by first | ((repeat' first | exact RenL.nil | refine RenL.cons rfl ?_); done) | fail) zq2 (by decide) rfl (by simp [AV.bd, bdL, bdL_append]) (by repeat' (first | exact True.intro | refine And.intro ?_ ?_ | simp [AV.bd, bdL, bdL_append]))) ?_; simp only [updN, newO, AObj.ren, renL, AV.ren, apx, ap, if_true, if_false, Nat.reduceLT, Nat.reduceAdd, Nat.reduceSub, sO, intA, boolA, strA, ren_rulesY, ren_boolsY, ren_chsY]); apply jW; (refine wpt_all (rs := [1, 8]) (by kernel_rfl) rfl ⟨?_, ?_, trivial⟩ <;> (first | (refine wpo_do (i := 1) rfl rfl ?_; (refine sloadp rfl rfl rfl rfl ?_); apply jW; (refine wpt_all (rs := [8]) (by kernel_rfl) rfl ⟨?_, trivial⟩; (refine wpo_do (i := 8) rfl rfl ?_; (refine sc_o [0] rfl rfl (hO) (Lend.S (by first | ((repeat' first | exact RenL.nil | refine RenL.cons (by first | exact rfl | exact ren_p (by simp [AV.bd, bdL, bdL_append])) ?_); done) | fail) zq2 (by decide) rfl (by simp [AV.bd, bdL, bdL_append]) (by repeat' (first | exact True.intro | refine And.intro ?_ ?_ | simp [AV.bd, bdL, bdL_append]))) ?_; simp only [updN, newO, AObj.ren, renL, AV.ren, apx, ap, if_true, if_false, Nat.reduceLT, Nat.reduceAdd, Nat.reduceSub, sO, intA, boolA, strA, ren_rulesY, ren_boolsY, ren_chsY]); apply jW; (refine wpt_all (rs := [9]) (by kernel_rfl) rfl ⟨?_, trivial⟩; (refine wpo_do (i := 9) rfl rfl ?_; (refine sc_o [0] rfl rfl (hO2) (Lend.S (by first | ((repeat' first | exact RenL.nil | refine RenL.cons rfl ?_); done) | fail) zq2 (by decide) rfl (by simp [AV.bd, bdL, bdL_append]) (by repeat' (first | exact True.intro | refine And.intro ?_ ?_ | simp [AV.bd, bdL, bdL_append]))) ?_; simp only [updN, newO, AObj.ren, renL, AV.ren, apx, ap, if_true, if_false, Nat.reduceLT, Nat.reduceAdd, Nat.reduceSub, sO, intA, boolA, strA, ren_rulesY, ren_boolsY, ren_treY]); apply jW; (refine wpt_all (rs := [10]) (by kernel_rfl) rfl ⟨?_, trivial⟩; (refine wpo_do (i := 10) rfl rfl ?_; (refine se_lit (OpP.cons rfl (OpP.nil)) rfl rfl rfl rfl rfl rfl ?_); apply jW; (refine wpt_all (rs := [11]) (by kernel_rfl) rfl ⟨?_, trivial⟩; (refine wpo_do (i := 11) rfl rfl ?_; (refine se_app1 rfl rfl rfl rfl rfl rfl rfl rfl (by omega) ?_); apply jW; (refine wpt_take 12 rfl (by exact still_fieldAddr rfl rfl) (by exact ap_field_p (rq_p rfl rfl) rfl rfl) (by kernel_rfl) (by kernel_rfl) (by kernel_rfl) (by repeat (first | exact pind_p | apply pind_then | apply pind_block)) ?_; (refine wpt_all (rs := [13]) (by kernel_rfl) rfl ⟨?_, trivial⟩; (refine wpo_do (i := 13) rfl rfl ?_; (refine se_store_b rfl rfl rfl rfl ?_); apply jW; (refine wpt_end (by kernel_rfl) ?_))))))))))))) | (refine wpo_do (i := 8) rfl rfl ?_; (refine sc_o [0] rfl rfl (hO) (Lend.S (by first | ((repeat' first | exact RenL.nil | refine RenL.cons (by first | exact rfl | exact ren_p (by simp [AV.bd, bdL, bdL_append])) ?_); done) | fail) zq2 (by decide) rfl (by simp [AV.bd, bdL, bdL_append]) (by repeat' (first | exact True.intro | refine And.intro ?_ ?_ | simp [AV.bd, bdL, bdL_append]))) ?_; simp only [updN, newO, AObj.ren, renL, AV.ren, apx, ap, if_true, if_false, Nat.reduceLT, Nat.reduceAdd, Nat.reduceSub, sO, intA, boolA, strA, ren_rulesY, ren_boolsY, ren_chsY]); apply jW; (refine wpt_all (rs := [1, 9]) (by kernel_rfl) rfl ⟨?_, ?_, trivial⟩ <;> (first | (refine wpo_do (i := 1) rfl rfl ?_; (refine sloadp rfl rfl rfl rfl ?_); apply jW; (refine wpt_all (rs := [9]) (by kernel_rfl) rfl ⟨?_, trivial⟩; (refine wpo_do (i := 9) rfl rfl ?_; (refine sc_o [0] rfl rfl (hO2) (Lend.S (by first | ((repeat' first | exact RenL.nil | refine RenL.cons rfl ?_); done) | fail) zq2 (by decide) rfl (by simp [AV.bd, bdL, bdL_append]) (by repeat' (first | exact True.intro | refine And.intro ?_ ?_ | simp [AV.bd, bdL, bdL_append]))) ?_; simp only [updN, newO, AObj.ren, renL, AV.ren, apx, ap, if_true, if_false, Nat.reduceLT, Nat.reduceAdd, Nat.reduceSub, sO, intA, boolA, strA, ren_rulesY, ren_boolsY, ren_treY]); apply jW; (refine wpt_all (rs := [10]) (by kernel_rfl) rfl ⟨?_, trivial⟩; (refine wpo_do (i := 10) rfl rfl ?_; (refine se_lit (OpP.cons rfl (OpP.nil)) rfl rfl rfl rfl rfl rfl ?_); apply jW; (refine wpt_all (rs := [11]) (by kernel_rfl) rfl ⟨?_, trivial⟩; (refine wpo_do (i := 11) rfl rfl ?_; (refine se_app1 rfl rfl rfl rfl rfl rfl rfl rfl (by omega) ?_); apply jW; (refine wpt_take 12 rfl (by exact still_fieldAddr rfl rfl) (by exact ap_field_p (rq_p rfl rfl) rfl rfl) (by kernel_rfl) (by kernel_rfl) (by kernel_rfl) (by repeat (first | exact pind_p | apply pind_then | apply pind_block)) ?_; (refine wpt_all (rs := [13]) (by kernel_rfl) rfl ⟨?_, trivial⟩; (refine wpo_do (i := 13) rfl rfl ?_; (refine se_store_b rfl rfl rfl rfl ?_); apply jW; (refine wpt_end (by kernel_rfl) ?_))))))))))) | (refine wpo_do (i := 9) rfl rfl ?_; (refine sc_o [0] rfl rfl (hO2) (Lend.S (by first | ((repeat' first | exact RenL.nil | refine RenL.cons rfl ?_); done) | fail) zq2 (by decide) rfl (by simp [AV.bd, bdL, bdL_append]) (by repeat' (first | exact True.intro | refine And.intro ?_ ?_ | simp [AV.bd, bdL, bdL_append]))) ?_; simp only [updN, newO, AObj.ren, renL, AV.ren, apx, ap, if_true, if_false, Nat.reduceLT, Nat.reduceAdd, Nat.reduceSub, sO, intA, boolA, strA, ren_rulesY, ren_boolsY, ren_treY]); apply jW; (refine wpt_all (rs := [1, 10]) (by kernel_rfl) rfl ⟨?_, ?_, trivial⟩ <;> (first | (refine wpo_do (i := 1) rfl rfl ?_; (refine sloadp rfl rfl rfl rfl ?_); apply jW; (refine wpt_all (rs := [10]) (by kernel_rfl) rfl ⟨?_, trivial⟩; (refine wpo_do (i := 10) rfl rfl ?_; (refine se_lit (OpP.cons rfl (OpP.nil)) rfl rfl rfl rfl rfl rfl ?_); apply jW; (refine wpt_all (rs := [11]) (by kernel_rfl) rfl ⟨?_, trivial⟩; (refine wpo_do (i := 11) rfl rfl ?_; (refine se_app1 rfl rfl rfl rfl rfl rfl rfl rfl (by omega) ?_); apply jW; (refine wpt_take 12 rfl (by exact still_fieldAddr rfl rfl) (by exact ap_field_p (rq_p rfl rfl) rfl rfl) (by kernel_rfl) (by kernel_rfl) (by kernel_rfl) (by repeat (first | exact pind_p | apply pind_then | apply pind_block)) ?_; (refine wpt_all (rs := [13]) (by kernel_rfl) rfl ⟨?_, trivial⟩; (refine wpo_do (i := 13) rfl rfl ?_; (refine se_store_b rfl rfl rfl rfl ?_); apply jW; (refine wpt_end (by kernel_rfl) ?_))))))))) | (refine wpo_do (i := 10) rfl rfl ?_; (refine se_lit (OpP.cons rfl (OpP.nil)) rfl rfl rfl rfl rfl rfl ?_); apply jW; (refine wpt_all (rs := [1]) (by kernel_rfl) rfl ⟨?_, trivial⟩; (refine wpo_do (i := 1) rfl rfl ?_; (refine sloadp rfl rfl rfl rfl ?_); apply jW; (refine wpt_all (rs := [11]) (by kernel_rfl) rfl ⟨?_, trivial⟩; (refine wpo_do (i := 11) rfl rfl ?_; (refine se_app1 rfl rfl rfl rfl rfl rfl rfl rfl (by omega) ?_); apply jW; (refine wpt_take 12 rfl (by exact still_fieldAddr rfl rfl) (by exact ap_field_p (rq_p rfl rfl) rfl rfl) (by kernel_rfl) (by kernel_rfl) (by kernel_rfl) (by repeat (first | exact pind_p | apply pind_then | apply pind_block)) ?_; (refine wpt_all (rs := [13]) (by kernel_rfl) rfl ⟨?_, trivial⟩; (refine wpo_do (i := 13) rfl rfl ?_; (refine se_store_b rfl rfl rfl rfl ?_); apply jW; (refine wpt_end (by kernel_rfl) ?_)))))))))))))))))))))))))))))))
        all_goals
         cases hq3 : chooseT ((bl s).drop a2) a2 [([32], .mk 0 0 [])] 0 with
         | err e =>
          have hX := hc3.dieC hq3
          rw [hq3] at hB
          simp only at hB
          rw [<- hB]
          all_goals ((repeat' (first | apply jT | apply jU | (refine wpl_region (id := 12) ?_; (refine wpl_step rfl ?_; (refine smove rfl ?_); apply jW; (refine wpl_step rfl ?_; (refine smove rfl ?_); apply jW; (refine wpl_step rfl ?_; (refine su (ap_build (RqP.nil) rfl) ?_); apply jW; (refine wpl_step rfl ?_; (refine su (ap_build (RqP.cons (rq_p rfl rfl) (RqP.cons (rq_p rfl rfl) (RqP.nil))) rfl) ?_); apply jW; (refine wpl_step rfl ?_; (refine se_lit (OpP.cons rfl (OpP.nil)) rfl rfl rfl rfl rfl rfl ?_); apply jW; refine wpl_frzm 73 hm rfl rfl (by first | exact rfl | fail) (by first | exact rfl | fail) rfl rfl ?_; ((refine wpl_x [0] rfl rfl (hX) (Lend.S (by first | ((repeat' first | exact RenL.nil | refine RenL.cons rfl ?_); done) | fail) zq2 (by decide) rfl (by simp [AV.bd, bdL, bdL_append]) (by repeat' (first | exact True.intro | refine And.intro ?_ ?_ | simp [AV.bd, bdL, bdL_append]))) ?_)))))))))))
          all_goals exact bp_p rfl
         | ok t3 a3 =>
          have hO3 := hc3.okC hq3
          have hle3 := choose_le (s := bl s) (by rw [bl_len]; omega) hq3
          rw [bl_len] at hle3
          rw [hq3] at hB
          simp only at hB
          have hmap : (ks ++ [t']).map treA = ks.map treA ++ [treA t'] := by rw [List.map_append]; rfl
          have hml : (ks ++ [t']).length = (ks.map treA ++ [treA t']).length := by simp
          all_goals ((repeat' (first | apply jH | apply jN | (refine wpl_region (id := 12) ?_; (refine wpl_step rfl ?_); (refine smove rfl ?_); (apply jW); (refine wpl_step rfl ?_); (refine smove rfl ?_); (apply jW); (refine wpl_step rfl ?_); (refine su (ap_build (RqP.nil) rfl) ?_); (apply jW); (refine wpl_step rfl ?_); (refine su (ap_build (RqP.cons (rq_p rfl rfl) (RqP.cons (rq_p rfl rfl) (RqP.nil))) rfl) ?_); (apply jW); (refine wpl_step rfl ?_); (refine se_lit (OpP.cons rfl (OpP.nil)) rfl rfl rfl rfl rfl rfl ?_); (apply jW); (refine wpl_frzm 73 hm rfl rfl (by first | exact rfl | fail) (by first | exact rfl | fail) rfl rfl ?_); (refine wpl_step rfl ?_); (refine sc_o [0] rfl rfl (hO3) (Lend.S (by first | ((repeat' first | exact RenL.nil | refine RenL.cons rfl ?_); done) | fail) zq2 (by decide) rfl (by simp [AV.bd, bdL, bdL_append]) (by repeat' (first | exact True.intro | refine And.intro ?_ ?_ | simp [AV.bd, bdL, bdL_append]))) ?_; simp only [updN, newO, AObj.ren, renL, AV.ren, apx, ap, if_true, if_false, Nat.reduceLT, Nat.reduceAdd, Nat.reduceSub, sO, intA, boolA, strA, ren_rulesY, ren_boolsY]); (apply jW); (apply jX)) | (refine rgC 13 ?_; (refine sadd rfl rfl (by exact inr_i64_of (by omega)) ?_); (refine smove rfl ?_); apply jW))))
          all_goals refine ⟨(j + 1, a3, ks ++ [t']), ⟨by simp only; omega, by simp only; omega, by simp only; omega, by simp only; omega, by simp only [List.length_append, List.length_cons, List.length_nil]; omega, hB⟩, ?_⟩
          all_goals simp only
          all_goals rw [hml, hmap]
          all_goals exact ⟨[0, 1, 2, 5], ToR.S rfl (by repeat' (first | exact rt_nil | refine rt_t rfl rfl ?_ | refine rt_e rfl rfl ?_ | refine rt_p rfl rfl (by first | (simp [AV.bd, bdL, bdL_append]; done) | fail) ?_)) (by repeat' (first | exact ro_nil | refine ro_e rfl rfl ?_ | refine ro_p rfl (by first | exact rfl | fail) zq5 ?_)) rfl (by (rw [hm]; exact rfl)) rfl zq4 (by repeat' (first | exact True.intro | exact rfl | refine And.intro ?_ ?_ | (simp [bdOq, bdL, bdL_append, AV.bd]; done))) (by (rw [hm]; exact nle rfl))⟩
   ·rw [List.drop_of_length_le (by omega), bodyT] at hB
    rw [<- hB]
    have hr : resT g s pr (.ok (.mk i 0 ks) a') = .ok (.agg [intA (i : Nat), intA 0, tresA ks]) [some (.arr 7 [.agg [strsA g.terms, strsA g.nonterms, intA g.start, rulesA g.rules, strA s, intA a', boolsA pr]])] := by
     show Res.ok (treA (.mk i 0 ks)) _ = _
     rw [treA_kids]; rfl
    simp only
    rw [hr]
    (repeat' (first | apply jA | apply jH | apply jJ | apply jL | apply jP | (refine wp_cond rfl (fun hc => ?_) (fun hc => ?_) <;> (try simp only [sB, ne_eq, reduceCtorEq] at hc) <;> (try (exfalso; omega))) | (refine rgC 3 ?_; (refine slss rfl rfl ?_); apply jW)))
    refine wp_frzom 1 2 hm rfl rfl rfl rfl rfl (bd_treA 0) (fun _ => rfl) rfl ?_
    (repeat' (first | apply jH | apply jK | (refine rgC 14 ?_; (refine sloadpw rfl rfl rfl rfl ?_); (refine se_store_b rfl rfl rfl rfl ?_); apply jW)))
    refine bp_r rfl ?_
    refine retO_L (x := .agg [intA (i : Nat), intA 0, tresA ks]) (k := 1) (os1 := [(0, some (.arr 7 [.agg [strsA g.terms, strsA g.nonterms, intA g.start, rulesA g.rules, strA s, intA a', boolsA pr]]))]) (.cellT rfl rfl rfl rfl .nil) rfl ⟨[0], ToR.S rfl (by repeat' (first | exact rt_nil | refine rt_p rfl rfl (by first | (simp [AV.bd, bdL, bdL_append]; done) | fail) ?_)) (by repeat' (first | exact ro_nil | refine ro_p rfl (by first | exact rfl | fail) zq5 ?_)) rfl rfl rfl zq4 zq3 (by exact nle rfl)⟩ rfl
  ·exact hfine
end Go.Lg
namespace Go.Lg
theorem pre_drop {c s : Tx} {a : Nat} (h : c <+: s.drop a) : s.drop a = c ++ s.drop (a + c.length) := by
 obtain ⟨r, e⟩ := h
 rw [<- List.drop_drop, <- e]; simp
section
variable {g : Gram} {pr : List Bool}
theorem body_back {rec : Nat -> Nat -> PT Tre} {s : Tx} : ∀ (xs : List Int) (a : Nat) (ks ks' : List Tre) (a' : Nat), a <= s.length -> bodyT rec g pr s xs a ks = .ok ks' a' ->
    (∀ x f a t a', x ∈ xs -> a <= s.length -> symT rec g pr s x [f] a = .ok t a' -> okT g x t = true /\ s.drop a = fmtT g t ++ f :: s.drop a' /\ a + szT t <= a' /\ a' <= s.length) ->
    ∃ ts, ks' = ks ++ ts /\ ts.length = xs.length /\ (∀ i, i < ts.length -> okT g (nth xs i) (nth ts i) = true) /\ (xs ≠ [] -> 32 :: s.drop a = fmtTL g ts ++ 41 :: s.drop a') /\ (xs = [] -> a' = a) /\ a + szTL ts <= a' /\ a' <= s.length
  | [], a, ks, ks', a', ha, h, _ => by
    rw [bodyT] at h
    injection h with h1 h2
    subst h1 h2
    exact ⟨[], by simp, rfl, fun i hi => by simp at hi, fun h => absurd rfl h, fun _ => rfl, by simp [szTL], ha⟩
  | x :: xs, a, ks, ks', a', ha, h, hs => by
    rw [bodyT, folT_is] at h
    cases h1 : symT rec g pr s x [fol1 xs.isEmpty] a with
    | err e => rw [h1] at h; cases h
    | ok t a1 =>
      rw [h1] at h
      obtain ⟨q1, q2, q3, q4⟩ := hs x _ a t a1 (by simp) ha h1
      obtain ⟨ts, r1, r2, r3, r4, r5, r6, r7⟩ := body_back xs a1 _ ks' a' q4 h fun y f b u b' hy => hs y f b u b' (by simp [hy])
      refine ⟨t :: ts, by rw [r1]; simp, by simp [r2], ?_, ?_, by simp, by rw [szTL]; omega, r7⟩
      · intro i hi
        cases i with
        | zero => exact q1
        | succ i => exact r3 i (by simpa using hi)
      · intro _
        rw [q2, fmtTL]
        cases xs with
        | nil =>
          have e : ts = [] := List.eq_nil_of_length_eq_zero r2
          subst e
          rw [r5 rfl]
          simp [fmtTL, fol1]
        | cons y ys =>
          have := r4 (by simp)
          simp only [fol1, List.isEmpty_cons, Bool.false_eq_true, if_false]
          rw [this]; simp
theorem kids_back (hv : GVal g) (s : Tx) : ∀ (k i a : Nat) (t : Tre) (a' : Nat), i < g.rules.length -> a <= s.length -> kidsT g pr s k i a = .ok t a' ->
  t.rule = (i : Int) /\ okT g (-1 - (nth g.rules i).head) t = true /\ (∀ a0, s.drop a0 = (chT g i).1 ++ s.drop a -> s.drop a0 = fmtT g t ++ s.drop a') /\ a + szT t <= a' + 1 /\ a' <= s.length := by
 intro k
 induction k with
 | zero => intro i a t a' _ _ h; simp [kidsT] at h
 | succ k ih =>
  intro i a t a' hi ha h
  have hrf := hv.rule _ (nth_mem hi)
  have h0 := hrf.h0
  have hsym : ∀ x f a t a', x ∈ (nth g.rules i).body -> a <= s.length -> symT (kidsT g pr s k) g pr s x [f] a = .ok t a' -> okT g x t = true /\ s.drop a = fmtT g t ++ f :: s.drop a' /\ a + szT t <= a' /\ a' <= s.length := by
   intro x f a t a' _ ha h
   unfold symT at h
   split at h
   ·rename_i hx
    have hl := choose_le ha h
    obtain ⟨c, hc, e1, e2, e3⟩ := choose_ok h
    obtain rfl := List.mem_singleton.1 hc
    have e3 := pre_drop e3
    simp only at e1 e2 e3
    subst e1
    refine ⟨(okT_leaf hx).2 rfl, ?_, ?_, hl.2⟩
    ·rw [<- e2] at e3
     rw [e3, <- fmtT_leaf]; simp [leafT]
    ·rw [szT_eq]; simp [szTL, Tre.kids]; simp at e2; omega
   ·rename_i hx
    cases h1 : chooseT (s.drop a) a (chR g pr (-1 - x) g.rules.length) 0 with
    | err e => rw [h1] at h; cases h
    | ok t1 a1 =>
     rw [h1] at h
     simp only at h
     have l1 := choose_le ha h1
     obtain ⟨c, hc, e1, e2, e3⟩ := choose_ok h1
     obtain ⟨j, hj, hh, _, rfl⟩ := mem_chR.1 hc
     have ej : t1.rule.toNat = j := by rw [e1]; rfl
     rw [ej] at h
     cases h2 : kidsT g pr s k j a1 with
     | err e => rw [h2] at h; cases h
     | ok t2 a2 =>
      rw [h2] at h
      simp only at h
      obtain ⟨q1, q2, q3, q4, q5⟩ := ih j a1 t2 a2 hj l1.2 h2
      cases h3 : chooseT (s.drop a2) a2 [([f], .mk 0 0 [])] 0 with
      | err e => rw [h3] at h; cases h
      | ok t3 a3 =>
       rw [h3] at h
       simp only at h
       have l3 := choose_le q5 h3
       obtain ⟨c', hc', _, f2, f3⟩ := choose_ok h3
       obtain rfl := List.mem_singleton.1 hc'
       have f3 := pre_drop f3
       injection h with h4 h5
       subst h4 h5
       have hlen : 1 <= (chT g j).1.length := by rw [ch_eq]; simp
       simp only [List.length_cons, List.length_nil] at f2 f3
       refine ⟨?_, ?_, by omega, l3.2⟩
       ·rcases hh with hh | hh
        ·omega
        ·rw [hh] at q2
         rw [show -1 - (-1 - x) = x by omega] at q2
         exact q2
       ·rw [q3 a (by rw [e2]; exact pre_drop e3), f3, f2]; simp
  rw [kidsT] at h
  cases h1 : bodyT (kidsT g pr s k) g pr s (nth g.rules i).body a [] with
  | err e => rw [h1] at h; cases h
  | ok ks a1 =>
   rw [h1] at h
   injection h with h4 h5
   subst h4 h5
   obtain ⟨ts, r1, r2, r3, r4, r5, r6, r7⟩ := body_back (nth g.rules i).body a [] ks a1 ha h1 hsym
   rw [List.nil_append] at r1
   subst r1
   refine ⟨rfl, (okT_in (by omega)).2 ⟨by simp [Tre.rule], by simpa [Tre.rule] using hi, rfl, by simp only [Tre.rule, Int.toNat_natCast]; omega, r2, r3⟩, ?_, ?_, r7⟩
   ·intro a0 e
    rw [e, ch_eq, fmtT_in g _ (by simp only [Tre.rule]; omega)]
    simp only [Tre.rule, Int.toNat_natCast, Tre.kids]
    cases hb : (nth g.rules i).body with
    | nil =>
     rw [hb] at r2
     have e : ks = [] := List.eq_nil_of_length_eq_zero r2
     subst e
     rw [r5 hb]
     simp [fmtTL, folT]
    | cons y ys =>
     have := r4 (by rw [hb]; simp)
     simp only [folT, List.isEmpty_cons, Bool.false_eq_true, if_false, List.append_assoc, List.cons_append, List.nil_append]
     rw [this]
   ·rw [szT_eq]; simp only [Tre.kids]; omega
theorem tree_back (hv : GVal g) {s : Tx} {t : Tre} {a : Nat} (h : treeT g pr s = .ok t a) : tokT g t /\ fmtT g t = s /\ szT t <= s.length + 1 := by
 unfold treeT at h
 cases hT : termT s g.terms 0 0 with
 | inl j =>
  rw [hT] at h
  simp only at h
  injection h with h1 h2
  subst h1 h2
  obtain ⟨_, q2, q3, q4⟩ := term_some hT
  rw [Nat.sub_zero] at q2 q3 q4
  have e1 : bl (nth g.terms j) = s := List.IsPrefix.eq_of_length ((lcp_full _ _).1 q3) (by omega)
  refine ⟨.inl ⟨rfl, by simp [Tre.term], by simp [Tre.term]; omega, rfl⟩, ?_, by rw [szT_eq]; simp [Tre.kids, szTL]⟩
  rw [show Tre.mk (-1) (j : Int) [] = leafT (j : Int) from rfl, fmtT_leaf, Int.toNat_natCast, e1]
 | inr M =>
  rw [hT] at h
  simp only at h
  split at h
  ·cases h
  ·cases h1 : chooseT s 0 (chR g pr (-1) g.rules.length) 0 with
   | err e => rw [h1] at h; cases h
   | ok t1 a1 =>
    rw [h1] at h
    simp only at h
    have h1' : chooseT (s.drop 0) 0 (chR g pr (-1) g.rules.length) 0 = .ok t1 a1 := by rw [List.drop_zero]; exact h1
    have l1 := choose_le (Nat.zero_le _) h1'
    obtain ⟨c, hc, e1, e2, e3⟩ := choose_ok h1'
    obtain ⟨j, hj, hh, _, rfl⟩ := mem_chR.1 hc
    have ej : t1.rule.toNat = j := by rw [e1]; rfl
    rw [ej] at h
    cases h2 : kidsT g pr s (s.length + 1) j a1 with
    | err e => rw [h2] at h; cases h
    | ok t2 a2 =>
     rw [h2] at h
     simp only at h
     obtain ⟨q1, q2, q3, q4, q5⟩ := kids_back hv s _ j a1 t2 a2 hj l1.2 h2
     split at h
     ·cases h
     ·injection h with h4 h5
      subst h4 h5
      have := q3 0 (by rw [e2]; exact pre_drop e3)
      rw [List.drop_zero, List.drop_of_length_le (by omega), List.append_nil] at this
      refine ⟨.inr ⟨by omega, by omega, ?_⟩, this.symm, by omega⟩
      rw [show t2.rule.toNat = j by omega]; exact q2
end
def jR := @bo_n
open Go.Proofs
attribute [local irreducible] Ap Rq asemC WP RunD Ret Gq thenA inBlockA bodyQ noGotoA RqL RqP OpP
attribute [local simp] AV.cells
theorem nodes_fn (t : Tre) : FnO Tryd.prog 33 [treA t] [] (.clo (.func 47) [] [.ptr 0 3 0 0]) [some (.arr 3 [treA t])] := by
 rw [treA_kids]
 refine FnO.intro (by exact nle rfl) rfl (by kernel_rfl) Tryd.func33 rfl rfl Tryd.ntmps33 (by exact nle rfl) ?_; intro Γ hm
 (repeat' (first | apply jA | apply jH | apply jK | apply jS | (refine rgC 0 ?_; (refine se_box rfl (by exact ⟨rfl, rfl⟩) ?_); (refine sassign rfl ?_); apply jW) | (refine rgC 1 ?_; (refine su (ap_clo (RqL.nil) (RqL.cons (rq_p rfl rfl) (RqL.nil))) ?_); (refine sassign rfl ?_); apply jW)))
 refine retO_L (x := .clo (.func 47) [] [.ptr 0 3 0 0]) (k := 1) (os1 := [(0, some (.arr 3 [.agg [intA t.rule, intA t.term, tresA t.kids]]))]) (.tmp rfl .nil) rfl ⟨[0], ToR.S rfl (by repeat' (first | exact rt_nil | refine rt_e rfl rfl ?_)) (by repeat' (first | exact ro_nil | refine ro_p rfl (by first | exact rfl | fail) zq5 ?_)) rfl rfl rfl zq4 zq3 (by exact nle rfl)⟩ rfl
theorem nodes1S_fn (c : LoopC) (hcp : c.params = #[6]) (hR : SizR Tryd.prog c) (t : Tre) (n : Int) (h0 : 0 <= n) (h1 : n + nodN t <= 1000000) : FnO Tryd.prog 47 [.yld 1, .ptr 2 3 0 0] [.arr 1 [intA n], .lop c tsS, .arr 3 [treA t]] (.tup [])
  [some (.arr 1 [intA (n + nodN t)]), some (.lop c tsS), some (.arr 3 [treA t])] := by
 have hw := walkS_fn c hcp hR t n h0 h1
 rw [treA_kids] at hw ⊢
 refine FnO.intro (by exact nle rfl) rfl (by kernel_rfl) Tryd.func47 rfl rfl Tryd.ntmps47 (by exact nle rfl) ?_; intro Γ hm
 (repeat' (first | apply jR | (refine rgC 0 ?_; (refine sloadpw rfl rfl rfl rfl ?_); (refine smove rfl ?_); (refine sc_o [0, 1] rfl rfl (hw) (Lend.S (by first | ((repeat' first | exact RenL.nil | refine RenL.cons (by first | exact rfl | exact ren_p (by simp [AV.bd, bdL, bdL_append])) ?_); done) | fail) (by first | ((repeat' first | exact LendO.nil | refine LendO.lop rfl (by first | exact rfl | fail) ?_ | refine LendO.arr rfl rfl ?_); done) | fail) (by decide) rfl (by simp [AV.bd, bdL, bdL_append]) (by repeat' (first | exact True.intro | refine And.intro ?_ ?_ | exact bdL_tl rfl | simp [AV.bd, bdL, bdL_append]))) ?_; simp only [updN, newO, AObj.ren, renL, AV.ren, apx, ap, if_true, if_false, Nat.reduceLT, Nat.reduceAdd, Nat.reduceSub, sO, intA, boolA, strA]); apply jW)))
 refine retO_L (x := .tup []) (k := 3) (os1 := [(0, some (.arr 1 [intA (n + nodN t)])), (1, some (.lop c tsS)), (2, some (.arr 3 [.agg [intA t.rule, intA t.term, tresA t.kids]]))]) .nil rfl ⟨[0, 1, 2], ToR.S rfl (by repeat' (first | exact rt_nil | refine rt_e rfl rfl ?_)) (by repeat' (first | exact ro_nil | refine ro_l rfl (by first | exact rfl | fail) ?_ | refine ro_e rfl rfl ?_ | refine ro_p rfl (by first | exact rfl | fail) zq5 ?_)) rfl rfl rfl zq4 (by repeat' (first | exact True.intro | exact rfl | refine And.intro ?_ ?_ | (simp [bdOq, bdL, bdL_append, AV.bd]; done))) (by exact nle rfl)⟩ rfl
theorem tsize_fn (t : Tre) (hz : nodN t <= 1000000) : Fn Tryd.prog 18 [treA t] (intA (nodN t)) := by
 have hn := nodes_fn t
 have h1 := fun c (hc : c.params = #[6] /\ SizR Tryd.prog c) => nodes1S_fn c hc.1 hc.2 t 0 (by omega) (by omega)
 rw [treA_kids] at hn h1 ⊢
 rw [Int.zero_add] at h1
 refine Fn.introK rfl (by kernel_rfl) Tryd.func18 rfl rfl Tryd.ntmps18 (by exact nle rfl) ?_; intro Γ hm hk
 (repeat' (first | apply jA | apply jF | apply jH | (refine rgC 0 ?_; (refine se_box rfl (by exact ⟨rfl, rfl⟩) ?_); (refine sassign rfl ?_); apply jW) | (refine rgC 1 ?_; (refine se_alloc rfl ?_); (refine se_store_b rfl rfl rfl rfl ?_); apply jW) | (refine rgC 2 ?_; (refine sloadpw rfl rfl rfl rfl ?_); (refine sc_o [] rfl rfl (hn) (Lend.S (by first | ((repeat' first | exact RenL.nil | refine RenL.cons (by exact ren_p (by simp [AV.bd, bdL, bdL_append])) ?_); done) | fail) (by first | ((repeat' (exact LendO.nil)); done) | fail) (by decide) rfl (by simp [AV.bd, bdL, bdL_append]) (by repeat' (exact True.intro))) ?_; simp only [updN, newO, AObj.ren, renL, AV.ren, apx, ap, if_true, if_false, Nat.reduceLT, Nat.reduceAdd, Nat.reduceSub, sO, intA, boolA, strA]); apply jW)))
 refine wp_rngC (fun c => c.params = #[6] /\ SizR Tryd.prog c) [1, 3, 2] 1 [(3, .ptr 1 1 0 0)] ⟨rfl, trivial⟩ tsS (fun c => [.arr 1 [intA 0], .lop c tsS, .arr 3 [.agg [intA t.rule, intA t.term, tresA t.kids]]])
  (fun c => [some (.arr 1 [intA (nodN t)]), some (.lop c tsS), some (.arr 3 [.agg [intA t.rule, intA t.term, tresA t.kids]])]) hk rfl rfl rfl ?_
  (fun c hc => h1 c hc) (fun c => nle rfl) (fun c hc => (Lend.S (by first | ((repeat' first | exact RenL.nil | refine RenL.cons rfl ?_); done) | fail) (by first | ((repeat' first | exact LendO.nil | refine LendO.lop rfl (by first | exact rfl | fail) ?_ | refine LendO.arr rfl (by first | exact rfl | (simp [renL, AV.ren, ren_pure, ap, intA, boolA, strA]; done)) ?_); done) | fail) (by decide) rfl (by simp [AV.bd, bdL, bdL_append]) (by repeat' (first | exact True.intro | refine And.intro ?_ ?_ | exact bdL_tl rfl | simp [AV.bd, bdL, bdL_append])))) ?_
 ·refine fun fn => ⟨rfl, fun n x h0 h1 => ?_⟩
  refine RoundC.intro (fun s => s = S 10 [(6, treA x), (3, .ptr 0 1 0 0)] 1 [(0, some (.arr 1 [intA n]))]) rfl rfl (nle rfl) ?_ ?_
  ·intro Γ k hm
   exact wpi_skip ⟨rfl, rfl⟩
  ·rintro Γ k _ hm rfl
   refine wpi_block ?_
   refine wpi_regionC (nodefer rfl) ?_
   (refine sloadpw rfl rfl rfl rfl ?_)
   (refine sadd rfl rfl (by exact inr_i64_of (by omega)) ?_)
   (refine se_store_b rfl rfl rfl rfl ?_)
   refine asemC_end ?_
   refine ⟨rfl, rfl, ?_⟩
   refine retO_L (x := .tup []) (k := 1) (os1 := [(0, some (.arr 1 [intA (n + 1)]))]) .nil rfl ⟨[0], ToR.S rfl (by repeat' (first | exact rt_nil | refine rt_e rfl rfl ?_)) (by repeat' (first | exact ro_nil | refine ro_e rfl rfl ?_)) rfl rfl rfl zq4 (by repeat' (first | exact True.intro | exact rfl | refine And.intro ?_ ?_)) (by exact nle rfl)⟩ rfl
 ·intro c hc
  refine ⟨rfl, ⟨c, _, by exact rfl⟩, ?_⟩
  simp only [updN, newO, AObj.ren, renL, AV.ren, apx, ap, if_true, if_false, Nat.reduceLT, Nat.reduceAdd, Nat.reduceSub, sO, intA, boolA, strA]
  (repeat' (first | apply jA | apply jH | apply jK | apply jN | apply jS | (refine rgC 4 ?_; (refine sloadpw rfl rfl rfl rfl ?_); (refine sassign rfl ?_); apply jW) | exact ret_eq rfl rfl rfl))
end Go.Lg
namespace Go.Lg
open Go.Proofs
attribute [local irreducible] Ap Rq asemC WP RunD Ret Gq thenA inBlockA bodyQ noGotoA RqL RqP OpP
attribute [local simp] AV.cells
theorem leavesTL_snocY (p : Tre) : ∀ l : List Tre, leavesTL (l ++ [p]) = leavesTL l ++ leavesT p
 | [] => by simp [leavesTL]
 | q :: l => by simp [leavesTL, leavesTL_snocY p l]
theorem leavesTL_app : ∀ (a b : List Tre), leavesTL (a ++ b) = leavesTL a ++ leavesTL b
 | [], b => by simp [leavesTL]
 | q :: l, b => by simp [leavesTL, leavesTL_app l b]
theorem leavesTL_take (l : List Tre) (i : Nat) : (leavesTL (l.take i)).length <= (leavesTL l).length := by
 have := leavesTL_app (l.take i) (l.drop i)
 rw [List.take_append_drop] at this
 rw [this, List.length_append]; omega
theorem ren_intL (π : Nat -> Nat) (L : List Int) : renL π (L.map intA) = L.map intA := renL_pure (by simp)
def lbox (r k : Nat) : AObj := .arr 1 [.ref r 1 0 k]
def larr (L : List Int) : AObj := .arr 1 (L.map intA)
def tsY : List AV := tl 16 [(3, .ptr 0 1 0 0)]
def YldR (P : Program) (c : LoopC) : Prop := ∀ (L : List Int) (x : Tre), L.length <= 1000000 ->
 (x.rule = -1 -> RoundC P c (tl 16 [(7, treA x), (3, .ptr 0 1 0 0)]) [lbox 1 L.length, larr L] [some (lbox 2 (L ++ [x.term]).length), none, some (larr (L ++ [x.term]))]) /\
 (x.rule ≠ -1 -> RoundC P c (tl 16 [(7, treA x), (3, .ptr 0 1 0 0)]) [lbox 1 L.length, larr L] [some (lbox 1 L.length), some (larr L)])
theorem yld_lend {n' M : Nat} {lx : List (Nat × AV)} {os : List (Nat × Option AObj)} {c : LoopC} {L : List Int} {r tm : Int} {ks : List Tre} (hcp : c.params = #[7]) (h0 : lkO 0 os = some (.arr 1 [.ref 2 1 0 L.length])) (h2 : lkO 2 os = some (.arr 1 (L.map intA))) (hM : Nat.blt 0 M = true) (hM2 : Nat.blt 2 M = true) :
  Lend [0, 2] (Lg.S n' lx M os) (putP tsY (c.params.toList.zip [.agg [intA r, intA tm, tresA ks]])) (tl 16 [(7, .agg [intA r, intA tm, tresA ks]), (3, .ptr 0 1 0 0)]) [lbox 1 L.length, larr L] := by
 rw [hcp]
 show Lend _ _ (putP (tl 16 [(3, .ptr 0 1 0 0)]) [(7, .agg [intA r, intA tm, tresA ks])]) _ _
 rw [putP_tl]
 refine Lend.T (rt_p rfl rfl (by simp [AV.bd, bdL]) (rt_t rfl rfl rt_nil)) (.arr h0 rfl (.arr h2 (renL_pure (by simp)).symm .nil)) (by decide) (show (Nat.blt 0 M && (Nat.blt 2 M && true)) = true by rw [hM, hM2]; rfl) (by simp [bdT, AV.bd, bdL]) ?_
 exact ⟨by simp [bdL, AV.bd], by simp, trivial⟩
theorem walkY_fn (c : LoopC) (hcp : c.params = #[7]) (hR : YldR Tryd.prog c) (t : Tre) : ∀ L : List Int, L.length + (leavesT t).length <= 1000000 -> FnO Tryd.prog 48 [treA t, .yld 1] [lbox 2 L.length, .lop c tsY, larr L] (boolA true)
  [some (lbox 3 (L ++ leavesT t).length), some (.lop c tsY), none, some (larr (L ++ leavesT t))] := by
 induction t using Tre.ind with
 | h t ih =>
  intro L h1
  have hlf := leaf_fn t
  obtain ⟨hr1, hr2⟩ := hR L t (by omega)
  rw [treA_kids] at hlf hr1 hr2 ⊢
  rw [leavesT_eq] at h1 ⊢
  generalize t.kids = kids at *
  generalize t.rule = rule at *
  generalize t.term = term at *
  clear t
  unfold lbox larr
  by_cases hq : rule = -1
  ·have hr := hr1 hq
   rw [if_pos hq] at h1 ⊢
   rw [decide_eq_true hq] at hlf
   refine FnO.intro (by exact nle rfl) rfl (by kernel_rfl) Tryd.func48 rfl rfl Tryd.ntmps48 (by exact nle rfl) ?_; intro Γ hm
   (repeat' (first | apply jA | apply jH | (refine rgC 0 ?_; (refine se_box rfl (by exact ⟨rfl, rfl⟩) ?_); (refine sassign rfl ?_); apply jW)))
   all_goals refine wpli_region ?_
   all_goals refine wpli_preC 2 ?_
   all_goals simp only [List.take_succ_cons, List.take_zero, List.drop_succ_cons, List.drop_zero]
   all_goals refine smove rfl ?_
   all_goals (refine sloadpw rfl rfl rfl rfl ?_)
   all_goals refine asemC_end ?_
   all_goals refine wpli_y (c := c) (ts := tsY) (id := 1) [0, 2] (xs := [.agg [intA rule, intA term, tresA kids]]) rfl rfl rfl rfl (by rw [hcp]; rfl) (by decide) (yld_lend hcp rfl rfl rfl rfl) hr ?_
   all_goals simp only [updN, newO, lbox, larr, AObj.ren, ren_intL, Option.map_some, Option.map_none, List.length_cons, List.length_nil, Nat.reduceAdd, Nat.reduceSub]
   all_goals refine wpli_endC ?_
   all_goals refine su (anot rfl) ?_
   all_goals refine asemC_end ?_
   all_goals ((repeat' (first | apply jA | apply jH | apply jI | apply jK | apply jM | apply jS | (refine wp_cond rfl (fun hc => ?_) (fun hc => ?_) <;> (try simp only [sB, ne_eq, reduceCtorEq] at hc) <;> (try (exfalso; omega))) | (refine rgC 3 ?_; (refine sloadpw rfl rfl rfl rfl ?_); (refine sc_p rfl rfl zq1 zq5 (hlf) ?_); apply jW) | (refine rgC 4 ?_; (refine sassign rfl ?_); apply jW))))
   refine retO_L (x := boolA true) (k := 4) (os1 := [(0, some (.arr 1 [.ref 3 1 0 (L ++ [term]).length])), (1, some (.lop c tsY)), (3, some (.arr 1 ((L ++ [term]).map intA)))]) (.tmp rfl .nil) rfl ⟨[0, 1, 2, 4], ToR.S rfl (by repeat' (first | exact rt_nil | refine rt_e rfl rfl ?_)) (by repeat' (first | exact ro_nil | refine ro_l rfl (by first | exact rfl | fail) ?_ | refine ro_e rfl rfl ?_ | refine ro_p rfl (by first | exact rfl | fail) (by first | exact bdL_map (fun _ => by exact rfl) _ | fail) ?_)) rfl rfl rfl zq4 (by repeat' (first | exact True.intro | exact rfl | refine And.intro ?_ ?_ | exact bdL_map (fun _ => by exact rfl) _)) (by exact nle rfl)⟩ rfl
  ·have hr := hr2 hq
   rw [if_neg hq] at h1 ⊢
   rw [decide_eq_false hq] at hlf
   refine FnO.intro (by exact nle rfl) rfl (by kernel_rfl) Tryd.func48 rfl rfl Tryd.ntmps48 (by exact nle rfl) ?_; intro Γ hm
   (repeat' (first | apply jA | apply jH | (refine rgC 0 ?_; (refine se_box rfl (by exact ⟨rfl, rfl⟩) ?_); (refine sassign rfl ?_); apply jW)))
   all_goals refine wpli_region ?_
   all_goals refine wpli_preC 2 ?_
   all_goals simp only [List.take_succ_cons, List.take_zero, List.drop_succ_cons, List.drop_zero]
   all_goals refine smove rfl ?_
   all_goals (refine sloadpw rfl rfl rfl rfl ?_)
   all_goals refine asemC_end ?_
   all_goals refine wpli_y (c := c) (ts := tsY) (id := 1) [0, 2] (xs := [.agg [intA rule, intA term, tresA kids]]) rfl rfl rfl rfl (by rw [hcp]; rfl) (by decide) (yld_lend hcp rfl rfl rfl rfl) hr ?_
   all_goals simp only [updN, newO, lbox, larr, AObj.ren, ren_intL, Option.map_some, Option.map_none, List.length_cons, List.length_nil, Nat.reduceAdd, Nat.reduceSub]
   all_goals refine wpli_endC ?_
   all_goals refine su (anot rfl) ?_
   all_goals refine asemC_end ?_
   all_goals ((repeat' (first | apply jA | apply jH | apply jI | (refine wp_cond rfl (fun hc => ?_) (fun hc => ?_) <;> (try simp only [sB, ne_eq, reduceCtorEq] at hc) <;> (try (exfalso; omega))) | (refine rgC 3 ?_; (refine sloadpw rfl rfl rfl rfl ?_); (refine sc_p rfl rfl zq1 zq5 (hlf) ?_); apply jW))))
   refine wp_mvr (id := 2) (ido := 0) rfl rfl rfl ?_
   refine wp_lens 8 rfl fun hl => ?_
   have hl : kids.length <= 9223372036854775807 := by have := hl; simp [AV.lens, lensL, tresA] at this; omega
   (repeat' (first | apply jF | apply jH | (refine rgC 5 ?_; (refine sfieldp rfl rfl rfl ?_); (refine sloadp rfl rfl rfl rfl ?_); (refine slenm rfl rfl ?_); (refine smove rfl ?_); apply jW)))
   refine wp_loop (fun (i : Nat) => i <= kids.length) (fun i => kids.length - i)
    (fun i => (S 25 [(1, .yld 1), (14, tresA kids), (15, intA (kids.length : Nat)), (16, intA (i : Nat))] 4 [(0, some (.arr 1 [.ref 3 1 0 (L ++ leavesTL (kids.take i)).length])), (1, some (.lop c tsY)), (3, some (.arr 1 ((L ++ leavesTL (kids.take i)).map intA)))])) 0 ?_ (Nat.zero_le _) ?_
   ·rw [show L ++ leavesTL (kids.take 0) = L by simp [leavesTL]]
    exact ⟨[0, 1, 2, 4], ToR.S rfl (by repeat' (first | exact rt_nil | refine rt_e rfl rfl ?_ | refine rt_p rfl rfl (by first | (simp [AV.bd, bdL, bdL_append]; done) | fail) ?_)) (by repeat' (first | exact ro_nil | refine ro_l rfl (by first | exact rfl | fail) ?_ | refine ro_e rfl rfl ?_ | refine ro_p rfl (by first | exact rfl | fail) (by first | exact bdL_map (fun _ => by exact rfl) _ | fail) ?_)) rfl (by (rw [hm]; exact rfl)) rfl zq4 (by repeat' (first | exact True.intro | exact rfl | refine And.intro ?_ ?_ | exact bdL_map (fun _ => by exact rfl) _)) (by (rw [hm]; exact nle rfl))⟩
   intro i hi
   by_cases hlt : i < kids.length
   ·have hn := leavesTL_snocY (nth kids i) (kids.take i)
    have ht := leavesTL_take kids (i + 1)
    rw [<- take_succ_nth hlt] at hn
    have hn2 := congrArg List.length hn
    rw [List.length_append] at hn2
    have hx := ih _ (nth_mem hlt) (L ++ leavesTL (kids.take i)) (by rw [List.length_append]; omega)
    rw [List.append_assoc, <- hn] at hx
    unfold lbox larr at hx
    (repeat' (first | apply jA | apply jF | apply jH | apply jI | apply jN | (refine wp_cond rfl (fun hc => ?_) (fun hc => ?_) <;> (try simp only [sB, ne_eq, reduceCtorEq] at hc) <;> (try (exfalso; omega))) | (refine rgC 6 ?_; (refine slss rfl rfl ?_); apply jW) | (refine rgC 7 ?_; (refine sidxn rfl rfl (by omega) ?_); (refine sloadw rfl rfl ?_); (refine se_alloc rfl ?_); (refine se_store_b rfl rfl rfl rfl ?_); apply jW) | (refine rgC 8 ?_; (refine sloadpw rfl rfl rfl rfl ?_); (refine smove rfl ?_); (refine sc_o [0, 1, 3] rfl rfl (hx) (Lend.S (by first | ((repeat' first | exact RenL.nil | refine RenL.cons (by first | exact rfl | exact ren_p (by simp [AV.bd, bdL, bdL_append])) ?_); done) | fail) (by first | ((repeat' first | exact LendO.nil | refine LendO.lop rfl (by first | exact rfl | fail) ?_ | refine LendO.arr rfl (by first | exact rfl | (refine (renL_pure ?_).symm; exact bdL_map (fun _ => by exact rfl) _)) ?_); done) | fail) (by decide) rfl (by simp [AV.bd, bdL, bdL_append]) (by repeat' (first | exact True.intro | refine And.intro ?_ ?_ | exact bdL_tl rfl | exact bdL_map (fun _ => by exact rfl) _ | simp [AV.bd, bdL, bdL_append]))) ?_; simp only [updN, newO, AObj.ren, renL, AV.ren, apx, ap, if_true, if_false, Nat.reduceLT, Nat.reduceAdd, Nat.reduceSub, sO, intA, boolA, strA, ren_intL]); (refine su (anot rfl) ?_); apply jW) | (refine rgC 10 ?_; (refine sadd rfl rfl (by exact inr_i64_of (by omega)) ?_); (refine smove rfl ?_); apply jW)))
    exact ⟨i + 1, ⟨by omega, by omega⟩, ⟨[0, 1, 2, 5], ToR.S rfl (by repeat' (first | exact rt_nil | refine rt_e rfl rfl ?_ | refine rt_p rfl rfl (by first | (simp [AV.bd, bdL, bdL_append]; done) | fail) ?_)) (by repeat' (first | exact ro_nil | refine ro_l rfl (by first | exact rfl | fail) ?_ | refine ro_e rfl rfl ?_ | refine ro_p rfl (by first | exact rfl | fail) (by first | exact bdL_map (fun _ => by exact rfl) _ | fail) ?_)) rfl (by (rw [hm]; exact rfl)) rfl zq4 (by repeat' (first | exact True.intro | exact rfl | refine And.intro ?_ ?_ | exact bdL_map (fun _ => by exact rfl) _)) (by (rw [hm]; exact nle rfl))⟩⟩
   ·have e1 : leavesTL kids = leavesTL (kids.take i) := by rw [List.take_of_length_le (by omega)]
    rw [e1]
    (repeat' (first | apply jA | apply jH | apply jJ | apply jK | apply jL | apply jP | apply jS | (refine wp_cond rfl (fun hc => ?_) (fun hc => ?_) <;> (try simp only [sB, ne_eq, reduceCtorEq] at hc) <;> (try (exfalso; omega))) | (refine rgC 6 ?_; (refine slss rfl rfl ?_); apply jW) | (refine rgC 11 ?_; (refine sassign rfl ?_); apply jW)))
    refine retO_L (x := boolA true) (k := 4) (os1 := [(0, some (.arr 1 [.ref 3 1 0 (L ++ leavesTL (kids.take i)).length])), (1, some (.lop c tsY)), (3, some (.arr 1 ((L ++ leavesTL (kids.take i)).map intA)))]) (.tmp rfl .nil) rfl ⟨[0, 1, 2, 3], ToR.S rfl (by repeat' (first | exact rt_nil | refine rt_e rfl rfl ?_)) (by repeat' (first | exact ro_nil | refine ro_l rfl (by first | exact rfl | fail) ?_ | refine ro_e rfl rfl ?_ | refine ro_p rfl (by first | exact rfl | fail) (by first | exact bdL_map (fun _ => by exact rfl) _ | fail) ?_)) rfl rfl rfl zq4 (by repeat' (first | exact True.intro | exact rfl | refine And.intro ?_ ?_ | exact bdL_map (fun _ => by exact rfl) _)) (by exact nle rfl)⟩ rfl
end Go.Lg
namespace Go.Lg
open Go.Proofs
attribute [local irreducible] Ap Rq asemC WP RunD Ret Gq thenA inBlockA bodyQ noGotoA RqL RqP OpP
attribute [local simp] AV.cells
theorem nodes1Y_fn (c : LoopC) (hcp : c.params = #[7]) (hR : YldR Tryd.prog c) (t : Tre) (h1 : (leavesT t).length <= 1000000) : FnO Tryd.prog 47 [.yld 1, .ptr 3 3 0 0] [lbox 2 0, .lop c tsY, larr [], .arr 3 [treA t]] (.tup [])
  [some (lbox 4 (leavesT t).length), some (.lop c tsY), none, some (.arr 3 [treA t]), some (larr (leavesT t))] := by
 have hw := walkY_fn c hcp hR t [] (by simpa using h1)
 rw [List.nil_append] at hw
 unfold lbox larr at hw ⊢
 rw [treA_kids] at hw ⊢
 refine FnO.intro (by exact nle rfl) rfl (by kernel_rfl) Tryd.func47 rfl rfl Tryd.ntmps47 (by exact nle rfl) ?_; intro Γ hm
 (repeat' (first | apply jR | (refine rgC 0 ?_; (refine sloadpw rfl rfl rfl rfl ?_); (refine smove rfl ?_); (refine sc_o [0, 1, 2] rfl rfl (hw) (Lend.S (by first | ((repeat' first | exact RenL.nil | refine RenL.cons (by first | exact rfl | exact ren_p (by simp [AV.bd, bdL, bdL_append])) ?_); done) | fail) (by first | ((repeat' first | exact LendO.nil | refine LendO.lop rfl (by first | exact rfl | fail) ?_ | refine LendO.arr rfl rfl ?_); done) | fail) (by decide) rfl (by simp [AV.bd, bdL, bdL_append]) (by repeat' (first | exact True.intro | refine And.intro ?_ ?_ | exact bdL_tl rfl | exact bdL_map (fun _ => by exact rfl) _ | simp [AV.bd, bdL, bdL_append]))) ?_; simp only [updN, newO, AObj.ren, renL, AV.ren, apx, ap, if_true, if_false, Nat.reduceLT, Nat.reduceAdd, Nat.reduceSub, sO, intA, boolA, strA, ren_intL]); apply jW)))
 refine retO_L (x := .tup []) (k := 5) (os1 := [(0, some (.arr 1 [.ref 4 1 0 (leavesT t).length])), (1, some (.lop c tsY)), (3, some (.arr 3 [.agg [intA t.rule, intA t.term, tresA t.kids]])), (4, some (.arr 1 ((leavesT t).map intA)))]) .nil rfl ⟨[0, 1, 2, 3, 4], ToR.S rfl (by repeat' (first | exact rt_nil | refine rt_e rfl rfl ?_)) (by repeat' (first | exact ro_nil | refine ro_l rfl (by first | exact rfl | fail) ?_ | refine ro_e rfl rfl ?_ | refine ro_p rfl (by first | exact rfl | fail) (by first | exact bdL_map (fun _ => by exact rfl) _ | (simp [bdL, bdL_append, AV.bd]; done) | fail) ?_)) rfl rfl rfl zq4 (by repeat' (first | exact True.intro | exact rfl | refine And.intro ?_ ?_ | exact bdL_map (fun _ => by exact rfl) _ | (simp [bdOq, bdL, bdL_append, AV.bd]; done))) (by exact nle rfl)⟩ rfl
theorem tyield_fn (t : Tre) (hz : (leavesT t).length <= 1000000) : Fn Tryd.prog 12 [treA t] (intsA (leavesT t)) := by
 have hn := nodes_fn t
 have h1 := fun c (hc : c.params = #[7] /\ YldR Tryd.prog c) => nodes1Y_fn c hc.1 hc.2 t hz
 unfold lbox larr at h1
 rw [treA_kids] at hn h1 ⊢
 refine Fn.introK (by simp [AV.bd, bdL, bdL_append]) (by kernel_rfl) Tryd.func12 rfl rfl Tryd.ntmps12 (by exact nle rfl) ?_; intro Γ hm hk
 (repeat' (first | apply jA | apply jH | (refine rgC 0 ?_; (refine se_box rfl (by exact ⟨rfl, rfl⟩) ?_); (refine sassign rfl ?_); apply jW) | (refine rgC 1 ?_; (refine se_alloc rfl ?_); apply jW)))
 refine wp_nilr 1 1 rfl ?_
 (repeat' (first | apply jF | apply jH | (refine rgC 2 ?_; (refine sloadpw rfl rfl rfl rfl ?_); (refine sc_o [] rfl rfl (hn) (Lend.S (by first | ((repeat' first | exact RenL.nil | refine RenL.cons (by exact ren_p (by simp [AV.bd, bdL, bdL_append])) ?_); done) | fail) (by first | ((repeat' (exact LendO.nil)); done) | fail) (by decide) rfl (by simp [AV.bd, bdL, bdL_append]) (by repeat' (exact True.intro))) ?_; simp only [updN, newO, AObj.ren, renL, AV.ren, apx, ap, if_true, if_false, Nat.reduceLT, Nat.reduceAdd, Nat.reduceSub, sO, intA, boolA, strA]); apply jW)))
 refine wp_rngC (fun c => c.params = #[7] /\ YldR Tryd.prog c) [1, 4, 2, 3] 1 [(3, .ptr 1 1 0 0)] ⟨rfl, trivial⟩ tsY (fun c => [.arr 1 [.ref 2 1 0 0], .lop c tsY, .arr 1 [], .arr 3 [.agg [intA t.rule, intA t.term, tresA t.kids]]])
  (fun c => [some (.arr 1 [.ref 4 1 0 (leavesT t).length]), some (.lop c tsY), none, some (.arr 3 [.agg [intA t.rule, intA t.term, tresA t.kids]]), some (.arr 1 ((leavesT t).map intA))]) hk rfl rfl rfl ?_
  (fun c hc => h1 c hc) (fun c => nle rfl) (fun c hc => (Lend.S (by first | ((repeat' first | exact RenL.nil | refine RenL.cons rfl ?_); done) | fail) (by first | ((repeat' first | exact LendO.nil | refine LendO.lop rfl (by first | exact rfl | fail) ?_ | refine LendO.arr rfl (by first | exact rfl | (simp [renL, AV.ren, ren_pure, ap, intA, boolA, strA]; done)) ?_); done) | fail) (by decide) rfl (by simp [AV.bd, bdL, bdL_append]) (by repeat' (first | exact True.intro | refine And.intro ?_ ?_ | exact bdL_tl rfl | simp [AV.bd, bdL, bdL_append])))) ?_
 ·refine fun fn => ⟨rfl, fun L x hL => ?_⟩
  have hlf := leaf_fn x
  unfold lbox larr
  rw [treA_kids] at hlf ⊢
  refine ⟨fun hq => ?_, fun hq => ?_⟩
  ·rw [decide_eq_true hq] at hlf
   refine RoundC.intro (fun s => ∃ z, s = S 16 [(4, .ptr 2 3 0 0), (7, .agg [intA x.rule, intA x.term, tresA x.kids]), (3, .ptr 0 1 0 0)] 3 [(2, some (.arr 3 [.agg [intA x.rule, intA x.term, tresA x.kids]])), (2, z), (0, some (.arr 1 [.ref 1 1 0 L.length])), (1, some (.arr 1 (L.map intA)))]) rfl rfl (nle rfl) ?_ ?_
   ·intro Γ k hm
    refine wpi_regionC (nodefer rfl) ?_
    (refine se_alloc rfl ?_)
    (refine se_store_b rfl rfl rfl rfl ?_)
    refine asemC_end ?_
    exact ⟨rfl, _, rfl⟩
   ·rintro Γ k _ hm ⟨z, rfl⟩
    refine wpi_block ?_
    refine wpi_seq (K := fun s => s = S 16 ((9, boolA true) :: (8, .agg [intA x.rule, intA x.term, tresA x.kids]) :: [(4, .ptr 2 3 0 0), (7, .agg [intA x.rule, intA x.term, tresA x.kids]), (3, .ptr 0 1 0 0)]) 3 [(2, some (.arr 3 [.agg [intA x.rule, intA x.term, tresA x.kids]])), (2, z), (0, some (.arr 1 [.ref 1 1 0 L.length])), (1, some (.arr 1 (L.map intA)))]) ?_ ?_
    ·refine wpi_regionC (nodefer rfl) ?_
     (refine sloadpw rfl rfl rfl rfl ?_)
     (refine sc_p rfl rfl zq1 zq5 (hlf) ?_)
     refine asemC_end ?_
     exact ⟨rfl, rfl⟩
    ·rintro _ rfl
     refine wpi_cond (b := true) rfl (fun hc => ?_) (fun hc => ?_)
     ·refine wpi_regionC (nodefer rfl) ?_
      (refine sloadpw rfl rfl rfl rfl ?_)
      (refine sfieldp rfl rfl rfl ?_)
      (refine sloadp rfl rfl rfl rfl ?_)
      (refine se_lit (OpP.cons rfl (OpP.nil)) rfl rfl rfl rfl rfl rfl ?_)
      (refine se_app1 rfl rfl rfl rfl rfl rfl rfl rfl (by omega) ?_)
      (refine se_store_b rfl rfl rfl rfl ?_)
      refine asemC_end ?_
      refine ⟨rfl, rfl, ?_⟩
      refine retO_L (x := .tup []) (k := 3) (os1 := [(0, some (.arr 1 [.ref 2 1 0 (L ++ [x.term]).length])), (2, some (.arr 1 ((L ++ [x.term]).map intA)))]) .nil rfl ⟨[0, 1, 4], ToR.S rfl (by repeat' (first | exact rt_nil | refine rt_e rfl rfl ?_)) (by repeat' (first | exact ro_nil | refine ro_e rfl rfl ?_ | refine ro_p rfl (by first | exact rfl | fail) (by first | exact bdL_map (fun _ => by exact rfl) _ | fail) ?_)) rfl rfl rfl zq4 (by repeat' (first | exact True.intro | exact rfl | refine And.intro ?_ ?_ | exact bdL_map (fun _ => by exact rfl) _)) (by exact nle rfl)⟩ rfl
     ·cases hc
  ·rw [decide_eq_false hq] at hlf
   refine RoundC.intro (fun s => ∃ z, s = S 16 [(4, .ptr 2 3 0 0), (7, .agg [intA x.rule, intA x.term, tresA x.kids]), (3, .ptr 0 1 0 0)] 3 [(2, some (.arr 3 [.agg [intA x.rule, intA x.term, tresA x.kids]])), (2, z), (0, some (.arr 1 [.ref 1 1 0 L.length])), (1, some (.arr 1 (L.map intA)))]) rfl rfl (nle rfl) ?_ ?_
   ·intro Γ k hm
    refine wpi_regionC (nodefer rfl) ?_
    (refine se_alloc rfl ?_)
    (refine se_store_b rfl rfl rfl rfl ?_)
    refine asemC_end ?_
    exact ⟨rfl, _, rfl⟩
   ·rintro Γ k _ hm ⟨z, rfl⟩
    refine wpi_block ?_
    refine wpi_seq (K := fun s => s = S 16 ((9, boolA false) :: (8, .agg [intA x.rule, intA x.term, tresA x.kids]) :: [(4, .ptr 2 3 0 0), (7, .agg [intA x.rule, intA x.term, tresA x.kids]), (3, .ptr 0 1 0 0)]) 3 [(2, some (.arr 3 [.agg [intA x.rule, intA x.term, tresA x.kids]])), (2, z), (0, some (.arr 1 [.ref 1 1 0 L.length])), (1, some (.arr 1 (L.map intA)))]) ?_ ?_
    ·refine wpi_regionC (nodefer rfl) ?_
     (refine sloadpw rfl rfl rfl rfl ?_)
     (refine sc_p rfl rfl zq1 zq5 (hlf) ?_)
     refine asemC_end ?_
     exact ⟨rfl, rfl⟩
    ·rintro _ rfl
     refine wpi_cond (b := false) rfl (fun hc => ?_) (fun hc => ?_)
     ·cases hc
     ·refine wpi_skip ⟨rfl, rfl, ?_⟩
      refine retO_L (x := .tup []) (k := 2) (os1 := [(0, some (.arr 1 [.ref 1 1 0 L.length])), (1, some (.arr 1 (L.map intA)))]) .nil rfl ⟨[0, 1], ToR.S rfl (by repeat' (first | exact rt_nil | refine rt_e rfl rfl ?_)) (by repeat' (first | exact ro_nil | refine ro_e rfl rfl ?_ | refine ro_p rfl (by first | exact rfl | fail) (by first | exact bdL_map (fun _ => by exact rfl) _ | fail) ?_)) rfl rfl rfl zq4 (by repeat' (first | exact True.intro | exact rfl | refine And.intro ?_ ?_ | exact bdL_map (fun _ => by exact rfl) _)) (by exact nle rfl)⟩ rfl
 ·intro c hc
  refine ⟨rfl, ⟨c, _, by exact rfl⟩, ?_⟩
  simp only [updN, newO, Option.map_some, Option.map_none, AObj.ren, ren_intL, renL, AV.ren, renL_pure, ren_pure, bdL_boolA, bdL_intA, bdL_strA, bd_boolA, bd_intA, bd_strA, bd_intsA, bd_strsA, apx, ap, List.length_cons, List.length_nil, List.getD_cons_zero, List.getD_cons_succ, Nat.lt_irrefl, if_true, if_false, Nat.zero_lt_succ, Nat.reduceLT, Nat.reduceAdd, Nat.reduceSub, Nat.sub_zero, Nat.sub_self, Nat.add_zero, intA, boolA, strA]
  (repeat' (first | apply jA | apply jH | apply jK | apply jN | apply jS | (refine rgC 6 ?_; (refine sloadpw rfl rfl rfl rfl ?_); (refine sassign rfl ?_); apply jW) | refine ret_sl rfl rfl rfl (fun _ => by exact rfl) (fun _ => rfl) ?_))
  all_goals rfl
end Go.Lg
namespace Go.Lg
open Go.Proofs
attribute [local irreducible] Ap Rq asemC WP RunD Ret Gq thenA inBlockA bodyQ noGotoA RqL RqP OpP
attribute [local simp] AV.cells
theorem priceTL_snocY (g : Gram) (p : Tre) : ∀ l : List Tre, priceTL g (l ++ [p]) = priceTL g l + priceT g p
 | [] => by simp [priceTL]
 | q :: l => by simp [priceTL, priceTL_snocY g p l]; omega
theorem szTL_take (l : List Tre) (i : Nat) : szTL (l.take i) <= szTL l := by
 have h : ∀ (a b : List Tre), szTL (a ++ b) = szTL a + szTL b := by
  intro a b
  induction a with
  | nil => rw [List.nil_append, szTL]; omega
  | cons p a ih => rw [List.cons_append, szTL, szTL, ih]; omega
 have := h (l.take i) (l.drop i)
 rw [List.take_append_drop] at this
 omega
theorem priceTL_bdY {g : Gram} : ∀ {l : List Tre}, (∀ x, x ∈ l -> 0 <= priceT g x /\ priceT g x <= 1000 * (szT x : Nat)) -> 0 <= priceTL g l /\ priceTL g l <= 1000 * (szTL l : Nat)
  | [], _ => by simp [priceTL, szTL]
  | t :: l, h => by
    have h1 := h t (by simp)
    have h2 := priceTL_bdY (l := l) fun x hx => h x (by simp [hx])
    rw [priceTL, szTL]; omega
theorem priceT_bdY {g : Gram} (hv : GVal g) (t : Tre) : ∀ x, okT g x t = true -> 0 <= priceT g t /\ priceT g t <= 1000 * (szT t : Nat) := by
 induction t using Tre.ind with
 | h t ih =>
  intro x hok
  rw [priceT_eq, szT_eq]
  by_cases hx : 0 <= x
  ·obtain rfl := (okT_leaf hx).1 hok
   simp [leafT, Tre.rule]; omega
  ·have hT := (okT_in (by omega)).1 hok
   have hr0 := hT.r0
   rw [if_neg (by omega)]
   have hrf := hv.rule _ (nth_mem hT.rn)
   have h0 := hrf.p0
   have h1 := hrf.p1
   have h2 := priceTL_bdY (g := g) (l := t.kids) fun y hy => by
    obtain ⟨i, hi, e⟩ := List.getElem_of_mem hy
    have := hT.kid i hi
    rw [nth_eq hi, e] at this
    exact ih y hy _ this
   omega
def prcN (g : Gram) (x : Tre) : Int := if x.rule = -1 then 0 else (nth g.rules x.rule.toNat).price
def tsP : List AV := tl 23 [(2, .ptr 2 4 0 0), (5, .ptr 0 1 0 0)]
def PriR (P : Program) (g : Gram) (c : LoopC) : Prop := ∀ (s : Int) (x : Tre), (x.rule = -1 \/ (0 <= x.rule /\ x.rule < g.rules.length)) -> 0 <= s -> s <= 1000000000 ->
 RoundC P c (tl 23 [(9, treA x), (2, .ptr 1 4 0 0), (5, .ptr 0 1 0 0)]) [.arr 1 [intA s], .arr 4 [gramA g]] [some (.arr 1 [intA (s + prcN g x)]), some (.arr 4 [gramA g])]
theorem pri_lend {n' M : Nat} {lx : List (Nat × AV)} {os : List (Nat × Option AObj)} {c : LoopC} {s : Int} {g : Gram} {r tm : Int} {ks : List Tre} (hcp : c.params = #[9]) (h0 : lkO 0 os = some (.arr 1 [intA s])) (h2 : lkO 2 os = some (.arr 4 [gramA g])) (hM : Nat.blt 0 M = true) (hM2 : Nat.blt 2 M = true) :
  Lend [0, 2] (Lg.S n' lx M os) (putP tsP (c.params.toList.zip [.agg [intA r, intA tm, tresA ks]])) (tl 23 [(9, .agg [intA r, intA tm, tresA ks]), (2, .ptr 1 4 0 0), (5, .ptr 0 1 0 0)]) [.arr 1 [intA s], .arr 4 [gramA g]] := by
 rw [hcp]
 show Lend _ _ (putP (tl 23 [(2, .ptr 2 4 0 0), (5, .ptr 0 1 0 0)]) [(9, .agg [intA r, intA tm, tresA ks])]) _ _
 rw [putP_tl]
 refine Lend.T (rt_p rfl rfl (by simp [AV.bd, bdL]) (rt_t rfl rfl (rt_t rfl rfl rt_nil))) (.arr h0 rfl (.arr h2 (renL_pure (by simp [bdL])).symm .nil)) (by decide) (show (Nat.blt 0 M && (Nat.blt 2 M && true)) = true by rw [hM, hM2]; rfl) (by simp [bdT, AV.bd, bdL]) ?_
 exact ⟨by simp [bdL, AV.bd], by simp [bdL], trivial⟩
theorem ren_gram (π : Nat -> Nat) (g : Gram) : renL π [gramA g] = [gramA g] := renL_pure (by simp [bdL])
theorem ren_gramA (π : Nat -> Nat) (g : Gram) : AV.ren π (gramA g) = gramA g := ren_pure (by simp)
theorem walkP_fn {g : Gram} (hv : GVal g) (c : LoopC) (hcp : c.params = #[9]) (hR : PriR Tryd.prog g c) (t : Tre) : ∀ (x s : Int), okT g x t = true -> 0 <= s -> s + 1000 * (szT t : Nat) <= 1000000000 -> FnO Tryd.prog 48 [treA t, .yld 1] [.arr 1 [intA s], .lop c tsP, .arr 4 [gramA g]] (boolA true)
  [some (.arr 1 [intA (s + priceT g t)]), some (.lop c tsP), some (.arr 4 [gramA g])] := by
 induction t using Tre.ind with
 | h t ih =>
  intro x s hok h0 h1
  have hlf := leaf_fn t
  have hin : t.rule = -1 \/ (0 <= t.rule /\ t.rule < g.rules.length) := by
   by_cases hx : 0 <= x
   ·obtain rfl := (okT_leaf hx).1 hok; exact .inl rfl
   ·have hT := (okT_in (by omega)).1 hok
    have := hT.r0
    have := hT.rn
    exact .inr ⟨by omega, by omega⟩
  have hr := hR s t hin h0 (by omega)
  have hkid : t.rule ≠ -1 -> ∀ i, i < t.kids.length -> ∃ y, okT g y (nth t.kids i) = true := fun hn i hi => by
   by_cases hx : 0 <= x
   ·obtain rfl := (okT_leaf hx).1 hok; exact absurd rfl hn
   ·exact ⟨_, ((okT_in (by omega)).1 hok).kid i hi⟩
  have hp : t.rule ≠ -1 -> 0 <= (nth g.rules t.rule.toNat).price /\ (nth g.rules t.rule.toNat).price <= 1000 := fun hn => by
   have hrf := hv.rule _ (nth_mem (show t.rule.toNat < g.rules.length by omega))
   exact ⟨hrf.p0, hrf.p1⟩
  unfold prcN at hr
  rw [treA_kids] at hlf hr ⊢
  rw [priceT_eq]
  rw [szT_eq] at h1
  generalize t.kids = kids at *
  generalize t.rule = rule at *
  generalize t.term = term at *
  clear t hok
  refine FnO.intro (by exact nle rfl) rfl (by kernel_rfl) Tryd.func48 rfl rfl Tryd.ntmps48 (by exact nle rfl) ?_; intro Γ hm
  (repeat' (first | apply jA | apply jH | (refine rgC 0 ?_; (refine se_box rfl (by exact ⟨rfl, rfl⟩) ?_); (refine sassign rfl ?_); apply jW)))
  all_goals refine wpli_region ?_
  all_goals refine wpli_preC 2 ?_
  all_goals simp only [List.take_succ_cons, List.take_zero, List.drop_succ_cons, List.drop_zero]
  all_goals refine smove rfl ?_
  all_goals (refine sloadpw rfl rfl rfl rfl ?_)
  all_goals refine asemC_end ?_
  all_goals refine wpli_y (c := c) (ts := tsP) (id := 1) [0, 2] (xs := [.agg [intA rule, intA term, tresA kids]]) rfl rfl rfl rfl (by rw [hcp]; rfl) (by decide) (pri_lend hcp rfl rfl rfl rfl) hr ?_
  all_goals simp only [updN, newO, AObj.ren, ren_gram, Option.map_some, List.length_cons, List.length_nil, Nat.reduceAdd, Nat.reduceSub]
  all_goals refine wpli_endC ?_
  all_goals refine su (anot rfl) ?_
  all_goals refine asemC_end ?_
  all_goals ((repeat' (first | apply jA | apply jH | apply jI | apply jK | apply jM | apply jS | (refine wp_cond rfl (fun hc => ?_) (fun hc => ?_) <;> (try simp only [sB, ne_eq, reduceCtorEq] at hc) <;> (try (exfalso; omega))) | (refine rgC 3 ?_; (refine sloadpw rfl rfl rfl rfl ?_); (refine sc_p rfl rfl zq1 zq5 (hlf) ?_); apply jW) | (refine rgC 4 ?_; (refine sassign rfl ?_); apply jW))))
  ·rw [if_pos (show rule < 0 by omega)]
   rw [if_pos hc]
   refine retO_L (x := boolA true) (k := 3) (os1 := [(0, some (.arr 1 [intA (s + 0)])), (1, some (.lop c tsP)), (2, some (.arr 4 [gramA g]))]) (.tmp rfl .nil) rfl ⟨[0, 1, 2], ToR.S rfl (by repeat' (first | exact rt_nil | refine rt_e rfl rfl ?_)) (by repeat' (first | exact ro_nil | refine ro_l rfl (by first | exact rfl | fail) ?_ | refine ro_e rfl rfl ?_ | refine ro_p rfl (by first | exact rfl | fail) zq5 ?_)) rfl rfl rfl zq4 (by repeat' (first | exact True.intro | exact rfl | refine And.intro ?_ ?_ | (simp [bdOq, bdL, bdL_append, AV.bd]; done))) (by exact nle rfl)⟩ rfl
  ·obtain ⟨p0, p1⟩ := hp hc
   rw [if_neg (show ¬ rule < 0 by omega)]
   rw [if_neg hc]
   generalize (nth g.rules rule.toNat).price = pr at *
   refine wp_lens 8 rfl fun hl => ?_
   have hl : kids.length <= 9223372036854775807 := by have := hl; simp [AV.lens, lensL, tresA] at this; omega
   (repeat' (first | apply jF | apply jH | (refine rgC 5 ?_; (refine sfieldp rfl rfl rfl ?_); (refine sloadp rfl rfl rfl rfl ?_); (refine slenm rfl rfl ?_); (refine smove rfl ?_); apply jW)))
   refine wp_loop (fun (i : Nat) => i <= kids.length) (fun i => kids.length - i)
    (fun i => (S 25 [(1, .yld 1), (14, tresA kids), (15, intA (kids.length : Nat)), (16, intA (i : Nat))] 3 [(0, some (.arr 1 [intA (s + pr + priceTL g (kids.take i))])), (1, some (.lop c tsP)), (2, some (.arr 4 [gramA g]))])) 0 ?_ (Nat.zero_le _) ?_
   ·rw [show s + pr + priceTL g (kids.take 0) = s + pr by simp [priceTL]]
    exact ⟨[0, 1, 2], ToR.S rfl (by repeat' (first | exact rt_nil | refine rt_e rfl rfl ?_ | refine rt_p rfl rfl (by first | (simp [AV.bd, bdL, bdL_append]; done) | fail) ?_)) (by repeat' (first | exact ro_nil | refine ro_l rfl (by first | exact rfl | fail) ?_ | refine ro_e rfl rfl ?_ | refine ro_p rfl (by first | exact rfl | fail) zq5 ?_)) rfl (by (rw [hm]; exact rfl)) rfl zq4 (by repeat' (first | exact True.intro | exact rfl | refine And.intro ?_ ?_ | (simp [bdOq, bdL, bdL_append, AV.bd]; done))) (by (rw [hm]; exact nle rfl))⟩
   intro i hi
   by_cases hlt : i < kids.length
   ·have hn := priceTL_snocY g (nth kids i) (kids.take i)
    have ht := szTL_take kids (i + 1)
    obtain ⟨y, hy⟩ := hkid hc i hlt
    have hbd := priceTL_bdY (g := g) (l := kids.take i) fun z hz => by
     obtain ⟨j, hj, e⟩ := List.getElem_of_mem hz
     rw [List.length_take] at hj
     obtain ⟨y', hy'⟩ := hkid hc j (by omega)
     rw [nth_eq (by omega)] at hy'
     rw [List.getElem_take] at e
     rw [e] at hy'
     exact priceT_bdY hv z _ hy'
    have hsz : szTL (kids.take (i + 1)) = szTL (kids.take i) + szT (nth kids i) := by
     rw [take_succ_nth hlt]
     generalize kids.take i = a
     induction a with
     | nil => simp [szTL]
     | cons p a ih => rw [List.cons_append, szTL, szTL, ih]; omega
    rw [<- take_succ_nth hlt] at hn
    have hx := ih _ (nth_mem hlt) y (s + pr + priceTL g (kids.take i)) hy (by omega) (by omega)
    rw [Int.add_assoc (s + pr), <- hn] at hx
    (repeat' (first | apply jA | apply jF | apply jH | apply jI | apply jN | (refine wp_cond rfl (fun hc => ?_) (fun hc => ?_) <;> (try simp only [sB, ne_eq, reduceCtorEq] at hc) <;> (try (exfalso; omega))) | (refine rgC 6 ?_; (refine slss rfl rfl ?_); apply jW) | (refine rgC 7 ?_; (refine sidxn rfl rfl (by omega) ?_); (refine sloadw rfl rfl ?_); (refine se_alloc rfl ?_); (refine se_store_b rfl rfl rfl rfl ?_); apply jW) | (refine rgC 8 ?_; (refine sloadpw rfl rfl rfl rfl ?_); (refine smove rfl ?_); (refine sc_o [0, 1, 2] rfl rfl (hx) (Lend.S (by first | ((repeat' first | exact RenL.nil | refine RenL.cons (by first | exact rfl | exact ren_p (by simp [AV.bd, bdL, bdL_append])) ?_); done) | fail) (by first | ((repeat' first | exact LendO.nil | refine LendO.lop rfl (by first | exact rfl | fail) ?_ | refine LendO.arr rfl (by first | exact rfl | (refine (renL_pure ?_).symm; (simp [AV.bd, bdL, bdL_append]; done))) ?_); done) | fail) (by decide) rfl (by simp [AV.bd, bdL, bdL_append]) (by repeat' (first | exact True.intro | refine And.intro ?_ ?_ | exact bdL_tl rfl | simp [AV.bd, bdL, bdL_append]))) ?_; simp only [updN, newO, AObj.ren, renL, AV.ren, apx, ap, if_true, if_false, Nat.reduceLT, Nat.reduceAdd, Nat.reduceSub, sO, intA, boolA, strA, ren_gram, ren_gramA]); (refine su (anot rfl) ?_); apply jW) | (refine rgC 10 ?_; (refine sadd rfl rfl (by exact inr_i64_of (by omega)) ?_); (refine smove rfl ?_); apply jW)))
    exact ⟨i + 1, ⟨by omega, by omega⟩, ⟨[0, 1, 2], ToR.S rfl (by repeat' (first | exact rt_nil | refine rt_e rfl rfl ?_ | refine rt_p rfl rfl (by first | (simp [AV.bd, bdL, bdL_append]; done) | fail) ?_)) (by repeat' (first | exact ro_nil | refine ro_l rfl (by first | exact rfl | fail) ?_ | refine ro_e rfl rfl ?_ | refine ro_p rfl (by first | exact rfl | fail) zq5 ?_)) rfl (by (rw [hm]; exact rfl)) rfl zq4 (by repeat' (first | exact True.intro | exact rfl | refine And.intro ?_ ?_ | (simp [bdOq, bdL, bdL_append, AV.bd]; done))) (by (rw [hm]; exact nle rfl))⟩⟩
   ·have e1 : priceTL g kids = priceTL g (kids.take i) := by rw [List.take_of_length_le (by omega)]
    rw [e1, <- Int.add_assoc]
    (repeat' (first | apply jA | apply jH | apply jJ | apply jK | apply jL | apply jP | apply jS | (refine wp_cond rfl (fun hc => ?_) (fun hc => ?_) <;> (try simp only [sB, ne_eq, reduceCtorEq] at hc) <;> (try (exfalso; omega))) | (refine rgC 6 ?_; (refine slss rfl rfl ?_); apply jW) | (refine rgC 11 ?_; (refine sassign rfl ?_); apply jW)))
    refine retO_L (x := boolA true) (k := 3) (os1 := [(0, some (.arr 1 [intA (s + pr + priceTL g (kids.take i))])), (1, some (.lop c tsP)), (2, some (.arr 4 [gramA g]))]) (.tmp rfl .nil) rfl ⟨[0, 1, 2], ToR.S rfl (by repeat' (first | exact rt_nil | refine rt_e rfl rfl ?_)) (by repeat' (first | exact ro_nil | refine ro_l rfl (by first | exact rfl | fail) ?_ | refine ro_e rfl rfl ?_ | refine ro_p rfl (by first | exact rfl | fail) zq5 ?_)) rfl rfl rfl zq4 (by repeat' (first | exact True.intro | exact rfl | refine And.intro ?_ ?_ | (simp [bdOq, bdL, bdL_append, AV.bd]; done))) (by exact nle rfl)⟩ rfl
theorem nodes1P_fn {g : Gram} (hv : GVal g) (c : LoopC) (hcp : c.params = #[9]) (hR : PriR Tryd.prog g c) (t : Tre) (x : Int) (hok : okT g x t = true) (h1 : szT t <= 900000) : FnO Tryd.prog 47 [.yld 1, .ptr 3 3 0 0] [.arr 1 [intA 0], .lop c tsP, .arr 4 [gramA g], .arr 3 [treA t]] (.tup [])
  [some (.arr 1 [intA (priceT g t)]), some (.lop c tsP), some (.arr 4 [gramA g]), some (.arr 3 [treA t])] := by
 have hw := walkP_fn hv c hcp hR t x 0 hok (by omega) (by omega)
 rw [Int.zero_add] at hw
 rw [treA_kids] at hw ⊢
 refine FnO.intro (by exact nle rfl) rfl (by kernel_rfl) Tryd.func47 rfl rfl Tryd.ntmps47 (by exact nle rfl) ?_; intro Γ hm
 (repeat' (first | apply jR | (refine rgC 0 ?_; (refine sloadpw rfl rfl rfl rfl ?_); (refine smove rfl ?_); (refine sc_o [0, 1, 2] rfl rfl (hw) (Lend.S (by first | ((repeat' first | exact RenL.nil | refine RenL.cons (by first | exact rfl | exact ren_p (by simp [AV.bd, bdL, bdL_append])) ?_); done) | fail) (by first | ((repeat' first | exact LendO.nil | refine LendO.lop rfl (by first | exact rfl | fail) ?_ | refine LendO.arr rfl (by first | exact rfl | (refine (renL_pure ?_).symm; (simp [AV.bd, bdL, bdL_append]; done))) ?_); done) | fail) (by decide) rfl (by simp [AV.bd, bdL, bdL_append]) (by repeat' (first | exact True.intro | refine And.intro ?_ ?_ | exact bdL_tl rfl | simp [AV.bd, bdL, bdL_append]))) ?_; simp only [updN, newO, AObj.ren, renL, AV.ren, apx, ap, if_true, if_false, Nat.reduceLT, Nat.reduceAdd, Nat.reduceSub, sO, intA, boolA, strA, ren_gram, ren_gramA]); apply jW)))
 refine retO_L (x := .tup []) (k := 4) (os1 := [(0, some (.arr 1 [intA (priceT g t)])), (1, some (.lop c tsP)), (2, some (.arr 4 [gramA g])), (3, some (.arr 3 [.agg [intA t.rule, intA t.term, tresA t.kids]]))]) .nil rfl ⟨[0, 1, 2, 3], ToR.S rfl (by repeat' (first | exact rt_nil | refine rt_e rfl rfl ?_)) (by repeat' (first | exact ro_nil | refine ro_l rfl (by first | exact rfl | fail) ?_ | refine ro_e rfl rfl ?_ | refine ro_p rfl (by first | exact rfl | fail) zq5 ?_)) rfl rfl rfl zq4 (by repeat' (first | exact True.intro | exact rfl | refine And.intro ?_ ?_ | (simp [bdOq, bdL, bdL_append, AV.bd]; done))) (by exact nle rfl)⟩ rfl
theorem tprice_fn {g : Gram} (hv : GVal g) (t : Tre) (x : Int) (hok : okT g x t = true) (h1 : szT t <= 900000) : Fn Tryd.prog 13 [gramA g, treA t] (intA (priceT g t)) := by
 have hn := nodes_fn t
 have hw := fun c (hc : c.params = #[9] /\ PriR Tryd.prog g c) => nodes1P_fn hv c hc.1 hc.2 t x hok h1
 rw [treA_kids] at hn hw ⊢
 refine Fn.introK rfl (by kernel_rfl) Tryd.func13 rfl rfl Tryd.ntmps13 (by exact nle rfl) ?_; intro Γ hm hk
 (repeat' (first | apply jA | apply jF | apply jH | (refine rgC 0 ?_; (refine se_box rfl (by exact ⟨rfl, rfl⟩) ?_); (refine se_box rfl (by exact ⟨rfl, rfl⟩) ?_); (refine sassign rfl ?_); apply jW) | (refine rgC 1 ?_; (refine se_alloc rfl ?_); (refine se_store_b rfl rfl rfl rfl ?_); apply jW) | (refine rgC 2 ?_; (refine sloadpw rfl rfl rfl rfl ?_); (refine sc_o [] rfl rfl (hn) (Lend.S (by first | ((repeat' first | exact RenL.nil | refine RenL.cons (by exact ren_p (by simp [AV.bd, bdL, bdL_append])) ?_); done) | fail) (by first | ((repeat' (exact LendO.nil)); done) | fail) (by decide) rfl (by simp [AV.bd, bdL, bdL_append]) (by repeat' (exact True.intro))) ?_; simp only [updN, newO, AObj.ren, renL, AV.ren, apx, ap, if_true, if_false, Nat.reduceLT, Nat.reduceAdd, Nat.reduceSub, sO, intA, boolA, strA]); apply jW)))
 refine wp_rngC (fun c => c.params = #[9] /\ PriR Tryd.prog g c) [2, 4, 0, 3] 1 [(2, .ptr 0 4 0 0), (5, .ptr 2 1 0 0)] ⟨rfl, rfl, trivial⟩ tsP (fun c => [.arr 1 [intA 0], .lop c tsP, .arr 4 [gramA g], .arr 3 [.agg [intA t.rule, intA t.term, tresA t.kids]]])
  (fun c => [some (.arr 1 [intA (priceT g t)]), some (.lop c tsP), some (.arr 4 [gramA g]), some (.arr 3 [.agg [intA t.rule, intA t.term, tresA t.kids]])]) hk rfl rfl rfl ?_
  (fun c hc => hw c hc) (fun c => nle rfl) (fun c hc => (Lend.S (by first | ((repeat' first | exact RenL.nil | refine RenL.cons rfl ?_); done) | fail) (by first | ((repeat' first | exact LendO.nil | refine LendO.lop rfl (by first | exact rfl | fail) ?_ | refine LendO.arr rfl (by first | exact rfl | (refine (renL_pure ?_).symm; (simp [AV.bd, bdL, bdL_append]; done)) | (simp [renL, AV.ren, ren_pure, ap, intA, boolA, strA]; done)) ?_); done) | fail) (by decide) rfl (by simp [AV.bd, bdL, bdL_append]) (by repeat' (first | exact True.intro | refine And.intro ?_ ?_ | exact bdL_tl rfl | simp [AV.bd, bdL, bdL_append])))) ?_
 ·refine fun fn => ⟨rfl, fun s y hy h0 hs => ?_⟩
  have hlf := leaf_fn y
  have hp : y.rule ≠ -1 -> 0 <= (nth g.rules y.rule.toNat).price /\ (nth g.rules y.rule.toNat).price <= 1000 := fun hn => by
   have hrf := hv.rule _ (nth_mem (show y.rule.toNat < g.rules.length by omega))
   exact ⟨hrf.p0, hrf.p1⟩
  have hr2 := hv.r2
  unfold prcN
  rw [treA_kids] at hlf ⊢
  have hmid : ∀ b : Bool, True := fun _ => trivial
  by_cases hq : y.rule = -1
  ·rw [decide_eq_true hq] at hlf
   rw [if_pos hq]
   refine RoundC.intro (fun s' => ∃ z, s' = S 23 [(6, .ptr 2 3 0 0), (9, .agg [intA y.rule, intA y.term, tresA y.kids]), (2, .ptr 1 4 0 0), (5, .ptr 0 1 0 0)] 3 [(2, some (.arr 3 [.agg [intA y.rule, intA y.term, tresA y.kids]])), (2, z), (0, some (.arr 1 [intA s])), (1, some (.arr 4 [gramA g]))]) rfl rfl (nle rfl) ?_ ?_
   ·intro Γ k hm
    refine wpi_regionC (nodefer rfl) ?_
    (refine se_alloc rfl ?_)
    (refine se_store_b rfl rfl rfl rfl ?_)
    refine asemC_end ?_
    exact ⟨rfl, _, rfl⟩
   ·rintro Γ k _ hm ⟨z, rfl⟩
    refine wpi_block ?_
    refine wpi_seq (K := fun s' => s' = S 23 ((12, boolA (!true)) :: (11, boolA true) :: (10, .agg [intA y.rule, intA y.term, tresA y.kids]) :: [(6, .ptr 2 3 0 0), (9, .agg [intA y.rule, intA y.term, tresA y.kids]), (2, .ptr 1 4 0 0), (5, .ptr 0 1 0 0)]) 3 [(2, some (.arr 3 [.agg [intA y.rule, intA y.term, tresA y.kids]])), (2, z), (0, some (.arr 1 [intA s])), (1, some (.arr 4 [gramA g]))]) ?_ ?_
    ·refine wpi_regionC (nodefer rfl) ?_
     (refine sloadpw rfl rfl rfl rfl ?_)
     (refine sc_p rfl rfl zq1 zq5 (hlf) ?_)
     (refine su (anot rfl) ?_)
     refine asemC_end ?_
     exact ⟨rfl, rfl⟩
    ·rintro _ rfl
     refine wpi_cond (b := false) rfl (fun hc => ?_) (fun hc => ?_)
     ·cases hc
     ·refine wpi_skip ⟨rfl, rfl, ?_⟩
      refine retO_L (x := .tup []) (k := 2) (os1 := [(0, some (.arr 1 [intA (s + 0)])), (1, some (.arr 4 [gramA g]))]) .nil rfl ⟨[0, 1], ToR.S rfl (by repeat' (first | exact rt_nil | refine rt_e rfl rfl ?_)) (by repeat' (first | exact ro_nil | refine ro_p rfl (by first | exact rfl | (simp; done) | fail) zq5 ?_)) rfl rfl rfl zq4 (by repeat' (first | exact True.intro | exact rfl | refine And.intro ?_ ?_ | (simp [bdOq, bdL, bdL_append, AV.bd]; done))) (by exact nle rfl)⟩ rfl
  ·obtain ⟨p0, p1⟩ := hp hq
   have hrn : 0 <= y.rule /\ y.rule < g.rules.length := hy.resolve_left hq
   rw [decide_eq_false hq] at hlf
   rw [if_neg hq]
   refine RoundC.intro (fun s' => ∃ z, s' = S 23 [(6, .ptr 2 3 0 0), (9, .agg [intA y.rule, intA y.term, tresA y.kids]), (2, .ptr 1 4 0 0), (5, .ptr 0 1 0 0)] 3 [(2, some (.arr 3 [.agg [intA y.rule, intA y.term, tresA y.kids]])), (2, z), (0, some (.arr 1 [intA s])), (1, some (.arr 4 [gramA g]))]) rfl rfl (nle rfl) ?_ ?_
   ·intro Γ k hm
    refine wpi_regionC (nodefer rfl) ?_
    (refine se_alloc rfl ?_)
    (refine se_store_b rfl rfl rfl rfl ?_)
    refine asemC_end ?_
    exact ⟨rfl, _, rfl⟩
   ·rintro Γ k _ hm ⟨z, rfl⟩
    refine wpi_block ?_
    refine wpi_seq (K := fun s' => s' = S 23 ((12, boolA (!false)) :: (11, boolA false) :: (10, .agg [intA y.rule, intA y.term, tresA y.kids]) :: [(6, .ptr 2 3 0 0), (9, .agg [intA y.rule, intA y.term, tresA y.kids]), (2, .ptr 1 4 0 0), (5, .ptr 0 1 0 0)]) 3 [(2, some (.arr 3 [.agg [intA y.rule, intA y.term, tresA y.kids]])), (2, z), (0, some (.arr 1 [intA s])), (1, some (.arr 4 [gramA g]))]) ?_ ?_
    ·refine wpi_regionC (nodefer rfl) ?_
     (refine sloadpw rfl rfl rfl rfl ?_)
     (refine sc_p rfl rfl zq1 zq5 (hlf) ?_)
     (refine su (anot rfl) ?_)
     refine asemC_end ?_
     exact ⟨rfl, rfl⟩
    ·rintro _ rfl
     refine wpi_cond (b := true) rfl (fun hc => ?_) (fun hc => ?_)
     ·refine wpi_draw (id := 5) 10 rfl mixed (by kernel_rfl) (by kernel_rfl) rfl ?_
      (refine rd_u rfl rfl (aloadpw rfl rfl rfl rfl) ?_)
      (refine rfieldp rfl rfl rfl ?_)
      (refine rloadp rfl rfl rfl rfl ?_)
      (refine rfieldp rfl rfl rfl ?_)
      (refine rloadp rfl rfl rfl rfl ?_)
      (refine rd_u rfl rfl (aidxz rfl rfl (by omega)) ?_)
      (refine rd_u rfl rfl (afieldi rfl rfl rfl) ?_)
      (refine rd_u rfl rfl (aloadi rfl rfl) ?_)
      (refine rd_u rfl rfl (aadd rfl rfl (by exact inr_i64_of (by omega))) ?_)
      (refine rd_store_b rfl rfl rfl rfl ?_)
      (refine runD_nil ⟨by kernel_rfl, ?_⟩)
      refine ⟨rfl, rfl, ?_⟩
      refine retO_L (x := .tup []) (k := 2) (os1 := [(0, some (.arr 1 [intA (s + (nth g.rules y.rule.toNat).price)])), (1, some (.arr 4 [gramA g]))]) .nil rfl ⟨[0, 1], ToR.S rfl (by repeat' (first | exact rt_nil | refine rt_e rfl rfl ?_)) (by repeat' (first | exact ro_nil | refine ro_e rfl rfl ?_ | refine ro_p rfl (by first | exact rfl | fail) zq5 ?_)) rfl rfl rfl zq4 (by repeat' (first | exact True.intro | exact rfl | refine And.intro ?_ ?_ | (simp [bdOq, bdL, bdL_append, AV.bd]; done))) (by exact nle rfl)⟩ rfl
     ·cases hc
 ·intro c hc
  refine ⟨rfl, ⟨c, _, by exact rfl⟩, ?_⟩
  simp only [updN, newO, Option.map_some, Option.map_none, AObj.ren, ren_gram, renL, AV.ren, renL_pure, ren_pure, bdL_boolA, bdL_intA, bdL_strA, bd_boolA, bd_intA, bd_strA, bd_intsA, bd_strsA, apx, ap, List.length_cons, List.length_nil, List.getD_cons_zero, List.getD_cons_succ, Nat.lt_irrefl, if_true, if_false, Nat.zero_lt_succ, Nat.reduceLT, Nat.reduceAdd, Nat.reduceSub, Nat.sub_zero, Nat.sub_self, Nat.add_zero, intA, boolA, strA]
  (repeat' (first | apply jA | apply jH | apply jK | apply jN | apply jS | (refine rgC 6 ?_; (refine sloadpw rfl rfl rfl rfl ?_); (refine sassign rfl ?_); apply jW) | exact ret_eq rfl rfl rfl))
  all_goals rfl
end Go.Lg
namespace Go.Lg
open Go.Proofs
attribute [local irreducible] Ap Rq asemC WP RunD Ret Gq thenA inBlockA bodyQ noGotoA RqL RqP OpP
attribute [local simp] AV.cells
noncomputable instance : DecidableEq Tre := fun _ _ => Classical.propDecidable _
mutual
def leftT : Tre -> Int -> Int -> Int
 | .mk _ _ l, lev, m => if 60 < lev \/ m <= 0 then -1 else leftTL l lev (m - 1)
def leftTL : List Tre -> Int -> Int -> Int
 | [], _, m => m
 | t :: l, lev, m => if 0 <= m then leftTL l lev (leftT t (lev + 1) m) else m
end
theorem leftT_eq (t : Tre) (lev m : Int) : leftT t lev m = if 60 < lev \/ m <= 0 then -1 else leftTL t.kids lev (m - 1) := by cases t; rw [leftT]; rfl
theorem leftT_bd (t : Tre) : ∀ lev m : Int, -1 <= leftT t lev m /\ (0 <= leftT t lev m -> (szT t : Int) <= m - leftT t lev m) /\ leftT t lev m <= max m (-1) := by
 induction t using Tre.ind with
 | h t ih =>
  intro lev m
  rw [leftT_eq, szT_eq]
  split
  ·omega
  ·have key : ∀ (l : List Tre) (m : Int), (∀ x, x ∈ l -> x ∈ t.kids) -> -1 <= m -> -1 <= leftTL l lev m /\ (0 <= leftTL l lev m -> (szTL l : Int) <= m - leftTL l lev m) /\ leftTL l lev m <= m := by
    intro l
    induction l with
    | nil => intro m _ hm; simp only [leftTL, szTL]; omega
    | cons a l ihl =>
     intro m hl hm
     rw [leftTL, szTL]
     split
     ·have h1 := ih a (hl a (by simp)) (lev + 1) m
      have h2 := ihl (leftT a (lev + 1) m) (fun x hx => hl x (by simp [hx])) h1.1
      omega
     ·omega
   have := key t.kids (m - 1) (fun _ h => h) (by omega)
   omega
theorem leftTL_neg {l : List Tre} {lev m : Int} (h : m < 0) : leftTL l lev m = m := by
 cases l with
 | nil => rfl
 | cons a l => rw [leftTL, if_neg (by omega)]
theorem left_fn (t : Tre) : ∀ lev m : Int, 0 <= lev -> lev <= 61 -> -1 <= m -> m <= 1000000 -> Fn Tryd.prog 14 [treA t, intA lev, intA m] (intA (leftT t lev m)) := by
 induction t using Tre.ind with
 | h t ih =>
  intro lev m h0 h1 h2 h3
  rw [leftT_eq, treA_kids]
  generalize t.kids = kids at *
  generalize t.rule = rule
  generalize t.term = term
  clear t
  refine Fn.intro rfl (by kernel_rfl) Tryd.func14 rfl rfl Tryd.ntmps14 (by exact nle rfl) ?_; intro Γ hm
  refine wp_lens 0 rfl fun hl => ?_
  have hl : kids.length <= 9223372036854775807 := by have := hl; simp [AV.lens, lensL, tresA] at this; omega
  by_cases hc0 : 60 < lev \/ m <= 0
  ·rw [if_pos hc0]
   (repeat' (first | apply jA | apply jH | apply jK | apply jM | apply jS | (refine wp_cond rfl (fun hc => ?_) (fun hc => ?_) <;> (try simp only [sB, ne_eq, reduceCtorEq] at hc) <;> (try (exfalso; omega))) | (refine rgC 0 ?_; (refine se_box rfl (by exact ⟨rfl, rfl⟩) ?_); (refine sassign rfl ?_); apply jW) | (refine rgC 1 ?_; (refine smove rfl ?_); (refine su (agtr rfl rfl) ?_); (refine smove rfl ?_); (refine sg (gq_vf rfl rfl) (fun he => ap_move (rq_p rfl rfl)) ?_); (refine sg (gq_vf rfl rfl) (fun he => ap_leq (rq_c rfl rfl) (rq_p rfl rfl)) ?_); (refine su (ap_or (rq_p rfl rfl) (rq_c rfl rfl)) ?_); apply jW) | (refine rgC 2 ?_; (refine sassign rfl ?_); apply jW) | exact ret_eq rfl rfl rfl))
  ·rw [if_neg hc0]
   (repeat' (first | apply jA | apply jF | apply jH | apply jI | (refine wp_cond rfl (fun hc => ?_) (fun hc => ?_) <;> (try simp only [sB, ne_eq, reduceCtorEq] at hc) <;> (try (exfalso; omega))) | (refine rgC 0 ?_; (refine se_box rfl (by exact ⟨rfl, rfl⟩) ?_); (refine sassign rfl ?_); apply jW) | (refine rgC 1 ?_; (refine smove rfl ?_); (refine su (agtr rfl rfl) ?_); (refine smove rfl ?_); (refine sg (gq_vf rfl rfl) (fun he => ap_move (rq_p rfl rfl)) ?_); (refine sg (gq_vf rfl rfl) (fun he => ap_leq (rq_c rfl rfl) (rq_p rfl rfl)) ?_); (refine su (ap_or (rq_p rfl rfl) (rq_c rfl rfl)) ?_); apply jW) | (refine rgC 3 ?_; (refine smove rfl ?_); (refine su (asub rfl rfl (by exact inr_i64_of (by omega))) ?_); (refine sassign rfl ?_); apply jW) | (refine rgC 4 ?_; (refine sassign rfl ?_); apply jW)))
   refine wp_loop (fun (x : Nat × Int) => x.1 <= kids.length /\ -1 <= x.2 /\ x.2 <= 1000000 /\ leftTL (kids.drop x.1) lev x.2 = leftTL kids lev (m - 1)) (fun x => kids.length - x.1)
    (fun x => (S 37 [(1, intA lev), (2, intA x.2), (3, .ptr 0 3 0 0), (7, intA (x.1 : Nat))] 1 [(0, some (.arr 3 [.agg [intA rule, intA term, tresA kids]]))])) (0, m - 1) ⟨[0], ToR.S rfl (by repeat' (first | exact rt_nil | refine rt_t rfl rfl ?_ | refine rt_e rfl rfl ?_)) (by repeat' (first | exact ro_nil | refine ro_p rfl (by first | exact rfl | fail) zq5 ?_)) rfl (by (rw [hm]; exact rfl)) rfl zq4 zq3 (by (rw [hm]; exact nle rfl))⟩ ⟨Nat.zero_le _, by simp only; omega, by simp only; omega, rfl⟩ ?_
   rintro ⟨i, m'⟩ ⟨hi, hm1, hm2, hL⟩
   simp only at hi hm1 hm2 hL ⊢
   by_cases hlt : i < kids.length
   ·have hd : kids.drop i = nth kids i :: kids.drop (i + 1) := by rw [List.drop_eq_getElem_cons hlt, nth_eq hlt]
    by_cases hm0 : 0 <= m'
    ·have hx := ih _ (nth_mem hlt) (lev + 1) m' (by omega) (by omega) hm1 hm2
     have hb := leftT_bd (nth kids i) (lev + 1) m'
     rw [hd, leftTL, if_pos hm0] at hL
     (repeat' (first | apply jA | apply jF | apply jH | apply jI | apply jN | (refine wp_cond rfl (fun hc => ?_) (fun hc => ?_) <;> (try simp only [sB, ne_eq, reduceCtorEq] at hc) <;> (try (exfalso; omega))) | (refine rgC 5 ?_; (refine smove rfl ?_); (refine sfieldp rfl rfl rfl ?_); (refine sloadp rfl rfl rfl rfl ?_); (refine slenm rfl rfl ?_); (refine slss rfl rfl ?_); (refine smove rfl ?_); (refine sg (gq_vt rfl rfl) (fun he => ap_move (rq_p rfl rfl)) ?_); (refine sg (gq_vt rfl rfl) (fun he => ap_geq (rq_c rfl rfl) (rq_p rfl rfl)) ?_); (refine su (ap_and (rq_p rfl rfl) (rq_c rfl rfl)) ?_); apply jW) | (refine rgC 7 ?_; (refine sfieldp rfl rfl rfl ?_); (refine sloadp rfl rfl rfl rfl ?_); (refine smove rfl ?_); (refine sidxn rfl rfl (by omega) ?_); (refine sloadw rfl rfl ?_); (refine smove rfl ?_); (refine sadd rfl rfl (by exact inr_i64_of (by omega)) ?_); (refine smove rfl ?_); (refine sc_p rfl rfl zq1 zq5 (hx) ?_); (refine sassign rfl ?_); apply jW) | (refine rgC 6 ?_; (refine smove rfl ?_); (refine sadd rfl rfl (by exact inr_i64_of (by omega)) ?_); (refine sassign rfl ?_); apply jW)))
     ·exact ⟨(i + 1, leftT (nth kids i) (lev + 1) m'), ⟨by simp only; omega, by simp only; omega, by simp only; omega, by simp only; omega, hL⟩, ⟨[0], ToR.S rfl (by repeat' (first | exact rt_nil | refine rt_t rfl rfl ?_ | refine rt_e rfl rfl ?_)) (by repeat' (first | exact ro_nil | refine ro_p rfl (by first | exact rfl | fail) zq5 ?_)) rfl (by (rw [hm]; exact rfl)) rfl zq4 zq3 (by (rw [hm]; exact nle rfl))⟩⟩
     all_goals (exfalso; omega)
    ·rw [leftTL_neg (by omega)] at hL
     rw [<- hL]
     (repeat' (first | apply jA | apply jH | apply jJ | apply jK | apply jL | apply jP | apply jS | (refine wp_cond rfl (fun hc => ?_) (fun hc => ?_) <;> (try simp only [sB, ne_eq, reduceCtorEq] at hc) <;> (try (exfalso; omega))) | (refine rgC 5 ?_; (refine smove rfl ?_); (refine sfieldp rfl rfl rfl ?_); (refine sloadp rfl rfl rfl rfl ?_); (refine slenm rfl rfl ?_); (refine slss rfl rfl ?_); (refine smove rfl ?_); (refine sg (gq_vt rfl rfl) (fun he => ap_move (rq_p rfl rfl)) ?_); (refine sg (gq_vt rfl rfl) (fun he => ap_geq (rq_c rfl rfl) (rq_p rfl rfl)) ?_); (refine su (ap_and (rq_p rfl rfl) (rq_c rfl rfl)) ?_); apply jW) | (refine rgC 8 ?_; (refine smove rfl ?_); (refine sassign rfl ?_); apply jW) | exact ret_eq rfl rfl rfl))
     all_goals ((exfalso; omega))
   ·rw [List.drop_of_length_le (by omega), leftTL] at hL
    rw [<- hL]
    (repeat' (first | apply jA | apply jH | apply jJ | apply jK | apply jL | apply jP | apply jS | (refine wp_cond rfl (fun hc => ?_) (fun hc => ?_) <;> (try simp only [sB, ne_eq, reduceCtorEq] at hc) <;> (try (exfalso; omega))) | (refine rgC 5 ?_; (refine smove rfl ?_); (refine sfieldp rfl rfl rfl ?_); (refine sloadp rfl rfl rfl rfl ?_); (refine slenm rfl rfl ?_); (refine slss rfl rfl ?_); (refine smove rfl ?_); (refine sg (gq_vt rfl rfl) (fun he => ap_move (rq_p rfl rfl)) ?_); (refine sg (gq_vt rfl rfl) (fun he => ap_geq (rq_c rfl rfl) (rq_p rfl rfl)) ?_); (refine su (ap_and (rq_p rfl rfl) (rq_c rfl rfl)) ?_); apply jW) | (refine rgC 8 ?_; (refine smove rfl ?_); (refine sassign rfl ?_); apply jW) | exact ret_eq rfl rfl rfl))
    all_goals ((exfalso; omega))
def fewT (t : Tre) (m : Int) : Bool := decide (0 <= leftT t 0 (m + 1))
theorem few_sz {t : Tre} {m : Int} (h : fewT t m = true) : (szT t : Int) <= m + 1 := by
 have := leftT_bd t 0 (m + 1)
 simp only [fewT, decide_eq_true_eq] at h
 omega
theorem fewT_fn (t : Tre) (m : Int) (h0 : 0 <= m) (h1 : m <= 900000) : Fn Tryd.prog 5 [treA t, intA m] (boolA (fewT t m)) := by
 have h := left_fn t 0 (m + 1) (by omega) (by omega) (by omega) (by omega)
 unfold fewT
 rw [treA_kids] at h ⊢
 refine Fn.intro rfl (by kernel_rfl) Tryd.func5 rfl rfl Tryd.ntmps5 (by exact nle rfl) ?_; intro Γ hm
 (repeat' (first | apply jA | apply jH | apply jK | apply jS | (refine rgC 0 ?_; (refine se_box rfl (by exact ⟨rfl, rfl⟩) ?_); (refine sassign rfl ?_); apply jW) | (refine rgC 1 ?_; (refine sloadpw rfl rfl rfl rfl ?_); (refine smove rfl ?_); (refine sadd rfl rfl (by exact inr_i64_of (by omega)) ?_); (refine sc_p rfl rfl zq1 zq5 (h) ?_); (refine su (ageq rfl rfl) ?_); (refine sassign rfl ?_); apply jW) | exact ret_eq rfl rfl rfl))
theorem tequal_fn (a : Tre) : ∀ b : Tre, Fn Tryd.prog 20 [treA a, treA b] (boolA (decide (a = b))) := by
 induction a using Tre.ind with
 | h a ih =>
  intro b
  have e1 : decide (a = b) = (decide (a.rule = b.rule) && decide (a.term = b.term) && decide (a.kids = b.kids)) := by
   rw [Bool.eq_iff_iff]; simp only [Bool.and_eq_true, decide_eq_true_eq]; exact tre_iffY
  rw [e1, treA_kids, treA_kids]
  refine Fn.intro rfl (by kernel_rfl) Tryd.func20 rfl rfl Tryd.ntmps20 (by exact nle rfl) ?_; intro Γ hm
  refine wp_lens 0 rfl fun hl => ?_
  have hl : a.kids.length <= 9223372036854775807 := by have := hl; simp [AV.lens, lensL, tresA] at this; omega
  (repeat' (first | apply jA | apply jF | apply jH | apply jI | apply jK | apply jM | apply jS | (refine wp_cond rfl (fun hc => ?_) (fun hc => ?_) <;> (try simp only [sB, ne_eq, reduceCtorEq] at hc) <;> (try (exfalso; omega))) | (refine rgC 0 ?_; (refine se_box rfl (by exact ⟨rfl, rfl⟩) ?_); (refine se_box rfl (by exact ⟨rfl, rfl⟩) ?_); (refine sassign rfl ?_); apply jW) | (refine rgC 1 ?_; (refine sfieldp rfl rfl rfl ?_); (refine sloadp rfl rfl rfl rfl ?_); (refine sfieldp rfl rfl rfl ?_); (refine sloadp rfl rfl rfl rfl ?_); (refine su (aneq rfl rfl) ?_); (refine smove rfl ?_); (refine sg (gq_vf rfl rfl) (fun he => ap_field_p (rq_p rfl rfl) rfl rfl) ?_); (refine sg (gq_vf rfl rfl) (fun he => ap_load_p (rq_c rfl rfl) rfl rfl rfl) ?_); (refine sg (gq_vf rfl rfl) (fun he => ap_field_p (rq_p rfl rfl) rfl rfl) ?_); (refine sg (gq_vf rfl rfl) (fun he => ap_load_p (rq_c rfl rfl) rfl rfl rfl) ?_); (refine sg (gq_vf rfl rfl) (fun he => ap_neq (rq_c rfl rfl) (rq_c rfl rfl)) ?_); (refine su (ap_or (rq_p rfl rfl) (rq_c rfl rfl)) ?_); (refine smove rfl ?_); (refine sg (gq_vf rfl rfl) (fun he => ap_field_p (rq_p rfl rfl) rfl rfl) ?_); (refine sg (gq_vf rfl rfl) (fun he => ap_load_p (rq_c rfl rfl) rfl rfl rfl) ?_); (refine sg (gq_vf rfl rfl) (fun he => ap_len_m rfl (rq_c rfl rfl)) ?_); (refine sg (gq_vf rfl rfl) (fun he => ap_field_p (rq_p rfl rfl) rfl rfl) ?_); (refine sg (gq_vf rfl rfl) (fun he => ap_load_p (rq_c rfl rfl) rfl rfl rfl) ?_); (refine sg (gq_vf rfl rfl) (fun he => ap_len_m rfl (rq_c rfl rfl)) ?_); (refine sg (gq_vf rfl rfl) (fun he => ap_neq (rq_c rfl rfl) (rq_c rfl rfl)) ?_); (refine su (ap_or (rq_p rfl rfl) (rq_c rfl rfl)) ?_); apply jW) | (refine rgC 2 ?_; (refine sassign rfl ?_); apply jW) | (refine rgC 3 ?_; (refine sfieldp rfl rfl rfl ?_); (refine sloadp rfl rfl rfl rfl ?_); (refine slenm rfl rfl ?_); (refine smove rfl ?_); apply jW) | refine ret_b rfl ?_))
  ·rw [<- e1, decide_eq_false]
   rintro rfl
   simp at hc
  have hc0 := hc
  refine wp_loop (fun (i : Nat) => i <= a.kids.length /\ a.kids.take i = b.kids.take i) (fun i => a.kids.length - i)
   (fun i => (S 46 [(2, .ptr 0 3 0 0), (3, .ptr 1 3 0 0), (29, intA (a.kids.length : Nat)), (30, intA (i : Nat))] 2 [(0, some (.arr 3 [.agg [intA a.rule, intA a.term, tresA a.kids]])), (1, some (.arr 3 [.agg [intA b.rule, intA b.term, tresA b.kids]]))])) 0 ⟨[0, 1], ToR.S rfl (by repeat' (first | exact rt_nil | refine rt_t rfl rfl ?_ | refine rt_e rfl rfl ?_)) (by repeat' (first | exact ro_nil | refine ro_p rfl (by first | exact rfl | fail) zq5 ?_)) rfl (by (rw [hm]; exact rfl)) rfl zq4 zq3 (by (rw [hm]; exact nle rfl))⟩ ⟨Nat.zero_le _, rfl⟩ ?_
  rintro i ⟨hi, hall⟩
  have hab : a.kids.length = b.kids.length := by omega
  by_cases hlt : i < a.kids.length
  ·have hx := ih _ (nth_mem hlt) (nth b.kids i)
   (repeat' (first | apply jA | apply jF | apply jH | apply jI | apply jK | apply jM | apply jN | apply jO | apply jS | (refine wp_cond rfl (fun hc => ?_) (fun hc => ?_) <;> (try simp only [sB, ne_eq, reduceCtorEq] at hc) <;> (try (exfalso; omega))) | (refine rgC 4 ?_; (refine slss rfl rfl ?_); apply jW) | (refine rgC 5 ?_; (refine smove rfl ?_); (refine sassign rfl ?_); apply jW) | (refine wp_draw (id := 6) 12 mixed (by kernel_rfl) (by kernel_rfl) rfl ?_ <;> (refine rfieldp rfl rfl rfl ?_) <;> (refine rloadp rfl rfl rfl rfl ?_) <;> (refine rmove rfl ?_) <;> (refine rd_u rfl rfl (aidxn rfl rfl (by omega)) ?_) <;> (refine rd_u rfl rfl (aloadw rfl rfl) ?_) <;> (refine rfieldp rfl rfl rfl ?_) <;> (refine rloadp rfl rfl rfl rfl ?_) <;> (refine rmove rfl ?_) <;> (refine rd_u rfl rfl (aidxn rfl rfl (by omega)) ?_) <;> (refine rd_u rfl rfl (aloadw rfl rfl) ?_) <;> (refine rd_call rfl rfl zq1 zq5 (hx) ?_) <;> (refine rd_u rfl rfl (anot rfl) ?_) <;> (refine rd_end (by kernel_rfl) ?_)) | (refine rgC 7 ?_; (refine sassign rfl ?_); apply jW) | (refine rgC 8 ?_; (refine sadd rfl rfl (by exact inr_i64_of (by omega)) ?_); (refine smove rfl ?_); apply jW) | refine ret_b rfl ?_))
   ·have : a.kids ≠ b.kids := by intro h; rw [h] at hc; exact hc rfl
    simp [this]
   ·exact ⟨i + 1, ⟨by omega, by omega, take_eq_succ (by omega) (by omega) hall hc⟩, ⟨[0, 1], ToR.S rfl (by repeat' (first | exact rt_nil | refine rt_t rfl rfl ?_ | refine rt_e rfl rfl ?_)) (by repeat' (first | exact ro_nil | refine ro_p rfl (by first | exact rfl | fail) zq5 ?_)) rfl (by (rw [hm]; exact rfl)) rfl zq4 zq3 (by (rw [hm]; exact nle rfl))⟩⟩
  (repeat' (first | apply jA | apply jH | apply jJ | apply jK | apply jL | apply jP | apply jS | (refine wp_cond rfl (fun hc => ?_) (fun hc => ?_) <;> (try simp only [sB, ne_eq, reduceCtorEq] at hc) <;> (try (exfalso; omega))) | (refine rgC 4 ?_; (refine slss rfl rfl ?_); apply jW) | (refine rgC 9 ?_; (refine sassign rfl ?_); apply jW) | refine ret_b rfl ?_))
  simp [eq_of_takes hab (by omega) hall, hc0.1]
theorem depTL_take (l : List Tre) (i : Nat) : depTL (l.take i) 0 <= szTL l := by
 have h : ∀ t : Tre, depT t <= szT t := by
  intro t
  induction t using Tre.ind with
  | h t ih =>
   rw [depT_eq, szT_eq]
   have key : ∀ (l : List Tre) (n : Nat), (∀ x, x ∈ l -> x ∈ t.kids) -> depTL l n <= max n (szTL l) := by
    intro l
    induction l with
    | nil => intro n _; simp only [depTL, szTL]; omega
    | cons a l ihl =>
     intro n hl
     have h1 := ih a (hl a (by simp))
     have h2 := ihl (max n (depT a)) fun x hx => hl x (by simp [hx])
     rw [depTL, szTL]; omega
   have := key t.kids 0 fun _ h => h
   omega
 have key : ∀ (l : List Tre) (n : Nat), depTL l n <= max n (szTL l) := by
  intro l
  induction l with
  | nil => intro n; simp only [depTL, szTL]; omega
  | cons a l ihl =>
   intro n
   have h1 := h a
   have h2 := ihl (max n (depT a))
   rw [depTL, szTL]; omega
 have h1 := key (l.take i) 0
 have h2 := szTL_take l i
 omega
theorem depth_fn (t : Tre) : szT t <= 1000000 -> Fn Tryd.prog 37 [treA t] (intA (depT t : Nat)) := by
 induction t using Tre.ind with
 | h t ih =>
  intro hz
  rw [szT_eq] at hz
  have hdt := depTL_take t.kids
  have hsz := fun (i : Nat) (hi : i < t.kids.length) => szTL_mem (nth_mem hi)
  rw [depT_eq, treA_kids]
  generalize t.kids = kids at *
  generalize t.rule = rule
  generalize t.term = term
  clear t
  refine Fn.intro rfl (by kernel_rfl) Tryd.func37 rfl rfl Tryd.ntmps37 (by exact nle rfl) ?_; intro Γ hm
  refine wp_lens 0 rfl fun hl => ?_
  have hl : kids.length <= 9223372036854775807 := by have := hl; simp [AV.lens, lensL, tresA] at this; omega
  (repeat' (first | apply jA | apply jF | apply jH | (refine rgC 0 ?_; (refine se_box rfl (by exact ⟨rfl, rfl⟩) ?_); (refine sassign rfl ?_); apply jW) | (refine rgC 1 ?_; (refine sassign rfl ?_); apply jW) | (refine rgC 2 ?_; (refine sfieldp rfl rfl rfl ?_); (refine sloadp rfl rfl rfl rfl ?_); (refine slenm rfl rfl ?_); (refine smove rfl ?_); apply jW)))
  refine wp_loop (fun (i : Nat) => i <= kids.length) (fun i => kids.length - i)
   (fun i => (S 20 [(3, intA (depTL (kids.take i) 0 : Nat)), (7, tresA kids), (8, intA (kids.length : Nat)), (9, intA (i : Nat))] 0 [])) 0 ⟨[], ToR.S rfl (by repeat' (first | exact rt_nil | refine rt_e rfl rfl ?_ | refine rt_p rfl rfl (by first | (simp [AV.bd, bdL, bdL_append]; done) | fail) ?_)) (by repeat' (exact ro_nil)) rfl (by (rw [hm]; exact rfl)) rfl zq4 (by repeat' (exact True.intro)) (by (rw [hm]; exact nle rfl))⟩ (Nat.zero_le _) ?_
  intro i hi
  have hdi := hdt i
  by_cases hlt : i < kids.length
  ·have hx := ih _ (nth_mem hlt) (by have := hsz i hlt; omega)
   have hdi2 := hdt (i + 1)
   have hsn := depTL_snoc (nth kids i) (kids.take i) 0
   rw [<- take_succ_nth hlt] at hsn
   (repeat' (first | apply jA | apply jF | apply jH | apply jI | apply jN | (refine wp_cond rfl (fun hc => ?_) (fun hc => ?_) <;> (try simp only [sB, ne_eq, reduceCtorEq] at hc) <;> (try (exfalso; omega))) | (refine rgC 3 ?_; (refine slss rfl rfl ?_); apply jW) | (refine rgC 4 ?_; (refine sidxn rfl rfl (by omega) ?_); (refine sloadw rfl rfl ?_); (refine se_alloc rfl ?_); (refine se_store_b rfl rfl rfl rfl ?_); apply jW) | (refine rgC 5 ?_; (refine smove rfl ?_); (refine sloadpw rfl rfl rfl rfl ?_); (refine sc_p rfl rfl zq1 zq5 (hx) ?_); (refine su (amax rfl rfl) ?_); (refine sassign rfl ?_); apply jW) | (refine rgC 6 ?_; (refine sadd rfl rfl (by exact inr_i64_of (by omega)) ?_); (refine smove rfl ?_); apply jW)))
   refine ⟨i + 1, ⟨by omega, by omega⟩, ?_⟩
   rw [hsn, show ((max (depTL (kids.take i) 0) (depT (nth kids i)) : Nat) : Int) = max ((depTL (kids.take i) 0 : Nat) : Int) ((depT (nth kids i) : Nat) : Int) by omega]
   exact ⟨[], ToR.S rfl (by repeat' (first | exact rt_nil | refine rt_e rfl rfl ?_ | refine rt_p rfl rfl (by first | (simp [AV.bd, bdL, bdL_append]; done) | fail) ?_)) (by repeat' (exact ro_nil)) rfl (by (rw [hm]; exact rfl)) rfl zq4 (by repeat' (exact True.intro)) (by (rw [hm]; exact nle rfl))⟩
  ·have e1 : depTL kids 0 = depTL (kids.take i) 0 := by rw [List.take_of_length_le (by omega)]
   rw [e1]
   (repeat' (first | apply jA | apply jH | apply jJ | apply jK | apply jL | apply jP | apply jS | (refine wp_cond rfl (fun hc => ?_) (fun hc => ?_) <;> (try simp only [sB, ne_eq, reduceCtorEq] at hc) <;> (try (exfalso; omega))) | (refine rgC 3 ?_; (refine slss rfl rfl ?_); apply jW) | (refine rgC 7 ?_; (refine smove rfl ?_); (refine sadd rfl rfl (by exact inr_i64_of (by omega)) ?_); (refine sassign rfl ?_); apply jW) | exact ret_eq rfl rfl rfl))
   all_goals (rfl)
end Go.Lg
namespace Go.Lg
open Go.Proofs
attribute [local irreducible] Ap Rq asemC WP RunD Ret Gq thenA inBlockA bodyQ noGotoA RqL RqP OpP
attribute [local simp] AV.cells
mutual
def lfT (n : Nat) : Tre -> Bool
 | .mk r _ l => if r < 0 then decide (r = -1) && decide (l.length = 0) else decide (r < n) && lfTL n l
def lfTL (n : Nat) : List Tre -> Bool
 | [] => true
 | t :: l => lfT n t && lfTL n l
end
theorem lfT_eq (n : Nat) (t : Tre) : lfT n t = if t.rule < 0 then decide (t.rule = -1) && decide (t.kids.length = 0) else decide (t.rule < n) && lfTL n t.kids := by cases t; rw [lfT]; rfl
theorem lfTL_iff (n : Nat) : ∀ l : List Tre, lfTL n l = true ↔ ∀ i, i < l.length -> lfT n (nth l i) = true
  | [] => by simp [lfTL]
  | t :: l => by
    rw [lfTL, Bool.and_eq_true, lfTL_iff n l]
    constructor
    · rintro ⟨h1, h2⟩ i hi
      cases i with
      | zero => exact h1
      | succ i => exact h2 i (by simpa using hi)
    · intro h
      exact ⟨h 0 (by simp), fun i hi => h (i + 1) (by simpa using hi)⟩
theorem lfTL_no {n : Nat} {l : List Tre} {i : Nat} (hi : i < l.length) (h : lfT n (nth l i) = false) : lfTL n l = false := by
 rw [Bool.eq_false_iff]
 intro h2
 rw [(lfTL_iff n l).1 h2 i hi] at h
 cases h
theorem liftable_fn (from_ : List Int) (hf : from_.length <= 1000) (t : Tre) : Fn Tryd.prog 28 [treA t, intsA from_] (boolA (lfT from_.length t)) := by
 induction t using Tre.ind with
 | h t ih =>
  have hlf := leaf_fn t
  rw [lfT_eq]
  rw [treA_kids] at hlf ⊢
  generalize t.kids = kids at *
  generalize t.rule = rule at *
  generalize t.term = term at *
  clear t
  refine Fn.intro rfl (by kernel_rfl) Tryd.func28 rfl rfl Tryd.ntmps28 (by exact nle rfl) ?_; intro Γ hm
  refine wp_lens 0 rfl fun hl => ?_
  have hl : kids.length <= 9223372036854775807 := by have := hl; simp [AV.lens, lensL, tresA] at this; omega
  by_cases hr : rule < 0
  ·rw [if_pos hr]
   (repeat' (first | apply jA | apply jH | apply jK | apply jM | apply jS | (refine wp_cond rfl (fun hc => ?_) (fun hc => ?_) <;> (try simp only [sB, ne_eq, reduceCtorEq] at hc) <;> (try (exfalso; omega))) | (refine rgC 0 ?_; (refine se_box rfl (by exact ⟨rfl, rfl⟩) ?_); (refine sassign rfl ?_); apply jW) | (refine rgC 1 ?_; (refine sfieldp rfl rfl rfl ?_); (refine sloadp rfl rfl rfl rfl ?_); (refine slss rfl rfl ?_); apply jW) | (refine rgC 2 ?_; (refine sloadpw rfl rfl rfl rfl ?_); (refine sc_p rfl rfl zq1 zq5 (hlf) ?_); (refine smove rfl ?_); (refine sg (gq_vt rfl rfl) (fun he => ap_field_p (rq_p rfl rfl) rfl rfl) ?_); (refine sg (gq_vt rfl rfl) (fun he => ap_load_p (rq_c rfl rfl) rfl rfl rfl) ?_); (refine sg (gq_vt rfl rfl) (fun he => ap_len_m rfl (rq_c rfl rfl)) ?_); (refine sg (gq_vt rfl rfl) (fun he => ap_eql (rq_c rfl rfl) (rq_p rfl rfl)) ?_); (refine su (ap_and (rq_p rfl rfl) (rq_c rfl rfl)) ?_); (refine sassign rfl ?_); apply jW) | refine ret_b rfl ?_))
   all_goals (grind)
  ·rw [if_neg hr]
   by_cases hn : rule < from_.length
   ·rw [decide_eq_true hn, Bool.true_and]
    (repeat' (first | apply jA | apply jF | apply jH | apply jI | (refine wp_cond rfl (fun hc => ?_) (fun hc => ?_) <;> (try simp only [sB, ne_eq, reduceCtorEq] at hc) <;> (try (exfalso; omega))) | (refine rgC 0 ?_; (refine se_box rfl (by exact ⟨rfl, rfl⟩) ?_); (refine sassign rfl ?_); apply jW) | (refine rgC 1 ?_; (refine sfieldp rfl rfl rfl ?_); (refine sloadp rfl rfl rfl rfl ?_); (refine slss rfl rfl ?_); apply jW) | (refine rgC 3 ?_; (refine sfieldp rfl rfl rfl ?_); (refine sloadp rfl rfl rfl rfl ?_); (refine smove rfl ?_); (refine slenm rfl rfl ?_); (refine su (ageq rfl rfl) ?_); apply jW) | (refine rgC 5 ?_; (refine sfieldp rfl rfl rfl ?_); (refine sloadp rfl rfl rfl rfl ?_); (refine slenm rfl rfl ?_); (refine smove rfl ?_); apply jW)))
    all_goals try (exfalso; omega)
    refine wp_loop (fun (i : Nat) => i <= kids.length /\ ∀ j, j < i -> lfT from_.length (nth kids j) = true) (fun i => kids.length - i)
     (fun i => (S 35 [(1, intsA from_), (24, tresA kids), (25, intA (kids.length : Nat)), (26, intA (i : Nat))] 0 [])) 0 ⟨[], ToR.S rfl (by repeat' (first | exact rt_nil | refine rt_e rfl rfl ?_ | refine rt_p rfl rfl (by first | (simp [AV.bd, bdL, bdL_append]; done) | fail) ?_)) (by repeat' (exact ro_nil)) rfl (by (rw [hm]; exact rfl)) rfl zq4 (by repeat' (exact True.intro)) (by (rw [hm]; exact nle rfl))⟩ ⟨Nat.zero_le _, fun j hj => by omega⟩ ?_
    rintro i ⟨hi, hall⟩
    by_cases hlt : i < kids.length
    ·have hx := ih _ (nth_mem hlt)
     (repeat' (first | apply jA | apply jF | apply jH | apply jI | apply jK | apply jM | apply jN | apply jO | apply jS | (refine wp_cond rfl (fun hc => ?_) (fun hc => ?_) <;> (try simp only [sB, ne_eq, reduceCtorEq] at hc) <;> (try (exfalso; omega))) | (refine rgC 6 ?_; (refine slss rfl rfl ?_); apply jW) | (refine rgC 7 ?_; (refine sidxn rfl rfl (by omega) ?_); (refine sloadw rfl rfl ?_); (refine se_alloc rfl ?_); (refine se_store_b rfl rfl rfl rfl ?_); apply jW) | (refine rgC 8 ?_; (refine sloadpw rfl rfl rfl rfl ?_); (refine smove rfl ?_); (refine sc_p rfl rfl zq1 zq5 (hx) ?_); (refine su (anot rfl) ?_); apply jW) | (refine rgC 9 ?_; (refine sassign rfl ?_); apply jW) | (refine rgC 10 ?_; (refine sadd rfl rfl (by exact inr_i64_of (by omega)) ?_); (refine smove rfl ?_); apply jW) | refine ret_b rfl ?_))
     ·rw [lfTL_no hlt hc]
     ·exact ⟨i + 1, ⟨by omega, by omega, fun j hj => by
       by_cases e : j = i
       ·subst e; exact hc
       ·exact hall j (by omega)⟩, ⟨[], ToR.S rfl (by repeat' (first | exact rt_nil | refine rt_e rfl rfl ?_ | refine rt_p rfl rfl (by first | (simp [AV.bd, bdL, bdL_append]; done) | fail) ?_)) (by repeat' (exact ro_nil)) rfl (by (rw [hm]; exact rfl)) rfl zq4 (by repeat' (exact True.intro)) (by (rw [hm]; exact nle rfl))⟩⟩
    ·rw [(lfTL_iff from_.length kids).2 fun j hj => hall j (by omega)]
     (repeat' (first | apply jA | apply jH | apply jJ | apply jK | apply jL | apply jP | apply jS | (refine wp_cond rfl (fun hc => ?_) (fun hc => ?_) <;> (try simp only [sB, ne_eq, reduceCtorEq] at hc) <;> (try (exfalso; omega))) | (refine rgC 6 ?_; (refine slss rfl rfl ?_); apply jW) | (refine rgC 11 ?_; (refine sassign rfl ?_); apply jW) | exact ret_eq rfl rfl rfl))
   ·rw [decide_eq_false hn, Bool.false_and]
    (repeat' (first | apply jA | apply jH | apply jI | apply jK | apply jM | apply jS | (refine wp_cond rfl (fun hc => ?_) (fun hc => ?_) <;> (try simp only [sB, ne_eq, reduceCtorEq] at hc) <;> (try (exfalso; omega))) | (refine rgC 0 ?_; (refine se_box rfl (by exact ⟨rfl, rfl⟩) ?_); (refine sassign rfl ?_); apply jW) | (refine rgC 1 ?_; (refine sfieldp rfl rfl rfl ?_); (refine sloadp rfl rfl rfl rfl ?_); (refine slss rfl rfl ?_); apply jW) | (refine rgC 3 ?_; (refine sfieldp rfl rfl rfl ?_); (refine sloadp rfl rfl rfl rfl ?_); (refine smove rfl ?_); (refine slenm rfl rfl ?_); (refine su (ageq rfl rfl) ?_); apply jW) | (refine rgC 4 ?_; (refine sassign rfl ?_); apply jW) | exact ret_eq rfl rfl rfl))
    all_goals ((exfalso; omega))
end Go.Lg
namespace Go.Lg
mutual
def liftT (fr : List Int) : Tre -> List Tre
 | .mk r t l => if r = -1 then [.mk r t l] else if nth fr r.toNat = -1 then liftTL fr l else [.mk (nth fr r.toNat) 0 (liftTL fr l)]
def liftTL (fr : List Int) : List Tre -> List Tre
 | [] => []
 | t :: l => liftT fr t ++ liftTL fr l
end
theorem liftT_eq (fr : List Int) (t : Tre) : liftT fr t = if t.rule = -1 then [t] else if nth fr t.rule.toNat = -1 then liftTL fr t.kids else [.mk (nth fr t.rule.toNat) 0 (liftTL fr t.kids)] := by cases t; rw [liftT]; rfl
theorem liftTL_snoc (fr : List Int) (t : Tre) : ∀ l : List Tre, liftTL fr (l ++ [t]) = liftTL fr l ++ liftT fr t
 | [] => by simp [liftTL]
 | q :: l => by rw [List.cons_append, liftTL, liftTL, liftTL_snoc fr t l, List.append_assoc]
theorem liftT_len (fr : List Int) (t : Tre) : (liftT fr t).length <= szT t := by
 induction t using Tre.ind with
 | h t ih =>
  have key : ∀ l : List Tre, (∀ x, x ∈ l -> x ∈ t.kids) -> (liftTL fr l).length <= szTL l := by
   intro l
   induction l with
   | nil => intro _; simp [liftTL]
   | cons a l ihl =>
    intro hl
    have h1 := ih a (hl a (by simp))
    have h2 := ihl fun x hx => hl x (by simp [hx])
    rw [liftTL, szTL, List.length_append]; omega
  have := key t.kids fun _ h => h
  rw [liftT_eq, szT_eq]
  split
  ·simp
  ·split
   ·omega
   ·simp
theorem liftTL_len (fr : List Int) : ∀ l : List Tre, (liftTL fr l).length <= szTL l
  | [] => by simp [liftTL]
  | t :: l => by
    have h1 := liftT_len fr t
    have h2 := liftTL_len fr l
    rw [liftTL, szTL, List.length_append]; omega
def liftR (t : Tre) (fr : List Int) : Tre × Int := if fr.all (fun x => decide (-1 <= x)) then
  (if lfT fr.length t then (match liftT fr t with | [x] => (x, 0) | _ => (zT, 13)) else (zT, 2)) else (zT, 2)
end Go.Lg
namespace Go.Lg
open Go.Proofs
attribute [local irreducible] Ap Rq asemC WP RunD Ret Gq thenA inBlockA bodyQ noGotoA RqL RqP OpP
theorem dd_step {u : Nat} (h : 0 < u / 10) : Lib.decDigits u = Lib.decDigits (u / 10) ++ [UInt8.ofNat (48 + u % 10)] := by
 rw [Lib.decDigits]
 split
 ·omega
 ·rfl
theorem dd_lt {u : Nat} (h : u / 10 = 0) : Lib.decDigits u = [UInt8.ofNat (48 + u % 10)] := by
 rw [Lib.decDigits_one (by omega), Nat.mod_eq_of_lt (by omega)]
theorem tmod10Y (n : Nat) : (n : Int).tmod 10 = ((n % 10 : Nat) : Int) := by rw [Int.tmod_eq_emod_of_nonneg (by omega)]; omega
theorem tdiv10Y (n : Nat) : (n : Int).tdiv 10 = ((n / 10 : Nat) : Int) := by rw [Int.tdiv_eq_ediv_of_nonneg (by omega)]; omega
theorem dd_len : ∀ n : Nat, n <= 1000000 -> (Lib.decDigits n).length <= 21 := fun n hn => by
 have := Lib.itoa_length_le (n : Int) (by omega) (by omega)
 rw [itoa_nat] at this; exact this
theorem fmtTL_snoc (g : Gram) (t : Tre) : ∀ l : List Tre, fmtTL g (l ++ [t]) = fmtTL g l ++ 32 :: fmtT g t
 | [] => by simp [fmtTL]
 | q :: l => by rw [List.cons_append, fmtTL, fmtTL, fmtTL_snoc g t l]; simp
theorem fmtTL_take (g : Gram) (l : List Tre) (i : Nat) : (fmtTL g (l.take i)).length <= (fmtTL g l).length := by
 have h : ∀ (a b : List Tre), fmtTL g (a ++ b) = fmtTL g a ++ fmtTL g b := by
  intro a b
  induction a with
  | nil => simp [fmtTL]
  | cons p a ih => rw [List.cons_append, fmtTL, fmtTL, ih]; simp
 have := congrArg List.length (h (l.take i) (l.drop i))
 rw [List.take_append_drop, List.length_append] at this
 omega
theorem fmtTL_mem (g : Gram) {l : List Tre} {t : Tre} (h : t ∈ l) : (fmtT g t).length <= (fmtTL g l).length := by
 induction l with
 | nil => cases h
 | cons a l ih =>
  rw [fmtTL, List.length_cons, List.length_append]
  rcases List.mem_cons.1 h with rfl | h
  ·omega
  ·have := ih h; omega
attribute [local simp] AV.cells
theorem tformat_fn {g : Gram} (hv : GVal g) (hnm : ∀ x, x ∈ g.nonterms -> x.size <= 48) (t : Tre) : ∀ x, okT g x t = true -> x < g.terms.length -> (fmtT g t).length <= 100000000 -> Fn Tryd.prog 19 [gramA g, treA t] (strA (tx (fmtT g t))) := by
 induction t using Tre.ind with
 | h t ih =>
  intro x hok hx hz
  have hle := leaf_fn t
  have hr2 := hv.r2
  have ht2 := hv.terms
  by_cases hx0 : 0 <= x
  ·obtain rfl := (okT_leaf hx0).1 hok
   rw [decide_eq_true (show (leafT x).rule = -1 from rfl)] at hle
   rw [fmtT_leaf, tx_bl]
   rw [treA_kids] at hle ⊢
   simp only [leafT, Tre.rule, Tre.term, Tre.kids] at hle ⊢
   refine Fn.intro rfl (by kernel_rfl) Tryd.func19 rfl rfl Tryd.ntmps19 (by exact nle rfl) ?_; intro Γ hm
   (repeat' (first | apply jA | apply jH | apply jK | apply jM | apply jS | (refine wp_cond rfl (fun hc => ?_) (fun hc => ?_) <;> (try simp only [sB, ne_eq, reduceCtorEq] at hc) <;> (try (exfalso; omega))) | (refine rgC 0 ?_; (refine se_box rfl (by exact ⟨rfl, rfl⟩) ?_); (refine se_box rfl (by exact ⟨rfl, rfl⟩) ?_); (refine sassign rfl ?_); apply jW) | (refine rgC 1 ?_; (refine sloadpw rfl rfl rfl rfl ?_); (refine sc_p rfl rfl zq1 zq5 (hle) ?_); apply jW) | (refine rgC 2 ?_; (refine sfieldp rfl rfl rfl ?_); (refine sloadp rfl rfl rfl rfl ?_); (refine sfieldp rfl rfl rfl ?_); (refine sloadp rfl rfl rfl rfl ?_); (refine su (aidxz rfl rfl (by omega)) ?_); (refine sloadw rfl rfl ?_); (refine sassign rfl ?_); apply jW) | exact ret_eq rfl rfl rfl))
   all_goals (exfalso; simp at hc; done)
  ·have hT := (okT_in (by omega)).1 hok
   have hr0 := hT.r0
   have hrn := hT.rn
   have hlen := hT.len
   have hkid := hT.kid
   have hrf := hv.rule _ (nth_mem hrn)
   have hh0 := hrf.h0
   have hh1 := hrf.hn
   have hhi := hrf.hi
   have hlb := label_fn hv t.rule.toNat hrn (by rw [bl_len]; exact hnm _ (nth_mem (by omega)))
   have hll := label_len g t.rule.toNat (by rw [bl_len]; exact hnm _ (nth_mem (by omega))) (by omega)
   rw [Int.toNat_of_nonneg hr0] at hlb
   rw [decide_eq_false (by omega)] at hle
   rw [fmtT_in g t (by omega)] at hz ⊢
   simp only [List.length_cons, List.length_append, List.length_nil] at hz
   have hmem := fun (i : Nat) (hi : i < t.kids.length) => fmtTL_mem g (nth_mem hi)
   have htake := fmtTL_take g t.kids
   have hin := fun i (hi : i < t.kids.length) => ih _ (nth_mem hi) _ (hkid i hi) (hhi _ (nth_mem (by omega))) (by have := hmem i hi; omega)
   have hsl := tx_size (labelT g t.rule.toNat)
   clear ih hok hT hkid hlen
   rw [treA_kids] at hle ⊢
   generalize t.kids = kids at *
   generalize t.rule = rule at *
   generalize t.term = term at *
   generalize labelT g rule.toNat = lab at *
   refine Fn.intro rfl (by kernel_rfl) Tryd.func19 rfl rfl Tryd.ntmps19 (by exact nle rfl) ?_; intro Γ hm
   refine wp_lens 1 rfl fun hl => ?_
   have hl : kids.length <= 9223372036854775807 := by have := hl; simp [AV.lens, lensL, tresA] at this; omega
   (repeat' (first | apply jA | apply jF | apply jH | apply jI | (refine wp_cond rfl (fun hc => ?_) (fun hc => ?_) <;> (try simp only [sB, ne_eq, reduceCtorEq] at hc) <;> (try (exfalso; omega))) | (refine rgC 0 ?_; (refine se_box rfl (by exact ⟨rfl, rfl⟩) ?_); (refine se_box rfl (by exact ⟨rfl, rfl⟩) ?_); (refine sassign rfl ?_); apply jW) | (refine rgC 1 ?_; (refine sloadpw rfl rfl rfl rfl ?_); (refine sc_p rfl rfl zq1 zq5 (hle) ?_); apply jW) | (refine rgC 3 ?_; (refine sloadpw rfl rfl rfl rfl ?_); (refine sfieldp rfl rfl rfl ?_); (refine sloadp rfl rfl rfl rfl ?_); (refine sc_p rfl rfl zq1 zq5 (hlb) ?_); (refine su (acat rfl rfl (by (simp only [bsz, sZ] <;> omega))) ?_); (refine sassign rfl ?_); apply jW) | (refine rgC 4 ?_; (refine sfieldp rfl rfl rfl ?_); (refine sloadp rfl rfl rfl rfl ?_); (refine slenm rfl rfl ?_); (refine smove rfl ?_); apply jW)))
   all_goals try (exfalso; simp at hc; done)
   refine wp_loop (fun (i : Nat) => i <= kids.length) (fun i => kids.length - i)
    (fun i => (S 37 [(2, .ptr 0 4 0 0), (5, strA (tx (40 :: (lab ++ fmtTL g (kids.take i))))), (22, tresA kids), (23, intA (kids.length : Nat)), (24, intA (i : Nat))] 1 [(0, some (.arr 4 [gramA g]))])) 0 ?_ (Nat.zero_le _) ?_
   ·rw [show tx (40 :: (lab ++ fmtTL g (kids.take 0))) = ⟨#[40]⟩ ++ tx lab by rw [List.take_zero, fmtTL, List.append_nil]; exact (tx_app [40] lab).symm]
    exact ⟨[0], ToR.S rfl (by repeat' (first | exact rt_nil | refine rt_t rfl rfl ?_ | refine rt_e rfl rfl ?_ | refine rt_p rfl rfl (by first | (simp [AV.bd, bdL, bdL_append]; done) | fail) ?_)) (by repeat' (first | exact ro_nil | refine ro_p rfl (by first | exact rfl | fail) zq5 ?_)) rfl (by (rw [hm]; exact rfl)) rfl zq4 zq3 (by (rw [hm]; exact nle rfl))⟩
   intro i hi
   have hti := htake i
   have hsz := tx_size (40 :: (lab ++ fmtTL g (kids.take i)))
   simp only [List.length_cons, List.length_append] at hsz
   by_cases hlt : i < kids.length
   ·have hx := hin i hlt
    have hmi := hmem i hlt
    have hsk := tx_size (fmtT g (nth kids i))
    have hn := fmtTL_snoc g (nth kids i) (kids.take i)
    rw [<- take_succ_nth hlt] at hn
    (repeat' (first | apply jA | apply jF | apply jH | apply jI | apply jN | (refine wp_cond rfl (fun hc => ?_) (fun hc => ?_) <;> (try simp only [sB, ne_eq, reduceCtorEq] at hc) <;> (try (exfalso; omega))) | (refine rgC 5 ?_; (refine slss rfl rfl ?_); apply jW) | (refine rgC 6 ?_; (refine sidxn rfl rfl (by omega) ?_); (refine sloadw rfl rfl ?_); (refine se_alloc rfl ?_); (refine se_store_b rfl rfl rfl rfl ?_); apply jW) | (refine rgC 7 ?_; (refine smove rfl ?_); (refine sloadpw rfl rfl rfl rfl ?_); (refine sloadpw rfl rfl rfl rfl ?_); (refine sc_p rfl rfl zq1 zq5 (hx) ?_); (refine su (acat rfl rfl (by (simp only [bsz, sZ] <;> omega))) ?_); (refine su (acat rfl rfl (by (simp only [bsz, sZ] <;> omega))) ?_); (refine sassign rfl ?_); apply jW) | (refine rgC 8 ?_; (refine sadd rfl rfl (by exact inr_i64_of (by omega)) ?_); (refine smove rfl ?_); apply jW)))
    refine ⟨i + 1, ⟨by omega, by omega⟩, ?_⟩
    rw [hn, show tx (40 :: (lab ++ (fmtTL g (kids.take i) ++ 32 :: fmtT g (nth kids i)))) = tx (40 :: (lab ++ fmtTL g (kids.take i))) ++ (⟨#[32]⟩ ++ tx (fmtT g (nth kids i))) by
     rw [show (⟨#[32]⟩ : ByteArray) ++ tx (fmtT g (nth kids i)) = tx (32 :: fmtT g (nth kids i)) from tx_app [32] _, tx_app]
     simp]
    exact ⟨[0], ToR.S rfl (by repeat' (first | exact rt_nil | refine rt_t rfl rfl ?_ | refine rt_e rfl rfl ?_ | refine rt_p rfl rfl (by first | (simp [AV.bd, bdL, bdL_append]; done) | fail) ?_)) (by repeat' (first | exact ro_nil | refine ro_p rfl (by first | exact rfl | fail) zq5 ?_)) rfl (by (rw [hm]; exact rfl)) rfl zq4 zq3 (by (rw [hm]; exact nle rfl))⟩
   ·rw [List.take_of_length_le (by omega)] at hsz ⊢
    have e : tx (40 :: (lab ++ fmtTL g kids ++ [41])) = tx (40 :: (lab ++ fmtTL g kids)) ++ ⟨#[41]⟩ := (tx_app (40 :: (lab ++ fmtTL g kids)) [41]).symm
    rw [e]
    (repeat' (first | apply jA | apply jH | apply jJ | apply jK | apply jL | apply jP | apply jS | (refine wp_cond rfl (fun hc => ?_) (fun hc => ?_) <;> (try simp only [sB, ne_eq, reduceCtorEq] at hc) <;> (try (exfalso; omega))) | (refine rgC 5 ?_; (refine slss rfl rfl ?_); apply jW) | (refine rgC 9 ?_; (refine smove rfl ?_); (refine su (acat rfl rfl (by (simp only [bsz, sZ] <;> omega))) ?_); (refine sassign rfl ?_); apply jW) | exact ret_eq rfl rfl rfl))
end Go.Lg
namespace Go.Lg
def lvlTok (l : List GLe) : List ByteArray := (l.map (·.tokens)).flatten
def levOk (x : GLe) : Bool := decide (1 <= x.assoc) && decide (x.assoc <= 3) && decide (x.tokens.length ≠ 0)
def levsOk (l : List GLe) : Bool := l.all levOk && decide (lvlTok l).Nodup
def termI (g : Gram) (s : ByteArray) : Int := indexP (fun x => decide (x = s)) g.terms
def levelG (g : Gram) (l : List GLe) (t : Int) : Int := indexP (fun x : GLe => x.tokens.any fun n => decide (termI g n = t)) l
def selfB (r : Rul) : Bool := decide (r.body.length = 3) && decide (nth r.body 0 = -1 - r.head) && decide (nth r.body 2 = -1 - r.head) && decide (0 <= nth r.body 1)
def binL (g : Gram) (l : List GLe) (r : Rul) : Int := if selfB r then levelG g l (nth r.body 1) else -1
def noTok (g : Gram) (l : List GLe) : Bool := (lvlTok l).all fun s => decide (0 <= termI g s)
def sameOp (g : Gram) (l : List GLe) (r s : Rul) : Bool := decide (0 <= binL g l s) && decide (s.head = r.head) && decide (nth s.body 1 = nth r.body 1)
def conflG (g : Gram) (l : List GLe) (i : Nat) : Bool :=
 if 0 <= binL g l (nth g.rules i) then (g.rules.take i).any (sameOp g l (nth g.rules i)) else (nth g.rules i).body.any fun t => decide (0 <= t) && decide (0 <= levelG g l t)
def checkG (g : Gram) (l : List GLe) : Int := if validG g && levsOk l then (if noTok g l then (if (List.range g.rules.length).any (conflG g l) then 14 else 0) else 4) else 1
def useL (g : Gram) (l : List GLe) (e : Nat) : List Nat := (List.range l.length).filter fun (i : Nat) => g.rules.any fun r => decide (r.head = (e : Int)) && decide (binL g l r = (i : Int))
def offN (g : Gram) (l : List GLe) : Nat -> Nat
 | 0 => g.nonterms.length
 | e + 1 => offN g l e + (useL g l e).length
def chnG (g : Gram) (l : List GLe) (e : Nat) : List Int := (e : Int) :: (List.range (useL g l e).length).map fun (i : Nat) => ((offN g l e + i : Nat) : Int)
def namG (g : Gram) (l : List GLe) (e : Nat) : List ByteArray := (List.range (useL g l e).length).map fun (i : Nat) => nth g.nonterms e ++ ⟨#[64]⟩ ++ tx (Lib.itoa ((i + 2 : Nat) : Int))
def namsG (g : Gram) (l : List GLe) (k : Nat) : List ByteArray := g.nonterms ++ ((List.range k).map (namG g l)).flatten
def lastC (g : Gram) (l : List GLe) (e : Nat) : Int := nth (chnG g l e) (useL g l e).length
def posU (g : Gram) (l : List GLe) (e : Nat) (b : Int) : Nat := (indexP (fun (i : Nat) => decide ((i : Int) = b)) (useL g l e)).toNat
def ruleS (g : Gram) (l : List GLe) (r : Rul) : Rul :=
 if 0 <= binL g l r then
  ⟨nth (chnG g l r.head.toNat) (posU g l r.head.toNat (binL g l r)),
   [-1 - nth (chnG g l r.head.toNat) (posU g l r.head.toNat (binL g l r) + if (nth l (binL g l r).toNat).assoc = 1 then 0 else 1), nth r.body 1,
    -1 - nth (chnG g l r.head.toNat) (posU g l r.head.toNat (binL g l r) + if (nth l (binL g l r).toNat).assoc = 2 then 0 else 1)], r.price⟩
 else ⟨lastC g l r.head.toNat, (List.range r.body.length).map fun k => if (k = 0 \/ k + 1 = r.body.length) /\ nth r.body k = -1 - r.head then -1 - lastC g l r.head.toNat else nth r.body k, r.price⟩
def unitS (g : Gram) (l : List GLe) (e : Nat) : List Rul := (List.range (useL g l e).length).map fun i => ⟨nth (chnG g l e) i, [-1 - nth (chnG g l e) (i + 1)], 0⟩
def unitsS (g : Gram) (l : List GLe) (k : Nat) : List Rul := ((List.range k).map (unitS g l)).flatten
def stratG (g : Gram) (l : List GLe) : Gram := ⟨g.terms, namsG g l g.nonterms.length, g.start, g.rules.map (ruleS g l) ++ unitsS g l g.nonterms.length⟩
def fromG (g : Gram) (l : List GLe) : List Int := (List.range g.rules.length).map (fun (i : Nat) => (i : Int)) ++ List.replicate (unitsS g l g.nonterms.length).length (-1)
def zG : Gram := ⟨[], [], 0, []⟩
def stratR (g : Gram) (l : List GLe) : Gram × List Int × Int :=
 if checkG g l = 0 then (if validG (stratG g l) then (stratG g l, fromG g l, 0) else (zG, [], 11)) else (zG, [], checkG g l)
section
variable (g : Gram) (l : List GLe)
theorem offN_le (e : Nat) : g.nonterms.length <= offN g l e := by
 induction e with
 | zero => exact Nat.le_refl _
 | succ e ih => rw [offN]; omega
theorem offN_mono {e f : Nat} (h : e < f) : offN g l e + (useL g l e).length <= offN g l f := by
 induction f with
 | zero => omega
 | succ f ih =>
  rcases Nat.lt_or_ge e f with h1 | h1
  ·rw [offN]; have := ih h1; omega
  ·obtain rfl : e = f := by omega
   rw [offN]; omega
theorem chnG_len (e : Nat) : (chnG g l e).length = (useL g l e).length + 1 := by simp [chnG]
theorem mem_chn {e : Nat} {k : Int} : k ∈ chnG g l e ↔ k = (e : Int) \/ ((offN g l e : Int) <= k /\ k < ((offN g l e + (useL g l e).length : Nat) : Int)) := by
 simp only [chnG, List.mem_cons, List.mem_map, List.mem_range]
 constructor
 ·rintro (h | ⟨i, hi, rfl⟩)
  ·exact .inl h
  ·exact .inr ⟨by omega, by omega⟩
 ·rintro (h | ⟨h1, h2⟩)
  ·exact .inl h
  ·exact .inr ⟨(k - offN g l e).toNat, by omega, by omega⟩
theorem chn_uniq {e f : Nat} {k : Int} (he : e < g.nonterms.length) (hf : f < g.nonterms.length) (h1 : k ∈ chnG g l e) (h2 : k ∈ chnG g l f) : e = f := by
 rw [mem_chn] at h1 h2
 have a1 := offN_le g l e
 have a2 := offN_le g l f
 rcases Nat.lt_trichotomy e f with h | h | h
 ·have := offN_mono g l h; omega
 ·exact h
 ·have := offN_mono g l h; omega
theorem namG_len (e : Nat) : (namG g l e).length = (useL g l e).length := by simp [namG]
theorem namsG_len (k : Nat) : (namsG g l k).length = offN g l k := by
 induction k with
 | zero => simp [namsG, offN]
 | succ k ih =>
  simp only [namsG, List.length_append] at ih
  simp only [namsG, List.range_succ, List.map_append, List.map_cons, List.map_nil, List.flatten_append, List.flatten_cons, List.flatten_nil, List.append_nil, List.length_append, namG_len, offN]
  omega
theorem namsG_succ (k : Nat) : namsG g l (k + 1) = namsG g l k ++ namG g l k := by
 simp [namsG, List.range_succ]
theorem unitS_len (e : Nat) : (unitS g l e).length = (useL g l e).length := by simp [unitS]
theorem unitsS_succ (k : Nat) : unitsS g l (k + 1) = unitsS g l k ++ unitS g l k := by
 simp [unitsS, List.range_succ]
theorem useL_len (e : Nat) : (useL g l e).length <= l.length := by
 have := List.length_filter_le (fun (i : Nat) => g.rules.any fun r => decide (r.head = (e : Int)) && decide (binL g l r = (i : Int))) (List.range l.length)
 simpa [useL] using this
theorem lastC_mem (e : Nat) : lastC g l e ∈ chnG g l e := nth_mem (by rw [chnG_len]; omega)
theorem levelG_lt (t : Int) : -1 <= levelG g l t /\ levelG g l t < l.length := indexP_lt _ _
theorem binL_lt (r : Rul) : -1 <= binL g l r /\ binL g l r < l.length := by
 unfold binL
 split
 ·exact levelG_lt g l _
 ·omega
theorem bin_used {r : Rul} (hr : r ∈ g.rules) (h0 : 0 <= r.head) (hb : 0 <= binL g l r) : (binL g l r).toNat ∈ useL g l r.head.toNat := by
 have := binL_lt g l r
 simp only [useL, List.mem_filter, List.mem_range, List.any_eq_true, Bool.and_eq_true, decide_eq_true_eq]
 exact ⟨by omega, r, hr, by omega, by omega⟩
theorem posU_is {e i : Nat} (h : i ∈ useL g l e) : posU g l e (i : Int) < (useL g l e).length /\ nth (useL g l e) (posU g l e (i : Int)) = i := by
 obtain ⟨j, hj, e1⟩ := List.getElem_of_mem h
 have hex : ∃ k : Nat, k < (useL g l e).length /\ indexP (fun (x : Nat) => decide ((x : Int) = (i : Int))) (useL g l e) = k /\ nth (useL g l e) k = i := by
  have h1 := indexP_lt (fun (x : Nat) => decide ((x : Int) = (i : Int))) (useL g l e)
  have h2 : ∀ k : Nat, k < (useL g l e).length -> (∀ m, m < k -> nth (useL g l e) m ≠ i) -> nth (useL g l e) k = i -> indexP (fun (x : Nat) => decide ((x : Int) = (i : Int))) (useL g l e) = k := fun k hk hm hq =>
   indexP_is hk (by simp [hq]) fun m hmk => decide_eq_false fun h => hm m hmk (by omega)
  have hfirst : ∀ n, n <= (useL g l e).length -> (∃ k, k < n /\ nth (useL g l e) k = i) -> ∃ k, k < n /\ nth (useL g l e) k = i /\ ∀ m, m < k -> nth (useL g l e) m ≠ i := by
   intro n
   induction n with
   | zero => rintro _ ⟨k, hk, _⟩; omega
   | succ n ih =>
    rintro hn ⟨k, hk, hq⟩
    by_cases hex : ∃ k, k < n /\ nth (useL g l e) k = i
    ·obtain ⟨k', a, b, c⟩ := ih (by omega) hex
     exact ⟨k', by omega, b, c⟩
    ·refine ⟨k, hk, hq, fun m hm hmi => hex ⟨m, by omega, hmi⟩⟩
  obtain ⟨k, a, b, c⟩ := hfirst _ (Nat.le_refl _) ⟨j, hj, by rw [nth_eq hj]; exact e1⟩
  exact ⟨k, a, h2 k a c b, b⟩
 obtain ⟨k, a, b, c⟩ := hex
 unfold posU
 rw [b, Int.toNat_natCast]
 exact ⟨a, c⟩
end
end Go.Lg
