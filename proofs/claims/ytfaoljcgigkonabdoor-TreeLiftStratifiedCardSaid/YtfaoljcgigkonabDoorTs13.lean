/-
  Part 13 of the proof of TreeLiftStratifiedCard: the logic over the model, the functions' contracts and the plain laws.
-/
import Derived.Test.YtfaoljcgigkonabDoorTs12
import Derived.Test.YtfaoljcgigkonabDoorRows
import Derived.Shelf.Vars
set_option linter.unusedSimpArgs false
set_option linter.unusedVariables false
set_option linter.unusedSectionVars false
set_option linter.defProp false
set_option maxRecDepth 20000
namespace Go.Lg
open Go.Proofs Go.Proofs.YtfaoljcgigkonabDoor
def laid0 : List (String × DataW Unit) := [("math/bits.deBruijn32tab", Rows.laid_math_bits_deBruijn32tab), ("math/bits.deBruijn64tab", Rows.laid_math_bits_deBruijn64tab), ("internal/strconv.uint64pow10", Rows.laid_internal_strconv_uint64pow10)]
theorem gw_open {w : World} (h : w.ShapedOpen Tryd.prog) (hl : laidMetH Tryd.prog laid0 w) : GW w /\ GL <= w.heap.size := by
 rw [MakeChecks.laidMetH_plain _ _ _ (by kernel_rfl)] at hl
 obtain ⟨ps, hl, _⟩ := hl
 refine ⟨⟨?_, ?_⟩, ?_⟩
 ·intro p hp
  simp only [gints, List.mem_cons, List.mem_nil_iff, or_false] at hp
  rcases hp with rfl
  ·exact cell_of_shapedOpen_int (zero := #[.int .i64 0]) (t := 3) h (of_decide_eq_true (by kernel_rfl)) (by kernel_rfl) rfl (by kernel_rfl) (by kernel_rfl) (by kernel_rfl)
 ·intro p hp
  simp only [gtabs, List.mem_cons, List.mem_nil_iff, or_false] at hp
  rcases hp with rfl | rfl | rfl
  ·exact laid_tab (name := "math/bits.deBruijn32tab") (t := 123) (e := 5) (n := 32) (by kernel_rfl) (by kernel_rfl) (by kernel_rfl) (by kernel_rfl) (by kernel_rfl) (by kernel_rfl) hl (by simp [laid0, Lib.tabData, Rows.laid_math_bits_deBruijn32tab])
  ·exact laid_tab (name := "math/bits.deBruijn64tab") (t := 124) (e := 5) (n := 64) (by kernel_rfl) (by kernel_rfl) (by kernel_rfl) (by kernel_rfl) (by kernel_rfl) (by kernel_rfl) hl (by simp [laid0, Lib.tabData, Rows.laid_math_bits_deBruijn64tab])
  ·exact laid_tab (name := "internal/strconv.uint64pow10") (t := 114) (e := 107) (n := 20) (by kernel_rfl) (by kernel_rfl) (by kernel_rfl) (by kernel_rfl) (by kernel_rfl) (by kernel_rfl) hl (by simp [laid0, Lib.tabData, Rows.laid_internal_strconv_uint64pow10])
 ·have hs : ((((begin Tryd.prog (fun _ _ => 0) default).world.heap[3]?).bind Obj.row?).isSome) = true := by kernel_rfl
  obtain ⟨⟨zero, t⟩, hr⟩ := Option.isSome_iff_exists.1 hs
  obtain ⟨cs, hh, _⟩ := h.1 3 zero t (of_decide_eq_true (by kernel_rfl)) hr
  exact (Array.getElem?_eq_some_iff.1 hh).1
end Go.Lg
namespace Go.Lg
open Go.Proofs Go.RowKit
theorem door_met (os : Os) (args : Array Value) : laidMetH Tryd.prog laid0 ((World.doorLaid Tryd.prog 400 os).forCall (fun _ _ => 0) ⟨#[], args, []⟩).memory :=
 laidMetH_of_parts3 (fuel := 8) (laidMet_of_run' 8 (by kernel_rfl) (by kernel_rfl)) (by kernel_rfl) (by kernel_rfl)
theorem door_sh (os : Os) (args : Array Value) : ((World.doorLaid Tryd.prog 400 os).forCall (fun _ _ => 0) ⟨#[], args, []⟩).Shaped Tryd.prog :=
 World.shaped_of_RefB (by kernel_rfl) (by kernel_rfl)
end Go.Lg
namespace Go.Lg
section
variable {P : Program} {n M N i : Nat} {l : List (Nat × AV)} {os : List (Nat × Option AObj)} {a b : Operand} {d : Tmp} {ty : TypeId} {pos : String} {af : Array Edge} {ops : Array Oper} {rest : List Oper} {KK : List Rec -> St -> Prop} {K : St -> Prop} {rs : List Rec}
theorem se_lit0 {te : TI} {k bt : Nat} [ht : TEl P ty te k bt] {ty2 : TypeId} (hk : asemC P ops rest (S n ((d, .ref M k 0 0) :: l) (M + 1) ((M, some (.arr k [])) :: os)) K) :
  asemC P ops (⟨some d, .buildSlice ty 0 #[], ty2, pos, af, none⟩ :: rest) (S n l M os) K := by
 obtain ⟨ti, el, g1, he, hs, g4, hsz, hbz⟩ := ht.h
 refine se_new (x := .ref M k 0 0) (by rintro c f h; cases h) ?_ hk
 have hb : buildSliceA te 0 [] = some (.arr k []) := by simp [buildSliceA, hsz]
 simp only [aop, g1, he, g4, Option.bind_some, Array.toList, List.map_nil, hb, Option.map_some, hsz]
theorem se_appE {te tj : TI} {tx : TypeId} {k bt id : Nat} {ys : List AV} [ht : TEl P ty te k bt] [h3 : TIc P tx tj] (hsh : (match tj.sh with | .int => false | _ => true) = true) (ha : opq n l a = some (.ref id k 0 0)) (ho : lookq M os id = some (.arr k []))
  (hb : opq n l b = some (.sl k ys)) (hz0 : (zeroA te).isSome = true) (hbt : Nat.beq bt 0 = false) (hr : ys.length * bt <= 140737488355328) {ty2 : TypeId} (hk : asemC P ops rest (S n ((d, .ref M k 0 ys.length) :: l) (M + 1) ((M, some (.arr k ys)) :: (id, none) :: os)) K) :
  asemC P ops (⟨some d, .call ⟨.builtin .append, #[a, b], #[ty, tx]⟩, ty2, pos, af, none⟩ :: rest) (S n l M os) K :=
 se_app (es := []) (ys := ys) hsh ha ho rfl hb (by obtain ⟨ti, el, g1, he, hs, g4, hsz, hbz⟩ := ht.h; simp [srcA, hsz]) hz0 hbt (by simpa using hr) hk
end
section
variable {P : Program} {Γ : Cx} {c : Code} {Q : Exit -> St -> Prop} {n M : Nat} {l : List (Nat × AV)} {os : List (Nat × Option AObj)}
theorem wp_st (t : St) {s : St} (h0 : ∃ is, ToR Γ.m is s t) (h : WP P Γ c Q t) : WP P Γ c Q s := by
 obtain ⟨is, h0⟩ := h0; exact .toR is t h0 h
end
section
variable {P : Program} {n M : Nat} {l : List (Nat × AV)} {os : List (Nat × Option AObj)} {d t : Tmp} {ty : TypeId} {pos : String} {af : Array Edge} {ops : Array Oper} {rest : List Oper} {K : St -> Prop} {j : Nat} {want b : Bool} {x : AV} {op : Op}
end
theorem Fz.rowL {look : Nat -> Option AObj} {id k n : Nat} {es ys : List AV} (hlook : look id = some (.arr k es)) (hn : es.length = n) (hk : (ys.all fun e => Nat.beq e.cells.length k) = true) (h : FzL look es ys) : Fz look (.ref id k 0 n) (.sl k ys) := by
 have hz := h.fzs
 have hl := Fzs_len hz
 have e : (es.drop 0).take n = es := by rw [List.drop_zero, List.take_of_length_le (by omega)]
 refine Fz.ref' hlook (by omega) (by omega) (fun y hy => Nat.eq_of_beq_eq_true (List.all_eq_true.1 hk y hy)) fun i x y hx hy => ?_
 rw [e] at hx
 exact Fzs_get hz i x y hx hy
section
variable {P : Program} {n M N i : Nat} {l : List (Nat × AV)} {os : List (Nat × Option AObj)} {d t : Tmp} {ty : TypeId} {pos : String} {af : Array Edge} {ops : Array Oper} {rest : List Oper} {K : List Rec -> St -> Prop} {rs : List Rec} {j : Nat} {want : Bool} {X : AV}
theorem rdg_call {g : FuncId} {first cap us us' : List AV} {f : Operand} {args : Array Operand} {tys : Array TypeId} (ht : (ops[j]?).bind (·.dst) = some t) (hg : opq n l (.tmp t) = some (.val (.bool want))) (hf : opq n l f = some (.clo (.func g) first cap)) (has : opqL n l args.toList = some us) (hsub : SubL (first ++ us ++ cap) us') (hp : bdL 0 (first ++ us ++ cap) = true) (hspec : Fn P g us' X)
  (hk : RunD P ops N (i + 1) rest (S n ((d, X) :: l) M os) (rs ++ [⟨some d, [], topq n l (Op.operands (.call ⟨.value f, args, tys⟩)).toList⟩]) K) : RunD P ops N i (⟨some d, .call ⟨.value f, args, tys⟩, ty, pos, af, some (j, want)⟩ :: rest) (S n l M os) rs K := by
 have e := opqL_op (M := M) (os := os) has
 refine ⟨.did (X, .none), _, ⟨rfl, .inr (.inl ⟨_, f, g, first, cap, rfl, rfl, opq_op hf, by rw [e]; exact (hspec.sub hsub).spec, by rw [e]; exact hp, rfl⟩), yielded_q ht hg⟩, ?_⟩
 show RunD P ops N (i + 1) rest ((S n l M os).put (some d) X) (rs ++ [⟨some d, [], topIds (S n l M os) _⟩]) K
 rw [topq_ids, S_put]
 exact hk
theorem frz_lit {te : TI} {k m bt : Nat} {z : AV} {ps : Array (Nat × Operand)} {xs : List (Nat × AV)} {vs : List AV} [ht : TEl P ty te k bt] (hp : OpP n l ps.toList xs) (hv : seqv 0 xs = some vs) (hl : xs.length = m) (h0 : Nat.beq m 0 = false) (hbig : Nat.ble (m * k) 16777216 = true) (hzero : zeroA te = some z)
  (hc : (vs.all fun x => Nat.beq x.cells.length k && x.store) = true) (hb : bdL 0 vs = true) : FrzL P (S n l M os).op (.buildSlice ty m ps) (.sl k vs, .none) := by
 obtain ⟨ti, el, g1, he, hs, g4, hsz, hbz⟩ := ht.h
 have hp' := hp.get (M := M) (os := os)
 have hbs : buildSliceA te m xs = some (.arr k vs) := by
  have hne : m ≠ 0 := Nat.ne_of_beq_eq_false h0
  simp only [buildSliceA, if_neg hne, hzero, Option.bind_some, hsz, if_pos (Nat.le_of_ble_eq_true hbig)]
  have := seqv_fill (k := k) (z := z) xs [] vs hv (fun x hx => by
   have := List.all_eq_true.1 hc x hx
   simp only [Bool.and_eq_true] at this
   exact ⟨Nat.eq_of_beq_eq_true this.1, this.2⟩)
  simp only [List.nil_append, hl] at this
  rw [this]; rfl
 exact ⟨ty, m, ps, ti, el, te, k, vs, rfl, g1, he, g4, by rw [hp', hbs], hb, rfl⟩
theorem rd_frzl {te : TI} {k m bt : Nat} {z : AV} {ps : Array (Nat × Operand)} {xs : List (Nat × AV)} {vs : List AV} [ht : TEl P ty te k bt] (hp : OpP n l ps.toList xs) (hv : seqv 0 xs = some vs) (hl : xs.length = m) (h0 : Nat.beq m 0 = false) (hbig : Nat.ble (m * k) 16777216 = true) (hzero : zeroA te = some z)
  (hc : (vs.all fun x => Nat.beq x.cells.length k && x.store) = true) (hb : bdL 0 vs = true) {ty2 : TypeId} (hk : RunD P ops N (i + 1) rest (S n ((d, .sl k vs) :: l) M os) (rs ++ [⟨some d, [], topq n l (Op.operands (.buildSlice ty m ps)).toList⟩]) K) :
  RunD P ops N i (⟨some d, .buildSlice ty m ps, ty2, pos, af, none⟩ :: rest) (S n l M os) rs K := by
 refine ⟨.did (.sl k vs, .none), _, ⟨rfl, .inr (.inr (frz_lit hp hv hl h0 hbig hzero hc hb)), trivial⟩, ?_⟩
 show RunD P ops N (i + 1) rest ((S n l M os).put (some d) _) (rs ++ [⟨some d, [], topIds (S n l M os) _⟩]) K
 rw [topq_ids, S_put]
 exact hk
theorem rdg_frzl {te : TI} {k m bt : Nat} {z : AV} {ps : Array (Nat × Operand)} {xs : List (Nat × AV)} {vs : List AV} [hte : TEl P ty te k bt] (ht : (ops[j]?).bind (·.dst) = some t) (hg : opq n l (.tmp t) = some (.val (.bool want))) (hp : OpP n l ps.toList xs) (hv : seqv 0 xs = some vs) (hl : xs.length = m) (h0 : Nat.beq m 0 = false) (hbig : Nat.ble (m * k) 16777216 = true) (hzero : zeroA te = some z)
  (hc : (vs.all fun x => Nat.beq x.cells.length k && x.store) = true) (hb : bdL 0 vs = true) {ty2 : TypeId} (hk : RunD P ops N (i + 1) rest (S n ((d, .sl k vs) :: l) M os) (rs ++ [⟨some d, [], topq n l (Op.operands (.buildSlice ty m ps)).toList⟩]) K) :
  RunD P ops N i (⟨some d, .buildSlice ty m ps, ty2, pos, af, some (j, want)⟩ :: rest) (S n l M os) rs K := by
 refine ⟨.did (.sl k vs, .none), _, ⟨rfl, .inr (.inr (frz_lit hp hv hl h0 hbig hzero hc hb)), yielded_q ht hg⟩, ?_⟩
 show RunD P ops N (i + 1) rest ((S n l M os).put (some d) _) (rs ++ [⟨some d, [], topIds (S n l M os) _⟩]) K
 rw [topq_ids, S_put]
 exact hk
end
open Go.RowKit
section
variable {P : Program} {Γ : Cx} {a : Act} {w : World}
theorem asemC_one {ops : Array Oper} {s : St} {o : Oper} {K : St -> Prop} {QQ : Exit -> Act -> World -> Prop} (hg : o.guard = none) (h : SR Γ s a w) (hk : asemC P ops [o] s K) : o.wp P a w (fun a' w' => ∃ s', K s' /\ SR Γ s' a' w') QQ := by
 simp only [asemC, hg] at hk
 rcases hk with hk | ⟨x, hx, hk⟩ | ⟨s1, hk, hs1⟩
 ·exact exec_sound h hk fun s' a' w' hk' hs' => ⟨s', hk', hs'⟩
 ·obtain ⟨ρ, hρ⟩ := h
  obtain ⟨v, hrun, hrv⟩ := pure_sound (P := P) hρ (e := []) rfl hx
  unfold Oper.wp
  rw [hrun]
  exact ⟨_, hk, ρ, by simpa using hρ.put o.dst hrv⟩
 ·obtain ⟨v, w', hrun, hsr⟩ := hs1 Γ a w h
  unfold Oper.wp
  rw [hrun]
  exact ⟨_, hk, hsr⟩
end
section
variable {P : Program} {Γ : Cx} {ops : Array Oper}
end
section
variable {P : Program} {Γ : Cx} {n M : Nat} {l : List (Nat × AV)} {os : List (Nat × Option AObj)} {Q : Exit -> St -> Prop}
end
section
variable {P : Program} {n M : Nat} {l : List (Nat × AV)} {os : List (Nat × Option AObj)} {d t : Tmp} {ty : TypeId} {pos : String} {af : Array Edge} {ops : Array Oper} {rest : List Oper} {K : St -> Prop} {j : Nat} {want p : Bool} {x : AV} {op : Op} {a b c : Operand}
theorem as_split {r0 : List Oper} (hg : opq n l (.tmp t) = some (.val (.bool p))) (h1 : p = true -> asemC P ops r0 (S n ((t, .val (.bool true)) :: l) M os) K) (h2 : p = false -> asemC P ops r0 (S n ((t, .val (.bool false)) :: l) M os) K) : asemC P ops r0 (S n l M os) K := by
 cases p with
 | true => have := h1 rfl; rwa [S_lit hg] at this
 | false => have := h2 rfl; rwa [S_lit hg] at this
theorem sk_no (ht : (ops[j]?).bind (·.dst) = some t) (hg : opq n l (.tmp t) = some (.val (.bool (!want)))) (hk : asemC P ops rest (S n ((d, .any) :: l) M os) K) : asemC P ops (⟨some d, op, ty, pos, af, some (j, want)⟩ :: rest) (S n l M os) K := by
 simp only [asemC]
 refine .inl ⟨!want, yielded_q ht hg, ?_, fun _ => ?_⟩
 ·intro h; exact absurd h (by cases want <;> decide)
 rw [ht, S_put, S_lit hg, S_put]
 exact hk
theorem pk_t (hc : opq n l c = some (.val (.bool true))) (ha : opq n l a = some x) (hk : asemC P ops rest (S n ((d, x) :: l) M os) K) : asemC P ops (⟨some d, .pick c a b, ty, pos, af, none⟩ :: rest) (S n l M os) K := by
 simp only [asemC]
 refine .inl ⟨(x, .none), ?_, ?_⟩
 ·simp only [aop, opq_op hc, opq_op ha, pickA, pure']
  split <;> simp_all
 ·simp only [St.after, S_put]; exact hk
theorem pk_f (hc : opq n l c = some (.val (.bool false))) (hb : opq n l b = some x) (hk : asemC P ops rest (S n ((d, x) :: l) M os) K) : asemC P ops (⟨some d, .pick c a b, ty, pos, af, none⟩ :: rest) (S n l M os) K := by
 simp only [asemC]
 refine .inl ⟨(x, .none), ?_, ?_⟩
 ·simp only [aop, opq_op hc, opq_op hb, pickA, pure']
  split <;> simp_all
 ·simp only [St.after, S_put]; exact hk
end
def AV.ifree : AV -> Bool
 | .any | .val _ | .ref _ _ _ _ | .ptr _ _ _ _ | .map _ | .yld _ => true
 | _ => false
def AObj.ifree : AObj -> Bool
 | .arr _ es => es.all AV.ifree
 | .bytes _ => true
 | .bld _ x => x.ifree
 | .map _ => false
 | .lop _ _ => false
section
variable {A A' : Nat -> Prop} {ρ ρ' : Nat -> Option Nat} {I I' : Nat -> Prop} {w : World} {π : Nat -> Nat}
end
section
variable {P : Program} {Γ : Cx} {A : Nat -> Prop} {ρ : Nat -> Option Nat} {s : St} {a : Act} {w : World}
def shown : List AV -> List AV -> List Nat
  | x :: xs, y :: ys => match x, y with
    | .ref id _ _ _, .sl _ _ => id :: shown xs ys
    | _, _ => shown xs ys
  | _, _ => []
theorem shown_more {id : Nat} {x y : AV} {xs ys : List AV} (h : id ∈ shown xs ys) : id ∈ shown (x :: xs) (y :: ys) := by
 simp only [shown]
 split
 ·exact List.mem_cons_of_mem _ h
 ·exact h
inductive ArgS (π : Nat -> Nat) (m : Nat) (look : Nat -> Option AObj) : List AV -> List AV -> Prop
 | nil : ArgS π m look [] []
 | ren {x y : AV} {xs ys : List AV} (h : x = y.ren π) (hb : y.bd m = true) (t : ArgS π m look xs ys) : ArgS π m look (x :: xs) (y :: ys)
 | row {id k len : Nat} {es : List AV} {xs ys : List AV} (ho : look id = some (.arr k es)) (hl : es.length = len) (hb : bdL 0 es = true) (hk : ∀ e, e ∈ es -> e.cells.length = k) (t : ArgS π m look xs ys) : ArgS π m look (.ref id k 0 len :: xs) (.sl k es :: ys)
theorem ArgS.len {π : Nat -> Nat} {m : Nat} {look : Nat -> Option AObj} {xs ys : List AV} (h : ArgS π m look xs ys) : ys.length = xs.length := by
 induction h with
 | nil => rfl
 | ren _ _ _ ih => simp [ih]
 | row _ _ _ _ _ ih => simp [ih]
theorem ArgS.get {π : Nat -> Nat} {m : Nat} {look : Nat -> Option AObj} {xs ys : List AV} (h : ArgS π m look xs ys) : ∀ (i : Nat) x y, xs[i]? = some x -> ys[i]? = some y -> (x = y.ren π /\ y.bd m = true) \/ ∃ id k len es, x = .ref id k 0 len /\ y = .sl k es /\ look id = some (.arr k es) /\ es.length = len /\ bdL 0 es = true /\ (∀ e, e ∈ es -> e.cells.length = k) /\ id ∈ shown xs ys := by
 induction h with
 | nil => intro i x y hx; simp at hx
 | ren h hb _ ih =>
  intro i x y hx hy
  cases i with
  | zero => simp at hx hy; subst hx hy; exact .inl ⟨h, hb⟩
  | succ i =>
   rcases ih i x y (by simpa using hx) (by simpa using hy) with q | ⟨a, b, c, d, q1, q2, q3, q4, q5, q6, q7⟩
   ·exact .inl q
   ·exact .inr ⟨a, b, c, d, q1, q2, q3, q4, q5, q6, shown_more q7⟩
 | row ho hl hb hk _ ih =>
  intro i x y hx hy
  cases i with
  | zero => simp at hx hy; subst hx hy; exact .inr ⟨_, _, _, _, rfl, rfl, ho, hl, hb, hk, by simp [shown]⟩
  | succ i =>
   rcases ih i x y (by simpa using hx) (by simpa using hy) with q | ⟨a, b, c, d, q1, q2, q3, q4, q5, q6, q7⟩
   ·exact .inl q
   ·exact .inr ⟨a, b, c, d, q1, q2, q3, q4, q5, q6, shown_more q7⟩
end
theorem bsz (a : Array UInt8) : (⟨a⟩ : ByteArray).size = a.size := rfl
structure FnO (P : Program) (g : FuncId) (ys : List AV) (os : List AObj) (X : AV) (os' : List (Option AObj)) : Prop where
 spec : Spec P g ys (os.map some) fun r o' => r = X /\ o' = os'
 len : os.length <= os'.length
 bd : X.bd os'.length = true
def newO (π : Nat -> Nat) (M : Nat) : List (Option AObj) -> List (Nat × Option AObj) -> List (Nat × Option AObj)
 | [], os => os
 | o :: r, os => newO π (M + 1) r ((M, o.map (AObj.ren π)) :: os)
def updN (π : Nat -> Nat) (M : Nat) : List Nat -> List (Option AObj) -> List (Nat × Option AObj) -> List (Nat × Option AObj)
 | i :: is, o :: os', os => updN π M is os' ((i, o.map (AObj.ren π)) :: os)
 | _, os', os => newO π M os' os
theorem ol_newO {π : Nat -> Nat} : ∀ (os' : List (Option AObj)) (M : Nat) (os : List (Nat × Option AObj)), ol M os ++ os'.map (Option.map (AObj.ren π)) = ol (M + os'.length) (newO π M os' os)
  | [], M, os => by simp [newO]
  | o :: r, M, os => by
    rw [List.map_cons, <- List.singleton_append, <- List.append_assoc, ol_push, ol_newO r (M + 1), newO]
    congr 1; simp; omega
theorem updN_ol {π : Nat -> Nat} {M : Nat} : ∀ (is : List Nat) (os' : List (Option AObj)) (os : List (Nat × Option AObj)), is.length <= os'.length -> updO π (ol M os) is os' = ol (M + (os'.length - is.length)) (updN π M is os' os)
  | [], os', os, _ => by
    have e : updN π M [] os' os = newO π M os' os := by unfold updN; rfl
    have e2 : updO π (ol M os) [] os' = ol M os ++ os'.map (Option.map (AObj.ren π)) := by unfold updO; rfl
    rw [e, e2, ol_newO]; simp
  | i :: is, o :: os', os, h => by
    simp only [updO, ol_set, updN]
    rw [updN_ol is os' _ (by simpa using h)]
    simp
  | _ :: _, [], _, h => by simp at h
section
variable {P : Program} {Γ : Cx} {n M : Nat} {l : List (Nat × AV)} {os : List (Nat × Option AObj)} {x X : AV} {d t : Tmp} {ty : TypeId} {pos : String} {af : Array Edge} {ops : Array Oper} {rest : List Oper} {K : St -> Prop} {g : FuncId} {first cap xa ys : List AV} {f : Operand} {args : Array Operand} {tys : Array TypeId}
theorem sc_o {aos : List AObj} {os' : List (Option AObj)} (is : List Nat) (hf : opq n l f = some (.clo (.func g) first cap)) (has : opqL n l args.toList = some xa) (hspec : FnO P g ys aos X os')
  (hL : Lend is (S n l M os) (first ++ xa ++ cap) ys aos)
  (hk : asemC P ops rest (S n ((d, X.ren (apx M is)) :: l) (M + (os'.length - is.length)) (updN (apx M is) M is os' os)) K) :
  asemC P ops (⟨some d, .call ⟨.value f, args, tys⟩, ty, pos, af, none⟩ :: rest) (S n l M os) K := by
 simp only [asemC]
 refine .inl ?_
 have hM : (S n l M os).objs.length = M := ol_length M os
 simp only [execA, opq_op hf, opqL_op has]
 refine Call.via is hspec.spec hL ?_
 rintro r o' ⟨rfl, rfl⟩
 have hil : is.length = aos.length := by have := wkRO_len hL.2.1; simpa using this.symm
 have := hspec.len
 refine ⟨hspec.len, hspec.bd, ?_⟩
 rw [hM]
 have e : (⟨(S n l M os).tmps, updO (apx M is) (S n l M os).objs is o'⟩ : St) = S n l (M + (o'.length - is.length)) (updN (apx M is) M is o' os) := by
  simp only [S]; rw [updN_ol is o' os (by omega)]
 rw [e, S_put]
 exact hk
def RetO (P : Program) (rs : List ResultVar) (m : Nat) (X : AV) (os' : List (Option AObj)) (s : St) : Prop :=
 ∃ x is, resN P s rs = some x /\ ToR m is ⟨[x], s.objs⟩ ⟨[X], os'⟩
theorem FnO.intro {fn : Func} {c : Code} {aos : List AObj} {os' : List (Option AObj)} {rs : List ResultVar} (hlen : aos.length <= os'.length) (hbd : X.bd os'.length = true) (he : enterable P g = true) (hf : P.funcs[g]? = some fn) (hb : fn.body = some c) (hrs : fn.results = rs.toArray) (hn : fn.ntmps = n) (hl : ys.length <= n)
  (h : ∀ Γ : Cx, Γ.m = aos.length -> WP P Γ c (bodyQ (RetO P rs aos.length X os')) (S n (enumA 0 ys) aos.length (enumO 0 aos))) : FnO P g ys aos X os' := by
 refine ⟨Spec.introR he hf hb (rs := rs) (by rw [hrs]) fun Γ hm => ?_, hlen, hbd⟩
 subst hn
 rw [List.length_map] at hm
 rw [tl_start _ _ hl]
 have hw := h Γ hm
 simp only [S, <- ol_enum] at hw
 refine WP.mono hw ?_
 have key : ∀ s, RetO P rs aos.length X os' s -> ∃ x y l t, resN P s rs = some x /\ ToR (aos.map some).length l ⟨[x], s.objs⟩ ⟨[y], t⟩ /\ (y = X /\ t = os') := by
  rintro s ⟨x, is, h1, h2⟩
  exact ⟨x, X, is, os', h1, by rw [List.length_map]; exact h2, rfl, rfl⟩
 intro e s hq
 cases e with
 | normal => exact key s hq
 | ret => exact key s hq
 | _ => exact hq
theorem retO_L {m : Nat} {rs : List ResultVar} {xs : List AV} {os' : List (Option AObj)} {os1 : List (Nat × Option AObj)} {k : Nat} (hr : ResL P n l M os rs xs) (hx : tupA xs = x) (hT : ∃ is, ToR m is (S 1 [(0, x)] M os) (S 1 [(0, X)] k os1)) (he : ol k os1 = os') : RetO P rs m X os' (S n l M os) := by
 obtain ⟨is, hT⟩ := hT
 refine ⟨x, is, ?_, ?_⟩
 ·simp only [resN, hr.ok, Option.map_some, hx]
 ·subst he
  have e1 : ∀ y : AV, tl 1 [(0, y)] = [y] := fun y => rfl
  simp only [S, e1] at hT
  exact hT
end
open Go.Proofs
section
variable {P : Program} {n M : Nat} {l : List (Nat × AV)} {os : List (Nat × Option AObj)} {e : List Bool} {a : Operand} {ty : TypeId} {ti tj : TI}
theorem ap_conv_r1 {src : TypeId} {z : Int} {id : Nat} [h0 : TIc P src tj] [h : TIc P ty ti] (ha : Rq n l e a (.ref id 1 0 1)) (ho : lookq M os id = some (.arr 1 [.val (.int .u8 z)])) (hz : 0 <= z /\ z <= 255) (hk : ti.kind = none) (hs : ti.sh = .string) (hb : b8 P ti = false) (hb' : b8 P tj = true) : Ap P n l M os e (.convert src ty a) (.val (.string (strB [UInt8.ofNat z.toNat]))) := by
 refine ap_conv_ref ha ?_ rfl hk hs hb hb'
 rw [ho]
 have : byteA (UInt8.ofNat z.toNat) = .val (.int .u8 z) := by
  simp only [byteA]
  have h1 : ((UInt8.ofNat z.toNat).toNat : Int) = z := by
   rw [UInt8.toNat_ofNat']
   omega
  rw [h1]
 rw [List.map_cons, List.map_nil, this]
end
end Go.Lg
