/-
  Part 22 of the proof of PrecedenceUnambiguousCard: the logic over the model, the functions' contracts and the plain laws.
-/
import Derived.Test.YtmgpndmmodkhhaaDoorPu21
import Derived.Maps.RangeRun

set_option linter.unusedSimpArgs false
set_option linter.unusedVariables false
set_option linter.unusedSectionVars false
set_option linter.defProp false

namespace Go.Lg
open Go.RowKit Go.MapKept Go.ChangeMaps
section
variable {P : Program} {n M : Nat} {l : List (Nat × AV)} {os : List (Nat × Option AObj)} {a : Operand} {d : Tmp} {tx ty2 : TypeId} {pos : String} {af : Array Edge} {ops : Array Oper} {rest : List Oper} {K : St -> Prop}
def mapTy (P : Program) (t : TypeId) : Bool := match P.underlying t with
 | some (.map _ _) => true
 | _ => false
theorem mapTy_spec (h : mapTy P tx = true) : ∃ k e, P.underlying tx = some (.map k e) := by
 unfold mapTy at h
 split at h
 ·exact ⟨_, _, by assumption⟩
 ·cases h
theorem se_range {m : List (Value × AV)} {id : Nat} (hu : mapTy P tx = true) (ha : opq n l a = some (.map id)) (ho : lookq M os id = some (.map m))
  (hk : asemC P ops rest (S n ((d, .ptr M 1 0 0) :: l) (M + 1) ((M, some (.itr id m.length [])) :: os)) K) :
  asemC P ops (⟨some d, .range tx a, ty2, pos, af, none⟩ :: rest) (S n l M os) K := by
 obtain ⟨k, e, hu⟩ := mapTy_spec hu
 simp only [asemC]
 refine .inr (.inr (OpS.of ⟨_, hk, fun Γ ac w hs => ?_⟩))
 obtain ⟨ρ, hs⟩ := hs
 have hM : (S n l M os).objs.length = M := ol_length M os
 have hv := hs.eval a
 rw [opq_op ha] at hv
 generalize hva : ac.eval a = v at hv
 cases hv with
 | @map _ b hA hb =>
  have hobj := hs.obj id _ (St.look_some.1 ((S_look n l M os id).trans ho))
  rw [hb] at hobj
  obtain ⟨es, clock, hblk, hsz, hes, hclk, hborn⟩ := hobj
  have hc : clock = m.length := hclk.trans hsz
  subst hc
  have hnew := hs.room.new (nid := (S n l M os).objs.length) (by simp) (fun hh => Nat.lt_irrefl _ hh) (o := .itr id m.length []) (ob := .mapIter (some b) m.length #[] m.length)
   (fun A' ρ' I' hA' hI => ⟨b, #[], (MapKept.heap_alloc w _).1, rfl, (hA' _ hA).1, (hA' _ hA).2.trans hb⟩)
  have hp := hnew.put (some d) (x := .ptr (S n l M os).objs.length 1 0 0) (v := .pointer (some ⟨w.heap.size, 0, none⟩)) (.ptr (b := w.heap.size) (.inr rfl) (if_pos rfl))
  have e1 : ({ S n l M os with objs := (S n l M os).objs ++ [none] } : St).set (S n l M os).objs.length (some (.itr id m.length [])) = S n l (M + 1) ((M, some (.itr id m.length [])) :: os) := by
   have : ({ S n l M os with objs := (S n l M os).objs ++ [none] } : St).set (S n l M os).objs.length (some (.itr id m.length [])) = ⟨(S n l M os).tmps, (S n l M os).objs ++ [some (.itr id m.length [])]⟩ := by simp [St.set]
   rw [this]
   simp only [S, ol_push]
  rw [e1, hM, S_put] at hp
  refine ⟨.pointer (some ⟨w.heap.size, 0, none⟩), w.alloc (.mapIter (some b) m.length #[] m.length), by simp [execOp, hva, run_range_map w tx k e b es m.length hu hblk], fun i => if i = M then some w.heap.size else ρ i, ?_⟩
  have eA : (fun i => i < M \/ i = M) = fun i => i < (S n ((d, .ptr M 1 0 0) :: l) (M + 1) ((M, some (.itr id m.length [])) :: os)).objs.length := by
   have : (S n ((d, .ptr M 1 0 0) :: l) (M + 1) ((M, some (.itr id m.length [])) :: os)).objs.length = M + 1 := ol_length _ _
   funext i; rw [this]; simp; omega
  rw [<- eA]
  simpa only [hM] using hp
theorem tup1 {A : Nat -> Prop} {ρ : Nat -> Option Nat} {I : Nat -> Prop} {w : World} {x : AV} {v : Value} (h : RV A ρ I w x v) : RV A ρ I w (.tup [x]) (.tuple #[v]) :=
 .tup rfl fun i y u hy hu => by
  match i, hy, hu with
  | 0, hy, hu => simp at hy hu; subst hy hu; exact h
theorem tup2 {A : Nat -> Prop} {ρ : Nat -> Option Nat} {I : Nat -> Prop} {w : World} {x y : AV} {v u : Value} (h : RV A ρ I w x v) (h2 : RV A ρ I w y u) : RV A ρ I w (.tup [x, y]) (.tuple #[v, u]) :=
 .tup rfl fun i y u hy hu => by
  match i, hy, hu with
  | 0, hy, hu => simp at hy hu; subst hy hu; exact h
  | 1, hy, hu => simp at hy hu; subst hy hu; exact h2
theorem tup3 {A : Nat -> Prop} {ρ : Nat -> Option Nat} {I : Nat -> Prop} {w : World} {x y z : AV} {v u q : Value} (h : RV A ρ I w x v) (h2 : RV A ρ I w y u) (h3 : RV A ρ I w z q) : RV A ρ I w (.tup [x, y, z]) (.tuple #[v, u, q]) :=
 .tup rfl fun i y u hy hu => by
  match i, hy, hu with
  | 0, hy, hu => simp at hy hu; subst hy hu; exact h
  | 1, hy, hu => simp at hy hu; subst hy hu; exact h2
  | 2, hy, hu => simp at hy hu; subst hy hu; exact h3
theorem se_next {m : List (Value × AV)} {id r N : Nat} {seen : List Nat} (ha : opq n l a = some (.ptr r 1 0 0)) (hr : lookq M os r = some (.itr id N seen)) (ho : lookq M os id = some (.map m)) (hN : m.length = N) (hat : ∀ p, p ∈ m -> atom p.1 = true)
  (h0 : (∀ j, j < N -> j ∈ seen) -> asemC P ops rest (S n ((d, .tup [.val (.bool false)]) :: l) M os) K)
  (h1 : ∀ (j : Nat) p, j ∉ seen -> m[j]? = some p -> asemC P ops rest (S n ((d, .tup [.val (.bool true), .val p.1, p.2]) :: l) M ((r, some (.itr id N (seen ++ [j]))) :: os)) K) :
  asemC P ops (⟨some d, .next a false, ty2, pos, af, none⟩ :: rest) (S n l M os) K := by
 subst hN
 simp only [asemC]
 refine .inr (.inr fun Γ ac w hs => ?_)
 obtain ⟨ρ, hs⟩ := hs
 have hv := hs.eval a
 rw [opq_op ha] at hv
 generalize hva : ac.eval a = v at hv
 cases hv with
 | @ptr _ _ _ _ rb hA hrb =>
  have hli := St.look_some.1 ((S_look n l M os r).trans hr)
  have hlm := St.look_some.1 ((S_look n l M os id).trans ho)
  have hit := hs.obj r _ hli
  rw [hrb] at hit
  obtain ⟨b, sn, hblr, hsn, hAid, hb⟩ := hit
  have hobj := hs.obj id _ hlm
  rw [hb] at hobj
  obtain ⟨es, clock, hblk, hsz, hes, hclk, hborn⟩ := hobj
  have hc : clock = m.length := hclk.trans hsz
  subst hc
  have hold : ∀ x ∈ es.toList, x.born < m.length := fun x hx => by
   obtain ⟨j, hj⟩ := List.getElem?_of_mem hx
   have hj' : es[j]? = some x := by simpa using hj
   rw [hborn j x hj']
   have := (Array.getElem?_eq_some_iff.1 hj').1
   omega
  rcases run_next_at (P := P) w ty2 rb b m.length m.length sn es m.length hblr hblk hold (Nat.le_refl _) with ⟨h00, hrun⟩ | ⟨e, he, w1, hw1, hrun⟩
  ·refine .inl ⟨_, .tuple #[.bool false], w, h0 fun j hj => ?_, by simp [execOp, hva, hrun], ρ, ?_⟩
   ·have hlt : j < es.size := by omega
    have hj2 : es[j]? = some es[j] := Array.getElem?_eq_getElem hlt
    have := all_seen es sn h00 es[j] (by simp)
    rw [hborn j _ hj2] at this
    rw [<- hsn]; simpa using this
   ·have hp := hs.put (some d) (x := .tup [.val (.bool false)]) (v := .tuple #[.bool false]) (tup1 (.val rfl))
    rw [S_put] at hp
    exact hp
  ·obtain ⟨hem, hes2⟩ := mem_left he
   obtain ⟨j, hj⟩ := List.getElem?_of_mem hem
   have hj' : es[j]? = some e := by simpa using hj
   have hb1 := hborn j e hj'
   have hlt := (Array.getElem?_eq_some_iff.1 hj').1
   have hmj : m[j]? = some (m[j]'(by omega)) := List.getElem?_eq_getElem _
   generalize m[j]'(by omega) = p at hmj
   have hns : j ∉ seen := by rw [<- hsn, <- hb1]; simpa using hes2
   have hheap : w1.heap = w.heap := by rcases hw1 with rfl | rfl <;> rfl
   have hne : id ≠ r := by rintro rfl; rw [hr] at ho; cases ho
   have hnb : b ≠ rb := by rintro rfl; rw [hblr] at hblk; cases hblk
   have hst := heap_set (o' := .mapIter (some b) m.length (sn.push e.born) m.length) hblr
   have hwr := hs.write hli hrb (o' := .itr id m.length (seen ++ [j])) (w' := setBlock w1 rb (.mapIter (some b) m.length (sn.push e.born) m.length)) (by simp [setBlock, hheap])
    (by rcases hw1 with rfl | rfl <;> rfl) (by rcases hw1 with rfl | rfl <;> rfl) (by rcases hw1 with rfl | rfl <;> rfl) (fun c hc => by simp only [setBlock, hheap]; exact hst.2 c hc) (fun k hk => by simp [csize, hblr] at hk)
    (fun I' hI hcs => ⟨b, sn.push e.born, by simp only [setBlock, hheap]; exact hst.1, by simp [hsn, hb1], hAid, hb⟩)
   have hlm2 : ((S n l M os).set r (some (.itr id m.length (seen ++ [j])))).live id (.map m) := by
    unfold St.live St.set
    simp only
    rw [List.getElem?_set_ne (Ne.symm hne)]
    exact hlm
   have hob2 := hwr.obj id _ hlm2
   rw [hb] at hob2
   obtain ⟨es2, c2, hbl2, _, hes3, _⟩ := hob2
   have hbb : (setBlock w1 rb (.mapIter (some b) m.length (sn.push e.born) m.length)).heap[b]? = some (.map es m.length) := by simp only [setBlock, hheap]; exact (hst.2 b hnb).trans hblk
   rw [hbb] at hbl2
   injection hbl2 with hbl2
   injection hbl2 with hbl2 _
   subst hbl2
   obtain ⟨hk1, hk2⟩ := hes3 j e p hj' hmj
   have hp := hwr.put (some d) (x := .tup [.val (.bool true), .val p.1, p.2]) (v := .tuple #[.bool true, e.key, e.val]) (tup3 (.val rfl) (by rw [hk1]; exact .val (hat p (List.mem_of_getElem? hmj))) hk2)
   have e2 : (S n l M os).set r (some (.itr id m.length (seen ++ [j]))) = S n l M ((r, some (.itr id m.length (seen ++ [j]))) :: os) := by simp only [St.set, S, ol_set]
   rw [e2, S_put] at hp
   refine .inl ⟨_, .tuple #[.bool true, e.key, e.val], _, h1 j p hns hmj, by simp [execOp, hva, hrun]; rfl, ρ, ?_⟩
   have e3 : (S n ((d, .tup [.val (.bool true), .val p.1, p.2]) :: l) M ((r, some (.itr id m.length (seen ++ [j]))) :: os)).objs.length = (S n l M os).objs.length := (ol_length _ _).trans (ol_length _ _).symm
   rw [e3]
   exact hp
theorem se_entry {m : List (Value × AV)} {p : Value × AV} {id r N j : Nat} {seen : List Nat} (ha : opq n l a = some (.ptr r 1 0 0)) (hr : lookq M os r = some (.itr id N (seen ++ [j]))) (ho : lookq M os id = some (.map m)) (hN : m.length = N) (hp : m[j]? = some p) (hat : atom p.1 = true)
  (hk : asemC P ops rest (S n ((d, .tup [.val p.1, p.2]) :: l) M os) K) :
  asemC P ops (⟨some d, .entry a, ty2, pos, af, none⟩ :: rest) (S n l M os) K := by
 subst hN
 simp only [asemC]
 refine .inr (.inr (OpS.of ⟨_, hk, fun Γ ac w hs => ?_⟩))
 obtain ⟨ρ, hs⟩ := hs
 have hv := hs.eval a
 rw [opq_op ha] at hv
 generalize hva : ac.eval a = v at hv
 cases hv with
 | @ptr _ _ _ _ rb hA hrb =>
  have hit := hs.obj r _ (St.look_some.1 ((S_look n l M os r).trans hr))
  rw [hrb] at hit
  obtain ⟨b, sn, hblr, hsn, hAid, hb⟩ := hit
  have hobj := hs.obj id _ (St.look_some.1 ((S_look n l M os id).trans ho))
  rw [hb] at hobj
  obtain ⟨es, clock, hblk, hsz, hes, hclk, hborn⟩ := hobj
  have hc : clock = m.length := hclk.trans hsz
  subst hc
  have hlt : j < es.size := by have := (List.getElem?_eq_some_iff.1 hp).1; omega
  have hj' : es[j]? = some es[j] := Array.getElem?_eq_getElem hlt
  obtain ⟨hk1, hk2⟩ := hes j _ p hj' hp
  have hb1 := hborn j _ hj'
  have hsn2 : sn = seen.toArray.push es[j].born := by
   apply Array.ext'
   rw [hsn, hb1]; simp
  rw [hsn2] at hblr
  have hnd : (es.toList.map (·.born)).Nodup := by
   have : es.toList.map (·.born) = List.range es.size := by
    apply List.ext_getElem?
    intro i
    rw [List.getElem?_map]
    by_cases hi : i < es.size
    ·have h1 : es.toList[i]? = some es[i] := by simp [hi]
     rw [h1, List.getElem?_range hi]
     simp only [Option.map_some]
     rw [hborn i _ (Array.getElem?_eq_getElem hi)]
    ·rw [List.getElem?_eq_none (by simp; omega), List.getElem?_eq_none (by simp; omega)]; rfl
   rw [this]; exact List.nodup_range
  have hrun := run_entry_at (P := P) w rb b m.length seen.toArray es m.length es[j] hblr hblk (by simp) hnd
  refine ⟨.tuple #[es[j].key, es[j].val], w, by simp [execOp, hva, hrun], ρ, ?_⟩
  have h3 := hs.put (some d) (x := .tup [.val p.1, p.2]) (v := .tuple #[es[j].key, es[j].val]) (tup2 (by rw [hk1]; exact .val hat) hk2)
  rw [S_put] at h3
  exact h3
end
end Go.Lg
