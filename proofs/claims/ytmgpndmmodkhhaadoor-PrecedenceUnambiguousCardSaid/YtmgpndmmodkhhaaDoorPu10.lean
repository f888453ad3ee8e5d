/-
  Part 10 of the proof of PrecedenceUnambiguousCard: the logic over the model, the functions' contracts and the plain laws.
-/
import Derived.Test.YtmgpndmmodkhhaaDoorPu9
import Derived.Carry
import Derived.ProofKit
import Derived.OpenShut
import Derived.JoinedCond

set_option linter.unusedSimpArgs false
set_option linter.unusedVariables false
set_option linter.unusedSectionVars false
set_option linter.defProp false

namespace Go.Lg
open Go.RowKit Go.ChangeShapes Go.WideShapes
abbrev There (w : World) (b : Nat) : Prop := b < w.heap.size
abbrev RW0 (w : World) (x : AV) (v : Value) : Prop := RV (fun _ => False) (fun _ => none) (There w) w x v
abbrev CW0 (w : World) (xs : List AV) (vs : List Value) : Prop := CR (fun _ => False) (fun _ => none) (There w) w xs vs
theorem Fn.calls {P : Program} {f : FuncId} {args : List AV} {X : AV} (h : Fn P f args X) {W : World} (hG : GW W) (hgl : GL <= W.heap.size) {vs : Array Value} (hl : vs.size = args.length)
  (hv : ∀ (i : Nat) x v, args[i]? = some x -> vs[i]? = some v -> RW0 W x v) :
  Calls P f vs W fun e W' => ∃ v, e = .returned v /\ (∃ A ρ I, RV A ρ I W' X v) /\ Below W.heap.size W W' := by
 let Γ : Cx := ⟨W, There W, 0, fun _ => none, hG, hgl, fun i hi => absurd hi (Nat.not_lt_zero i), [], fun i hi => absurd hi (Nat.not_lt_zero i), false⟩
 have h0 : SR Γ ⟨args, []⟩ ⟨vs, []⟩ W := by
  refine ⟨fun _ => none, fun i hi => absurd hi (Nat.not_lt_zero i), by simpa using hl, ?_, fun id o hl => by simp [St.live] at hl, fun id o hl => by simp [St.live] at hl, fun id hid => hid, fun id o b hl => by simp [St.live] at hl, fun i j o o' b hl => by simp [St.live] at hl, .nil rfl, ⟨Nat.le_refl _, rfl, rfl, rfl, fun _ _ _ => rfl, fun _ _ hn => hn⟩⟩
  intro i x v hx hu
  exact (hv i x v hx hu).mono (fun _ hA => hA.elim) (fun b hb => ⟨⟨.inl hb, hb, fun id o hl => by simp [St.live] at hl⟩, rfl⟩) (fun _ _ hn => hn)
 refine (h.spec.2 Γ vs ⟨rfl, rfl⟩ h0).mono ?_
 rintro e W' ⟨r, objs', v, rfl, ⟨rfl, _⟩, ρ, hs⟩
 have hfr := hs.fr
 exact ⟨v, rfl, ⟨_, _, _, hs.tmp 0 r v rfl rfl⟩, ⟨hfr.os, hfr.tape, hfr.output, hfr.size, fun b hb => hfr.block b hb (fun i hi => absurd hi (Nat.not_lt_zero i))⟩⟩
class Dat (P : Program) (t : TypeId) {α : outParam Type} (f : outParam (α -> AV)) : Prop where
 dat : ∀ {H : Type} {enc : TypeId × Value -> H} {w : World} {fuel : Nat} {cs : List Value} {x : DataW H × List MemPlace},
  DataW.trod enc P w 0 (fun _ => true) true fuel t cs = some x -> ∃ a : α, CW0 w (f a).cells cs
section
variable {P : Program} {w : World}
theorem CR.one {x : AV} {v : Value} (h : RW0 w x v) (hx : x.one = true) : CW0 w [x] [v] := by
 have := h.cr1 hx
 rwa [one_cells hx, atom_cells (h.atom_of hx)] at this
theorem dat_int {t : TypeId} {k : IntKind} (ht : P.underlying t = some (.int k)) : Dat P t (fun n : Int => AV.val (.int k n)) := ⟨fun h => by
 obtain ⟨n, rfl, rfl, _⟩ := DataW.trod_int ht h
 exact ⟨n, CR.one (.val rfl) rfl⟩⟩
theorem dat_string {t : TypeId} (ht : P.underlying t = some .string) : Dat P t (fun s : ByteArray => AV.val (.string s)) := ⟨fun h => by
 obtain ⟨n, rfl, rfl, _⟩ := DataW.trod_string ht h
 exact ⟨n, CR.one (.val rfl) rfl⟩⟩
theorem cr_flat {k : Nat} {cell : Nat -> Option Value} : ∀ (es : List AV) (o : Nat), (∀ e, e ∈ es -> e.cells.length = k) ->
  (∀ i e, es[i]? = some e -> ∃ cs : List Value, CW0 w e.cells cs /\ ∀ j, j < k -> cell (o + i * k + j) = cs[j]?) ->
  ∃ f : Nat -> Value, ∀ j, j < (flat es).length -> cell (o + j) = some (f j) /\ atom (f j) = true /\ ∀ x, (flat es)[j]? = some x -> RW0 w x (f j) := by
 intro es
 induction es with
 | nil => intro o _ _; exact ⟨fun _ => undef, fun j hj => by simp [flat] at hj⟩
 | cons e es ih =>
  intro o hk h
  obtain ⟨cs, hcs, hc⟩ := h 0 e rfl
  obtain ⟨f, hf⟩ := ih (o + k) (fun e he => hk e (by simp [he])) (fun i e' he' => by
   obtain ⟨cs', h1, h2⟩ := h (i + 1) e' (by simpa using he')
   refine ⟨cs', h1, fun j hj => ?_⟩
   have := h2 j hj
   rw [show o + (i + 1) * k + j = o + k + i * k + j by rw [Nat.add_mul, Nat.one_mul]; omega] at this
   exact this)
  have hke := hk e (by simp)
  refine ⟨fun j => if j < k then cs.getD j undef else f (j - k), fun j hj => ?_⟩
  simp only [flat, List.flatMap_cons, List.length_append] at hj
  have hl := hcs.len
  by_cases hjk : j < k
  ·simp only [if_pos hjk]
   have h1 : cs[j]? = some (cs.getD j undef) := by simp [List.getD, show j < cs.length by omega]
   refine ⟨by have := hc j hjk; simp only [Nat.zero_mul, Nat.add_zero] at this; rw [this, h1], hcs.atoms _ (List.mem_of_getElem? h1), fun x hx => ?_⟩
   simp only [flat, List.flatMap_cons] at hx
   rw [List.getElem?_append_left (by omega)] at hx
   exact hcs.vals j x _ hx h1
  ·simp only [if_neg hjk]
   obtain ⟨g1, g2, g3⟩ := hf (j - k) (by simp only [flat]; omega)
   refine ⟨by rw [<- g1]; congr 1; omega, g2, fun x hx => g3 x ?_⟩
   simp only [flat, List.flatMap_cons] at hx
   rw [List.getElem?_append_right (by omega), hke] at hx
   exact hx
theorem list_of_each {α : Type} {Q : Nat -> α -> Prop} : ∀ {n : Nat}, (∀ i, i < n -> ∃ a, Q i a) -> ∃ zs : List α, zs.length = n /\ ∀ i a, zs[i]? = some a -> Q i a
  | 0, _ => ⟨[], rfl, by simp⟩
  | n + 1, h => by
    obtain ⟨zs, h1, h2⟩ := list_of_each (n := n) (fun i hi => h i (by omega))
    obtain ⟨a, ha⟩ := h n (by omega)
    refine ⟨zs ++ [a], by simp [h1], fun i x hx => ?_⟩
    rw [List.getElem?_append] at hx
    split at hx
    · exact h2 i x hx
    · have hi : i - zs.length = 0 := by
        have := (List.getElem?_eq_some_iff.1 hx).1
        simp at this; omega
      rw [hi] at hx
      simp at hx
      subst hx
      have : i = n := by omega
      rw [this]; exact ha
theorem dat_slice {t e : TypeId} {α : Type} {f : α -> AV} {k : Nat} (ht : P.underlying t = some (.slice e)) (hk : P.cellsOf e = k) (hk0 : 0 < k) (hf : ∀ a, (f a).cells.length = k) [he : Dat P e f] : Dat P t (fun l : List α => AV.sl k (l.map f)) := ⟨fun {H} {enc} {w} {fuel} {cs} {x} h => by
 rcases DataW.trod_slice ht h with ⟨rfl, _⟩ | ⟨a, len, cap, elems, rest, n, _, rfl, rfl, hb, hl, hm, hlen, hel, _⟩
 ·exact ⟨[], CR.one .nils rfl⟩
 ·have each : ∀ i, i < elems.length -> ∃ y : α, ∃ cs : List Value, CW0 w (f y).cells cs /\ ∀ j, j < k -> w.cell? ((a.add (i * k)).add j) = cs[j]? := fun i hi => by
   have := hel i (by omega)
   rw [List.getElem?_eq_getElem hi, Option.bind_eq_some_iff, hk] at this
   obtain ⟨cs, h1, h2⟩ := this
   obtain ⟨y, hy⟩ := he.dat h2
   exact ⟨y, cs, hy, (World.cells?_some h1).2.2⟩
  obtain ⟨zs, h1, h2⟩ := list_of_each each
  refine ⟨zs, ?_⟩
  cases zs with
  | nil =>
   have : len = 0 := by simp at h1; omega
   subst this
   exact CR.one .nils rfl
  | cons y zs =>
   obtain ⟨cs0, c1, c2⟩ := h2 0 y rfl
   have hcs0 : cs0.length = k := by rw [c1.len, hf]
   have hcell0 : w.cell? ((a.add (0 * k)).add 0) = some (cs0[0]'(by omega)) := by rw [c2 0 hk0, List.getElem?_eq_getElem (by omega)]
   have hsp : a.spot = none := by
    have := World.cell?_spot hcell0
    simpa [Addr.add] using this
   obtain ⟨b, o, sp⟩ := a
   simp only at hsp; subst hsp
   have hlt : b < w.heap.size := by
    have : w.cell? ⟨b, o, none⟩ ≠ none := by
     have := hcell0
     simp [Addr.add] at this
     rw [this]; simp
    by_cases hb : b < w.heap.size
    ·exact hb
    ·exfalso; apply this; unfold World.cell?; simp [Array.getElem?_eq_none (Nat.le_of_not_lt hb)]
   obtain ⟨g, hg⟩ := cr_flat (k := k) (cell := fun j => w.cell? ⟨b, j, none⟩) ((y :: zs).map f) o (fun e he => by obtain ⟨z, _, rfl⟩ := List.mem_map.1 he; exact hf z) (fun i e hi => by
    rw [List.getElem?_map, Option.map_eq_some_iff] at hi
    obtain ⟨z, hz, rfl⟩ := hi
    obtain ⟨cs, q1, q2⟩ := h2 i z hz
    refine ⟨cs, q1, fun j hj => ?_⟩
    have := q2 j hj
    rwa [add_lit, add_lit] at this)
   have hlen' : ((y :: zs).map f).length = len := by simp only [List.length_map]; omega
   have key : RW0 w (.sl k ((y :: zs).map f)) (.slice (some ⟨b, o, none⟩) ((y :: zs).map f).length cap) :=
    .sl g ⟨by omega, hm⟩ hlt (fun e he => by obtain ⟨z, _, rfl⟩ := List.mem_map.1 he; exact hf z) (fun j hj => (hg j hj).1) (fun j hj => (hg j hj).2.1) (fun j x hx => (hg j ((List.getElem?_eq_some_iff.1 hx).1)).2.2 x hx)
   rw [hlen'] at key
   exact CR.one key rfl⟩
theorem CR.seg {cs : List Value} {o n : Nat} {ys zs : List AV} (h1 : CW0 w ys ((cs.drop o).take n)) (h2 : CW0 w zs (cs.drop (o + n))) : CW0 w (ys ++ zs) (cs.drop o) := by
 have := h1.append h2
 rwa [show (cs.drop o).take n ++ cs.drop (o + n) = cs.drop o by rw [<- List.drop_drop]; exact List.take_append_drop n _] at this
theorem CR.fin {cs : List Value} {o : Nat} (h : cs.length <= o) : CW0 w [] (cs.drop o) := by
 rw [List.drop_of_length_le h]; exact ⟨rfl, by simp, by simp⟩
theorem dat_struct {t : TypeId} {fs : Array Field} {α : Type} {f : α -> AV} {m : Nat} (ht : P.underlying t = some (.struct fs)) (hm : P.cellsOf t = m)
  (h : ∀ {H : Type} {enc : TypeId × Value -> H} {w : World} {fuel : Nat} {cs : List Value}, cs.length = m -> (∀ (i : Nat) (g : Field), fs[i]? = some g -> ∃ x, DataW.trod enc P w 0 (fun _ => true) true fuel g.type ((cs.drop g.offset).take (P.cellsOf g.type)) = some x) -> ∃ a : α, CW0 w (f a).cells (cs.drop 0)) : Dat P t f := ⟨fun hx => by
 obtain ⟨xs, n, _, rfl, hl, hlen, hf⟩ := DataW.trod_struct ht hx
 rw [hm] at hl
 obtain ⟨a, ha⟩ := h hl fun i g hg => by
  have hi : i < xs.length := by rw [hlen]; exact (Array.getElem?_eq_some_iff.1 hg).1
  exact ⟨xs[i], by rw [hf i g hg, List.getElem?_eq_getElem hi]⟩
 exact ⟨a, by simpa using ha⟩⟩
def fieldTO (P : Program) (t : TypeId) : Option (List (TypeId × Nat)) :=
 match P.underlying t with
 | some (.struct fs) => some (fs.toList.map fun g => (g.type, g.offset))
 | _ => none
def eachField {H : Type} (enc : TypeId × Value -> H) (P : Program) (w : World) (cs : List Value) : List (TypeId × Nat) -> Prop
 | [] => True
 | (t, o) :: r => (∃ fuel x, DataW.trod enc P w 0 (fun _ => true) true fuel t ((cs.drop o).take (P.cellsOf t)) = some x) /\ eachField enc P w cs r
theorem dat_fields {t : TypeId} {l : List (TypeId × Nat)} {α : Type} {f : α -> AV} {m : Nat} (hl : fieldTO P t = some l) (hm : P.cellsOf t = m)
  (h : ∀ {H : Type} {enc : TypeId × Value -> H} {w : World} {cs : List Value}, cs.length = m -> eachField enc P w cs l -> ∃ a : α, CW0 w (f a).cells (cs.drop 0)) : Dat P t f := by
 unfold fieldTO at hl
 split at hl
 ·rename_i fs ht
  injection hl with hl
  refine dat_struct ht hm fun {H} {enc} {w} {fuel} {cs} hc hf => h (enc := enc) hc ?_
  rw [<- hl]
  have gen : ∀ gs : List Field, (∀ g, g ∈ gs -> ∃ x, DataW.trod enc P w 0 (fun _ => true) true fuel g.type ((cs.drop g.offset).take (P.cellsOf g.type)) = some x) -> eachField enc P w cs (gs.map fun g => (g.type, g.offset)) := by
   intro gs
   induction gs with
   | nil => intro _; trivial
   | cons g gs ih => intro hg; obtain ⟨x, hx⟩ := hg g (by simp); exact ⟨⟨fuel, x, hx⟩, ih fun g hg' => hg g (by simp [hg'])⟩
  refine gen _ fun g hg => ?_
  obtain ⟨i, hi⟩ := List.getElem?_of_mem hg
  exact hf i g (by rw [<- Array.getElem?_toList]; exact hi)
 ·cases hl
theorem field_dat {H : Type} {enc : TypeId × Value -> H} {t : TypeId} {o n : Nat} {α : Type} {f : α -> AV} {cs : List Value} [hd : Dat P t f] (h : ∃ fuel x, DataW.trod enc P w 0 (fun _ => true) true fuel t ((cs.drop o).take (P.cellsOf t)) = some x) (hn : P.cellsOf t = n) : ∃ a : α, CW0 w (f a).cells ((cs.drop o).take n) := by
 obtain ⟨fuel, x, hx⟩ := h
 rw [hn] at hx
 exact hd.dat hx
theorem arg_dat {H : Type} {enc : TypeId × Value -> H} {t : TypeId} {α : Type} {f : α -> AV} [hd : Dat P t f] {v : Value} {d : DataW H} {ps : List MemPlace} (h : DataW.Trod enc P w 0 (fun _ => true) true t v d ps) {r : Reach} {b0 : Nat} (hval : Value.okWide P w r b0 t v)
  (hs : ∀ a, ((f a).one = true /\ (match P.underlying t with | some (.struct _) => False | some (.array _ _) => False | _ => True)) \/ ∃ cs fs, f a = .agg cs /\ P.underlying t = some (.struct fs)) : ∃ a : α, RW0 w (f a) v := by
 obtain ⟨fuel, h⟩ := h
 obtain ⟨a, ha⟩ := hd.dat h
 refine ⟨a, ?_⟩
 rcases hs a with ⟨h1, h2⟩ | ⟨cs, fs, h1, h2⟩
 ·rw [one_cells h1] at ha
  have hl := ha.len
  have hv : v.cells = #[v] := by
   cases v with
   | agg vs =>
    exfalso
    unfold Value.okWide at hval
    split at hval
    ·rename_i hh; rw [hh] at h2; exact h2
    ·rename_i hh; rw [hh] at h2; exact h2
    ·simp only [Cell.okWide] at hval
     split at hval <;> simp_all [Cell.ok]
   | _ => rfl
  rw [hv] at ha
  exact ha.vals 0 _ _ rfl rfl
 ·obtain ⟨vs, rfl, _⟩ := okWide_struct h2 hval
  rw [h1] at ha ⊢
  exact CR.agg ha
end
theorem trodAll_below {H : Type} {enc : TypeId × Value -> H} {P : Program} (hl : laidOutB P = true) {W W' : World} (hb : Below W.heap.size W W') :
    ∀ {ts : List TypeId} {vs : List Value} {ds : List (DataW H)} {ps : List MemPlace}, (ts.all fun t => P.readableRec t && decide (t < P.types.size)) = true -> (∀ x ∈ ps, x.block < W.heap.size) ->
    DataW.TrodAll enc P W 0 (fun _ => true) true ts vs ds ps -> DataW.TrodAll enc P W' 0 (fun b => decide (b < W.heap.size)) true ts vs ds ps
  | [], _, _, _, _, _, h => by obtain ⟨rfl, rfl, rfl⟩ := trodAll_nil h; exact trodAll_mk0
  | t :: ts, _, _, _, ha, hps, h => by
    obtain ⟨v, vs, d, ds, p, q, rfl, rfl, rfl, h1, h2⟩ := trodAll_cons h
    simp only [List.all_cons, Bool.and_eq_true, decide_eq_true_eq] at ha
    exact ⟨p, q, Below.trod hl ha.1.1 ha.1.2 h1 hb (fun x hx => hps x (by simp [hx])), trodAll_below hl hb (by simpa using ha.2) (fun x hx => hps x (by simp [hx])) h2, rfl⟩
theorem law_post {H : Type} {enc : TypeId × Value -> H} {P : Program} {f : Func} {s : ChangeSpec} {apart : Bool} {W W' : World} {args : Array Value} {ds gs : List (DataW H)} {before : List MemPlace} {tb : TypeId}
  (hl : laidOutB P = true) (hts : (f.params.toList.all fun t => P.readableRec t && decide (t < P.types.size)) = true) (hrt : f.resultTypes = #[tb]) (htb : P.underlying tb = some .bool) (hv : s.vars = [])
  (hW : DataW.Whole enc P f.params.toList s.vars apart W args.toList ds gs before) (hfn : gs = [] -> s.fn H (ds ++ gs) = { results := [.lit (.bool true)], args := ds }) (hb : Below W.heap.size W W') :
  s.post enc P f apart true false false W args (.bool true) W' := by
 have hlt := fun p hp => hW.lt p hp
 have hW' := hW
 obtain ⟨p, q, hA, hV, rfl, hz, hn⟩ := hW
 rw [hv] at hV
 obtain ⟨rfl, rfl⟩ := trodVars_none hV
 have hfn := hfn rfl
 refine ⟨ds, [], _, [], p, [], hW', ?_, ?_, ?_, World.keptBut_mono (fun p hp => ⟨hp, .inr (.inl (by simpa using hp))⟩) (hb.frame _), fun h => by cases h⟩
 ·rw [hrt, hfn]
  exact trodAll_mk1 ⟨1, by simp [DataW.trod, htb, Value.cells]⟩
 ·rw [hfn]
  exact trodAll_below hl hb hts (fun x hx => by simpa using hlt x (by simpa using hx)) hA
 ·rw [hv, hfn]; rfl
theorem RV.bool {A : Nat -> Prop} {ρ : Nat -> Option Nat} {I : Nat -> Prop} {w : World} {b : Bool} {v : Value} (h : RV A ρ I w (.val (.bool b)) v) : v = .bool b := h.val_eq
end Go.Lg
