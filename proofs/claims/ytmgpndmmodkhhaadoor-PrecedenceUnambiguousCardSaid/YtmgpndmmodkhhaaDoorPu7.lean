/-
  Part 7 of the proof of PrecedenceUnambiguousCard: the logic over the model, the functions' contracts and the plain laws.
-/
import Derived.Test.YtmgpndmmodkhhaaDoorPu6

set_option linter.unusedSimpArgs false
set_option linter.unusedVariables false
set_option linter.unusedSectionVars false
set_option linter.defProp false

namespace Go.Lg
open Go.RowKit
section
variable {Γ : Cx} {A : Nat -> Prop} {ρ : Nat -> Option Nat} {s : St} {a : Act} {w : World}
theorem SRa.recell (h : SRa Γ A ρ s a w) {ido k' : Nat} {es es' : List AV} (hl : s.live ido (.arr k' es)) (hlen : (flat es').length = (flat es).length) (hw : ∀ e, e ∈ es' -> e.cells.length = k') (hne : es = [] -> es' = [])
  (hc : ∀ (j : Nat) x y, (flat es)[j]? = some x -> (flat es')[j]? = some y -> ∀ v, RV A ρ (Im Γ ρ s w) w x v -> RV A ρ (Im Γ ρ s w) w y v) : SRa Γ A ρ (s.set ido (some (.arr k' es'))) a w := by
 have hlt : ido < s.objs.length := (List.getElem?_eq_some_iff.1 hl).1
 have hI : ∀ b, Im Γ ρ s w b -> Im Γ ρ (s.set ido (some (.arr k' es'))) w b /\ w.heap[b]? = w.heap[b]? := by
  rintro b ⟨h1, h2, h3⟩
  refine ⟨⟨h1, h2, fun i o hl1 => ?_⟩, rfl⟩
  rcases St.live_set hl1 with ⟨rfl, _⟩ | ⟨_, hl1⟩
  ·exact h3 _ _ hl
  ·exact h3 i o hl1
 have hA : ∀ i, A i -> A i /\ ρ i = ρ i := fun i hi => ⟨hi, rfl⟩
 have old : ∀ {i o}, (s.set ido (some (.arr k' es'))).live i o -> ∃ o', s.live i o' := fun {i o} hl1 => by
  rcases St.live_set hl1 with ⟨rfl, _⟩ | ⟨_, hl1⟩
  ·exact ⟨_, hl⟩
  ·exact ⟨_, hl1⟩
 refine h.turn rfl hA hI (fun _ _ hn => hn) ?_ ?_ (fun i hi => by simpa using h.bound i hi) ?_ ?_ h.fr
 ·intro i o hl1
  rcases St.live_set hl1 with ⟨rfl, rfl⟩ | ⟨_, hl1⟩
  ·have ho := h.obj _ _ hl
   cases hb : ρ i with
   | none =>
    rw [hb] at ho
    obtain ⟨k2, h2⟩ := ho.resolve_left (by simp)
    injection h2 with _ h2
    exact .inr ⟨k', by rw [hne h2]⟩
   | some b =>
    rw [hb] at ho
    obtain ⟨cs, t, h1, h2, h3, h4, h5⟩ := ho
    refine ⟨cs, t, h1, by omega, hw, fun j v hj hv => h4 j v (by omega) hv, fun j y v hy hv => ?_⟩
    have hj : j < (flat es).length := by rw [<- hlen]; exact (List.getElem?_eq_some_iff.1 hy).1
    have hx := List.getElem?_eq_getElem hj
    exact (hc j _ y hx hy v (h5 j _ v hx hv)).mono hA hI (fun _ _ hn => hn)
  ·exact (h.obj i o hl1).mono hA hI (fun _ _ hn => hn) (fun _ _ => rfl)
 ·intro i o hl1; obtain ⟨o', h1⟩ := old hl1; exact h.made i o' h1
 ·intro i o b hl1 hb; obtain ⟨o', h1⟩ := old hl1; exact h.own i o' b h1 hb
 ·intro i j o1 o2 b h1 h2 hb hb'
  obtain ⟨o3, h3⟩ := old h1
  obtain ⟨o4, h4⟩ := old h2
  exact h.inj i j o3 o4 b h3 h4 hb hb'
theorem SRa.list (h : SRa Γ A ρ s a w) (hm : Γ.m = 0) {id k len : Nat} {α : Type} {f : α -> AV} {L : List α} (ho : s.look id = some (.arr k (L.map f))) (hl : L.length = len) (hb : ∀ x, (f x).bd 0 = true) (hk : ∀ x, (f x).cells.length = k)
    {I : Nat -> Prop} {v : Value} (hv : RV A ρ I w (.ref id k 0 len) v) : RV A ρ (Im Γ ρ (s.set id none) w) w (.sl k (L.map f)) v := by
  have hlive := St.look_some.1 ho
  have hI : ∀ b, Im Γ ρ s w b -> Im Γ ρ (s.set id none) w b /\ w.heap[b]? = w.heap[b]? := fun b ⟨h1, h2, h3⟩ => ⟨⟨h1, h2, fun i o hl => h3 i o (St.live_kill hl).2⟩, rfl⟩
  cases hv with
  | @ref _ _ _ _ cap b hA hbk hlc hcs hmx =>
    obtain ⟨cs, t, hblk, hrow⟩ := h.row ho hbk
    have hflat : (flat (L.map f)).length = (L.map f).length * k := flat_length hrow.wide
    have hIb : Im Γ ρ (s.set id none) w b := by
      refine ⟨.inr ?_, World.lt_of_block hblk, fun i o hl hr => ?_⟩
      · rcases h.own id _ b hlive hbk with h1 | ⟨i, hi, _⟩
        · exact h1
        · rw [hm] at hi; exact absurd hi (Nat.not_lt_zero i)
      · obtain ⟨h1, h2⟩ := St.live_kill hl
        exact h1 (h.inj i id o _ b h2 hlive hr hbk)
    have key : RV A ρ (Im Γ ρ (s.set id none) w) w (.sl k (L.map f)) (.slice (some ⟨b, 0 * k, none⟩) (L.map f).length cap) := by
      refine .sl (fun j => cs.getD j undef) ⟨by simp; omega, hmx⟩ hIb (fun e he => by obtain ⟨x, _, rfl⟩ := List.mem_map.1 he; exact hk x) (fun j hj => ?_) (fun j hj => ?_) (fun j x hx => ?_)
      · have : j < cs.size := Nat.lt_of_lt_of_le hj hrow.len
        rw [cell_of_block hblk]; simp [Array.getD, this]
      · have : j < cs.size := Nat.lt_of_lt_of_le hj hrow.len
        exact hrow.atoms j _ hj (by simp [Array.getD, this])
      · have hj := (List.getElem?_eq_some_iff.1 hx).1
        have : j < cs.size := Nat.lt_of_lt_of_le hj hrow.len
        exact (hrow.vals j x _ hx (by simp [Array.getD, this])).pure (flat_bd (bdL_map hb L) x (List.mem_of_getElem? hx)) hI (fun _ _ hn => hn)
    rw [List.length_map, hl] at key
    exact key
  | refn hA hbk =>
    have : L = [] := List.eq_nil_of_length_eq_zero hl
    subst this
    exact .nils
theorem act_same {a : Act} {j : Nat} {v : Value} (hv : a.tmps[j]? = some v) : a.put (some j) v = a := by
 have : a.tmps.setIfInBounds j v = a.tmps := by
  apply Array.ext (by simp)
  intro i h1 h2
  rw [Array.getElem_setIfInBounds h2]
  split
  ·rename_i e; subst e
   rw [Array.getElem?_eq_getElem h2] at hv
   injection hv with hv; exact hv.symm
  ·rfl
 cases a
 simp only [Act.put] at this ⊢
 rw [this]
theorem SRa.room' (h : SRa Γ (fun id => id < s.objs.length) ρ s a w) : SRa Γ (fun id => id < s.objs.length) ρ { s with objs := s.objs ++ [none] } a w := by
 have hl : ∀ id o, St.live { s with objs := s.objs ++ [none] } id o ↔ s.live id o := fun id o => by
  simp only [St.live]
  rw [List.getElem?_append]
  split
  ·rfl
  ·rename_i hge
   constructor
   ·intro h; simp [List.getElem?_singleton] at h
   ·intro h; exact absurd (List.getElem?_eq_some_iff.1 h).1 hge
 have hI : Im Γ ρ { s with objs := s.objs ++ [none] } w = Im Γ ρ s w := by funext b; simp [Im, hl]
 exact ⟨h.ext, h.len, fun i x v hx hv => by rw [hI]; exact h.tmp i x v hx hv, fun id o ho => by rw [hI]; exact h.obj id o ((hl id o).1 ho), fun id o ho => h.made id o ((hl id o).1 ho), fun id hid => by simp; omega,
  fun id o b ho hb => h.own id o b ((hl id o).1 ho) hb, fun i j o o' b h1 h2 => h.inj i j o o' b ((hl i o).1 h1) ((hl j o').1 h2), (by rw [hI]; exact h.defers), h.fr⟩
end
section
variable {P : Program} {Γ : Cx} {n M : Nat} {l : List (Nat × AV)} {os : List (Nat × Option AObj)} {c : Code} {Q : Exit -> St -> Prop}
theorem wp_nil (j k : Nat) (h : opq n l (.tmp j) = some (.val (.slice none 0 0))) (hk : WP P Γ c Q (S n ((j, .ref M k 0 0) :: l) (M + 1) ((M, some (.arr k [])) :: os))) : WP P Γ c Q (S n l M os) := by
 refine WP.nil j k ?_ ?_
 ·have hj : j < n := by
   simp only [opq] at h
   cases hb : Nat.blt j n with
   | false => rw [hb] at h; simp at h
   | true => exact blt_of hb
  have := opq_op (M := M) (os := os) h
  simp only [St.op, S] at this
  rw [tl_getD l hj] at this
  simp only [S, tl_get l hj, this]
 ·simp only [S, ol_length, tl_set, ol_push]; exact hk
theorem wp_frz {id k len : Nat} {α : Type} {f : α -> AV} {L : List α} (j : Nat) (hm : Γ.m = 0) (h : opq n l (.tmp j) = some (.ref id k 0 len)) (ho : lookq M os id = some (.arr k (L.map f))) (hl : L.length = len) (hb : ∀ x, (f x).bd 0 = true) (hk : ∀ x, (f x).cells.length = k)
  (hw : WP P Γ c Q (S n ((j, .sl k (L.map f)) :: l) M ((id, none) :: os))) : WP P Γ c Q (S n l M os) := fun a w hs => by
 refine hw a w ?_
 obtain ⟨ρ, hs⟩ := hs
 have hj : j < n := by
  simp only [opq] at h
  cases hb : Nat.blt j n with
  | false => rw [hb] at h; simp at h
  | true => exact blt_of hb
 have hx := opq_op (M := M) (os := os) h
 simp only [St.op, S] at hx
 rw [tl_getD l hj] at hx
 have hlen : a.tmps.size = n := by rw [hs.len]; simp [S, tl_length]
 have hv : a.tmps[j]? = some (a.tmps[j]'(by omega)) := Array.getElem?_eq_getElem (by omega)
 have hrv := hs.tmp j (.ref id k 0 len) _ (by simp only [S, tl_get l hj, hx]) hv
 have h1 := hs.kill id
 have h2 := h1.put (some j) (hs.list hm (by rw [S_look]; exact ho) hl hb hk hrv)
 rw [act_same hv] at h2
 refine ⟨ρ, ?_⟩
 have e : ((S n l M os).set id none).put (some j) (.sl k (L.map f)) = S n ((j, .sl k (L.map f)) :: l) M ((id, none) :: os) := by simp [S, St.set, St.put, ol_set, tl_set]
 rw [e] at h2
 simpa [S, ol_length] using h2
theorem wp_frzo {id k len : Nat} {α : Type} {f : α -> AV} {L : List α} (ido m : Nat) {k' : Nat} {cs : List AV} (hm : Γ.m = 0) (hid : Nat.beq id ido = false) (hob : lookq M os ido = some (.arr k' [.agg cs])) (h : cs[m]? = some (.ref id k 0 len)) (ho : lookq M os id = some (.arr k (L.map f))) (hl : L.length = len) (hb : ∀ x, (f x).bd 0 = true) (hk : ∀ x, (f x).cells.length = k)
  (hw : WP P Γ c Q (S n l M ((ido, some (.arr k' [.agg (cs.set m (.sl k (L.map f)))])) :: (id, none) :: os))) : WP P Γ c Q (S n l M os) := fun a w hs => by
 refine hw a w ?_
 obtain ⟨ρ, hs⟩ := hs
 have h1 := hs.kill id
 have hne : id ≠ ido := Nat.ne_of_beq_eq_false hid
 have hob' : ((S n l M os).set id none).live ido (.arr k' [.agg cs]) := by
  have := St.look_some.1 (by rw [S_look]; exact hob : (S n l M os).look ido = some (.arr k' [.agg cs]))
  simp only [St.live, St.set_objs] at this ⊢
  rw [List.getElem?_set_ne hne]; exact this
 have hwide : cs.length = k' := by
  have := hs.obj ido _ (St.look_some.1 (by rw [S_look]; exact hob))
  cases hr : ρ ido with
  | none => rw [hr] at this; obtain ⟨_, h2⟩ := this.resolve_left (by simp); cases h2
  | some b => rw [hr] at this; obtain ⟨_, _, _, _, h3, _⟩ := this; exact h3 (.agg cs) (by simp)
 have h2 := h1.recell hob' (es' := [.agg (cs.set m (.sl k (L.map f)))]) (by simp [flat, AV.cells]) (by simp [AV.cells, hwide]) (by simp) (fun j x y hx hy v hv => by
  simp only [flat, AV.cells, List.flatMap_cons, List.flatMap_nil, List.append_nil] at hx hy
  rw [List.getElem?_set] at hy
  by_cases e : m = j
  ·subst e
   rw [h] at hx; injection hx with hx; subst hx
   simp only [if_true] at hy
   split at hy
   ·injection hy with hy; subst hy
    exact hs.list hm (by rw [S_look]; exact ho) hl hb hk hv
   ·cases hy
  ·rw [if_neg e, hx] at hy; injection hy with hy; subst hy; exact hv)
 refine ⟨ρ, ?_⟩
 have e : (((S n l M os).set id none).set ido (some (.arr k' [.agg (cs.set m (.sl k (L.map f)))]))) = S n l M ((ido, some (.arr k' [.agg (cs.set m (.sl k (L.map f)))])) :: (id, none) :: os) := by simp [S, St.set, ol_set]
 rw [e] at h2
 simpa [S, ol_length] using h2
inductive ResL (P : Program) (n : Nat) (l : List (Nat × AV)) (M : Nat) (os : List (Nat × Option AObj)) : List ResultVar -> List AV -> Prop
 | nil : ResL P n l M os [] []
 | tmp {t : Tmp} {x : AV} {rs : List ResultVar} {xs : List AV} (h : opq n l (.tmp t) = some x) (r : ResL P n l M os rs xs) : ResL P n l M os (.tmp t :: rs) (x :: xs)
 | cell {a : Tmp} {ty : TypeId} {ti : TI} {id k i j : Nat} {es : List AV} {y x : AV} {rs : List ResultVar} {xs : List AV} (ht : tinfo P ty = some ti) (h : opq n l (.tmp a) = some (.ptr id k i j)) (ho : lookq M os id = some (.arr k es)) (hi : es[i]? = some y) (hp : part ti y.cells j = some x)
   (r : ResL P n l M os rs xs) : ResL P n l M os (.cell a ty :: rs) (x :: xs)
theorem ResL.cellT {P : Program} {n : Nat} {l : List (Nat × AV)} {M : Nat} {os : List (Nat × Option AObj)} {a : Tmp} {ty : TypeId} {ti : TI} [hti : TIc P ty ti] {id k i j : Nat} {es : List AV} {y x : AV} {rs : List ResultVar} {xs : List AV} (h : opq n l (.tmp a) = some (.ptr id k i j)) (ho : lookq M os id = some (.arr k es)) (hi : es[i]? = some y) (hp : part ti y.cells j = some x)
      (r : ResL P n l M os rs xs) : ResL P n l M os (.cell a ty :: rs) (x :: xs) := .cell hti.h h ho hi hp r
theorem ResL.ok {P : Program} {n : Nat} {l : List (Nat × AV)} {M : Nat} {os : List (Nat × Option AObj)} {rs : List ResultVar} {xs : List AV} (h : ResL P n l M os rs xs) : resL P (S n l M os) rs = some xs := by
 have key : ∀ {t : Tmp} {x : AV}, opq n l (.tmp t) = some x -> (S n l M os).tmps.getD t .any = x := fun h => by
  have := opq_op (M := M) (os := os) h
  simpa only [St.op] using this
 induction h with
 | nil => rfl
 | tmp h _ ih => simp only [resL, resA, key h, ih, Option.bind_some, Option.map_some]
 | cell ht h ho hi hp _ ih =>
  simp only [resL, resA, ih, ht, Option.bind_some, key h, loadA, S_look, ho, hi, if_true, Option.bind_some, hp, Option.map_some]
theorem ret_many {P : Program} {n : Nat} {l : List (Nat × AV)} {M : Nat} {os : List (Nat × Option AObj)} {rs : List ResultVar} {xs ys : List AV} (h : ResL P n l M os rs xs) (h2 : 2 <= xs.length) (hz : FzL (lookq M os) xs ys) : Ret P rs (.tup ys) (S n l M os) := by
 refine ⟨.tup xs, ?_, by rw [S_look']; exact .tupL hz⟩
 simp only [resN, h.ok, Option.map_some]
 match xs, h2 with
 | _ :: _ :: _, _ => rfl
end
end Go.Lg
