/-
  Part 6 of the proof of GrammarfileInjectiveCard: the logic over the model, the functions' contracts and the plain laws.
-/
import Derived.Test.YteipbjbnlleheaaDoorKj5

set_option linter.unusedSimpArgs false
set_option linter.unusedVariables false
set_option linter.unusedSectionVars false

namespace Go.Lg
open Go.RowKit
mutual
def AV.lens : AV → Prop
  | .sl _ es => es.length ≤ 9223372036854775807 ∧ lensL es
  | .agg cs => lensL cs
  | _ => True
def lensL : List AV → Prop
  | [] => True
  | x :: xs => x.lens ∧ lensL xs
end
theorem lensL_iff : ∀ {l : List AV}, lensL l ↔ ∀ x, x ∈ l → x.lens
  | [] => by simp [lensL]
  | x :: xs => by simp [lensL, lensL_iff (l := xs)]
theorem lensL_map {α : Type} {f : α → AV} {L : List α} : lensL (L.map f) ↔ ∀ x, x ∈ L → (f x).lens := by
  rw [lensL_iff]; simp
theorem cells_lens {x : AV} (h : ∀ y, y ∈ x.cells → y.lens) : x.lens := by
  cases x with
  | agg cs => simp only [AV.lens]; rw [lensL_iff]; exact h
  | _ => exact h _ (by simp [AV.cells])
section
variable {P : Program} {Γ : Cx} {A : Nat → Prop} {ρ : Nat → Option Nat} {I : Nat → Prop} {w : World}
theorem RV.lens {x : AV} {v : Value} (h : RV A ρ I w x v) : x.lens := by
  induction h with
  | agg hl ha _ ih =>
    simp only [AV.lens]; rw [lensL_iff]
    intro y hy
    obtain ⟨i, hi, rfl⟩ := List.getElem_of_mem hy
    exact ih i _ _ (List.getElem?_eq_getElem hi) (Array.getElem?_eq_getElem (by omega))
  | nils => simp [AV.lens, lensL]
  | @sl k es b o c f hn hI hk hc ha _ ih =>
    simp only [AV.lens]
    refine ⟨by have := hn.1; have := hn.2; simp only [maxLen] at this; omega, ?_⟩
    rw [lensL_iff]
    intro e he
    refine cells_lens fun y hy => ?_
    have : y ∈ flat es := List.mem_flatMap.2 ⟨e, he, hy⟩
    obtain ⟨j, hj, rfl⟩ := List.getElem_of_mem this
    exact ih j _ (List.getElem?_eq_getElem hj)
  | _ => simp [AV.lens]
theorem wp_lens {n M : Nat} {l : List (Nat × AV)} {os : List (Nat × Option AObj)} {c : Code} {Q : Exit → St → Prop} (j : Nat) {x : AV} (h : opq n l (.tmp j) = some x) (hk : x.lens → WP P Γ c Q (S n l M os)) : WP P Γ c Q (S n l M os) := fun a w hs => by
  refine hk ?_ a w hs
  obtain ⟨ρ, hs⟩ := hs
  have := hs.eval (.tmp j)
  rw [opq_op h] at this
  exact this.lens
end
section
variable {P : Program} {Γ : Cx} {n M N i : Nat} {l l1 : List (Nat × AV)} {os os1 : List (Nat × Option AObj)} {a b c : Operand} {x y X : AV} {op : Op} {d t : Tmp} {ty : TypeId} {pos : String} {af : Array Edge} {ops : Array Oper} {o : Oper} {rest : List Oper} {K : List Rec → St → Prop} {Q : Exit → St → Prop} {j : Nat} {rs : List Rec} {want p : Bool}
theorem S_lit (h : opq n l (.tmp t) = some x) : S n ((t, x) :: l) M os = S n l M os := by
  have hx : lkq t l = some x := by
    simp only [opq] at h
    cases hb : Nat.blt t n with
    | false => rw [hb] at h; simp at h
    | true => rw [hb] at h; exact h
  have hk := lkq_lk hx
  simp only [S, St.mk.injEq, and_true]
  simp only [tl]
  apply List.map_congr_left
  intro i _
  simp only [lk]
  split
  · rename_i e; subst e; exact hk.symm
  · rfl
theorem rd_split (hg : opq n l (.tmp t) = some (.val (.bool p))) (h1 : p = true → RunD P ops N i rest (S n ((t, .val (.bool true)) :: l) M os) rs K) (h2 : p = false → RunD P ops N i rest (S n ((t, .val (.bool false)) :: l) M os) rs K) : RunD P ops N i rest (S n l M os) rs K := by
  cases p with
  | true => have := h1 rfl; rwa [S_lit hg] at this
  | false => have := h2 rfl; rwa [S_lit hg] at this
theorem yielded_q (ht : (ops[j]?).bind (·.dst) = some t) (hg : opq n l (.tmp t) = some (.val (.bool p))) : yieldedA ops (S n l M os) j = some p := by
  have := opq_op (M := M) (os := os) hg
  simp only [St.op] at this
  simp only [yieldedA, ht, Option.map_some, this]
theorem rd_skip (ht : (ops[j]?).bind (·.dst) = some t) (hg : opq n l (.tmp t) = some (.val (.bool (!want)))) (hk : RunD P ops N (i + 1) rest (S n ((d, skA) :: l) M os) (rs ++ [⟨some d, [], []⟩]) K) : RunD P ops N i (⟨some d, op, ty, pos, af, some (j, want)⟩ :: rest) (S n l M os) rs K :=
  ⟨.skip, _, ⟨rfl, j, want, rfl, .inl (yielded_q ht hg)⟩, by rw [S_put]; exact hk⟩
theorem rd_skip2 (ht : (ops[j]?).bind (·.dst) = some t) (hg : opq n l (.tmp t) = some skA) (hk : RunD P ops N (i + 1) rest (S n ((d, skA) :: l) M os) (rs ++ [⟨some d, [], []⟩]) K) : RunD P ops N i (⟨some d, op, ty, pos, af, some (j, want)⟩ :: rest) (S n l M os) rs K := by
  have := opq_op (M := M) (os := os) hg
  simp only [St.op] at this
  exact ⟨.skip, _, ⟨rfl, j, want, rfl, .inr (by rw [ht, Option.map_some, this])⟩, by rw [S_put]; exact hk⟩
theorem rdg (r : AV × Eff) (ht : (ops[j]?).bind (·.dst) = some t) (hg : opq n l (.tmp t) = some (.val (.bool want))) (hr : aop P (lookq M os) (N + i) (S n l M os).op op = some r)
    (hk : RunD P ops N (i + 1) rest (((S n l M os).eff (N + i) r.2).put (some d) r.1) (rs ++ [⟨some d, r.2.ids (N + i), topq n l op.operands.toList⟩]) K) : RunD P ops N i (⟨some d, op, ty, pos, af, some (j, want)⟩ :: rest) (S n l M os) rs K :=
  ⟨.did r, _, ⟨rfl, .inl (by rw [S_look']; exact hr), yielded_q ht hg⟩, by rw [recOf, topq_ids]; exact hk⟩
theorem rdg_u (ht : (ops[j]?).bind (·.dst) = some t) (hg : opq n l (.tmp t) = some (.val (.bool want))) (hp : plainq n l op.operands.toList = true) (hpk : (match op with | .pick _ _ _ => false | _ => true) = true) (h : Ap P n l M os [] op x) (hk : RunD P ops N (i + 1) rest (S n ((d, x) :: l) M os) (rs ++ [⟨some d, [], topq n l op.operands.toList⟩]) K) :
    RunD P ops N i (⟨some d, op, ty, pos, af, some (j, want)⟩ :: rest) (S n l M os) rs K := by
  refine rdg (x, .none) ht hg (apure_aop (plainq_res hp) (by rintro c a b rfl; cases hpk) (by unfold Ap at h; rw [S_look'] at h; exact h)) ?_
  simp only [St.eff, S_put, Eff.ids]
  exact hk
theorem rd_pick_t (hc : opq n l c = some (.val (.bool true))) (ha : opq n l a = some x) (hk : RunD P ops N (i + 1) rest (S n ((d, x) :: l) M os) (rs ++ [⟨some d, [], topq n l [c, a, b]⟩]) K) : RunD P ops N i (⟨some d, .pick c a b, ty, pos, af, none⟩ :: rest) (S n l M os) rs K := by
  refine rd (x, .none) ?_ ?_
  · simp only [aop, opq_op hc, opq_op ha, pickA, pure']
    split <;> simp_all
  · simp only [St.eff, S_put, Eff.ids]; exact hk
theorem rd_pick_f (hc : opq n l c = some (.val (.bool false))) (hb : opq n l b = some x) (hk : RunD P ops N (i + 1) rest (S n ((d, x) :: l) M os) (rs ++ [⟨some d, [], topq n l [c, a, b]⟩]) K) : RunD P ops N i (⟨some d, .pick c a b, ty, pos, af, none⟩ :: rest) (S n l M os) rs K := by
  refine rd (x, .none) ?_ ?_
  · simp only [aop, opq_op hc, opq_op hb, pickA, pure']
    split <;> simp_all
  · simp only [St.eff, S_put, Eff.ids]; exact hk
theorem rd_any (hp : ∃ x, aop P (lookq M os) (N + i) (S n l M os).op op = some (x, .none)) (hk : ∀ x, RunD P ops N (i + 1) rest (S n ((d, x) :: l) M os) (rs ++ [⟨some d, [], topq n l op.operands.toList⟩]) K) : RunD P ops N i (⟨some d, op, ty, pos, af, none⟩ :: rest) (S n l M os) rs K := by
  obtain ⟨x, hx⟩ := hp
  refine rd (x, .none) hx ?_
  simp only [St.eff, S_put, Eff.ids]; exact hk x
theorem rd_alloc {ti : TI} {o : AObj} {k bt : Nat} [ht : TIc P ty ti] [hz : TSz P ty k bt] (ho : allocA ti = some o) {ty2 : TypeId} (hk : RunD P ops N (i + 1) rest (S n ((d, .ptr (N + i) k 0 0) :: l) M ((N + i, some o) :: os)) (rs ++ [⟨some d, [N + i], []⟩]) K) :
    RunD P ops N i (⟨some d, .alloc ty, ty2, pos, af, none⟩ :: rest) (S n l M os) rs K := by
  refine rd (.ptr (N + i) k 0 0, .new o) (by simp [aop, ht.h, hz.h ti ht.h, ho, allocA_unit ht.h ho]) ?_
  have : ((S n l M os).eff (N + i) (.new o)).put (some d) (.ptr (N + i) k 0 0) = S n ((d, .ptr (N + i) k 0 0) :: l) M ((N + i, some o) :: os) := by
    simp only [St.eff, St.set, S, St.put, ol_set, tl_set]
  rw [this]; exact hk
theorem rd_lit {te : TI} {k m bt : Nat} {z : AV} {ps : Array (Nat × Operand)} {xs : List (Nat × AV)} {vs : List AV} [ht : TEl P ty te k bt] (hp : OpP n l ps.toList xs) (hv : seqv 0 xs = some vs) (hl : xs.length = m) (h0 : Nat.beq m 0 = false) (hbig : Nat.ble (m * k) 16777216 = true) (hzero : zeroA te = some z)
    (hc : (vs.all fun x => Nat.beq x.cells.length k && x.store) = true) {ty2 : TypeId} (hk : RunD P ops N (i + 1) rest (S n ((d, .ref (N + i) k 0 m) :: l) M ((N + i, some (.arr k vs)) :: os)) (rs ++ [⟨some d, [N + i], topq n l (Op.operands (.buildSlice ty m ps)).toList⟩]) K) :
    RunD P ops N i (⟨some d, .buildSlice ty m ps, ty2, pos, af, none⟩ :: rest) (S n l M os) rs K := by
  obtain ⟨ti, el, g1, he, hs, g4, hsz, hbz⟩ := ht.h
  have hp' := hp.get (M := M) (os := os)
  have hb : buildSliceA te m xs = some (.arr k vs) := by
    have hne : m ≠ 0 := Nat.ne_of_beq_eq_false h0
    simp only [buildSliceA, if_neg hne, hzero, Option.bind_some, hsz, if_pos (Nat.le_of_ble_eq_true hbig)]
    have := seqv_fill (k := k) (z := z) xs [] vs hv (fun x hx => by
      have := List.all_eq_true.1 hc x hx
      simp only [Bool.and_eq_true] at this
      exact ⟨Nat.eq_of_beq_eq_true this.1, this.2⟩)
    simp only [List.nil_append, hl] at this
    rw [this]; rfl
  refine rd (.ref (N + i) k 0 m, .new (.arr k vs)) (by simp only [aop, g1, he, g4, Option.bind_some, hp', hb, Option.map_some, hsz]) ?_
  have : ((S n l M os).eff (N + i) (.new (.arr k vs))).put (some d) (.ref (N + i) k 0 m) = S n ((d, .ref (N + i) k 0 m) :: l) M ((N + i, some (.arr k vs)) :: os) := by
    simp only [St.eff, St.set, S, St.put, ol_set, tl_set]
  rw [this]; exact hk
theorem rd_app {te tj : TI} {tx : TypeId} {k bt id len : Nat} {es ys : List AV} [ht : TEl P ty te k bt] [h3 : TIc P tx tj] (hsh : (match tj.sh with | .int => false | _ => true) = true) (ha : opq n l a = some (.ref id k 0 len)) (ho : lookq M os id = some (.arr k es)) (hl : es.length = len)
    (hb : opq n l b = some y) (hy : srcA te (lookq M os) y = some ys) (hz0 : (zeroA te).isSome = true) (hbt : Nat.beq bt 0 = false) (hr : (es.length + ys.length) * bt ≤ 140737488355328) {ty2 : TypeId}
    (hk : RunD P ops N (i + 1) rest (S n ((d, .ref (N + i) k 0 (es ++ ys).length) :: l) M ((N + i, some (.arr k (es ++ ys))) :: (id, none) :: os)) (rs ++ [⟨some d, [id, N + i], topq n l [a, b]⟩]) K) :
    RunD P ops N i (⟨some d, .call ⟨.builtin .append, #[a, b], #[ty, tx]⟩, ty2, pos, af, none⟩ :: rest) (S n l M os) rs K := by
  obtain ⟨ti, el, g1, he, hs, g4, hsz, hbz⟩ := ht.h
  have hb0 : te.bytes ≠ 0 := by rw [hbz]; exact Nat.ne_of_beq_eq_false hbt
  have hrm : room te (es.length + ys.length) := ⟨by rw [hbz]; exact hr, hb0⟩
  have happ : appendA te (lookq M os) (.ref id k 0 len) y = some (some id, es ++ ys) := by
    simp only [appendA, hz0, if_true, ho, hsz]
    rw [if_pos ⟨trivial, trivial, trivial, hl⟩, hy, Option.bind_some, if_pos hrm]
  have hsh' : ¬ tj.sh = .int := by intro h; rw [h] at hsh; cases hsh
  refine rd (.ref (N + i) k 0 (es ++ ys).length, .app (some id, es ++ ys) k) ?_ ?_
  · simp only [aop, g1, he, g4, h3.h, Option.bind_some, if_neg hsh', opq_op ha, opq_op hb, happ, Option.map_some, hsz]
  · have : ((S n l M os).eff (N + i) (.app (some id, es ++ ys) k)).put (some d) (.ref (N + i) k 0 (es ++ ys).length) = S n ((d, .ref (N + i) k 0 (es ++ ys).length) :: l) M ((N + i, some (.arr k (es ++ ys))) :: (id, none) :: os) := by
      simp only [St.eff, St.appended, St.grow, St.set, S, St.put, ol_set, tl_set]
    rw [this]; exact hk
theorem rd_app1 {α : Type} {f : α → AV} {L : List α} {v : α} {te tj : TI} {tx : TypeId} {k bt id id2 len : Nat} [ht : TEl P ty te k bt] [h3 : TIc P tx tj] (hsh : (match tj.sh with | .int => false | _ => true) = true) (ha : opq n l a = some (.ref id k 0 len)) (ho : lookq M os id = some (.arr k (L.map f))) (hl : L.length = len)
    (hb : opq n l b = some (.ref id2 k 0 1)) (ho2 : lookq M os id2 = some (.arr k [f v])) (hz0 : (zeroA te).isSome = true) (hbt : Nat.beq bt 0 = false) (hr : (L.length + 1) * bt ≤ 140737488355328) {ty2 : TypeId}
    (hk : RunD P ops N (i + 1) rest (S n ((d, .ref (N + i) k 0 (L ++ [v]).length) :: l) M ((N + i, some (.arr k ((L ++ [v]).map f))) :: (id, none) :: os)) (rs ++ [⟨some d, [id, N + i], topq n l [a, b]⟩]) K) :
    RunD P ops N i (⟨some d, .call ⟨.builtin .append, #[a, b], #[ty, tx]⟩, ty2, pos, af, none⟩ :: rest) (S n l M os) rs K := by
  obtain ⟨ti, el, g1, he, hs, g4, hsz, hbz⟩ := ht.h
  refine rd_app (es := L.map f) (ys := [f v]) (k := k) (len := len) hsh ha ho (by simpa using hl) hb (by simp [srcA, ho2, hsz]) hz0 hbt (by simpa using hr) ?_
  have e1 : List.map f L ++ [f v] = (L ++ [v]).map f := by simp
  rw [e1, List.length_map]; exact hk
end
theorem take_all_succ {α : Type} [Inhabited α] {l : List α} {f : α → Bool} {k : Nat} (hk : k < l.length) (h : (l.take k).all f = true) (hf : f (nth l k) = true) : (l.take (k + 1)).all f = true := by
  rw [List.take_succ_eq_append_getElem hk, List.all_append, h]; rw [nth_eq hk] at hf; simp [hf]
theorem all_of_take' {α : Type} {l : List α} {f : α → Bool} {k : Nat} (hk : l.length ≤ k) (h : (l.take k).all f = true) : l.all f = true := by
  rwa [List.take_of_length_le hk] at h
theorem nth_mem {α : Type} [Inhabited α] {l : List α} {k : Nat} (hk : k < l.length) : nth l k ∈ l := by rw [nth_eq hk]; exact List.getElem_mem hk
theorem all_nth_no {α : Type} [Inhabited α] {l : List α} {f : α → Bool} {k : Nat} (hk : k < l.length) (hf : f (nth l k) = false) : l.all f = false := by
  rw [List.all_eq_false]; exact ⟨nth l k, nth_mem hk, by simp [hf]⟩
theorem take_succ_nth {α : Type} [Inhabited α] {l : List α} {k : Nat} (hk : k < l.length) : l.take (k + 1) = l.take k ++ [nth l k] := by rw [List.take_succ_eq_append_getElem hk, nth_eq hk]
end Go.Lg

namespace Go.Lg
open Go.RowKit
section
variable {Γ : Cx} {A : Nat → Prop} {ρ : Nat → Option Nat} {s : St} {a : Act} {w : World}
theorem SRa.recell (h : SRa Γ A ρ s a w) {ido k' : Nat} {es es' : List AV} (hl : s.live ido (.arr k' es)) (hlen : (flat es').length = (flat es).length) (hw : ∀ e, e ∈ es' → e.cells.length = k') (hne : es = [] → es' = [])
    (hc : ∀ (j : Nat) x y, (flat es)[j]? = some x → (flat es')[j]? = some y → ∀ v, RV A ρ (Im Γ ρ s w) w x v → RV A ρ (Im Γ ρ s w) w y v) : SRa Γ A ρ (s.set ido (some (.arr k' es'))) a w := by
  have hlt : ido < s.objs.length := (List.getElem?_eq_some_iff.1 hl).1
  have hI : ∀ b, Im Γ ρ s w b → Im Γ ρ (s.set ido (some (.arr k' es'))) w b ∧ w.heap[b]? = w.heap[b]? := by
    rintro b ⟨h1, h2, h3⟩
    refine ⟨⟨h1, h2, fun i o hl1 => ?_⟩, rfl⟩
    rcases St.live_set hl1 with ⟨rfl, _⟩ | ⟨_, hl1⟩
    · exact h3 _ _ hl
    · exact h3 i o hl1
  have hA : ∀ i, A i → A i ∧ ρ i = ρ i := fun i hi => ⟨hi, rfl⟩
  have old : ∀ {i o}, (s.set ido (some (.arr k' es'))).live i o → ∃ o', s.live i o' := fun {i o} hl1 => by
    rcases St.live_set hl1 with ⟨rfl, _⟩ | ⟨_, hl1⟩
    · exact ⟨_, hl⟩
    · exact ⟨_, hl1⟩
  refine h.turn rfl hA hI (fun _ _ hn => hn) ?_ ?_ (fun i hi => by simpa using h.bound i hi) ?_ ?_ h.fr
  · intro i o hl1
    rcases St.live_set hl1 with ⟨rfl, rfl⟩ | ⟨_, hl1⟩
    · have ho := h.obj _ _ hl
      cases hb : ρ i with
      | none =>
        rw [hb] at ho
        obtain ⟨k2, h2⟩ := ho.resolve_left (by simp)
        injection h2 with _ h2
        exact .inr ⟨k', by rw [hne h2]⟩
      | some b =>
        rw [hb] at ho
        obtain ⟨cs, t, h1, h2, h3, h4, h5⟩ := ho
        refine ⟨cs, t, h1, by omega, hw, fun j v hj hv => h4 j v (by omega) hv, fun j y v hy hv => ?_⟩
        have hj : j < (flat es).length := by rw [← hlen]; exact (List.getElem?_eq_some_iff.1 hy).1
        have hx := List.getElem?_eq_getElem hj
        exact (hc j _ y hx hy v (h5 j _ v hx hv)).mono hA hI (fun _ _ hn => hn)
    · exact (h.obj i o hl1).mono hA hI (fun _ _ hn => hn) (fun _ _ => rfl)
  · intro i o hl1; obtain ⟨o', h1⟩ := old hl1; exact h.made i o' h1
  · intro i o b hl1 hb; obtain ⟨o', h1⟩ := old hl1; exact h.own i o' b h1 hb
  · intro i j o1 o2 b h1 h2 hb hb'
    obtain ⟨o3, h3⟩ := old h1
    obtain ⟨o4, h4⟩ := old h2
    exact h.inj i j o3 o4 b h3 h4 hb hb'
theorem SRa.list (h : SRa Γ A ρ s a w) (hm : Γ.m = 0) {id k len : Nat} {α : Type} {f : α → AV} {L : List α} (ho : s.look id = some (.arr k (L.map f))) (hl : L.length = len) (hb : ∀ x, (f x).bd 0 = true) (hk : ∀ x, (f x).cells.length = k)
    {I : Nat → Prop} {v : Value} (hv : RV A ρ I w (.ref id k 0 len) v) : RV A ρ (Im Γ ρ (s.set id none) w) w (.sl k (L.map f)) v := by
  have hlive := St.look_some.1 ho
  have hI : ∀ b, Im Γ ρ s w b → Im Γ ρ (s.set id none) w b ∧ w.heap[b]? = w.heap[b]? := fun b ⟨h1, h2, h3⟩ => ⟨⟨h1, h2, fun i o hl => h3 i o (St.live_kill hl).2⟩, rfl⟩
  cases hv with
  | @ref _ _ _ _ cap b hA hbk hlc hcs hmx =>
    obtain ⟨cs, t, hblk, hrow⟩ := h.row ho hbk
    have hflat : (flat (L.map f)).length = (L.map f).length * k := flat_length hrow.wide
    have hIb : Im Γ ρ (s.set id none) w b := by
      refine ⟨.inr ?_, World.lt_of_block hblk, fun i o hl hr => ?_⟩
      · rcases h.own id _ b hlive hbk with h1 | ⟨i, hi, _⟩
        · exact h1
        · rw [hm] at hi; exact absurd hi (Nat.not_lt_zero i)
      · obtain ⟨h1, h2⟩ := St.live_kill hl
        exact h1 (h.inj i id o _ b h2 hlive hr hbk)
    have key : RV A ρ (Im Γ ρ (s.set id none) w) w (.sl k (L.map f)) (.slice (some ⟨b, 0 * k, none⟩) (L.map f).length cap) := by
      refine .sl (fun j => cs.getD j undef) ⟨by simp; omega, hmx⟩ hIb (fun e he => by obtain ⟨x, _, rfl⟩ := List.mem_map.1 he; exact hk x) (fun j hj => ?_) (fun j hj => ?_) (fun j x hx => ?_)
      · have : j < cs.size := Nat.lt_of_lt_of_le hj hrow.len
        rw [cell_of_block hblk]; simp [Array.getD, this]
      · have : j < cs.size := Nat.lt_of_lt_of_le hj hrow.len
        exact hrow.atoms j _ hj (by simp [Array.getD, this])
      · have hj := (List.getElem?_eq_some_iff.1 hx).1
        have : j < cs.size := Nat.lt_of_lt_of_le hj hrow.len
        exact (hrow.vals j x _ hx (by simp [Array.getD, this])).pure (flat_bd (bdL_map hb L) x (List.mem_of_getElem? hx)) hI (fun _ _ hn => hn)
    rw [List.length_map, hl] at key
    exact key
  | refn hA hbk =>
    have : L = [] := List.eq_nil_of_length_eq_zero hl
    subst this
    exact .nils
theorem act_same {a : Act} {j : Nat} {v : Value} (hv : a.tmps[j]? = some v) : a.put (some j) v = a := by
  have : a.tmps.setIfInBounds j v = a.tmps := by
    apply Array.ext (by simp)
    intro i h1 h2
    rw [Array.getElem_setIfInBounds h2]
    split
    · rename_i e; subst e
      rw [Array.getElem?_eq_getElem h2] at hv
      injection hv with hv; exact hv.symm
    · rfl
  cases a
  simp only [Act.put] at this ⊢
  rw [this]
theorem SRa.room' (h : SRa Γ (fun id => id < s.objs.length) ρ s a w) : SRa Γ (fun id => id < s.objs.length) ρ { s with objs := s.objs ++ [none] } a w := by
  have hl : ∀ id o, St.live { s with objs := s.objs ++ [none] } id o ↔ s.live id o := fun id o => by
    simp only [St.live]
    rw [List.getElem?_append]
    split
    · rfl
    · rename_i hge
      constructor
      · intro h; simp [List.getElem?_singleton] at h
      · intro h; exact absurd (List.getElem?_eq_some_iff.1 h).1 hge
  have hI : Im Γ ρ { s with objs := s.objs ++ [none] } w = Im Γ ρ s w := by funext b; simp [Im, hl]
  exact ⟨h.ext, h.len, fun i x v hx hv => by rw [hI]; exact h.tmp i x v hx hv, fun id o ho => by rw [hI]; exact h.obj id o ((hl id o).1 ho), fun id o ho => h.made id o ((hl id o).1 ho), fun id hid => by simp; omega,
    fun id o b ho hb => h.own id o b ((hl id o).1 ho) hb, fun i j o o' b h1 h2 => h.inj i j o o' b ((hl i o).1 h1) ((hl j o').1 h2), h.defers, h.fr⟩
theorem SRa.nil' (h : SRa Γ (fun id => id < s.objs.length) ρ s a w) (k : Nat) : SRa Γ (fun id => id < (s.objs ++ [some (AObj.arr k [])]).length) (fun i => if i = s.objs.length then none else ρ i) { s with objs := s.objs ++ [some (.arr k [])] } a w := by
  have h1 := h.room'.newNil (nid := s.objs.length) (by simp) (fun h => by omega) k
  have e1 : ({ s with objs := s.objs ++ [none] } : St).set s.objs.length (some (.arr k [])) = { s with objs := s.objs ++ [some (.arr k [])] } := by simp [St.set]
  rw [e1] at h1
  have eA : (fun i => i < s.objs.length ∨ i = s.objs.length) = fun id => id < (s.objs ++ [some (AObj.arr k [])]).length := by
    funext i; simp; omega
  rw [eA] at h1
  exact h1
end
section
variable {P : Program} {Γ : Cx} {n M : Nat} {l : List (Nat × AV)} {os : List (Nat × Option AObj)} {c : Code} {Q : Exit → St → Prop}
theorem wp_nil (j k : Nat) (h : opq n l (.tmp j) = some (.val (.slice none 0 0))) (hk : WP P Γ c Q (S n ((j, .ref M k 0 0) :: l) (M + 1) ((M, some (.arr k [])) :: os))) : WP P Γ c Q (S n l M os) := by
  refine WP.nil j k ?_ ?_
  · have hj : j < n := by
      simp only [opq] at h
      cases hb : Nat.blt j n with
      | false => rw [hb] at h; simp at h
      | true => exact blt_of hb
    have := opq_op (M := M) (os := os) h
    simp only [St.op, S] at this
    rw [tl_getD l hj] at this
    simp only [S, tl_get l hj, this]
  · simp only [S, ol_length, tl_set, ol_push]; exact hk
theorem wp_frz {id k len : Nat} {α : Type} {f : α → AV} {L : List α} (j : Nat) (hm : Γ.m = 0) (h : opq n l (.tmp j) = some (.ref id k 0 len)) (ho : lookq M os id = some (.arr k (L.map f))) (hl : L.length = len) (hb : ∀ x, (f x).bd 0 = true) (hk : ∀ x, (f x).cells.length = k)
    (hw : WP P Γ c Q (S n ((j, .sl k (L.map f)) :: l) M ((id, none) :: os))) : WP P Γ c Q (S n l M os) := fun a w hs => by
  refine hw a w ?_
  obtain ⟨ρ, hs⟩ := hs
  have hj : j < n := by
    simp only [opq] at h
    cases hb : Nat.blt j n with
    | false => rw [hb] at h; simp at h
    | true => exact blt_of hb
  have hx := opq_op (M := M) (os := os) h
  simp only [St.op, S] at hx
  rw [tl_getD l hj] at hx
  have hlen : a.tmps.size = n := by rw [hs.len]; simp [S, tl_length]
  have hv : a.tmps[j]? = some (a.tmps[j]'(by omega)) := Array.getElem?_eq_getElem (by omega)
  have hrv := hs.tmp j (.ref id k 0 len) _ (by simp only [S, tl_get l hj, hx]) hv
  have h1 := hs.kill id
  have h2 := h1.put (some j) (hs.list hm (by rw [S_look]; exact ho) hl hb hk hrv)
  rw [act_same hv] at h2
  refine ⟨ρ, ?_⟩
  have e : ((S n l M os).set id none).put (some j) (.sl k (L.map f)) = S n ((j, .sl k (L.map f)) :: l) M ((id, none) :: os) := by simp [S, St.set, St.put, ol_set, tl_set]
  rw [e] at h2
  simpa [S, ol_length] using h2
theorem wp_frzo {id k len : Nat} {α : Type} {f : α → AV} {L : List α} (ido m : Nat) {k' : Nat} {cs : List AV} (hm : Γ.m = 0) (hid : Nat.beq id ido = false) (hob : lookq M os ido = some (.arr k' [.agg cs])) (h : cs[m]? = some (.ref id k 0 len)) (ho : lookq M os id = some (.arr k (L.map f))) (hl : L.length = len) (hb : ∀ x, (f x).bd 0 = true) (hk : ∀ x, (f x).cells.length = k)
    (hw : WP P Γ c Q (S n l M ((ido, some (.arr k' [.agg (cs.set m (.sl k (L.map f)))])) :: (id, none) :: os))) : WP P Γ c Q (S n l M os) := fun a w hs => by
  refine hw a w ?_
  obtain ⟨ρ, hs⟩ := hs
  have h1 := hs.kill id
  have hne : id ≠ ido := Nat.ne_of_beq_eq_false hid
  have hob' : ((S n l M os).set id none).live ido (.arr k' [.agg cs]) := by
    have := St.look_some.1 (by rw [S_look]; exact hob : (S n l M os).look ido = some (.arr k' [.agg cs]))
    simp only [St.live, St.set_objs] at this ⊢
    rw [List.getElem?_set_ne hne]; exact this
  have hwide : cs.length = k' := by
    have := hs.obj ido _ (St.look_some.1 (by rw [S_look]; exact hob))
    cases hr : ρ ido with
    | none => rw [hr] at this; obtain ⟨_, h2⟩ := this.resolve_left (by simp); cases h2
    | some b => rw [hr] at this; obtain ⟨_, _, _, _, h3, _⟩ := this; exact h3 (.agg cs) (by simp)
  have h2 := h1.recell hob' (es' := [.agg (cs.set m (.sl k (L.map f)))]) (by simp [flat, AV.cells]) (by simp [AV.cells, hwide]) (by simp) (fun j x y hx hy v hv => by
    simp only [flat, AV.cells, List.flatMap_cons, List.flatMap_nil, List.append_nil] at hx hy
    rw [List.getElem?_set] at hy
    by_cases e : m = j
    · subst e
      rw [h] at hx; injection hx with hx; subst hx
      simp only [if_true] at hy
      split at hy
      · injection hy with hy; subst hy
        exact hs.list hm (by rw [S_look]; exact ho) hl hb hk hv
      · cases hy
    · rw [if_neg e, hx] at hy; injection hy with hy; subst hy; exact hv)
  refine ⟨ρ, ?_⟩
  have e : (((S n l M os).set id none).set ido (some (.arr k' [.agg (cs.set m (.sl k (L.map f)))]))) = S n l M ((ido, some (.arr k' [.agg (cs.set m (.sl k (L.map f)))])) :: (id, none) :: os) := by simp [S, St.set, ol_set]
  rw [e] at h2
  simpa [S, ol_length] using h2
theorem wp_nilo (ido m k : Nat) {k' : Nat} {cs : List AV} (hob : lookq M os ido = some (.arr k' [.agg cs])) (h : cs[m]? = some (.val (.slice none 0 0)))
    (hw : WP P Γ c Q (S n l (M + 1) ((ido, some (.arr k' [.agg (cs.set m (.ref M k 0 0))])) :: (M, some (.arr k [])) :: os))) : WP P Γ c Q (S n l M os) := fun a w hs => by
  refine hw a w ?_
  obtain ⟨ρ, hs⟩ := hs
  have hM : (S n l M os).objs.length = M := ol_length M os
  have hlt : ido < M := by
    simp only [lookq] at hob
    cases hb : Nat.blt ido M with
    | false => rw [hb] at hob; simp at hob
    | true => exact blt_of hb
  have hlook := St.look_some.1 (by rw [S_look]; exact hob : (S n l M os).look ido = some (.arr k' [.agg cs]))
  have h1 := hs.nil' k
  have hwide : cs.length = k' := by
    have := hs.obj ido _ hlook
    cases hr : ρ ido with
    | none => rw [hr] at this; obtain ⟨_, h2⟩ := this.resolve_left (by simp); cases h2
    | some b => rw [hr] at this; obtain ⟨_, _, _, _, h3, _⟩ := this; exact h3 (.agg cs) (by simp)
  have hob' : St.live { S n l M os with objs := (S n l M os).objs ++ [some (AObj.arr k [])] } ido (.arr k' [.agg cs]) := by
    simp only [St.live] at hlook ⊢
    rw [List.getElem?_append_left (by rw [hM]; exact hlt)]; exact hlook
  have h2 := h1.recell hob' (es' := [.agg (cs.set m (.ref M k 0 0))]) (by simp [flat, AV.cells]) (by simp [AV.cells, hwide]) (by simp) (fun j x y hx hy v hv => by
    simp only [flat, AV.cells, List.flatMap_cons, List.flatMap_nil, List.append_nil] at hx hy
    rw [List.getElem?_set] at hy
    by_cases e : m = j
    · subst e
      rw [h] at hx; injection hx with hx; subst hx
      simp only [if_true] at hy
      split at hy
      · injection hy with hy; subst hy
        rw [hv.val_eq]
        exact .refn (by simp [hM]) (by simp [hM])
      · cases hy
    · rw [if_neg e, hx] at hy; injection hy with hy; subst hy; exact hv)
  refine ⟨fun i => if i = (S n l M os).objs.length then none else ρ i, ?_⟩
  have e : (St.set { S n l M os with objs := (S n l M os).objs ++ [some (AObj.arr k [])] } ido (some (.arr k' [.agg (cs.set m (.ref M k 0 0))]))) = S n l (M + 1) ((ido, some (.arr k' [.agg (cs.set m (.ref M k 0 0))])) :: (M, some (.arr k [])) :: os) := by simp [S, St.set, ol_set, ol_push]
  rw [e] at h2
  simpa [S, ol_length] using h2
inductive ResL (P : Program) (n : Nat) (l : List (Nat × AV)) (M : Nat) (os : List (Nat × Option AObj)) : List ResultVar → List AV → Prop
  | nil : ResL P n l M os [] []
  | tmp {t : Tmp} {x : AV} {rs : List ResultVar} {xs : List AV} (h : opq n l (.tmp t) = some x) (r : ResL P n l M os rs xs) : ResL P n l M os (.tmp t :: rs) (x :: xs)
  | cell {a : Tmp} {ty : TypeId} {ti : TI} {id k i j : Nat} {es : List AV} {y x : AV} {rs : List ResultVar} {xs : List AV} (ht : tinfo P ty = some ti) (h : opq n l (.tmp a) = some (.ptr id k i j)) (ho : lookq M os id = some (.arr k es)) (hi : es[i]? = some y) (hp : part ti y.cells j = some x)
      (r : ResL P n l M os rs xs) : ResL P n l M os (.cell a ty :: rs) (x :: xs)
theorem ResL.cellT {P : Program} {n : Nat} {l : List (Nat × AV)} {M : Nat} {os : List (Nat × Option AObj)} {a : Tmp} {ty : TypeId} {ti : TI} [hti : TIc P ty ti] {id k i j : Nat} {es : List AV} {y x : AV} {rs : List ResultVar} {xs : List AV} (h : opq n l (.tmp a) = some (.ptr id k i j)) (ho : lookq M os id = some (.arr k es)) (hi : es[i]? = some y) (hp : part ti y.cells j = some x)
      (r : ResL P n l M os rs xs) : ResL P n l M os (.cell a ty :: rs) (x :: xs) := .cell hti.h h ho hi hp r
theorem ResL.ok {P : Program} {n : Nat} {l : List (Nat × AV)} {M : Nat} {os : List (Nat × Option AObj)} {rs : List ResultVar} {xs : List AV} (h : ResL P n l M os rs xs) : resL P (S n l M os) rs = some xs := by
  have key : ∀ {t : Tmp} {x : AV}, opq n l (.tmp t) = some x → (S n l M os).tmps.getD t .any = x := fun h => by
    have := opq_op (M := M) (os := os) h
    simpa only [St.op] using this
  induction h with
  | nil => rfl
  | tmp h _ ih => simp only [resL, resA, key h, ih, Option.bind_some, Option.map_some]
  | cell ht h ho hi hp _ ih =>
    simp only [resL, resA, ih, ht, Option.bind_some, key h, loadA, S_look, ho, hi, if_true, Option.bind_some, hp, Option.map_some]
theorem ret_many {P : Program} {n : Nat} {l : List (Nat × AV)} {M : Nat} {os : List (Nat × Option AObj)} {rs : List ResultVar} {xs ys : List AV} (h : ResL P n l M os rs xs) (h2 : 2 ≤ xs.length) (hz : FzL (lookq M os) xs ys) : Ret P rs (.tup ys) (S n l M os) := by
  refine ⟨.tup xs, ?_, by rw [S_look']; exact .tupL hz⟩
  simp only [resN, h.ok, Option.map_some]
  match xs, h2 with
  | _ :: _ :: _, _ => rfl
end
end Go.Lg
