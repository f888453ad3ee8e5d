/-
  Part 13 of the proof of DesugarErrorsCard: the logic over the model, the functions' contracts and the plain laws.
-/
import Derived.Test.YtbjeoainfloiaaaDoorDe12
import Derived.Lib.Join
import Derived.Lib.ItoaLen

set_option linter.unusedSimpArgs false
set_option linter.unusedVariables false
set_option linter.unusedSectionVars false
set_option linter.defProp false

namespace Go.Lg
open Go.Proofs
def letB (c : Int) : Bool := decide (97 ≤ c) && decide (c ≤ 122) || decide (65 ≤ c) && decide (c ≤ 90)
def digB (c : Int) : Bool := decide (48 ≤ c) && decide (c ≤ 57)
theorem range_all_succ {f : Nat → Bool} {k : Nat} (h : (List.range k).all f = true) (hf : f k = true) : (List.range (k + 1)).all f = true := by
  rw [List.range_succ, List.all_append, h]; simp [hf]
theorem range_all_no {f : Nat → Bool} {k n : Nat} (hk : k < n) (hf : f k = false) : (List.range n).all f = false := by
  rw [List.all_eq_false]; exact ⟨k, by simpa using hk, by simp [hf]⟩
def indexP {α : Type} (p : α → Bool) (l : List α) : Int := match l.findIdx? p with
  | some i => i
  | none => -1
theorem indexP_at {α : Type} [Inhabited α] {p : α → Bool} {l : List α} {k : Nat} (hk : k < l.length) (h : (l.take k).any p = false) (hp : p (nth l k) = true) : indexP p l = k := by
  have : l.findIdx? p = some k := by
    rw [List.findIdx?_eq_some_iff_getElem]
    refine ⟨hk, by rwa [nth_eq hk] at hp, fun j hj => ?_⟩
    rw [List.any_eq_false] at h
    have := h l[j] (by rw [List.mem_take_iff_getElem]; exact ⟨j, by omega, rfl⟩)
    simpa using this
  simp [indexP, this]
theorem indexP_no {α : Type} {p : α → Bool} {l : List α} {k : Nat} (hk : l.length ≤ k) (h : (l.take k).any p = false) : indexP p l = -1 := by
  rw [List.take_of_length_le hk] at h
  have : l.findIdx? p = none := by rw [List.findIdx?_eq_none_iff]; intro x hx; rw [List.any_eq_false] at h; simpa using h x hx
  simp [indexP, this]
theorem indexP_any {α : Type} {p : α → Bool} {l : List α} : decide (0 ≤ indexP p l) = l.any p := by
  unfold indexP
  cases h : l.findIdx? p with
  | none => rw [List.findIdx?_eq_none_iff] at h; rw [show l.any p = false by rw [List.any_eq_false]; intro x hx; simp [h x hx]]; rfl
  | some i =>
    rw [List.findIdx?_eq_some_iff_getElem] at h
    obtain ⟨hi, hp, _⟩ := h
    rw [show l.any p = true by rw [List.any_eq_true]; exact ⟨_, List.getElem_mem hi, hp⟩]
    simp
theorem take_any_succ {α : Type} [Inhabited α] {l : List α} {f : α → Bool} {k : Nat} (hk : k < l.length) (h : (l.take k).any f = false) (hf : f (nth l k) = false) : (l.take (k + 1)).any f = false := by
  rw [take_succ_nth hk, List.any_append, h]; simp [hf]
theorem take_eq_succ {α : Type} [Inhabited α] {a b : List α} {k : Nat} (ha : k < a.length) (hb : k < b.length) (h : a.take k = b.take k) (he : nth a k = nth b k) : a.take (k + 1) = b.take (k + 1) := by
  rw [take_succ_nth ha, take_succ_nth hb, h, he]
theorem eq_of_takes {α : Type} {a b : List α} {k : Nat} (hl : a.length = b.length) (hk : a.length ≤ k) (h : a.take k = b.take k) : a = b := by
  rwa [List.take_of_length_le hk, List.take_of_length_le (by omega)] at h
theorem nodup_nth {α : Type} [Inhabited α] {l : List α} (h : ∀ j, j < l.length → ∀ k, k < j → nth l k ≠ nth l j) : l.Nodup := by
  rw [List.nodup_iff_pairwise_ne, List.pairwise_iff_getElem]
  intro i j hi hj hij
  have := h j hj i hij
  rwa [nth_eq hi, nth_eq hj] at this
theorem not_nodup {α : Type} [Inhabited α] {l : List α} {k j : Nat} (hj : j < l.length) (hk : k < j) (h : nth l k = nth l j) : ¬ l.Nodup := by
  rw [List.nodup_iff_pairwise_ne, List.pairwise_iff_getElem]
  intro hp
  have := hp k j (by omega) hj hk
  rw [nth_eq (by omega), nth_eq hj] at h
  exact this h
theorem all_of_nth {α : Type} [Inhabited α] {l : List α} {f : α → Bool} (h : ∀ j, j < l.length → f (nth l j) = true) : l.all f = true := by
  rw [List.all_eq_true]; intro x hx
  obtain ⟨i, hi, rfl⟩ := List.getElem_of_mem hx
  have := h i hi
  rwa [nth_eq hi] at this
def bl (s : ByteArray) : List UInt8 := s.data.toList
def tx (l : List UInt8) : ByteArray := ⟨l.toArray⟩
@[simp] theorem bl_tx (l : List UInt8) : bl (tx l) = l := rfl
theorem tx_bl (s : ByteArray) : tx (bl s) = s := by obtain ⟨⟨l⟩⟩ := s; rfl
theorem bl_app (a b : ByteArray) : bl (a ++ b) = bl a ++ bl b := by simp [bl]
theorem ba_ext {a b : ByteArray} (h : bl a = bl b) : a = b := by rw [← tx_bl a, ← tx_bl b, h]
theorem tx_app (a b : List UInt8) : tx a ++ tx b = tx (a ++ b) := ba_ext (by rw [bl_app]; rfl)
theorem tx_size (l : List UInt8) : (tx l).size = l.length := by simp [tx, ByteArray.size]
end Go.Lg

namespace Go.Lg
open Go.RowKit
section
variable {P : Program} {Γ : Cx} {a : Act} {w : World}
theorem asemC_one {ops : Array Oper} {s : St} {o : Oper} {K : St → Prop} {QQ : Exit → Act → World → Prop} (hg : o.guard = none) (h : SR Γ s a w) (hk : asemC P ops [o] s K) : o.wp P a w (fun a' w' => ∃ s', K s' ∧ SR Γ s' a' w') QQ := by
  simp only [asemC, hg] at hk
  rcases hk with hk | ⟨x, hx, hk⟩ | ⟨s1, hk, hs1⟩
  · exact exec_sound h hk fun s' a' w' hk' hs' => ⟨s', hk', hs'⟩
  · obtain ⟨ρ, hρ⟩ := h
    obtain ⟨v, hrun, hrv⟩ := pure_sound (P := P) hρ (e := []) rfl hx
    unfold Oper.wp
    rw [hrun]
    exact ⟨_, hk, ρ, by simpa using hρ.put o.dst hrv⟩
  · obtain ⟨v, w', hrun, hsr⟩ := hs1 Γ a w h
    unfold Oper.wp
    rw [hrun]
    exact ⟨_, hk, hsr⟩
end
section
variable {P : Program} {Γ : Cx} {ops : Array Oper}
end
end Go.Lg

namespace Go.Lg
theorem ren_strsA (π : Nat → Nat) (l : List ByteArray) : (strsA l).ren π = strsA l := ren_pure (by simp [strsA, AV.bd])
theorem ren_intsA (π : Nat → Nat) (l : List Int) : (intsA l).ren π = intsA l := ren_pure (by simp [intsA, AV.bd])
section
variable {P : Program} {n M N i : Nat} {l : List (Nat × AV)} {os : List (Nat × Option AObj)} {a b : Operand} {d : Tmp} {ty : TypeId} {pos : String} {af : Array Edge} {ops : Array Oper} {rest : List Oper} {KK : List Rec → St → Prop} {K : St → Prop} {rs : List Rec}
theorem se_lit0 {te : TI} {k bt : Nat} [ht : TEl P ty te k bt] {ty2 : TypeId} (hk : asemC P ops rest (S n ((d, .ref M k 0 0) :: l) (M + 1) ((M, some (.arr k [])) :: os)) K) :
    asemC P ops (⟨some d, .buildSlice ty 0 #[], ty2, pos, af, none⟩ :: rest) (S n l M os) K := by
  obtain ⟨ti, el, g1, he, hs, g4, hsz, hbz⟩ := ht.h
  refine se_new (x := .ref M k 0 0) (by rintro c f h; cases h) ?_ hk
  have hb : buildSliceA te 0 [] = some (.arr k []) := by simp [buildSliceA, hsz]
  simp only [aop, g1, he, g4, Option.bind_some, Array.toList, List.map_nil, hb, Option.map_some, hsz]
theorem rd_lit0 {te : TI} {k bt : Nat} [ht : TEl P ty te k bt] {ty2 : TypeId} (hk : RunD P ops N (i + 1) rest (S n ((d, .ref (N + i) k 0 0) :: l) M ((N + i, some (.arr k [])) :: os)) (rs ++ [⟨some d, [N + i], topq n l (Op.operands (.buildSlice ty 0 #[])).toList⟩]) KK) :
    RunD P ops N i (⟨some d, .buildSlice ty 0 #[], ty2, pos, af, none⟩ :: rest) (S n l M os) rs KK := by
  obtain ⟨ti, el, g1, he, hs, g4, hsz, hbz⟩ := ht.h
  have hb : buildSliceA te 0 [] = some (.arr k []) := by simp [buildSliceA, hsz]
  refine rd (.ref (N + i) k 0 0, .new (.arr k [])) (by simp only [aop, g1, he, g4, Option.bind_some, Array.toList, List.map_nil, hb, Option.map_some, hsz]) ?_
  have : ((S n l M os).eff (N + i) (.new (.arr k []))).put (some d) (.ref (N + i) k 0 0) = S n ((d, .ref (N + i) k 0 0) :: l) M ((N + i, some (.arr k [])) :: os) := by
    simp only [St.eff, St.set, S, St.put, ol_set, tl_set]
  rw [this]; exact hk
theorem se_appE {te tj : TI} {tx : TypeId} {k bt id : Nat} {ys : List AV} [ht : TEl P ty te k bt] [h3 : TIc P tx tj] (hsh : (match tj.sh with | .int => false | _ => true) = true) (ha : opq n l a = some (.ref id k 0 0)) (ho : lookq M os id = some (.arr k []))
    (hb : opq n l b = some (.sl k ys)) (hz0 : (zeroA te).isSome = true) (hbt : Nat.beq bt 0 = false) (hr : ys.length * bt ≤ 140737488355328) {ty2 : TypeId} (hk : asemC P ops rest (S n ((d, .ref M k 0 ys.length) :: l) (M + 1) ((M, some (.arr k ys)) :: (id, none) :: os)) K) :
    asemC P ops (⟨some d, .call ⟨.builtin .append, #[a, b], #[ty, tx]⟩, ty2, pos, af, none⟩ :: rest) (S n l M os) K :=
  se_app (es := []) (ys := ys) hsh ha ho rfl hb (by obtain ⟨ti, el, g1, he, hs, g4, hsz, hbz⟩ := ht.h; simp [srcA, hsz]) hz0 hbt (by simpa using hr) hk
theorem rd_appE {te tj : TI} {tx : TypeId} {k bt id : Nat} {ys : List AV} [ht : TEl P ty te k bt] [h3 : TIc P tx tj] (hsh : (match tj.sh with | .int => false | _ => true) = true) (ha : opq n l a = some (.ref id k 0 0)) (ho : lookq M os id = some (.arr k []))
    (hb : opq n l b = some (.sl k ys)) (hz0 : (zeroA te).isSome = true) (hbt : Nat.beq bt 0 = false) (hr : ys.length * bt ≤ 140737488355328) {ty2 : TypeId}
    (hk : RunD P ops N (i + 1) rest (S n ((d, .ref (N + i) k 0 ys.length) :: l) M ((N + i, some (.arr k ys)) :: (id, none) :: os)) (rs ++ [⟨some d, [id, N + i], topq n l [a, b]⟩]) KK) :
    RunD P ops N i (⟨some d, .call ⟨.builtin .append, #[a, b], #[ty, tx]⟩, ty2, pos, af, none⟩ :: rest) (S n l M os) rs KK :=
  rd_app (es := []) (ys := ys) hsh ha ho rfl hb (by obtain ⟨ti, el, g1, he, hs, g4, hsz, hbz⟩ := ht.h; simp [srcA, hsz]) hz0 hbt (by simpa using hr) hk
end
section
variable {P : Program} {Γ : Cx} {c : Code} {Q : Exit → St → Prop} {n M : Nat} {l : List (Nat × AV)} {os : List (Nat × Option AObj)}
theorem wp_st (t : St) {s : St} (h0 : ∃ is, ToR Γ.m is s t) (h : WP P Γ c Q t) : WP P Γ c Q s := by
  obtain ⟨is, h0⟩ := h0; exact .toR is t h0 h
end
section
variable {P : Program} {n M : Nat} {l : List (Nat × AV)} {os : List (Nat × Option AObj)} {d t : Tmp} {ty : TypeId} {pos : String} {af : Array Edge} {ops : Array Oper} {rest : List Oper} {K : St → Prop} {j : Nat} {want b : Bool} {x : AV} {op : Op}
theorem sgt_new {o : AObj} (hd : (ops[j]?).bind (·.dst) = some t) (hv : opq n l (.tmp t) = some (.val (.bool b))) (hb : b = want) (hc : ∀ c f, op = .call c → c.callee ≠ .value f) (h : aop P (S n ((t, .val (.bool b)) :: l) M os).look M (S n ((t, .val (.bool b)) :: l) M os).op op = some (x, .new o))
    (hk : asemC P ops rest (S n ((d, x) :: (t, .val (.bool b)) :: l) (M + 1) ((M, some o) :: os)) K) : asemC P ops (⟨some d, op, ty, pos, af, some (j, want)⟩ :: rest) (S n l M os) K := by
  subst hb
  simp only [asemC]
  refine .inl ⟨b, ?_, fun _ => ?_, fun h => by cases b <;> cases h⟩
  · have hop := opq_op (M := M) (os := os) hv
    simp only [St.op] at hop
    simp only [yieldedA, hd, Option.map_some, hop]
  rw [hd, S_put]
  have hl : (S n ((t, .val (.bool b)) :: l) M os).objs.length = M := ol_length M os
  have hs : (S n ((t, .val (.bool b)) :: l) M os).after (some d) (x, .new o) = S n ((d, x) :: (t, .val (.bool b)) :: l) (M + 1) ((M, some o) :: os) := by
    simp only [St.after, S, St.put, ol_push, tl_set]
  unfold execA
  split
  · rename_i c hop
    simp only at hop
    split
    · rename_i f hf; exact absurd hf (hc c f hop)
    · exact ⟨_, by rw [hl, ← hop]; exact h, by rw [hs]; exact hk⟩
  · exact ⟨_, by rw [hl]; exact h, by rw [hs]; exact hk⟩
theorem sgt_lit {te : TI} {k m bt : Nat} {z : AV} {ps : Array (Nat × Operand)} {xs : List (Nat × AV)} {vs : List AV} (hd : (ops[j]?).bind (·.dst) = some t) (hg : opq n l (.tmp t) = some (.val (.bool b))) (hgb : b = want) [ht : TEl P ty te k bt] (hp : OpP n ((t, .val (.bool b)) :: l) ps.toList xs) (hv : seqv 0 xs = some vs) (hl : xs.length = m) (h0 : Nat.beq m 0 = false) (hbig : Nat.ble (m * k) 16777216 = true) (hzero : zeroA te = some z)
    (hc : (vs.all fun x => Nat.beq x.cells.length k && x.store) = true) {ty2 : TypeId} (hk : asemC P ops rest (S n ((d, .ref M k 0 m) :: (t, .val (.bool b)) :: l) (M + 1) ((M, some (.arr k vs)) :: os)) K) :
    asemC P ops (⟨some d, .buildSlice ty m ps, ty2, pos, af, some (j, want)⟩ :: rest) (S n l M os) K := by
  obtain ⟨ti, el, g1, he, hs, g4, hsz, hbz⟩ := ht.h
  refine sgt_new (x := .ref M k 0 m) hd hg hgb (by rintro c f h; cases h) ?_ hk
  have hp' := hp.get (M := M) (os := os)
  have hb : buildSliceA te m xs = some (.arr k vs) := by
    have hne : m ≠ 0 := Nat.ne_of_beq_eq_false h0
    simp only [buildSliceA, if_neg hne, hzero, Option.bind_some, hsz, if_pos (Nat.le_of_ble_eq_true hbig)]
    have := seqv_fill (k := k) (z := z) xs [] vs hv (fun x hx => by
      have := List.all_eq_true.1 hc x hx
      simp only [Bool.and_eq_true] at this
      exact ⟨Nat.eq_of_beq_eq_true this.1, this.2⟩)
    simp only [List.nil_append, hl] at this
    rw [this]; rfl
  simp only [aop, g1, he, g4, Option.bind_some, hp', hb, Option.map_some, hsz]
end
theorem ret_c {P : Program} {n : Nat} {l : List (Nat × AV)} {M : Nat} {os : List (Nat × Option AObj)} {a : Tmp} {ty : TypeId} {ti : TI} [hti : TIc P ty ti] {id k i j : Nat} {es : List AV} {y x X : AV} (h : opq n l (.tmp a) = some (.ptr id k i j)) (ho : lookq M os id = some (.arr k es)) (hi : es[i]? = some y) (hp : part ti y.cells j = some x)
    (hz : Fz (lookq M os) x X) : Ret P [.cell a ty] X (S n l M os) := by
  refine ⟨x, ?_, by rw [S_look']; exact hz⟩
  have := (ResL.cellT h ho hi hp .nil : ResL P n l M os [.cell a ty] [x]).ok
  simp only [resN, this, Option.map_some, tupA]
theorem Fz.rowL {look : Nat → Option AObj} {id k n : Nat} {es ys : List AV} (hlook : look id = some (.arr k es)) (hn : es.length = n) (hk : (ys.all fun e => Nat.beq e.cells.length k) = true) (h : FzL look es ys) : Fz look (.ref id k 0 n) (.sl k ys) := by
  have hz := h.fzs
  have hl := Fzs_len hz
  have e : (es.drop 0).take n = es := by rw [List.drop_zero, List.take_of_length_le (by omega)]
  refine Fz.ref' hlook (by omega) (by omega) (fun y hy => Nat.eq_of_beq_eq_true (List.all_eq_true.1 hk y hy)) fun i x y hx hy => ?_
  rw [e] at hx
  exact Fzs_get hz i x y hx hy
end Go.Lg

namespace Go.Lg
open Go.RowKit
section
variable {P : Program} {Γ : Cx} {n M : Nat} {l : List (Nat × AV)} {os : List (Nat × Option AObj)} {Q : Exit → St → Prop}
end
section
variable {P : Program} {n M : Nat} {l : List (Nat × AV)} {os : List (Nat × Option AObj)} {d t : Tmp} {ty : TypeId} {pos : String} {af : Array Edge} {ops : Array Oper} {rest : List Oper} {K : St → Prop} {j : Nat} {want p : Bool} {x : AV} {op : Op} {a b c : Operand}
theorem as_split {r0 : List Oper} (hg : opq n l (.tmp t) = some (.val (.bool p))) (h1 : p = true → asemC P ops r0 (S n ((t, .val (.bool true)) :: l) M os) K) (h2 : p = false → asemC P ops r0 (S n ((t, .val (.bool false)) :: l) M os) K) : asemC P ops r0 (S n l M os) K := by
  cases p with
  | true => have := h1 rfl; rwa [S_lit hg] at this
  | false => have := h2 rfl; rwa [S_lit hg] at this
theorem sk_no (ht : (ops[j]?).bind (·.dst) = some t) (hg : opq n l (.tmp t) = some (.val (.bool (!want)))) (hk : asemC P ops rest (S n ((d, .any) :: l) M os) K) : asemC P ops (⟨some d, op, ty, pos, af, some (j, want)⟩ :: rest) (S n l M os) K := by
  simp only [asemC]
  refine .inl ⟨!want, yielded_q ht hg, ?_, fun _ => ?_⟩
  · intro h; exact absurd h (by cases want <;> decide)
  rw [ht, S_put, S_lit hg, S_put]
  exact hk
theorem pk_t (hc : opq n l c = some (.val (.bool true))) (ha : opq n l a = some x) (hk : asemC P ops rest (S n ((d, x) :: l) M os) K) : asemC P ops (⟨some d, .pick c a b, ty, pos, af, none⟩ :: rest) (S n l M os) K := by
  simp only [asemC]
  refine .inl ⟨(x, .none), ?_, ?_⟩
  · simp only [aop, opq_op hc, opq_op ha, pickA, pure']
    split <;> simp_all
  · simp only [St.after, S_put]; exact hk
theorem pk_f (hc : opq n l c = some (.val (.bool false))) (hb : opq n l b = some x) (hk : asemC P ops rest (S n ((d, x) :: l) M os) K) : asemC P ops (⟨some d, .pick c a b, ty, pos, af, none⟩ :: rest) (S n l M os) K := by
  simp only [asemC]
  refine .inl ⟨(x, .none), ?_, ?_⟩
  · simp only [aop, opq_op hc, opq_op hb, pickA, pure']
    split <;> simp_all
  · simp only [St.after, S_put]; exact hk
end
end Go.Lg

namespace Go.Lg
theorem sB : (∀ {p : Prop} [Decidable p], (decide p = true) = p) ∧
  (∀ {p : Prop} [Decidable p], decide p = false ↔ ¬p) ∧
  (∀ {p : Prop} [Decidable p], ¬¬p ↔ p) ∧
  (∀ a b : Bool, ((a && b) = true) = (a = true ∧ b = true)) ∧
  (∀ a b : Bool, ((a || b) = true) = (a = true ∨ b = true)) ∧
  (∀ {b : Bool}, ((!b) = true) = (b = false)) ∧
  (∀ {b : Bool}, ((!b) = false) = (b = true)) ∧
  (∀ {x y : Bool}, (x || y) = false ↔ x = false ∧ y = false) ∧
  (∀ {x y : Bool}, (x && y) = false ↔ x = false ∨ y = false) ∧
  (∀ {a b : Int}, ¬a < b ↔ b ≤ a) ∧
  (∀ {a b : Int}, ¬a ≤ b ↔ b < a) ∧
  ((!true) = false) ∧
  ((!false) = true) ∧
  (∀ {b : Bool}, (¬b = true) = (b = false)) ∧
  (∀ {b : Bool}, (¬b = false) = (b = true)) := ⟨@decide_eq_true_eq, @decide_eq_false_iff_not, @Decidable.not_not, Bool.and_eq_true, Bool.or_eq_true, @Bool.not_eq_true', @Bool.not_eq_false', @Bool.or_eq_false_iff, @Bool.and_eq_false_iff, @Int.not_lt, @Int.not_le, Bool.not_true, Bool.not_false, @Bool.not_eq_true, @Bool.not_eq_false⟩
theorem sH : (∀ {α : Type} {a : α} {l : List α} {p : α → Bool}, (a :: l).all p = (p a && l.all p)) ∧
  (∀ {α : Type} {p : α → Bool} {xs ys : List α}, (xs ++ ys).all p = (xs.all p && ys.all p)) ∧
  (∀ {α : Type} {p : α → Bool}, ([] : List α).all p = true) ∧
  (∀ b : Bool, (b && true) = b) := ⟨@List.all_cons, @List.all_append, @List.all_nil, Bool.and_true⟩
theorem sL : (∀ {α : Type} {n : Nat} {a : α}, (List.replicate n a).length = n) ∧
  (∀ {α : Type} {us : List α} {i : Nat} {a : α}, (us.set i a).length = us.length) ∧
  (∀ {α : Type} {us bs : List α}, (us ++ bs).length = us.length + bs.length) ∧
  (∀ {α : Type} {β : Type} {us : List α} (f : α → β), (us.map f).length = us.length) ∧
  (∀ {α : Type} {a : α} {us : List α}, (a :: us).length = us.length + 1) ∧
  (∀ {α : Type}, ([] : List α).length = 0) ∧
  (∀ {α : Type} {i : Nat} {l : List α}, (l.take i).length = min i l.length) ∧
  (∀ {α : Type} {i : Nat} {l : List α}, (l.drop i).length = l.length - i) := ⟨@List.length_replicate, @List.length_set, @List.length_append, @List.length_map, @List.length_cons, @List.length_nil, @List.length_take, @List.length_drop⟩
theorem sZ : (∀ {α : Type} (us : List α), us.toArray.size = us.length) ∧
  (∀ {a b : ByteArray}, (a ++ b).size = a.size + b.size) ∧
  (∀ {α : Type} {us bs : List α}, (us ++ bs).length = us.length + bs.length) ∧
  (∀ {α : Type} {a : α} {us : List α}, (a :: us).length = us.length + 1) ∧
  (∀ {α : Type}, ([] : List α).length = 0) := ⟨@List.size_toArray, @ByteArray.size_append, @List.length_append, @List.length_cons, @List.length_nil⟩
end Go.Lg

namespace Go.Lg
open Go.RowKit
def opp (n : Nat) (l : List (Nat × AV)) (a : Operand) : Option AV := match opq n l a with
  | some x => bif x.plain then some x else none
  | none => none
section
variable {P : Program} {n M N i0 : Nat} {l : List (Nat × AV)} {os : List (Nat × Option AObj)} {e l' t : List Bool} {a b c d : Operand} {x y : AV} {dd tg : Tmp} {tyo : TypeId} {pos : String} {af : Array Edge} {ops : Array Oper} {rest : List Oper} {KD : List Rec → St → Prop} {K : St → Prop} {rs : List Rec} {jg : Nat} {want : Bool}
theorem opp_b (h : opp n l a = some x) : opq n l a = some x ∧ x.plain = true := by
  unfold opp at h
  cases hq : opq n l a with
  | none => rw [hq] at h; cases h
  | some y =>
    rw [hq] at h
    simp only at h
    cases hp : y.plain with
    | false => rw [hp] at h; cases h
    | true => rw [hp] at h; injection h with h; subst h; exact ⟨rfl, hp⟩
theorem opp_o (h : opp n l a = some x) : opq n l a = some x := (opp_b h).1
theorem opp_p (h : opp n l a = some x) : x.plain = true := (opp_b h).2
theorem opp_q (h : opp n l a = some x) : Rq n l e a x := rq_p (opp_b h).1 (opp_b h).2
section
variable {k kk : IntKind} {p q : Int} {ty ty2 : TypeId} {s u : ByteArray} {ti tj te : TI} {el : TypeId} {cs es : List AV} {i j id off sz len : Nat} {ed : AV} {b' : Bool}
theorem smove (h : opp n l a = some x) (hk : asemC P ops rest (S n ((dd, x) :: l) M os) K) : asemC P ops (⟨some dd, (.move a), tyo, pos, af, none⟩ :: rest) (S n l M os) K := su (ap_move (opp_q h)) hk
theorem rmove (h : opp n l a = some x) (hk : RunD P ops N (i0 + 1) rest (S n ((dd, x) :: l) M os) (rs ++ [⟨some dd, [], topq n l (Op.operands (.move a)).toList⟩]) KD) : RunD P ops N i0 (⟨some dd, (.move a), tyo, pos, af, none⟩ :: rest) (S n l M os) rs KD := rd_u (by first | (simp [Op.operands, plainq, opp_o h, opp_p h]; done) | simp [Op.operands, plainq, AV.plain, opp_o h]) rfl (ap_move (opp_q h)) hk
theorem gmove (ht : (ops[jg]?).bind (·.dst) = some tg) (hg : opq n l (.tmp tg) = some (.val (.bool want))) (h : opp n l a = some x) (hk : RunD P ops N (i0 + 1) rest (S n ((dd, x) :: l) M os) (rs ++ [⟨some dd, [], topq n l (Op.operands (.move a)).toList⟩]) KD) : RunD P ops N i0 (⟨some dd, (.move a), tyo, pos, af, some (jg, want)⟩ :: rest) (S n l M os) rs KD := rdg_u ht hg (by first | (simp [Op.operands, plainq, opp_o h, opp_p h]; done) | simp [Op.operands, plainq, AV.plain, opp_o h]) rfl (ap_move (opp_q h)) hk
theorem snilc {id k i j : Nat} (h : opp n l a = some (.ptr id k i j)) (hk : asemC P ops rest (S n ((dd, (.ptr id k i j)) :: l) M os) K) : asemC P ops (⟨some dd, (.nilCheck a), tyo, pos, af, none⟩ :: rest) (S n l M os) K := su (ap_nilc (opp_q h)) hk
theorem rnilc {id k i j : Nat} (h : opp n l a = some (.ptr id k i j)) (hk : RunD P ops N (i0 + 1) rest (S n ((dd, (.ptr id k i j)) :: l) M os) (rs ++ [⟨some dd, [], topq n l (Op.operands (.nilCheck a)).toList⟩]) KD) : RunD P ops N i0 (⟨some dd, (.nilCheck a), tyo, pos, af, none⟩ :: rest) (S n l M os) rs KD := rd_u (by first | (simp [Op.operands, plainq, opp_o h, opp_p h]; done) | simp [Op.operands, plainq, AV.plain, opp_o h]) rfl (ap_nilc (opp_q h)) hk
theorem sassign (h : opp n l a = some x) (hk : asemC P ops rest (S n ((dd, x) :: l) M os) K) : asemC P ops (⟨some dd, (.assign a), tyo, pos, af, none⟩ :: rest) (S n l M os) K := su (ap_assign (opp_q h)) hk
theorem aassign (h : opp n l a = some x) : Ap P n l M os e (.assign a) x := ap_assign (opp_q h)
theorem sadd (ha : opp n l a = some (.val (.int k p))) (hb : opp n l b = some (.val (.int k q))) (h : inr k (p + q)) (hk : asemC P ops rest (S n ((dd, (.val (.int k (p + q)))) :: l) M os) K) : asemC P ops (⟨some dd, (.binOp .add ty a b ty2), tyo, pos, af, none⟩ :: rest) (S n l M os) K := su (ap_add (opp_q ha) (opp_q hb) h) hk
theorem aadd (ha : opp n l a = some (.val (.int k p))) (hb : opp n l b = some (.val (.int k q))) (h : inr k (p + q)) : Ap P n l M os e (.binOp .add ty a b ty2) (.val (.int k (p + q))) := ap_add (opp_q ha) (opp_q hb) h
theorem asub (ha : opp n l a = some (.val (.int k p))) (hb : opp n l b = some (.val (.int k q))) (h : inr k (p - q)) : Ap P n l M os e (.binOp .sub ty a b ty2) (.val (.int k (p - q))) := ap_sub (opp_q ha) (opp_q hb) h
theorem aquo (ha : opp n l a = some (.val (.int k p))) (hb : opp n l b = some (.val (.int k q))) (h : q ≠ 0 ∧ inr k (p.tdiv q)) : Ap P n l M os e (.binOp .quo ty a b ty2) (.val (.int k (p.tdiv q))) := ap_quo (opp_q ha) (opp_q hb) h
theorem arem (ha : opp n l a = some (.val (.int k p))) (hb : opp n l b = some (.val (.int k q))) (h : q ≠ 0) : Ap P n l M os e (.binOp .rem ty a b ty2) (.val (.int k (p.tmod q))) := ap_rem (opp_q ha) (opp_q hb) h
theorem seql (ha : opp n l a = some (.val (.int k p))) (hb : opp n l b = some (.val (.int k q))) (hk : asemC P ops rest (S n ((dd, (.val (.bool (decide (p = q))))) :: l) M os) K) : asemC P ops (⟨some dd, (.binOp .eql ty a b ty2), tyo, pos, af, none⟩ :: rest) (S n l M os) K := su (ap_eql (opp_q ha) (opp_q hb)) hk
theorem aneq (ha : opp n l a = some (.val (.int k p))) (hb : opp n l b = some (.val (.int k q))) : Ap P n l M os e (.binOp .neq ty a b ty2) (.val (.bool (!decide (p = q)))) := ap_neq (opp_q ha) (opp_q hb)
theorem slss (ha : opp n l a = some (.val (.int k p))) (hb : opp n l b = some (.val (.int k q))) (hk : asemC P ops rest (S n ((dd, (.val (.bool (decide (p < q))))) :: l) M os) K) : asemC P ops (⟨some dd, (.binOp .lss ty a b ty2), tyo, pos, af, none⟩ :: rest) (S n l M os) K := su (ap_lss (opp_q ha) (opp_q hb)) hk
theorem alss (ha : opp n l a = some (.val (.int k p))) (hb : opp n l b = some (.val (.int k q))) : Ap P n l M os e (.binOp .lss ty a b ty2) (.val (.bool (decide (p < q)))) := ap_lss (opp_q ha) (opp_q hb)
theorem agtr (ha : opp n l a = some (.val (.int k p))) (hb : opp n l b = some (.val (.int k q))) : Ap P n l M os e (.binOp .gtr ty a b ty2) (.val (.bool (decide (q < p)))) := ap_gtr (opp_q ha) (opp_q hb)
theorem ageq (ha : opp n l a = some (.val (.int k p))) (hb : opp n l b = some (.val (.int k q))) : Ap P n l M os e (.binOp .geq ty a b ty2) (.val (.bool (decide (q ≤ p)))) := ap_geq (opp_q ha) (opp_q hb)
theorem seqs (ha : opp n l a = some (.val (.string s))) (hb : opp n l b = some (.val (.string u))) (hk : asemC P ops rest (S n ((dd, (.val (.bool (decide (s = u))))) :: l) M os) K) : asemC P ops (⟨some dd, (.binOp .eql ty a b ty2), tyo, pos, af, none⟩ :: rest) (S n l M os) K := su (ap_eqs (opp_q ha) (opp_q hb)) hk
theorem aeqs (ha : opp n l a = some (.val (.string s))) (hb : opp n l b = some (.val (.string u))) : Ap P n l M os e (.binOp .eql ty a b ty2) (.val (.bool (decide (s = u)))) := ap_eqs (opp_q ha) (opp_q hb)
theorem anes (ha : opp n l a = some (.val (.string s))) (hb : opp n l b = some (.val (.string u))) : Ap P n l M os e (.binOp .neq ty a b ty2) (.val (.bool (!decide (s = u)))) := ap_nes (opp_q ha) (opp_q hb)
theorem acat (ha : opp n l a = some (.val (.string s))) (hb : opp n l b = some (.val (.string u))) (h : s.size + u.size ≤ 9223372036854775807) : Ap P n l M os e (.binOp .add ty a b ty2) (.val (.string (s ++ u))) := ap_cat (opp_q ha) (opp_q hb) h
theorem anot {p : Bool} (ha : opp n l a = some (.val (.bool p))) : Ap P n l M os e (.unOp .not ty a) (.val (.bool !p)) := ap_not (opp_q ha)
theorem aneg (ha : opp n l a = some (.val (.int k p))) (h : inr k (0 - p)) : Ap P n l M os e (.unOp .neg ty a) (.val (.int k (0 - p))) := ap_neg (opp_q ha) h
theorem sloadw [h : TIc P ty ti] (ha : opp n l a = some (.iptr (AV.cells x) 0)) (hp : part ti x.cells 0 = some x) (hk : asemC P ops rest (S n ((dd, x) :: l) M os) K) : asemC P ops (⟨some dd, (.load ty a), tyo, pos, af, none⟩ :: rest) (S n l M os) K := su (ap_load_w (opp_q ha) hp) hk
theorem aloadw [h : TIc P ty ti] (ha : opp n l a = some (.iptr (AV.cells x) 0)) (hp : part ti x.cells 0 = some x) : Ap P n l M os e (.load ty a) x := ap_load_w (opp_q ha) hp
theorem aloadi [h : TIc P ty ti] (ha : opp n l a = some (.iptr cs j)) (hp : part ti cs j = some x) : Ap P n l M os e (.load ty a) x := ap_load_i (opp_q ha) hp
theorem sloadpw {k : Nat} [h : TIc P ty ti] (ha : opp n l a = some (.ptr id k i 0)) (ho : lookq M os id = some (.arr k es)) (hi : es[i]? = some x) (hp : part ti x.cells 0 = some x) (hk : asemC P ops rest (S n ((dd, x) :: l) M os) K) : asemC P ops (⟨some dd, (.load ty a), tyo, pos, af, none⟩ :: rest) (S n l M os) K := su (ap_load_pw (opp_q ha) ho hi hp) hk
theorem aloadpw {k : Nat} [h : TIc P ty ti] (ha : opp n l a = some (.ptr id k i 0)) (ho : lookq M os id = some (.arr k es)) (hi : es[i]? = some x) (hp : part ti x.cells 0 = some x) : Ap P n l M os e (.load ty a) x := ap_load_pw (opp_q ha) ho hi hp
theorem sloadp {k : Nat} [h : TIc P ty ti] (ha : opp n l a = some (.ptr id k i j)) (ho : lookq M os id = some (.arr k es)) (hi : es[i]? = some y) (hp : part ti y.cells j = some x) (hk : asemC P ops rest (S n ((dd, x) :: l) M os) K) : asemC P ops (⟨some dd, (.load ty a), tyo, pos, af, none⟩ :: rest) (S n l M os) K := su (ap_load_p (opp_q ha) ho hi hp) hk
theorem rloadp {k : Nat} [h : TIc P ty ti] (ha : opp n l a = some (.ptr id k i j)) (ho : lookq M os id = some (.arr k es)) (hi : es[i]? = some y) (hp : part ti y.cells j = some x) (hk : RunD P ops N (i0 + 1) rest (S n ((dd, x) :: l) M os) (rs ++ [⟨some dd, [], topq n l (Op.operands (.load ty a)).toList⟩]) KD) : RunD P ops N i0 (⟨some dd, (.load ty a), tyo, pos, af, none⟩ :: rest) (S n l M os) rs KD := rd_u (by first | (simp [Op.operands, plainq, opp_o ha, opp_p ha]; done) | simp [Op.operands, plainq, AV.plain, opp_o ha]) rfl (ap_load_p (opp_q ha) ho hi hp) hk
theorem gloadp {k : Nat} (ht : (ops[jg]?).bind (·.dst) = some tg) (hg : opq n l (.tmp tg) = some (.val (.bool want))) [h : TIc P ty ti] (ha : opp n l a = some (.ptr id k i j)) (ho : lookq M os id = some (.arr k es)) (hi : es[i]? = some y) (hp : part ti y.cells j = some x) (hk : RunD P ops N (i0 + 1) rest (S n ((dd, x) :: l) M os) (rs ++ [⟨some dd, [], topq n l (Op.operands (.load ty a)).toList⟩]) KD) : RunD P ops N i0 (⟨some dd, (.load ty a), tyo, pos, af, some (jg, want)⟩ :: rest) (S n l M os) rs KD := rdg_u ht hg (by first | (simp [Op.operands, plainq, opp_o ha, opp_p ha]; done) | simp [Op.operands, plainq, AV.plain, opp_o ha]) rfl (ap_load_p (opp_q ha) ho hi hp) hk
theorem aloadpt {k : Nat} {α : Type} [Inhabited α] {f : α → AV} {L : List α} [h : TIc P ty ti] (ha : opp n l a = some (.ptr id k i 0)) (ho : lookq M os id = some (.arr k (L.map f))) (hi : i < L.length) (hp : part ti (f (nth L i)).cells 0 = some (f (nth L i))) : Ap P n l M os e (.load ty a) (f (nth L i)) := ap_load_pt (opp_q ha) ho hi hp
theorem sfieldp {k : Nat} [h : TIc P ty ti] {f : Nat} (ha : opp n l a = some (.ptr id k i j)) (hf : ti.fields[f]? = some (off, sz)) (hs : Nat.beq sz 0 = false) (hk : asemC P ops rest (S n ((dd, (.ptr id k i (j + off))) :: l) M os) K) : asemC P ops (⟨some dd, (.fieldAddr ty a f), tyo, pos, af, none⟩ :: rest) (S n l M os) K := su (ap_field_p (opp_q ha) hf hs) hk
theorem rfieldp {k : Nat} [h : TIc P ty ti] {f : Nat} (ha : opp n l a = some (.ptr id k i j)) (hf : ti.fields[f]? = some (off, sz)) (hs : Nat.beq sz 0 = false) (hk : RunD P ops N (i0 + 1) rest (S n ((dd, (.ptr id k i (j + off))) :: l) M os) (rs ++ [⟨some dd, [], topq n l (Op.operands (.fieldAddr ty a f)).toList⟩]) KD) : RunD P ops N i0 (⟨some dd, (.fieldAddr ty a f), tyo, pos, af, none⟩ :: rest) (S n l M os) rs KD := rd_u (by first | (simp [Op.operands, plainq, opp_o ha, opp_p ha]; done) | simp [Op.operands, plainq, AV.plain, opp_o ha]) rfl (ap_field_p (opp_q ha) hf hs) hk
theorem gfieldp {k : Nat} (ht : (ops[jg]?).bind (·.dst) = some tg) (hg : opq n l (.tmp tg) = some (.val (.bool want))) [h : TIc P ty ti] {f : Nat} (ha : opp n l a = some (.ptr id k i j)) (hf : ti.fields[f]? = some (off, sz)) (hs : Nat.beq sz 0 = false) (hk : RunD P ops N (i0 + 1) rest (S n ((dd, (.ptr id k i (j + off))) :: l) M os) (rs ++ [⟨some dd, [], topq n l (Op.operands (.fieldAddr ty a f)).toList⟩]) KD) : RunD P ops N i0 (⟨some dd, (.fieldAddr ty a f), tyo, pos, af, some (jg, want)⟩ :: rest) (S n l M os) rs KD := rdg_u ht hg (by first | (simp [Op.operands, plainq, opp_o ha, opp_p ha]; done) | simp [Op.operands, plainq, AV.plain, opp_o ha]) rfl (ap_field_p (opp_q ha) hf hs) hk
theorem afieldi [h : TIc P ty ti] {f : Nat} (ha : opp n l a = some (.iptr cs j)) (hf : ti.fields[f]? = some (off, sz)) (hs : Nat.beq sz 0 = false) : Ap P n l M os e (.fieldAddr ty a f) (.iptr cs (j + off)) := ap_field_i (opp_q ha) hf hs
theorem sidxn {k : Nat} {α : Type} [Inhabited α] {f : α → AV} {L : List α} {kk : IntKind} {i : Nat} {bt : Nat} [h : TEl P ty te k bt] (ha : opp n l a = some (.sl k (L.map f))) (hb : opp n l b = some (.val (.int kk (i : Int)))) (hi : i < L.length) (hk : asemC P ops rest (S n ((dd, (.iptr (AV.cells (f (nth L i))) 0)) :: l) M os) K) : asemC P ops (⟨some dd, (.indexAddr ty a b), tyo, pos, af, none⟩ :: rest) (S n l M os) K := su (ap_idx_n (opp_q ha) (opp_q hb) hi) hk
theorem aidxn {k : Nat} {α : Type} [Inhabited α] {f : α → AV} {L : List α} {kk : IntKind} {i : Nat} {bt : Nat} [h : TEl P ty te k bt] (ha : opp n l a = some (.sl k (L.map f))) (hb : opp n l b = some (.val (.int kk (i : Int)))) (hi : i < L.length) : Ap P n l M os e (.indexAddr ty a b) (.iptr (AV.cells (f (nth L i))) 0) := ap_idx_n (opp_q ha) (opp_q hb) hi
theorem aidxrn {k : Nat} {kk : IntKind} {i : Nat} {bt : Nat} [h : TEl P ty te k bt] (ha : opp n l a = some (.ref id k 0 len)) (hb : opp n l b = some (.val (.int kk (i : Int)))) (hi : i < len) : Ap P n l M os e (.indexAddr ty a b) (.ptr id k i 0) := ap_idxr_n (opp_q ha) (opp_q hb) hi
theorem aidxrz {k : Nat} {kk : IntKind} {i : Int} {bt : Nat} [h : TEl P ty te k bt] (ha : opp n l a = some (.ref id k 0 len)) (hb : opp n l b = some (.val (.int kk i))) (hi : 0 ≤ i ∧ i < len) : Ap P n l M os e (.indexAddr ty a b) (.ptr id k i.toNat 0) := ap_idxr_z (opp_q ha) (opp_q hb) hi
theorem asidxn {s : ByteArray} {kk : IntKind} {i : Nat} [h : TIc P ty ti] (ha : opp n l a = some (.val (.string s))) (hb : opp n l b = some (.val (.int kk (i : Int)))) (hs : ti.sh = .string) (hi : i < s.size) : Ap P n l M os e (.index ty a b) (.val (.int .u8 (bAt s i))) := ap_sidx_n (opp_q ha) (opp_q hb) hs hi
theorem slenm {k : Nat} {α : Type} {f : α → AV} {L : List α} [h : TIc P ty ti] (hs : ti.sh = .slice) (ha : opp n l a = some (.sl k (L.map f))) (hk : asemC P ops rest (S n ((dd, (.val (.int .i64 (L.length : Int)))) :: l) M os) K) : asemC P ops (⟨some dd, (.call ⟨.builtin .len, #[a], #[ty]⟩), tyo, pos, af, none⟩ :: rest) (S n l M os) K := su (ap_len_m hs (opp_q ha)) hk
theorem alenm {k : Nat} {α : Type} {f : α → AV} {L : List α} [h : TIc P ty ti] (hs : ti.sh = .slice) (ha : opp n l a = some (.sl k (L.map f))) : Ap P n l M os e (.call ⟨.builtin .len, #[a], #[ty]⟩) (.val (.int .i64 (L.length : Int))) := ap_len_m hs (opp_q ha)
theorem alenr {k : Nat} [h : TIc P ty ti] (hs : ti.sh = .slice) (ha : opp n l a = some (.ref id k off len)) : Ap P n l M os e (.call ⟨.builtin .len, #[a], #[ty]⟩) (.val (.int .i64 (len : Int))) := ap_len_r hs (opp_q ha)
theorem alenstr {s : ByteArray} [h : TIc P ty ti] (hs : ti.sh = .string) (ha : opp n l a = some (.val (.string s))) : Ap P n l M os e (.call ⟨.builtin .len, #[a], #[ty]⟩) (.val (.int .i64 (s.size : Int))) := ap_len_str hs (opp_q ha)
theorem amax {k k2 : IntKind} {p q : Int} {t1 t2 : TypeId} (ha : opp n l a = some (.val (.int k p))) (hb : opp n l b = some (.val (.int k2 q))) : Ap P n l M os e (.call ⟨.builtin .max, #[a, b], #[t1, t2]⟩) (.val (.int k (max p q))) := ap_max (opp_q ha) (opp_q hb)
theorem aconv {src : TypeId} {k kk : IntKind} {p : Int} [h0 : TIc P src tj] [h : TIc P ty ti] (ha : opp n l a = some (.val (.int kk p))) (hk : ti.kind = some k) (hb : b8 P ti = false) (hr : inr k p) : Ap P n l M os e (.convert src ty a) (.val (.int k p)) := ap_conv (opp_q ha) hk hb hr
theorem aextract {vs : List AV} (ha : opp n l a = some (.tup vs)) (hi : vs[i]? = some x) : Ap P n l M os e (.extract a i) x := ap_extract (opp_q ha) hi
end
end
section
variable {P : Program} {n M : Nat} {l : List (Nat × AV)} {os : List (Nat × Option AObj)} {e : List Bool} {op : Op} {d : Tmp} {ty : TypeId} {pos : String} {af : Array Edge} {ops : Array Oper} {rest : List Oper} {K : St → Prop} {j : Nat} {want : Bool}
end
end Go.Lg

namespace Go.Lg
def jA := @WP.seq
end Go.Lg

namespace Go.Lg
def jF := @WP.block
end Go.Lg

namespace Go.Lg
def jH := @go_n
end Go.Lg

namespace Go.Lg
def jI := @WP.skip
end Go.Lg

namespace Go.Lg
def jJ := @WP.exit
end Go.Lg

namespace Go.Lg
def jK := @WP.ret
end Go.Lg

namespace Go.Lg
def jL := @go_x
end Go.Lg

namespace Go.Lg
def jM := @go_r
end Go.Lg

namespace Go.Lg
def jN := @bl_n
end Go.Lg

namespace Go.Lg
def jO := @bl_r
end Go.Lg

namespace Go.Lg
def jP := @bl_x
end Go.Lg

namespace Go.Lg
def jS := @bo_r
end Go.Lg

namespace Go.Lg
def jW := @asemC_end
end Go.Lg

namespace Go.Lg
open Go.Proofs
set_option linter.unusedSimpArgs false
set_option linter.unusedVariables false
attribute [local irreducible] Ap Rq asemC WP RunD Ret Gq thenA inBlockA bodyQ noGotoA RqL RqP OpP
set_option maxHeartbeats 4000000
theorem letter_fn (c : Int) : Fn Tryd.prog 69 [.val (.int .u8 c)] (boolA (letB c)) := by
  refine Fn.intro rfl (by kernel_rfl) Tryd.func69 rfl rfl Tryd.ntmps69 (by exact Nat.le_of_ble_eq_true rfl) ?_; intro Γ hm
  (repeat' (first | apply jA | apply jH | apply jK | apply jS | (refine WP.regionC (id := 0) ?_; (refine sassign rfl ?_); apply jW) | (refine WP.regionC (id := 1) ?_; (refine smove rfl ?_); (refine su (ageq rfl rfl) ?_); (refine smove rfl ?_); (refine sg (gq_vt rfl rfl) (fun he => ap_move (rq_p rfl rfl)) ?_); (refine sg (gq_vt rfl rfl) (fun he => ap_leq (rq_c rfl rfl) (rq_p rfl rfl)) ?_); (refine su (ap_and (rq_p rfl rfl) (rq_c rfl rfl)) ?_); (refine smove rfl ?_); (refine sg (gq_vf rfl rfl) (fun he => ap_move (rq_p rfl rfl)) ?_); (refine sg (gq_vf rfl rfl) (fun he => ap_geq (rq_c rfl rfl) (rq_p rfl rfl)) ?_); (refine sg (gq_vf rfl rfl) (fun he => ap_move (rq_c rfl rfl)) ?_); (refine sg (gq_ct rfl rfl) (fun he => ap_move (rq_p rfl rfl)) ?_); (refine sg (gq_ct rfl rfl) (fun he => ap_leq (rq_c rfl rfl) (rq_p rfl rfl)) ?_); (refine sg (gq_vf rfl rfl) (fun he => ap_and (rq_c rfl rfl) (rq_c rfl rfl)) ?_); (refine su (ap_or (rq_p rfl rfl) (rq_c rfl rfl)) ?_); (refine sassign rfl ?_); apply jW) | exact ret_eq rfl rfl rfl))
def idx (l : List ByteArray) (s : ByteArray) : Int := indexP (fun x => decide (s = x)) l
theorem index_fn (l : List ByteArray) (s : ByteArray) : Fn Tryd.prog 24 [strsA l, strA s] (intA (idx l s)) := by
  refine Fn.intro rfl (by kernel_rfl) Tryd.func24 rfl rfl Tryd.ntmps24 (by exact Nat.le_of_ble_eq_true rfl) ?_; intro Γ hm
  refine wp_lens 0 rfl fun h0 => ?_
  rw [lens_strsA] at h0
  (repeat' (first | apply jA | apply jF | apply jH | (refine WP.regionC (id := 0) ?_; (refine sassign rfl ?_); apply jW) | (refine WP.regionC (id := 1) ?_; (refine smove rfl ?_); (refine slenm rfl rfl ?_); (refine smove rfl ?_); apply jW)))
  refine wp_loop (fun k => k ≤ l.length ∧ (l.take k).any (fun x => decide (s = x)) = false) (fun k => l.length - k) (fun k => (S 19 [(0, strsA l), (1, strA s), (7, intA (l.length : Nat)), (8, intA (k : Nat))] 0 [])) 0 ⟨[], ToR.S rfl (by repeat' (first | exact rt_nil | refine rt_e rfl rfl ?_ | refine rt_p rfl rfl (by first | (simp [AV.bd, bdL, bdL_append]; done) | fail) ?_)) (by repeat' (exact ro_nil)) rfl (by (rw [hm]; exact rfl)) rfl (by (simp [bdT, AV.bd, bdL, bdL_append]; done)) (by repeat' (exact True.intro)) (by (rw [hm]; exact Nat.le_of_ble_eq_true rfl))⟩ ⟨Nat.zero_le _, rfl⟩ ?_
  rintro k ⟨hk, hall⟩
  (repeat' (first | apply jA | apply jF | apply jH | apply jI | apply jJ | apply jK | apply jL | apply jM | apply jN | apply jO | apply jP | apply jS | (refine wp_cond rfl (fun hc => ?_) (fun hc => ?_) <;> (try simp only [sB, ne_eq, reduceCtorEq] at hc) <;> (try (exfalso; omega))) | (refine WP.regionC (id := 2) ?_; (refine slss rfl rfl ?_); apply jW) | (refine WP.regionC ?_; (refine smove rfl ?_); (refine sassign rfl ?_); apply jW) | (refine WP.regionC (id := 4) ?_; (refine smove rfl ?_); (refine smove rfl ?_); (refine smove rfl ?_); (refine sidxn rfl rfl (by omega) ?_); (refine sloadw rfl rfl ?_); (refine seqs rfl rfl ?_); apply jW) | (refine WP.regionC (id := 6) ?_; (refine sadd rfl rfl (by exact inr_i64_of (by omega)) ?_); (refine smove rfl ?_); apply jW) | (refine WP.regionC (id := 7) ?_; (refine sassign rfl ?_); apply jW) | refine ret_i rfl ?_))
  · exact (indexP_at (by omega) hall (by simp [hc])).symm
  · exact ⟨k + 1, ⟨by omega, by omega, take_any_succ (by omega) hall (by simp [hc])⟩, ⟨[], ToR.S rfl (by repeat' (first | exact rt_nil | refine rt_e rfl rfl ?_ | refine rt_p rfl rfl (by first | (simp [AV.bd, bdL, bdL_append]; done) | fail) ?_)) (by repeat' (exact ro_nil)) rfl (by (rw [hm]; exact rfl)) rfl (by (simp [bdT, AV.bd, bdL, bdL_append]; done)) (by repeat' (exact True.intro)) (by (rw [hm]; exact Nat.le_of_ble_eq_true rfl))⟩⟩
  · exact (indexP_no (by omega) hall).symm
theorem containsS_fn (l : List ByteArray) (s : ByteArray) : Fn Tryd.prog 28 [strsA l, strA s] (boolA (l.any fun x => decide (s = x))) := by
  refine Fn.intro rfl (by kernel_rfl) Tryd.func28 rfl rfl Tryd.ntmps28 (by exact Nat.le_of_ble_eq_true rfl) ?_; intro Γ hm
  (repeat' (first | apply jA | apply jH | apply jK | apply jS | (refine WP.regionC (id := 0) ?_; (refine sassign rfl ?_); apply jW) | (refine WP.regionC (id := 1) ?_; (refine smove rfl ?_); (refine smove rfl ?_); (refine sc_p rfl rfl (by first | ((repeat' first | exact SubL.nil | refine SubL.cons ?_ ?_ | exact Sub.refl); done) | fail) (by first | (simp [bdL, bdL_append, AV.bd]; done) | fail) (index_fn _ _) ?_); (refine su (ageq rfl rfl) ?_); (refine sassign rfl ?_); apply jW) | refine ret_b rfl ?_))
  exact indexP_any
def kw0 : ByteArray := ⟨#[115, 116, 97, 114, 116]⟩
def kw1 : ByteArray := ⟨#[108, 101, 102, 116]⟩
def kw2 : ByteArray := ⟨#[114, 105, 103, 104, 116]⟩
def kw3 : ByteArray := ⟨#[110, 111, 110, 101]⟩
def kw4 : ByteArray := ⟨#[112, 114, 105, 99, 101]⟩
def kws : List ByteArray := [kw0, kw1, kw2, kw3, kw4]
def gnCh (s : ByteArray) (i : Nat) : Bool := letB (bAt s i) || (!decide (i = 0) && (digB (bAt s i) || decide (bAt s i = 95)))
def gnOk (s : ByteArray) : Bool := decide (1 ≤ s.size) && decide (s.size ≤ 24) && (List.range s.size).all (gnCh s) && !kws.any (fun x => decide (s = x))
theorem size_zero {s : ByteArray} (hs : s.size = 0) : s = ⟨#[]⟩ := by
  obtain ⟨⟨l⟩⟩ := s
  have : l = [] := List.eq_nil_of_length_eq_zero (by simpa [ByteArray.size] using hs)
  subst this; rfl
theorem gnOk_no0 {s : ByteArray} (h : letB (bAt s 0) = false) : gnOk s = false := by
  by_cases h0 : s.size = 0
  · simp [gnOk, h0]
  · have : gnCh s 0 = false := by simp [gnCh, h]
    simp only [gnOk, range_all_no (k := 0) (n := s.size) (by omega) this, Bool.and_false, Bool.false_and]
theorem rname_fn (x : ByteArray) (hx : x.size ≤ 9223372036854775807) : Fn Tryd.prog 51 [strA x] (boolA (gnOk x)) := by
  refine Fn.intro rfl (by kernel_rfl) Tryd.func51 rfl rfl Tryd.ntmps51 (by exact Nat.le_of_ble_eq_true rfl) ?_; intro Γ hm
  (repeat' (first | apply jA | apply jF | apply jH | (refine WP.regionC ?_; (refine sassign rfl ?_); apply jW)))
  refine wp_loop (fun k => k ≤ x.size ∧ (List.range k).all (gnCh x) = true) (fun k => x.size - k) (fun k => (S 84 [(0, strA x), (3, intA (k : Nat))] 0 [])) 0 ⟨[], ToR.S rfl (by repeat' (first | exact rt_nil | refine rt_e rfl rfl ?_)) (by repeat' (exact ro_nil)) rfl (by (rw [hm]; exact rfl)) rfl (by (simp [bdT, AV.bd, bdL, bdL_append]; done)) (by repeat' (exact True.intro)) (by (rw [hm]; exact Nat.le_of_ble_eq_true rfl))⟩ ⟨Nat.zero_le _, rfl⟩ ?_
  rintro k ⟨hk, hall⟩
  have hb := bAt_bd x k
  (repeat' (first | apply jA | apply jF | apply jH | apply jI | apply jJ | apply jK | apply jL | apply jM | apply jN | apply jO | apply jP | apply jS | (refine wp_cond rfl (fun hc => ?_) (fun hc => ?_) <;> (try simp only [sB, ne_eq, reduceCtorEq] at hc) <;> (try (exfalso; omega))) | (refine WP.regionC (id := 2) ?_; (refine smove rfl ?_); (refine smove rfl ?_); (refine su (alenstr rfl rfl) ?_); (refine slss rfl rfl ?_); apply jW) | (refine WP.regionC (id := 4) ?_; (refine smove rfl ?_); (refine smove rfl ?_); (refine su (asidxn rfl rfl rfl (by omega)) ?_); (refine su (ageq rfl rfl) ?_); (refine smove rfl ?_); (refine sg (gq_vt rfl rfl) (fun he => ap_move (rq_p rfl rfl)) ?_); (refine sg (gq_vt rfl rfl) (fun he => ap_move (rq_p rfl rfl)) ?_); (refine sg (gq_vt rfl rfl) (fun he => ap_sidx_n (rq_c rfl rfl) (rq_c rfl rfl) rfl (by (try simp only [sH, id, sB, ne_eq, reduceCtorEq] at he); omega)) ?_); (refine sg (gq_vt rfl rfl) (fun he => ap_leq (rq_c rfl rfl) (rq_p rfl rfl)) ?_); (refine su (ap_and (rq_p rfl rfl) (rq_c rfl rfl)) ?_); (refine smove rfl ?_); (refine sg (gq_vf rfl rfl) (fun he => ap_move (rq_p rfl rfl)) ?_); (refine sg (gq_vf rfl rfl) (fun he => ap_move (rq_p rfl rfl)) ?_); (refine sg (gq_vf rfl rfl) (fun he => ap_sidx_n (rq_c rfl rfl) (rq_c rfl rfl) rfl (by (try simp only [sH, id, sB, ne_eq, reduceCtorEq] at he); omega)) ?_); (refine sg (gq_vf rfl rfl) (fun he => ap_geq (rq_c rfl rfl) (rq_p rfl rfl)) ?_); (refine sg (gq_vf rfl rfl) (fun he => ap_move (rq_c rfl rfl)) ?_); (refine sg (gq_ct rfl rfl) (fun he => ap_move (rq_p rfl rfl)) ?_); (refine sg (gq_ct rfl rfl) (fun he => ap_move (rq_p rfl rfl)) ?_); (refine sg (gq_ct rfl rfl) (fun he => ap_sidx_n (rq_c rfl rfl) (rq_c rfl rfl) rfl (by (try simp only [sH, id, sB, ne_eq, reduceCtorEq] at he); omega)) ?_); (refine sg (gq_ct rfl rfl) (fun he => ap_leq (rq_c rfl rfl) (rq_p rfl rfl)) ?_); (refine sg (gq_vf rfl rfl) (fun he => ap_and (rq_c rfl rfl) (rq_c rfl rfl)) ?_); (refine su (ap_or (rq_p rfl rfl) (rq_c rfl rfl)) ?_); (refine sassign rfl ?_); apply jW) | (refine WP.regionC (id := 5) ?_; (refine smove rfl ?_); (refine su (anot rfl) ?_); (refine smove rfl ?_); (refine sg (gq_vt rfl rfl) (fun he => ap_move (rq_p rfl rfl)) ?_); (refine sg (gq_vt rfl rfl) (fun he => ap_eql (rq_c rfl rfl) (rq_p rfl rfl)) ?_); (refine sg (gq_vt rfl rfl) (fun he => ap_move (rq_c rfl rfl)) ?_); (refine sg (gq_cf rfl rfl) (fun he => ap_move (rq_p rfl rfl)) ?_); (refine sg (gq_cf rfl rfl) (fun he => ap_move (rq_p rfl rfl)) ?_); (refine sg (gq_cf rfl rfl) (fun he => ap_sidx_n (rq_c rfl rfl) (rq_c rfl rfl) rfl (by (try simp only [sH, id, sB, ne_eq, reduceCtorEq] at he); omega)) ?_); (refine sg (gq_cf rfl rfl) (fun he => ap_lss (rq_c rfl rfl) (rq_p rfl rfl)) ?_); (refine sg (gq_cf rfl rfl) (fun he => ap_move (rq_c rfl rfl)) ?_); (refine sg (gq_cf rfl rfl) (fun he => ap_move (rq_p rfl rfl)) ?_); (refine sg (gq_cf rfl rfl) (fun he => ap_move (rq_p rfl rfl)) ?_); (refine sg (gq_cf rfl rfl) (fun he => ap_sidx_n (rq_c rfl rfl) (rq_c rfl rfl) rfl (by (try simp only [sH, id, sB, ne_eq, reduceCtorEq] at he); omega)) ?_); (refine sg (gq_cf rfl rfl) (fun he => ap_gtr (rq_c rfl rfl) (rq_p rfl rfl)) ?_); (refine sg (gq_cf rfl rfl) (fun he => ap_or (rq_c rfl rfl) (rq_c rfl rfl)) ?_); (refine sg (gq_cf rfl rfl) (fun he => ap_move (rq_c rfl rfl)) ?_); (refine sg (gq_ct rfl rfl) (fun he => ap_move (rq_p rfl rfl)) ?_); (refine sg (gq_ct rfl rfl) (fun he => ap_move (rq_p rfl rfl)) ?_); (refine sg (gq_ct rfl rfl) (fun he => ap_sidx_n (rq_c rfl rfl) (rq_c rfl rfl) rfl (by (try simp only [sH, id, sB, ne_eq, reduceCtorEq] at he); omega)) ?_); (refine sg (gq_ct rfl rfl) (fun he => ap_neq (rq_c rfl rfl) (rq_p rfl rfl)) ?_); (refine sg (gq_cf rfl rfl) (fun he => ap_and (rq_c rfl rfl) (rq_c rfl rfl)) ?_); (refine sg (gq_vt rfl rfl) (fun he => ap_or (rq_c rfl rfl) (rq_c rfl rfl)) ?_); (refine su (ap_and (rq_p rfl rfl) (rq_c rfl rfl)) ?_); apply jW) | (refine WP.regionC (id := 6) ?_; (refine sassign rfl ?_); apply jW) | (refine WP.regionC (id := 3) ?_; (refine smove rfl ?_); (refine sadd rfl rfl (by exact inr_i64_of (by omega)) ?_); (refine sassign rfl ?_); apply jW) | (refine WP.regionC (id := 7) ?_; (refine smove rfl ?_); (refine su (anes rfl rfl) ?_); (refine smove rfl ?_); (refine sg (gq_vt rfl rfl) (fun he => ap_move (rq_p rfl rfl)) ?_); (refine sg (gq_vt rfl rfl) (fun he => ap_len_str rfl (rq_c rfl rfl)) ?_); (refine sg (gq_vt rfl rfl) (fun he => ap_leq (rq_c rfl rfl) (rq_p rfl rfl)) ?_); (refine su (ap_and (rq_p rfl rfl) (rq_c rfl rfl)) ?_); (refine smove rfl ?_); (refine sg (gq_vt rfl rfl) (fun he => ap_move (rq_p rfl rfl)) ?_); (refine sg (gq_vt rfl rfl) (fun he => ap_nes (rq_c rfl rfl) (rq_p rfl rfl)) ?_); (refine su (ap_and (rq_p rfl rfl) (rq_c rfl rfl)) ?_); (refine smove rfl ?_); (refine sg (gq_vt rfl rfl) (fun he => ap_move (rq_p rfl rfl)) ?_); (refine sg (gq_vt rfl rfl) (fun he => ap_nes (rq_c rfl rfl) (rq_p rfl rfl)) ?_); (refine su (ap_and (rq_p rfl rfl) (rq_c rfl rfl)) ?_); (refine smove rfl ?_); (refine sg (gq_vt rfl rfl) (fun he => ap_move (rq_p rfl rfl)) ?_); (refine sg (gq_vt rfl rfl) (fun he => ap_nes (rq_c rfl rfl) (rq_p rfl rfl)) ?_); (refine su (ap_and (rq_p rfl rfl) (rq_c rfl rfl)) ?_); (refine smove rfl ?_); (refine sg (gq_vt rfl rfl) (fun he => ap_move (rq_p rfl rfl)) ?_); (refine sg (gq_vt rfl rfl) (fun he => ap_nes (rq_c rfl rfl) (rq_p rfl rfl)) ?_); (refine su (ap_and (rq_p rfl rfl) (rq_c rfl rfl)) ?_); (refine smove rfl ?_); (refine sg (gq_vt rfl rfl) (fun he => ap_move (rq_p rfl rfl)) ?_); (refine sg (gq_vt rfl rfl) (fun he => ap_nes (rq_c rfl rfl) (rq_p rfl rfl)) ?_); (refine su (ap_and (rq_p rfl rfl) (rq_c rfl rfl)) ?_); (refine sassign rfl ?_); apply jW) | refine ret_b rfl ?_))
  · rw [show gnOk x = false by simp only [gnOk]; rw [range_all_no (k := k) (by omega), Bool.and_false, Bool.false_and]; simp [gnCh, letB, digB]; omega]
  · refine ⟨k + 1, ⟨by omega, by omega, range_all_succ hall ?_⟩, ⟨[], ToR.S rfl (by repeat' (first | exact rt_nil | refine rt_e rfl rfl ?_)) (by repeat' (exact ro_nil)) rfl (by (rw [hm]; exact rfl)) rfl (by (simp [bdT, AV.bd, bdL, bdL_append]; done)) (by repeat' (exact True.intro)) (by (rw [hm]; exact Nat.le_of_ble_eq_true rfl))⟩⟩
    simp [gnCh, letB, digB]; omega
  have : k = x.size := by omega
  subst this
  rw [Bool.eq_iff_iff]
  have e0 : x = ⟨#[]⟩ ↔ x.size = 0 := ⟨fun h => by rw [h]; rfl, size_zero⟩
  simp only [gnOk, hall, kws, kw0, kw1, kw2, kw3, kw4, List.any_cons, List.any_nil, Bool.or_false, Bool.not_or, Bool.and_eq_true, Bool.not_eq_true', decide_eq_true_eq, decide_eq_false_iff_not, and_true, e0]
  constructor
  · rintro ⟨⟨⟨⟨⟨⟨h1, h2⟩, h3⟩, h4⟩, h5⟩, h6⟩, h7⟩; exact ⟨⟨by omega, by omega⟩, h3, h4, h5, h6, h7⟩
  · rintro ⟨⟨h1, h2⟩, h3, h4, h5, h6, h7⟩; exact ⟨⟨⟨⟨⟨⟨by omega, by omega⟩, h3⟩, h4⟩, h5⟩, h6⟩, h7⟩
theorem name_fn (s : ByteArray) : Fn Tryd.prog 60 [strA s] (boolA (gnOk s)) := by
  refine Fn.intro rfl (by kernel_rfl) Tryd.func60 rfl rfl Tryd.ntmps60 (by exact Nat.le_of_ble_eq_true rfl) ?_; intro Γ hm
  by_cases hs : s.size = 0
  · have e0 := size_zero hs
    (repeat' (first | apply jA | apply jF | apply jH | apply jI | apply jK | apply jM | apply jS | (refine wp_cond rfl (fun hc => ?_) (fun hc => ?_) <;> (try simp only [sB, ne_eq, reduceCtorEq] at hc) <;> (try (exfalso; omega))) | (refine WP.regionC ?_; (refine sassign rfl ?_); apply jW) | (refine WP.regionC (id := 1) ?_ <;> (refine smove rfl ?_) <;> (refine seqs rfl rfl ?_) <;> (refine smove rfl ?_) <;> (refine sg (gq_vf rfl rfl) (fun he => ap_move (rq_p rfl rfl)) ?_) <;> (refine sg (gq_vf rfl rfl) (fun he => ap_len_str rfl (rq_c rfl rfl)) ?_) <;> (refine sg (gq_vf rfl rfl) (fun he => ap_gtr (rq_c rfl rfl) (rq_p rfl rfl)) ?_) <;> (refine su (ap_or (rq_p rfl rfl) (rq_c rfl rfl)) ?_) <;> (refine smove rfl ?_) <;> (refine sg (gq_vf rfl rfl) (fun he => ap_move (rq_p rfl rfl)) ?_) <;> (refine sg (gq_vf rfl rfl) (fun he => ap_sidx_n (rq_c rfl rfl) (rq_p rfl rfl) rfl (by (try simp only [sH, id, sB, ne_eq, reduceCtorEq] at he); (exfalso; simp [*] at he; done))) ?_) <;> (refine sg_p (gq_vf rfl rfl) (fun he => ⟨(rq_p rfl rfl), (RqL.cons (rq_c rfl rfl) (RqL.nil)), (by first | ((repeat' first | exact SubL.nil | refine SubL.cons ?_ ?_ | exact Sub.refl); done) | fail), (by first | (simp [bdL, bdL_append, AV.bd]; done) | fail), letter_fn _⟩) ?_) <;> (refine sg (gq_vf rfl rfl) (fun he => ap_not (rq_c rfl rfl)) ?_) <;> (refine su (ap_or (rq_p rfl rfl) (rq_c rfl rfl)) ?_) <;> (refine smove rfl ?_) <;> ((refine as_split (t := 17) rfl (fun hc => ?_) (fun hc => ?_) <;> (try simp only [sB, ne_eq, reduceCtorEq] at hc) <;> (try (exfalso; omega)) <;> (first | refine sgt_lit rfl rfl rfl (OpP.cons rfl (OpP.cons rfl (OpP.cons rfl (OpP.cons rfl (OpP.cons rfl (OpP.nil)))))) rfl rfl rfl rfl rfl rfl ?_ | refine sk_no rfl rfl ?_))) <;> (refine sg (gq_vf rfl rfl) (fun he => ap_move (rq_p rfl rfl)) ?_) <;> (first | refine sk_no rfl rfl ?_ | refine sg_b (gq_vf rfl rfl) (fun he => ⟨(rq_p rfl rfl), (RqL.cons (rq_p rfl rfl) (RqL.cons (rq_c rfl rfl) (RqL.nil))), (by first | ((repeat' first | exact FzL.nil | refine FzL.cons ?_ ?_ | (exact Fz.list rfl rfl (fun _ => by simp [AV.bd, bdL, bdL_append]) (fun _ => rfl)) | (exact Fz.reflp (by simp [AV.bd, bdL, bdL_append]))); done) | fail), containsS_fn kws _, rfl⟩) ?_) <;> (first | refine su (ap_or (rq_p rfl rfl) (rq_c rfl rfl)) ?_ | refine pk_t rfl rfl ?_) <;> apply jW) | (refine WP.regionC (id := 3) ?_; (refine smove rfl ?_); (refine su (alenstr rfl rfl) ?_); (refine smove rfl ?_); apply jW) | refine ret_b rfl ?_))
    · rw [show gnOk s = false by simp [gnOk, hs]]
    · rcases hc with hc | hc
      · exact hc.elim
      · simp only [gnOk, hc, Bool.not_true, Bool.and_false]
    · rename_i h1; exact absurd e0 h1.1.1
  have hb0 := bAt_bd s 0
  have hne : ¬ s = ⟨#[]⟩ := by rintro rfl; exact hs rfl
  (repeat' (first | apply jA | apply jF | apply jH | apply jI | apply jK | apply jM | apply jS | (refine wp_cond rfl (fun hc => ?_) (fun hc => ?_) <;> (try simp only [sB, ne_eq, reduceCtorEq] at hc) <;> (try (exfalso; omega))) | (refine WP.regionC ?_; (refine sassign rfl ?_); apply jW) | (refine WP.regionC (id := 1) ?_ <;> (refine smove rfl ?_) <;> (refine seqs rfl rfl ?_) <;> (refine smove rfl ?_) <;> (refine sg (gq_vf rfl rfl) (fun he => ap_move (rq_p rfl rfl)) ?_) <;> (refine sg (gq_vf rfl rfl) (fun he => ap_len_str rfl (rq_c rfl rfl)) ?_) <;> (refine sg (gq_vf rfl rfl) (fun he => ap_gtr (rq_c rfl rfl) (rq_p rfl rfl)) ?_) <;> (refine su (ap_or (rq_p rfl rfl) (rq_c rfl rfl)) ?_) <;> (refine smove rfl ?_) <;> (refine sg (gq_vf rfl rfl) (fun he => ap_move (rq_p rfl rfl)) ?_) <;> (refine sg (gq_vf rfl rfl) (fun he => ap_sidx_n (rq_c rfl rfl) (rq_p rfl rfl) rfl (by (try simp only [sH, id, sB, ne_eq, reduceCtorEq] at he); (simp only [sL] <;> omega))) ?_) <;> (refine sg_p (gq_vf rfl rfl) (fun he => ⟨(rq_p rfl rfl), (RqL.cons (rq_c rfl rfl) (RqL.nil)), (by first | ((repeat' first | exact SubL.nil | refine SubL.cons ?_ ?_ | exact Sub.refl); done) | fail), (by first | (simp [bdL, bdL_append, AV.bd]; done) | fail), letter_fn _⟩) ?_) <;> (refine sg (gq_vf rfl rfl) (fun he => ap_not (rq_c rfl rfl)) ?_) <;> (refine su (ap_or (rq_p rfl rfl) (rq_c rfl rfl)) ?_) <;> (refine smove rfl ?_) <;> ((refine as_split (t := 17) rfl (fun hc => ?_) (fun hc => ?_) <;> (try simp only [sB, ne_eq, reduceCtorEq] at hc) <;> (try (exfalso; omega)) <;> (first | refine sgt_lit rfl rfl rfl (OpP.cons rfl (OpP.cons rfl (OpP.cons rfl (OpP.cons rfl (OpP.cons rfl (OpP.nil)))))) rfl rfl rfl rfl rfl rfl ?_ | refine sk_no rfl rfl ?_))) <;> (refine sg (gq_vf rfl rfl) (fun he => ap_move (rq_p rfl rfl)) ?_) <;> (first | refine sk_no rfl rfl ?_ | refine sg_b (gq_vf rfl rfl) (fun he => ⟨(rq_p rfl rfl), (RqL.cons (rq_p rfl rfl) (RqL.cons (rq_c rfl rfl) (RqL.nil))), (by first | ((repeat' first | exact FzL.nil | refine FzL.cons ?_ ?_ | (exact Fz.list rfl rfl (fun _ => by simp [AV.bd, bdL, bdL_append]) (fun _ => rfl)) | (exact Fz.reflp (by simp [AV.bd, bdL, bdL_append]))); done) | fail), containsS_fn kws s, rfl⟩) ?_) <;> (first | refine su (ap_or (rq_p rfl rfl) (rq_c rfl rfl)) ?_ | refine pk_t rfl rfl ?_) <;> apply jW) | (refine WP.regionC (id := 3) ?_; (refine smove rfl ?_); (refine su (alenstr rfl rfl) ?_); (refine smove rfl ?_); apply jW) | refine ret_b rfl ?_))
  · rename_i h1
    rcases h1 with (h1 | h1) | h1
    · exact absurd h1 hne
    · simp [gnOk]; omega
    · exact (gnOk_no0 h1).symm
  · rcases hc with hc | hc
    · exact hc.elim
    · simp only [gnOk, hc, Bool.not_true, Bool.and_false]
  rename_i h1
  obtain ⟨⟨_, h24⟩, hl0⟩ := h1
  have hkw := hc.2
  refine wp_loop (fun (k : Nat) => k ≤ s.size ∧ (List.range k).all (gnCh s) = true) (fun k => s.size - k)
    (fun k => (S 52 [(0, strA s), (23, intA (s.size : Nat)), (24, intA (k : Nat))] 0 [])) 0 ⟨[], ToR.S rfl (by repeat' (first | exact rt_nil | refine rt_e rfl rfl ?_)) (by repeat' (exact ro_nil)) rfl (by (rw [hm]; exact rfl)) rfl (by (simp [bdT, AV.bd, bdL, bdL_append]; done)) (by repeat' (exact True.intro)) (by (rw [hm]; exact Nat.le_of_ble_eq_true rfl))⟩ ⟨Nat.zero_le _, rfl⟩ ?_
  rintro k ⟨hk, hall⟩
  have hb := bAt_bd s k
  (repeat' (first | apply jA | apply jF | apply jH | apply jI | apply jJ | apply jK | apply jL | apply jM | apply jN | apply jO | apply jP | apply jS | (refine wp_cond rfl (fun hc => ?_) (fun hc => ?_) <;> (try simp only [sB, ne_eq, reduceCtorEq] at hc) <;> (try (exfalso; omega))) | (refine WP.regionC (id := 4) ?_; (refine slss rfl rfl ?_); apply jW) | (refine WP.regionC (id := 5) ?_; (refine smove rfl ?_); (refine sassign rfl ?_); apply jW) | (refine WP.regionC (id := 6) ?_; (refine smove rfl ?_); (refine smove rfl ?_); (refine su (asidxn rfl rfl rfl (by omega)) ?_); (refine sc_p rfl rfl (by first | ((repeat' first | exact SubL.nil | refine SubL.cons ?_ ?_ | exact Sub.refl); done) | fail) (by first | (simp [bdL, bdL_append, AV.bd]; done) | fail) (letter_fn _) ?_); (refine su (anot rfl) ?_); (refine smove rfl ?_); (refine sg (gq_vt rfl rfl) (fun he => ap_move (rq_p rfl rfl)) ?_); (refine sg (gq_vt rfl rfl) (fun he => ap_move (rq_p rfl rfl)) ?_); (refine sg (gq_vt rfl rfl) (fun he => ap_sidx_n (rq_c rfl rfl) (rq_c rfl rfl) rfl (by (try simp only [sH, id, sB, ne_eq, reduceCtorEq] at he); omega)) ?_); (refine sg (gq_vt rfl rfl) (fun he => ap_geq (rq_c rfl rfl) (rq_p rfl rfl)) ?_); (refine sg (gq_vt rfl rfl) (fun he => ap_move (rq_c rfl rfl)) ?_); (refine sg (gq_ct rfl rfl) (fun he => ap_move (rq_p rfl rfl)) ?_); (refine sg (gq_ct rfl rfl) (fun he => ap_move (rq_p rfl rfl)) ?_); (refine sg (gq_ct rfl rfl) (fun he => ap_sidx_n (rq_c rfl rfl) (rq_c rfl rfl) rfl (by (try simp only [sH, id, sB, ne_eq, reduceCtorEq] at he); omega)) ?_); (refine sg (gq_ct rfl rfl) (fun he => ap_leq (rq_c rfl rfl) (rq_p rfl rfl)) ?_); (refine sg (gq_vt rfl rfl) (fun he => ap_and (rq_c rfl rfl) (rq_c rfl rfl)) ?_); (refine sg (gq_vt rfl rfl) (fun he => ap_not (rq_c rfl rfl)) ?_); (refine su (ap_and (rq_p rfl rfl) (rq_c rfl rfl)) ?_); (refine smove rfl ?_); (refine sg (gq_vt rfl rfl) (fun he => ap_move (rq_p rfl rfl)) ?_); (refine sg (gq_vt rfl rfl) (fun he => ap_move (rq_p rfl rfl)) ?_); (refine sg (gq_vt rfl rfl) (fun he => ap_sidx_n (rq_c rfl rfl) (rq_c rfl rfl) rfl (by (try simp only [sH, id, sB, ne_eq, reduceCtorEq] at he); omega)) ?_); (refine sg (gq_vt rfl rfl) (fun he => ap_neq (rq_c rfl rfl) (rq_p rfl rfl)) ?_); (refine su (ap_and (rq_p rfl rfl) (rq_c rfl rfl)) ?_); apply jW) | (refine WP.regionC ?_; (refine sassign rfl ?_); apply jW) | (refine WP.regionC (id := 8) ?_; (refine sadd rfl rfl (by exact inr_i64_of (by omega)) ?_); (refine smove rfl ?_); apply jW) | refine ret_b rfl ?_))
  · rw [show gnOk s = false by simp only [gnOk]; rw [range_all_no (k := k) (by omega), Bool.and_false, Bool.false_and]; simp [gnCh, hc]; simp [letB, digB]; omega]
  · refine ⟨k + 1, ⟨by omega, by omega, range_all_succ hall ?_⟩, ⟨[], ToR.S rfl (by repeat' (first | exact rt_nil | refine rt_e rfl rfl ?_)) (by repeat' (exact ro_nil)) rfl (by (rw [hm]; exact rfl)) rfl (by (simp [bdT, AV.bd, bdL, bdL_append]; done)) (by repeat' (exact True.intro)) (by (rw [hm]; exact Nat.le_of_ble_eq_true rfl))⟩⟩
    by_cases h0 : k = 0
    · subst h0; simp [gnCh, hl0]
    · simp only [gnCh, digB, h0, decide_false, Bool.not_false, Bool.true_and, Bool.or_eq_true, Bool.and_eq_true, decide_eq_true_eq]
      rcases hc with (hc | hc) | hc
      · exact .inl hc
      · exact .inr (.inl hc)
      · exact .inr (.inr hc)
  have : k = s.size := by omega
  subst this
  simp only [gnOk, hall, hkw]; simp; omega
end Go.Lg

namespace Go.Lg
open Go.Proofs
set_option linter.unusedSimpArgs false
set_option linter.unusedVariables false
attribute [local irreducible] Ap Rq asemC WP RunD Ret Gq thenA inBlockA bodyQ noGotoA RqL RqP OpP
set_option maxHeartbeats 4000000
@[simp] theorem bdL_strM (n : Nat) (l : List ByteArray) : bdL n (l.map strA) = true := bdL_map (fun _ => rfl) l
@[simp] theorem bdL_strT (n k : Nat) (l : List ByteArray) : bdL n ((l.map strA).take k) = true := by rw [← List.map_take]; exact bdL_strM n _
def okK (k : Int) (n : ByteArray) (m : Nat) : Bool :=
  decide (k = 1) && gnOk n && decide (m = 0) || !decide (k = 1) && decide (n = ⟨#[]⟩) &&
    (decide (k = 2) && !decide (m = 1) || decide (k = 3) && decide (2 ≤ m) || (decide (k = 4) || decide (k = 5) || decide (k = 6)) && decide (m = 1))
mutual
def okE : GEx → Int → Bool
  | .mk k n l, d => decide (1 ≤ d) && okK k n l.length && okEL l (d - 1)
def okEL : List GEx → Int → Bool
  | [], _ => true
  | e :: l, d => okE e d && okEL l d
end
theorem okEL_all : ∀ (l : List GEx) (d : Int), okEL l d = l.all fun e => okE e d
  | [], d => by rw [okEL]; rfl
  | e :: l, d => by rw [okEL, okEL_all l d]; rfl
theorem okE_eq (e : GEx) (d : Int) : okE e d = (decide (1 ≤ d) && okK e.kind e.name e.kids.length && e.kids.all fun k => okE k (d - 1)) := by
  cases e; rw [okE, okEL_all]; rfl
def exprsA (l : List GEx) : AV := .sl 3 (l.map exprA)
theorem kids_exprsA (e : GEx) : AV.sl 3 (kidsL e) = exprsA e.kids := by rw [exprsA, kidsL_map]
@[simp] theorem bd_exprsA (n : Nat) (l : List GEx) : (exprsA l).bd n = true := bdL_exprs n l
theorem indexFuncE_fn (l : List GEx) (g : FuncId) (cap : List AV) (p : GEx → Bool) (hcap : ∀ n, bdL n cap = true) (h : ∀ x, x ∈ l → Fn Tryd.prog g (exprA x :: cap) (boolA (p x))) :
    Fn Tryd.prog 73 [exprsA l, .clo (.func g) [] cap] (intA (indexP p l)) := by
  refine Fn.intro rfl (by kernel_rfl) Tryd.func73 rfl rfl Tryd.ntmps73 (by exact Nat.le_of_ble_eq_true rfl) ?_; intro Γ hm
  refine wp_lens 0 rfl fun h0 => ?_
  have h0 : l.length ≤ 9223372036854775807 := by simpa [exprsA] using h0.1
  (repeat' (first | apply jA | apply jF | apply jH | (refine WP.regionC (id := 0) ?_; (refine sassign rfl ?_); apply jW) | (refine WP.regionC (id := 1) ?_; (refine smove rfl ?_); (refine slenm rfl rfl ?_); (refine smove rfl ?_); apply jW)))
  refine wp_loop (fun k => k ≤ l.length ∧ (l.take k).any p = false) (fun k => l.length - k) (fun k => (S 19 [(0, exprsA l), (1, .clo (.func g) [] cap), (7, intA (l.length : Nat)), (8, intA (k : Nat))] 0 [])) 0 ⟨[], ToR.S rfl (by repeat' (first | exact rt_nil | refine rt_e rfl rfl ?_ | refine rt_p rfl rfl (by first | (simp [AV.bd, bdL, bdL_append]; done) | (simp [AV.bd, bdL, bdL_append, *]; done) | fail) ?_)) (by repeat' (exact ro_nil)) rfl (by (rw [hm]; exact rfl)) rfl (by simp [bdT, AV.bd, bdL, bdL_append, *]) (by repeat' (exact True.intro)) (by (rw [hm]; exact Nat.le_of_ble_eq_true rfl))⟩ ⟨Nat.zero_le _, rfl⟩ ?_
  rintro k ⟨hk, hall⟩
  (repeat' (first | apply jA | apply jF | apply jH | apply jI | apply jJ | apply jK | apply jL | apply jM | apply jN | apply jO | apply jP | apply jS | (refine wp_cond rfl (fun hc => ?_) (fun hc => ?_) <;> (try simp only [sB, ne_eq, reduceCtorEq] at hc) <;> (try (exfalso; omega))) | (refine WP.regionC (id := 2) ?_; (refine slss rfl rfl ?_); apply jW) | (refine WP.regionC ?_; (refine smove rfl ?_); (refine sassign rfl ?_); apply jW) | (refine WP.regionC (id := 4) ?_; (refine smove rfl ?_); (refine smove rfl ?_); (refine smove rfl ?_); (refine sidxn rfl rfl (by omega) ?_); (refine sloadw rfl rfl ?_); (refine sc_p rfl rfl (by first | ((repeat' first | refine SubL.cons ?_ ?_ | exact SubL.rfl | exact Sub.refl); done) | fail) (by first | (simp [bdL, bdL_append, AV.bd, *]; done) | fail) (h _ (nth_mem (by omega))) ?_); apply jW) | (refine WP.regionC (id := 6) ?_; (refine sadd rfl rfl (by exact inr_i64_of (by omega)) ?_); (refine smove rfl ?_); apply jW) | (refine WP.regionC (id := 7) ?_; (refine sassign rfl ?_); apply jW) | refine ret_i rfl ?_))
  · exact (indexP_at (by omega) hall hc).symm
  · exact ⟨k + 1, ⟨by omega, by omega, take_any_succ (by omega) hall hc⟩, ⟨[], ToR.S rfl (by repeat' (first | exact rt_nil | refine rt_e rfl rfl ?_ | refine rt_p rfl rfl (by first | (simp [AV.bd, bdL, bdL_append]; done) | (simp [AV.bd, bdL, bdL_append, *]; done) | fail) ?_)) (by repeat' (exact ro_nil)) rfl (by (rw [hm]; exact rfl)) rfl (by simp [bdT, AV.bd, bdL, bdL_append, *]) (by repeat' (exact True.intro)) (by (rw [hm]; exact Nat.le_of_ble_eq_true rfl))⟩⟩
  · exact (indexP_no (by omega) hall).symm
theorem containsFuncE_fn (l : List GEx) (g : FuncId) (cap : List AV) (p : GEx → Bool) (hcap : ∀ n, bdL n cap = true) (h : ∀ x, x ∈ l → Fn Tryd.prog g (exprA x :: cap) (boolA (p x))) :
    Fn Tryd.prog 67 [exprsA l, .clo (.func g) [] cap] (boolA (l.any p)) := by
  refine Fn.intro rfl (by kernel_rfl) Tryd.func67 rfl rfl Tryd.ntmps67 (by exact Nat.le_of_ble_eq_true rfl) ?_; intro Γ hm
  (repeat' (first | apply jA | apply jH | apply jK | apply jS | (refine WP.regionC (id := 0) ?_; (refine sassign rfl ?_); apply jW) | (refine WP.regionC (id := 1) ?_; (refine smove rfl ?_); (refine smove rfl ?_); (refine sc_p rfl rfl (by first | ((repeat' first | exact SubL.nil | refine SubL.cons ?_ ?_ | exact Sub.refl); done) | fail) (by first | (simp [bdL, bdL_append, AV.bd, *]; done) | fail) (indexFuncE_fn _ _ _ p hcap h) ?_); (refine su (ageq rfl rfl) ?_); (refine sassign rfl ?_); apply jW) | refine ret_b rfl ?_))
  exact indexP_any
theorem indexFuncA_fn (l : List GAl) (g : FuncId) (cap : List AV) (p : GAl → Bool) (hcap : ∀ n, bdL n cap = true) (h : ∀ x, x ∈ l → Fn Tryd.prog g (altA x :: cap) (boolA (p x))) :
    Fn Tryd.prog 66 [altsA l, .clo (.func g) [] cap] (intA (indexP p l)) := by
  refine Fn.intro rfl (by kernel_rfl) Tryd.func66 rfl rfl Tryd.ntmps66 (by exact Nat.le_of_ble_eq_true rfl) ?_; intro Γ hm
  refine wp_lens 0 rfl fun h0 => ?_
  have h0 : l.length ≤ 9223372036854775807 := by simpa [altsA] using h0.1
  (repeat' (first | apply jA | apply jF | apply jH | (refine WP.regionC (id := 0) ?_; (refine sassign rfl ?_); apply jW) | (refine WP.regionC (id := 1) ?_; (refine smove rfl ?_); (refine slenm rfl rfl ?_); (refine smove rfl ?_); apply jW)))
  refine wp_loop (fun k => k ≤ l.length ∧ (l.take k).any p = false) (fun k => l.length - k) (fun k => (S 19 [(0, altsA l), (1, .clo (.func g) [] cap), (7, intA (l.length : Nat)), (8, intA (k : Nat))] 0 [])) 0 ⟨[], ToR.S rfl (by repeat' (first | exact rt_nil | refine rt_e rfl rfl ?_ | refine rt_p rfl rfl (by first | (simp [AV.bd, bdL, bdL_append]; done) | (simp [AV.bd, bdL, bdL_append, *]; done) | fail) ?_)) (by repeat' (exact ro_nil)) rfl (by (rw [hm]; exact rfl)) rfl (by simp [bdT, AV.bd, bdL, bdL_append, *]) (by repeat' (exact True.intro)) (by (rw [hm]; exact Nat.le_of_ble_eq_true rfl))⟩ ⟨Nat.zero_le _, rfl⟩ ?_
  rintro k ⟨hk, hall⟩
  (repeat' (first | apply jA | apply jF | apply jH | apply jI | apply jJ | apply jK | apply jL | apply jM | apply jN | apply jO | apply jP | apply jS | (refine wp_cond rfl (fun hc => ?_) (fun hc => ?_) <;> (try simp only [sB, ne_eq, reduceCtorEq] at hc) <;> (try (exfalso; omega))) | (refine WP.regionC (id := 2) ?_; (refine slss rfl rfl ?_); apply jW) | (refine WP.regionC ?_; (refine smove rfl ?_); (refine sassign rfl ?_); apply jW) | (refine WP.regionC (id := 4) ?_; (refine smove rfl ?_); (refine smove rfl ?_); (refine smove rfl ?_); (refine sidxn rfl rfl (by omega) ?_); (refine sloadw rfl rfl ?_); (refine sc_p rfl rfl (by first | ((repeat' first | refine SubL.cons ?_ ?_ | exact SubL.rfl | exact Sub.refl); done) | fail) (by first | (simp [bdL, bdL_append, AV.bd, *]; done) | fail) (h _ (nth_mem (by omega))) ?_); apply jW) | (refine WP.regionC (id := 6) ?_; (refine sadd rfl rfl (by exact inr_i64_of (by omega)) ?_); (refine smove rfl ?_); apply jW) | (refine WP.regionC (id := 7) ?_; (refine sassign rfl ?_); apply jW) | refine ret_i rfl ?_))
  · exact (indexP_at (by omega) hall hc).symm
  · exact ⟨k + 1, ⟨by omega, by omega, take_any_succ (by omega) hall hc⟩, ⟨[], ToR.S rfl (by repeat' (first | exact rt_nil | refine rt_e rfl rfl ?_ | refine rt_p rfl rfl (by first | (simp [AV.bd, bdL, bdL_append]; done) | (simp [AV.bd, bdL, bdL_append, *]; done) | fail) ?_)) (by repeat' (exact ro_nil)) rfl (by (rw [hm]; exact rfl)) rfl (by simp [bdT, AV.bd, bdL, bdL_append, *]) (by repeat' (exact True.intro)) (by (rw [hm]; exact Nat.le_of_ble_eq_true rfl))⟩⟩
  · exact (indexP_no (by omega) hall).symm
theorem containsFuncA_fn (l : List GAl) (g : FuncId) (cap : List AV) (p : GAl → Bool) (hcap : ∀ n, bdL n cap = true) (h : ∀ x, x ∈ l → Fn Tryd.prog g (altA x :: cap) (boolA (p x))) :
    Fn Tryd.prog 57 [altsA l, .clo (.func g) [] cap] (boolA (l.any p)) := by
  refine Fn.intro rfl (by kernel_rfl) Tryd.func57 rfl rfl Tryd.ntmps57 (by exact Nat.le_of_ble_eq_true rfl) ?_; intro Γ hm
  (repeat' (first | apply jA | apply jH | apply jK | apply jS | (refine WP.regionC (id := 0) ?_; (refine sassign rfl ?_); apply jW) | (refine WP.regionC (id := 1) ?_; (refine smove rfl ?_); (refine smove rfl ?_); (refine sc_p rfl rfl (by first | ((repeat' first | exact SubL.nil | refine SubL.cons ?_ ?_ | exact Sub.refl); done) | fail) (by first | (simp [bdL, bdL_append, AV.bd, *]; done) | fail) (indexFuncA_fn _ _ _ p hcap h) ?_); (refine su (ageq rfl rfl) ?_); (refine sassign rfl ?_); apply jW) | refine ret_b rfl ?_))
  exact indexP_any
theorem expr1_fn (k : GEx) (d : Int) (h1 : 1 ≤ d) (h2 : d ≤ 1000) (h : Fn Tryd.prog 59 [exprA k, intA (d - 1)] (boolA (okE k (d - 1)))) : Fn Tryd.prog 68 [exprA k, .iptr [intA d] 0] (boolA (!okE k (d - 1))) := by
  refine Fn.intro rfl (by kernel_rfl) Tryd.func68 rfl rfl Tryd.ntmps68 (by exact Nat.le_of_ble_eq_true rfl) ?_; intro Γ hm
  (repeat' (first | apply jA | apply jH | apply jK | apply jS | (refine WP.regionC (id := 0) ?_; (refine se_box rfl (by exact ⟨rfl, rfl⟩) ?_); (refine sassign rfl ?_); apply jW) | (refine WP.regionC (id := 1) ?_; (refine sloadpw rfl rfl rfl rfl ?_); (refine su (aloadi rfl rfl) ?_); (refine su (asub rfl rfl (by exact inr_i64_of (by omega))) ?_); (refine sc_p rfl rfl (by first | ((repeat' first | exact SubL.nil | refine SubL.cons ?_ ?_ | exact Sub.refl); done) | fail) (by first | (simp [bdL, bdL_append, AV.bd]; done) | fail) (h) ?_); (refine su (anot rfl) ?_); (refine sassign rfl ?_); apply jW) | exact ret_eq rfl rfl rfl))
theorem any_not_all {α : Type} (p : α → Bool) (l : List α) : l.any (fun x => !p x) = !l.all p := by
  induction l with
  | nil => rfl
  | cons x l ih => simp only [List.any_cons, List.all_cons, ih, Bool.not_and]
theorem expr_fn (e : GEx) : ∀ d : Int, 0 ≤ d → d ≤ 1000 → Fn Tryd.prog 59 [exprA e, intA d] (boolA (okE e d)) := by
  induction e using GEx.ind with
  | h e ih =>
    intro d h0 h1
    rw [okE_eq, exprA, kids_exprsA]
    generalize hkd : e.kids = kids at *
    generalize e.kind = kk
    generalize e.name = nm
    clear hkd e
    by_cases hd : d < 1
    · refine Fn.intro rfl (by kernel_rfl) Tryd.func59 rfl rfl Tryd.ntmps59 (by exact Nat.le_of_ble_eq_true rfl) ?_; intro Γ hm
      (repeat' (first | apply jA | apply jH | apply jK | apply jM | apply jS | (refine wp_cond rfl (fun hc => ?_) (fun hc => ?_) <;> (try simp only [sB, ne_eq, reduceCtorEq] at hc) <;> (try (exfalso; omega))) | (refine WP.regionC (id := 0) ?_; (refine se_box rfl (by exact ⟨rfl, rfl⟩) ?_); (refine se_box rfl (by exact ⟨rfl, rfl⟩) ?_); (refine sassign rfl ?_); apply jW) | (refine WP.regionC (id := 1) ?_; (refine sloadpw rfl rfl rfl rfl ?_); (refine slss rfl rfl ?_); (refine smove rfl ?_); (refine sg (gq_vf rfl rfl) (fun he => ap_field_p (rq_p rfl rfl) rfl rfl) ?_); (refine sg (gq_vf rfl rfl) (fun he => ap_load_p (rq_c rfl rfl) rfl rfl rfl) ?_); (refine sg (gq_vf rfl rfl) (fun he => ap_neq (rq_c rfl rfl) (rq_p rfl rfl)) ?_); (refine sg (gq_vf rfl rfl) (fun he => ap_move (rq_c rfl rfl)) ?_); (refine sg (gq_ct rfl rfl) (fun he => ap_field_p (rq_p rfl rfl) rfl rfl) ?_); (refine sg (gq_ct rfl rfl) (fun he => ap_load_p (rq_c rfl rfl) rfl rfl rfl) ?_); (refine sg (gq_ct rfl rfl) (fun he => ap_nes (rq_c rfl rfl) (rq_p rfl rfl)) ?_); (refine sg (gq_vf rfl rfl) (fun he => ap_and (rq_c rfl rfl) (rq_c rfl rfl)) ?_); (refine su (ap_or (rq_p rfl rfl) (rq_c rfl rfl)) ?_); apply jW) | (refine WP.regionC (id := 2) ?_; (refine sassign rfl ?_); apply jW) | refine ret_b rfl ?_))
      rw [decide_eq_false (show ¬ 1 ≤ d by omega)]; rfl
    have hd1 : decide (1 ≤ d) = true := by simp; omega
    have c1 : decide ((kids.length : Int) = 1) = decide (kids.length = 1) := by rw [Bool.eq_iff_iff]; simp; omega
    have c2 : decide (2 ≤ (kids.length : Int)) = decide (2 ≤ kids.length) := by rw [Bool.eq_iff_iff]; simp; omega
    have hB := containsFuncE_fn kids 68 [.iptr [intA d] 0] (fun x => !okE x (d - 1)) (fun n => by simp [bdL, AV.bd, AV.cells]) (fun x hx => expr1_fn x d (by omega) h1 (ih x hx (d - 1) (by omega) (by omega)))
    refine Fn.intro rfl (by kernel_rfl) Tryd.func59 rfl rfl Tryd.ntmps59 (by exact Nat.le_of_ble_eq_true rfl) ?_; intro Γ hm
    (repeat' (first | apply jA | apply jF | apply jH | apply jI | apply jK | apply jM | apply jN | apply jS | (refine wp_cond rfl (fun hc => ?_) (fun hc => ?_) <;> (try simp only [sB, ne_eq, reduceCtorEq] at hc) <;> (try (exfalso; omega))) | (refine WP.regionC (id := 0) ?_; (refine se_box rfl (by exact ⟨rfl, rfl⟩) ?_); (refine se_box rfl (by exact ⟨rfl, rfl⟩) ?_); (refine sassign rfl ?_); apply jW) | (refine WP.regionC (id := 1) ?_; (refine sloadpw rfl rfl rfl rfl ?_); (refine slss rfl rfl ?_); (refine smove rfl ?_); (refine sg (gq_vf rfl rfl) (fun he => ap_field_p (rq_p rfl rfl) rfl rfl) ?_); (refine sg (gq_vf rfl rfl) (fun he => ap_load_p (rq_c rfl rfl) rfl rfl rfl) ?_); (refine sg (gq_vf rfl rfl) (fun he => ap_neq (rq_c rfl rfl) (rq_p rfl rfl)) ?_); (refine sg (gq_vf rfl rfl) (fun he => ap_move (rq_c rfl rfl)) ?_); (refine sg (gq_ct rfl rfl) (fun he => ap_field_p (rq_p rfl rfl) rfl rfl) ?_); (refine sg (gq_ct rfl rfl) (fun he => ap_load_p (rq_c rfl rfl) rfl rfl rfl) ?_); (refine sg (gq_ct rfl rfl) (fun he => ap_nes (rq_c rfl rfl) (rq_p rfl rfl)) ?_); (refine sg (gq_vf rfl rfl) (fun he => ap_and (rq_c rfl rfl) (rq_c rfl rfl)) ?_); (refine su (ap_or (rq_p rfl rfl) (rq_c rfl rfl)) ?_); apply jW) | (refine WP.regionC (id := 2) ?_; (refine sassign rfl ?_); apply jW) | (refine WP.regionC (id := 3) ?_; (refine sfieldp rfl rfl rfl ?_); (refine sloadp rfl rfl rfl rfl ?_); (refine slenm rfl rfl ?_); (refine sassign rfl ?_); (refine sassign rfl ?_); apply jW) | (refine WP.regionC (id := 4) ?_; (refine sfieldp rfl rfl rfl ?_); (refine sloadp rfl rfl rfl rfl ?_); apply jW) | (refine WP.regionC ?_; (refine seql rfl rfl ?_); (refine sassign rfl ?_); apply jW) | (refine WP.regionC (id := 6) ?_; (refine sfieldp rfl rfl rfl ?_); (refine sloadp rfl rfl rfl rfl ?_); (refine sc_p rfl rfl (by first | ((repeat' first | exact SubL.nil | refine SubL.cons ?_ ?_ | exact Sub.refl); done) | fail) (by first | (simp [bdL, bdL_append, AV.bd]; done) | fail) (name_fn _) ?_); (refine smove rfl ?_); (refine sg (gq_vt rfl rfl) (fun he => ap_move (rq_p rfl rfl)) ?_); (refine sg (gq_vt rfl rfl) (fun he => ap_eql (rq_c rfl rfl) (rq_p rfl rfl)) ?_); (refine su (ap_and (rq_p rfl rfl) (rq_c rfl rfl)) ?_); (refine sassign rfl ?_); apply jW) | (refine WP.regionC (id := 8) ?_; (refine smove rfl ?_); (refine su (aneq rfl rfl) ?_); (refine sassign rfl ?_); apply jW) | (refine WP.regionC (id := 10) ?_; (refine smove rfl ?_); (refine su (ageq rfl rfl) ?_); (refine sassign rfl ?_); apply jW) | (refine WP.regionC (id := 14) ?_; (refine smove rfl ?_); (refine seql rfl rfl ?_); (refine sassign rfl ?_); apply jW) | (refine WP.regionC (id := 15) ?_; (refine smove rfl ?_); (refine smove rfl ?_); (refine sg (gq_vt rfl rfl) (fun he => ap_field_p (rq_p rfl rfl) rfl rfl) ?_); (refine sg (gq_vt rfl rfl) (fun he => ap_load_p (rq_c rfl rfl) rfl rfl rfl) ?_); (refine sg (gq_vt rfl rfl) (fun he => ap_clo (RqL.nil) (RqL.cons (rq_p rfl rfl) (RqL.nil))) ?_); (first | refine sk_no rfl rfl ?_ | refine sg_b (gq_vt rfl rfl) (fun he => ⟨(rq_p rfl rfl), (RqL.cons (rq_c rfl rfl) (RqL.cons (rq_c rfl rfl) (RqL.nil))), (by first | ((repeat' first | exact FzL.nil | refine FzL.cons ?_ ?_ | (exact Fz.reflp (by simp [AV.bd, bdL, bdL_append])) | refine Fz.ptrL rfl rfl ?_ | refine Fz.cloL ?_ ?_); done) | fail), hB, rfl⟩) ?_); (first | refine sg (gq_vt rfl rfl) (fun he => ap_not (rq_c rfl rfl)) ?_ | refine sk_no rfl rfl ?_); (first | refine su (ap_and (rq_p rfl rfl) (rq_c rfl rfl)) ?_ | refine pk_f rfl rfl ?_); (refine sassign rfl ?_); apply jW) | refine ret_b rfl ?_))
    · rcases hc with hc | hc
      · omega
      · simp [okK, hc.1, hc.2]
    · rw [any_not_all, Bool.not_not]; subst hc; simp [okK, hd1]
    · rw [any_not_all, Bool.not_not]; simp only [c1, c2]; clear c1 c2 hB ih; simp_all [okK]
    · rw [any_not_all, Bool.not_not]; simp only [c1, c2]; clear c1 c2 hB ih; simp_all [okK]
    · rw [any_not_all, Bool.not_not]; simp only [c1, c2]; clear c1 c2 hB ih; simp_all [okK]
    · rw [any_not_all, Bool.not_not]; simp only [c1, c2]; clear c1 c2 hB ih; simp_all [okK]
    · rw [any_not_all, Bool.not_not]; simp only [c1, c2]; clear c1 c2 hB ih; simp_all [okK]
    · simp [okK, *]
def altOk (a : GAl) : Bool := decide (0 ≤ a.price) && decide (a.price ≤ 1000) && okE a.body 30
theorem rule1_fn (a : GAl) : Fn Tryd.prog 58 [altA a] (boolA (!altOk a)) := by
  unfold altA
  refine Fn.intro rfl (by kernel_rfl) Tryd.func58 rfl rfl Tryd.ntmps58 (by exact Nat.le_of_ble_eq_true rfl) ?_; intro Γ hm
  (repeat' (first | apply jA | apply jH | apply jK | apply jS | (refine WP.regionC (id := 0) ?_; (refine se_box rfl (by exact ⟨rfl, rfl⟩) ?_); (refine sassign rfl ?_); apply jW) | (refine WP.regionC (id := 1) ?_; (refine sfieldp rfl rfl rfl ?_); (refine sloadp rfl rfl rfl rfl ?_); (refine slss rfl rfl ?_); (refine smove rfl ?_); (refine sg (gq_vf rfl rfl) (fun he => ap_field_p (rq_p rfl rfl) rfl rfl) ?_); (refine sg (gq_vf rfl rfl) (fun he => ap_load_p (rq_c rfl rfl) rfl rfl rfl) ?_); (refine sg (gq_vf rfl rfl) (fun he => ap_gtr (rq_c rfl rfl) (rq_p rfl rfl)) ?_); (refine su (ap_or (rq_p rfl rfl) (rq_c rfl rfl)) ?_); (refine smove rfl ?_); (refine sg (gq_vf rfl rfl) (fun he => ap_field_p (rq_p rfl rfl) rfl rfl) ?_); (refine sg (gq_vf rfl rfl) (fun he => ap_load_p (rq_c rfl rfl) rfl rfl rfl) ?_); (refine sg_p (gq_vf rfl rfl) (fun he => ⟨(rq_p rfl rfl), (RqL.cons (rq_c rfl rfl) (RqL.cons (rq_p rfl rfl) (RqL.nil))), (by first | ((repeat' first | exact SubL.nil | refine SubL.cons ?_ ?_ | exact Sub.refl); done) | fail), (by first | (simp [bdL, bdL_append, AV.bd, AV.cells]; done) | fail), expr_fn a.body 30 (by decide) (by decide)⟩) ?_); (refine sg (gq_vf rfl rfl) (fun he => ap_not (rq_c rfl rfl)) ?_); (refine su (ap_or (rq_p rfl rfl) (rq_c rfl rfl)) ?_); (refine sassign rfl ?_); apply jW) | refine ret_b rfl ?_))
  simp only [altOk]; rw [Bool.eq_iff_iff]; simp
def gruleOk (r : GRu) : Bool := !decide (r.alts = []) && r.alts.all altOk
theorem rule_fn (r : GRu) : Fn Tryd.prog 41 [gruleA r] (boolA (gruleOk r)) := by
  refine Fn.intro rfl (by kernel_rfl) Tryd.func41 rfl rfl Tryd.ntmps41 (by exact Nat.le_of_ble_eq_true rfl) ?_; intro Γ hm
  (repeat' (first | apply jA | apply jH | apply jK | apply jS | (refine WP.regionC (id := 0) ?_; (refine se_box rfl (by exact ⟨rfl, rfl⟩) ?_); (refine sassign rfl ?_); apply jW) | (refine WP.regionC (id := 1) ?_; (refine sfieldp rfl rfl rfl ?_); (refine sloadp rfl rfl rfl rfl ?_); (refine slenm rfl rfl ?_); (refine su (agtr rfl rfl) ?_); (refine smove rfl ?_); (refine sg (gq_vt rfl rfl) (fun he => ap_field_p (rq_p rfl rfl) rfl rfl) ?_); (refine sg (gq_vt rfl rfl) (fun he => ap_load_p (rq_c rfl rfl) rfl rfl rfl) ?_); (refine sg_p (gq_vt rfl rfl) (fun he => ⟨(rq_p rfl rfl), (RqL.cons (rq_c rfl rfl) (RqL.cons (rq_p rfl rfl) (RqL.nil))), (by first | ((repeat' first | exact SubL.nil | refine SubL.cons ?_ ?_ | exact Sub.refl); done) | fail), (by first | (simp [bdL, bdL_append, AV.bd]; done) | fail), containsFuncA_fn r.alts 58 [] (fun x => !altOk x) (fun n => rfl) (fun x hx => rule1_fn x)⟩) ?_); (refine sg (gq_vt rfl rfl) (fun he => ap_not (rq_c rfl rfl)) ?_); (refine su (ap_and (rq_p rfl rfl) (rq_c rfl rfl)) ?_); (refine sassign rfl ?_); apply jW) | refine ret_b rfl ?_))
  rw [any_not_all, Bool.not_not]
  simp only [gruleOk]; rw [Bool.eq_iff_iff]; simp [List.length_pos_iff]
def distOk (l : List ByteArray) : Bool := l.all gnOk && decide l.Nodup
theorem distinct_fn (l : List ByteArray) (hl : l.length ≤ 9223372036854775807) : Fn Tryd.prog 42 [strsA l] (boolA (distOk l)) := by
  refine Fn.intro rfl (by kernel_rfl) Tryd.func42 rfl rfl Tryd.ntmps42 (by exact Nat.le_of_ble_eq_true rfl) ?_; intro Γ hm
  (repeat' (first | apply jA | apply jF | apply jH | (refine WP.regionC (id := 0) ?_; (refine sassign rfl ?_); apply jW) | (refine WP.regionC (id := 1) ?_; (refine smove rfl ?_); (refine slenm rfl rfl ?_); (refine smove rfl ?_); apply jW)))
  refine wp_loop (fun k => k ≤ l.length ∧ ∀ j, j < k → gnOk (nth l j) = true ∧ ∀ i, i < j → nth l i ≠ nth l j) (fun k => l.length - k) (fun k => (S 23 [(0, strsA l), (5, strsA l), (6, intA (l.length : Nat)), (7, intA (k : Nat))] 0 [])) 0 ⟨[], ToR.S rfl (by repeat' (first | exact rt_nil | refine rt_e rfl rfl ?_ | refine rt_p rfl rfl (by first | (simp [AV.bd, bdL, bdL_append]; done) | fail) ?_)) (by repeat' (exact ro_nil)) rfl (by (rw [hm]; exact rfl)) rfl (by (simp [bdT, AV.bd, bdL, bdL_append]; done)) (by repeat' (exact True.intro)) (by (rw [hm]; exact Nat.le_of_ble_eq_true rfl))⟩ ⟨Nat.zero_le _, by simp⟩ ?_
  rintro k ⟨hk, hall⟩
  (repeat' (first | apply jA | apply jF | apply jH | apply jI | apply jJ | apply jK | apply jL | apply jM | apply jN | apply jO | apply jP | apply jS | (refine wp_cond rfl (fun hc => ?_) (fun hc => ?_) <;> (try simp only [sB, ne_eq, reduceCtorEq] at hc) <;> (try (exfalso; omega))) | (refine WP.regionC (id := 2) ?_; (refine slss rfl rfl ?_); apply jW) | (refine WP.regionC (id := 3) ?_; (refine smove rfl ?_); (refine sidxn rfl rfl (by omega) ?_); (refine sloadw rfl rfl ?_); (refine sassign rfl ?_); (refine sassign rfl ?_); apply jW) | (refine WP.regionC (id := 4) ?_; (refine smove rfl ?_); (refine sc_p rfl rfl (by first | ((repeat' first | exact SubL.nil | refine SubL.cons ?_ ?_ | exact Sub.refl); done) | fail) (by first | (simp [bdL, bdL_append, AV.bd]; done) | fail) (name_fn _) ?_); (refine su (anot rfl) ?_); (refine smove rfl ?_); (refine sg (gq_vf rfl rfl) (fun he => ap_move (rq_p rfl rfl)) ?_); (refine sg (gq_vf rfl rfl) (fun he => ap_move (rq_p rfl rfl)) ?_); (refine sg (gq_vf rfl rfl) (fun he => ap_slice_m (rq_c rfl rfl) (by exact bq_none) (by exact bq_some (rq_c rfl rfl)) (by (try simp only [sH, id, sB, ne_eq, reduceCtorEq] at he); omega)) ?_); (refine sg (gq_vf rfl rfl) (fun he => ap_move (rq_p rfl rfl)) ?_); (refine sg_p (gq_vf rfl rfl) (fun he => ⟨(rq_p rfl rfl), (RqL.cons (rq_c rfl rfl) (RqL.cons (rq_c rfl rfl) (RqL.nil))), (by first | ((repeat' first | exact SubL.nil | refine SubL.cons ?_ ?_ | exact Sub.refl); done) | fail), (by first | (simp [bdL, bdL_append, AV.bd]; done) | fail), containsS_fn ((l.take (k : Int).toNat).drop (0 : Int).toNat) (nth l k)⟩) ?_); (refine su (ap_or (rq_p rfl rfl) (rq_c rfl rfl)) ?_); apply jW) | (refine WP.regionC ?_; (refine sassign rfl ?_); apply jW) | (refine WP.regionC (id := 6) ?_; (refine sadd rfl rfl (by exact inr_i64_of (by omega)) ?_); (refine smove rfl ?_); apply jW) | refine ret_b rfl ?_))
  · rcases hc with hc | hc
    · rw [show distOk l = false by simp only [distOk, all_nth_no (l := l) (k := k) (by omega) hc, Bool.false_and]]
    · rw [List.any_eq_true] at hc
      obtain ⟨y, hy, he⟩ := hc
      simp only [Int.toNat_natCast, Int.toNat_zero, List.drop_zero, decide_eq_true_eq] at hy he
      obtain ⟨i, hi, rfl⟩ := List.mem_take_iff_getElem.1 hy
      rw [show distOk l = false by simp only [distOk, decide_eq_false (not_nodup (l := l) (j := k) (k := i) (by omega) (by omega) (by rw [nth_eq (by omega)]; exact he.symm)), Bool.and_false]]
  · refine ⟨k + 1, ⟨by omega, by omega, fun j hj => ?_⟩, ⟨[], ToR.S rfl (by repeat' (first | exact rt_nil | refine rt_e rfl rfl ?_ | refine rt_p rfl rfl (by first | (simp [AV.bd, bdL, bdL_append]; done) | fail) ?_)) (by repeat' (exact ro_nil)) rfl (by (rw [hm]; exact rfl)) rfl (by (simp [bdT, AV.bd, bdL, bdL_append]; done)) (by repeat' (exact True.intro)) (by (rw [hm]; exact Nat.le_of_ble_eq_true rfl))⟩⟩
    by_cases h : j = k
    · subst h
      refine ⟨hc.1, fun i hi e => ?_⟩
      have h2 := hc.2
      rw [List.any_eq_false] at h2
      refine h2 (nth l i) ?_ (by simp [e])
      simp only [Int.toNat_natCast, Int.toNat_zero, List.drop_zero]
      rw [nth_eq (by omega)]
      exact List.mem_take_iff_getElem.2 ⟨i, by omega, rfl⟩
    · exact hall j (by omega)
  have : k = l.length := by omega
  subst this
  simp only [distOk, all_of_nth fun j hj => (hall j hj).1, decide_eq_true (nodup_nth fun j hj => (hall j hj).2), Bool.and_true]
end Go.Lg

namespace Go.Lg
open Go.Proofs
set_option linter.unusedSimpArgs false
set_option linter.unusedVariables false
attribute [local irreducible] Ap Rq asemC WP RunD Ret Gq thenA inBlockA bodyQ noGotoA RqL RqP OpP
set_option maxHeartbeats 4000000
theorem rexpr_fn (e : GEx) (he : e.fit) : ∀ d : Int, 0 ≤ d → d ≤ 1000 → Fn Tryd.prog 52 [exprA e, intA d] (boolA (okE e d)) := by
  induction e using GEx.ind with
  | h e ih =>
    intro d h0 h1
    obtain ⟨hnm, hks⟩ := GEx.fit_iff.1 he
    rw [okE_eq, exprA, kids_exprsA]
    generalize hkd : e.kids = kids at *
    generalize e.kind = kk
    generalize hn : e.name = nm at *
    clear hkd hn he e
    unfold SzOk at hnm
    have ih' := fun x hx => ih x hx (hks x hx)
    have ig : ∀ x, x ∈ kids → ∀ d, 0 ≤ d → d ≤ 1000 → Fn Tryd.prog 52 [exprA x, intA d] (boolA (okE x d)) := ih'
    clear ih ih' hks
    have hgn : gnOk nm = true → ¬ nm = ⟨#[]⟩ := by rintro h rfl; exact absurd h (by decide)
    refine Fn.intro rfl (by kernel_rfl) Tryd.func52 rfl rfl Tryd.ntmps52 (by exact Nat.le_of_ble_eq_true rfl) ?_; intro Γ hm
    refine wp_lens 0 rfl fun hl => ?_
    have hl : kids.length ≤ 9223372036854775807 := by have := hl; simp [AV.lens, lensL, exprsA] at this; omega
    have hk8 : kk ≤ 0 ∨ 7 ≤ kk ∨ kk = 1 ∨ kk = 2 ∨ kk = 3 ∨ kk = 4 ∨ kk = 5 ∨ kk = 6 := by omega
    by_cases hok : d < 1 ∨ okK kk nm kids.length = false
    · have e1 : (decide (1 ≤ d) && okK kk nm kids.length && kids.all fun k => okE k (d - 1)) = false := by
        rcases hok with h | h
        · rw [decide_eq_false (show ¬ 1 ≤ d by omega)]; rfl
        · simp [h]
      rw [e1]
      (repeat' (first | apply jA | apply jF | apply jH | apply jI | apply jK | apply jM | apply jN | apply jO | apply jS | (refine wp_cond rfl (fun hc => ?_) (fun hc => ?_) <;> (try simp only [sB, ne_eq, reduceCtorEq] at hc) <;> (try (exfalso; omega))) | (refine WP.regionC (id := 0) ?_; (refine se_box rfl (by exact ⟨rfl, rfl⟩) ?_); (refine sassign rfl ?_); apply jW) | (refine WP.regionC (id := 1) ?_; (refine smove rfl ?_); (refine slss rfl rfl ?_); (refine smove rfl ?_); (refine sg (gq_vf rfl rfl) (fun he => ap_field_p (rq_p rfl rfl) rfl rfl) ?_); (refine sg (gq_vf rfl rfl) (fun he => ap_load_p (rq_c rfl rfl) rfl rfl rfl) ?_); (refine sg (gq_vf rfl rfl) (fun he => ap_lss (rq_c rfl rfl) (rq_p rfl rfl)) ?_); (refine su (ap_or (rq_p rfl rfl) (rq_c rfl rfl)) ?_); (refine smove rfl ?_); (refine sg (gq_vf rfl rfl) (fun he => ap_field_p (rq_p rfl rfl) rfl rfl) ?_); (refine sg (gq_vf rfl rfl) (fun he => ap_load_p (rq_c rfl rfl) rfl rfl rfl) ?_); (refine sg (gq_vf rfl rfl) (fun he => ap_gtr (rq_c rfl rfl) (rq_p rfl rfl)) ?_); (refine su (ap_or (rq_p rfl rfl) (rq_c rfl rfl)) ?_); (refine smove rfl ?_); (refine sg (gq_vf rfl rfl) (fun he => ap_field_p (rq_p rfl rfl) rfl rfl) ?_); (refine sg (gq_vf rfl rfl) (fun he => ap_load_p (rq_c rfl rfl) rfl rfl rfl) ?_); (refine sg (gq_vf rfl rfl) (fun he => ap_eql (rq_c rfl rfl) (rq_p rfl rfl)) ?_); (refine sg (gq_vf rfl rfl) (fun he => ap_field_p (rq_p rfl rfl) rfl rfl) ?_); (refine sg (gq_vf rfl rfl) (fun he => ap_load_p (rq_c rfl rfl) rfl rfl rfl) ?_); (refine sg (gq_vf rfl rfl) (fun he => ap_nes (rq_c rfl rfl) (rq_p rfl rfl)) ?_); (refine sg (gq_vf rfl rfl) (fun he => ap_neb (by kernel_rfl) (rq_c rfl rfl) (rq_c rfl rfl)) ?_); (refine su (ap_or (rq_p rfl rfl) (rq_c rfl rfl)) ?_); apply jW) | (refine WP.regionC ?_; (refine sassign rfl ?_); apply jW) | (refine WP.regionC (id := 3) ?_; (refine sfieldp rfl rfl rfl ?_); (refine sloadp rfl rfl rfl rfl ?_); apply jW) | (refine WP.regionC ?_; (refine seql rfl rfl ?_); (refine sassign rfl ?_); apply jW) | (refine WP.regionC (id := 7) ?_; (refine sfieldp rfl rfl rfl ?_); (refine sloadp rfl rfl rfl rfl ?_); (refine sc_p rfl rfl (by first | ((repeat' first | exact SubL.nil | refine SubL.cons ?_ ?_ | exact Sub.refl); done) | fail) (by first | (simp [bdL, bdL_append, AV.bd]; done) | fail) (rname_fn _ (by assumption)) ?_); (refine su (anot rfl) ?_); (refine smove rfl ?_); (refine sg (gq_vf rfl rfl) (fun he => ap_field_p (rq_p rfl rfl) rfl rfl) ?_); (refine sg (gq_vf rfl rfl) (fun he => ap_load_p (rq_c rfl rfl) rfl rfl rfl) ?_); (refine sg (gq_vf rfl rfl) (fun he => ap_len_m rfl (rq_c rfl rfl)) ?_); (refine sg (gq_vf rfl rfl) (fun he => ap_neq (rq_c rfl rfl) (rq_p rfl rfl)) ?_); (refine su (ap_or (rq_p rfl rfl) (rq_c rfl rfl)) ?_); apply jW) | (refine WP.regionC (id := 10) ?_; (refine sfieldp rfl rfl rfl ?_); (refine sloadp rfl rfl rfl rfl ?_); (refine slenm rfl rfl ?_); (refine seql rfl rfl ?_); apply jW) | (refine WP.regionC (id := 13) ?_; (refine sfieldp rfl rfl rfl ?_); (refine sloadp rfl rfl rfl rfl ?_); (refine slenm rfl rfl ?_); (refine slss rfl rfl ?_); apply jW) | (refine WP.regionC (id := 4) ?_; (refine sfieldp rfl rfl rfl ?_); (refine sloadp rfl rfl rfl rfl ?_); (refine slenm rfl rfl ?_); (refine su (aneq rfl rfl) ?_); apply jW) | exact ret_eq rfl rfl rfl))
      all_goals (exfalso; clear ig e1; unfold okK at hok; grind)
    · have hok1 : 1 ≤ d := by omega
      have hok2 : okK kk nm kids.length = true := by simpa using fun h => hok (.inr h)
      have e1 : (decide (1 ≤ d) && okK kk nm kids.length && kids.all fun k => okE k (d - 1)) = kids.all fun k => okE k (d - 1) := by
        rw [hok2, decide_eq_true hok1]; rfl
      rw [e1]
      (repeat' (first | apply jA | apply jF | apply jH | apply jI | apply jK | apply jM | apply jN | apply jO | apply jS | (refine wp_cond rfl (fun hc => ?_) (fun hc => ?_) <;> (try simp only [sB, ne_eq, reduceCtorEq] at hc) <;> (try (exfalso; omega))) | (refine WP.regionC (id := 0) ?_; (refine se_box rfl (by exact ⟨rfl, rfl⟩) ?_); (refine sassign rfl ?_); apply jW) | (refine WP.regionC (id := 1) ?_; (refine smove rfl ?_); (refine slss rfl rfl ?_); (refine smove rfl ?_); (refine sg (gq_vf rfl rfl) (fun he => ap_field_p (rq_p rfl rfl) rfl rfl) ?_); (refine sg (gq_vf rfl rfl) (fun he => ap_load_p (rq_c rfl rfl) rfl rfl rfl) ?_); (refine sg (gq_vf rfl rfl) (fun he => ap_lss (rq_c rfl rfl) (rq_p rfl rfl)) ?_); (refine su (ap_or (rq_p rfl rfl) (rq_c rfl rfl)) ?_); (refine smove rfl ?_); (refine sg (gq_vf rfl rfl) (fun he => ap_field_p (rq_p rfl rfl) rfl rfl) ?_); (refine sg (gq_vf rfl rfl) (fun he => ap_load_p (rq_c rfl rfl) rfl rfl rfl) ?_); (refine sg (gq_vf rfl rfl) (fun he => ap_gtr (rq_c rfl rfl) (rq_p rfl rfl)) ?_); (refine su (ap_or (rq_p rfl rfl) (rq_c rfl rfl)) ?_); (refine smove rfl ?_); (refine sg (gq_vf rfl rfl) (fun he => ap_field_p (rq_p rfl rfl) rfl rfl) ?_); (refine sg (gq_vf rfl rfl) (fun he => ap_load_p (rq_c rfl rfl) rfl rfl rfl) ?_); (refine sg (gq_vf rfl rfl) (fun he => ap_eql (rq_c rfl rfl) (rq_p rfl rfl)) ?_); (refine sg (gq_vf rfl rfl) (fun he => ap_field_p (rq_p rfl rfl) rfl rfl) ?_); (refine sg (gq_vf rfl rfl) (fun he => ap_load_p (rq_c rfl rfl) rfl rfl rfl) ?_); (refine sg (gq_vf rfl rfl) (fun he => ap_nes (rq_c rfl rfl) (rq_p rfl rfl)) ?_); (refine sg (gq_vf rfl rfl) (fun he => ap_neb (by kernel_rfl) (rq_c rfl rfl) (rq_c rfl rfl)) ?_); (refine su (ap_or (rq_p rfl rfl) (rq_c rfl rfl)) ?_); apply jW) | (refine WP.regionC ?_; (refine sassign rfl ?_); apply jW) | (refine WP.regionC (id := 3) ?_; (refine sfieldp rfl rfl rfl ?_); (refine sloadp rfl rfl rfl rfl ?_); apply jW) | (refine WP.regionC ?_; (refine seql rfl rfl ?_); (refine sassign rfl ?_); apply jW) | (refine WP.regionC (id := 7) ?_; (refine sfieldp rfl rfl rfl ?_); (refine sloadp rfl rfl rfl rfl ?_); (refine sc_p rfl rfl (by first | ((repeat' first | exact SubL.nil | refine SubL.cons ?_ ?_ | exact Sub.refl); done) | fail) (by first | (simp [bdL, bdL_append, AV.bd]; done) | fail) (rname_fn _ (by assumption)) ?_); (refine su (anot rfl) ?_); (refine smove rfl ?_); (refine sg (gq_vf rfl rfl) (fun he => ap_field_p (rq_p rfl rfl) rfl rfl) ?_); (refine sg (gq_vf rfl rfl) (fun he => ap_load_p (rq_c rfl rfl) rfl rfl rfl) ?_); (refine sg (gq_vf rfl rfl) (fun he => ap_len_m rfl (rq_c rfl rfl)) ?_); (refine sg (gq_vf rfl rfl) (fun he => ap_neq (rq_c rfl rfl) (rq_p rfl rfl)) ?_); (refine su (ap_or (rq_p rfl rfl) (rq_c rfl rfl)) ?_); apply jW) | (refine WP.regionC (id := 10) ?_; (refine sfieldp rfl rfl rfl ?_); (refine sloadp rfl rfl rfl rfl ?_); (refine slenm rfl rfl ?_); (refine seql rfl rfl ?_); apply jW) | (refine WP.regionC (id := 13) ?_; (refine sfieldp rfl rfl rfl ?_); (refine sloadp rfl rfl rfl rfl ?_); (refine slenm rfl rfl ?_); (refine slss rfl rfl ?_); apply jW) | (refine WP.regionC (id := 4) ?_; (refine sfieldp rfl rfl rfl ?_); (refine sloadp rfl rfl rfl rfl ?_); (refine slenm rfl rfl ?_); (refine su (aneq rfl rfl) ?_); apply jW) | refine ret_b rfl ?_))
      all_goals try (exfalso; clear ig e1; unfold okK at hok2; grind; done)
      · refine wp_loop (fun (i : Nat) => i ≤ kids.length ∧ (kids.take i).all (fun k => okE k (d - 1)) = true) (fun i => kids.length - i) (fun i => (S 73 [(1, intA d), (2, .ptr 0 3 0 0), (5, intA (i : Nat))] 1 [(0, some (.arr 3 [.agg [intA kk, strA nm, exprsA kids]]))])) 0 ⟨[0], ToR.S rfl (by repeat' (first | exact rt_nil | refine rt_t rfl rfl ?_ | refine rt_e rfl rfl ?_)) (by repeat' (first | exact ro_nil | refine ro_p rfl (by first | exact rfl | fail) (by first | (simp [bdL, bdL_append, AV.bd]; done) | fail) ?_)) rfl (by (rw [hm]; exact rfl)) rfl (by (simp [bdT, AV.bd, bdL, bdL_append]; done)) (by repeat' (first | exact True.intro | refine And.intro ?_ ?_ | (simp [bdOq, bdL, bdL_append, AV.bd]; done))) (by (rw [hm]; exact Nat.le_of_ble_eq_true rfl))⟩ ⟨Nat.zero_le _, rfl⟩ ?_
        rintro i ⟨hi, hall⟩
        (repeat' (first | apply jA | apply jH | apply jJ | apply jK | apply jL | apply jP | apply jS | (refine wp_cond rfl (fun hc => ?_) (fun hc => ?_) <;> (try simp only [sB, ne_eq, reduceCtorEq] at hc) <;> (try (exfalso; omega))) | (refine WP.regionC (id := 16) ?_; (refine smove rfl ?_); (refine sfieldp rfl rfl rfl ?_); (refine sloadp rfl rfl rfl rfl ?_); (refine slenm rfl rfl ?_); (refine slss rfl rfl ?_); apply jW) | (refine WP.regionC (id := 20) ?_; (refine sassign rfl ?_); apply jW) | refine ret_b rfl ?_))
        rw [all_of_take' (by omega) hall]
      · refine wp_loop (fun (i : Nat) => i ≤ kids.length ∧ (kids.take i).all (fun k => okE k (d - 1)) = true) (fun i => kids.length - i) (fun i => (S 73 [(1, intA d), (2, .ptr 0 3 0 0), (5, intA (i : Nat))] 1 [(0, some (.arr 3 [.agg [intA kk, strA nm, exprsA kids]]))])) 0 ⟨[0], ToR.S rfl (by repeat' (first | exact rt_nil | refine rt_t rfl rfl ?_ | refine rt_e rfl rfl ?_)) (by repeat' (first | exact ro_nil | refine ro_p rfl (by first | exact rfl | fail) (by first | (simp [bdL, bdL_append, AV.bd]; done) | fail) ?_)) rfl (by (rw [hm]; exact rfl)) rfl (by (simp [bdT, AV.bd, bdL, bdL_append]; done)) (by repeat' (first | exact True.intro | refine And.intro ?_ ?_ | (simp [bdOq, bdL, bdL_append, AV.bd]; done))) (by (rw [hm]; exact Nat.le_of_ble_eq_true rfl))⟩ ⟨Nat.zero_le _, rfl⟩ ?_
        rintro i ⟨hi, hall⟩
        by_cases hlt : i < kids.length
        · have hx := ig _ (nth_mem hlt) (d - 1) (by omega) (by omega)
          (repeat' (first | apply jA | apply jF | apply jH | apply jI | apply jK | apply jM | apply jN | apply jO | apply jS | (refine wp_cond rfl (fun hc => ?_) (fun hc => ?_) <;> (try simp only [sB, ne_eq, reduceCtorEq] at hc) <;> (try (exfalso; omega))) | (refine WP.regionC (id := 16) ?_; (refine smove rfl ?_); (refine sfieldp rfl rfl rfl ?_); (refine sloadp rfl rfl rfl rfl ?_); (refine slenm rfl rfl ?_); (refine slss rfl rfl ?_); apply jW) | (refine WP.regionC (id := 18) ?_; (refine sfieldp rfl rfl rfl ?_); (refine sloadp rfl rfl rfl rfl ?_); (refine smove rfl ?_); (refine sidxn rfl rfl (by omega) ?_); (refine sloadw rfl rfl ?_); (refine smove rfl ?_); (refine su (asub rfl rfl (by exact inr_i64_of (by omega))) ?_); (refine sc_p rfl rfl (by first | ((repeat' first | exact SubL.nil | refine SubL.cons ?_ ?_ | exact Sub.refl); done) | fail) (by first | (simp [bdL, bdL_append, AV.bd]; done) | fail) (hx) ?_); (refine su (anot rfl) ?_); apply jW) | (refine WP.regionC (id := 19) ?_; (refine sassign rfl ?_); apply jW) | (refine WP.regionC (id := 17) ?_; (refine smove rfl ?_); (refine sadd rfl rfl (by exact inr_i64_of (by omega)) ?_); (refine sassign rfl ?_); apply jW) | refine ret_b rfl ?_))
          · rw [all_nth_no hlt hc]
          · exact ⟨i + 1, ⟨by omega, by omega, take_all_succ hlt hall hc⟩, ⟨[0], ToR.S rfl (by repeat' (first | exact rt_nil | refine rt_t rfl rfl ?_ | refine rt_e rfl rfl ?_)) (by repeat' (first | exact ro_nil | refine ro_p rfl (by first | exact rfl | fail) (by first | (simp [bdL, bdL_append, AV.bd]; done) | fail) ?_)) rfl (by (rw [hm]; exact rfl)) rfl (by (simp [bdT, AV.bd, bdL, bdL_append]; done)) (by repeat' (first | exact True.intro | refine And.intro ?_ ?_ | (simp [bdOq, bdL, bdL_append, AV.bd]; done))) (by (rw [hm]; exact Nat.le_of_ble_eq_true rfl))⟩⟩
        · (repeat' (first | apply jA | apply jH | apply jJ | apply jK | apply jL | apply jP | apply jS | (refine wp_cond rfl (fun hc => ?_) (fun hc => ?_) <;> (try simp only [sB, ne_eq, reduceCtorEq] at hc) <;> (try (exfalso; omega))) | (refine WP.regionC (id := 16) ?_; (refine smove rfl ?_); (refine sfieldp rfl rfl rfl ?_); (refine sloadp rfl rfl rfl rfl ?_); (refine slenm rfl rfl ?_); (refine slss rfl rfl ?_); apply jW) | (refine WP.regionC (id := 20) ?_; (refine sassign rfl ?_); apply jW) | refine ret_b rfl ?_))
          rw [all_of_take' (by omega) hall]
      · refine wp_loop (fun (i : Nat) => i ≤ kids.length ∧ (kids.take i).all (fun k => okE k (d - 1)) = true) (fun i => kids.length - i) (fun i => (S 73 [(1, intA d), (2, .ptr 0 3 0 0), (5, intA (i : Nat))] 1 [(0, some (.arr 3 [.agg [intA kk, strA nm, exprsA kids]]))])) 0 ⟨[0], ToR.S rfl (by repeat' (first | exact rt_nil | refine rt_t rfl rfl ?_ | refine rt_e rfl rfl ?_)) (by repeat' (first | exact ro_nil | refine ro_p rfl (by first | exact rfl | fail) (by first | (simp [bdL, bdL_append, AV.bd]; done) | fail) ?_)) rfl (by (rw [hm]; exact rfl)) rfl (by (simp [bdT, AV.bd, bdL, bdL_append]; done)) (by repeat' (first | exact True.intro | refine And.intro ?_ ?_ | (simp [bdOq, bdL, bdL_append, AV.bd]; done))) (by (rw [hm]; exact Nat.le_of_ble_eq_true rfl))⟩ ⟨Nat.zero_le _, rfl⟩ ?_
        rintro i ⟨hi, hall⟩
        by_cases hlt : i < kids.length
        · have hx := ig _ (nth_mem hlt) (d - 1) (by omega) (by omega)
          (repeat' (first | apply jA | apply jF | apply jH | apply jI | apply jK | apply jM | apply jN | apply jO | apply jS | (refine wp_cond rfl (fun hc => ?_) (fun hc => ?_) <;> (try simp only [sB, ne_eq, reduceCtorEq] at hc) <;> (try (exfalso; omega))) | (refine WP.regionC (id := 16) ?_; (refine smove rfl ?_); (refine sfieldp rfl rfl rfl ?_); (refine sloadp rfl rfl rfl rfl ?_); (refine slenm rfl rfl ?_); (refine slss rfl rfl ?_); apply jW) | (refine WP.regionC (id := 18) ?_; (refine sfieldp rfl rfl rfl ?_); (refine sloadp rfl rfl rfl rfl ?_); (refine smove rfl ?_); (refine sidxn rfl rfl (by omega) ?_); (refine sloadw rfl rfl ?_); (refine smove rfl ?_); (refine su (asub rfl rfl (by exact inr_i64_of (by omega))) ?_); (refine sc_p rfl rfl (by first | ((repeat' first | exact SubL.nil | refine SubL.cons ?_ ?_ | exact Sub.refl); done) | fail) (by first | (simp [bdL, bdL_append, AV.bd]; done) | fail) (hx) ?_); (refine su (anot rfl) ?_); apply jW) | (refine WP.regionC (id := 19) ?_; (refine sassign rfl ?_); apply jW) | (refine WP.regionC (id := 17) ?_; (refine smove rfl ?_); (refine sadd rfl rfl (by exact inr_i64_of (by omega)) ?_); (refine sassign rfl ?_); apply jW) | refine ret_b rfl ?_))
          · rw [all_nth_no hlt hc]
          · exact ⟨i + 1, ⟨by omega, by omega, take_all_succ hlt hall hc⟩, ⟨[0], ToR.S rfl (by repeat' (first | exact rt_nil | refine rt_t rfl rfl ?_ | refine rt_e rfl rfl ?_)) (by repeat' (first | exact ro_nil | refine ro_p rfl (by first | exact rfl | fail) (by first | (simp [bdL, bdL_append, AV.bd]; done) | fail) ?_)) rfl (by (rw [hm]; exact rfl)) rfl (by (simp [bdT, AV.bd, bdL, bdL_append]; done)) (by repeat' (first | exact True.intro | refine And.intro ?_ ?_ | (simp [bdOq, bdL, bdL_append, AV.bd]; done))) (by (rw [hm]; exact Nat.le_of_ble_eq_true rfl))⟩⟩
        · (repeat' (first | apply jA | apply jH | apply jJ | apply jK | apply jL | apply jP | apply jS | (refine wp_cond rfl (fun hc => ?_) (fun hc => ?_) <;> (try simp only [sB, ne_eq, reduceCtorEq] at hc) <;> (try (exfalso; omega))) | (refine WP.regionC (id := 16) ?_; (refine smove rfl ?_); (refine sfieldp rfl rfl rfl ?_); (refine sloadp rfl rfl rfl rfl ?_); (refine slenm rfl rfl ?_); (refine slss rfl rfl ?_); apply jW) | (refine WP.regionC (id := 20) ?_; (refine sassign rfl ?_); apply jW) | refine ret_b rfl ?_))
          rw [all_of_take' (by omega) hall]
      · refine wp_loop (fun (i : Nat) => i ≤ kids.length ∧ (kids.take i).all (fun k => okE k (d - 1)) = true) (fun i => kids.length - i) (fun i => (S 73 [(1, intA d), (2, .ptr 0 3 0 0), (5, intA (i : Nat))] 1 [(0, some (.arr 3 [.agg [intA kk, strA nm, exprsA kids]]))])) 0 ⟨[0], ToR.S rfl (by repeat' (first | exact rt_nil | refine rt_t rfl rfl ?_ | refine rt_e rfl rfl ?_)) (by repeat' (first | exact ro_nil | refine ro_p rfl (by first | exact rfl | fail) (by first | (simp [bdL, bdL_append, AV.bd]; done) | fail) ?_)) rfl (by (rw [hm]; exact rfl)) rfl (by (simp [bdT, AV.bd, bdL, bdL_append]; done)) (by repeat' (first | exact True.intro | refine And.intro ?_ ?_ | (simp [bdOq, bdL, bdL_append, AV.bd]; done))) (by (rw [hm]; exact Nat.le_of_ble_eq_true rfl))⟩ ⟨Nat.zero_le _, rfl⟩ ?_
        rintro i ⟨hi, hall⟩
        by_cases hlt : i < kids.length
        · have hx := ig _ (nth_mem hlt) (d - 1) (by omega) (by omega)
          (repeat' (first | apply jA | apply jF | apply jH | apply jI | apply jK | apply jM | apply jN | apply jO | apply jS | (refine wp_cond rfl (fun hc => ?_) (fun hc => ?_) <;> (try simp only [sB, ne_eq, reduceCtorEq] at hc) <;> (try (exfalso; omega))) | (refine WP.regionC (id := 16) ?_; (refine smove rfl ?_); (refine sfieldp rfl rfl rfl ?_); (refine sloadp rfl rfl rfl rfl ?_); (refine slenm rfl rfl ?_); (refine slss rfl rfl ?_); apply jW) | (refine WP.regionC (id := 18) ?_; (refine sfieldp rfl rfl rfl ?_); (refine sloadp rfl rfl rfl rfl ?_); (refine smove rfl ?_); (refine sidxn rfl rfl (by omega) ?_); (refine sloadw rfl rfl ?_); (refine smove rfl ?_); (refine su (asub rfl rfl (by exact inr_i64_of (by omega))) ?_); (refine sc_p rfl rfl (by first | ((repeat' first | exact SubL.nil | refine SubL.cons ?_ ?_ | exact Sub.refl); done) | fail) (by first | (simp [bdL, bdL_append, AV.bd]; done) | fail) (hx) ?_); (refine su (anot rfl) ?_); apply jW) | (refine WP.regionC (id := 19) ?_; (refine sassign rfl ?_); apply jW) | (refine WP.regionC (id := 17) ?_; (refine smove rfl ?_); (refine sadd rfl rfl (by exact inr_i64_of (by omega)) ?_); (refine sassign rfl ?_); apply jW) | refine ret_b rfl ?_))
          · rw [all_nth_no hlt hc]
          · exact ⟨i + 1, ⟨by omega, by omega, take_all_succ hlt hall hc⟩, ⟨[0], ToR.S rfl (by repeat' (first | exact rt_nil | refine rt_t rfl rfl ?_ | refine rt_e rfl rfl ?_)) (by repeat' (first | exact ro_nil | refine ro_p rfl (by first | exact rfl | fail) (by first | (simp [bdL, bdL_append, AV.bd]; done) | fail) ?_)) rfl (by (rw [hm]; exact rfl)) rfl (by (simp [bdT, AV.bd, bdL, bdL_append]; done)) (by repeat' (first | exact True.intro | refine And.intro ?_ ?_ | (simp [bdOq, bdL, bdL_append, AV.bd]; done))) (by (rw [hm]; exact Nat.le_of_ble_eq_true rfl))⟩⟩
        · (repeat' (first | apply jA | apply jH | apply jJ | apply jK | apply jL | apply jP | apply jS | (refine wp_cond rfl (fun hc => ?_) (fun hc => ?_) <;> (try simp only [sB, ne_eq, reduceCtorEq] at hc) <;> (try (exfalso; omega))) | (refine WP.regionC (id := 16) ?_; (refine smove rfl ?_); (refine sfieldp rfl rfl rfl ?_); (refine sloadp rfl rfl rfl rfl ?_); (refine slenm rfl rfl ?_); (refine slss rfl rfl ?_); apply jW) | (refine WP.regionC (id := 20) ?_; (refine sassign rfl ?_); apply jW) | refine ret_b rfl ?_))
          rw [all_of_take' (by omega) hall]
end Go.Lg

namespace Go.Lg
open Go.Proofs
set_option linter.unusedSimpArgs false
set_option linter.unusedVariables false
attribute [local irreducible] Ap Rq asemC WP RunD Ret Gq thenA inBlockA bodyQ noGotoA RqL RqP OpP
set_option maxHeartbeats 4000000
def toks (f : GFi) (k : Nat) : List ByteArray := ((f.levels.take k).map (·.tokens)).flatten
def rnames (f : GFi) (k : Nat) : List ByteArray := (f.rules.take k).map (·.name)
def glevelOk (l : GLe) : Bool := decide (1 ≤ l.assoc) && decide (l.assoc ≤ 3) && !decide (l.tokens.length = 0)
theorem glevel_iff {l : GLe} : glevelOk l = true ↔ (1 ≤ l.assoc ∧ l.assoc ≤ 3) ∧ l.tokens.length ≠ 0 := by
  simp only [glevelOk, Bool.and_eq_true, Bool.not_eq_true', decide_eq_true_eq, decide_eq_false_iff_not, ne_eq]
theorem glevel_no {l : GLe} (h : (l.assoc < 1 ∨ 3 < l.assoc) ∨ l.tokens.length = 0) : glevelOk l = false := by
  cases hg : glevelOk l with
  | false => rfl
  | true => have := glevel_iff.1 hg; omega
def validF (f : GFi) : Bool := decide (1 ≤ f.rules.length) && decide (f.rules.length ≤ 120) && f.rules.all gruleOk && f.levels.all glevelOk && distOk (rnames f f.rules.length) && distOk (toks f f.levels.length) && (rnames f f.rules.length).any (fun x => decide (f.start = x))
theorem toks_succ {f : GFi} {k : Nat} (hk : k < f.levels.length) : toks f (k + 1) = toks f k ++ (nth f.levels k).tokens := by
  simp only [toks, take_succ_nth hk, List.map_append, List.flatten_append]; simp
theorem rnames_succ {f : GFi} {k : Nat} (hk : k < f.rules.length) : rnames f (k + 1) = rnames f k ++ [(nth f.rules k).name] := by
  simp only [rnames, take_succ_nth hk, List.map_append]; rfl
theorem rnames_len {f : GFi} {k : Nat} (hk : k ≤ f.rules.length) : (rnames f k).length = k := by simp [rnames]; omega
theorem toks_mono (f : GFi) {k : Nat} (hk : k ≤ f.levels.length) : (toks f k).length ≤ (toks f f.levels.length).length := by
  induction h : f.levels.length - k generalizing k with
  | zero => obtain rfl : k = f.levels.length := by omega
            exact Nat.le_refl _
  | succ n ih =>
    have := ih (k := k + 1) (by omega) (by omega)
    rw [toks_succ (by omega), List.length_append] at this
    omega
theorem gvalid_fn (f : GFi) (hT : (toks f f.levels.length).length ≤ 1000000) : Fn Tryd.prog 21 [fileA f] (boolA (validF f)) := by
  refine Fn.intro rfl (by kernel_rfl) Tryd.func21 rfl rfl Tryd.ntmps21 (by exact Nat.le_of_ble_eq_true rfl) ?_; intro Γ hm
  refine wp_lens 0 rfl fun hl => ?_
  have hl2 : f.rules.length ≤ 9223372036854775807 ∧ f.levels.length ≤ 9223372036854775807 := by have := hl; simp [AV.lens, lensL, fileA, levelsA, grulesA] at this; omega
  (repeat' (first | apply jA | apply jH | apply jI | apply jK | apply jM | apply jS | (refine wp_cond rfl (fun hc => ?_) (fun hc => ?_) <;> (try simp only [sB, ne_eq, reduceCtorEq] at hc) <;> (try (exfalso; omega))) | (refine WP.regionC (id := 0) ?_; (refine se_box rfl (by exact ⟨rfl, rfl⟩) ?_); (refine sassign rfl ?_); apply jW) | (refine WP.regionC (id := 1) ?_; (refine sfieldp rfl rfl rfl ?_); (refine sloadp rfl rfl rfl rfl ?_); (refine slenm rfl rfl ?_); (refine slss rfl rfl ?_); (refine smove rfl ?_); (refine sg (gq_vf rfl rfl) (fun he => ap_field_p (rq_p rfl rfl) rfl rfl) ?_); (refine sg (gq_vf rfl rfl) (fun he => ap_load_p (rq_c rfl rfl) rfl rfl rfl) ?_); (refine sg (gq_vf rfl rfl) (fun he => ap_len_m rfl (rq_c rfl rfl)) ?_); (refine sg (gq_vf rfl rfl) (fun he => ap_gtr (rq_c rfl rfl) (rq_p rfl rfl)) ?_); (refine su (ap_or (rq_p rfl rfl) (rq_c rfl rfl)) ?_); apply jW) | (refine WP.regionC (id := 2) ?_; (refine sassign rfl ?_); apply jW) | (refine WP.regionC (id := 3) ?_; (refine sassign rfl ?_); (refine sassign rfl ?_); apply jW) | refine ret_b rfl ?_))
  · simp [validF]; omega
  refine wp_nil 3 1 rfl ?_
  refine wp_nil 4 1 rfl ?_
  (repeat' (first | apply jF | apply jH | (refine WP.regionC (id := 4) ?_; (refine sfieldp rfl rfl rfl ?_); (refine sloadp rfl rfl rfl rfl ?_); (refine slenm rfl rfl ?_); (refine smove rfl ?_); apply jW)))
  refine wp_loop (fun (k : Nat) => k ≤ f.rules.length ∧ (f.rules.take k).all gruleOk = true) (fun k => f.rules.length - k)
    (fun k => (S 73 [(1, .ptr 0 3 0 0), (3, .ref 1 1 0 (rnames f k).length), (4, .ref 2 1 0 0), (20, grulesA f.rules), (21, intA (f.rules.length : Nat)), (22, intA (k : Nat))] 3 [(0, some (.arr 3 [fileA f])), (1, some (.arr 1 ((rnames f k).map strA))), (2, some (.arr 1 []))])) 0 ⟨[0, 1, 2], ToR.S rfl (by repeat' (first | exact rt_nil | refine rt_r rfl rfl ?_ | refine rt_t rfl rfl ?_ | refine rt_e rfl rfl ?_ | refine rt_p rfl rfl (by first | (simp [AV.bd, bdL, bdL_append]; done) | fail) ?_)) (by repeat' (first | exact ro_nil | refine ro_e rfl rfl ?_ | refine ro_p rfl (by first | exact rfl | fail) (by first | (simp [bdL, bdL_append, AV.bd]; done) | fail) ?_)) rfl (by (rw [hm]; exact rfl)) rfl (by (simp [bdT, AV.bd, bdL, bdL_append]; done)) (by repeat' (first | exact True.intro | exact rfl | refine And.intro ?_ ?_ | (simp [bdOq, bdL, bdL_append, AV.bd]; done))) (by (rw [hm]; exact Nat.le_of_ble_eq_true rfl))⟩ ⟨Nat.zero_le _, rfl⟩ ?_
  rintro k ⟨hk, hall⟩
  have hnl := rnames_len hk
  (repeat' (first | apply jA | apply jF | apply jH | apply jI | apply jJ | apply jK | apply jL | apply jM | apply jN | apply jO | apply jP | apply jS | (refine wp_cond rfl (fun hc => ?_) (fun hc => ?_) <;> (try simp only [sB, ne_eq, reduceCtorEq] at hc) <;> (try (exfalso; omega))) | (refine WP.regionC (id := 5) ?_; (refine slss rfl rfl ?_); apply jW) | (refine WP.regionC (id := 6) ?_; (refine sidxn rfl rfl (by omega) ?_); (refine sloadw rfl rfl ?_); (refine se_alloc rfl ?_); (refine se_store_b rfl rfl rfl rfl ?_); apply jW) | (refine WP.regionC (id := 7) ?_; (refine sloadpw rfl rfl rfl rfl ?_); (refine sc_p rfl rfl (by first | ((repeat' first | exact SubL.nil | refine SubL.cons ?_ ?_ | exact Sub.refl); done) | fail) (by first | (simp [bdL, bdL_append, AV.bd]; done) | fail) (rule_fn _) ?_); (refine su (anot rfl) ?_); apply jW) | (refine WP.regionC (id := 8) ?_; (refine sassign rfl ?_); apply jW) | (refine WP.regionC (id := 9) ?_; (refine smove rfl ?_); (refine sfieldp rfl rfl rfl ?_); (refine sloadp rfl rfl rfl rfl ?_); (refine se_lit (OpP.cons rfl (OpP.nil)) rfl rfl rfl rfl rfl rfl ?_); (refine se_app1 rfl rfl rfl rfl rfl rfl rfl rfl (by omega) ?_); (refine sassign rfl ?_); apply jW) | (refine WP.regionC (id := 10) ?_; (refine sadd rfl rfl (by exact inr_i64_of (by omega)) ?_); (refine smove rfl ?_); apply jW) | (refine WP.regionC (id := 11) ?_; (refine sfieldp rfl rfl rfl ?_); (refine sloadp rfl rfl rfl rfl ?_); (refine slenm rfl rfl ?_); (refine smove rfl ?_); apply jW) | refine ret_b rfl ?_))
  · rw [show validF f = false by simp only [validF, all_nth_no (l := f.rules) (k := k) (by omega) hc, Bool.and_false, Bool.false_and]]
  · refine ⟨k + 1, ⟨by omega, by omega, take_all_succ (by omega) hall hc⟩, ?_⟩
    rw [rnames_succ (by omega)]
    exact ⟨[0, 5, 2], ToR.S rfl (by repeat' (first | exact rt_nil | refine rt_r rfl rfl ?_ | refine rt_t rfl rfl ?_ | refine rt_e rfl rfl ?_ | refine rt_p rfl rfl (by first | (simp [AV.bd, bdL, bdL_append]; done) | fail) ?_)) (by repeat' (first | exact ro_nil | refine ro_e rfl rfl ?_ | refine ro_p rfl (by first | exact rfl | fail) (by first | exact bdL_map (fun _ => by exact rfl) _ | (simp [bdL, bdL_append, AV.bd]; done) | fail) ?_)) rfl (by (rw [hm]; exact rfl)) rfl (by (simp [bdT, AV.bd, bdL, bdL_append]; done)) (by repeat' (first | exact True.intro | exact rfl | refine And.intro ?_ ?_ | exact bdL_map (fun _ => by exact rfl) _ | (simp [bdOq, bdL, bdL_append, AV.bd]; done))) (by (rw [hm]; exact Nat.le_of_ble_eq_true rfl))⟩
  obtain rfl : k = f.rules.length := by omega
  have hrs := all_of_take' (by omega) hall
  refine wp_loop (fun (j : Nat) => j ≤ f.levels.length ∧ (f.levels.take j).all glevelOk = true) (fun j => f.levels.length - j)
    (fun j => (S 73 [(1, .ptr 0 3 0 0), (3, .ref 1 1 0 (rnames f f.rules.length).length), (4, .ref 2 1 0 (toks f j).length), (36, levelsA f.levels), (37, intA (f.levels.length : Nat)), (38, intA (j : Nat))] 3 [(0, some (.arr 3 [fileA f])), (1, some (.arr 1 ((rnames f f.rules.length).map strA))), (2, some (.arr 1 ((toks f j).map strA)))])) 0 ⟨[0, 1, 2], ToR.S rfl (by repeat' (first | exact rt_nil | refine rt_r rfl rfl ?_ | refine rt_t rfl rfl ?_ | refine rt_e rfl rfl ?_ | refine rt_p rfl rfl (by first | (simp [AV.bd, bdL, bdL_append]; done) | fail) ?_)) (by repeat' (first | exact ro_nil | refine ro_e rfl rfl ?_ | refine ro_p rfl (by first | exact rfl | fail) (by first | exact bdL_map (fun _ => by exact rfl) _ | (simp [bdL, bdL_append, AV.bd]; done) | fail) ?_)) rfl (by (rw [hm]; exact rfl)) rfl (by (simp [bdT, AV.bd, bdL, bdL_append]; done)) (by repeat' (first | exact True.intro | exact rfl | refine And.intro ?_ ?_ | exact bdL_map (fun _ => by exact rfl) _ | (simp [bdOq, bdL, bdL_append, AV.bd]; done))) (by (rw [hm]; exact Nat.le_of_ble_eq_true rfl))⟩ ⟨Nat.zero_le _, rfl⟩ ?_
  rintro j ⟨hj, hjall⟩
  have htm := toks_mono f hj
  by_cases hlt : j < f.levels.length
  · have htm2 := toks_mono f (k := j + 1) (by omega)
    rw [toks_succ hlt, List.length_append] at htm2
    (repeat' (first | apply jA | apply jF | apply jH | apply jI | apply jK | apply jM | apply jN | apply jO | apply jS | (refine wp_cond rfl (fun hc => ?_) (fun hc => ?_) <;> (try simp only [sB, ne_eq, reduceCtorEq] at hc) <;> (try (exfalso; omega))) | (refine WP.regionC (id := 12) ?_; (refine slss rfl rfl ?_); apply jW) | (refine WP.regionC (id := 13) ?_; (refine sidxn rfl rfl (by omega) ?_); (refine sloadw rfl rfl ?_); (refine se_alloc rfl ?_); (refine se_store_b rfl rfl rfl rfl ?_); apply jW) | (refine WP.regionC (id := 14) ?_; (refine sfieldp rfl rfl rfl ?_); (refine sloadp rfl rfl rfl rfl ?_); (refine slss rfl rfl ?_); (refine smove rfl ?_); (refine sg (gq_vf rfl rfl) (fun he => ap_field_p (rq_p rfl rfl) rfl rfl) ?_); (refine sg (gq_vf rfl rfl) (fun he => ap_load_p (rq_c rfl rfl) rfl rfl rfl) ?_); (refine sg (gq_vf rfl rfl) (fun he => ap_gtr (rq_c rfl rfl) (rq_p rfl rfl)) ?_); (refine su (ap_or (rq_p rfl rfl) (rq_c rfl rfl)) ?_); (refine smove rfl ?_); (refine sg (gq_vf rfl rfl) (fun he => ap_field_p (rq_p rfl rfl) rfl rfl) ?_); (refine sg (gq_vf rfl rfl) (fun he => ap_load_p (rq_c rfl rfl) rfl rfl rfl) ?_); (refine sg (gq_vf rfl rfl) (fun he => ap_len_m rfl (rq_c rfl rfl)) ?_); (refine sg (gq_vf rfl rfl) (fun he => ap_eql (rq_c rfl rfl) (rq_p rfl rfl)) ?_); (refine su (ap_or (rq_p rfl rfl) (rq_c rfl rfl)) ?_); apply jW) | (refine WP.regionC (id := 15) ?_; (refine sassign rfl ?_); apply jW) | (refine WP.regionC (id := 16) ?_; (refine smove rfl ?_); (refine sfieldp rfl rfl rfl ?_); (refine sloadp rfl rfl rfl rfl ?_); (refine se_appL rfl rfl rfl rfl rfl rfl rfl (by omega) ?_); (refine sassign rfl ?_); apply jW) | (refine WP.regionC (id := 17) ?_; (refine sadd rfl rfl (by exact inr_i64_of (by omega)) ?_); (refine smove rfl ?_); apply jW) | refine ret_b rfl ?_))
    · rw [show validF f = false by simp only [validF, all_nth_no (l := f.levels) (f := glevelOk) (k := j) (by omega) (glevel_no (by omega)), Bool.and_false, Bool.false_and]]
    · refine ⟨j + 1, ⟨by omega, by omega, take_all_succ (by omega) hjall (glevel_iff.2 (by omega))⟩, ?_⟩
      rw [toks_succ (by omega)]
      exact ⟨[0, 1, 4], ToR.S rfl (by repeat' (first | exact rt_nil | refine rt_r rfl rfl ?_ | refine rt_t rfl rfl ?_ | refine rt_e rfl rfl ?_ | refine rt_p rfl rfl (by first | (simp [AV.bd, bdL, bdL_append]; done) | fail) ?_)) (by repeat' (first | exact ro_nil | refine ro_p rfl (by first | exact rfl | fail) (by first | exact bdL_map (fun _ => by exact rfl) _ | (simp [bdL, bdL_append, AV.bd]; done) | fail) ?_)) rfl (by (rw [hm]; exact rfl)) rfl (by (simp [bdT, AV.bd, bdL, bdL_append]; done)) (by repeat' (first | exact True.intro | refine And.intro ?_ ?_ | exact bdL_map (fun _ => by exact rfl) _ | (simp [bdOq, bdL, bdL_append, AV.bd]; done))) (by (rw [hm]; exact Nat.le_of_ble_eq_true rfl))⟩
  obtain rfl : j = f.levels.length := by omega
  have hls := all_of_take' (by omega) hjall
  (repeat' (first | apply jA | apply jH | apply jJ | apply jK | apply jL | apply jP | apply jS | (refine wp_cond rfl (fun hc => ?_) (fun hc => ?_) <;> (try simp only [sB, ne_eq, reduceCtorEq] at hc) <;> (try (exfalso; omega))) | (refine WP.regionC (id := 12) ?_; (refine slss rfl rfl ?_); apply jW) | (refine WP.regionC (id := 18) ?_; (refine smove rfl ?_); (refine sc_b rfl rfl (by first | ((repeat' first | exact FzL.nil | refine FzL.cons ?_ ?_ | (exact Fz.list rfl rfl (fun _ => by simp [AV.bd, bdL, bdL_append]) (fun _ => rfl))); done) | fail) (distinct_fn (rnames f f.rules.length) (by omega)) rfl ?_); (refine smove rfl ?_); (refine sg (gq_vt rfl rfl) (fun he => ap_move (rq_p rfl rfl)) ?_); (refine sg_b (gq_vt rfl rfl) (fun he => ⟨(rq_p rfl rfl), (RqL.cons (rq_c rfl rfl) (RqL.nil)), (by first | ((repeat' first | exact FzL.nil | refine FzL.cons ?_ ?_ | (exact Fz.list rfl rfl (fun _ => by simp [AV.bd, bdL, bdL_append]) (fun _ => rfl))); done) | fail), distinct_fn (toks f f.levels.length) (by omega), rfl⟩) ?_); (refine su (ap_and (rq_p rfl rfl) (rq_c rfl rfl)) ?_); (refine smove rfl ?_); (refine sg (gq_vt rfl rfl) (fun he => ap_move (rq_p rfl rfl)) ?_); (refine sg (gq_vt rfl rfl) (fun he => ap_field_p (rq_p rfl rfl) rfl rfl) ?_); (refine sg (gq_vt rfl rfl) (fun he => ap_load_p (rq_c rfl rfl) rfl rfl rfl) ?_); (refine sg_b (gq_vt rfl rfl) (fun he => ⟨(rq_p rfl rfl), (RqL.cons (rq_c rfl rfl) (RqL.cons (rq_c rfl rfl) (RqL.nil))), (by first | ((repeat' first | exact FzL.nil | refine FzL.cons ?_ ?_ | (exact Fz.list rfl rfl (fun _ => by simp [AV.bd, bdL, bdL_append]) (fun _ => rfl)) | (exact Fz.reflp (by simp [AV.bd, bdL, bdL_append]))); done) | fail), containsS_fn (rnames f f.rules.length) f.start, rfl⟩) ?_); (refine su (ap_and (rq_p rfl rfl) (rq_c rfl rfl)) ?_); (refine sassign rfl ?_); apply jW) | refine ret_b rfl ?_))
  have a1 : decide (1 ≤ f.rules.length) = true := decide_eq_true (by omega)
  have a2 : decide (f.rules.length ≤ 120) = true := decide_eq_true (by omega)
  simp only [validF, a1, a2, hrs, hls, Bool.true_and]
end Go.Lg

namespace Go.Lg
open Go.Proofs
set_option linter.unusedSimpArgs false
set_option linter.unusedVariables false
attribute [local irreducible] Ap Rq asemC WP RunD Ret Gq thenA inBlockA bodyQ noGotoA RqL RqP OpP
set_option maxHeartbeats 8000000
set_option maxRecDepth 20000
attribute [local simp] AV.cells altA
mutual
def nodesR : GEx → Int → Int
  | .mk _ _ l, most => nodesG l most 1
def nodesG : List GEx → Int → Int → Int
  | [], _, n => n
  | e :: l, most, n => if n ≤ most then nodesG l most (n + nodesR e (most - n)) else n
end
theorem nodesR_eq (e : GEx) (m : Int) : nodesR e m = nodesG e.kids m 1 := by cases e; rw [nodesR]; rfl
theorem nodesR_bd (e : GEx) : ∀ m : Int, 0 ≤ m → 1 ≤ nodesR e m ∧ nodesR e m ≤ m + 1 := by
  induction e using GEx.ind with
  | h e ih =>
    intro m hm
    rw [nodesR_eq]
    generalize e.kids = l at *
    have key : ∀ (l : List GEx), (∀ x, x ∈ l → ∀ m : Int, 0 ≤ m → 1 ≤ nodesR x m ∧ nodesR x m ≤ m + 1) → ∀ n : Int, 1 ≤ n → n ≤ m + 1 → 1 ≤ nodesG l m n ∧ nodesG l m n ≤ m + 1 := by
      intro l
      induction l with
      | nil => intro _ n h1 h2; rw [nodesG]; exact ⟨h1, h2⟩
      | cons x l ihl =>
        intro hl n h1 h2
        rw [nodesG]
        split
        · have := hl x (by simp) (m - n) (by omega)
          exact ihl (fun y hy => hl y (by simp [hy])) _ (by omega) (by omega)
        · exact ⟨h1, h2⟩
    exact key l ih 1 (by omega) (by omega)
def nodesK (l : List GEx) (m : Int) (i : Nat) : Int := nodesG (l.take i) m 1
theorem nodesG_snoc (m : Int) (e : GEx) : ∀ (l : List GEx) (n : Int), nodesG l m n ≤ m → nodesG (l ++ [e]) m n = nodesG l m n + nodesR e (m - nodesG l m n)
  | [], n, h => by rw [nodesG] at h; simp only [List.nil_append, nodesG, if_pos h]
  | x :: l, n, h => by
    rw [nodesG] at h
    rw [List.cons_append, nodesG, nodesG]
    split
    · rename_i hn; rw [if_pos hn] at h; exact nodesG_snoc m e l _ h
    · rename_i hn; rw [if_neg hn] at h; exact absurd h hn
theorem nodesG_over (m : Int) (r : List GEx) : ∀ (l : List GEx) (n : Int), m < nodesG l m n → nodesG (l ++ r) m n = nodesG l m n
  | [], n, h => by
    rw [nodesG] at h ⊢
    rw [List.nil_append]
    cases r with
    | nil => rw [nodesG]
    | cons x r => rw [nodesG, if_neg (by omega)]
  | x :: l, n, h => by
    rw [nodesG] at h
    rw [List.cons_append, nodesG, nodesG]
    split
    · rename_i hn; rw [if_pos hn] at h; exact nodesG_over m r l _ h
    · rfl
theorem nodes_fn (e : GEx) : ∀ m : Int, 0 ≤ m → m ≤ 1000 → Fn Tryd.prog 20 [exprA e, intA m] (intA (nodesR e m)) := by
  induction e using GEx.ind with
  | h e ih =>
    intro m h0 h1
    have hbd := nodesR_bd e m h0
    rw [nodesR_eq] at hbd ⊢
    rw [exprA, kids_exprsA]
    generalize hkd : e.kids = kids at *
    generalize e.kind = kk
    generalize e.name = nm
    clear hkd e
    refine Fn.intro rfl (by kernel_rfl) Tryd.func20 rfl rfl Tryd.ntmps20 (by exact Nat.le_of_ble_eq_true rfl) ?_; intro Γ hm
    refine wp_lens 0 rfl fun hl => ?_
    have hl : kids.length ≤ 9223372036854775807 := by have := hl; simp [AV.lens, lensL, exprsA] at this; omega
    (repeat' (first | apply jA | apply jF | apply jH | (refine WP.regionC (id := 0) ?_; (refine se_box rfl (by exact ⟨rfl, rfl⟩) ?_); (refine sassign rfl ?_); apply jW) | (refine WP.regionC ?_; (refine sassign rfl ?_); apply jW)))
    refine wp_loop (fun (i : Nat) => i ≤ kids.length ∧ 1 ≤ nodesK kids m i ∧ nodesK kids m i ≤ m + 1) (fun i => kids.length - i)
      (fun i => (S 31 [(1, intA m), (2, .ptr 0 3 0 0), (5, intA (nodesK kids m i)), (6, intA (i : Nat))] 1 [(0, some (.arr 3 [.agg [intA kk, strA nm, exprsA kids]]))])) 0 ?_ ⟨Nat.zero_le _, by simp [nodesK, nodesG], by simp [nodesK, nodesG]; omega⟩ ?_
    · rw [show nodesK kids m 0 = 1 by simp [nodesK, nodesG]]
      exact ⟨[0], ToR.S rfl (by repeat' (first | exact rt_nil | refine rt_t rfl rfl ?_ | refine rt_e rfl rfl ?_)) (by repeat' (first | exact ro_nil | refine ro_p rfl (by first | exact rfl | fail) (by first | (simp [bdL, bdL_append, AV.bd]; done) | fail) ?_)) rfl (by (rw [hm]; exact rfl)) rfl (by (simp [bdT, AV.bd, bdL, bdL_append]; done)) (by repeat' (first | exact True.intro | refine And.intro ?_ ?_ | (simp [bdOq, bdL, bdL_append, AV.bd]; done))) (by (rw [hm]; exact Nat.le_of_ble_eq_true rfl))⟩
    rintro i ⟨hi, hn1, hn2⟩
    by_cases hlt : i < kids.length
    · by_cases hle : nodesK kids m i ≤ m
      · have hx := ih _ (nth_mem hlt) (m - nodesK kids m i) (by omega) (by omega)
        have hb2 := nodesR_bd (nth kids i) (m - nodesK kids m i) (by omega)
        have e1 : nodesK kids m (i + 1) = nodesK kids m i + nodesR (nth kids i) (m - nodesK kids m i) := by
          unfold nodesK at hle ⊢
          rw [take_succ_nth hlt, nodesG_snoc m _ _ _ hle]
        (repeat' (first | apply jA | apply jF | apply jH | apply jI | apply jN | (refine wp_cond rfl (fun hc => ?_) (fun hc => ?_) <;> (try simp only [sB, ne_eq, reduceCtorEq] at hc) <;> (try (exfalso; omega))) | (refine WP.regionC (id := 3) ?_; (refine smove rfl ?_); (refine sfieldp rfl rfl rfl ?_); (refine sloadp rfl rfl rfl rfl ?_); (refine slenm rfl rfl ?_); (refine slss rfl rfl ?_); (refine smove rfl ?_); (refine sg (gq_vt rfl rfl) (fun he => ap_move (rq_p rfl rfl)) ?_); (refine sg (gq_vt rfl rfl) (fun he => ap_move (rq_p rfl rfl)) ?_); (refine sg (gq_vt rfl rfl) (fun he => ap_leq (rq_c rfl rfl) (rq_c rfl rfl)) ?_); (refine su (ap_and (rq_p rfl rfl) (rq_c rfl rfl)) ?_); apply jW) | (refine WP.regionC (id := 5) ?_; (refine smove rfl ?_); (refine sfieldp rfl rfl rfl ?_); (refine sloadp rfl rfl rfl rfl ?_); (refine smove rfl ?_); (refine sidxn rfl rfl (by omega) ?_); (refine sloadw rfl rfl ?_); (refine smove rfl ?_); (refine smove rfl ?_); (refine su (asub rfl rfl (by exact inr_i64_of (by omega))) ?_); (refine sc_p rfl rfl (by first | ((repeat' first | exact SubL.nil | refine SubL.cons ?_ ?_ | exact Sub.refl); done) | fail) (by first | (simp [bdL, bdL_append, AV.bd]; done) | fail) (hx) ?_); (refine sadd rfl rfl (by exact inr_i64_of (by omega)) ?_); (refine sassign rfl ?_); apply jW) | (refine WP.regionC (id := 4) ?_; (refine smove rfl ?_); (refine sadd rfl rfl (by exact inr_i64_of (by omega)) ?_); (refine sassign rfl ?_); apply jW)))
        refine ⟨i + 1, ⟨by omega, by omega, by omega, by omega⟩, ?_⟩
        rw [e1]
        exact ⟨[0], ToR.S rfl (by repeat' (first | exact rt_nil | refine rt_t rfl rfl ?_ | refine rt_e rfl rfl ?_)) (by repeat' (first | exact ro_nil | refine ro_p rfl (by first | exact rfl | fail) (by first | (simp [bdL, bdL_append, AV.bd]; done) | fail) ?_)) rfl (by (rw [hm]; exact rfl)) rfl (by (simp [bdT, AV.bd, bdL, bdL_append]; done)) (by repeat' (first | exact True.intro | refine And.intro ?_ ?_ | (simp [bdOq, bdL, bdL_append, AV.bd]; done))) (by (rw [hm]; exact Nat.le_of_ble_eq_true rfl))⟩
      · have e1 : nodesG kids m 1 = nodesK kids m i := by
          have := nodesG_over m (kids.drop i) (kids.take i) 1 (by unfold nodesK at hle; omega)
          rwa [List.take_append_drop] at this
        rw [e1]
        (repeat' (first | apply jA | apply jH | apply jJ | apply jK | apply jL | apply jP | apply jS | (refine wp_cond rfl (fun hc => ?_) (fun hc => ?_) <;> (try simp only [sB, ne_eq, reduceCtorEq] at hc) <;> (try (exfalso; omega))) | (refine WP.regionC (id := 3) ?_; (refine smove rfl ?_); (refine sfieldp rfl rfl rfl ?_); (refine sloadp rfl rfl rfl rfl ?_); (refine slenm rfl rfl ?_); (refine slss rfl rfl ?_); (refine smove rfl ?_); (refine sg (gq_vt rfl rfl) (fun he => ap_move (rq_p rfl rfl)) ?_); (refine sg (gq_vt rfl rfl) (fun he => ap_move (rq_p rfl rfl)) ?_); (refine sg (gq_vt rfl rfl) (fun he => ap_leq (rq_c rfl rfl) (rq_c rfl rfl)) ?_); (refine su (ap_and (rq_p rfl rfl) (rq_c rfl rfl)) ?_); apply jW) | (refine WP.regionC (id := 6) ?_; (refine smove rfl ?_); (refine sassign rfl ?_); apply jW) | exact ret_eq rfl rfl rfl))
    · have e1 : nodesG kids m 1 = nodesK kids m i := by rw [nodesK, List.take_of_length_le (by omega)]
      rw [e1]
      (repeat' (first | apply jA | apply jH | apply jJ | apply jK | apply jL | apply jP | apply jS | (refine wp_cond rfl (fun hc => ?_) (fun hc => ?_) <;> (try simp only [sB, ne_eq, reduceCtorEq] at hc) <;> (try (exfalso; omega))) | (refine WP.regionC (id := 3) ?_; (refine smove rfl ?_); (refine sfieldp rfl rfl rfl ?_); (refine sloadp rfl rfl rfl rfl ?_); (refine slenm rfl rfl ?_); (refine slss rfl rfl ?_); (refine smove rfl ?_); (refine sg (gq_vt rfl rfl) (fun he => ap_move (rq_p rfl rfl)) ?_); (refine sg (gq_vt rfl rfl) (fun he => ap_move (rq_p rfl rfl)) ?_); (refine sg (gq_vt rfl rfl) (fun he => ap_leq (rq_c rfl rfl) (rq_c rfl rfl)) ?_); (refine su (ap_and (rq_p rfl rfl) (rq_c rfl rfl)) ?_); apply jW) | (refine WP.regionC (id := 6) ?_; (refine smove rfl ?_); (refine sassign rfl ?_); apply jW) | exact ret_eq rfl rfl rfl))
def TokB (f : GFi) : Prop := ∀ l, l ∈ f.levels → l.tokens.length ≤ 140737488355328
def szL (f : GFi) (m : Int) : Nat → Int
  | 0 => 0
  | j + 1 => if szL f m j ≤ m then szL f m j + 1 + ((nth f.levels j).tokens.length : Int) else szL f m j
def szA (r : GRu) (m n : Int) : Nat → Int
  | 0 => n
  | k + 1 => if szA r m n k ≤ m then szA r m n k + 1 + nodesR (nth r.alts k).body (m - szA r m n k) else szA r m n k
def szR (f : GFi) (m : Int) : Nat → Int
  | 0 => szL f m f.levels.length
  | i + 1 => if szR f m i ≤ m then szA (nth f.rules i) m (szR f m i + 1) (nth f.rules i).alts.length else szR f m i
def sizeF (f : GFi) (m : Int) : Int := szR f m f.rules.length
theorem szL_over (f : GFi) (m : Int) {j : Nat} (h : m < szL f m j) : ∀ d, szL f m (j + d) = szL f m j
  | 0 => rfl
  | d + 1 => by rw [← Nat.add_assoc, szL, szL_over f m h d, if_neg (by omega)]
theorem szA_over (r : GRu) (m n : Int) {j : Nat} (h : m < szA r m n j) : ∀ d, szA r m n (j + d) = szA r m n j
  | 0 => rfl
  | d + 1 => by rw [← Nat.add_assoc, szA, szA_over r m n h d, if_neg (by omega)]
theorem szR_over (f : GFi) (m : Int) {j : Nat} (h : m < szR f m j) : ∀ d, szR f m (j + d) = szR f m j
  | 0 => rfl
  | d + 1 => by rw [← Nat.add_assoc, szR, szR_over f m h d, if_neg (by omega)]
theorem szL_bd (f : GFi) (hT : TokB f) (m : Int) (h0 : 0 ≤ m) : ∀ j, j ≤ f.levels.length → 0 ≤ szL f m j ∧ szL f m j ≤ m + 140737488355330
  | 0, _ => by rw [szL]; omega
  | j + 1, hj => by
    have h1 := szL_bd f hT m h0 j (by omega)
    have h2 := hT _ (nth_mem (l := f.levels) (k := j) (by omega))
    rw [szL]; split <;> omega
theorem szA_bd (r : GRu) (m n : Int) : ∀ k, n ≤ szA r m n k ∧ (szA r m n k ≤ n ∨ szA r m n k ≤ m + 2)
  | 0 => by rw [szA]; omega
  | k + 1 => by
    have h1 := szA_bd r m n k
    rw [szA]
    split
    · have := nodesR_bd (nth r.alts k).body (m - szA r m n k) (by omega)
      omega
    · exact h1
theorem szR_bd (f : GFi) (hT : TokB f) (m : Int) (h0 : 0 ≤ m) : ∀ i, 0 ≤ szR f m i ∧ szR f m i ≤ m + 140737488355340 ∧ szL f m f.levels.length ≤ szR f m i
  | 0 => by have := szL_bd f hT m h0 f.levels.length (Nat.le_refl _); rw [szR]; omega
  | i + 1 => by
    have h1 := szR_bd f hT m h0 i
    rw [szR]
    split
    · have := szA_bd (nth f.rules i) m (szR f m i + 1) (nth f.rules i).alts.length
      omega
    · exact h1
theorem szL_le {f : GFi} {m : Int} : ∀ j, j ≤ f.levels.length → szL f m j ≤ m → ((toks f j).length : Int) ≤ szL f m j
  | 0, _, _ => by simp [szL, toks]
  | j + 1, hj, h => by
    rw [szL] at h ⊢
    split
    · rename_i hle
      have := szL_le j (by omega) hle
      rw [toks_succ (by omega), List.length_append]
      omega
    · rename_i hle; rw [if_neg hle] at h; exact absurd h hle
theorem toks_small {f : GFi} (hT : TokB f) {m : Int} (h0 : 0 ≤ m) (h : sizeF f m ≤ m) : ((toks f f.levels.length).length : Int) ≤ m := by
  have h1 := szR_bd f hT m h0 f.rules.length
  unfold sizeF at h
  have h2 := szL_le (f := f) (m := m) f.levels.length (Nat.le_refl _) (by omega)
  omega
theorem size_fn (f : GFi) (hT : TokB f) (m : Int) (h0 : 0 ≤ m) (h1 : m ≤ 1000) : Fn Tryd.prog 8 [fileA f, intA m] (intA (sizeF f m)) := by
  refine Fn.intro rfl (by kernel_rfl) Tryd.func8 rfl rfl Tryd.ntmps8 (by exact Nat.le_of_ble_eq_true rfl) ?_; intro Γ hm
  refine wp_lens 0 rfl fun hl => ?_
  have hln : f.rules.length ≤ 9223372036854775807 ∧ f.levels.length ≤ 9223372036854775807 := by have := hl; simp [AV.lens, lensL, fileA, levelsA, grulesA] at this; omega
  have hll : ∀ r, r ∈ f.rules → r.alts.length ≤ 9223372036854775807 := by
    have := hl; simp [AV.lens, lensL, fileA, levelsA, grulesA, lensL_map] at this
    intro r hr
    have := this.2.2.2 _ hr
    simp [gruleA, AV.lens, lensL, altsA] at this
    omega
  (repeat' (first | apply jA | apply jF | apply jH | (refine WP.regionC (id := 0) ?_; (refine se_box rfl (by exact ⟨rfl, rfl⟩) ?_); (refine sassign rfl ?_); apply jW) | (refine WP.regionC ?_; (refine sassign rfl ?_); apply jW)))
  refine wp_loop (fun (j : Nat) => j ≤ f.levels.length) (fun j => f.levels.length - j)
    (fun j => (S 79 [(1, intA m), (2, .ptr 0 3 0 0), (5, intA (szL f m j)), (6, intA (j : Nat))] 1 [(0, some (.arr 3 [fileA f]))])) 0 ⟨[0], ToR.S rfl (by repeat' (first | exact rt_nil | refine rt_t rfl rfl ?_ | refine rt_e rfl rfl ?_)) (by repeat' (first | exact ro_nil | refine ro_p rfl (by first | exact rfl | fail) (by first | (simp [bdL, bdL_append, AV.bd]; done) | fail) ?_)) rfl (by (rw [hm]; exact rfl)) rfl (by (simp [bdT, AV.bd, bdL, bdL_append]; done)) (by repeat' (first | exact True.intro | refine And.intro ?_ ?_ | (simp [bdOq, bdL, bdL_append, AV.bd]; done))) (by (rw [hm]; exact Nat.le_of_ble_eq_true rfl))⟩ (Nat.zero_le _) ?_
  rintro j hj
  have hb := szL_bd f hT m h0 j hj
  by_cases hlt : j < f.levels.length ∧ szL f m j ≤ m
  · have htk := hT _ (nth_mem (l := f.levels) (k := j) hlt.1)
    have hlt1 := hlt.1; have hlt2 := hlt.2
    (repeat' (first | apply jA | apply jF | apply jH | apply jI | apply jN | (refine wp_cond rfl (fun hc => ?_) (fun hc => ?_) <;> (try simp only [sB, ne_eq, reduceCtorEq] at hc) <;> (try (exfalso; omega))) | (refine WP.regionC (id := 3) ?_; (refine smove rfl ?_); (refine sfieldp rfl rfl rfl ?_); (refine sloadp rfl rfl rfl rfl ?_); (refine slenm rfl rfl ?_); (refine slss rfl rfl ?_); (refine smove rfl ?_); (refine sg (gq_vt rfl rfl) (fun he => ap_move (rq_p rfl rfl)) ?_); (refine sg (gq_vt rfl rfl) (fun he => ap_move (rq_p rfl rfl)) ?_); (refine sg (gq_vt rfl rfl) (fun he => ap_leq (rq_c rfl rfl) (rq_c rfl rfl)) ?_); (refine su (ap_and (rq_p rfl rfl) (rq_c rfl rfl)) ?_); apply jW) | (refine WP.regionC (id := 5) ?_; (refine smove rfl ?_); (refine sadd rfl rfl (by exact inr_i64_of (by omega)) ?_); (refine sfieldp rfl rfl rfl ?_); (refine sloadp rfl rfl rfl rfl ?_); (refine smove rfl ?_); (refine sidxn rfl rfl (by omega) ?_); (refine su (afieldi rfl rfl rfl) ?_); (refine su (aloadi rfl rfl) ?_); (refine slenm rfl rfl ?_); (refine sadd rfl rfl (by exact inr_i64_of (by omega)) ?_); (refine sassign rfl ?_); apply jW) | (refine WP.regionC (id := 4) ?_; (refine smove rfl ?_); (refine sadd rfl rfl (by exact inr_i64_of (by omega)) ?_); (refine sassign rfl ?_); apply jW)))
    refine ⟨j + 1, ⟨by omega, by omega⟩, ?_⟩
    rw [szL, if_pos hlt2]
    exact ⟨[0], ToR.S rfl (by repeat' (first | exact rt_nil | refine rt_t rfl rfl ?_ | refine rt_e rfl rfl ?_)) (by repeat' (first | exact ro_nil | refine ro_p rfl (by first | exact rfl | fail) (by first | (simp [bdL, bdL_append, AV.bd]; done) | fail) ?_)) rfl (by (rw [hm]; exact rfl)) rfl (by (simp [bdT, AV.bd, bdL, bdL_append]; done)) (by repeat' (first | exact True.intro | refine And.intro ?_ ?_ | (simp [bdOq, bdL, bdL_append, AV.bd]; done))) (by (rw [hm]; exact Nat.le_of_ble_eq_true rfl))⟩
  have e0 : szL f m j = szR f m 0 := by
    rw [szR]
    by_cases hle : szL f m j ≤ m
    · have : j = f.levels.length := by omega
      rw [this]
    · have := szL_over f m (j := j) (by omega) (f.levels.length - j)
      rw [show j + (f.levels.length - j) = f.levels.length by omega] at this
      exact this.symm
  have hlt' : f.levels.length ≤ j ∨ m < szL f m j := by omega
  (repeat' (first | apply jA | apply jF | apply jH | apply jJ | apply jL | apply jP | (refine wp_cond rfl (fun hc => ?_) (fun hc => ?_) <;> (try simp only [sB, ne_eq, reduceCtorEq] at hc) <;> (try (exfalso; omega))) | (refine WP.regionC (id := 3) ?_; (refine smove rfl ?_); (refine sfieldp rfl rfl rfl ?_); (refine sloadp rfl rfl rfl rfl ?_); (refine slenm rfl rfl ?_); (refine slss rfl rfl ?_); (refine smove rfl ?_); (refine sg (gq_vt rfl rfl) (fun he => ap_move (rq_p rfl rfl)) ?_); (refine sg (gq_vt rfl rfl) (fun he => ap_move (rq_p rfl rfl)) ?_); (refine sg (gq_vt rfl rfl) (fun he => ap_leq (rq_c rfl rfl) (rq_c rfl rfl)) ?_); (refine su (ap_and (rq_p rfl rfl) (rq_c rfl rfl)) ?_); apply jW) | (refine WP.regionC (id := 6) ?_; (refine sassign rfl ?_); apply jW)))
  rw [e0]
  refine wp_loop (fun (i : Nat) => i ≤ f.rules.length) (fun i => f.rules.length - i)
    (fun i => (S 79 [(1, intA m), (2, .ptr 0 3 0 0), (5, intA (szR f m i)), (7, intA (i : Nat))] 1 [(0, some (.arr 3 [fileA f]))])) 0 ⟨[0], ToR.S rfl (by repeat' (first | exact rt_nil | refine rt_t rfl rfl ?_ | refine rt_e rfl rfl ?_)) (by repeat' (first | exact ro_nil | refine ro_p rfl (by first | exact rfl | fail) (by first | (simp [bdL, bdL_append, AV.bd]; done) | fail) ?_)) rfl (by (rw [hm]; exact rfl)) rfl (by (simp [bdT, AV.bd, bdL, bdL_append]; done)) (by repeat' (first | exact True.intro | refine And.intro ?_ ?_ | (simp [bdOq, bdL, bdL_append, AV.bd]; done))) (by (rw [hm]; exact Nat.le_of_ble_eq_true rfl))⟩ (Nat.zero_le _) ?_
  rintro i hi
  have hbr := szR_bd f hT m h0 i
  by_cases hlr : i < f.rules.length ∧ szR f m i ≤ m
  · have hlr1 := hlr.1; have hlr2 := hlr.2
    have hal := hll _ (nth_mem hlr1)
    (repeat' (first | apply jA | apply jF | apply jH | apply jI | (refine wp_cond rfl (fun hc => ?_) (fun hc => ?_) <;> (try simp only [sB, ne_eq, reduceCtorEq] at hc) <;> (try (exfalso; omega))) | (refine WP.regionC (id := 7) ?_; (refine smove rfl ?_); (refine sfieldp rfl rfl rfl ?_); (refine sloadp rfl rfl rfl rfl ?_); (refine slenm rfl rfl ?_); (refine slss rfl rfl ?_); (refine smove rfl ?_); (refine sg (gq_vt rfl rfl) (fun he => ap_move (rq_p rfl rfl)) ?_); (refine sg (gq_vt rfl rfl) (fun he => ap_move (rq_p rfl rfl)) ?_); (refine sg (gq_vt rfl rfl) (fun he => ap_leq (rq_c rfl rfl) (rq_c rfl rfl)) ?_); (refine su (ap_and (rq_p rfl rfl) (rq_c rfl rfl)) ?_); apply jW) | (refine WP.regionC (id := 9) ?_; (refine smove rfl ?_); (refine sadd rfl rfl (by exact inr_i64_of (by omega)) ?_); (refine sassign rfl ?_); apply jW) | (refine WP.regionC (id := 10) ?_; (refine sassign rfl ?_); apply jW)))
    refine wp_loop (fun (k : Nat) => k ≤ (nth f.rules i).alts.length) (fun k => (nth f.rules i).alts.length - k)
      (fun k => (S 79 [(1, intA m), (2, .ptr 0 3 0 0), (5, intA (szA (nth f.rules i) m (szR f m i + 1) k)), (7, intA (i : Nat)), (8, intA (k : Nat))] 1 [(0, some (.arr 3 [fileA f]))])) 0 ⟨[0], ToR.S rfl (by repeat' (first | exact rt_nil | refine rt_t rfl rfl ?_ | refine rt_e rfl rfl ?_)) (by repeat' (first | exact ro_nil | refine ro_p rfl (by first | exact rfl | fail) (by first | (simp [bdL, bdL_append, AV.bd]; done) | fail) ?_)) rfl (by (rw [hm]; exact rfl)) rfl (by (simp [bdT, AV.bd, bdL, bdL_append]; done)) (by repeat' (first | exact True.intro | refine And.intro ?_ ?_ | (simp [bdOq, bdL, bdL_append, AV.bd]; done))) (by (rw [hm]; exact Nat.le_of_ble_eq_true rfl))⟩ (Nat.zero_le _) ?_
    rintro k hk
    have hba := szA_bd (nth f.rules i) m (szR f m i + 1) k
    by_cases hla : k < (nth f.rules i).alts.length ∧ szA (nth f.rules i) m (szR f m i + 1) k ≤ m
    · have hla1 := hla.1; have hla2 := hla.2
      have hnb := nodesR_bd (nth (nth f.rules i).alts k).body (m - szA (nth f.rules i) m (szR f m i + 1) k) (by omega)
      have hx := nodes_fn (nth (nth f.rules i).alts k).body (m - szA (nth f.rules i) m (szR f m i + 1) k) (by omega) (by omega)
      (repeat' (first | apply jA | apply jF | apply jH | apply jI | apply jN | (refine wp_cond rfl (fun hc => ?_) (fun hc => ?_) <;> (try simp only [sB, ne_eq, reduceCtorEq] at hc) <;> (try (exfalso; omega))) | (refine WP.regionC (id := 11) ?_; (refine smove rfl ?_); (refine sfieldp rfl rfl rfl ?_); (refine sloadp rfl rfl rfl rfl ?_); (refine smove rfl ?_); (refine sidxn rfl rfl (by omega) ?_); (refine su (afieldi rfl rfl rfl) ?_); (refine su (aloadi rfl rfl) ?_); (refine slenm rfl rfl ?_); (refine slss rfl rfl ?_); (refine smove rfl ?_); (refine sg (gq_vt rfl rfl) (fun he => ap_move (rq_p rfl rfl)) ?_); (refine sg (gq_vt rfl rfl) (fun he => ap_move (rq_p rfl rfl)) ?_); (refine sg (gq_vt rfl rfl) (fun he => ap_leq (rq_c rfl rfl) (rq_c rfl rfl)) ?_); (refine su (ap_and (rq_p rfl rfl) (rq_c rfl rfl)) ?_); apply jW) | (refine WP.regionC (id := 13) ?_; (refine smove rfl ?_); (refine sadd rfl rfl (by exact inr_i64_of (by omega)) ?_); (refine sfieldp rfl rfl rfl ?_); (refine sloadp rfl rfl rfl rfl ?_); (refine smove rfl ?_); (refine sidxn rfl rfl (by omega) ?_); (refine su (afieldi rfl rfl rfl) ?_); (refine su (aloadi rfl rfl) ?_); (refine smove rfl ?_); (refine sidxn rfl rfl (by omega) ?_); (refine su (afieldi rfl rfl rfl) ?_); (refine su (aloadi rfl rfl) ?_); (refine smove rfl ?_); (refine smove rfl ?_); (refine su (asub rfl rfl (by exact inr_i64_of (by omega))) ?_); (refine sc_p rfl rfl (by first | ((repeat' first | exact SubL.nil | refine SubL.cons ?_ ?_ | exact Sub.refl); done) | fail) (by first | (simp [bdL, bdL_append, AV.bd]; done) | fail) (hx) ?_); (refine sadd rfl rfl (by exact inr_i64_of (by omega)) ?_); (refine sassign rfl ?_); apply jW) | (refine WP.regionC (id := 12) ?_; (refine smove rfl ?_); (refine sadd rfl rfl (by exact inr_i64_of (by omega)) ?_); (refine sassign rfl ?_); apply jW)))
      refine ⟨k + 1, ⟨by omega, by omega⟩, ?_⟩
      rw [szA, if_pos hla2]
      exact ⟨[0], ToR.S rfl (by repeat' (first | exact rt_nil | refine rt_t rfl rfl ?_ | refine rt_e rfl rfl ?_)) (by repeat' (first | exact ro_nil | refine ro_p rfl (by first | exact rfl | fail) (by first | (simp [bdL, bdL_append, AV.bd]; done) | fail) ?_)) rfl (by (rw [hm]; exact rfl)) rfl (by (simp [bdT, AV.bd, bdL, bdL_append]; done)) (by repeat' (first | exact True.intro | refine And.intro ?_ ?_ | (simp [bdOq, bdL, bdL_append, AV.bd]; done))) (by (rw [hm]; exact Nat.le_of_ble_eq_true rfl))⟩
    have e2 : szA (nth f.rules i) m (szR f m i + 1) k = szR f m (i + 1) := by
      rw [szR, if_pos hlr2]
      by_cases hle : szA (nth f.rules i) m (szR f m i + 1) k ≤ m
      · have : k = (nth f.rules i).alts.length := by omega
        rw [this]
      · have := szA_over (nth f.rules i) m (szR f m i + 1) (j := k) (by omega) ((nth f.rules i).alts.length - k)
        rw [show k + ((nth f.rules i).alts.length - k) = (nth f.rules i).alts.length by omega] at this
        exact this.symm
    have hla' : (nth f.rules i).alts.length ≤ k ∨ m < szA (nth f.rules i) m (szR f m i + 1) k := by omega
    (repeat' (first | apply jA | apply jH | apply jJ | apply jL | apply jN | apply jP | (refine wp_cond rfl (fun hc => ?_) (fun hc => ?_) <;> (try simp only [sB, ne_eq, reduceCtorEq] at hc) <;> (try (exfalso; omega))) | (refine WP.regionC (id := 11) ?_; (refine smove rfl ?_); (refine sfieldp rfl rfl rfl ?_); (refine sloadp rfl rfl rfl rfl ?_); (refine smove rfl ?_); (refine sidxn rfl rfl (by omega) ?_); (refine su (afieldi rfl rfl rfl) ?_); (refine su (aloadi rfl rfl) ?_); (refine slenm rfl rfl ?_); (refine slss rfl rfl ?_); (refine smove rfl ?_); (refine sg (gq_vt rfl rfl) (fun he => ap_move (rq_p rfl rfl)) ?_); (refine sg (gq_vt rfl rfl) (fun he => ap_move (rq_p rfl rfl)) ?_); (refine sg (gq_vt rfl rfl) (fun he => ap_leq (rq_c rfl rfl) (rq_c rfl rfl)) ?_); (refine su (ap_and (rq_p rfl rfl) (rq_c rfl rfl)) ?_); apply jW) | (refine WP.regionC (id := 8) ?_; (refine smove rfl ?_); (refine sadd rfl rfl (by exact inr_i64_of (by omega)) ?_); (refine sassign rfl ?_); apply jW)))
    refine ⟨i + 1, ⟨by omega, by omega⟩, ?_⟩
    rw [← e2]
    exact ⟨[0], ToR.S rfl (by repeat' (first | exact rt_nil | refine rt_t rfl rfl ?_ | refine rt_e rfl rfl ?_)) (by repeat' (first | exact ro_nil | refine ro_p rfl (by first | exact rfl | fail) (by first | (simp [bdL, bdL_append, AV.bd]; done) | fail) ?_)) rfl (by (rw [hm]; exact rfl)) rfl (by (simp [bdT, AV.bd, bdL, bdL_append]; done)) (by repeat' (first | exact True.intro | refine And.intro ?_ ?_ | (simp [bdOq, bdL, bdL_append, AV.bd]; done))) (by (rw [hm]; exact Nat.le_of_ble_eq_true rfl))⟩
  have e3 : sizeF f m = szR f m i := by
    unfold sizeF
    by_cases hle : szR f m i ≤ m
    · have : i = f.rules.length := by omega
      rw [this]
    · have := szR_over f m (j := i) (by omega) (f.rules.length - i)
      rw [show i + (f.rules.length - i) = f.rules.length by omega] at this
      exact this
  have hlr' : f.rules.length ≤ i ∨ m < szR f m i := by omega
  rw [e3]
  (repeat' (first | apply jA | apply jH | apply jJ | apply jK | apply jL | apply jP | apply jS | (refine wp_cond rfl (fun hc => ?_) (fun hc => ?_) <;> (try simp only [sB, ne_eq, reduceCtorEq] at hc) <;> (try (exfalso; omega))) | (refine WP.regionC (id := 7) ?_; (refine smove rfl ?_); (refine sfieldp rfl rfl rfl ?_); (refine sloadp rfl rfl rfl rfl ?_); (refine slenm rfl rfl ?_); (refine slss rfl rfl ?_); (refine smove rfl ?_); (refine sg (gq_vt rfl rfl) (fun he => ap_move (rq_p rfl rfl)) ?_); (refine sg (gq_vt rfl rfl) (fun he => ap_move (rq_p rfl rfl)) ?_); (refine sg (gq_vt rfl rfl) (fun he => ap_leq (rq_c rfl rfl) (rq_c rfl rfl)) ?_); (refine su (ap_and (rq_p rfl rfl) (rq_c rfl rfl)) ?_); apply jW) | (refine WP.regionC (id := 14) ?_; (refine smove rfl ?_); (refine sassign rfl ?_); apply jW) | exact ret_eq rfl rfl rfl))
end Go.Lg

namespace Go.Lg
open Go.Proofs Go.RowKit Go.ChangeShapes Go.WideShapes
def wtOk (l : List Nat) : Bool := l.all (· ≤ reachBytes)
theorem wtOk_app {a b : List Nat} : wtOk (a ++ b) = true ↔ wtOk a = true ∧ wtOk b = true := by simp [wtOk]
structure DatW (P : Program) (t : TypeId) {α : Type} (f : α → AV) : Prop where
  dat : ∀ {H : Type} {enc : TypeId × Value → H} {w : World} {fuel : Nat} {cs : List Value} {x : DataW H × List MemPlace},
    DataW.trod enc P w 0 (fun _ => true) true fuel t cs = some x → wtOk (x.1.weights P t) = true → ∃ a : α, CW0 w (f a).cells cs
theorem DatW.of {P : Program} {t : TypeId} {α : Type} {f : α → AV} (h : Dat P t f) : DatW P t f := ⟨fun hx _ => h.dat hx⟩
theorem weightsAll_ok {P : Program} {H : Type} {e : TypeId} : ∀ {l : List (DataW H)}, wtOk (DataW.weightsAll P e l) = true → ∀ d, d ∈ l → wtOk (d.weights P e) = true
  | [], _, d, hd => by cases hd
  | x :: l, h, d, hd => by
    rw [DataW.weightsAll, wtOk_app] at h
    rcases List.mem_cons.1 hd with rfl | hd
    · exact h.1
    · exact weightsAll_ok h.2 d hd
section
variable {P : Program} {w : World}
theorem sl_len {k len c : Nat} {es : List AV} {a : Option Addr} (h : RW0 w (.sl k es) (.slice a len c)) : es.length = len := by
  generalize hv : Value.slice a len c = v at h
  cases h with
  | nils => injection hv with h1 h2 h3; subst h2; rfl
  | sl => injection hv with h1 h2 h3; exact h2.symm
theorem cw0_one {x : AV} {v : Value} (hx : x.one = true) (h : CW0 w [x] [v]) : RW0 w x v := h.vals 0 x v rfl rfl
theorem datw_flat {t e : TypeId} {α : Type} {f : α → AV} {k bt : Nat} (ht : P.underlying t = some (.slice e)) (hb : P.bytesOf e = bt) (hb0 : 0 < bt) (h : Dat P t (fun l : List α => AV.sl k (l.map f))) : DatW P t (fun l : {l : List α // l.length ≤ 140737488355328} => AV.sl k (l.1.map f)) := ⟨fun {H} {enc} {w} {fuel} {cs} {x} hx hw => by
  obtain ⟨l, hl⟩ := h.dat hx
  refine ⟨⟨l, ?_⟩, hl⟩
  rcases DataW.trod_slice ht hx with ⟨rfl, rfl⟩ | ⟨a, len, cap, elems, rest, n, _, rfl, rfl, _, _, _, hlen, _, _⟩
  · have := sl_len (cw0_one rfl hl)
    rw [List.length_map] at this; omega
  · have h2 := sl_len (cw0_one rfl hl)
    rw [List.length_map] at h2
    simp only [DataW.weights, ht, List.length_map, wtOk, List.all_cons, Bool.and_eq_true, decide_eq_true_eq, hb] at hw
    have h3 := hw.1
    have h4 : elems.length ≤ (elems.length + rest.length) * bt := by
      calc elems.length ≤ elems.length + rest.length := Nat.le_add_right _ _
        _ ≤ (elems.length + rest.length) * bt := Nat.le_mul_of_pos_right _ hb0
    unfold reachBytes at h3
    omega⟩
theorem datw_slice {t e : TypeId} {α : Type} {f : α → AV} {k : Nat} (ht : P.underlying t = some (.slice e)) (hk : P.cellsOf e = k) (hk0 : 0 < k) (hf : ∀ a, (f a).cells.length = k) (he : DatW P e f) : DatW P t (fun l : List α => AV.sl k (l.map f)) := ⟨fun {H} {enc} {w} {fuel} {cs} {x} h hw => by
  rcases DataW.trod_slice ht h with ⟨rfl, _⟩ | ⟨a, len, cap, elems, rest, n, hn, rfl, rfl, hb, hl, hm, hlen, hel, _⟩
  · exact ⟨[], CR.one .nils rfl⟩
  · simp only [DataW.weights, ht] at hw
    rw [show ∀ (a : Nat) (b : List Nat), a :: b = [a] ++ b from fun _ _ => rfl, wtOk_app, wtOk_app] at hw
    have hwe := weightsAll_ok hw.2.1
    have each : ∀ i, i < elems.length → ∃ y : α, ∃ cs : List Value, CW0 w (f y).cells cs ∧ ∀ j, j < k → w.cell? ((a.add (i * k)).add j) = cs[j]? := fun i hi => by
      have := hel i (by omega)
      rw [List.getElem?_eq_getElem hi, Option.bind_eq_some_iff, hk] at this
      obtain ⟨cs, h1, h2⟩ := this
      obtain ⟨y, hy⟩ := he.dat h2 (hwe _ (List.mem_map.2 ⟨_, List.getElem_mem hi, rfl⟩))
      exact ⟨y, cs, hy, (World.cells?_some h1).2.2⟩
    obtain ⟨zs, h1, h2⟩ := list_of_each each
    refine ⟨zs, ?_⟩
    cases zs with
    | nil =>
      have : len = 0 := by simp at h1; omega
      subst this
      exact CR.one .nils rfl
    | cons y zs =>
      obtain ⟨cs0, c1, c2⟩ := h2 0 y rfl
      have hcs0 : cs0.length = k := by rw [c1.len, hf]
      have hcell0 : w.cell? ((a.add (0 * k)).add 0) = some (cs0[0]'(by omega)) := by rw [c2 0 hk0, List.getElem?_eq_getElem (by omega)]
      have hsp : a.spot = none := by
        have := World.cell?_spot hcell0
        simpa [Addr.add] using this
      obtain ⟨b, o, sp⟩ := a
      simp only at hsp; subst hsp
      have hlt : b < w.heap.size := by
        have : w.cell? ⟨b, o, none⟩ ≠ none := by
          have := hcell0
          simp [Addr.add] at this
          rw [this]; simp
        by_cases hb : b < w.heap.size
        · exact hb
        · exfalso; apply this; unfold World.cell?; simp [Array.getElem?_eq_none (Nat.le_of_not_lt hb)]
      obtain ⟨g, hg⟩ := cr_flat (k := k) (cell := fun j => w.cell? ⟨b, j, none⟩) ((y :: zs).map f) o (fun e he => by obtain ⟨z, _, rfl⟩ := List.mem_map.1 he; exact hf z) (fun i e hi => by
        rw [List.getElem?_map, Option.map_eq_some_iff] at hi
        obtain ⟨z, hz, rfl⟩ := hi
        obtain ⟨cs, q1, q2⟩ := h2 i z hz
        refine ⟨cs, q1, fun j hj => ?_⟩
        have := q2 j hj
        rwa [add_lit, add_lit] at this)
      have hlen' : ((y :: zs).map f).length = len := by simp only [List.length_map]; omega
      have key : RW0 w (.sl k ((y :: zs).map f)) (.slice (some ⟨b, o, none⟩) ((y :: zs).map f).length cap) :=
        .sl g ⟨by omega, hm⟩ hlt (fun e he => by obtain ⟨z, _, rfl⟩ := List.mem_map.1 he; exact hf z) (fun j hj => (hg j hj).1) (fun j hj => (hg j hj).2.1) (fun j x hx => (hg j ((List.getElem?_eq_some_iff.1 hx).1)).2.2 x hx)
      rw [hlen'] at key
      exact CR.one key rfl⟩
def eachFieldW {H : Type} (enc : TypeId × Value → H) (P : Program) (w : World) (cs : List Value) : List (TypeId × Nat) → Prop
  | [] => True
  | (t, o) :: r => (∃ fuel x, DataW.trod enc P w 0 (fun _ => true) true fuel t ((cs.drop o).take (P.cellsOf t)) = some x ∧ wtOk (x.1.weights P t) = true) ∧ eachFieldW enc P w cs r
theorem datw_fields {t : TypeId} {l : List (TypeId × Nat)} {α : Type} {f : α → AV} {m : Nat} (hl : fieldTO P t = some l) (hm : P.cellsOf t = m)
    (h : ∀ {H : Type} {enc : TypeId × Value → H} {w : World} {cs : List Value}, cs.length = m → eachFieldW enc P w cs l → ∃ a : α, CW0 w (f a).cells (cs.drop 0)) : DatW P t f := ⟨fun {H} {enc} {w} {fuel} {cs} {x} hx hw => by
  unfold fieldTO at hl
  split at hl
  · rename_i fs ht
    injection hl with hl
    obtain ⟨xs, n, hn, rfl, hlc, hlen, hf⟩ := DataW.trod_struct ht hx
    simp only [DataW.weights, ht] at hw
    rw [hm] at hlc
    have gen : ∀ (gs : List Field) (ys : List (DataW H × List MemPlace)), gs.length = ys.length → (∀ (i : Nat) (g : Field), gs[i]? = some g → DataW.trod enc P w 0 (fun _ => true) true n g.type ((cs.drop g.offset).take (P.cellsOf g.type)) = ys[i]?) →
        wtOk (DataW.weightsEach P (gs.map (·.type)) (ys.map (·.1))) = true → eachFieldW enc P w cs (gs.map fun g => (g.type, g.offset)) := by
      intro gs
      induction gs with
      | nil => intro _ _ _ _; trivial
      | cons g gs ih =>
        intro ys hly hg hw
        cases ys with
        | nil => simp at hly
        | cons y ys =>
          simp only [List.map_cons, DataW.weightsEach, wtOk_app] at hw
          exact ⟨⟨n, y, by have := hg 0 g rfl; simpa using this, hw.1⟩, ih ys (by simpa using hly) (fun i g' hg' => by have := hg (i + 1) g' (by simpa using hg'); simpa using this) hw.2⟩
    have := h (enc := enc) (w := w) hlc (by
      rw [← hl]
      exact gen fs.toList xs (by simp [hlen]) (fun i g hg => hf i g (by rw [← Array.getElem?_toList]; exact hg)) hw)
    simpa using this
  · cases hl⟩
theorem fieldw_dat {H : Type} {enc : TypeId × Value → H} {t : TypeId} {o n : Nat} {α : Type} {f : α → AV} {cs : List Value} (hd : DatW P t f) (h : ∃ fuel x, DataW.trod enc P w 0 (fun _ => true) true fuel t ((cs.drop o).take (P.cellsOf t)) = some x ∧ wtOk (x.1.weights P t) = true) (hn : P.cellsOf t = n) : ∃ a : α, CW0 w (f a).cells ((cs.drop o).take n) := by
  obtain ⟨fuel, x, hx, hw⟩ := h
  rw [hn] at hx
  exact hd.dat hx hw
end
theorem datw_strs : DatW Tryd.prog 26 (fun l : {l : List {s : ByteArray // SzOk s} // l.length ≤ 140737488355328} => AV.sl 1 (l.1.map fun s => strA s.1)) :=
  datw_flat (e := 9) (bt := 16) (by kernel_rfl) (by kernel_rfl) (by decide) (dat_slice (e := 9) (k := 1) (f := fun s : {s : ByteArray // SzOk s} => strA s.1) (by kernel_rfl) (by kernel_rfl) (by decide) (fun _ => rfl))
def LvB (l : GLe) : Prop := l.fit ∧ l.tokens.length ≤ 140737488355328
theorem datw_level : DatW Tryd.prog 63 (fun l : {l : GLe // LvB l} => levelA l.1) := datw_fields (l := [(3, 0), (26, 1)]) (m := 2) (by kernel_rfl) (by kernel_rfl) fun hc ⟨h0, h1, _⟩ => by
  obtain ⟨a0, h0⟩ := fieldw_dat (DatW.of dat_int_i) h0 (n := 1) (by kernel_rfl)
  obtain ⟨a1, h1⟩ := fieldw_dat datw_strs h1 (n := 1) (by kernel_rfl)
  rw [map_val] at h1
  exact ⟨⟨⟨a0, a1.1.map Subtype.val⟩, val_ok a1.1, by simpa using a1.2⟩, CR.seg h0 (CR.seg h1 (CR.fin (by omega)))⟩
theorem datw_levels : DatW Tryd.prog 22 (fun l : List {l : GLe // LvB l} => .sl 2 (l.map fun l => levelA l.1)) := datw_slice (e := 63) (k := 2) (by kernel_rfl) (by kernel_rfl) (by decide) (fun _ => rfl) datw_level
theorem datw_file : DatW Tryd.prog 25 (fun f : {f : GFi // f.fit ∧ TokB f} => fileA f.1) := datw_fields (l := [(9, 0), (22, 1), (23, 2)]) (m := 3) (by kernel_rfl) (by kernel_rfl) fun hc ⟨h0, h1, h2, _⟩ => by
  obtain ⟨a0, h0⟩ := fieldw_dat (DatW.of dat_str_i) h0 (n := 1) (by kernel_rfl)
  obtain ⟨a1, h1⟩ := fieldw_dat datw_levels h1 (n := 1) (by kernel_rfl)
  obtain ⟨a2, h2⟩ := fieldw_dat (DatW.of dat_grules_i) h2 (n := 1) (by kernel_rfl)
  rw [map_val] at h1 h2
  exact ⟨⟨⟨a0.1, a1.map Subtype.val, a2.map Subtype.val⟩, ⟨a0.2, fun l hl => (val_ok a1 l hl).1, val_ok a2⟩, fun l hl => (val_ok a1 l hl).2⟩, CR.seg h0 (CR.seg h1 (CR.seg h2 (CR.fin (by omega))))⟩
set_option maxRecDepth 20000
theorem arg_fileW {H : Type} {enc : TypeId × Value → H} {w : World} {v : Value} {d : DataW H} {ps : List MemPlace} (h : DataW.Trod enc Tryd.prog w 0 (fun _ => true) true 25 v d ps) {r : Reach} {b0 : Nat} (hval : Value.okWide Tryd.prog w r b0 25 v) (hw : wtOk (d.weights Tryd.prog 25) = true) : ∃ g : GFi, (g.fit ∧ TokB g) ∧ RW0 w (fileA g) v := by
  obtain ⟨fs, hfs⟩ := agg_file
  obtain ⟨fuel, h⟩ := h
  obtain ⟨g, hg⟩ := datw_file.dat h hw
  obtain ⟨vs, rfl, _⟩ := okWide_struct hfs hval
  exact ⟨g.1, g.2, CR.agg hg⟩
end Go.Lg

namespace Go.Lg
open Go.Proofs Go.RowKit Go.ChangeShapes Go.WideShapes
set_option maxRecDepth 20000
theorem handed_laidW {H : Type} {enc : TypeId × Value → H} {a : Assume} {C : Checked} {os : Os} {f : FuncId} {fn : Func} {s : ChangeSpec} {conds : List PathCond} {apart fresh handsOn again : Bool} {X : World → Array Value → Prop}
    (hX : ∀ (w w' : World) (args : Array Value), w.heap = w'.heap → X w args → X w' args)
    (own : ownKnob C.prog.godebug = none) (started : os.Started) (noInit : C.prog.inits.idxOf? f = none) (hfn : C.prog.funcs[f]? = some fn)
    (witness : ∃ (w : World) (tape : Tape) (i : Input), w.os = os ∧ (w.forCall tape i).Shaped C.prog ∧ i.vars = [] ∧ Input.okWide C.prog (w.forCall tape i) .any w.heap.size f i ∧
      ((s.pre enc C.prog fn conds apart (w.forCall tape i).memory i.args ∧ X (w.forCall tape i).memory i.args) ∧ sizedMet enc C.prog fn (OpenSpec.ofChange s) apart (w.forCall tape i).memory i.args) ∧ a.holds C.prog (lone (Frame.enter C.prog f i.args .normal) [] (w.forCall tape i)))
    (contract : ∀ (W : World) (base : Nat) (args : Array Value) (ds gs : List (DataW H)) (before : List MemPlace),
      (∀ (j : Nat) t v, fn.params[j]? = some t → args[j]? = some v → Value.okWide C.prog W .any base t v) →
      DataW.Whole enc C.prog fn.params.toList s.vars apart W args.toList ds gs before → W.ShapedOpen C.prog → X W args → wtOk (DataW.weightsEach C.prog (fn.params.toList ++ (OpenSpec.ofChange s).bare.plain.varTypes C.prog) (ds ++ gs)) = true →
      Calls C.prog f args W fun e W' => ∃ v, e = .returned v ∧ s.post enc C.prog fn apart fresh handsOn again W args v W') :
    ReturnsInHanded a C os f .any (fun w args => (s.pre enc C.prog fn conds apart w args ∧ X w args) ∧ sizedMet enc C.prog fn (OpenSpec.ofChange s) apart w args) (s.post enc C.prog fn apart fresh handsOn again) := by
  refine returnsInHanded_of_calls own started noInit witness ?_
  intro w tape i _ hsh _ hok hpre hholds
  obtain ⟨_, _, _, fn', hfn', _, _, _, _, hval⟩ := hok
  have e : fn' = fn := Option.some.inj (hfn'.symm.trans hfn)
  subst e
  obtain ⟨⟨⟨ds, gs, before, hw, hc⟩, hx⟩, hz⟩ := hpre
  have hwt := hz.weights hw
  have hw' := DataW.Whole.of_heap (w' := w.forCall tape i) (by rfl) hw
  refine (contract (w.forCall tape i) w.heap.size i.args ds gs before hval hw' hsh (hX _ _ _ (by rfl) hx) hwt).mono fun e W' ⟨v, he, hp⟩ => ?_
  subst he
  exact ChangeSpec.post_blind hp
end Go.Lg

namespace Go.Lg
open Go.RowKit
theorem bsz (a : Array UInt8) : (⟨a⟩ : ByteArray).size = a.size := rfl
structure FnO (P : Program) (g : FuncId) (ys : List AV) (os : List AObj) (X : AV) (os' : List (Option AObj)) : Prop where
  spec : Spec P g ys (os.map some) fun r o' => r = X ∧ o' = os'
  len : os.length ≤ os'.length
  bd : X.bd os'.length = true
def newO (π : Nat → Nat) (M : Nat) : List (Option AObj) → List (Nat × Option AObj) → List (Nat × Option AObj)
  | [], os => os
  | o :: r, os => newO π (M + 1) r ((M, o.map (AObj.ren π)) :: os)
def updN (π : Nat → Nat) (M : Nat) : List Nat → List (Option AObj) → List (Nat × Option AObj) → List (Nat × Option AObj)
  | i :: is, o :: os', os => updN π M is os' ((i, o.map (AObj.ren π)) :: os)
  | _, os', os => newO π M os' os
theorem ol_newO {π : Nat → Nat} : ∀ (os' : List (Option AObj)) (M : Nat) (os : List (Nat × Option AObj)), ol M os ++ os'.map (Option.map (AObj.ren π)) = ol (M + os'.length) (newO π M os' os)
  | [], M, os => by simp [newO]
  | o :: r, M, os => by
    rw [List.map_cons, ← List.singleton_append, ← List.append_assoc, ol_push, ol_newO r (M + 1), newO]
    congr 1; simp; omega
theorem updN_ol {π : Nat → Nat} {M : Nat} : ∀ (is : List Nat) (os' : List (Option AObj)) (os : List (Nat × Option AObj)), is.length ≤ os'.length → updO π (ol M os) is os' = ol (M + (os'.length - is.length)) (updN π M is os' os)
  | [], os', os, _ => by
    have e : updN π M [] os' os = newO π M os' os := by unfold updN; rfl
    have e2 : updO π (ol M os) [] os' = ol M os ++ os'.map (Option.map (AObj.ren π)) := by unfold updO; rfl
    rw [e, e2, ol_newO]; simp
  | i :: is, o :: os', os, h => by
    simp only [updO, ol_set, updN]
    rw [updN_ol is os' _ (by simpa using h)]
    simp
  | _ :: _, [], _, h => by simp at h
section
variable {P : Program} {Γ : Cx} {n M : Nat} {l : List (Nat × AV)} {os : List (Nat × Option AObj)} {x X : AV} {d t : Tmp} {ty : TypeId} {pos : String} {af : Array Edge} {ops : Array Oper} {rest : List Oper} {K : St → Prop} {g : FuncId} {first cap xa ys : List AV} {f : Operand} {args : Array Operand} {tys : Array TypeId}
theorem sc_o {aos : List AObj} {os' : List (Option AObj)} (is : List Nat) (hf : opq n l f = some (.clo (.func g) first cap)) (has : opqL n l args.toList = some xa) (hspec : FnO P g ys aos X os')
    (hL : Lend is (S n l M os) (first ++ xa ++ cap) ys aos)
    (hk : asemC P ops rest (S n ((d, X.ren (apx M is)) :: l) (M + (os'.length - is.length)) (updN (apx M is) M is os' os)) K) :
    asemC P ops (⟨some d, .call ⟨.value f, args, tys⟩, ty, pos, af, none⟩ :: rest) (S n l M os) K := by
  simp only [asemC]
  refine .inl ?_
  have hM : (S n l M os).objs.length = M := ol_length M os
  simp only [execA, opq_op hf, opqL_op has]
  refine Call.via is hspec.spec hL ?_
  rintro r o' ⟨rfl, rfl⟩
  have hil : is.length = aos.length := by have := wkRO_len hL.2.1; simpa using this.symm
  have := hspec.len
  refine ⟨hspec.len, hspec.bd, ?_⟩
  rw [hM]
  have e : (⟨(S n l M os).tmps, updO (apx M is) (S n l M os).objs is o'⟩ : St) = S n l (M + (o'.length - is.length)) (updN (apx M is) M is o' os) := by
    simp only [S]; rw [updN_ol is o' os (by omega)]
  rw [e, S_put]
  exact hk
def RetO (P : Program) (rs : List ResultVar) (m : Nat) (X : AV) (os' : List (Option AObj)) (s : St) : Prop :=
  ∃ x is, resN P s rs = some x ∧ ToR m is ⟨[x], s.objs⟩ ⟨[X], os'⟩
theorem FnO.intro {fn : Func} {c : Code} {aos : List AObj} {os' : List (Option AObj)} {rs : List ResultVar} (hlen : aos.length ≤ os'.length) (hbd : X.bd os'.length = true) (he : enterable P g = true) (hf : P.funcs[g]? = some fn) (hb : fn.body = some c) (hrs : fn.results = rs.toArray) (hn : fn.ntmps = n) (hl : ys.length ≤ n)
    (h : ∀ Γ : Cx, Γ.m = aos.length → WP P Γ c (bodyQ (RetO P rs aos.length X os')) (S n (enumA 0 ys) aos.length (enumO 0 aos))) : FnO P g ys aos X os' := by
  refine ⟨Spec.introR he hf hb (rs := rs) (by rw [hrs]) fun Γ hm => ?_, hlen, hbd⟩
  subst hn
  rw [List.length_map] at hm
  rw [tl_start _ _ hl]
  have hw := h Γ hm
  simp only [S, ← ol_enum] at hw
  refine WP.mono hw ?_
  have key : ∀ s, RetO P rs aos.length X os' s → ∃ x y l t, resN P s rs = some x ∧ ToR (aos.map some).length l ⟨[x], s.objs⟩ ⟨[y], t⟩ ∧ (y = X ∧ t = os') := by
    rintro s ⟨x, is, h1, h2⟩
    exact ⟨x, X, is, os', h1, by rw [List.length_map]; exact h2, rfl, rfl⟩
  intro e s hq
  cases e with
  | normal => exact key s hq
  | ret => exact key s hq
  | _ => exact hq
theorem retO_L {m : Nat} {rs : List ResultVar} {xs : List AV} {os' : List (Option AObj)} {os1 : List (Nat × Option AObj)} {k : Nat} (hr : ResL P n l M os rs xs) (hx : tupA xs = x) (hT : ∃ is, ToR m is (S 1 [(0, x)] M os) (S 1 [(0, X)] k os1)) (he : ol k os1 = os') : RetO P rs m X os' (S n l M os) := by
  obtain ⟨is, hT⟩ := hT
  refine ⟨x, is, ?_, ?_⟩
  · simp only [resN, hr.ok, Option.map_some, hx]
  · subst he
    have e1 : ∀ y : AV, tl 1 [(0, y)] = [y] := fun y => rfl
    simp only [S, e1] at hT
    exact hT
end
end Go.Lg

namespace Go.Lg
open Go.RowKit
def WPL (P : Program) (Γ : Cx) (ops : Array Oper) (l : List Oper) (Q : Exit → St → Prop) (s : St) : Prop :=
  ∀ a w, SR Γ s a w → wpList P ops (fun e a' w' => ∃ s', Q e s' ∧ SR Γ s' a' w') l a w
section
variable {P : Program} {Γ : Cx} {ops : Array Oper} {Q : Exit → St → Prop} {s : St} {rest : List Oper} {o : Oper}
theorem wpl_region {id : Nat} {l : List Oper} (h : WPL P Γ l.toArray l Q s) : WP P Γ (.region id l.toArray false) Q s := fun a w hs => wp_region_lit (h a w hs)
theorem wpl_step (hg : o.guard = none) (h : asemC P ops [o] s fun s' => WPL P Γ ops rest Q s') : WPL P Γ ops (o :: rest) Q s := fun a w hs =>
  wpList_plain hg fun K hK => Oper.wp_mono (fun a' w' ⟨s', h1, h2⟩ => hK a' w' (h1 a' w' h2)) (asemC_one hg hs h)
theorem wpl_end (h : Q .normal s) : WPL P Γ ops [] Q s := fun a w hs => ⟨s, h, hs⟩
variable {n M : Nat} {l : List (Nat × AV)} {os : List (Nat × Option AObj)}
theorem wpl_frz {id k len : Nat} {vs : List AV} (j : Nat) (hm : Γ.m = 0) (h : opq n l (.tmp j) = some (.ref id k 0 len)) (ho : lookq M os id = some (.arr k vs)) (hl : vs.length = len) (hb : bdL 0 vs = true) (hk : (vs.all fun x => Nat.beq x.cells.length k) = true)
    (hw : WPL P Γ ops rest Q (S n ((j, .sl k vs) :: l) M ((id, none) :: os))) : WPL P Γ ops rest Q (S n l M os) := fun a w hs => by
  refine hw a w ?_
  obtain ⟨ρ, hs⟩ := hs
  have hj : j < n := by
    simp only [opq] at h
    cases hb : Nat.blt j n with
    | false => rw [hb] at h; simp at h
    | true => exact blt_of hb
  have hx := opq_op (M := M) (os := os) h
  simp only [St.op, S] at hx
  rw [tl_getD l hj] at hx
  have hlen : a.tmps.size = n := by rw [hs.len]; simp [S, tl_length]
  have hv : a.tmps[j]? = some (a.tmps[j]'(by omega)) := Array.getElem?_eq_getElem (by omega)
  have hrv := hs.tmp j (.ref id k 0 len) _ (by simp only [S, tl_get l hj, hx]) hv
  have h1 := hs.kill id
  have hmap : vs.attach.map (fun x => x.1) = vs := List.attach_map_subtype_val vs
  have hlist := hs.list (α := {x // x ∈ vs}) (f := fun x => x.1) (L := vs.attach) hm (by rw [S_look, hmap]; exact ho) (by simpa using hl) (fun x => bdL_iff.1 hb x.1 x.2) (fun x => Nat.eq_of_beq_eq_true (List.all_eq_true.1 hk x.1 x.2)) hrv
  rw [hmap] at hlist
  have h2 := h1.put (some j) hlist
  rw [act_same hv] at h2
  refine ⟨ρ, ?_⟩
  have e : ((S n l M os).set id none).put (some j) (.sl k vs) = S n ((j, .sl k vs) :: l) M ((id, none) :: os) := by simp [S, St.set, St.put, ol_set, tl_set]
  rw [e] at h2
  simpa [S, ol_length] using h2
end
end Go.Lg

namespace Go.Lg
open Go.RowKit
def CallX (P : Program) (fv : AV) (args : List AV) (s : St) (v : Value) (s' : St) : Prop :=
  ∀ (Γ : Cx) (a : Act) (w : World) (f : Value) (vs : List Value), SR Γ s a w → (∀ ρ, SRa Γ (fun id => id < s.objs.length) ρ s a w → RV (fun id => id < s.objs.length) ρ (Im Γ ρ s w) w fv f ∧ vs.length = args.length ∧
      ∀ (i : Nat) x v, args[i]? = some x → vs[i]? = some v → RV (fun id => id < s.objs.length) ρ (Im Γ ρ s w) w x v) →
    ∃ g us, (∀ w : World, (do let d ← Deferred.ofValue f vs.toArray; invoke d.target d.args : Sem Next).run P w = .ok (.enter g us) w) ∧
      Calls P g us w fun e w' => e = .panicked [{ v, recovered := false }] ∧ SR Γ s' a w'
structure FnX (P : Program) (g : FuncId) (ys : List AV) (os : List AObj) (v : Value) : Prop where
  en : enterable P g = true
  spec : ∀ (Γ : Cx) (vs : Array Value), Γ.m = (os.map some).length → SR Γ ⟨ys, os.map some⟩ ⟨vs, []⟩ Γ.w0 →
    Calls P g vs Γ.w0 fun e w' => e = .panicked [{ v, recovered := false }] ∧ SR Γ ⟨[.any], os.map fun _ => none⟩ ⟨#[undef], []⟩ w'
section
variable {P : Program} {Γ : Cx} {A : Nat → Prop} {ρ : Nat → Option Nat} {s : St} {a : Act} {w : World}
theorem SRa.view {g : FuncId} {first cap args ys : List AV} {os : List AObj} (l : List Nat) {f : Value} {vs : List Value} (he : enterable P g = true) (h : SRa Γ (fun id => id < s.objs.length) ρ s a w)
    (hf : RV (fun id => id < s.objs.length) ρ (Im Γ ρ s w) w (.clo (.func g) first cap) f) (hl : vs.length = args.length) (hv : ∀ (i : Nat) x v, args[i]? = some x → vs[i]? = some v → RV (fun id => id < s.objs.length) ρ (Im Γ ρ s w) w x v) (hL : Lend l s (first ++ args ++ cap) ys os) :
    ∃ us, (∀ w : World, (do let d ← Deferred.ofValue f vs.toArray; invoke d.target d.args : Sem Next).run P w = .ok (.enter g us) w) ∧ ∃ Γ' : Cx, Γ'.m = os.length ∧ Γ'.w0 = w ∧ Γ'.ds = [] ∧ SR Γ' ⟨ys, os.map some⟩ ⟨us, []⟩ w ∧
      ∀ (objs' : List (Option AObj)) w' (r : AV) (v : Value), os.length ≤ objs'.length → SR Γ' ⟨[r], objs'⟩ ⟨#[v], []⟩ w' → SR Γ ⟨s.tmps, updO (apx s.objs.length l) s.objs l objs'⟩ a w' := by
  obtain ⟨us, hrun, hsz, hrv⟩ := call_args he hf hl hv
  obtain ⟨h1, h2, h3, h5, h6⟩ := hL
  have hm : os.length = l.length := by simpa using wkRO_len h2
  have hlive : ∀ j o, os[j]? = some o → s.live (ap l j) (o.ren (ap l)) := fun j o ho => wkRO_get h2 j o (by simp [ho])
  have hlive' : ∀ j, j < l.length → ∃ o, s.live (ap l j) o := fun j hj => ⟨_, hlive j _ (List.getElem?_eq_getElem (by omega))⟩
  have hlt : ∀ j, j < l.length → ap l j < s.objs.length := fun j hj => wkRO_lt h2 j hj
  have happ : ∀ j, j < l.length → ap l j ∈ l := fun j hj => by simp [ap, List.getD, List.getElem?_eq_getElem hj]
  let Γ' : Cx := ⟨w, fun b => Im Γ ρ s w b ∨ ∃ j, j < l.length ∧ ρ (ap l j) = some b, os.length, fun j => ρ (ap l j), h.fr.next.1, h.fr.next.2, fun j hj b hb => by
    obtain ⟨o, ho⟩ := hlive' j (by omega)
    rcases h.own _ o b ho hb with q | ⟨i, hi, q⟩
    · exact Nat.le_trans Γ.hgl q
    · exact Γ.hext i hi b q, [], fun j hj b hb => .inl (.inr ⟨j, by omega, hb⟩)⟩
  have hst : ∀ id o, St.live ⟨ys, os.map some⟩ id o → os[id]? = some o := fun id o hl => by
    unfold St.live at hl
    simp only [List.getElem?_map, Option.map_eq_some_iff] at hl
    obtain ⟨x, hx, hxo⟩ := hl
    injection hxo with hxo; subst hxo; exact hx
  have hI0 : ∀ b, Im Γ ρ s w b → Im Γ' (fun j => ρ (ap l j)) ⟨ys, os.map some⟩ w b ∧ w.heap[b]? = w.heap[b]? := fun b hb => ⟨⟨.inl (.inl hb), hb.2.1, fun id o hl => hb.2.2 _ _ (hlive id o (hst id o hl))⟩, rfl⟩
  have h0 : SR Γ' ⟨ys, os.map some⟩ ⟨us, []⟩ w := by
    refine ⟨fun j => ρ (ap l j), fun i hi => ⟨by simpa using hi, rfl⟩, by simp only; rw [hsz, wkR_len h1], ?_, fun id o hl => ?_, fun id o hl => (List.getElem?_eq_some_iff.1 hl).1, fun _ hid => hid, fun id o b hl hb => .inr ⟨id, (List.getElem?_eq_some_iff.1 (hst id o hl)).1, hb⟩, fun i j o o' b g1 g2 g3 g4 => ?_, rfl, ⟨Nat.le_refl _, rfl, rfl, rfl, fun _ _ _ => rfl, fun _ _ hn => hn⟩⟩
    · intro i y v hy hu
      simp only at hy hu
      have hi : i < (first ++ args ++ cap).length := by rw [← wkR_len h1]; exact (List.getElem?_eq_some_iff.1 hy).1
      have hx := List.getElem?_eq_getElem hi
      rcases wkR_get h1 i _ y hx hy with rfl | hxy
      · exact .any
      · have := (hrv i _ v hx hu).unren (π := ap l) (n := os.length) (ρ' := fun j => ρ (ap l j)) (fun _ _ => rfl) hI0 (fun _ _ hn => hn) hxy (bdL_iff.1 h5 _ (List.mem_of_getElem? hy))
        simpa using this
    · have := (h.obj _ _ (hlive id o (hst id o hl))).unren (π := ap l) (n := os.length) (ρ' := fun j => ρ (ap l j)) (fun _ _ => rfl) hI0 (fun _ _ hn => hn) (fun _ _ => rfl) (by have := bdO_get h6 id o (by simp [hst id o hl]); cases o <;> exact this)
      simpa using this
    · have e := h.inj _ _ _ _ b (hlive i o (hst i o g1)) (hlive j o' (hst j o' g2)) g3 g4
      have hi := (List.getElem?_eq_some_iff.1 (hst i o g1)).1
      have hj := (List.getElem?_eq_some_iff.1 (hst j o' g2)).1
      rw [hm] at hi hj
      simp only [ap, List.getD, List.getElem?_eq_getElem hi, List.getElem?_eq_getElem hj, Option.getD_some] at e
      exact (List.getElem_inj h3).1 e
  refine ⟨us, hrun, Γ', rfl, rfl, rfl, h0, ?_⟩
  rintro objs' w' r rv hle ⟨ρ'', hs'⟩
  have hfr := hs'.fr
  have hext : ∀ j, j < l.length → ρ'' j = ρ (ap l j) := fun j hj => (hs'.ext j (by simp only [Γ']; omega)).2
  generalize hs2 : (⟨s.tmps, updO (apx s.objs.length l) s.objs l objs'⟩ : St) = s2
  let ρn : Nat → Option Nat := fun id => if id < s.objs.length then ρ id else ρ'' (id - s.objs.length + l.length)
  have hρold : ∀ id, id < s.objs.length → ρn id = ρ id := fun id hid => if_pos hid
  have hρnew : ∀ j, ρn (apx s.objs.length l j) = ρ'' j := fun j => by
    unfold apx
    split
    · rename_i hj; rw [hρold _ (hlt j hj)]; exact (hext j hj).symm
    · rename_i hj
      simp only [ρn]
      rw [if_neg (by omega)]
      congr 1; omega
  have hn2 : s2.objs.length = s.objs.length + (objs'.length - l.length) := by rw [← hs2]; exact updO_len (by omega)
  have hapx : ∀ j, j < objs'.length → apx s.objs.length l j < s2.objs.length := fun j hj => by
    rw [hn2]; unfold apx
    split
    · rename_i h; have := hlt j h; omega
    · omega
  have cases2 : ∀ id o, s2.live id o → (id < s.objs.length ∧ s.live id o ∧ id ∉ l) ∨ ∃ j o0, St.live ⟨[r], objs'⟩ j o0 ∧ o = o0.ren (apx s.objs.length l) ∧ id = apx s.objs.length l j := by
    intro id o ho
    rw [← hs2] at ho
    exact updO_get (os := objs') (show l.length ≤ objs'.length by omega) (fun j i hi => by
      have hj := (List.getElem?_eq_some_iff.1 hi).1
      have := hlt j hj
      simpa [ap, List.getD, hi] using this) h3 ho
  have hblk : ∀ b, b < w.heap.size → (∀ j, j < l.length → ρ (ap l j) ≠ some b) → w'.heap[b]? = w.heap[b]? := fun b hb hne => hfr.block b hb (fun i hi => hne i (by simp only [Γ'] at hi; omega))
  have hIold : ∀ b, Im Γ ρ s w b → Im Γ ρn s2 w' b ∧ w'.heap[b]? = w.heap[b]? := by
    rintro b ⟨g1, g2, g3⟩
    refine ⟨⟨g1, Nat.lt_of_lt_of_le g2 hfr.size, fun id o ho => ?_⟩, hblk b g2 fun j hj => ?_⟩
    · rcases cases2 id o ho with ⟨c1, c2, _⟩ | ⟨j, o0, c1, _, rfl⟩
      · rw [hρold id c1]; exact g3 id o c2
      · rw [hρnew]
        intro hb
        rcases hs'.own j o0 b c1 hb with q | ⟨i, hi, q⟩
        · simp only [Γ'] at q; omega
        · simp only [Γ'] at hi q
          obtain ⟨o', ho'⟩ := hlive' i (by omega)
          exact g3 _ _ ho' q
    · obtain ⟨o', ho'⟩ := hlive' j hj
      exact g3 _ _ ho'
  have hInew : ∀ b, Im Γ' ρ'' ⟨[r], objs'⟩ w' b → Im Γ ρn s2 w' b ∧ w'.heap[b]? = w'.heap[b]? := by
    rintro b ⟨g1, g2, g3⟩
    refine ⟨⟨?_, g2, fun id o ho => ?_⟩, rfl⟩
    · rcases g1 with (g1 | ⟨j1, q1, q2⟩) | g1
      · exact g1.1
      · obtain ⟨o', ho'⟩ := hlive' j1 q1
        rcases h.own _ o' b ho' q2 with q | ⟨i, hi, q⟩
        · exact .inr q
        · exact Γ.hin i hi b q
      · exact .inr (Nat.le_trans h.fr.size g1)
    · rcases cases2 id o ho with ⟨c1, c2, c3⟩ | ⟨j, o0, c1, _, rfl⟩
      · rw [hρold id c1]
        intro hb
        have := live_block h c2 hb
        rcases g1 with (g1 | ⟨j1, q1, q2⟩) | g1
        · exact g1.2.2 id o c2 hb
        · obtain ⟨o', ho'⟩ := hlive' j1 q1
          have := h.inj _ _ _ _ b c2 ho' hb q2
          exact c3 (this ▸ happ j1 q1)
        · simp only [Γ'] at g1; omega
      · rw [hρnew]; exact g3 j o0 c1
  have hown : ∀ j o0 b, St.live ⟨[r], objs'⟩ j o0 → ρ'' j = some b → w.heap.size ≤ b ∨ ∃ i, i < l.length ∧ ρ (ap l i) = some b := fun j o0 b c1 hb => by
    rcases hs'.own j o0 b c1 hb with q | ⟨i, hi, q⟩
    · exact .inl q
    · exact .inr ⟨i, by simp only [Γ'] at hi; omega, q⟩
  have hw' : SRa Γ (fun id => id < s2.objs.length) ρn s2 a w' := by
    refine ⟨fun i hi => ?_, by rw [← hs2]; exact h.len, ?_, ?_, fun id o ho => (List.getElem?_eq_some_iff.1 ho).1, fun _ hid => hid, ?_, ?_, h.defers, h.fr.turn hfr.size hfr.os hfr.tape hfr.output ?_ hfr.csize⟩
    · have g := h.ext i hi
      exact ⟨by have := g.1; omega, (hρold i g.1).trans g.2⟩
    · intro i x u hx hu
      exact (h.tmp i x u (by rw [← hs2] at hx; exact hx) hu).mono (fun id hid => ⟨by omega, hρold id hid⟩) hIold hfr.csize
    · intro id o ho
      rcases cases2 id o ho with ⟨c1, c2, c3⟩ | ⟨j, o0, c1, rfl, rfl⟩
      · rw [hρold id c1]
        refine (h.obj id o c2).mono (fun id hid => ⟨by omega, hρold id hid⟩) hIold hfr.csize fun c hc => hblk c (live_block h c2 hc) fun j hj hj' => ?_
        obtain ⟨o', ho'⟩ := hlive' j hj
        have := h.inj _ _ _ _ c c2 ho' hc hj'
        exact c3 (this ▸ happ j hj)
      · rw [hρnew]
        exact (hs'.obj j o0 c1).reren (fun id hid => ⟨hapx id hid, hρnew id⟩) hInew (fun _ _ hn => hn) (fun _ _ => rfl)
    · intro id o b ho hb
      rcases cases2 id o ho with ⟨c1, c2, c3⟩ | ⟨j, o0, c1, rfl, rfl⟩
      · rw [hρold id c1] at hb; exact h.own id o b c2 hb
      · rw [hρnew] at hb
        rcases hown j o0 b c1 hb with q | ⟨i, hi, q⟩
        · exact .inl (Nat.le_trans h.fr.size q)
        · obtain ⟨o', ho'⟩ := hlive' i hi
          exact h.own _ _ b ho' q
    · have mix : ∀ id o b j o0, s.live id o → id ∉ l → ρ id = some b → St.live ⟨[r], objs'⟩ j o0 → ρ'' j = some b → False := by
        intro id o b j o0 c2 c3 hb c1 hb'
        rcases hown j o0 b c1 hb' with q | ⟨i, hi, q⟩
        · have := live_block h c2 hb; omega
        · obtain ⟨o', ho'⟩ := hlive' i hi
          have := h.inj _ _ _ _ b c2 ho' hb q
          exact c3 (this ▸ happ i hi)
      intro id id' o o' b ho ho' hb hb'
      rcases cases2 id o ho with ⟨c1, c2, c3⟩ | ⟨j, o0, c1, rfl, rfl⟩ <;> rcases cases2 id' o' ho' with ⟨d1, d2, d3⟩ | ⟨j', o0', d1, rfl, rfl⟩
      · rw [hρold id c1] at hb; rw [hρold id' d1] at hb'
        exact h.inj _ _ _ _ b c2 d2 hb hb'
      · rw [hρold id c1] at hb; rw [hρnew] at hb'
        exact (mix _ _ _ _ _ c2 c3 hb d1 hb').elim
      · rw [hρnew] at hb; rw [hρold id' d1] at hb'
        exact (mix _ _ _ _ _ d2 d3 hb' c1 hb).elim
      · rw [hρnew] at hb hb'
        rw [hs'.inj _ _ _ _ b c1 d1 hb hb']
    · intro b hb
      by_cases hj : ∃ j, j < l.length ∧ ρ (ap l j) = some b
      · obtain ⟨j, hj, hjb⟩ := hj
        obtain ⟨o', ho'⟩ := hlive' j hj
        exact .inr (h.own _ _ b ho' hjb)
      · exact .inl (hblk b hb fun j hj' he => hj ⟨j, hj', he⟩)
  exact ⟨ρn, hw'⟩
theorem CallX.via {g : FuncId} {first cap args ys : List AV} {os : List AObj} (l : List Nat) {pv : Value} (hspec : FnX P g ys os pv) (hL : Lend l s (first ++ args ++ cap) ys os) :
    CallX P (.clo (.func g) first cap) args s pv ⟨s.tmps, updO (apx s.objs.length l) s.objs l (os.map fun _ => none)⟩ := by
  intro Γ a w f vs hs hfv
  obtain ⟨ρ, h⟩ := hs
  obtain ⟨hf, hl, hv⟩ := hfv ρ h
  obtain ⟨us, hrun, Γ', hm, hw, hd, h0, hback⟩ := h.view l hspec.en hf hl hv hL
  refine ⟨g, us, hrun, ?_⟩
  subst hw
  refine (hspec.spec Γ' us (by simp [hm]) h0).mono ?_
  rintro e w' ⟨rfl, hs'⟩
  exact ⟨rfl, hback _ _ _ _ (by simp) hs'⟩
theorem SR.dead (h : SR Γ s a w) (hd : Γ.ds = []) {m : Nat} (hm : Γ.m = m) : SR Γ ⟨[.any], List.replicate m none⟩ ⟨#[undef], []⟩ w := by
  obtain ⟨ρ, h⟩ := h
  have hl : ∀ id o, ¬ St.live ⟨[.any], List.replicate m none⟩ id o := fun id o hl => by
    unfold St.live at hl
    simp only [List.getElem?_replicate] at hl
    split at hl <;> simp at hl
  refine ⟨ρ, fun i hi => ⟨by simp; omega, (h.ext i hi).2⟩, rfl, fun i x v hx hv => ?_, fun id o h => absurd h (hl id o), fun id o h => absurd h (hl id o), fun _ hid => hid, fun id o b h => absurd h (hl id o), fun i j o o' b h => absurd h (hl i o), hd.symm, h.fr⟩
  cases i with
  | zero => simp at hx; subst hx; exact .any
  | succ i => simp at hx
end
def bodyX (v : Value) : Exit → St → Prop
  | .panic ch, _ => ch = [{ v, recovered := false }]
  | _, _ => False
section
variable {P : Program} {Γ : Cx} {n M : Nat} {l : List (Nat × AV)} {os : List (Nat × Option AObj)} {x X : AV} {d t : Tmp} {ty : TypeId} {pos : String} {af : Array Edge} {ops : Array Oper} {rest : List Oper} {K : St → Prop} {g : FuncId} {first cap xa ys : List AV} {f : Operand} {args : Array Operand} {tys : Array TypeId} {Q : Exit → St → Prop} {s : St} {next : St → Prop}
theorem FnX.intro {fn : Func} {c : Code} {aos : List AObj} {v : Value} (he : enterable P g = true) (hf : P.funcs[g]? = some fn) (hb : fn.body = some c) (hn : fn.ntmps = n) (hl : ys.length ≤ n)
    (h : ∀ Γ : Cx, Γ.m = aos.length → WP P Γ c (bodyX v) (S n (enumA 0 ys) aos.length (enumO 0 aos))) : FnX P g ys aos v := by
  refine ⟨he, fun Γ vs hm hs => calls_of_wp hf hb ?_⟩
  obtain ⟨ρ, hs⟩ := hs
  have hlen : vs.size = ys.length := hs.len
  have h0 : SR Γ ⟨ys ++ List.replicate (fn.ntmps - ys.length) .any, aos.map some⟩ ⟨vs ++ Array.replicate (fn.ntmps - vs.size) undef, []⟩ Γ.w0 := by
    refine ⟨ρ, hs.ext, by simp [hlen], ?_, hs.obj, hs.made, hs.bound, hs.own, hs.inj, hs.defers, hs.fr⟩
    intro i x v hx hv
    simp only at hx hv
    by_cases hi : i < ys.length
    · rw [List.getElem?_append_left hi] at hx
      rw [Array.getElem?_append_left (by omega)] at hv
      exact hs.tmp i x v hx hv
    · rw [List.getElem?_append_right (by omega)] at hx
      have hm := List.mem_of_getElem? hx
      rw [(List.mem_replicate.1 hm).2]
      exact .any
  subst hn
  rw [tl_start _ _ hl] at h0
  rw [List.length_map] at hm
  have hw := h Γ hm
  simp only [S, ← ol_enum] at hw
  refine wp_mono (hw _ _ h0) ?_
  rintro e a' w' ⟨s', hq, hs'⟩
  cases e with
  | panic ch =>
    have hd : Γ.ds = [] := hs.defers.symm
    have e1 : (aos.map fun _ => (none : Option AObj)) = List.replicate aos.length none := by
      rw [List.map_const']
    obtain ⟨ρ', hs''⟩ := hs'
    refine ⟨hs''.defers.trans hd, ?_⟩
    simp only [bodyX] at hq
    exact ⟨by rw [hq], by rw [e1]; exact SR.dead ⟨ρ', hs''⟩ hd hm⟩
  | _ => exact hq.elim
def kill : List Nat → List (Nat × Option AObj) → List (Nat × Option AObj)
  | [], os => os
  | i :: is, os => kill is ((i, none) :: os)
end
end Go.Lg

namespace Go.Lg
open Go.RowKit
set_option linter.unusedVariables false
inductive Res where
  | ok (X : AV) (os : List (Option AObj))
  | die (v : Value)
def FnP (P : Program) (g : FuncId) (ys : List AV) (os : List AObj) : Res → Prop
  | .ok X os' => FnO P g ys os X os'
  | .die v => FnX P g ys os v
def bodyP (P : Program) (rs : List ResultVar) (m : Nat) (r : Res) : Exit → St → Prop
  | .normal, s | .ret, s => ∃ X os', r = .ok X os' ∧ RetO P rs m X os' s
  | .panic ch, _ => ∃ v, r = .die v ∧ ch = [{ v, recovered := false }]
  | _, _ => False
def Res.fine (m : Nat) : Res → Prop
  | .ok X os' => m ≤ os'.length ∧ X.bd os'.length = true
  | .die _ => True
section
variable {P : Program} {Γ : Cx} {n M : Nat} {l : List (Nat × AV)} {os : List (Nat × Option AObj)} {x X : AV} {d t : Tmp} {ty : TypeId} {pos : String} {af : Array Edge} {ops : Array Oper} {rest : List Oper} {K : St → Prop} {g : FuncId} {first cap xa ys : List AV} {f : Operand} {args : Array Operand} {tys : Array TypeId} {Q : Exit → St → Prop} {s : St} {next : St → Prop}
theorem FnP.intro {fn : Func} {c : Code} {aos : List AObj} {rs : List ResultVar} {r : Res} (hr : r.fine aos.length) (he : enterable P g = true) (hf : P.funcs[g]? = some fn) (hb : fn.body = some c) (hrs : fn.results = rs.toArray) (hn : fn.ntmps = n) (hl : ys.length ≤ n)
    (h : ∀ Γ : Cx, Γ.m = aos.length → WP P Γ c (bodyP P rs aos.length r) (S n (enumA 0 ys) aos.length (enumO 0 aos))) : FnP P g ys aos r := by
  cases r with
  | ok X os' =>
    refine FnO.intro hr.1 hr.2 he hf hb hrs hn hl fun Γ hm => WP.mono (h Γ hm) ?_
    intro e s hq
    cases e with
    | normal => obtain ⟨X', o', e, h⟩ := hq; injection e with e1 e2; subst e1 e2; exact h
    | ret => obtain ⟨X', o', e, h⟩ := hq; injection e with e1 e2; subst e1 e2; exact h
    | panic ch => obtain ⟨v, e, _⟩ := hq; cases e
    | _ => exact hq
  | die v =>
    refine FnX.intro he hf hb hn hl fun Γ hm => WP.mono (h Γ hm) ?_
    intro e s hq
    cases e with
    | normal => obtain ⟨X', o', e, h⟩ := hq; cases e
    | ret => obtain ⟨X', o', e, h⟩ := hq; cases e
    | panic ch => obtain ⟨v', e, h⟩ := hq; injection e with e; subst e; exact h
    | _ => exact hq
def PInd (Q : Exit → St → Prop) : Prop := ∀ ch s t x, Q (.panic ch) s → Q (.panic ch) (s.put t x)
theorem pind_then (h : PInd Q) : PInd (thenA next Q) := fun ch s t x hq => h ch s t x hq
theorem pind_block {id : Nat} (h : PInd Q) : PInd (inBlockA id Q) := fun ch s t x hq => h ch s t x hq
theorem pind_q {R : St → Prop} : PInd (bodyQ R) := fun ch s t x hq => hq
def liftQ (Γ : Cx) (Q : Exit → St → Prop) : Exit → Act → World → Prop := fun e a' w' => ∃ s', Q e s' ∧ SR Γ s' a' w'
def WPT (P : Program) (Γ : Cx) (ops : Array Oper) (Q : Exit → St → Prop) (fuel : Nat) (listed : Array Bool) (s : St) : Prop :=
  ∀ a w, SR Γ s a w → wpAny P .any ops (liftQ Γ Q) fuel listed a w
def WPO (P : Program) (Γ : Cx) (ops : Array Oper) (Q : Exit → St → Prop) (i : Nat) (K : St → Prop) (s : St) : Prop :=
  ∀ a w, SR Γ s a w → wpOp P ops (liftQ Γ Q) i (fun a' w' => ∃ s', K s' ∧ SR Γ s' a' w') a w
def AllO (P : Program) (Γ : Cx) (ops : Array Oper) (Q : Exit → St → Prop) (fuel : Nat) (listed : Array Bool) (s : St) : List Nat → Prop
  | [] => True
  | i :: r => WPO P Γ ops Q i (WPT P Γ ops Q fuel (listed.setIfInBounds i true)) s ∧ AllO P Γ ops Q fuel listed s r
theorem wp_tree {id : Nat} {L : List Oper} (k : Nat) (hm : P.follows .mixedOrders = true) (hk : L.length = k) (h : WPT P Γ L.toArray Q k (Array.replicate k false) s) : WP P Γ (.region id L.toArray true) Q s := by
  intro a w hs
  have hsz : L.toArray.size = k := by simpa using hk
  refine wp_region_any hm ?_
  rw [hsz]
  exact h a _ (hs.drawn _)
variable {fuel i : Nat} {listed : Array Bool}
theorem wpt_all {rs : List Nat} (hr : Region.ready .any ops listed = rs) (hne : rs.isEmpty = false) (h : AllO P Γ ops Q fuel listed s rs) : WPT P Γ ops Q (fuel + 1) listed s := by
  intro a w hs
  refine wpAny_all hr (by cases rs <;> simp_all) fun i hi => ?_
  have key : ∀ rs, AllO P Γ ops Q fuel listed s rs → ∀ i, i ∈ rs → WPO P Γ ops Q i (WPT P Γ ops Q fuel (listed.setIfInBounds i true)) s := by
    intro rs
    induction rs with
    | nil => intro _ i hi; cases hi
    | cons j r ih =>
      intro h i hi
      rcases List.mem_cons.1 hi with rfl | hi
      · exact h.1
      · exact ih h.2 i hi
  exact wpOp_mono (fun a' w' ⟨s', h1, h2⟩ => h1 a' w' h2) (key rs h i hi a w hs)
theorem wpt_end (hr : Region.ready .any ops listed = []) (h : Q .normal s) : WPT P Γ ops Q fuel listed s := fun a w hs => wpAny_done hr ⟨s, h, hs⟩ fuel
theorem wpo_do {o : Oper} (ho : ops[i]? = some o) (hg : o.guard = none) (h : asemC P ops [o] s K) : WPO P Γ ops Q i K s := by
  intro a w hs
  unfold wpOp
  rw [ho]
  simp only
  rw [if_pos (by simp [Region.wanted, hg])]
  exact .inl (asemC_one hg hs h)
def Still (P : Program) (op : Op) : Prop := ∀ (ρ : Operand → Value) (dst : Option Tmp) (ty : TypeId) (pos : String) (af : Array Edge) (v : Value) (w w' w1 : World), (execOp ρ ⟨dst, op, ty, pos, af, none⟩).run P w = .ok (.value v) w1 → (execOp ρ ⟨dst, op, ty, pos, af, none⟩).run P w' = .ok (.value v) w'
theorem still_move {a : Operand} : Still P (.move a) := by
  intro ρ dst ty pos af v w w' w1 h
  simp only [execOp, Sem.run_pure] at h ⊢
  injection h with h1 h2
  rw [h1]
theorem still_assign {a : Operand} : Still P (.assign a) := by
  intro ρ dst ty pos af v w w' w1 h
  simp only [execOp, Sem.run_pure] at h ⊢
  injection h with h1 h2
  rw [h1]
theorem wpt_take {op : Op} (i : Nat) (ho : ops[i]? = some ⟨some d, op, ty, pos, af, none⟩) (hst : Still P op) (hap : Ap P n l M os [] op x) (hs : Region.noSelect ops = true) (hf : Region.free .any ops listed i = true) (hr : (Region.ready .any ops listed).contains i = true) (hQ : PInd Q)
    (hk : WPT P Γ ops Q fuel (listed.setIfInBounds i true) (S n ((d, x) :: l) M os)) : WPT P Γ ops Q (fuel + 1) listed (S n l M os) := by
  intro a w hs'
  obtain ⟨ρ, hρ⟩ := hs'
  obtain ⟨v, hrun, hrv⟩ := pure_sound (P := P) hρ (o := ⟨some d, op, ty, pos, af, none⟩) (e := []) rfl hap
  refine wpAny_take (v := v) ho hs hf hr ?_ (.inl ⟨by simp [Region.wanted], fun w' => hst _ _ _ _ _ _ _ _ _ hrun⟩) ?_
  · rintro c a1 w1 ⟨s', hq, ρ', h'⟩
    by_cases hd : d < a1.tmps.size
    · have hv : a1.tmps[d]? = some a1.tmps[d] := Array.getElem?_eq_getElem hd
      refine ⟨s'.put (some d) .any, hQ _ _ _ _ hq, ρ', ?_⟩
      have h2 := h'.put (some d) (x := .any) (v := a1.tmps[d]) .any
      have e : (a1.put (some d) v).put (some d) a1.tmps[d] = a1 := by
        have e1 : (a1.put (some d) v).put (some d) a1.tmps[d] = a1.put (some d) a1.tmps[d] := by simp [Act.put]
        rw [e1]; exact act_same hv
      rw [e] at h2
      simpa [St.put] using h2
    · refine ⟨s', hq, ρ', ?_⟩
      have e : a1.put (some d) v = a1 := by
        cases a1 with | mk tm df => simp only [Act.put, Act.mk.injEq, and_true]; exact Array.setIfInBounds_eq_of_size_le (by simpa using hd)
      rwa [e] at h'
  · refine hk _ _ ⟨ρ, ?_⟩
    have h2 := hρ.put (some d) hrv
    rw [S_put] at h2
    simpa [S, ol_length] using h2
end
end Go.Lg

namespace Go.Lg
open Go.RowKit
set_option linter.unusedVariables false
def frzq (_m _id _M : Nat) (_os : List (Nat × Option AObj)) : Bool := true
section
variable {P : Program} {Γ : Cx} {A : Nat → Prop} {ρ : Nat → Option Nat} {s : St} {a : Act} {w : World}
theorem SRa.list1 (h : SRa Γ A ρ s a w) {id k len : Nat} {α : Type} {f : α → AV} {L : List α} (ho : s.look id = some (.arr k (L.map f))) (hl : L.length = len) (hb : ∀ x, (f x).bd 0 = true) (hk : ∀ x, (f x).cells.length = k)
    (hnb : ∀ b, ρ id = some b → Γ.I0 b ∨ Γ.w0.heap.size ≤ b) {I : Nat → Prop} {v : Value} (hv : RV A ρ I w (.ref id k 0 len) v) : RV A ρ (Im Γ ρ (s.set id none) w) w (.sl k (L.map f)) v := by
  have hlive := St.look_some.1 ho
  have hI : ∀ b, Im Γ ρ s w b → Im Γ ρ (s.set id none) w b ∧ w.heap[b]? = w.heap[b]? := fun b ⟨h1, h2, h3⟩ => ⟨⟨h1, h2, fun i o hl => h3 i o (St.live_kill hl).2⟩, rfl⟩
  cases hv with
  | @ref _ _ _ _ cap b hA hbk hlc hcs hmx =>
    obtain ⟨cs, t, hblk, hrow⟩ := h.row ho hbk
    have hflat : (flat (L.map f)).length = (L.map f).length * k := flat_length hrow.wide
    have hIb : Im Γ ρ (s.set id none) w b := by
      refine ⟨?_, World.lt_of_block hblk, fun i o hl hr => ?_⟩
      · exact hnb b hbk
      · obtain ⟨h1, h2⟩ := St.live_kill hl
        exact h1 (h.inj i id o _ b h2 hlive hr hbk)
    have key : RV A ρ (Im Γ ρ (s.set id none) w) w (.sl k (L.map f)) (.slice (some ⟨b, 0 * k, none⟩) (L.map f).length cap) := by
      refine .sl (fun j => cs.getD j undef) ⟨by simp; omega, hmx⟩ hIb (fun e he => by obtain ⟨x, _, rfl⟩ := List.mem_map.1 he; exact hk x) (fun j hj => ?_) (fun j hj => ?_) (fun j x hx => ?_)
      · have : j < cs.size := Nat.lt_of_lt_of_le hj hrow.len
        rw [cell_of_block hblk]; simp [Array.getD, this]
      · have : j < cs.size := Nat.lt_of_lt_of_le hj hrow.len
        exact hrow.atoms j _ hj (by simp [Array.getD, this])
      · have hj := (List.getElem?_eq_some_iff.1 hx).1
        have : j < cs.size := Nat.lt_of_lt_of_le hj hrow.len
        exact (hrow.vals j x _ hx (by simp [Array.getD, this])).pure (flat_bd (bdL_map hb L) x (List.mem_of_getElem? hx)) hI (fun _ _ hn => hn)
    rw [List.length_map, hl] at key
    exact key
  | refn hA hbk =>
    have : L = [] := List.eq_nil_of_length_eq_zero hl
    subst this
    exact .nils
theorem SRa.newb {n M : Nat} {l : List (Nat × AV)} {os : List (Nat × Option AObj)} {id mm : Nat} {o : AObj} (h : SRa Γ A ρ (S n l M os) a w) (_hm : Γ.m = mm) (_hfq : frzq mm id M os = true) (hl : (S n l M os).live id o) : ∀ b, ρ id = some b → Γ.I0 b ∨ Γ.w0.heap.size ≤ b := by
  intro b hb
  rcases h.own id o b hl hb with h1 | ⟨i, hi, h1⟩
  · exact .inr h1
  · exact Γ.hin i hi b h1
end
section
variable {P : Program} {Γ : Cx} {n M : Nat} {l : List (Nat × AV)} {os : List (Nat × Option AObj)} {c : Code} {Q : Exit → St → Prop} {ops : Array Oper} {rest : List Oper}
theorem wp_frzm {id k len : Nat} {α : Type} {f : α → AV} {L : List α} (j : Nat) {mm : Nat} (hm : Γ.m = mm) (h : opq n l (.tmp j) = some (.ref id k 0 len)) (ho : lookq M os id = some (.arr k (L.map f))) (hl : L.length = len) (hb : ∀ x, (f x).bd 0 = true) (hk : ∀ x, (f x).cells.length = k) (hfq : frzq mm id M os = true)
    (hw : WP P Γ c Q (S n ((j, .sl k (L.map f)) :: l) M ((id, none) :: os))) : WP P Γ c Q (S n l M os) := fun a w hs => by
  refine hw a w ?_
  obtain ⟨ρ, hs⟩ := hs
  have hj : j < n := by
    simp only [opq] at h
    cases hb : Nat.blt j n with
    | false => rw [hb] at h; simp at h
    | true => exact blt_of hb
  have hx := opq_op (M := M) (os := os) h
  simp only [St.op, S] at hx
  rw [tl_getD l hj] at hx
  have hlen : a.tmps.size = n := by rw [hs.len]; simp [S, tl_length]
  have hv : a.tmps[j]? = some (a.tmps[j]'(by omega)) := Array.getElem?_eq_getElem (by omega)
  have hrv := hs.tmp j (.ref id k 0 len) _ (by simp only [S, tl_get l hj, hx]) hv
  have h1 := hs.kill id
  have h2 := h1.put (some j) (hs.list1 (by rw [S_look]; exact ho) hl hb hk (hs.newb hm hfq (St.look_some.1 (by rw [S_look]; exact ho))) hrv)
  rw [act_same hv] at h2
  refine ⟨ρ, ?_⟩
  have e : ((S n l M os).set id none).put (some j) (.sl k (L.map f)) = S n ((j, .sl k (L.map f)) :: l) M ((id, none) :: os) := by simp [S, St.set, St.put, ol_set, tl_set]
  rw [e] at h2
  simpa [S, ol_length] using h2
theorem wp_frzom {id k len : Nat} {α : Type} {f : α → AV} {L : List α} (ido m : Nat) {k' : Nat} {cs : List AV} {mm : Nat} (hm : Γ.m = mm) (hid : Nat.beq id ido = false) (hob : lookq M os ido = some (.arr k' [.agg cs])) (h : cs[m]? = some (.ref id k 0 len)) (ho : lookq M os id = some (.arr k (L.map f))) (hl : L.length = len) (hb : ∀ x, (f x).bd 0 = true) (hk : ∀ x, (f x).cells.length = k) (hfq : frzq mm id M os = true)
    (hw : WP P Γ c Q (S n l M ((ido, some (.arr k' [.agg (cs.set m (.sl k (L.map f)))])) :: (id, none) :: os))) : WP P Γ c Q (S n l M os) := fun a w hs => by
  refine hw a w ?_
  obtain ⟨ρ, hs⟩ := hs
  have h1 := hs.kill id
  have hne : id ≠ ido := Nat.ne_of_beq_eq_false hid
  have hob' : ((S n l M os).set id none).live ido (.arr k' [.agg cs]) := by
    have := St.look_some.1 (by rw [S_look]; exact hob : (S n l M os).look ido = some (.arr k' [.agg cs]))
    simp only [St.live, St.set_objs] at this ⊢
    rw [List.getElem?_set_ne hne]; exact this
  have hwide : cs.length = k' := by
    have := hs.obj ido _ (St.look_some.1 (by rw [S_look]; exact hob))
    cases hr : ρ ido with
    | none => rw [hr] at this; obtain ⟨_, h2⟩ := this.resolve_left (by simp); cases h2
    | some b => rw [hr] at this; obtain ⟨_, _, _, _, h3, _⟩ := this; exact h3 (.agg cs) (by simp)
  have h2 := h1.recell hob' (es' := [.agg (cs.set m (.sl k (L.map f)))]) (by simp [flat, AV.cells]) (by simp [AV.cells, hwide]) (by simp) (fun j x y hx hy v hv => by
    simp only [flat, AV.cells, List.flatMap_cons, List.flatMap_nil, List.append_nil] at hx hy
    rw [List.getElem?_set] at hy
    by_cases e : m = j
    · subst e
      rw [h] at hx; injection hx with hx; subst hx
      simp only [if_true] at hy
      split at hy
      · injection hy with hy; subst hy
        exact hs.list1 (by rw [S_look]; exact ho) hl hb hk (hs.newb hm hfq (St.look_some.1 (by rw [S_look]; exact ho))) hv
      · cases hy
    · rw [if_neg e, hx] at hy; injection hy with hy; subst hy; exact hv)
  refine ⟨ρ, ?_⟩
  have e : (((S n l M os).set id none).set ido (some (.arr k' [.agg (cs.set m (.sl k (L.map f)))]))) = S n l M ((ido, some (.arr k' [.agg (cs.set m (.sl k (L.map f)))])) :: (id, none) :: os) := by simp [S, St.set, ol_set]
  rw [e] at h2
  simpa [S, ol_length] using h2
theorem wp_frzxm {id k len : Nat} {α : Type} {f : α → AV} {L : List α} (ido m : Nat) {k' : Nat} (pre post : List AV) {cs : List AV} {mm : Nat} (hm : Γ.m = mm) (hid : Nat.beq id ido = false) (hob : lookq M os ido = some (.arr k' (pre ++ .agg cs :: post))) (h : cs[m]? = some (.ref id k 0 len)) (ho : lookq M os id = some (.arr k (L.map f))) (hl : L.length = len) (hb : ∀ x, (f x).bd 0 = true) (hk : ∀ x, (f x).cells.length = k) (hfq : frzq mm id M os = true)
    (hw : WP P Γ c Q (S n l M ((ido, some (.arr k' (pre ++ .agg (cs.set m (.sl k (L.map f))) :: post))) :: (id, none) :: os))) : WP P Γ c Q (S n l M os) := fun a w hs => by
  refine hw a w ?_
  obtain ⟨ρ, hs⟩ := hs
  have h1 := hs.kill id
  have hne : id ≠ ido := Nat.ne_of_beq_eq_false hid
  have hob' : ((S n l M os).set id none).live ido (.arr k' (pre ++ .agg cs :: post)) := by
    have := St.look_some.1 (by rw [S_look]; exact hob : (S n l M os).look ido = some (.arr k' (pre ++ .agg cs :: post)))
    simp only [St.live, St.set_objs] at this ⊢
    rw [List.getElem?_set_ne hne]; exact this
  have hwide : ∀ e, e ∈ pre ++ .agg cs :: post → e.cells.length = k' := by
    have := hs.obj ido _ (St.look_some.1 (by rw [S_look]; exact hob))
    cases hr : ρ ido with
    | none => rw [hr] at this; obtain ⟨_, h2⟩ := this.resolve_left (by simp); simp at h2
    | some b => rw [hr] at this; obtain ⟨_, _, _, _, h3, _⟩ := this; exact h3
  have hm1 : m < cs.length := (List.getElem?_eq_some_iff.1 h).1
  have hfl : flat (pre ++ .agg (cs.set m (.sl k (L.map f))) :: post) = (flat (pre ++ .agg cs :: post)).set ((flat pre).length + m) (.sl k (L.map f)) := by
    simp only [flat, List.flatMap_append, List.flatMap_cons, AV.cells]
    rw [List.set_append_right _ _ (by omega), Nat.add_sub_cancel_left, List.set_append_left _ _ hm1]
  have hat : (flat (pre ++ .agg cs :: post))[(flat pre).length + m]? = some (.ref id k 0 len) := by
    simp only [flat, List.flatMap_append, List.flatMap_cons, AV.cells]
    rw [List.getElem?_append_right (by omega), Nat.add_sub_cancel_left, List.getElem?_append_left hm1]; exact h
  have h2 := h1.recell hob' (es' := pre ++ .agg (cs.set m (.sl k (L.map f))) :: post) (by rw [hfl]; simp) (fun e he => by
      rcases List.mem_append.1 he with he | he
      · exact hwide e (by simp [he])
      · rcases List.mem_cons.1 he with rfl | he
        · have := hwide (.agg cs) (by simp)
          simpa [AV.cells] using this
        · exact hwide e (by simp [he])) (by simp) (fun j x y hx hy v hv => by
    rw [hfl, List.getElem?_set] at hy
    by_cases e : (flat pre).length + m = j
    · subst e
      rw [hat] at hx; injection hx with hx; subst hx
      simp only [if_true] at hy
      split at hy
      · injection hy with hy; subst hy
        exact hs.list1 (by rw [S_look]; exact ho) hl hb hk (hs.newb hm hfq (St.look_some.1 (by rw [S_look]; exact ho))) hv
      · cases hy
    · rw [if_neg e, hx] at hy; injection hy with hy; subst hy; exact hv)
  refine ⟨ρ, ?_⟩
  have e : (((S n l M os).set id none).set ido (some (.arr k' (pre ++ .agg (cs.set m (.sl k (L.map f))) :: post)))) = S n l M ((ido, some (.arr k' (pre ++ .agg (cs.set m (.sl k (L.map f))) :: post))) :: (id, none) :: os) := by simp [S, St.set, ol_set]
  rw [e] at h2
  simpa [S, ol_length] using h2
theorem still_fieldAddr {a : Operand} {ty : TypeId} {f off sz : Nat} {ti : TI} [h : TIc P ty ti] (hf : ti.fields[f]? = some (off, sz)) (hz : Nat.beq sz 0 = false) : Still P (.fieldAddr ty a f) := by
  obtain ⟨fs, fd, i, h1, h2, h3, h4, h5⟩ := fields_spec h.h hf (Nat.ne_of_beq_eq_false hz)
  have hz' : ¬ sz = 0 := Nat.ne_of_beq_eq_false hz
  subst h5
  intro ρ dst ty' pos af v w w' w1 h
  have hs : ∀ x : Value, (∃ ad, x = .pointer (some ad)) ∨ (∀ w : World, (Instr.fieldAt ty x f).run P w = (stuck "an address expected (no nilCheck in front?)" : Sem Value).run P w) := by
    intro x
    cases x with
    | pointer o => cases o with
      | some ad => exact .inl ⟨ad, rfl⟩
      | none => exact .inr fun w => by simp [Instr.fieldAt, run_underlying h1, h2, Instr.sureAddr]
    | _ => exact .inr fun w => by simp [Instr.fieldAt, run_underlying h1, h2, Instr.sureAddr]
  rcases hs (ρ a) with ⟨ad, had⟩ | hst
  · simp [execOp, had, Instr.fieldAt, run_underlying h1, h2, Instr.sureAddr, fieldPlace, sizeOf, typeInfo, h4, hz'] at h ⊢
    exact h.1
  · simp only [execOp, Sem.run_bind, hst w] at h
    simp [stuck] at h
end
end Go.Lg
