/-
  Part 12 of the proof of GrammarparserWhiteSpace: the logic over the model, the functions' contracts and the plain laws.
-/
import Derived.Test.YtpemjdkcabefnaaKw11
import Derived.Lib.Join
import Derived.Lib.ItoaLen

set_option linter.unusedSimpArgs false
set_option linter.unusedVariables false
set_option linter.unusedSectionVars false

namespace Go.Lg
open Go.Proofs
def letB (c : Int) : Bool := decide (97 ≤ c) && decide (c ≤ 122) || decide (65 ≤ c) && decide (c ≤ 90)
def digB (c : Int) : Bool := decide (48 ≤ c) && decide (c ≤ 57)
theorem range_all_succ {f : Nat → Bool} {k : Nat} (h : (List.range k).all f = true) (hf : f k = true) : (List.range (k + 1)).all f = true := by
  rw [List.range_succ, List.all_append, h]; simp [hf]
theorem range_all_no {f : Nat → Bool} {k n : Nat} (hk : k < n) (hf : f k = false) : (List.range n).all f = false := by
  rw [List.all_eq_false]; exact ⟨k, by simpa using hk, by simp [hf]⟩
def indexP {α : Type} (p : α → Bool) (l : List α) : Int := match l.findIdx? p with
  | some i => i
  | none => -1
theorem indexP_at {α : Type} [Inhabited α] {p : α → Bool} {l : List α} {k : Nat} (hk : k < l.length) (h : (l.take k).any p = false) (hp : p (nth l k) = true) : indexP p l = k := by
  have : l.findIdx? p = some k := by
    rw [List.findIdx?_eq_some_iff_getElem]
    refine ⟨hk, by rwa [nth_eq hk] at hp, fun j hj => ?_⟩
    rw [List.any_eq_false] at h
    have := h l[j] (by rw [List.mem_take_iff_getElem]; exact ⟨j, by omega, rfl⟩)
    simpa using this
  simp [indexP, this]
theorem indexP_no {α : Type} {p : α → Bool} {l : List α} {k : Nat} (hk : l.length ≤ k) (h : (l.take k).any p = false) : indexP p l = -1 := by
  rw [List.take_of_length_le hk] at h
  have : l.findIdx? p = none := by rw [List.findIdx?_eq_none_iff]; intro x hx; rw [List.any_eq_false] at h; simpa using h x hx
  simp [indexP, this]
theorem indexP_any {α : Type} {p : α → Bool} {l : List α} : decide (0 ≤ indexP p l) = l.any p := by
  unfold indexP
  cases h : l.findIdx? p with
  | none => rw [List.findIdx?_eq_none_iff] at h; rw [show l.any p = false by rw [List.any_eq_false]; intro x hx; simp [h x hx]]; rfl
  | some i =>
    rw [List.findIdx?_eq_some_iff_getElem] at h
    obtain ⟨hi, hp, _⟩ := h
    rw [show l.any p = true by rw [List.any_eq_true]; exact ⟨_, List.getElem_mem hi, hp⟩]
    simp
theorem take_any_succ {α : Type} [Inhabited α] {l : List α} {f : α → Bool} {k : Nat} (hk : k < l.length) (h : (l.take k).any f = false) (hf : f (nth l k) = false) : (l.take (k + 1)).any f = false := by
  rw [take_succ_nth hk, List.any_append, h]; simp [hf]
theorem take_eq_succ {α : Type} [Inhabited α] {a b : List α} {k : Nat} (ha : k < a.length) (hb : k < b.length) (h : a.take k = b.take k) (he : nth a k = nth b k) : a.take (k + 1) = b.take (k + 1) := by
  rw [take_succ_nth ha, take_succ_nth hb, h, he]
theorem eq_of_takes {α : Type} {a b : List α} {k : Nat} (hl : a.length = b.length) (hk : a.length ≤ k) (h : a.take k = b.take k) : a = b := by
  rwa [List.take_of_length_le hk, List.take_of_length_le (by omega)] at h
theorem nodup_nth {α : Type} [Inhabited α] {l : List α} (h : ∀ j, j < l.length → ∀ k, k < j → nth l k ≠ nth l j) : l.Nodup := by
  rw [List.nodup_iff_pairwise_ne, List.pairwise_iff_getElem]
  intro i j hi hj hij
  have := h j hj i hij
  rwa [nth_eq hi, nth_eq hj] at this
theorem not_nodup {α : Type} [Inhabited α] {l : List α} {k j : Nat} (hj : j < l.length) (hk : k < j) (h : nth l k = nth l j) : ¬ l.Nodup := by
  rw [List.nodup_iff_pairwise_ne, List.pairwise_iff_getElem]
  intro hp
  have := hp k j (by omega) hj hk
  rw [nth_eq (by omega), nth_eq hj] at h
  exact this h
theorem all_of_nth {α : Type} [Inhabited α] {l : List α} {f : α → Bool} (h : ∀ j, j < l.length → f (nth l j) = true) : l.all f = true := by
  rw [List.all_eq_true]; intro x hx
  obtain ⟨i, hi, rfl⟩ := List.getElem_of_mem hx
  have := h i hi
  rwa [nth_eq hi] at this
def bl (s : ByteArray) : List UInt8 := s.data.toList
def tx (l : List UInt8) : ByteArray := ⟨l.toArray⟩
@[simp] theorem bl_tx (l : List UInt8) : bl (tx l) = l := rfl
theorem tx_bl (s : ByteArray) : tx (bl s) = s := by obtain ⟨⟨l⟩⟩ := s; rfl
theorem bl_app (a b : ByteArray) : bl (a ++ b) = bl a ++ bl b := by simp [bl]
theorem tx_inj {a b : List UInt8} (h : tx a = tx b) : a = b := by have := congrArg bl h; simpa using this
theorem ba_ext {a b : ByteArray} (h : bl a = bl b) : a = b := by rw [← tx_bl a, ← tx_bl b, h]
theorem tx_size (l : List UInt8) : (tx l).size = l.length := by simp [tx, ByteArray.size]
theorem bl_len (s : ByteArray) : (bl s).length = s.size := by simp [bl]
end Go.Lg

namespace Go.Lg
open Go.RowKit
section
variable {P : Program} {Γ : Cx} {a : Act} {w : World}
theorem asemC_one {ops : Array Oper} {s : St} {o : Oper} {K : St → Prop} {QQ : Exit → Act → World → Prop} (hg : o.guard = none) (h : SR Γ s a w) (hk : asemC P ops [o] s K) : o.wp P a w (fun a' w' => ∃ s', K s' ∧ SR Γ s' a' w') QQ := by
  simp only [asemC, hg] at hk
  rcases hk with hk | ⟨x, hx, hk⟩ | ⟨s1, hk, hs1⟩
  · exact exec_sound h hk fun s' a' w' hk' hs' => ⟨s', hk', hs'⟩
  · obtain ⟨ρ, hρ⟩ := h
    obtain ⟨v, hrun, hrv⟩ := pure_sound (P := P) hρ (e := []) rfl hx
    unfold Oper.wp
    rw [hrun]
    exact ⟨_, hk, ρ, by simpa using hρ.put o.dst hrv⟩
  · obtain ⟨v, w', hrun, hsr⟩ := hs1 Γ a w h
    unfold Oper.wp
    rw [hrun]
    exact ⟨_, hk, hsr⟩
end
section
variable {P : Program} {Γ : Cx} {ops : Array Oper}
end
end Go.Lg

namespace Go.Lg
section
variable {P : Program} {n M N i : Nat} {l : List (Nat × AV)} {os : List (Nat × Option AObj)} {a b : Operand} {d : Tmp} {ty : TypeId} {pos : String} {af : Array Edge} {ops : Array Oper} {rest : List Oper} {KK : List Rec → St → Prop} {K : St → Prop} {rs : List Rec}
theorem se_lit0 {te : TI} {k bt : Nat} [ht : TEl P ty te k bt] {ty2 : TypeId} (hk : asemC P ops rest (S n ((d, .ref M k 0 0) :: l) (M + 1) ((M, some (.arr k [])) :: os)) K) :
    asemC P ops (⟨some d, .buildSlice ty 0 #[], ty2, pos, af, none⟩ :: rest) (S n l M os) K := by
  obtain ⟨ti, el, g1, he, hs, g4, hsz, hbz⟩ := ht.h
  refine se_new (x := .ref M k 0 0) (by rintro c f h; cases h) ?_ hk
  have hb : buildSliceA te 0 [] = some (.arr k []) := by simp [buildSliceA, hsz]
  simp only [aop, g1, he, g4, Option.bind_some, Array.toList, List.map_nil, hb, Option.map_some, hsz]
end
section
variable {P : Program} {Γ : Cx} {c : Code} {Q : Exit → St → Prop} {n M : Nat} {l : List (Nat × AV)} {os : List (Nat × Option AObj)}
theorem wp_st (t : St) {s : St} (h0 : ∃ is, ToR Γ.m is s t) (h : WP P Γ c Q t) : WP P Γ c Q s := by
  obtain ⟨is, h0⟩ := h0; exact .toR is t h0 h
end
section
variable {P : Program} {n M : Nat} {l : List (Nat × AV)} {os : List (Nat × Option AObj)} {d t : Tmp} {ty : TypeId} {pos : String} {af : Array Edge} {ops : Array Oper} {rest : List Oper} {K : St → Prop} {j : Nat} {want b : Bool} {x : AV} {op : Op}
theorem sgt_new {o : AObj} (hd : (ops[j]?).bind (·.dst) = some t) (hv : opq n l (.tmp t) = some (.val (.bool b))) (hb : b = want) (hc : ∀ c f, op = .call c → c.callee ≠ .value f) (h : aop P (S n ((t, .val (.bool b)) :: l) M os).look M (S n ((t, .val (.bool b)) :: l) M os).op op = some (x, .new o))
    (hk : asemC P ops rest (S n ((d, x) :: (t, .val (.bool b)) :: l) (M + 1) ((M, some o) :: os)) K) : asemC P ops (⟨some d, op, ty, pos, af, some (j, want)⟩ :: rest) (S n l M os) K := by
  subst hb
  simp only [asemC]
  refine .inl ⟨b, ?_, fun _ => ?_, fun h => by cases b <;> cases h⟩
  · have hop := opq_op (M := M) (os := os) hv
    simp only [St.op] at hop
    simp only [yieldedA, hd, Option.map_some, hop]
  rw [hd, S_put]
  have hl : (S n ((t, .val (.bool b)) :: l) M os).objs.length = M := ol_length M os
  have hs : (S n ((t, .val (.bool b)) :: l) M os).after (some d) (x, .new o) = S n ((d, x) :: (t, .val (.bool b)) :: l) (M + 1) ((M, some o) :: os) := by
    simp only [St.after, S, St.put, ol_push, tl_set]
  unfold execA
  split
  · rename_i c hop
    simp only at hop
    split
    · rename_i f hf; exact absurd hf (hc c f hop)
    · exact ⟨_, by rw [hl, ← hop]; exact h, by rw [hs]; exact hk⟩
  · exact ⟨_, by rw [hl]; exact h, by rw [hs]; exact hk⟩
theorem sgt_lit {te : TI} {k m bt : Nat} {z : AV} {ps : Array (Nat × Operand)} {xs : List (Nat × AV)} {vs : List AV} (hd : (ops[j]?).bind (·.dst) = some t) (hg : opq n l (.tmp t) = some (.val (.bool b))) (hgb : b = want) [ht : TEl P ty te k bt] (hp : OpP n ((t, .val (.bool b)) :: l) ps.toList xs) (hv : seqv 0 xs = some vs) (hl : xs.length = m) (h0 : Nat.beq m 0 = false) (hbig : Nat.ble (m * k) 16777216 = true) (hzero : zeroA te = some z)
    (hc : (vs.all fun x => Nat.beq x.cells.length k && x.store) = true) {ty2 : TypeId} (hk : asemC P ops rest (S n ((d, .ref M k 0 m) :: (t, .val (.bool b)) :: l) (M + 1) ((M, some (.arr k vs)) :: os)) K) :
    asemC P ops (⟨some d, .buildSlice ty m ps, ty2, pos, af, some (j, want)⟩ :: rest) (S n l M os) K := by
  obtain ⟨ti, el, g1, he, hs, g4, hsz, hbz⟩ := ht.h
  refine sgt_new (x := .ref M k 0 m) hd hg hgb (by rintro c f h; cases h) ?_ hk
  have hp' := hp.get (M := M) (os := os)
  have hb : buildSliceA te m xs = some (.arr k vs) := by
    have hne : m ≠ 0 := Nat.ne_of_beq_eq_false h0
    simp only [buildSliceA, if_neg hne, hzero, Option.bind_some, hsz, if_pos (Nat.le_of_ble_eq_true hbig)]
    have := seqv_fill (k := k) (z := z) xs [] vs hv (fun x hx => by
      have := List.all_eq_true.1 hc x hx
      simp only [Bool.and_eq_true] at this
      exact ⟨Nat.eq_of_beq_eq_true this.1, this.2⟩)
    simp only [List.nil_append, hl] at this
    rw [this]; rfl
  simp only [aop, g1, he, g4, Option.bind_some, hp', hb, Option.map_some, hsz]
end
end Go.Lg

namespace Go.Lg
open Go.RowKit
section
variable {P : Program} {Γ : Cx} {n M : Nat} {l : List (Nat × AV)} {os : List (Nat × Option AObj)} {Q : Exit → St → Prop}
end
section
variable {P : Program} {n M : Nat} {l : List (Nat × AV)} {os : List (Nat × Option AObj)} {d t : Tmp} {ty : TypeId} {pos : String} {af : Array Edge} {ops : Array Oper} {rest : List Oper} {K : St → Prop} {j : Nat} {want p : Bool} {x : AV} {op : Op} {a b c : Operand}
theorem as_split {r0 : List Oper} (hg : opq n l (.tmp t) = some (.val (.bool p))) (h1 : p = true → asemC P ops r0 (S n ((t, .val (.bool true)) :: l) M os) K) (h2 : p = false → asemC P ops r0 (S n ((t, .val (.bool false)) :: l) M os) K) : asemC P ops r0 (S n l M os) K := by
  cases p with
  | true => have := h1 rfl; rwa [S_lit hg] at this
  | false => have := h2 rfl; rwa [S_lit hg] at this
theorem sk_no (ht : (ops[j]?).bind (·.dst) = some t) (hg : opq n l (.tmp t) = some (.val (.bool (!want)))) (hk : asemC P ops rest (S n ((d, .any) :: l) M os) K) : asemC P ops (⟨some d, op, ty, pos, af, some (j, want)⟩ :: rest) (S n l M os) K := by
  simp only [asemC]
  refine .inl ⟨!want, yielded_q ht hg, ?_, fun _ => ?_⟩
  · intro h; exact absurd h (by cases want <;> decide)
  rw [ht, S_put, S_lit hg, S_put]
  exact hk
theorem pk_t (hc : opq n l c = some (.val (.bool true))) (ha : opq n l a = some x) (hk : asemC P ops rest (S n ((d, x) :: l) M os) K) : asemC P ops (⟨some d, .pick c a b, ty, pos, af, none⟩ :: rest) (S n l M os) K := by
  simp only [asemC]
  refine .inl ⟨(x, .none), ?_, ?_⟩
  · simp only [aop, opq_op hc, opq_op ha, pickA, pure']
    split <;> simp_all
  · simp only [St.after, S_put]; exact hk
theorem pk_f (hc : opq n l c = some (.val (.bool false))) (hb : opq n l b = some x) (hk : asemC P ops rest (S n ((d, x) :: l) M os) K) : asemC P ops (⟨some d, .pick c a b, ty, pos, af, none⟩ :: rest) (S n l M os) K := by
  simp only [asemC]
  refine .inl ⟨(x, .none), ?_, ?_⟩
  · simp only [aop, opq_op hc, opq_op hb, pickA, pure']
    split <;> simp_all
  · simp only [St.after, S_put]; exact hk
end
end Go.Lg

namespace Go.Lg
open Go.Proofs
set_option linter.unusedSimpArgs false
set_option linter.unusedVariables false
attribute [local irreducible] Ap Rq asemC WP RunD Ret Gq thenA inBlockA bodyQ noGotoA RqL RqP OpP
set_option maxHeartbeats 4000000
theorem letter_fn (c : Int) : Fn Try.prog 83 [.val (.int .u8 c)] (boolA (letB c)) := by
  refine Fn.intro (by exact rfl) (by kernel_rfl) Try.func83 rfl rfl Try.ntmps83 (by exact Nat.le_of_ble_eq_true rfl) ?_; intro Γ hm
  (repeat' (first | refine WP.seq ?_ | refine go_n ?_ | refine WP.ret ?_ | refine bo_r ?_ | (refine WP.regionC (id := 0) ?_; (refine su (ap_assign (by exact rq_p rfl rfl)) ?_); refine asemC_end ?_) | (refine WP.regionC (id := 1) ?_; (refine su (ap_move (by exact rq_p rfl rfl)) ?_); (refine su (ap_geq (by exact rq_p rfl rfl) (by exact rq_p rfl rfl)) ?_); (refine su (ap_move (by exact rq_p rfl rfl)) ?_); (refine sg (by exact gq_vt rfl rfl) (fun he => ap_move (by exact rq_p rfl rfl)) ?_); (refine sg (by exact gq_vt rfl rfl) (fun he => ap_leq (by exact rq_c rfl rfl) (by exact rq_p rfl rfl)) ?_); (refine su (ap_and (by exact rq_p rfl rfl) (by exact rq_c rfl rfl)) ?_); (refine su (ap_move (by exact rq_p rfl rfl)) ?_); (refine sg (by exact gq_vf rfl rfl) (fun he => ap_move (by exact rq_p rfl rfl)) ?_); (refine sg (by exact gq_vf rfl rfl) (fun he => ap_geq (by exact rq_c rfl rfl) (by exact rq_p rfl rfl)) ?_); (refine sg (by exact gq_vf rfl rfl) (fun he => ap_move (by exact rq_c rfl rfl)) ?_); (refine sg (by exact gq_ct rfl rfl) (fun he => ap_move (by exact rq_p rfl rfl)) ?_); (refine sg (by exact gq_ct rfl rfl) (fun he => ap_leq (by exact rq_c rfl rfl) (by exact rq_p rfl rfl)) ?_); (refine sg (by exact gq_vf rfl rfl) (fun he => ap_and (by exact rq_c rfl rfl) (by exact rq_c rfl rfl)) ?_); (refine su (ap_or (by exact rq_p rfl rfl) (by exact rq_c rfl rfl)) ?_); (refine su (ap_assign (by exact rq_p rfl rfl)) ?_); refine asemC_end ?_) | exact ret_eq (by exact rfl) (by exact rfl) rfl))
def idx (l : List ByteArray) (s : ByteArray) : Int := indexP (fun x => decide (s = x)) l
theorem index_fn (l : List ByteArray) (s : ByteArray) : Fn Try.prog 75 [strsA l, strA s] (intA (idx l s)) := by
  refine Fn.intro (by exact rfl) (by kernel_rfl) Try.func75 rfl rfl Try.ntmps75 (by exact Nat.le_of_ble_eq_true rfl) ?_; intro Γ hm
  refine wp_lens 0 rfl fun h0 => ?_
  rw [lens_strsA] at h0
  (repeat' (first | refine WP.seq ?_ | refine WP.block ?_ | refine go_n ?_ | (refine WP.regionC (id := 0) ?_; (refine su (ap_assign (by exact rq_p rfl rfl)) ?_); refine asemC_end ?_) | (refine WP.regionC (id := 1) ?_; (refine su (ap_move (by exact rq_p rfl rfl)) ?_); (refine su (ap_len_m (by exact rfl) (by exact rq_p rfl rfl)) ?_); (refine su (ap_move (by exact rq_p rfl rfl)) ?_); refine asemC_end ?_)))
  refine wp_loop (fun k => k ≤ l.length ∧ (l.take k).any (fun x => decide (s = x)) = false) (fun k => l.length - k) (fun k => (S 19 [(0, strsA l), (1, strA s), (7, intA (l.length : Nat)), (8, intA (k : Nat))] 0 [])) 0 ⟨[], ToR.S rfl (by repeat' (first | exact rt_nil | refine rt_e (by exact rfl) (by exact rfl) ?_ | refine rt_p (by exact rfl) (by exact rfl) (by first | (simp [AV.bd, bdL, bdL_append]; done) | fail) ?_)) (by repeat' (exact ro_nil)) (by exact rfl) (by (rw [hm]; exact rfl)) (by exact rfl) (by (simp [bdT, AV.bd, bdL, bdL_append]; done)) (by repeat' (exact True.intro)) (by (rw [hm]; exact Nat.le_of_ble_eq_true rfl))⟩ ⟨Nat.zero_le _, rfl⟩ ?_
  rintro k ⟨hk, hall⟩
  (repeat' (first | refine WP.seq ?_ | refine WP.block ?_ | refine go_n ?_ | refine WP.skip ?_ | refine WP.exit ?_ | refine WP.ret ?_ | refine go_x ?_ | refine go_r ?_ | refine bl_n ?_ | refine bl_r ?_ | refine bl_x ?_ | refine bo_r ?_ | (refine wp_cond (by exact rfl) (fun hc => ?_) (fun hc => ?_) <;> (try simp only [decide_eq_true_eq, decide_eq_false_iff_not, Decidable.not_not, Bool.and_eq_true, Bool.or_eq_true, Bool.not_eq_true', Bool.not_eq_false', Bool.or_eq_false_iff, Bool.and_eq_false_iff, Int.not_lt, Int.not_le, reduceCtorEq, ne_eq, Bool.not_true, Bool.not_false, Bool.not_eq_true, Bool.not_eq_false] at hc) <;> (try (exfalso; omega))) | (refine WP.regionC (id := 2) ?_; (refine su (ap_lss (by exact rq_p rfl rfl) (by exact rq_p rfl rfl)) ?_); refine asemC_end ?_) | (refine WP.regionC (id := 3) ?_; (refine su (ap_move (by exact rq_p rfl rfl)) ?_); (refine su (ap_assign (by exact rq_p rfl rfl)) ?_); refine asemC_end ?_) | (refine WP.regionC (id := 4) ?_; (refine su (ap_move (by exact rq_p rfl rfl)) ?_); (refine su (ap_move (by exact rq_p rfl rfl)) ?_); (refine su (ap_move (by exact rq_p rfl rfl)) ?_); (refine su (ap_idx_n (by exact rq_p rfl rfl) (by exact rq_p rfl rfl) (by omega)) ?_); (refine su (ap_load_w (by exact rq_p rfl rfl) (by exact rfl)) ?_); (refine su (ap_eqs (by exact rq_p rfl rfl) (by exact rq_p rfl rfl)) ?_); refine asemC_end ?_) | (refine WP.regionC (id := 5) ?_; (refine su (ap_move (by exact rq_p rfl rfl)) ?_); (refine su (ap_assign (by exact rq_p rfl rfl)) ?_); refine asemC_end ?_) | (refine WP.regionC (id := 6) ?_; (refine su (ap_add (by exact rq_p rfl rfl) (by exact rq_p rfl rfl) (by exact inr_i64_of (by omega))) ?_); (refine su (ap_move (by exact rq_p rfl rfl)) ?_); refine asemC_end ?_) | (refine WP.regionC (id := 7) ?_; (refine su (ap_assign (by exact rq_p rfl rfl)) ?_); refine asemC_end ?_) | refine ret_i (by exact rfl) ?_))
  · exact (indexP_at (by omega) hall (by simp [hc])).symm
  · exact ⟨k + 1, ⟨by omega, by omega, take_any_succ (by omega) hall (by simp [hc])⟩, ⟨[], ToR.S rfl (by repeat' (first | exact rt_nil | refine rt_e (by exact rfl) (by exact rfl) ?_ | refine rt_p (by exact rfl) (by exact rfl) (by first | (simp [AV.bd, bdL, bdL_append]; done) | fail) ?_)) (by repeat' (exact ro_nil)) (by exact rfl) (by (rw [hm]; exact rfl)) (by exact rfl) (by (simp [bdT, AV.bd, bdL, bdL_append]; done)) (by repeat' (exact True.intro)) (by (rw [hm]; exact Nat.le_of_ble_eq_true rfl))⟩⟩
  · exact (indexP_no (by omega) hall).symm
theorem containsS_fn (l : List ByteArray) (s : ByteArray) : Fn Try.prog 61 [strsA l, strA s] (boolA (l.any fun x => decide (s = x))) := by
  refine Fn.intro (by exact rfl) (by kernel_rfl) Try.func61 rfl rfl Try.ntmps61 (by exact Nat.le_of_ble_eq_true rfl) ?_; intro Γ hm
  (repeat' (first | refine WP.seq ?_ | refine go_n ?_ | refine WP.ret ?_ | refine bo_r ?_ | (refine WP.regionC (id := 0) ?_; (refine su (ap_assign (by exact rq_p rfl rfl)) ?_); refine asemC_end ?_) | (refine WP.regionC (id := 1) ?_; (refine su (ap_move (by exact rq_p rfl rfl)) ?_); (refine su (ap_move (by exact rq_p rfl rfl)) ?_); (refine sc_p rfl rfl (by first | ((repeat' first | exact SubL.nil | refine SubL.cons ?_ ?_ | exact Sub.refl); done) | fail) (by first | (simp [bdL, bdL_append, AV.bd]; done) | fail) (index_fn _ _) ?_); (refine su (ap_geq (by exact rq_p rfl rfl) (by exact rq_p rfl rfl)) ?_); (refine su (ap_assign (by exact rq_p rfl rfl)) ?_); refine asemC_end ?_) | refine ret_b (by exact rfl) ?_))
  exact indexP_any
def kw0 : ByteArray := ⟨#[115, 116, 97, 114, 116]⟩
def kw1 : ByteArray := ⟨#[108, 101, 102, 116]⟩
def kw2 : ByteArray := ⟨#[114, 105, 103, 104, 116]⟩
def kw3 : ByteArray := ⟨#[110, 111, 110, 101]⟩
def kw4 : ByteArray := ⟨#[112, 114, 105, 99, 101]⟩
def kws : List ByteArray := [kw0, kw1, kw2, kw3, kw4]
def gnCh (s : ByteArray) (i : Nat) : Bool := letB (bAt s i) || (!decide (i = 0) && (digB (bAt s i) || decide (bAt s i = 95)))
def gnOk (s : ByteArray) : Bool := decide (1 ≤ s.size) && decide (s.size ≤ 24) && (List.range s.size).all (gnCh s) && !kws.any (fun x => decide (s = x))
theorem size_zero {s : ByteArray} (hs : s.size = 0) : s = ⟨#[]⟩ := by
  obtain ⟨⟨l⟩⟩ := s
  have : l = [] := List.eq_nil_of_length_eq_zero (by simpa [ByteArray.size] using hs)
  subst this; rfl
theorem gnOk_no0 {s : ByteArray} (h : letB (bAt s 0) = false) : gnOk s = false := by
  by_cases h0 : s.size = 0
  · simp [gnOk, h0]
  · have : gnCh s 0 = false := by simp [gnCh, h]
    simp only [gnOk, range_all_no (k := 0) (n := s.size) (by omega) this, Bool.and_false, Bool.false_and]
theorem rname_fn (x : ByteArray) (hx : x.size ≤ 9223372036854775807) : Fn Try.prog 36 [strA x] (boolA (gnOk x)) := by
  refine Fn.intro (by exact rfl) (by kernel_rfl) Try.func36 rfl rfl Try.ntmps36 (by exact Nat.le_of_ble_eq_true rfl) ?_; intro Γ hm
  (repeat' (first | refine WP.seq ?_ | refine WP.block ?_ | refine go_n ?_ | (refine WP.regionC (id := 0) ?_; (refine su (ap_assign (by exact rq_p rfl rfl)) ?_); refine asemC_end ?_) | (refine WP.regionC (id := 1) ?_; (refine su (ap_assign (by exact rq_p rfl rfl)) ?_); refine asemC_end ?_)))
  refine wp_loop (fun k => k ≤ x.size ∧ (List.range k).all (gnCh x) = true) (fun k => x.size - k) (fun k => (S 84 [(0, strA x), (3, intA (k : Nat))] 0 [])) 0 ⟨[], ToR.S rfl (by repeat' (first | exact rt_nil | refine rt_e (by exact rfl) (by exact rfl) ?_)) (by repeat' (exact ro_nil)) (by exact rfl) (by (rw [hm]; exact rfl)) (by exact rfl) (by (simp [bdT, AV.bd, bdL, bdL_append]; done)) (by repeat' (exact True.intro)) (by (rw [hm]; exact Nat.le_of_ble_eq_true rfl))⟩ ⟨Nat.zero_le _, rfl⟩ ?_
  rintro k ⟨hk, hall⟩
  have hb := bAt_bd x k
  (repeat' (first | refine WP.seq ?_ | refine WP.block ?_ | refine go_n ?_ | refine WP.skip ?_ | refine WP.exit ?_ | refine WP.ret ?_ | refine go_x ?_ | refine go_r ?_ | refine bl_n ?_ | refine bl_r ?_ | refine bl_x ?_ | refine bo_r ?_ | (refine wp_cond (by exact rfl) (fun hc => ?_) (fun hc => ?_) <;> (try simp only [decide_eq_true_eq, decide_eq_false_iff_not, Decidable.not_not, Bool.and_eq_true, Bool.or_eq_true, Bool.not_eq_true', Bool.not_eq_false', Bool.or_eq_false_iff, Bool.and_eq_false_iff, Int.not_lt, Int.not_le, reduceCtorEq, ne_eq, Bool.not_true, Bool.not_false, Bool.not_eq_true, Bool.not_eq_false] at hc) <;> (try (exfalso; omega))) | (refine WP.regionC (id := 2) ?_; (refine su (ap_move (by exact rq_p rfl rfl)) ?_); (refine su (ap_move (by exact rq_p rfl rfl)) ?_); (refine su (ap_len_str (by exact rfl) (by exact rq_p rfl rfl)) ?_); (refine su (ap_lss (by exact rq_p rfl rfl) (by exact rq_p rfl rfl)) ?_); refine asemC_end ?_) | (refine WP.regionC (id := 4) ?_; (refine su (ap_move (by exact rq_p rfl rfl)) ?_); (refine su (ap_move (by exact rq_p rfl rfl)) ?_); (refine su (ap_sidx_n (by exact rq_p rfl rfl) (by exact rq_p rfl rfl) (by exact rfl) (by omega)) ?_); (refine su (ap_geq (by exact rq_p rfl rfl) (by exact rq_p rfl rfl)) ?_); (refine su (ap_move (by exact rq_p rfl rfl)) ?_); (refine sg (by exact gq_vt rfl rfl) (fun he => ap_move (by exact rq_p rfl rfl)) ?_); (refine sg (by exact gq_vt rfl rfl) (fun he => ap_move (by exact rq_p rfl rfl)) ?_); (refine sg (by exact gq_vt rfl rfl) (fun he => ap_sidx_n (by exact rq_c rfl rfl) (by exact rq_c rfl rfl) (by exact rfl) (by (try simp only [List.all_cons, List.all_append, List.all_nil, id, Bool.and_true, decide_eq_true_eq, decide_eq_false_iff_not, Decidable.not_not, Bool.and_eq_true, Bool.or_eq_true, Bool.not_eq_true', Bool.not_eq_false', Bool.or_eq_false_iff, Bool.and_eq_false_iff, Int.not_lt, Int.not_le, reduceCtorEq, ne_eq, Bool.not_true, Bool.not_false, Bool.not_eq_true, Bool.not_eq_false] at he); omega)) ?_); (refine sg (by exact gq_vt rfl rfl) (fun he => ap_leq (by exact rq_c rfl rfl) (by exact rq_p rfl rfl)) ?_); (refine su (ap_and (by exact rq_p rfl rfl) (by exact rq_c rfl rfl)) ?_); (refine su (ap_move (by exact rq_p rfl rfl)) ?_); (refine sg (by exact gq_vf rfl rfl) (fun he => ap_move (by exact rq_p rfl rfl)) ?_); (refine sg (by exact gq_vf rfl rfl) (fun he => ap_move (by exact rq_p rfl rfl)) ?_); (refine sg (by exact gq_vf rfl rfl) (fun he => ap_sidx_n (by exact rq_c rfl rfl) (by exact rq_c rfl rfl) (by exact rfl) (by (try simp only [List.all_cons, List.all_append, List.all_nil, id, Bool.and_true, decide_eq_true_eq, decide_eq_false_iff_not, Decidable.not_not, Bool.and_eq_true, Bool.or_eq_true, Bool.not_eq_true', Bool.not_eq_false', Bool.or_eq_false_iff, Bool.and_eq_false_iff, Int.not_lt, Int.not_le, reduceCtorEq, ne_eq, Bool.not_true, Bool.not_false, Bool.not_eq_true, Bool.not_eq_false] at he); omega)) ?_); (refine sg (by exact gq_vf rfl rfl) (fun he => ap_geq (by exact rq_c rfl rfl) (by exact rq_p rfl rfl)) ?_); (refine sg (by exact gq_vf rfl rfl) (fun he => ap_move (by exact rq_c rfl rfl)) ?_); (refine sg (by exact gq_ct rfl rfl) (fun he => ap_move (by exact rq_p rfl rfl)) ?_); (refine sg (by exact gq_ct rfl rfl) (fun he => ap_move (by exact rq_p rfl rfl)) ?_); (refine sg (by exact gq_ct rfl rfl) (fun he => ap_sidx_n (by exact rq_c rfl rfl) (by exact rq_c rfl rfl) (by exact rfl) (by (try simp only [List.all_cons, List.all_append, List.all_nil, id, Bool.and_true, decide_eq_true_eq, decide_eq_false_iff_not, Decidable.not_not, Bool.and_eq_true, Bool.or_eq_true, Bool.not_eq_true', Bool.not_eq_false', Bool.or_eq_false_iff, Bool.and_eq_false_iff, Int.not_lt, Int.not_le, reduceCtorEq, ne_eq, Bool.not_true, Bool.not_false, Bool.not_eq_true, Bool.not_eq_false] at he); omega)) ?_); (refine sg (by exact gq_ct rfl rfl) (fun he => ap_leq (by exact rq_c rfl rfl) (by exact rq_p rfl rfl)) ?_); (refine sg (by exact gq_vf rfl rfl) (fun he => ap_and (by exact rq_c rfl rfl) (by exact rq_c rfl rfl)) ?_); (refine su (ap_or (by exact rq_p rfl rfl) (by exact rq_c rfl rfl)) ?_); (refine su (ap_assign (by exact rq_p rfl rfl)) ?_); refine asemC_end ?_) | (refine WP.regionC (id := 5) ?_; (refine su (ap_move (by exact rq_p rfl rfl)) ?_); (refine su (ap_not (by exact rq_p rfl rfl)) ?_); (refine su (ap_move (by exact rq_p rfl rfl)) ?_); (refine sg (by exact gq_vt rfl rfl) (fun he => ap_move (by exact rq_p rfl rfl)) ?_); (refine sg (by exact gq_vt rfl rfl) (fun he => ap_eql (by exact rq_c rfl rfl) (by exact rq_p rfl rfl)) ?_); (refine sg (by exact gq_vt rfl rfl) (fun he => ap_move (by exact rq_c rfl rfl)) ?_); (refine sg (by exact gq_cf rfl rfl) (fun he => ap_move (by exact rq_p rfl rfl)) ?_); (refine sg (by exact gq_cf rfl rfl) (fun he => ap_move (by exact rq_p rfl rfl)) ?_); (refine sg (by exact gq_cf rfl rfl) (fun he => ap_sidx_n (by exact rq_c rfl rfl) (by exact rq_c rfl rfl) (by exact rfl) (by (try simp only [List.all_cons, List.all_append, List.all_nil, id, Bool.and_true, decide_eq_true_eq, decide_eq_false_iff_not, Decidable.not_not, Bool.and_eq_true, Bool.or_eq_true, Bool.not_eq_true', Bool.not_eq_false', Bool.or_eq_false_iff, Bool.and_eq_false_iff, Int.not_lt, Int.not_le, reduceCtorEq, ne_eq, Bool.not_true, Bool.not_false, Bool.not_eq_true, Bool.not_eq_false] at he); omega)) ?_); (refine sg (by exact gq_cf rfl rfl) (fun he => ap_lss (by exact rq_c rfl rfl) (by exact rq_p rfl rfl)) ?_); (refine sg (by exact gq_cf rfl rfl) (fun he => ap_move (by exact rq_c rfl rfl)) ?_); (refine sg (by exact gq_cf rfl rfl) (fun he => ap_move (by exact rq_p rfl rfl)) ?_); (refine sg (by exact gq_cf rfl rfl) (fun he => ap_move (by exact rq_p rfl rfl)) ?_); (refine sg (by exact gq_cf rfl rfl) (fun he => ap_sidx_n (by exact rq_c rfl rfl) (by exact rq_c rfl rfl) (by exact rfl) (by (try simp only [List.all_cons, List.all_append, List.all_nil, id, Bool.and_true, decide_eq_true_eq, decide_eq_false_iff_not, Decidable.not_not, Bool.and_eq_true, Bool.or_eq_true, Bool.not_eq_true', Bool.not_eq_false', Bool.or_eq_false_iff, Bool.and_eq_false_iff, Int.not_lt, Int.not_le, reduceCtorEq, ne_eq, Bool.not_true, Bool.not_false, Bool.not_eq_true, Bool.not_eq_false] at he); omega)) ?_); (refine sg (by exact gq_cf rfl rfl) (fun he => ap_gtr (by exact rq_c rfl rfl) (by exact rq_p rfl rfl)) ?_); (refine sg (by exact gq_cf rfl rfl) (fun he => ap_or (by exact rq_c rfl rfl) (by exact rq_c rfl rfl)) ?_); (refine sg (by exact gq_cf rfl rfl) (fun he => ap_move (by exact rq_c rfl rfl)) ?_); (refine sg (by exact gq_ct rfl rfl) (fun he => ap_move (by exact rq_p rfl rfl)) ?_); (refine sg (by exact gq_ct rfl rfl) (fun he => ap_move (by exact rq_p rfl rfl)) ?_); (refine sg (by exact gq_ct rfl rfl) (fun he => ap_sidx_n (by exact rq_c rfl rfl) (by exact rq_c rfl rfl) (by exact rfl) (by (try simp only [List.all_cons, List.all_append, List.all_nil, id, Bool.and_true, decide_eq_true_eq, decide_eq_false_iff_not, Decidable.not_not, Bool.and_eq_true, Bool.or_eq_true, Bool.not_eq_true', Bool.not_eq_false', Bool.or_eq_false_iff, Bool.and_eq_false_iff, Int.not_lt, Int.not_le, reduceCtorEq, ne_eq, Bool.not_true, Bool.not_false, Bool.not_eq_true, Bool.not_eq_false] at he); omega)) ?_); (refine sg (by exact gq_ct rfl rfl) (fun he => ap_neq (by exact rq_c rfl rfl) (by exact rq_p rfl rfl)) ?_); (refine sg (by exact gq_cf rfl rfl) (fun he => ap_and (by exact rq_c rfl rfl) (by exact rq_c rfl rfl)) ?_); (refine sg (by exact gq_vt rfl rfl) (fun he => ap_or (by exact rq_c rfl rfl) (by exact rq_c rfl rfl)) ?_); (refine su (ap_and (by exact rq_p rfl rfl) (by exact rq_c rfl rfl)) ?_); refine asemC_end ?_) | (refine WP.regionC (id := 6) ?_; (refine su (ap_assign (by exact rq_p rfl rfl)) ?_); refine asemC_end ?_) | (refine WP.regionC (id := 3) ?_; (refine su (ap_move (by exact rq_p rfl rfl)) ?_); (refine su (ap_add (by exact rq_p rfl rfl) (by exact rq_p rfl rfl) (by exact inr_i64_of (by omega))) ?_); (refine su (ap_assign (by exact rq_p rfl rfl)) ?_); refine asemC_end ?_) | (refine WP.regionC (id := 7) ?_; (refine su (ap_move (by exact rq_p rfl rfl)) ?_); (refine su (ap_nes (by exact rq_p rfl rfl) (by exact rq_p rfl rfl)) ?_); (refine su (ap_move (by exact rq_p rfl rfl)) ?_); (refine sg (by exact gq_vt rfl rfl) (fun he => ap_move (by exact rq_p rfl rfl)) ?_); (refine sg (by exact gq_vt rfl rfl) (fun he => ap_len_str (by exact rfl) (by exact rq_c rfl rfl)) ?_); (refine sg (by exact gq_vt rfl rfl) (fun he => ap_leq (by exact rq_c rfl rfl) (by exact rq_p rfl rfl)) ?_); (refine su (ap_and (by exact rq_p rfl rfl) (by exact rq_c rfl rfl)) ?_); (refine su (ap_move (by exact rq_p rfl rfl)) ?_); (refine sg (by exact gq_vt rfl rfl) (fun he => ap_move (by exact rq_p rfl rfl)) ?_); (refine sg (by exact gq_vt rfl rfl) (fun he => ap_nes (by exact rq_c rfl rfl) (by exact rq_p rfl rfl)) ?_); (refine su (ap_and (by exact rq_p rfl rfl) (by exact rq_c rfl rfl)) ?_); (refine su (ap_move (by exact rq_p rfl rfl)) ?_); (refine sg (by exact gq_vt rfl rfl) (fun he => ap_move (by exact rq_p rfl rfl)) ?_); (refine sg (by exact gq_vt rfl rfl) (fun he => ap_nes (by exact rq_c rfl rfl) (by exact rq_p rfl rfl)) ?_); (refine su (ap_and (by exact rq_p rfl rfl) (by exact rq_c rfl rfl)) ?_); (refine su (ap_move (by exact rq_p rfl rfl)) ?_); (refine sg (by exact gq_vt rfl rfl) (fun he => ap_move (by exact rq_p rfl rfl)) ?_); (refine sg (by exact gq_vt rfl rfl) (fun he => ap_nes (by exact rq_c rfl rfl) (by exact rq_p rfl rfl)) ?_); (refine su (ap_and (by exact rq_p rfl rfl) (by exact rq_c rfl rfl)) ?_); (refine su (ap_move (by exact rq_p rfl rfl)) ?_); (refine sg (by exact gq_vt rfl rfl) (fun he => ap_move (by exact rq_p rfl rfl)) ?_); (refine sg (by exact gq_vt rfl rfl) (fun he => ap_nes (by exact rq_c rfl rfl) (by exact rq_p rfl rfl)) ?_); (refine su (ap_and (by exact rq_p rfl rfl) (by exact rq_c rfl rfl)) ?_); (refine su (ap_move (by exact rq_p rfl rfl)) ?_); (refine sg (by exact gq_vt rfl rfl) (fun he => ap_move (by exact rq_p rfl rfl)) ?_); (refine sg (by exact gq_vt rfl rfl) (fun he => ap_nes (by exact rq_c rfl rfl) (by exact rq_p rfl rfl)) ?_); (refine su (ap_and (by exact rq_p rfl rfl) (by exact rq_c rfl rfl)) ?_); (refine su (ap_assign (by exact rq_p rfl rfl)) ?_); refine asemC_end ?_) | refine ret_b (by exact rfl) ?_))
  · rw [show gnOk x = false by simp only [gnOk]; rw [range_all_no (k := k) (by omega), Bool.and_false, Bool.false_and]; simp [gnCh, letB, digB]; omega]
  · refine ⟨k + 1, ⟨by omega, by omega, range_all_succ hall ?_⟩, ⟨[], ToR.S rfl (by repeat' (first | exact rt_nil | refine rt_e (by exact rfl) (by exact rfl) ?_)) (by repeat' (exact ro_nil)) (by exact rfl) (by (rw [hm]; exact rfl)) (by exact rfl) (by (simp [bdT, AV.bd, bdL, bdL_append]; done)) (by repeat' (exact True.intro)) (by (rw [hm]; exact Nat.le_of_ble_eq_true rfl))⟩⟩
    simp [gnCh, letB, digB]; omega
  have : k = x.size := by omega
  subst this
  rw [Bool.eq_iff_iff]
  have e0 : x = ⟨#[]⟩ ↔ x.size = 0 := ⟨fun h => by rw [h]; rfl, size_zero⟩
  simp only [gnOk, hall, kws, kw0, kw1, kw2, kw3, kw4, List.any_cons, List.any_nil, Bool.or_false, Bool.not_or, Bool.and_eq_true, Bool.not_eq_true', decide_eq_true_eq, decide_eq_false_iff_not, and_true, e0]
  constructor
  · rintro ⟨⟨⟨⟨⟨⟨h1, h2⟩, h3⟩, h4⟩, h5⟩, h6⟩, h7⟩; exact ⟨⟨by omega, by omega⟩, h3, h4, h5, h6, h7⟩
  · rintro ⟨⟨h1, h2⟩, h3, h4, h5, h6, h7⟩; exact ⟨⟨⟨⟨⟨⟨by omega, by omega⟩, h3⟩, h4⟩, h5⟩, h6⟩, h7⟩
theorem name_fn (s : ByteArray) : Fn Try.prog 74 [strA s] (boolA (gnOk s)) := by
  refine Fn.intro (by exact rfl) (by kernel_rfl) Try.func74 rfl rfl Try.ntmps74 (by exact Nat.le_of_ble_eq_true rfl) ?_; intro Γ hm
  by_cases hs : s.size = 0
  · have e0 := size_zero hs
    (repeat' (first | refine WP.seq ?_ | refine WP.block ?_ | refine go_n ?_ | refine WP.skip ?_ | refine WP.ret ?_ | refine go_r ?_ | refine bo_r ?_ | (refine wp_cond (by exact rfl) (fun hc => ?_) (fun hc => ?_) <;> (try simp only [decide_eq_true_eq, decide_eq_false_iff_not, Decidable.not_not, Bool.and_eq_true, Bool.or_eq_true, Bool.not_eq_true', Bool.not_eq_false', Bool.or_eq_false_iff, Bool.and_eq_false_iff, Int.not_lt, Int.not_le, reduceCtorEq, ne_eq, Bool.not_true, Bool.not_false, Bool.not_eq_true, Bool.not_eq_false] at hc) <;> (try (exfalso; omega))) | (refine WP.regionC (id := 0) ?_; (refine su (ap_assign (by exact rq_p rfl rfl)) ?_); refine asemC_end ?_) | (refine WP.regionC (id := 1) ?_ <;> (refine su (ap_move (by exact rq_p rfl rfl)) ?_) <;> (refine su (ap_eqs (by exact rq_p rfl rfl) (by exact rq_p rfl rfl)) ?_) <;> (refine su (ap_move (by exact rq_p rfl rfl)) ?_) <;> (refine sg (by exact gq_vf rfl rfl) (fun he => ap_move (by exact rq_p rfl rfl)) ?_) <;> (refine sg (by exact gq_vf rfl rfl) (fun he => ap_len_str (by exact rfl) (by exact rq_c rfl rfl)) ?_) <;> (refine sg (by exact gq_vf rfl rfl) (fun he => ap_gtr (by exact rq_c rfl rfl) (by exact rq_p rfl rfl)) ?_) <;> (refine su (ap_or (by exact rq_p rfl rfl) (by exact rq_c rfl rfl)) ?_) <;> (refine su (ap_move (by exact rq_p rfl rfl)) ?_) <;> (refine sg (by exact gq_vf rfl rfl) (fun he => ap_move (by exact rq_p rfl rfl)) ?_) <;> (refine sg (by exact gq_vf rfl rfl) (fun he => ap_sidx_n (by exact rq_c rfl rfl) (by exact rq_p rfl rfl) (by exact rfl) (by (try simp only [List.all_cons, List.all_append, List.all_nil, id, Bool.and_true, decide_eq_true_eq, decide_eq_false_iff_not, Decidable.not_not, Bool.and_eq_true, Bool.or_eq_true, Bool.not_eq_true', Bool.not_eq_false', Bool.or_eq_false_iff, Bool.and_eq_false_iff, Int.not_lt, Int.not_le, reduceCtorEq, ne_eq, Bool.not_true, Bool.not_false, Bool.not_eq_true, Bool.not_eq_false] at he); (exfalso; simp [*] at he; done))) ?_) <;> (refine sg_p (by exact gq_vf rfl rfl) (fun he => ⟨(by exact rq_p rfl rfl), (RqL.cons (by exact rq_c rfl rfl) (RqL.nil)), (by first | ((repeat' first | exact SubL.nil | refine SubL.cons ?_ ?_ | exact Sub.refl); done) | fail), (by first | (simp [bdL, bdL_append, AV.bd]; done) | fail), letter_fn _⟩) ?_) <;> (refine sg (by exact gq_vf rfl rfl) (fun he => ap_not (by exact rq_c rfl rfl)) ?_) <;> (refine su (ap_or (by exact rq_p rfl rfl) (by exact rq_c rfl rfl)) ?_) <;> (refine su (ap_move (by exact rq_p rfl rfl)) ?_) <;> ((refine as_split (t := 17) (by exact rfl) (fun hc => ?_) (fun hc => ?_) <;> (try simp only [decide_eq_true_eq, decide_eq_false_iff_not, Decidable.not_not, Bool.and_eq_true, Bool.or_eq_true, Bool.not_eq_true', Bool.not_eq_false', Bool.or_eq_false_iff, Bool.and_eq_false_iff, Int.not_lt, Int.not_le, reduceCtorEq, ne_eq, Bool.not_true, Bool.not_false, Bool.not_eq_true, Bool.not_eq_false] at hc) <;> (try (exfalso; omega)) <;> (first | refine sgt_lit (by exact rfl) (by exact rfl) (by exact rfl) (OpP.cons (by exact rfl) (OpP.cons (by exact rfl) (OpP.cons (by exact rfl) (OpP.cons (by exact rfl) (OpP.cons (by exact rfl) (OpP.nil)))))) (by exact rfl) (by exact rfl) (by exact rfl) (by exact rfl) (by exact rfl) (by exact rfl) ?_ | refine sk_no (by exact rfl) (by exact rfl) ?_))) <;> (refine sg (by exact gq_vf rfl rfl) (fun he => ap_move (by exact rq_p rfl rfl)) ?_) <;> (first | refine sk_no (by exact rfl) (by exact rfl) ?_ | refine sg_b (by exact gq_vf rfl rfl) (fun he => ⟨(by exact rq_p rfl rfl), (RqL.cons (by exact rq_p rfl rfl) (RqL.cons (by exact rq_c rfl rfl) (RqL.nil))), (by first | ((repeat' first | exact FzL.nil | refine FzL.cons ?_ ?_ | (exact Fz.list (by exact rfl) (by exact rfl) (fun _ => by simp [AV.bd, bdL, bdL_append]) (fun _ => rfl)) | (exact Fz.reflp (by simp [AV.bd, bdL, bdL_append]))); done) | fail), containsS_fn kws _, (by exact rfl)⟩) ?_) <;> (first | refine su (ap_or (by exact rq_p rfl rfl) (by exact rq_c rfl rfl)) ?_ | refine pk_t (by exact rfl) (by exact rfl) ?_) <;> refine asemC_end ?_) | (refine WP.regionC (id := 2) ?_; (refine su (ap_assign (by exact rq_p rfl rfl)) ?_); refine asemC_end ?_) | (refine WP.regionC (id := 3) ?_; (refine su (ap_move (by exact rq_p rfl rfl)) ?_); (refine su (ap_len_str (by exact rfl) (by exact rq_p rfl rfl)) ?_); (refine su (ap_move (by exact rq_p rfl rfl)) ?_); refine asemC_end ?_) | refine ret_b (by exact rfl) ?_))
    · rw [show gnOk s = false by simp [gnOk, hs]]
    · rcases hc with hc | hc
      · exact hc.elim
      · simp only [gnOk, hc, Bool.not_true, Bool.and_false]
    · rename_i h1; exact absurd e0 h1.1.1
  have hb0 := bAt_bd s 0
  have hne : ¬ s = ⟨#[]⟩ := by rintro rfl; exact hs rfl
  (repeat' (first | refine WP.seq ?_ | refine WP.block ?_ | refine go_n ?_ | refine WP.skip ?_ | refine WP.ret ?_ | refine go_r ?_ | refine bo_r ?_ | (refine wp_cond (by exact rfl) (fun hc => ?_) (fun hc => ?_) <;> (try simp only [decide_eq_true_eq, decide_eq_false_iff_not, Decidable.not_not, Bool.and_eq_true, Bool.or_eq_true, Bool.not_eq_true', Bool.not_eq_false', Bool.or_eq_false_iff, Bool.and_eq_false_iff, Int.not_lt, Int.not_le, reduceCtorEq, ne_eq, Bool.not_true, Bool.not_false, Bool.not_eq_true, Bool.not_eq_false] at hc) <;> (try (exfalso; omega))) | (refine WP.regionC (id := 0) ?_; (refine su (ap_assign (by exact rq_p rfl rfl)) ?_); refine asemC_end ?_) | (refine WP.regionC (id := 1) ?_ <;> (refine su (ap_move (by exact rq_p rfl rfl)) ?_) <;> (refine su (ap_eqs (by exact rq_p rfl rfl) (by exact rq_p rfl rfl)) ?_) <;> (refine su (ap_move (by exact rq_p rfl rfl)) ?_) <;> (refine sg (by exact gq_vf rfl rfl) (fun he => ap_move (by exact rq_p rfl rfl)) ?_) <;> (refine sg (by exact gq_vf rfl rfl) (fun he => ap_len_str (by exact rfl) (by exact rq_c rfl rfl)) ?_) <;> (refine sg (by exact gq_vf rfl rfl) (fun he => ap_gtr (by exact rq_c rfl rfl) (by exact rq_p rfl rfl)) ?_) <;> (refine su (ap_or (by exact rq_p rfl rfl) (by exact rq_c rfl rfl)) ?_) <;> (refine su (ap_move (by exact rq_p rfl rfl)) ?_) <;> (refine sg (by exact gq_vf rfl rfl) (fun he => ap_move (by exact rq_p rfl rfl)) ?_) <;> (refine sg (by exact gq_vf rfl rfl) (fun he => ap_sidx_n (by exact rq_c rfl rfl) (by exact rq_p rfl rfl) (by exact rfl) (by (try simp only [List.all_cons, List.all_append, List.all_nil, id, Bool.and_true, decide_eq_true_eq, decide_eq_false_iff_not, Decidable.not_not, Bool.and_eq_true, Bool.or_eq_true, Bool.not_eq_true', Bool.not_eq_false', Bool.or_eq_false_iff, Bool.and_eq_false_iff, Int.not_lt, Int.not_le, reduceCtorEq, ne_eq, Bool.not_true, Bool.not_false, Bool.not_eq_true, Bool.not_eq_false] at he); (simp only [List.length_replicate, List.length_set, List.length_append, List.length_map, List.length_cons, List.length_nil, List.length_take, List.length_drop] <;> omega))) ?_) <;> (refine sg_p (by exact gq_vf rfl rfl) (fun he => ⟨(by exact rq_p rfl rfl), (RqL.cons (by exact rq_c rfl rfl) (RqL.nil)), (by first | ((repeat' first | exact SubL.nil | refine SubL.cons ?_ ?_ | exact Sub.refl); done) | fail), (by first | (simp [bdL, bdL_append, AV.bd]; done) | fail), letter_fn _⟩) ?_) <;> (refine sg (by exact gq_vf rfl rfl) (fun he => ap_not (by exact rq_c rfl rfl)) ?_) <;> (refine su (ap_or (by exact rq_p rfl rfl) (by exact rq_c rfl rfl)) ?_) <;> (refine su (ap_move (by exact rq_p rfl rfl)) ?_) <;> ((refine as_split (t := 17) (by exact rfl) (fun hc => ?_) (fun hc => ?_) <;> (try simp only [decide_eq_true_eq, decide_eq_false_iff_not, Decidable.not_not, Bool.and_eq_true, Bool.or_eq_true, Bool.not_eq_true', Bool.not_eq_false', Bool.or_eq_false_iff, Bool.and_eq_false_iff, Int.not_lt, Int.not_le, reduceCtorEq, ne_eq, Bool.not_true, Bool.not_false, Bool.not_eq_true, Bool.not_eq_false] at hc) <;> (try (exfalso; omega)) <;> (first | refine sgt_lit (by exact rfl) (by exact rfl) (by exact rfl) (OpP.cons (by exact rfl) (OpP.cons (by exact rfl) (OpP.cons (by exact rfl) (OpP.cons (by exact rfl) (OpP.cons (by exact rfl) (OpP.nil)))))) (by exact rfl) (by exact rfl) (by exact rfl) (by exact rfl) (by exact rfl) (by exact rfl) ?_ | refine sk_no (by exact rfl) (by exact rfl) ?_))) <;> (refine sg (by exact gq_vf rfl rfl) (fun he => ap_move (by exact rq_p rfl rfl)) ?_) <;> (first | refine sk_no (by exact rfl) (by exact rfl) ?_ | refine sg_b (by exact gq_vf rfl rfl) (fun he => ⟨(by exact rq_p rfl rfl), (RqL.cons (by exact rq_p rfl rfl) (RqL.cons (by exact rq_c rfl rfl) (RqL.nil))), (by first | ((repeat' first | exact FzL.nil | refine FzL.cons ?_ ?_ | (exact Fz.list (by exact rfl) (by exact rfl) (fun _ => by simp [AV.bd, bdL, bdL_append]) (fun _ => rfl)) | (exact Fz.reflp (by simp [AV.bd, bdL, bdL_append]))); done) | fail), containsS_fn kws s, (by exact rfl)⟩) ?_) <;> (first | refine su (ap_or (by exact rq_p rfl rfl) (by exact rq_c rfl rfl)) ?_ | refine pk_t (by exact rfl) (by exact rfl) ?_) <;> refine asemC_end ?_) | (refine WP.regionC (id := 2) ?_; (refine su (ap_assign (by exact rq_p rfl rfl)) ?_); refine asemC_end ?_) | (refine WP.regionC (id := 3) ?_; (refine su (ap_move (by exact rq_p rfl rfl)) ?_); (refine su (ap_len_str (by exact rfl) (by exact rq_p rfl rfl)) ?_); (refine su (ap_move (by exact rq_p rfl rfl)) ?_); refine asemC_end ?_) | refine ret_b (by exact rfl) ?_))
  · rename_i h1
    rcases h1 with (h1 | h1) | h1
    · exact absurd h1 hne
    · simp [gnOk]; omega
    · exact (gnOk_no0 h1).symm
  · rcases hc with hc | hc
    · exact hc.elim
    · simp only [gnOk, hc, Bool.not_true, Bool.and_false]
  rename_i h1
  obtain ⟨⟨_, h24⟩, hl0⟩ := h1
  have hkw := hc.2
  refine wp_loop (fun (k : Nat) => k ≤ s.size ∧ (List.range k).all (gnCh s) = true) (fun k => s.size - k)
    (fun k => (S 52 [(0, strA s), (23, intA (s.size : Nat)), (24, intA (k : Nat))] 0 [])) 0 ⟨[], ToR.S rfl (by repeat' (first | exact rt_nil | refine rt_e (by exact rfl) (by exact rfl) ?_)) (by repeat' (exact ro_nil)) (by exact rfl) (by (rw [hm]; exact rfl)) (by exact rfl) (by (simp [bdT, AV.bd, bdL, bdL_append]; done)) (by repeat' (exact True.intro)) (by (rw [hm]; exact Nat.le_of_ble_eq_true rfl))⟩ ⟨Nat.zero_le _, rfl⟩ ?_
  rintro k ⟨hk, hall⟩
  have hb := bAt_bd s k
  (repeat' (first | refine WP.seq ?_ | refine WP.block ?_ | refine go_n ?_ | refine WP.skip ?_ | refine WP.exit ?_ | refine WP.ret ?_ | refine go_x ?_ | refine go_r ?_ | refine bl_n ?_ | refine bl_r ?_ | refine bl_x ?_ | refine bo_r ?_ | (refine wp_cond (by exact rfl) (fun hc => ?_) (fun hc => ?_) <;> (try simp only [decide_eq_true_eq, decide_eq_false_iff_not, Decidable.not_not, Bool.and_eq_true, Bool.or_eq_true, Bool.not_eq_true', Bool.not_eq_false', Bool.or_eq_false_iff, Bool.and_eq_false_iff, Int.not_lt, Int.not_le, reduceCtorEq, ne_eq, Bool.not_true, Bool.not_false, Bool.not_eq_true, Bool.not_eq_false] at hc) <;> (try (exfalso; omega))) | (refine WP.regionC (id := 4) ?_; (refine su (ap_lss (by exact rq_p rfl rfl) (by exact rq_p rfl rfl)) ?_); refine asemC_end ?_) | (refine WP.regionC (id := 5) ?_; (refine su (ap_move (by exact rq_p rfl rfl)) ?_); (refine su (ap_assign (by exact rq_p rfl rfl)) ?_); refine asemC_end ?_) | (refine WP.regionC (id := 6) ?_; (refine su (ap_move (by exact rq_p rfl rfl)) ?_); (refine su (ap_move (by exact rq_p rfl rfl)) ?_); (refine su (ap_sidx_n (by exact rq_p rfl rfl) (by exact rq_p rfl rfl) (by exact rfl) (by omega)) ?_); (refine sc_p rfl rfl (by first | ((repeat' first | exact SubL.nil | refine SubL.cons ?_ ?_ | exact Sub.refl); done) | fail) (by first | (simp [bdL, bdL_append, AV.bd]; done) | fail) (letter_fn _) ?_); (refine su (ap_not (by exact rq_p rfl rfl)) ?_); (refine su (ap_move (by exact rq_p rfl rfl)) ?_); (refine sg (by exact gq_vt rfl rfl) (fun he => ap_move (by exact rq_p rfl rfl)) ?_); (refine sg (by exact gq_vt rfl rfl) (fun he => ap_move (by exact rq_p rfl rfl)) ?_); (refine sg (by exact gq_vt rfl rfl) (fun he => ap_sidx_n (by exact rq_c rfl rfl) (by exact rq_c rfl rfl) (by exact rfl) (by (try simp only [List.all_cons, List.all_append, List.all_nil, id, Bool.and_true, decide_eq_true_eq, decide_eq_false_iff_not, Decidable.not_not, Bool.and_eq_true, Bool.or_eq_true, Bool.not_eq_true', Bool.not_eq_false', Bool.or_eq_false_iff, Bool.and_eq_false_iff, Int.not_lt, Int.not_le, reduceCtorEq, ne_eq, Bool.not_true, Bool.not_false, Bool.not_eq_true, Bool.not_eq_false] at he); omega)) ?_); (refine sg (by exact gq_vt rfl rfl) (fun he => ap_geq (by exact rq_c rfl rfl) (by exact rq_p rfl rfl)) ?_); (refine sg (by exact gq_vt rfl rfl) (fun he => ap_move (by exact rq_c rfl rfl)) ?_); (refine sg (by exact gq_ct rfl rfl) (fun he => ap_move (by exact rq_p rfl rfl)) ?_); (refine sg (by exact gq_ct rfl rfl) (fun he => ap_move (by exact rq_p rfl rfl)) ?_); (refine sg (by exact gq_ct rfl rfl) (fun he => ap_sidx_n (by exact rq_c rfl rfl) (by exact rq_c rfl rfl) (by exact rfl) (by (try simp only [List.all_cons, List.all_append, List.all_nil, id, Bool.and_true, decide_eq_true_eq, decide_eq_false_iff_not, Decidable.not_not, Bool.and_eq_true, Bool.or_eq_true, Bool.not_eq_true', Bool.not_eq_false', Bool.or_eq_false_iff, Bool.and_eq_false_iff, Int.not_lt, Int.not_le, reduceCtorEq, ne_eq, Bool.not_true, Bool.not_false, Bool.not_eq_true, Bool.not_eq_false] at he); omega)) ?_); (refine sg (by exact gq_ct rfl rfl) (fun he => ap_leq (by exact rq_c rfl rfl) (by exact rq_p rfl rfl)) ?_); (refine sg (by exact gq_vt rfl rfl) (fun he => ap_and (by exact rq_c rfl rfl) (by exact rq_c rfl rfl)) ?_); (refine sg (by exact gq_vt rfl rfl) (fun he => ap_not (by exact rq_c rfl rfl)) ?_); (refine su (ap_and (by exact rq_p rfl rfl) (by exact rq_c rfl rfl)) ?_); (refine su (ap_move (by exact rq_p rfl rfl)) ?_); (refine sg (by exact gq_vt rfl rfl) (fun he => ap_move (by exact rq_p rfl rfl)) ?_); (refine sg (by exact gq_vt rfl rfl) (fun he => ap_move (by exact rq_p rfl rfl)) ?_); (refine sg (by exact gq_vt rfl rfl) (fun he => ap_sidx_n (by exact rq_c rfl rfl) (by exact rq_c rfl rfl) (by exact rfl) (by (try simp only [List.all_cons, List.all_append, List.all_nil, id, Bool.and_true, decide_eq_true_eq, decide_eq_false_iff_not, Decidable.not_not, Bool.and_eq_true, Bool.or_eq_true, Bool.not_eq_true', Bool.not_eq_false', Bool.or_eq_false_iff, Bool.and_eq_false_iff, Int.not_lt, Int.not_le, reduceCtorEq, ne_eq, Bool.not_true, Bool.not_false, Bool.not_eq_true, Bool.not_eq_false] at he); omega)) ?_); (refine sg (by exact gq_vt rfl rfl) (fun he => ap_neq (by exact rq_c rfl rfl) (by exact rq_p rfl rfl)) ?_); (refine su (ap_and (by exact rq_p rfl rfl) (by exact rq_c rfl rfl)) ?_); refine asemC_end ?_) | (refine WP.regionC (id := 7) ?_; (refine su (ap_assign (by exact rq_p rfl rfl)) ?_); refine asemC_end ?_) | (refine WP.regionC (id := 8) ?_; (refine su (ap_add (by exact rq_p rfl rfl) (by exact rq_p rfl rfl) (by exact inr_i64_of (by omega))) ?_); (refine su (ap_move (by exact rq_p rfl rfl)) ?_); refine asemC_end ?_) | (refine WP.regionC (id := 9) ?_; (refine su (ap_assign (by exact rq_p rfl rfl)) ?_); refine asemC_end ?_) | refine ret_b (by exact rfl) ?_))
  · rw [show gnOk s = false by simp only [gnOk]; rw [range_all_no (k := k) (by omega), Bool.and_false, Bool.false_and]; simp [gnCh, hc]; simp [letB, digB]; omega]
  · refine ⟨k + 1, ⟨by omega, by omega, range_all_succ hall ?_⟩, ⟨[], ToR.S rfl (by repeat' (first | exact rt_nil | refine rt_e (by exact rfl) (by exact rfl) ?_)) (by repeat' (exact ro_nil)) (by exact rfl) (by (rw [hm]; exact rfl)) (by exact rfl) (by (simp [bdT, AV.bd, bdL, bdL_append]; done)) (by repeat' (exact True.intro)) (by (rw [hm]; exact Nat.le_of_ble_eq_true rfl))⟩⟩
    by_cases h0 : k = 0
    · subst h0; simp [gnCh, hl0]
    · simp only [gnCh, digB, h0, decide_false, Bool.not_false, Bool.true_and, Bool.or_eq_true, Bool.and_eq_true, decide_eq_true_eq]
      rcases hc with (hc | hc) | hc
      · exact .inl hc
      · exact .inr (.inl hc)
      · exact .inr (.inr hc)
  have : k = s.size := by omega
  subst this
  simp only [gnOk, hall, hkw]; simp; omega
end Go.Lg

namespace Go.Lg
abbrev Tx := List UInt8
def isL (c : UInt8) : Bool := letB (c.toNat : Int)
def isD (c : UInt8) : Bool := digB (c.toNat : Int)
def isW (c : UInt8) : Bool := isL c || isD c || decide (c = 95)
def isB (c : UInt8) : Bool := decide (c = 32) || decide (c = 9) || decide (c = 13) || decide (c = 10)
def tokN : Tx → Nat
  | [] => 0
  | c :: r => if isL c then 1 + (r.takeWhile isW).length else if isD c then 1 + (r.takeWhile isD).length else 1
def comN (l : Tx) : Nat := (l.takeWhile fun c => !decide (c = 10)).length
theorem comN_le (l : Tx) : comN l ≤ l.length := (List.takeWhile_sublist _).length_le
theorem tokN_pos (c : UInt8) (r : Tx) : 1 ≤ tokN (c :: r) := by
  simp only [tokN]
  split
  · omega
  · split <;> omega
theorem tokN_le (l : Tx) : tokN l ≤ l.length := by
  cases l with
  | nil => exact Nat.le_refl _
  | cons c r =>
    have h1 := (List.takeWhile_sublist isW (l := r)).length_le
    have h2 := (List.takeWhile_sublist isD (l := r)).length_le
    unfold tokN; simp only [List.length_cons]; split; · omega
    split <;> omega
def lexL (l : Tx) (at_ : Nat) : List (Nat × Tx) :=
  match l with
  | [] => []
  | c :: r =>
    if isB c then lexL r (at_ + 1)
    else if c = 35 then lexL (r.drop (comN r)) (at_ + 1 + comN r)
    else (at_, (c :: r).take (tokN (c :: r))) :: lexL ((c :: r).drop (tokN (c :: r))) (at_ + tokN (c :: r))
termination_by l.length
decreasing_by
  all_goals simp only [List.length_cons, List.length_drop]
  · omega
  · omega
  · have := tokN_pos c r; omega
def lexT (l : Tx) : List Tx := (lexL l 0).map (·.2)
theorem lexL_nil (k : Nat) : lexL [] k = [] := by rw [lexL]
theorem lexL_cons (c : UInt8) (r : Tx) (k : Nat) : lexL (c :: r) k = if isB c then lexL r (k + 1) else if c = 35 then lexL (r.drop (comN r)) (k + 1 + comN r) else (k, (c :: r).take (tokN (c :: r))) :: lexL ((c :: r).drop (tokN (c :: r))) (k + tokN (c :: r)) := by
  rw [lexL]
def kwT : List Tx := kws.map bl
def nmT (t : Tx) : Bool := (match t with | [] => false | c :: _ => isL c) && !kwT.any fun k => decide (t = k)
inductive PR (α : Type) where
  | ok (a : α) (r : List Tx)
  | err (r : List Tx)
def seqOf : List GEx → GEx
  | [x] => x
  | l => .mk 2 ⟨#[]⟩ l
def altOf : List GEx → GEx
  | [x] => x
  | l => .mk 3 ⟨#[]⟩ l
def isN : List Tx → Bool
  | [] => false
  | t :: _ => nmT t
def hd (l : List Tx) : Tx := l.headD []
def sufT : GEx → List Tx → GEx × List Tx
  | x, [] => (x, [])
  | x, t :: r => if t = [42] then sufT (.mk 5 ⟨#[]⟩ [x]) r else if t = [43] then sufT (.mk 6 ⟨#[]⟩ [x]) r else if t = [63] then sufT (.mk 4 ⟨#[]⟩ [x]) r else (x, t :: r)
theorem sufT_len : ∀ (x : GEx) (l : List Tx), (sufT x l).2.length ≤ l.length
  | x, [] => Nat.le_refl _
  | x, t :: r => by
    rw [sufT]
    split
    · have := sufT_len (.mk 5 ⟨#[]⟩ [x]) r; simp; omega
    · split
      · have := sufT_len (.mk 6 ⟨#[]⟩ [x]) r; simp; omega
      · split
        · have := sufT_len (.mk 4 ⟨#[]⟩ [x]) r; simp; omega
        · exact Nat.le_refl _
mutual
def pPrim (l : List Tx) : PR GEx :=
  match l with
  | [] => .err []
  | t :: r =>
    if nmT t then .ok (.mk 1 (tx t) []) r
    else if t = [40] then
      match pAlts r with
      | .err q => .err q
      | .ok es q => match q with
        | [] => .err []
        | t' :: q' => if t' = [41] then .ok (altOf es) q' else .err (t' :: q')
    else .err (t :: r)
termination_by (l.length, 0)
def pItems (l : List Tx) : PR (List GEx) :=
  if isN l || decide (hd l = [40]) then
    match pPrim l with
    | .err r => .err r
    | .ok x r =>
      if h : (sufT x r).2.length < l.length then
        match pItems (sufT x r).2 with
        | .err q => .err q
        | .ok xs q => .ok ((sufT x r).1 :: xs) q
      else .err l
  else .ok [] l
termination_by (l.length, 1)
def pAlts (l : List Tx) : PR (List GEx) :=
  match pItems l with
  | .err q => .err q
  | .ok xs [] => .ok [seqOf xs] []
  | .ok xs (t :: q) =>
    if t = [124] then
      if h : q.length < l.length then
        match pAlts q with
        | .err q' => .err q'
        | .ok es q' => .ok (seqOf xs :: es) q'
      else .err l
    else .ok [seqOf xs] (t :: q)
termination_by (l.length, 2)
end
def pName : List Tx → PR ByteArray
  | [] => .err []
  | t :: r => if nmT t then .ok (tx t) r else .err (t :: r)
def pTake (c : Tx) : List Tx → PR Unit
  | [] => .err []
  | t :: r => if t = c then .ok () r else .err (t :: r)
def pNames : List Tx → List ByteArray × List Tx
  | [] => ([], [])
  | t :: r => if nmT t then (tx t :: (pNames r).1, (pNames r).2) else ([], t :: r)
def assocOf (t : Tx) : Option Int := if t = bl kw1 then some 1 else if t = bl kw2 then some 2 else if t = bl kw3 then some 3 else none
def pLevels (l : List Tx) : PR (List GLe) :=
  match l with
  | [] => .ok [] []
  | t :: r =>
    match assocOf t with
    | none => .ok [] (t :: r)
    | some a => match pName r with
      | .err q => .err q
      | .ok n r1 => match pTake [59] (pNames r1).2 with
        | .err q => .err q
        | .ok _ r3 =>
          if h : r3.length < (t :: r).length then
            match pLevels r3 with
            | .err q => .err q
            | .ok ls q => .ok (⟨a, n :: (pNames r1).1⟩ :: ls) q
          else .err l
termination_by l.length
def numV (t : Tx) : Int := t.foldl (fun n c => min (10 * n + ((c.toNat : Int) - 48)) 1001) 0
def isNum : Tx → Bool
  | [] => false
  | c :: _ => isD c
def pPrice (l : List Tx) : PR Int :=
  match l with
  | [] => .ok 0 []
  | t :: r => if t = bl kw4 then (match r with
    | [] => .err []
    | t2 :: r2 => if isNum t2 then .ok (numV t2) r2 else .err (t2 :: r2)) else .ok 0 (t :: r)
def pAlt (l : List Tx) : PR GAl :=
  match pItems l with
  | .err q => .err q
  | .ok xs r => match pPrice r with
    | .err q => .err q
    | .ok p q => .ok ⟨seqOf xs, p⟩ q
def pAltsR (l : List Tx) : PR (List GAl) :=
  match pAlt l with
  | .err q => .err q
  | .ok a [] => .ok [a] []
  | .ok a (t :: q) =>
    if t = [124] then
      if h : q.length < l.length then
        match pAltsR q with
        | .err q' => .err q'
        | .ok es q' => .ok (a :: es) q'
      else .err l
    else .ok [a] (t :: q)
termination_by l.length
def pRule (l : List Tx) : PR GRu :=
  match pName l with
  | .err q => .err q
  | .ok n r => match pTake [61] r with
    | .err q => .err q
    | .ok _ r1 => match pAltsR r1 with
      | .err q => .err q
      | .ok ys r2 => match pTake [59] r2 with
        | .err q => .err q
        | .ok _ r3 => .ok ⟨n, ys⟩ r3
def pRules (l : List Tx) : PR (List GRu) :=
  match l with
  | [] => .ok [] []
  | t :: r =>
    match pRule (t :: r) with
    | .err q => .err q
    | .ok x q =>
      if h : q.length < (t :: r).length then
        match pRules q with
        | .err q' => .err q'
        | .ok xs q' => .ok (x :: xs) q'
      else .err l
termination_by l.length
def pFile (l : List Tx) : PR GFi :=
  match pTake (bl kw0) l with
  | .err q => .err q
  | .ok _ r => match pName r with
    | .err q => .err q
    | .ok s r1 => match pTake [59] r1 with
      | .err q => .err q
      | .ok _ r2 => match pLevels r2 with
        | .err q => .err q
        | .ok ls r3 => match pRules r3 with
          | .err q => .err q
          | .ok rs q => .ok ⟨s, ls, rs⟩ q
end Go.Lg

namespace Go.Lg
open Go.RowKit
theorem bsz (a : Array UInt8) : (⟨a⟩ : ByteArray).size = a.size := rfl
structure FnO (P : Program) (g : FuncId) (ys : List AV) (os : List AObj) (X : AV) (os' : List (Option AObj)) : Prop where
  spec : Spec P g ys (os.map some) fun r o' => r = X ∧ o' = os'
  len : os.length ≤ os'.length
  bd : X.bd os'.length = true
def newO (π : Nat → Nat) (M : Nat) : List (Option AObj) → List (Nat × Option AObj) → List (Nat × Option AObj)
  | [], os => os
  | o :: r, os => newO π (M + 1) r ((M, o.map (AObj.ren π)) :: os)
def updN (π : Nat → Nat) (M : Nat) : List Nat → List (Option AObj) → List (Nat × Option AObj) → List (Nat × Option AObj)
  | i :: is, o :: os', os => updN π M is os' ((i, o.map (AObj.ren π)) :: os)
  | _, os', os => newO π M os' os
theorem ol_newO {π : Nat → Nat} : ∀ (os' : List (Option AObj)) (M : Nat) (os : List (Nat × Option AObj)), ol M os ++ os'.map (Option.map (AObj.ren π)) = ol (M + os'.length) (newO π M os' os)
  | [], M, os => by simp [newO]
  | o :: r, M, os => by
    rw [List.map_cons, ← List.singleton_append, ← List.append_assoc, ol_push, ol_newO r (M + 1), newO]
    congr 1; simp; omega
theorem updN_ol {π : Nat → Nat} {M : Nat} : ∀ (is : List Nat) (os' : List (Option AObj)) (os : List (Nat × Option AObj)), is.length ≤ os'.length → updO π (ol M os) is os' = ol (M + (os'.length - is.length)) (updN π M is os' os)
  | [], os', os, _ => by
    have e : updN π M [] os' os = newO π M os' os := by unfold updN; rfl
    have e2 : updO π (ol M os) [] os' = ol M os ++ os'.map (Option.map (AObj.ren π)) := by unfold updO; rfl
    rw [e, e2, ol_newO]; simp
  | i :: is, o :: os', os, h => by
    simp only [updO, ol_set, updN]
    rw [updN_ol is os' _ (by simpa using h)]
    simp
  | _ :: _, [], _, h => by simp at h
section
variable {P : Program} {Γ : Cx} {n M : Nat} {l : List (Nat × AV)} {os : List (Nat × Option AObj)} {x X : AV} {d t : Tmp} {ty : TypeId} {pos : String} {af : Array Edge} {ops : Array Oper} {rest : List Oper} {K : St → Prop} {g : FuncId} {first cap xa ys : List AV} {f : Operand} {args : Array Operand} {tys : Array TypeId}
theorem sc_o {aos : List AObj} {os' : List (Option AObj)} (is : List Nat) (hf : opq n l f = some (.clo (.func g) first cap)) (has : opqL n l args.toList = some xa) (hspec : FnO P g ys aos X os')
    (hL : Lend is (S n l M os) (first ++ xa ++ cap) ys aos)
    (hk : asemC P ops rest (S n ((d, X.ren (apx M is)) :: l) (M + (os'.length - is.length)) (updN (apx M is) M is os' os)) K) :
    asemC P ops (⟨some d, .call ⟨.value f, args, tys⟩, ty, pos, af, none⟩ :: rest) (S n l M os) K := by
  simp only [asemC]
  refine .inl ?_
  have hM : (S n l M os).objs.length = M := ol_length M os
  simp only [execA, opq_op hf, opqL_op has]
  refine Call.via is hspec.spec hL ?_
  rintro r o' ⟨rfl, rfl⟩
  have hil : is.length = aos.length := by have := wkRO_len hL.2.1; simpa using this.symm
  have := hspec.len
  refine ⟨hspec.len, hspec.bd, ?_⟩
  rw [hM]
  have e : (⟨(S n l M os).tmps, updO (apx M is) (S n l M os).objs is o'⟩ : St) = S n l (M + (o'.length - is.length)) (updN (apx M is) M is o' os) := by
    simp only [S]; rw [updN_ol is o' os (by omega)]
  rw [e, S_put]
  exact hk
def RetO (P : Program) (rs : List ResultVar) (m : Nat) (X : AV) (os' : List (Option AObj)) (s : St) : Prop :=
  ∃ x is, resN P s rs = some x ∧ ToR m is ⟨[x], s.objs⟩ ⟨[X], os'⟩
theorem FnO.intro {fn : Func} {c : Code} {aos : List AObj} {os' : List (Option AObj)} {rs : List ResultVar} (hlen : aos.length ≤ os'.length) (hbd : X.bd os'.length = true) (he : enterable P g = true) (hf : P.funcs[g]? = some fn) (hb : fn.body = some c) (hrs : fn.results = rs.toArray) (hn : fn.ntmps = n) (hl : ys.length ≤ n)
    (h : ∀ Γ : Cx, Γ.m = aos.length → WP P Γ c (bodyQ (RetO P rs aos.length X os')) (S n (enumA 0 ys) aos.length (enumO 0 aos))) : FnO P g ys aos X os' := by
  refine ⟨Spec.introR he hf hb (rs := rs) (by rw [hrs]) fun Γ hm => ?_, hlen, hbd⟩
  subst hn
  rw [List.length_map] at hm
  rw [tl_start _ _ hl]
  have hw := h Γ hm
  simp only [S, ← ol_enum] at hw
  refine WP.mono hw ?_
  have key : ∀ s, RetO P rs aos.length X os' s → ∃ x y l t, resN P s rs = some x ∧ ToR (aos.map some).length l ⟨[x], s.objs⟩ ⟨[y], t⟩ ∧ (y = X ∧ t = os') := by
    rintro s ⟨x, is, h1, h2⟩
    exact ⟨x, X, is, os', h1, by rw [List.length_map]; exact h2, rfl, rfl⟩
  intro e s hq
  cases e with
  | normal => exact key s hq
  | ret => exact key s hq
  | _ => exact hq
theorem retO_L {m : Nat} {rs : List ResultVar} {xs : List AV} {os' : List (Option AObj)} {os1 : List (Nat × Option AObj)} {k : Nat} (hr : ResL P n l M os rs xs) (hx : tupA xs = x) (hT : ∃ is, ToR m is (S 1 [(0, x)] M os) (S 1 [(0, X)] k os1)) (he : ol k os1 = os') : RetO P rs m X os' (S n l M os) := by
  obtain ⟨is, hT⟩ := hT
  refine ⟨x, is, ?_, ?_⟩
  · simp only [resN, hr.ok, Option.map_some, hx]
  · subst he
    have e1 : ∀ y : AV, tl 1 [(0, y)] = [y] := fun y => rfl
    simp only [S, e1] at hT
    exact hT
end
end Go.Lg

namespace Go.Lg
theorem sB : (∀ {p : Prop} [Decidable p], (decide p = true) = p) ∧
  (∀ {p : Prop} [Decidable p], decide p = false ↔ ¬p) ∧
  (∀ {p : Prop} [Decidable p], ¬¬p ↔ p) ∧
  (∀ a b : Bool, ((a && b) = true) = (a = true ∧ b = true)) ∧
  (∀ a b : Bool, ((a || b) = true) = (a = true ∨ b = true)) ∧
  (∀ {b : Bool}, ((!b) = true) = (b = false)) ∧
  (∀ {b : Bool}, ((!b) = false) = (b = true)) ∧
  (∀ {x y : Bool}, (x || y) = false ↔ x = false ∧ y = false) ∧
  (∀ {x y : Bool}, (x && y) = false ↔ x = false ∨ y = false) ∧
  (∀ {a b : Int}, ¬a < b ↔ b ≤ a) ∧
  (∀ {a b : Int}, ¬a ≤ b ↔ b < a) ∧
  ((!true) = false) ∧
  ((!false) = true) ∧
  (∀ {b : Bool}, (¬b = true) = (b = false)) ∧
  (∀ {b : Bool}, (¬b = false) = (b = true)) := ⟨@decide_eq_true_eq, @decide_eq_false_iff_not, @Decidable.not_not, Bool.and_eq_true, Bool.or_eq_true, @Bool.not_eq_true', @Bool.not_eq_false', @Bool.or_eq_false_iff, @Bool.and_eq_false_iff, @Int.not_lt, @Int.not_le, Bool.not_true, Bool.not_false, @Bool.not_eq_true, @Bool.not_eq_false⟩
theorem sH : (∀ {α : Type} {a : α} {l : List α} {p : α → Bool}, (a :: l).all p = (p a && l.all p)) ∧
  (∀ {α : Type} {p : α → Bool} {xs ys : List α}, (xs ++ ys).all p = (xs.all p && ys.all p)) ∧
  (∀ {α : Type} {p : α → Bool}, ([] : List α).all p = true) ∧
  (∀ b : Bool, (b && true) = b) := ⟨@List.all_cons, @List.all_append, @List.all_nil, Bool.and_true⟩
theorem sL : (∀ {α : Type} {n : Nat} {a : α}, (List.replicate n a).length = n) ∧
  (∀ {α : Type} {us : List α} {i : Nat} {a : α}, (us.set i a).length = us.length) ∧
  (∀ {α : Type} {us bs : List α}, (us ++ bs).length = us.length + bs.length) ∧
  (∀ {α : Type} {β : Type} {us : List α} (f : α → β), (us.map f).length = us.length) ∧
  (∀ {α : Type} {a : α} {us : List α}, (a :: us).length = us.length + 1) ∧
  (∀ {α : Type}, ([] : List α).length = 0) ∧
  (∀ {α : Type} {i : Nat} {l : List α}, (l.take i).length = min i l.length) ∧
  (∀ {α : Type} {i : Nat} {l : List α}, (l.drop i).length = l.length - i) := ⟨@List.length_replicate, @List.length_set, @List.length_append, @List.length_map, @List.length_cons, @List.length_nil, @List.length_take, @List.length_drop⟩
theorem sZ : (∀ {α : Type} (us : List α), us.toArray.size = us.length) ∧
  (∀ {a b : ByteArray}, (a ++ b).size = a.size + b.size) ∧
  (∀ {α : Type} {us bs : List α}, (us ++ bs).length = us.length + bs.length) ∧
  (∀ {α : Type} {a : α} {us : List α}, (a :: us).length = us.length + 1) ∧
  (∀ {α : Type}, ([] : List α).length = 0) := ⟨@List.size_toArray, @ByteArray.size_append, @List.length_append, @List.length_cons, @List.length_nil⟩
theorem sO : (∀ {α : Type} {β : Type} (b : α) (f : α → β), (some b).map f = some (f b)) ∧
  (∀ {α : Type} {β : Type} (f : α → β), (none : Option α).map f = none) ∧
  (∀ {π : Nat → Nat} {l : List AV}, bdL 0 l = true → renL π l = l) ∧
  (∀ {π : Nat → Nat} {x : AV}, x.bd 0 = true → x.ren π = x) ∧
  (∀ (n : Nat) (l : List Bool), bdL n (l.map boolA) = true) ∧
  (∀ (n : Nat) (l : List Int), bdL n (l.map intA) = true) ∧
  (∀ (n : Nat) (l : List ByteArray), bdL n (l.map strA) = true) ∧
  (∀ (n : Nat) (x : Bool), (boolA x).bd n = true) ∧
  (∀ (n : Nat) (x : Int), (intA x).bd n = true) ∧
  (∀ (n : Nat) (x : ByteArray), (strA x).bd n = true) ∧
  (∀ (n : Nat) (l : List Int), (intsA l).bd n = true) ∧
  (∀ (n : Nat) (l : List ByteArray), (strsA l).bd n = true) ∧
  (∀ {α : Type} {a : α} {us : List α}, (a :: us).length = us.length + 1) ∧
  (∀ {α : Type}, ([] : List α).length = 0) ∧
  (∀ {α : Type} {a : α} {us : List α} {d : α}, (a :: us).getD 0 d = a) ∧
  (∀ {α : Type} {a : α} {us : List α} {i : Nat} {d : α}, (a :: us).getD (i + 1) d = us.getD i d) ∧
  (∀ n : Nat, ¬n < n) ∧
  (∀ n : Nat, 0 < n.succ) ∧
  (∀ n : Nat, n - 0 = n) ∧
  (∀ n : Nat, n - n = 0) ∧
  (∀ n : Nat, n + 0 = n) := ⟨@Option.map_some, @Option.map_none, @renL_pure, @ren_pure, bdL_boolA, bdL_intA, bdL_strA, bd_boolA, bd_intA, bd_strA, bd_intsA, bd_strsA, @List.length_cons, @List.length_nil, @List.getD_cons_zero, @List.getD_cons_succ, Nat.lt_irrefl, Nat.zero_lt_succ, Nat.sub_zero, Nat.sub_self, Nat.add_zero⟩
theorem RenL.of {π : Nat → Nat} : ∀ {xs ys : List AV}, xs = renL π ys → RenL π xs ys
  | xs, [], h => by subst h; exact .nil
  | xs, y :: ys, h => by subst h; exact .cons rfl (RenL.of rfl)
theorem Lend.o1 {n M : Nat} {l : List (Nat × AV)} {os : List (Nat × Option AObj)} {xs ys es es' : List AV} {i k : Nat} (h1 : xs = renL (ap [i]) ys) (h : lkO i os = some (.arr k es)) (he : es = renL (ap [i]) es') (hlt : Nat.blt i M = true) (h3 : bdL 1 ys = true) (h4 : bdL 1 es' = true) : Lend [i] (Lg.S n l M os) xs ys [.arr k es'] :=
  Lend.S (RenL.of h1) (.arr h he .nil) (by simp) (by simp [hlt]) h3 ⟨h4, trivial⟩
end Go.Lg

namespace Go.Lg
open Go.RowKit
def WPL (P : Program) (Γ : Cx) (ops : Array Oper) (l : List Oper) (Q : Exit → St → Prop) (s : St) : Prop :=
  ∀ a w, SR Γ s a w → wpList P ops (fun e a' w' => ∃ s', Q e s' ∧ SR Γ s' a' w') l a w
section
variable {P : Program} {Γ : Cx} {ops : Array Oper} {Q : Exit → St → Prop} {s : St} {rest : List Oper} {o : Oper}
theorem wpl_region {id : Nat} {l : List Oper} (h : WPL P Γ l.toArray l Q s) : WP P Γ (.region id l.toArray false) Q s := fun a w hs => wp_region_lit (h a w hs)
theorem wpl_step (hg : o.guard = none) (h : asemC P ops [o] s fun s' => WPL P Γ ops rest Q s') : WPL P Γ ops (o :: rest) Q s := fun a w hs =>
  wpList_plain hg fun K hK => Oper.wp_mono (fun a' w' ⟨s', h1, h2⟩ => hK a' w' (h1 a' w' h2)) (asemC_one hg hs h)
theorem wpl_end (h : Q .normal s) : WPL P Γ ops [] Q s := fun a w hs => ⟨s, h, hs⟩
variable {n M : Nat} {l : List (Nat × AV)} {os : List (Nat × Option AObj)}
end
end Go.Lg

namespace Go.Lg
open Go.RowKit
def CallX (P : Program) (fv : AV) (args : List AV) (s : St) (v : Value) (s' : St) : Prop :=
  ∀ (Γ : Cx) (a : Act) (w : World) (f : Value) (vs : List Value), SR Γ s a w → (∀ ρ, SRa Γ (fun id => id < s.objs.length) ρ s a w → RV (fun id => id < s.objs.length) ρ (Im Γ ρ s w) w fv f ∧ vs.length = args.length ∧
      ∀ (i : Nat) x v, args[i]? = some x → vs[i]? = some v → RV (fun id => id < s.objs.length) ρ (Im Γ ρ s w) w x v) →
    ∃ g us, (∀ w : World, (do let d ← Deferred.ofValue f vs.toArray; invoke d.target d.args : Sem Next).run P w = .ok (.enter g us) w) ∧
      Calls P g us w fun e w' => e = .panicked [{ v, recovered := false }] ∧ SR Γ s' a w'
structure FnX (P : Program) (g : FuncId) (ys : List AV) (os : List AObj) (v : Value) : Prop where
  en : enterable P g = true
  spec : ∀ (Γ : Cx) (vs : Array Value), Γ.m = (os.map some).length → SR Γ ⟨ys, os.map some⟩ ⟨vs, []⟩ Γ.w0 →
    Calls P g vs Γ.w0 fun e w' => e = .panicked [{ v, recovered := false }] ∧ SR Γ ⟨[.any], os.map fun _ => none⟩ ⟨#[undef], []⟩ w'
section
variable {P : Program} {Γ : Cx} {A : Nat → Prop} {ρ : Nat → Option Nat} {s : St} {a : Act} {w : World}
theorem SRa.view {g : FuncId} {first cap args ys : List AV} {os : List AObj} (l : List Nat) {f : Value} {vs : List Value} (he : enterable P g = true) (h : SRa Γ (fun id => id < s.objs.length) ρ s a w)
    (hf : RV (fun id => id < s.objs.length) ρ (Im Γ ρ s w) w (.clo (.func g) first cap) f) (hl : vs.length = args.length) (hv : ∀ (i : Nat) x v, args[i]? = some x → vs[i]? = some v → RV (fun id => id < s.objs.length) ρ (Im Γ ρ s w) w x v) (hL : Lend l s (first ++ args ++ cap) ys os) :
    ∃ us, (∀ w : World, (do let d ← Deferred.ofValue f vs.toArray; invoke d.target d.args : Sem Next).run P w = .ok (.enter g us) w) ∧ ∃ Γ' : Cx, Γ'.m = os.length ∧ Γ'.w0 = w ∧ Γ'.ds = [] ∧ SR Γ' ⟨ys, os.map some⟩ ⟨us, []⟩ w ∧
      ∀ (objs' : List (Option AObj)) w' (r : AV) (v : Value), os.length ≤ objs'.length → SR Γ' ⟨[r], objs'⟩ ⟨#[v], []⟩ w' → SR Γ ⟨s.tmps, updO (apx s.objs.length l) s.objs l objs'⟩ a w' := by
  obtain ⟨us, hrun, hsz, hrv⟩ := call_args he hf hl hv
  obtain ⟨h1, h2, h3, h5, h6⟩ := hL
  have hm : os.length = l.length := by simpa using wkRO_len h2
  have hlive : ∀ j o, os[j]? = some o → s.live (ap l j) (o.ren (ap l)) := fun j o ho => wkRO_get h2 j o (by simp [ho])
  have hlive' : ∀ j, j < l.length → ∃ o, s.live (ap l j) o := fun j hj => ⟨_, hlive j _ (List.getElem?_eq_getElem (by omega))⟩
  have hlt : ∀ j, j < l.length → ap l j < s.objs.length := fun j hj => wkRO_lt h2 j hj
  have happ : ∀ j, j < l.length → ap l j ∈ l := fun j hj => by simp [ap, List.getD, List.getElem?_eq_getElem hj]
  let Γ' : Cx := ⟨w, Im Γ ρ s w, os.length, fun j => ρ (ap l j), h.fr.next.1, h.fr.next.2, fun j hj b hb => by
    obtain ⟨o, ho⟩ := hlive' j (by omega)
    rcases h.own _ o b ho hb with q | ⟨i, hi, q⟩
    · exact Nat.le_trans Γ.hgl q
    · exact Γ.hext i hi b q, []⟩
  have hst : ∀ id o, St.live ⟨ys, os.map some⟩ id o → os[id]? = some o := fun id o hl => by
    unfold St.live at hl
    simp only [List.getElem?_map, Option.map_eq_some_iff] at hl
    obtain ⟨x, hx, hxo⟩ := hl
    injection hxo with hxo; subst hxo; exact hx
  have hI0 : ∀ b, Im Γ ρ s w b → Im Γ' (fun j => ρ (ap l j)) ⟨ys, os.map some⟩ w b ∧ w.heap[b]? = w.heap[b]? := fun b hb => ⟨⟨.inl hb, hb.2.1, fun id o hl => hb.2.2 _ _ (hlive id o (hst id o hl))⟩, rfl⟩
  have h0 : SR Γ' ⟨ys, os.map some⟩ ⟨us, []⟩ w := by
    refine ⟨fun j => ρ (ap l j), fun i hi => ⟨by simpa using hi, rfl⟩, by simp only; rw [hsz, wkR_len h1], ?_, fun id o hl => ?_, fun id o hl => (List.getElem?_eq_some_iff.1 hl).1, fun _ hid => hid, fun id o b hl hb => .inr ⟨id, (List.getElem?_eq_some_iff.1 (hst id o hl)).1, hb⟩, fun i j o o' b g1 g2 g3 g4 => ?_, rfl, ⟨Nat.le_refl _, rfl, rfl, rfl, fun _ _ _ => rfl, fun _ _ hn => hn⟩⟩
    · intro i y v hy hu
      simp only at hy hu
      have hi : i < (first ++ args ++ cap).length := by rw [← wkR_len h1]; exact (List.getElem?_eq_some_iff.1 hy).1
      have hx := List.getElem?_eq_getElem hi
      rcases wkR_get h1 i _ y hx hy with rfl | hxy
      · exact .any
      · have := (hrv i _ v hx hu).unren (π := ap l) (n := os.length) (ρ' := fun j => ρ (ap l j)) (fun _ _ => rfl) hI0 (fun _ _ hn => hn) hxy (bdL_iff.1 h5 _ (List.mem_of_getElem? hy))
        simpa using this
    · have := (h.obj _ _ (hlive id o (hst id o hl))).unren (π := ap l) (n := os.length) (ρ' := fun j => ρ (ap l j)) (fun _ _ => rfl) hI0 (fun _ _ hn => hn) (fun _ _ => rfl) (by have := bdO_get h6 id o (by simp [hst id o hl]); cases o <;> exact this)
      simpa using this
    · have e := h.inj _ _ _ _ b (hlive i o (hst i o g1)) (hlive j o' (hst j o' g2)) g3 g4
      have hi := (List.getElem?_eq_some_iff.1 (hst i o g1)).1
      have hj := (List.getElem?_eq_some_iff.1 (hst j o' g2)).1
      rw [hm] at hi hj
      simp only [ap, List.getD, List.getElem?_eq_getElem hi, List.getElem?_eq_getElem hj, Option.getD_some] at e
      exact (List.getElem_inj h3).1 e
  refine ⟨us, hrun, Γ', rfl, rfl, rfl, h0, ?_⟩
  rintro objs' w' r rv hle ⟨ρ'', hs'⟩
  have hfr := hs'.fr
  have hext : ∀ j, j < l.length → ρ'' j = ρ (ap l j) := fun j hj => (hs'.ext j (by simp only [Γ']; omega)).2
  generalize hs2 : (⟨s.tmps, updO (apx s.objs.length l) s.objs l objs'⟩ : St) = s2
  let ρn : Nat → Option Nat := fun id => if id < s.objs.length then ρ id else ρ'' (id - s.objs.length + l.length)
  have hρold : ∀ id, id < s.objs.length → ρn id = ρ id := fun id hid => if_pos hid
  have hρnew : ∀ j, ρn (apx s.objs.length l j) = ρ'' j := fun j => by
    unfold apx
    split
    · rename_i hj; rw [hρold _ (hlt j hj)]; exact (hext j hj).symm
    · rename_i hj
      simp only [ρn]
      rw [if_neg (by omega)]
      congr 1; omega
  have hn2 : s2.objs.length = s.objs.length + (objs'.length - l.length) := by rw [← hs2]; exact updO_len (by omega)
  have hapx : ∀ j, j < objs'.length → apx s.objs.length l j < s2.objs.length := fun j hj => by
    rw [hn2]; unfold apx
    split
    · rename_i h; have := hlt j h; omega
    · omega
  have cases2 : ∀ id o, s2.live id o → (id < s.objs.length ∧ s.live id o ∧ id ∉ l) ∨ ∃ j o0, St.live ⟨[r], objs'⟩ j o0 ∧ o = o0.ren (apx s.objs.length l) ∧ id = apx s.objs.length l j := by
    intro id o ho
    rw [← hs2] at ho
    exact updO_get (os := objs') (show l.length ≤ objs'.length by omega) (fun j i hi => by
      have hj := (List.getElem?_eq_some_iff.1 hi).1
      have := hlt j hj
      simpa [ap, List.getD, hi] using this) h3 ho
  have hblk : ∀ b, b < w.heap.size → (∀ j, j < l.length → ρ (ap l j) ≠ some b) → w'.heap[b]? = w.heap[b]? := fun b hb hne => hfr.block b hb (fun i hi => hne i (by simp only [Γ'] at hi; omega))
  have hIold : ∀ b, Im Γ ρ s w b → Im Γ ρn s2 w' b ∧ w'.heap[b]? = w.heap[b]? := by
    rintro b ⟨g1, g2, g3⟩
    refine ⟨⟨g1, Nat.lt_of_lt_of_le g2 hfr.size, fun id o ho => ?_⟩, hblk b g2 fun j hj => ?_⟩
    · rcases cases2 id o ho with ⟨c1, c2, _⟩ | ⟨j, o0, c1, _, rfl⟩
      · rw [hρold id c1]; exact g3 id o c2
      · rw [hρnew]
        intro hb
        rcases hs'.own j o0 b c1 hb with q | ⟨i, hi, q⟩
        · simp only [Γ'] at q; omega
        · simp only [Γ'] at hi q
          obtain ⟨o', ho'⟩ := hlive' i (by omega)
          exact g3 _ _ ho' q
    · obtain ⟨o', ho'⟩ := hlive' j hj
      exact g3 _ _ ho'
  have hInew : ∀ b, Im Γ' ρ'' ⟨[r], objs'⟩ w' b → Im Γ ρn s2 w' b ∧ w'.heap[b]? = w'.heap[b]? := by
    rintro b ⟨g1, g2, g3⟩
    refine ⟨⟨?_, g2, fun id o ho => ?_⟩, rfl⟩
    · rcases g1 with g1 | g1
      · exact g1.1
      · exact .inr (Nat.le_trans h.fr.size g1)
    · rcases cases2 id o ho with ⟨c1, c2, _⟩ | ⟨j, o0, c1, _, rfl⟩
      · rw [hρold id c1]
        intro hb
        have := live_block h c2 hb
        rcases g1 with g1 | g1
        · exact g1.2.2 id o c2 hb
        · simp only [Γ'] at g1; omega
      · rw [hρnew]; exact g3 j o0 c1
  have hown : ∀ j o0 b, St.live ⟨[r], objs'⟩ j o0 → ρ'' j = some b → w.heap.size ≤ b ∨ ∃ i, i < l.length ∧ ρ (ap l i) = some b := fun j o0 b c1 hb => by
    rcases hs'.own j o0 b c1 hb with q | ⟨i, hi, q⟩
    · exact .inl q
    · exact .inr ⟨i, by simp only [Γ'] at hi; omega, q⟩
  have hw' : SRa Γ (fun id => id < s2.objs.length) ρn s2 a w' := by
    refine ⟨fun i hi => ?_, by rw [← hs2]; exact h.len, ?_, ?_, fun id o ho => (List.getElem?_eq_some_iff.1 ho).1, fun _ hid => hid, ?_, ?_, h.defers, h.fr.turn hfr.size hfr.os hfr.tape hfr.output ?_ hfr.csize⟩
    · have g := h.ext i hi
      exact ⟨by have := g.1; omega, (hρold i g.1).trans g.2⟩
    · intro i x u hx hu
      exact (h.tmp i x u (by rw [← hs2] at hx; exact hx) hu).mono (fun id hid => ⟨by omega, hρold id hid⟩) hIold hfr.csize
    · intro id o ho
      rcases cases2 id o ho with ⟨c1, c2, c3⟩ | ⟨j, o0, c1, rfl, rfl⟩
      · rw [hρold id c1]
        refine (h.obj id o c2).mono (fun id hid => ⟨by omega, hρold id hid⟩) hIold hfr.csize fun c hc => hblk c (live_block h c2 hc) fun j hj hj' => ?_
        obtain ⟨o', ho'⟩ := hlive' j hj
        have := h.inj _ _ _ _ c c2 ho' hc hj'
        exact c3 (this ▸ happ j hj)
      · rw [hρnew]
        exact (hs'.obj j o0 c1).reren (fun id hid => ⟨hapx id hid, hρnew id⟩) hInew (fun _ _ hn => hn) (fun _ _ => rfl)
    · intro id o b ho hb
      rcases cases2 id o ho with ⟨c1, c2, c3⟩ | ⟨j, o0, c1, rfl, rfl⟩
      · rw [hρold id c1] at hb; exact h.own id o b c2 hb
      · rw [hρnew] at hb
        rcases hown j o0 b c1 hb with q | ⟨i, hi, q⟩
        · exact .inl (Nat.le_trans h.fr.size q)
        · obtain ⟨o', ho'⟩ := hlive' i hi
          exact h.own _ _ b ho' q
    · have mix : ∀ id o b j o0, s.live id o → id ∉ l → ρ id = some b → St.live ⟨[r], objs'⟩ j o0 → ρ'' j = some b → False := by
        intro id o b j o0 c2 c3 hb c1 hb'
        rcases hown j o0 b c1 hb' with q | ⟨i, hi, q⟩
        · have := live_block h c2 hb; omega
        · obtain ⟨o', ho'⟩ := hlive' i hi
          have := h.inj _ _ _ _ b c2 ho' hb q
          exact c3 (this ▸ happ i hi)
      intro id id' o o' b ho ho' hb hb'
      rcases cases2 id o ho with ⟨c1, c2, c3⟩ | ⟨j, o0, c1, rfl, rfl⟩ <;> rcases cases2 id' o' ho' with ⟨d1, d2, d3⟩ | ⟨j', o0', d1, rfl, rfl⟩
      · rw [hρold id c1] at hb; rw [hρold id' d1] at hb'
        exact h.inj _ _ _ _ b c2 d2 hb hb'
      · rw [hρold id c1] at hb; rw [hρnew] at hb'
        exact (mix _ _ _ _ _ c2 c3 hb d1 hb').elim
      · rw [hρnew] at hb; rw [hρold id' d1] at hb'
        exact (mix _ _ _ _ _ d2 d3 hb' c1 hb).elim
      · rw [hρnew] at hb hb'
        rw [hs'.inj _ _ _ _ b c1 d1 hb hb']
    · intro b hb
      by_cases hj : ∃ j, j < l.length ∧ ρ (ap l j) = some b
      · obtain ⟨j, hj, hjb⟩ := hj
        obtain ⟨o', ho'⟩ := hlive' j hj
        exact .inr (h.own _ _ b ho' hjb)
      · exact .inl (hblk b hb fun j hj' he => hj ⟨j, hj', he⟩)
  exact ⟨ρn, hw'⟩
theorem CallX.via {g : FuncId} {first cap args ys : List AV} {os : List AObj} (l : List Nat) {pv : Value} (hspec : FnX P g ys os pv) (hL : Lend l s (first ++ args ++ cap) ys os) :
    CallX P (.clo (.func g) first cap) args s pv ⟨s.tmps, updO (apx s.objs.length l) s.objs l (os.map fun _ => none)⟩ := by
  intro Γ a w f vs hs hfv
  obtain ⟨ρ, h⟩ := hs
  obtain ⟨hf, hl, hv⟩ := hfv ρ h
  obtain ⟨us, hrun, Γ', hm, hw, hd, h0, hback⟩ := h.view l hspec.en hf hl hv hL
  refine ⟨g, us, hrun, ?_⟩
  subst hw
  refine (hspec.spec Γ' us (by simp [hm]) h0).mono ?_
  rintro e w' ⟨rfl, hs'⟩
  exact ⟨rfl, hback _ _ _ _ (by simp) hs'⟩
theorem SR.dead (h : SR Γ s a w) (hd : Γ.ds = []) {m : Nat} (hm : Γ.m = m) : SR Γ ⟨[.any], List.replicate m none⟩ ⟨#[undef], []⟩ w := by
  obtain ⟨ρ, h⟩ := h
  have hl : ∀ id o, ¬ St.live ⟨[.any], List.replicate m none⟩ id o := fun id o hl => by
    unfold St.live at hl
    simp only [List.getElem?_replicate] at hl
    split at hl <;> simp at hl
  refine ⟨ρ, fun i hi => ⟨by simp; omega, (h.ext i hi).2⟩, rfl, fun i x v hx hv => ?_, fun id o h => absurd h (hl id o), fun id o h => absurd h (hl id o), fun _ hid => hid, fun id o b h => absurd h (hl id o), fun i j o o' b h => absurd h (hl i o), hd.symm, h.fr⟩
  cases i with
  | zero => simp at hx; subst hx; exact .any
  | succ i => simp at hx
end
def bodyX (v : Value) : Exit → St → Prop
  | .panic ch, _ => ch = [{ v, recovered := false }]
  | _, _ => False
section
variable {P : Program} {Γ : Cx} {n M : Nat} {l : List (Nat × AV)} {os : List (Nat × Option AObj)} {x X : AV} {d t : Tmp} {ty : TypeId} {pos : String} {af : Array Edge} {ops : Array Oper} {rest : List Oper} {K : St → Prop} {g : FuncId} {first cap xa ys : List AV} {f : Operand} {args : Array Operand} {tys : Array TypeId} {Q : Exit → St → Prop} {s : St} {next : St → Prop}
theorem FnX.intro {fn : Func} {c : Code} {aos : List AObj} {v : Value} (he : enterable P g = true) (hf : P.funcs[g]? = some fn) (hb : fn.body = some c) (hn : fn.ntmps = n) (hl : ys.length ≤ n)
    (h : ∀ Γ : Cx, Γ.m = aos.length → WP P Γ c (bodyX v) (S n (enumA 0 ys) aos.length (enumO 0 aos))) : FnX P g ys aos v := by
  refine ⟨he, fun Γ vs hm hs => calls_of_wp hf hb ?_⟩
  obtain ⟨ρ, hs⟩ := hs
  have hlen : vs.size = ys.length := hs.len
  have h0 : SR Γ ⟨ys ++ List.replicate (fn.ntmps - ys.length) .any, aos.map some⟩ ⟨vs ++ Array.replicate (fn.ntmps - vs.size) undef, []⟩ Γ.w0 := by
    refine ⟨ρ, hs.ext, by simp [hlen], ?_, hs.obj, hs.made, hs.bound, hs.own, hs.inj, hs.defers, hs.fr⟩
    intro i x v hx hv
    simp only at hx hv
    by_cases hi : i < ys.length
    · rw [List.getElem?_append_left hi] at hx
      rw [Array.getElem?_append_left (by omega)] at hv
      exact hs.tmp i x v hx hv
    · rw [List.getElem?_append_right (by omega)] at hx
      have hm := List.mem_of_getElem? hx
      rw [(List.mem_replicate.1 hm).2]
      exact .any
  subst hn
  rw [tl_start _ _ hl] at h0
  rw [List.length_map] at hm
  have hw := h Γ hm
  simp only [S, ← ol_enum] at hw
  refine wp_mono (hw _ _ h0) ?_
  rintro e a' w' ⟨s', hq, hs'⟩
  cases e with
  | panic ch =>
    have hd : Γ.ds = [] := hs.defers.symm
    have e1 : (aos.map fun _ => (none : Option AObj)) = List.replicate aos.length none := by
      rw [List.map_const']
    obtain ⟨ρ', hs''⟩ := hs'
    refine ⟨hs''.defers.trans hd, ?_⟩
    simp only [bodyX] at hq
    exact ⟨by rw [hq], by rw [e1]; exact SR.dead ⟨ρ', hs''⟩ hd hm⟩
  | _ => exact hq.elim
theorem wpl_callx {v : Value} {s' : St} (hc : CallX P (s.op f) (args.toList.map s.op) s v s') (hq : Q (.panic [{ v, recovered := false }]) s') {dst : Option Tmp} : WPL P Γ ops (⟨dst, .call ⟨.value f, args, tys⟩, ty, pos, af, none⟩ :: rest) Q s := fun a w hs =>
  wpList_plain rfl fun K hK => by
    obtain ⟨ρ, hρ⟩ := hs
    obtain ⟨g, us, hrun, hcall⟩ := hc Γ a w (a.eval f) (args.toList.map a.eval) ⟨ρ, hρ⟩ (fun ρ' h' => ⟨h'.eval f, by simp, fun i x v hx hv => by
      simp only [List.getElem?_map, Option.map_eq_some_iff] at hx hv
      obtain ⟨p, hp, rfl⟩ := hx
      obtain ⟨q, hq, rfl⟩ := hv
      rw [hp] at hq; injection hq with hq; subst hq
      exact h'.eval p⟩)
    unfold Oper.wp
    have hex : (execOp a.eval ⟨dst, .call ⟨.value f, args, tys⟩, ty, pos, af, none⟩).run P w = .ok (.enter g us) w := by
      have e1 : (args.map a.eval) = (args.toList.map a.eval).toArray := by apply Array.ext'; simp
      rw [← hrun w]
      simp only [execOp, resolve, e1]
    rw [hex]
    simp only [Oper.upon]
    refine hcall.mono ?_
    rintro e w' ⟨rfl, hs'⟩
    exact ⟨s', hq, hs'⟩
def kill : List Nat → List (Nat × Option AObj) → List (Nat × Option AObj)
  | [], os => os
  | i :: is, os => kill is ((i, none) :: os)
theorem kill_ol {π : Nat → Nat} : ∀ (is : List Nat) (k : List AObj) (os : List (Nat × Option AObj)), is.length = k.length → updO π (ol M os) is (k.map fun _ => none) = ol M (kill is os)
  | [], [], os, _ => by simp [updO, kill]
  | i :: is, o :: k, os, h => by
    simp only [List.map_cons, updO, Option.map_none, ol_set, kill]
    exact kill_ol is k _ (by simpa using h)
  | [], _ :: _, _, h => by simp at h
  | _ :: _, [], _, h => by simp at h
theorem wpl_x {aos : List AObj} {v : Value} (is : List Nat) (hf : opq n l f = some (.clo (.func g) first cap)) (has : opqL n l args.toList = some xa) (hspec : FnX P g ys aos v)
    (hL : Lend is (S n l M os) (first ++ xa ++ cap) ys aos) (hq : Q (.panic [{ v, recovered := false }]) (S n l M (kill is os))) {dst : Option Tmp} : WPL P Γ ops (⟨dst, .call ⟨.value f, args, tys⟩, ty, pos, af, none⟩ :: rest) Q (S n l M os) := by
  have hM : (S n l M os).objs.length = M := ol_length M os
  have hil : is.length = aos.length := by have := wkRO_len hL.2.1; simpa using this.symm
  refine wpl_callx (s' := S n l M (kill is os)) ?_ hq
  rw [opq_op hf, opqL_op has]
  have h := CallX.via is hspec hL
  have e : (⟨(S n l M os).tmps, updO (apx (S n l M os).objs.length is) (S n l M os).objs is (aos.map fun _ => none)⟩ : St) = S n l M (kill is os) := by
    simp only [S]; rw [kill_ol is aos os hil]
  rw [e] at h
  exact h
theorem wpl_panic {T : TypeId} {u : Value} {a : Operand} (h : opq n l a = some (.val (.iface T u))) (hq : Q (.panic [{ v := .iface T u, recovered := false }]) (S n l M os)) {dst : Option Tmp} : WPL P Γ ops (⟨dst, .panic a, ty, pos, af, none⟩ :: rest) Q (S n l M os) := fun ac w hs =>
  wpList_plain rfl fun K hK => by
    obtain ⟨ρ, hρ⟩ := hs
    have hv : ac.eval a = .iface T u := by
      have := hρ.eval a
      rw [opq_op h] at this
      exact this.val_eq
    unfold Oper.wp
    have hex : (execOp ac.eval ⟨dst, .panic a, ty, pos, af, none⟩).run P w = .halt (.panic (.iface T u)) w := by
      simp [execOp, Instr.panic, hv, goPanic]
    rw [hex]
    exact ⟨_, hq, ρ, hρ⟩
theorem go_p {ch : List PanicEntry} (h : Q (.panic ch) s) : thenA next Q (.panic ch) s := h
theorem bl_p {id : Nat} {ch : List PanicEntry} (h : Q (.panic ch) s) : inBlockA id Q (.panic ch) s := h
theorem bx_p {v : Value} {ch : List PanicEntry} (h : ch = [{ v, recovered := false }]) : bodyX v (.panic ch) s := h
theorem se_iface {u : Value} {tx : TypeId} {a : Operand} {ti : TI} [ht : TIc P tx ti] (h : opq n l a = some (.val u)) (hat : atom (.iface tx u) = true) (hni : (match P.underlying tx with | some (.interface _) => false | some _ => true | none => false) = true) (hk : asemC P ops rest (S n ((d, .val (.iface tx u)) :: l) M os) K) :
    asemC P ops (⟨some d, .makeInterface tx a, ty, pos, af, none⟩ :: rest) (S n l M os) K := by
  simp only [asemC]
  refine .inr (.inr ⟨_, hk, fun Γ ac w hs => ?_⟩)
  obtain ⟨ρ, hs⟩ := hs
  have hv : ac.eval a = u := by
    have := hs.eval a
    rw [opq_op h] at this
    exact this.val_eq
  refine ⟨.iface tx u, w, ?_, ρ, ?_⟩
  · cases hu : P.underlying tx with
    | none => rw [hu] at hni; cases hni
    | some D =>
      rw [hu] at hni
      cases D <;> first
        | (simp at hni; done)
        | simp [execOp, Instr.makeInterface, hv, run_underlying hu]
  · have := hs.put (some d) (x := .val (.iface tx u)) (v := .iface tx u) (.val hat)
    rw [S_put] at this
    exact this
end
end Go.Lg

namespace Go.Lg
open Go.RowKit
set_option linter.unusedVariables false
inductive Res where
  | ok (X : AV) (os : List (Option AObj))
  | die (v : Value)
def FnP (P : Program) (g : FuncId) (ys : List AV) (os : List AObj) : Res → Prop
  | .ok X os' => FnO P g ys os X os'
  | .die v => FnX P g ys os v
def bodyP (P : Program) (rs : List ResultVar) (m : Nat) (r : Res) : Exit → St → Prop
  | .normal, s | .ret, s => ∃ X os', r = .ok X os' ∧ RetO P rs m X os' s
  | .panic ch, _ => ∃ v, r = .die v ∧ ch = [{ v, recovered := false }]
  | _, _ => False
def Res.fine (m : Nat) : Res → Prop
  | .ok X os' => m ≤ os'.length ∧ X.bd os'.length = true
  | .die _ => True
section
variable {P : Program} {Γ : Cx} {n M : Nat} {l : List (Nat × AV)} {os : List (Nat × Option AObj)} {x X : AV} {d t : Tmp} {ty : TypeId} {pos : String} {af : Array Edge} {ops : Array Oper} {rest : List Oper} {K : St → Prop} {g : FuncId} {first cap xa ys : List AV} {f : Operand} {args : Array Operand} {tys : Array TypeId} {Q : Exit → St → Prop} {s : St} {next : St → Prop}
theorem FnP.intro {fn : Func} {c : Code} {aos : List AObj} {rs : List ResultVar} {r : Res} (hr : r.fine aos.length) (he : enterable P g = true) (hf : P.funcs[g]? = some fn) (hb : fn.body = some c) (hrs : fn.results = rs.toArray) (hn : fn.ntmps = n) (hl : ys.length ≤ n)
    (h : ∀ Γ : Cx, Γ.m = aos.length → WP P Γ c (bodyP P rs aos.length r) (S n (enumA 0 ys) aos.length (enumO 0 aos))) : FnP P g ys aos r := by
  cases r with
  | ok X os' =>
    refine FnO.intro hr.1 hr.2 he hf hb hrs hn hl fun Γ hm => WP.mono (h Γ hm) ?_
    intro e s hq
    cases e with
    | normal => obtain ⟨X', o', e, h⟩ := hq; injection e with e1 e2; subst e1 e2; exact h
    | ret => obtain ⟨X', o', e, h⟩ := hq; injection e with e1 e2; subst e1 e2; exact h
    | panic ch => obtain ⟨v, e, _⟩ := hq; cases e
    | _ => exact hq
  | die v =>
    refine FnX.intro he hf hb hn hl fun Γ hm => WP.mono (h Γ hm) ?_
    intro e s hq
    cases e with
    | normal => obtain ⟨X', o', e, h⟩ := hq; cases e
    | ret => obtain ⟨X', o', e, h⟩ := hq; cases e
    | panic ch => obtain ⟨v', e, h⟩ := hq; injection e with e; subst e; exact h
    | _ => exact hq
theorem FnP.oks {aos : List AObj} {r : Res} {os' : List (Option AObj)} (h : FnP P g ys aos r) (hr : r = .ok X os') : FnO P g ys aos X os' := by subst hr; exact h
theorem FnP.dies {aos : List AObj} {r : Res} {v : Value} (h : FnP P g ys aos r) (hr : r = .die v) : FnX P g ys aos v := by subst hr; exact h
theorem bp_n {rs : List ResultVar} {m : Nat} {r : Res} {os' : List (Option AObj)} (hr : r = .ok X os') (h : RetO P rs m X os' s) : bodyP P rs m r .normal s := ⟨_, _, hr, h⟩
theorem bp_r {rs : List ResultVar} {m : Nat} {r : Res} {os' : List (Option AObj)} (hr : r = .ok X os') (h : RetO P rs m X os' s) : bodyP P rs m r .ret s := ⟨_, _, hr, h⟩
theorem bp_p {rs : List ResultVar} {m : Nat} {r : Res} {v : Value} (hr : r = .die v) : bodyP P rs m r (.panic [{ v, recovered := false }]) s := ⟨_, hr, rfl⟩
def PInd (Q : Exit → St → Prop) : Prop := ∀ ch s t x, Q (.panic ch) s → Q (.panic ch) (s.put t x)
theorem pind_then (h : PInd Q) : PInd (thenA next Q) := fun ch s t x hq => h ch s t x hq
theorem pind_block {id : Nat} (h : PInd Q) : PInd (inBlockA id Q) := fun ch s t x hq => h ch s t x hq
theorem pind_p {rs : List ResultVar} {m : Nat} {r : Res} : PInd (bodyP P rs m r) := fun ch s t x hq => hq
theorem pind_q {R : St → Prop} : PInd (bodyQ R) := fun ch s t x hq => hq
def liftQ (Γ : Cx) (Q : Exit → St → Prop) : Exit → Act → World → Prop := fun e a' w' => ∃ s', Q e s' ∧ SR Γ s' a' w'
def WPT (P : Program) (Γ : Cx) (ops : Array Oper) (Q : Exit → St → Prop) (fuel : Nat) (listed : Array Bool) (s : St) : Prop :=
  ∀ a w, SR Γ s a w → wpAny P .any ops (liftQ Γ Q) fuel listed a w
def WPO (P : Program) (Γ : Cx) (ops : Array Oper) (Q : Exit → St → Prop) (i : Nat) (K : St → Prop) (s : St) : Prop :=
  ∀ a w, SR Γ s a w → wpOp P ops (liftQ Γ Q) i (fun a' w' => ∃ s', K s' ∧ SR Γ s' a' w') a w
def AllO (P : Program) (Γ : Cx) (ops : Array Oper) (Q : Exit → St → Prop) (fuel : Nat) (listed : Array Bool) (s : St) : List Nat → Prop
  | [] => True
  | i :: r => WPO P Γ ops Q i (WPT P Γ ops Q fuel (listed.setIfInBounds i true)) s ∧ AllO P Γ ops Q fuel listed s r
theorem wp_tree {id : Nat} {L : List Oper} (k : Nat) (hm : P.follows .mixedOrders = true) (hk : L.length = k) (h : WPT P Γ L.toArray Q k (Array.replicate k false) s) : WP P Γ (.region id L.toArray true) Q s := by
  intro a w hs
  have hsz : L.toArray.size = k := by simpa using hk
  refine wp_region_any hm ?_
  rw [hsz]
  exact h a _ (hs.drawn _)
variable {fuel i : Nat} {listed : Array Bool}
theorem wpt_all {rs : List Nat} (hr : Region.ready .any ops listed = rs) (hne : rs.isEmpty = false) (h : AllO P Γ ops Q fuel listed s rs) : WPT P Γ ops Q (fuel + 1) listed s := by
  intro a w hs
  refine wpAny_all hr (by cases rs <;> simp_all) fun i hi => ?_
  have key : ∀ rs, AllO P Γ ops Q fuel listed s rs → ∀ i, i ∈ rs → WPO P Γ ops Q i (WPT P Γ ops Q fuel (listed.setIfInBounds i true)) s := by
    intro rs
    induction rs with
    | nil => intro _ i hi; cases hi
    | cons j r ih =>
      intro h i hi
      rcases List.mem_cons.1 hi with rfl | hi
      · exact h.1
      · exact ih h.2 i hi
  exact wpOp_mono (fun a' w' ⟨s', h1, h2⟩ => h1 a' w' h2) (key rs h i hi a w hs)
theorem wpt_end (hr : Region.ready .any ops listed = []) (h : Q .normal s) : WPT P Γ ops Q fuel listed s := fun a w hs => wpAny_done hr ⟨s, h, hs⟩ fuel
theorem wpo_do {o : Oper} (ho : ops[i]? = some o) (hg : o.guard = none) (h : asemC P ops [o] s K) : WPO P Γ ops Q i K s := by
  intro a w hs
  unfold wpOp
  rw [ho]
  simp only
  rw [if_pos (by simp [Region.wanted, hg])]
  exact .inl (asemC_one hg hs h)
theorem wpo_callx {v : Value} {s' : St} {dst : Option Tmp} (ho : ops[i]? = some ⟨dst, .call ⟨.value f, args, tys⟩, ty, pos, af, none⟩) (hc : CallX P (s.op f) (args.toList.map s.op) s v s') (hq : Q (.panic [{ v, recovered := false }]) s') : WPO P Γ ops Q i K s := by
  intro a w hs
  unfold wpOp
  rw [ho]
  simp only
  rw [if_pos (by simp [Region.wanted])]
  refine .inl ?_
  obtain ⟨ρ, hρ⟩ := hs
  obtain ⟨g, us, hrun, hcall⟩ := hc Γ a w (a.eval f) (args.toList.map a.eval) ⟨ρ, hρ⟩ (fun ρ' h' => ⟨h'.eval f, by simp, fun i x v hx hv => by
    simp only [List.getElem?_map, Option.map_eq_some_iff] at hx hv
    obtain ⟨p, hp, rfl⟩ := hx
    obtain ⟨q, hq, rfl⟩ := hv
    rw [hp] at hq; injection hq with hq; subst hq
    exact h'.eval p⟩)
  unfold Oper.wp
  have hex : (execOp a.eval ⟨dst, .call ⟨.value f, args, tys⟩, ty, pos, af, none⟩).run P w = .ok (.enter g us) w := by
    have e1 : (args.map a.eval) = (args.toList.map a.eval).toArray := by apply Array.ext'; simp
    rw [← hrun w]
    simp only [execOp, resolve, e1]
  rw [hex]
  simp only [Oper.upon]
  refine hcall.mono ?_
  rintro e w' ⟨rfl, hs'⟩
  exact ⟨s', hq, hs'⟩
theorem wpo_x {aos : List AObj} {v : Value} {dst : Option Tmp} (is : List Nat) (ho : ops[i]? = some ⟨dst, .call ⟨.value f, args, tys⟩, ty, pos, af, none⟩) (hf : opq n l f = some (.clo (.func g) first cap)) (has : opqL n l args.toList = some xa) (hspec : FnX P g ys aos v)
    (hL : Lend is (S n l M os) (first ++ xa ++ cap) ys aos) (hq : Q (.panic [{ v, recovered := false }]) (S n l M (kill is os))) : WPO P Γ ops Q i K (S n l M os) := by
  have hM : (S n l M os).objs.length = M := ol_length M os
  have hil : is.length = aos.length := by have := wkRO_len hL.2.1; simpa using this.symm
  refine wpo_callx (s' := S n l M (kill is os)) ho ?_ hq
  rw [opq_op hf, opqL_op has]
  have h := CallX.via is hspec hL
  have e : (⟨(S n l M os).tmps, updO (apx (S n l M os).objs.length is) (S n l M os).objs is (aos.map fun _ => none)⟩ : St) = S n l M (kill is os) := by
    simp only [S]; rw [kill_ol is aos os hil]
  rw [e] at h
  exact h
def Still (P : Program) (op : Op) : Prop := ∀ (ρ : Operand → Value) (dst : Option Tmp) (ty : TypeId) (pos : String) (af : Array Edge) (v : Value) (w w' w1 : World), (execOp ρ ⟨dst, op, ty, pos, af, none⟩).run P w = .ok (.value v) w1 → (execOp ρ ⟨dst, op, ty, pos, af, none⟩).run P w' = .ok (.value v) w'
theorem still_move {a : Operand} : Still P (.move a) := by
  intro ρ dst ty pos af v w w' w1 h
  simp only [execOp, Sem.run_pure] at h ⊢
  injection h with h1 h2
  rw [h1]
theorem still_assign {a : Operand} : Still P (.assign a) := by
  intro ρ dst ty pos af v w w' w1 h
  simp only [execOp, Sem.run_pure] at h ⊢
  injection h with h1 h2
  rw [h1]
theorem wpt_take {op : Op} (i : Nat) (ho : ops[i]? = some ⟨some d, op, ty, pos, af, none⟩) (hst : Still P op) (hap : Ap P n l M os [] op x) (hs : Region.noSelect ops = true) (hf : Region.free .any ops listed i = true) (hr : (Region.ready .any ops listed).contains i = true) (hQ : PInd Q)
    (hk : WPT P Γ ops Q fuel (listed.setIfInBounds i true) (S n ((d, x) :: l) M os)) : WPT P Γ ops Q (fuel + 1) listed (S n l M os) := by
  intro a w hs'
  obtain ⟨ρ, hρ⟩ := hs'
  obtain ⟨v, hrun, hrv⟩ := pure_sound (P := P) hρ (o := ⟨some d, op, ty, pos, af, none⟩) (e := []) rfl hap
  refine wpAny_take (v := v) ho hs hf hr ?_ (.inl ⟨by simp [Region.wanted], fun w' => hst _ _ _ _ _ _ _ _ _ hrun⟩) ?_
  · rintro c a1 w1 ⟨s', hq, ρ', h'⟩
    by_cases hd : d < a1.tmps.size
    · have hv : a1.tmps[d]? = some a1.tmps[d] := Array.getElem?_eq_getElem hd
      refine ⟨s'.put (some d) .any, hQ _ _ _ _ hq, ρ', ?_⟩
      have h2 := h'.put (some d) (x := .any) (v := a1.tmps[d]) .any
      have e : (a1.put (some d) v).put (some d) a1.tmps[d] = a1 := by
        have e1 : (a1.put (some d) v).put (some d) a1.tmps[d] = a1.put (some d) a1.tmps[d] := by simp [Act.put]
        rw [e1]; exact act_same hv
      rw [e] at h2
      simpa [St.put] using h2
    · refine ⟨s', hq, ρ', ?_⟩
      have e : a1.put (some d) v = a1 := by
        cases a1 with | mk tm df => simp only [Act.put, Act.mk.injEq, and_true]; exact Array.setIfInBounds_eq_of_size_le (by simpa using hd)
      rwa [e] at h'
  · refine hk _ _ ⟨ρ, ?_⟩
    have h2 := hρ.put (some d) hrv
    rw [S_put] at h2
    simpa [S, ol_length] using h2
theorem sgt_o {aos : List AObj} {os' : List (Option AObj)} {j : Nat} {want b : Bool} (is : List Nat) (hd : (ops[j]?).bind (·.dst) = some t) (hv : opq n l (.tmp t) = some (.val (.bool b))) (hb : b = want) (hf : opq n ((t, .val (.bool b)) :: l) f = some (.clo (.func g) first cap)) (has : opqL n ((t, .val (.bool b)) :: l) args.toList = some xa) (hspec : FnO P g ys aos X os')
    (hL : Lend is (S n ((t, .val (.bool b)) :: l) M os) (first ++ xa ++ cap) ys aos)
    (hk : asemC P ops rest (S n ((d, X.ren (apx M is)) :: (t, .val (.bool b)) :: l) (M + (os'.length - is.length)) (updN (apx M is) M is os' os)) K) :
    asemC P ops (⟨some d, .call ⟨.value f, args, tys⟩, ty, pos, af, some (j, want)⟩ :: rest) (S n l M os) K := by
  subst hb
  simp only [asemC]
  refine .inl ⟨b, yielded_q hd hv, fun _ => ?_, fun h => by cases b <;> cases h⟩
  rw [hd, S_put]
  generalize hl : ((t, AV.val (.bool b)) :: l) = l2 at *
  have hM : (S n l2 M os).objs.length = M := ol_length M os
  simp only [execA, opq_op hf, opqL_op has]
  refine Call.via is hspec.spec hL ?_
  rintro r o' ⟨rfl, rfl⟩
  have hil : is.length = aos.length := by have := wkRO_len hL.2.1; simpa using this.symm
  have := hspec.len
  refine ⟨hspec.len, hspec.bd, ?_⟩
  rw [hM]
  have e : (⟨(S n l2 M os).tmps, updO (apx M is) (S n l2 M os).objs is o'⟩ : St) = S n l2 (M + (o'.length - is.length)) (updN (apx M is) M is o' os) := by
    simp only [S]; rw [updN_ol is o' os (by omega)]
  rw [e, S_put]
  exact hk
end
end Go.Lg

namespace Go.Lg
section
variable {P : Program} {n M N i : Nat} {l : List (Nat × AV)} {os : List (Nat × Option AObj)} {d t : Tmp} {ty : TypeId} {pos : String} {af : Array Edge} {ops : Array Oper} {rest : List Oper} {K : List Rec → St → Prop} {rs : List Rec} {j : Nat} {want : Bool} {X : AV}
theorem rdg_call {g : FuncId} {first cap us us' : List AV} {f : Operand} {args : Array Operand} {tys : Array TypeId} (ht : (ops[j]?).bind (·.dst) = some t) (hg : opq n l (.tmp t) = some (.val (.bool want))) (hf : opq n l f = some (.clo (.func g) first cap)) (has : opqL n l args.toList = some us) (hsub : SubL (first ++ us ++ cap) us') (hp : bdL 0 (first ++ us ++ cap) = true) (hspec : Fn P g us' X)
    (hk : RunD P ops N (i + 1) rest (S n ((d, X) :: l) M os) (rs ++ [⟨some d, [], topq n l (Op.operands (.call ⟨.value f, args, tys⟩)).toList⟩]) K) : RunD P ops N i (⟨some d, .call ⟨.value f, args, tys⟩, ty, pos, af, some (j, want)⟩ :: rest) (S n l M os) rs K := by
  have e := opqL_op (M := M) (os := os) has
  refine ⟨.did (X, .none), _, ⟨rfl, .inr ⟨_, f, g, first, cap, rfl, rfl, opq_op hf, by rw [e]; exact (hspec.sub hsub).spec, by rw [e]; exact hp, rfl⟩, yielded_q ht hg⟩, ?_⟩
  show RunD P ops N (i + 1) rest ((S n l M os).put (some d) X) (rs ++ [⟨some d, [], topIds (S n l M os) _⟩]) K
  rw [topq_ids, S_put]
  exact hk
theorem rdg_pick_t {c a b : Operand} {x : AV} (ht : (ops[j]?).bind (·.dst) = some t) (hg : opq n l (.tmp t) = some (.val (.bool want))) (hc : opq n l c = some (.val (.bool true))) (ha : opq n l a = some x) (hk : RunD P ops N (i + 1) rest (S n ((d, x) :: l) M os) (rs ++ [⟨some d, [], topq n l [c, a, b]⟩]) K) : RunD P ops N i (⟨some d, .pick c a b, ty, pos, af, some (j, want)⟩ :: rest) (S n l M os) rs K := by
  refine rdg (x, .none) ht hg ?_ ?_
  · simp only [aop, opq_op hc, opq_op ha, pickA, pure']
    split <;> simp_all
  · simp only [St.eff, S_put, Eff.ids]; exact hk
theorem rdg_pick_f {c a b : Operand} {x : AV} (ht : (ops[j]?).bind (·.dst) = some t) (hg : opq n l (.tmp t) = some (.val (.bool want))) (hc : opq n l c = some (.val (.bool false))) (hb : opq n l b = some x) (hk : RunD P ops N (i + 1) rest (S n ((d, x) :: l) M os) (rs ++ [⟨some d, [], topq n l [c, a, b]⟩]) K) : RunD P ops N i (⟨some d, .pick c a b, ty, pos, af, some (j, want)⟩ :: rest) (S n l M os) rs K := by
  refine rdg (x, .none) ht hg ?_ ?_
  · simp only [aop, opq_op hc, opq_op hb, pickA, pure']
    split <;> simp_all
  · simp only [St.eff, S_put, Eff.ids]; exact hk
end
end Go.Lg

namespace Go.Lg
open Go.Proofs
set_option linter.unusedSimpArgs false
set_option linter.unusedVariables false
attribute [local irreducible] Ap Rq asemC WP RunD Ret Gq thenA inBlockA bodyQ noGotoA RqL RqP OpP
set_option maxHeartbeats 4000000
def hdT (l : List (Nat × Tx)) : Tx := hd (l.map (·.2))
def tkW : Tx → Bool
  | [] => false
  | c :: _ => isL c
def tkNum (t : Tx) : Int := if isNum t then numV t else -1
def pos (l : List (Nat × Tx)) (e : Int) : Int := match l with
  | [] => e
  | p :: _ => p.1
def tokA (p : Nat × Tx) : AV := .agg [intA p.1, strA (tx p.2), boolA (tkW p.2), intA (tkNum p.2)]
def rdA (l : List (Nat × Tx)) (e : Int) : AObj := .arr 2 [.agg [.sl 4 (l.map tokA), intA e]]
def pkA (l : List (Nat × Tx)) (e : Int) : AV := .agg [intA (pos l e), strA (tx (hdT l)), boolA (tkW (hdT l)), intA (tkNum (hdT l))]
theorem toks_bd (m : Nat) (l : List (Nat × Tx)) : bdL m (l.map tokA) = true := bdL_map (fun _ => rfl) _
attribute [local simp] rdA pkA tokA toks_bd
theorem ren_pkA (π : Nat → Nat) (l : List (Nat × Tx)) (e : Int) : AV.ren π (pkA l e) = pkA l e := ren_pure rfl
theorem ren_toks (π : Nat → Nat) (l : List (Nat × Tx)) : renL π (l.map tokA) = l.map tokA := renL_pure (toks_bd 0 l)
instance : Inhabited (Nat × Tx) := ⟨(0, [])⟩
theorem peek_fn (l : List (Nat × Tx)) (e : Int) : FnO Try.prog 53 [.ptr 0 2 0 0] [rdA l e] (pkA l e) [some (rdA l e)] := by
  cases l with
  | nil =>
    refine FnO.intro (by exact Nat.le_of_ble_eq_true rfl) (by rfl) (by kernel_rfl) Try.func53 rfl rfl Try.ntmps53 (by exact Nat.le_of_ble_eq_true rfl) ?_; intro Γ hm
    (repeat' (first | refine WP.seq ?_ | refine go_n ?_ | refine WP.skip ?_ | refine WP.ret ?_ | refine go_r ?_ | refine bo_r ?_ | (refine wp_cond (by rfl) (fun hc => ?_) (fun hc => ?_) <;> (try simp only [sB, ne_eq, reduceCtorEq] at hc) <;> (try (exfalso; omega))) | (refine WP.regionC (id := 0) ?_; (refine se_alloc (by rfl) ?_); refine asemC_end ?_) | (refine WP.regionC (id := 1) ?_; (refine su (ap_move (rq_p rfl rfl)) ?_); (refine su (ap_nilc (rq_p rfl rfl)) ?_); (refine su (ap_field_p (rq_p rfl rfl) (by rfl) (by rfl)) ?_); (refine su (ap_load_p (rq_p rfl rfl) (by rfl) (by rfl) (by rfl)) ?_); (refine su (ap_len_m (by rfl) (rq_p rfl rfl)) ?_); (refine su (ap_eql (rq_p rfl rfl) (rq_p rfl rfl)) ?_); refine asemC_end ?_) | (refine WP.regionC (id := 2) ?_; (refine su (ap_move (rq_p rfl rfl)) ?_); (refine su (ap_nilc (rq_p rfl rfl)) ?_); (refine su (ap_field_p (rq_p rfl rfl) (by rfl) (by rfl)) ?_); (refine su (ap_load_p (rq_p rfl rfl) (by rfl) (by rfl) (by rfl)) ?_); (refine su (ap_build (RqP.cons (rq_p rfl rfl) (RqP.cons (rq_p rfl rfl) (RqP.nil))) (by rfl)) ?_); (refine se_store_b (by rfl) (by rfl) (by rfl) (by rfl) ?_); refine asemC_end ?_)))
    · refine retO_L (x := pkA [] e) (k := 1) (os1 := [(0, some (rdA [] e))]) (.cellT (by rfl) (by rfl) (by rfl) (by rfl) .nil) (by rfl) ⟨[0], ToR.S rfl (by repeat' (first | exact rt_nil | refine rt_e (by rfl) (by rfl) ?_)) (by repeat' (first | exact ro_nil | refine ro_e (by rfl) (by rfl) ?_)) (by rfl) (by rfl) (by rfl) (by (simp [bdT, AV.bd, bdL, bdL_append]; done)) (by repeat' (first | exact True.intro | exact rfl | refine And.intro ?_ ?_)) (by exact Nat.le_of_ble_eq_true rfl)⟩ (by rfl)
    · exfalso; simp at hc
  | cons p l =>
    refine FnO.intro (by exact Nat.le_of_ble_eq_true rfl) (by rfl) (by kernel_rfl) Try.func53 rfl rfl Try.ntmps53 (by exact Nat.le_of_ble_eq_true rfl) ?_; intro Γ hm
    (repeat' (first | refine WP.seq ?_ | refine go_n ?_ | refine WP.skip ?_ | refine WP.ret ?_ | refine bo_r ?_ | (refine wp_cond (by rfl) (fun hc => ?_) (fun hc => ?_) <;> (try simp only [sB, ne_eq, reduceCtorEq] at hc) <;> (try (exfalso; omega))) | (refine WP.regionC (id := 0) ?_; (refine se_alloc (by rfl) ?_); refine asemC_end ?_) | (refine WP.regionC (id := 1) ?_; (refine su (ap_move (rq_p rfl rfl)) ?_); (refine su (ap_nilc (rq_p rfl rfl)) ?_); (refine su (ap_field_p (rq_p rfl rfl) (by rfl) (by rfl)) ?_); (refine su (ap_load_p (rq_p rfl rfl) (by rfl) (by rfl) (by rfl)) ?_); (refine su (ap_len_m (by rfl) (rq_p rfl rfl)) ?_); (refine su (ap_eql (rq_p rfl rfl) (rq_p rfl rfl)) ?_); refine asemC_end ?_) | (refine WP.regionC (id := 3) ?_; (refine su (ap_move (rq_p rfl rfl)) ?_); (refine su (ap_nilc (rq_p rfl rfl)) ?_); (refine su (ap_field_p (rq_p rfl rfl) (by rfl) (by rfl)) ?_); (refine su (ap_load_p (rq_p rfl rfl) (by rfl) (by rfl) (by rfl)) ?_); (refine su (ap_idx_n (rq_p rfl rfl) (rq_p rfl rfl) (by (simp only [sL] <;> omega))) ?_); (refine su (ap_load_w (rq_p rfl rfl) (by rfl)) ?_); (refine se_store_b (by rfl) (by rfl) (by rfl) (by rfl) ?_); refine asemC_end ?_)))
    · exfalso; simp at hc; omega
    · refine retO_L (x := pkA (p :: l) e) (k := 1) (os1 := [(0, some (rdA (p :: l) e))]) (.cellT (by rfl) (by rfl) (by rfl) (by rfl) .nil) (by rfl) ⟨[0], ToR.S rfl (by repeat' (first | exact rt_nil | refine rt_e (by rfl) (by rfl) ?_)) (by repeat' (first | exact ro_nil | refine ro_p (by rfl) (by first | exact rfl | fail) (by first | (simp [bdL, bdL_append, AV.bd]; done) | fail) ?_)) (by rfl) (by rfl) (by rfl) (by (simp [bdT, AV.bd, bdL, bdL_append]; done)) (by repeat' (first | exact True.intro | refine And.intro ?_ ?_ | (simp [bdOq, bdL, bdL_append, AV.bd]; done))) (by exact Nat.le_of_ble_eq_true rfl)⟩ (by rfl)
theorem next_fn (p : Nat × Tx) (l : List (Nat × Tx)) (e : Int) : FnO Try.prog 55 [.ptr 0 2 0 0] [rdA (p :: l) e] (tokA p) [some (rdA l e)] := by
  obtain ⟨L, hL⟩ : ∃ L, L = p :: l := ⟨_, rfl⟩
  have hlen : L.length = l.length + 1 := by rw [hL]; rfl
  have hpk : pkA L e = tokA p := by rw [hL]; rfl
  rw [← hL, ← hpk]
  unfold rdA
  refine FnO.intro (by exact Nat.le_of_ble_eq_true rfl) (by rfl) (by kernel_rfl) Try.func55 rfl rfl Try.ntmps55 (by exact Nat.le_of_ble_eq_true rfl) ?_; intro Γ hm
  (repeat' (first | refine WP.seq ?_ | refine go_n ?_ | refine WP.ret ?_ | refine bo_r ?_ | (refine WP.regionC (id := 0) ?_; (refine se_alloc (by rfl) ?_); refine asemC_end ?_) | (refine WP.regionC (id := 1) ?_; (refine su (ap_move (rq_p rfl rfl)) ?_); (refine sc_o [0] rfl rfl (peek_fn _ _) (Lend.o1 (by rfl) (by rfl) (by (exact (renL_pure (by simp [AV.bd, bdL, bdL_append])).symm)) (by rfl) (by simp [AV.bd, bdL, bdL_append]) (by simp [AV.bd, bdL, bdL_append])) ?_; simp only [updN, newO, AObj.ren, renL, AV.ren, apx, ap, if_true, if_false, Nat.reduceLT, Nat.reduceAdd, Nat.reduceSub, sO, intA, boolA, strA, ren_pkA, rdA, ren_toks]); (refine se_alloc (by rfl) ?_); (refine se_store_b (by rfl) (by rfl) (by rfl) (by rfl) ?_); refine asemC_end ?_) | (refine WP.regionC (id := 2) ?_; (refine su (ap_move (rq_p rfl rfl)) ?_); (refine su (ap_move (rq_p rfl rfl)) ?_); (refine su (ap_nilc (rq_p rfl rfl)) ?_); (refine su (ap_field_p (rq_p rfl rfl) (by rfl) (by rfl)) ?_); (refine su (ap_load_p (rq_p rfl rfl) (by rfl) (by rfl) (by rfl)) ?_); (refine su (ap_slice_m (rq_p rfl rfl) (by exact bq_some (rq_p rfl rfl)) (by exact bq_none) (by (simp only [sL] <;> omega))) ?_); (refine su (ap_nilc (rq_p rfl rfl)) ?_); (refine su (ap_field_p (rq_p rfl rfl) (by rfl) (by rfl)) ?_); (refine se_store_b (by rfl) (by rfl) (by rfl) (by rfl) ?_); refine asemC_end ?_) | (refine WP.regionC (id := 3) ?_; (refine su (ap_load_pw (rq_p rfl rfl) (by rfl) (by rfl) (by rfl)) ?_); (refine se_store_b (by rfl) (by rfl) (by rfl) (by rfl) ?_); refine asemC_end ?_)))
  have hd : (L.take ((List.map tokA L).length : Int).toNat).drop (1 : Int).toNat = l := by rw [hL]; simp
  rw [hd]
  refine retO_L (x := pkA L e) (k := 1) (os1 := [(0, some (rdA l e))]) (.cellT (by rfl) (by rfl) (by rfl) (by rfl) .nil) (by rfl) ⟨[0], ToR.S rfl (by repeat' (first | exact rt_nil | refine rt_e (by rfl) (by rfl) ?_)) (by repeat' (first | exact ro_nil | refine ro_p (by rfl) (by first | exact rfl | fail) (by first | (simp [bdL, bdL_append, AV.bd]; done) | fail) ?_)) (by rfl) (by rfl) (by rfl) (by (simp [bdT, AV.bd, bdL, bdL_append]; done)) (by repeat' (first | exact True.intro | refine And.intro ?_ ?_ | (simp [bdOq, bdL, bdL_append, AV.bd]; done))) (by exact Nat.le_of_ble_eq_true rfl)⟩ (by rfl)
def synV (x : Int) : Value := .iface 50 (.int .i64 x)
theorem fail_fn (l : List (Nat × Tx)) (e : Int) : FnX Try.prog 54 [.ptr 0 2 0 0] [rdA l e] (synV (pos l e)) := by
  unfold rdA
  refine FnX.intro (by kernel_rfl) Try.func54 rfl Try.ntmps54 (by exact Nat.le_of_ble_eq_true rfl) ?_; intro Γ hm
  refine wpl_region (id := 0) ?_
  (refine wpl_step rfl ?_)
  (refine su (ap_move (rq_p rfl rfl)) ?_)
  (refine asemC_end ?_)
  (refine wpl_step rfl ?_)
  (refine sc_o [0] rfl rfl (peek_fn _ _) (Lend.o1 (by rfl) (by rfl) (by (exact (renL_pure (by simp [AV.bd, bdL, bdL_append])).symm)) (by rfl) (by simp [AV.bd, bdL, bdL_append]) (by simp [AV.bd, bdL, bdL_append])) ?_; simp only [updN, newO, AObj.ren, renL, AV.ren, apx, ap, if_true, if_false, Nat.reduceLT, Nat.reduceAdd, Nat.reduceSub, sO, intA, boolA, strA, ren_pkA, rdA, ren_toks])
  (refine asemC_end ?_)
  (refine wpl_step rfl ?_)
  (refine su (ap_fieldv (rq_p rfl rfl) (by rfl)) ?_)
  (refine asemC_end ?_)
  (refine wpl_step rfl ?_)
  (refine se_iface (by rfl) (by kernel_rfl) (by kernel_rfl) ?_)
  (refine asemC_end ?_)
  (refine wpl_panic rfl ?_)
  exact bx_p rfl
end Go.Lg

namespace Go.Lg
open Go.Proofs
set_option linter.unusedSimpArgs false
set_option linter.unusedVariables false
attribute [local irreducible] Ap Rq asemC WP RunD Ret Gq thenA inBlockA bodyQ noGotoA RqL RqP OpP
set_option maxHeartbeats 4000000
theorem gpletter_fn (c : Int) : Fn Try.prog 49 [.val (.int .u8 c)] (boolA (letB c)) := by
  refine Fn.intro (by rfl) (by kernel_rfl) Try.func49 rfl rfl Try.ntmps49 (by exact Nat.le_of_ble_eq_true rfl) ?_; intro Γ hm
  (repeat' (first | refine WP.seq ?_ | refine go_n ?_ | refine WP.ret ?_ | refine bo_r ?_ | (refine WP.regionC (id := 0) ?_; (refine su (ap_assign (rq_p rfl rfl)) ?_); refine asemC_end ?_) | (refine WP.regionC (id := 1) ?_; (refine su (ap_move (rq_p rfl rfl)) ?_); (refine su (ap_geq (rq_p rfl rfl) (rq_p rfl rfl)) ?_); (refine su (ap_move (rq_p rfl rfl)) ?_); (refine sg (gq_vt rfl rfl) (fun he => ap_move (rq_p rfl rfl)) ?_); (refine sg (gq_vt rfl rfl) (fun he => ap_leq (rq_c rfl rfl) (rq_p rfl rfl)) ?_); (refine su (ap_and (rq_p rfl rfl) (rq_c rfl rfl)) ?_); (refine su (ap_move (rq_p rfl rfl)) ?_); (refine sg (gq_vf rfl rfl) (fun he => ap_move (rq_p rfl rfl)) ?_); (refine sg (gq_vf rfl rfl) (fun he => ap_geq (rq_c rfl rfl) (rq_p rfl rfl)) ?_); (refine sg (gq_vf rfl rfl) (fun he => ap_move (rq_c rfl rfl)) ?_); (refine sg (gq_ct rfl rfl) (fun he => ap_move (rq_p rfl rfl)) ?_); (refine sg (gq_ct rfl rfl) (fun he => ap_leq (rq_c rfl rfl) (rq_p rfl rfl)) ?_); (refine sg (gq_vf rfl rfl) (fun he => ap_and (rq_c rfl rfl) (rq_c rfl rfl)) ?_); (refine su (ap_or (rq_p rfl rfl) (rq_c rfl rfl)) ?_); (refine su (ap_assign (rq_p rfl rfl)) ?_); refine asemC_end ?_) | exact ret_eq (by rfl) (by rfl) rfl))
theorem gpdigit_fn (c : Int) : Fn Try.prog 51 [.val (.int .u8 c)] (boolA (digB c)) := by
  refine Fn.intro (by rfl) (by kernel_rfl) Try.func51 rfl rfl Try.ntmps51 (by exact Nat.le_of_ble_eq_true rfl) ?_; intro Γ hm
  (repeat' (first | refine WP.seq ?_ | refine go_n ?_ | refine WP.ret ?_ | refine bo_r ?_ | (refine WP.regionC (id := 0) ?_; (refine su (ap_assign (rq_p rfl rfl)) ?_); refine asemC_end ?_) | (refine WP.regionC (id := 1) ?_; (refine su (ap_move (rq_p rfl rfl)) ?_); (refine su (ap_geq (rq_p rfl rfl) (rq_p rfl rfl)) ?_); (refine su (ap_move (rq_p rfl rfl)) ?_); (refine sg (gq_vt rfl rfl) (fun he => ap_move (rq_p rfl rfl)) ?_); (refine sg (gq_vt rfl rfl) (fun he => ap_leq (rq_c rfl rfl) (rq_p rfl rfl)) ?_); (refine su (ap_and (rq_p rfl rfl) (rq_c rfl rfl)) ?_); (refine su (ap_assign (rq_p rfl rfl)) ?_); refine asemC_end ?_) | exact ret_eq (by rfl) (by rfl) rfl))
theorem lex1_fn (c : Int) : Fn Try.prog 48 [.val (.int .u8 c)] (boolA (!decide (c = 10))) := by
  refine Fn.intro (by rfl) (by kernel_rfl) Try.func48 rfl rfl Try.ntmps48 (by exact Nat.le_of_ble_eq_true rfl) ?_; intro Γ hm
  (repeat' (first | refine WP.seq ?_ | refine go_n ?_ | refine WP.ret ?_ | refine bo_r ?_ | (refine WP.regionC (id := 0) ?_; (refine su (ap_assign (rq_p rfl rfl)) ?_); refine asemC_end ?_) | (refine WP.regionC (id := 1) ?_; (refine su (ap_move (rq_p rfl rfl)) ?_); (refine su (ap_neq (rq_p rfl rfl) (rq_p rfl rfl)) ?_); (refine su (ap_assign (rq_p rfl rfl)) ?_); refine asemC_end ?_) | exact ret_eq (by rfl) (by rfl) rfl))
def wB (c : Int) : Bool := letB c || digB c || decide (c = 95)
theorem lex2_fn (c : Int) : Fn Try.prog 50 [.val (.int .u8 c)] (boolA (wB c)) := by
  unfold wB
  refine Fn.intro (by rfl) (by kernel_rfl) Try.func50 rfl rfl Try.ntmps50 (by exact Nat.le_of_ble_eq_true rfl) ?_; intro Γ hm
  (repeat' (first | refine WP.seq ?_ | refine go_n ?_ | refine WP.ret ?_ | refine bo_r ?_ | (refine WP.regionC (id := 0) ?_; (refine su (ap_assign (rq_p rfl rfl)) ?_); refine asemC_end ?_) | (refine WP.regionC (id := 1) ?_; (refine su (ap_move (rq_p rfl rfl)) ?_); (refine sc_p rfl rfl (by first | ((repeat' first | exact SubL.nil | refine SubL.cons ?_ ?_ | exact Sub.refl); done) | fail) (by first | (simp [bdL, bdL_append, AV.bd]; done) | fail) (gpletter_fn _) ?_); (refine su (ap_move (rq_p rfl rfl)) ?_); (refine sg (gq_vf rfl rfl) (fun he => ap_move (rq_p rfl rfl)) ?_); (refine sg_p (gq_vf rfl rfl) (fun he => ⟨(rq_p rfl rfl), (RqL.cons (rq_c rfl rfl) (RqL.nil)), (by first | ((repeat' first | exact SubL.nil | refine SubL.cons ?_ ?_ | exact Sub.refl); done) | fail), (by first | (simp [bdL, bdL_append, AV.bd]; done) | fail), gpdigit_fn _⟩) ?_); (refine su (ap_or (rq_p rfl rfl) (rq_c rfl rfl)) ?_); (refine su (ap_move (rq_p rfl rfl)) ?_); (refine sg (gq_vf rfl rfl) (fun he => ap_move (rq_p rfl rfl)) ?_); (refine sg (gq_vf rfl rfl) (fun he => ap_eql (rq_c rfl rfl) (rq_p rfl rfl)) ?_); (refine su (ap_or (rq_p rfl rfl) (rq_c rfl rfl)) ?_); (refine su (ap_assign (rq_p rfl rfl)) ?_); refine asemC_end ?_) | exact ret_eq (by rfl) (by rfl) rfl))
def spanN (p : Int → Bool) (s : ByteArray) (k : Nat) : Nat := (((bl s).drop k).takeWhile fun c => p (c.toNat : Int)).length
theorem spanN_step {p : Int → Bool} {s : ByteArray} {k : Nat} (hk : k < s.size) (h : p (bAt s k) = true) : spanN p s k = spanN p s (k + 1) + 1 := by
  have hk' : k < (bl s).length := by rw [bl_len]; exact hk
  unfold spanN
  rw [List.drop_eq_getElem_cons hk']
  have : bAt s k = (((bl s)[k]'hk').toNat : Int) := by
    unfold bAt
    show (((bl s).getD k 0).toNat : Int) = _
    simp [List.getD, hk']
  rw [this] at h
  rw [List.takeWhile_cons, if_pos h]
  simp
theorem spanN_stop {p : Int → Bool} {s : ByteArray} {k : Nat} (h : k < s.size → p (bAt s k) = false) : spanN p s k = 0 := by
  unfold spanN
  by_cases hk : k < s.size
  · have hk' : k < (bl s).length := by rw [bl_len]; exact hk
    rw [List.drop_eq_getElem_cons hk']
    have : bAt s k = (((bl s)[k]'hk').toNat : Int) := by
      unfold bAt
      show (((bl s).getD k 0).toNat : Int) = _
      simp [List.getD, hk']
    have h := h hk
    rw [this] at h
    rw [List.takeWhile_cons, if_neg (by simp [h])]
    rfl
  · rw [List.drop_eq_nil_of_le (by rw [bl_len]; omega)]
    rfl
theorem spanN_le (p : Int → Bool) (s : ByteArray) (k : Nat) (hk : k ≤ s.size) : k + spanN p s k ≤ s.size := by
  have := (List.takeWhile_sublist (fun c : UInt8 => p (c.toNat : Int)) (l := (bl s).drop k)).length_le
  unfold spanN
  rw [List.length_drop, bl_len] at this
  omega
theorem span_fn (f : FuncId) (p : Int → Bool) (hp : ∀ c, Fn Try.prog f [.val (.int .u8 c)] (boolA (p c))) (s : ByteArray) (hs : s.size ≤ 1000000) (k : Nat) (hk : k ≤ s.size) :
    Fn Try.prog 47 [strA s, intA (k : Nat), .clo (.func f) [] []] (intA ((k + spanN p s k : Nat) : Int)) := by
  refine Fn.intro (by rfl) (by kernel_rfl) Try.func47 rfl rfl Try.ntmps47 (by exact Nat.le_of_ble_eq_true rfl) ?_; intro Γ hm
  (repeat' (first | refine WP.seq ?_ | refine WP.block ?_ | refine go_n ?_ | (refine WP.regionC (id := 0) ?_; (refine su (ap_assign (rq_p rfl rfl)) ?_); refine asemC_end ?_)))
  refine wp_loop (fun (j : Nat) => j ≤ s.size ∧ j + spanN p s j = k + spanN p s k) (fun j => s.size - j) (fun j => (S 21 [(0, strA s), (1, intA (j : Nat)), (2, .clo (.func f) [] [])] 0 [])) k ⟨[], ToR.S rfl (by repeat' (first | exact rt_nil | refine rt_e (by rfl) (by rfl) ?_)) (by repeat' (exact ro_nil)) (by rfl) (by (rw [hm]; exact rfl)) (by rfl) (by (simp [bdT, AV.bd, bdL, bdL_append]; done)) (by repeat' (exact True.intro)) (by (rw [hm]; exact Nat.le_of_ble_eq_true rfl))⟩ ⟨hk, rfl⟩ ?_
  rintro j ⟨hj, hjj⟩
  by_cases hl : j < s.size
  · (repeat' (first | refine WP.seq ?_ | refine WP.block ?_ | refine go_n ?_ | refine WP.skip ?_ | refine WP.exit ?_ | refine WP.ret ?_ | refine go_x ?_ | refine bl_n ?_ | refine bl_x ?_ | refine bo_r ?_ | (refine wp_cond (by rfl) (fun hc => ?_) (fun hc => ?_) <;> (try simp only [sB, ne_eq, reduceCtorEq] at hc) <;> (try (exfalso; omega))) | (refine WP.regionC (id := 1) ?_; (refine su (ap_move (rq_p rfl rfl)) ?_); (refine su (ap_move (rq_p rfl rfl)) ?_); (refine su (ap_len_str (by rfl) (rq_p rfl rfl)) ?_); (refine su (ap_lss (rq_p rfl rfl) (rq_p rfl rfl)) ?_); (refine su (ap_move (rq_p rfl rfl)) ?_); (refine sg (gq_vt rfl rfl) (fun he => ap_move (rq_p rfl rfl)) ?_); (refine sg (gq_vt rfl rfl) (fun he => ap_move (rq_p rfl rfl)) ?_); (refine sg (gq_vt rfl rfl) (fun he => ap_move (rq_p rfl rfl)) ?_); (refine sg (gq_vt rfl rfl) (fun he => ap_sidx_n (rq_c rfl rfl) (rq_c rfl rfl) (by rfl) (by (try simp only [sH, id, sB, ne_eq, reduceCtorEq] at he); omega)) ?_); (refine sg_p (gq_vt rfl rfl) (fun he => ⟨(rq_c rfl rfl), (RqL.cons (rq_c rfl rfl) (RqL.nil)), (by first | ((repeat' first | exact SubL.nil | refine SubL.cons ?_ ?_ | exact Sub.refl); done) | fail), (by first | (simp [bdL, bdL_append, AV.bd]; done) | fail), hp _⟩) ?_); (refine su (ap_and (rq_p rfl rfl) (rq_c rfl rfl)) ?_); refine asemC_end ?_) | (refine WP.regionC (id := 2) ?_; (refine su (ap_move (rq_p rfl rfl)) ?_); (refine su (ap_add (rq_p rfl rfl) (rq_p rfl rfl) (by exact inr_i64_of (by omega))) ?_); (refine su (ap_assign (rq_p rfl rfl)) ?_); refine asemC_end ?_) | (refine WP.regionC (id := 3) ?_; (refine su (ap_move (rq_p rfl rfl)) ?_); (refine su (ap_assign (rq_p rfl rfl)) ?_); refine asemC_end ?_) | refine ret_i (by rfl) ?_))
    · have := spanN_step hl hc.2
      exact ⟨j + 1, ⟨by omega, by omega, by omega⟩, ⟨[], ToR.S rfl (by repeat' (first | exact rt_nil | refine rt_e (by rfl) (by rfl) ?_)) (by repeat' (exact ro_nil)) (by rfl) (by (rw [hm]; exact rfl)) (by rfl) (by (simp [bdT, AV.bd, bdL, bdL_append]; done)) (by repeat' (exact True.intro)) (by (rw [hm]; exact Nat.le_of_ble_eq_true rfl))⟩⟩
    · have := spanN_stop (p := p) (s := s) (k := j) fun _ => by rcases hc with hc | hc; · omega
                                                                exact hc
      omega
  · (repeat' (first | refine WP.seq ?_ | refine go_n ?_ | refine WP.exit ?_ | refine WP.ret ?_ | refine go_x ?_ | refine bl_x ?_ | refine bo_r ?_ | (refine wp_cond (by rfl) (fun hc => ?_) (fun hc => ?_) <;> (try simp only [sB, ne_eq, reduceCtorEq] at hc) <;> (try (exfalso; omega))) | (refine WP.regionC (id := 1) ?_; (refine su (ap_move (rq_p rfl rfl)) ?_); (refine su (ap_move (rq_p rfl rfl)) ?_); (refine su (ap_len_str (by rfl) (rq_p rfl rfl)) ?_); (refine su (ap_lss (rq_p rfl rfl) (rq_p rfl rfl)) ?_); (refine su (ap_move (rq_p rfl rfl)) ?_); (refine sg (gq_vt rfl rfl) (fun he => ap_move (rq_p rfl rfl)) ?_); (refine sg (gq_vt rfl rfl) (fun he => ap_move (rq_p rfl rfl)) ?_); (refine sg (gq_vt rfl rfl) (fun he => ap_move (rq_p rfl rfl)) ?_); (refine sg (gq_vt rfl rfl) (fun he => ap_sidx_n (rq_c rfl rfl) (rq_c rfl rfl) (by rfl) (by (try simp only [sH, id, sB, ne_eq, reduceCtorEq] at he); omega)) ?_); (refine sg_p (gq_vt rfl rfl) (fun he => ⟨(rq_c rfl rfl), (RqL.cons (rq_c rfl rfl) (RqL.nil)), (by first | ((repeat' first | exact SubL.nil | refine SubL.cons ?_ ?_ | exact Sub.refl); done) | fail), (by first | (simp [bdL, bdL_append, AV.bd]; done) | fail), hp _⟩) ?_); (refine su (ap_and (rq_p rfl rfl) (rq_c rfl rfl)) ?_); refine asemC_end ?_) | (refine WP.regionC (id := 3) ?_; (refine su (ap_move (rq_p rfl rfl)) ?_); (refine su (ap_assign (rq_p rfl rfl)) ?_); refine asemC_end ?_) | refine ret_i (by rfl) ?_))
    have := spanN_stop (p := p) (s := s) (k := j) fun h => absurd h hl
    omega
theorem numV_snoc' (l : Tx) (c : UInt8) : numV (l ++ [c]) = min (10 * numV l + ((c.toNat : Int) - 48)) 1001 := by simp [numV, List.foldl_append]
theorem numV_nn (l : Tx) (h : l.all isD = true) : 0 ≤ numV l ∧ numV l ≤ 1001 := by
  induction hn : l.length generalizing l with
  | zero =>
    obtain rfl : l = [] := List.eq_nil_of_length_eq_zero hn
    exact ⟨Int.le_refl _, by decide⟩
  | succ n ih =>
    obtain ⟨l', c, rfl⟩ : ∃ l' c, l = l' ++ [c] := ⟨l.dropLast, l.getLast (by intro e; simp [e] at hn), (List.dropLast_concat_getLast _).symm⟩
    simp only [List.all_append, List.all_cons, List.all_nil, Bool.and_true, Bool.and_eq_true] at h
    have h1 := ih l' h.1 (by simpa using hn)
    have h2 := h.2
    simp only [isD, digB, Bool.and_eq_true, decide_eq_true_eq] at h2
    rw [numV_snoc']
    omega
theorem value_fn (t : Tx) (ht : t.all isD = true) (hl : t.length ≤ 1000000) : Fn Try.prog 52 [strA (tx t)] (intA (numV t)) := by
  have hsz : (tx t).size = t.length := tx_size t
  refine Fn.intro (by rfl) (by kernel_rfl) Try.func52 rfl rfl Try.ntmps52 (by exact Nat.le_of_ble_eq_true rfl) ?_; intro Γ hm
  (repeat' (first | refine WP.seq ?_ | refine WP.block ?_ | refine go_n ?_ | (refine WP.regionC (id := 0) ?_; (refine su (ap_assign (rq_p rfl rfl)) ?_); refine asemC_end ?_) | (refine WP.regionC (id := 1) ?_; (refine su (ap_assign (rq_p rfl rfl)) ?_); refine asemC_end ?_) | (refine WP.regionC (id := 2) ?_; (refine su (ap_move (rq_p rfl rfl)) ?_); (refine su (ap_len_str (by rfl) (rq_p rfl rfl)) ?_); (refine su (ap_move (rq_p rfl rfl)) ?_); refine asemC_end ?_)))
  refine wp_loop (fun (j : Nat) => j ≤ t.length) (fun j => t.length - j) (fun j => (S 21 [(0, strA (tx t)), (3, intA (numV (t.take j))), (6, intA ((tx t).size : Nat)), (7, intA (j : Nat))] 0 [])) 0 ⟨[], ToR.S rfl (by repeat' (first | exact rt_nil | refine rt_e (by rfl) (by rfl) ?_)) (by repeat' (exact ro_nil)) (by rfl) (by (rw [hm]; exact rfl)) (by rfl) (by (simp [bdT, AV.bd, bdL, bdL_append]; done)) (by repeat' (exact True.intro)) (by (rw [hm]; exact Nat.le_of_ble_eq_true rfl))⟩ (Nat.zero_le _) ?_
  rintro j hj
  by_cases hlt : j < t.length
  · have h1 := numV_nn (t.take j) (by rw [List.all_eq_true] at ht ⊢; exact fun x hx => ht x (List.mem_of_mem_take hx))
    have h2 : bAt (tx t) j = ((t[j]'hlt).toNat : Int) := by
      unfold bAt
      show (((bl (tx t)).getD j 0).toNat : Int) = _
      have : bl (tx t) = t := rfl
      rw [this]
      simp [List.getD, hlt]
    have h3 : 48 ≤ bAt (tx t) j ∧ bAt (tx t) j ≤ 57 := by
      have := List.all_eq_true.1 ht _ (List.getElem_mem hlt)
      simp only [isD, digB, Bool.and_eq_true, decide_eq_true_eq] at this
      rw [h2]; exact this
    have h4 : t.take (j + 1) = t.take j ++ [t[j]'hlt] := by rw [List.take_succ_eq_append_getElem hlt]
    have h5 : numV (t.take (j + 1)) = min (10 * numV (t.take j) + (bAt (tx t) j - 48)) 1001 := by rw [h4, numV_snoc', h2]
    (repeat' (first | refine WP.seq ?_ | refine WP.block ?_ | refine go_n ?_ | refine WP.skip ?_ | refine bl_n ?_ | (refine wp_cond (by rfl) (fun hc => ?_) (fun hc => ?_) <;> (try simp only [sB, ne_eq, reduceCtorEq] at hc) <;> (try (exfalso; omega))) | (refine WP.regionC (id := 3) ?_; (refine su (ap_lss (rq_p rfl rfl) (rq_p rfl rfl)) ?_); refine asemC_end ?_) | (refine WP.regionC (id := 4) ?_; (refine su (ap_move (rq_p rfl rfl)) ?_); (refine su (ap_assign (rq_p rfl rfl)) ?_); refine asemC_end ?_) | (refine WP.regionC (id := 5) ?_; (refine su (ap_move (rq_p rfl rfl)) ?_); (refine su (ap_mul (rq_p rfl rfl) (rq_p rfl rfl) (by exact inr_i64_of (by omega))) ?_); (refine su (ap_move (rq_p rfl rfl)) ?_); (refine su (ap_move (rq_p rfl rfl)) ?_); (refine su (ap_sidx_n (rq_p rfl rfl) (rq_p rfl rfl) (by rfl) (by omega)) ?_); (refine su (ap_sub (rq_p rfl rfl) (rq_p rfl rfl) (by exact inr_u8_of (by omega))) ?_); (refine su (ap_conv (rq_p rfl rfl) (by rfl) (by kernel_rfl) (by exact inr_i64_of (by omega))) ?_); (refine su (ap_add (rq_p rfl rfl) (rq_p rfl rfl) (by exact inr_i64_of (by omega))) ?_); (refine su (ap_min (rq_p rfl rfl) (rq_p rfl rfl)) ?_); (refine su (ap_assign (rq_p rfl rfl)) ?_); refine asemC_end ?_) | (refine WP.regionC (id := 6) ?_; (refine su (ap_add (rq_p rfl rfl) (rq_p rfl rfl) (by exact inr_i64_of (by omega))) ?_); (refine su (ap_move (rq_p rfl rfl)) ?_); refine asemC_end ?_)))
    refine ⟨j + 1, ⟨by omega, by omega⟩, ?_⟩
    rw [h5]
    exact ⟨[], ToR.S rfl (by repeat' (first | exact rt_nil | refine rt_e (by rfl) (by rfl) ?_)) (by repeat' (exact ro_nil)) (by rfl) (by (rw [hm]; exact rfl)) (by rfl) (by (simp [bdT, AV.bd, bdL, bdL_append]; done)) (by repeat' (exact True.intro)) (by (rw [hm]; exact Nat.le_of_ble_eq_true rfl))⟩
  · (repeat' (first | refine WP.seq ?_ | refine go_n ?_ | refine WP.exit ?_ | refine WP.ret ?_ | refine go_x ?_ | refine bl_x ?_ | refine bo_r ?_ | (refine wp_cond (by rfl) (fun hc => ?_) (fun hc => ?_) <;> (try simp only [sB, ne_eq, reduceCtorEq] at hc) <;> (try (exfalso; omega))) | (refine WP.regionC (id := 3) ?_; (refine su (ap_lss (rq_p rfl rfl) (rq_p rfl rfl)) ?_); refine asemC_end ?_) | (refine WP.regionC (id := 7) ?_; (refine su (ap_move (rq_p rfl rfl)) ?_); (refine su (ap_assign (rq_p rfl rfl)) ?_); refine asemC_end ?_) | refine ret_i (by rfl) ?_))
    rw [List.take_of_length_le (by omega)]
end Go.Lg

namespace Go.Lg
open Go.RowKit
set_option linter.unusedVariables false
def frzq (m id M : Nat) (os : List (Nat × Option AObj)) : Bool := (List.range m).all fun i => !Nat.beq i id && (lookq M os i).isSome
section
variable {P : Program} {Γ : Cx} {A : Nat → Prop} {ρ : Nat → Option Nat} {s : St} {a : Act} {w : World}
theorem SRa.list1 (h : SRa Γ A ρ s a w) {id k len : Nat} {α : Type} {f : α → AV} {L : List α} (ho : s.look id = some (.arr k (L.map f))) (hl : L.length = len) (hb : ∀ x, (f x).bd 0 = true) (hk : ∀ x, (f x).cells.length = k)
    (hnb : ∀ b, ρ id = some b → Γ.w0.heap.size ≤ b) {I : Nat → Prop} {v : Value} (hv : RV A ρ I w (.ref id k 0 len) v) : RV A ρ (Im Γ ρ (s.set id none) w) w (.sl k (L.map f)) v := by
  have hlive := St.look_some.1 ho
  have hI : ∀ b, Im Γ ρ s w b → Im Γ ρ (s.set id none) w b ∧ w.heap[b]? = w.heap[b]? := fun b ⟨h1, h2, h3⟩ => ⟨⟨h1, h2, fun i o hl => h3 i o (St.live_kill hl).2⟩, rfl⟩
  cases hv with
  | @ref _ _ _ _ cap b hA hbk hlc hcs hmx =>
    obtain ⟨cs, t, hblk, hrow⟩ := h.row ho hbk
    have hflat : (flat (L.map f)).length = (L.map f).length * k := flat_length hrow.wide
    have hIb : Im Γ ρ (s.set id none) w b := by
      refine ⟨.inr ?_, World.lt_of_block hblk, fun i o hl hr => ?_⟩
      · exact hnb b hbk
      · obtain ⟨h1, h2⟩ := St.live_kill hl
        exact h1 (h.inj i id o _ b h2 hlive hr hbk)
    have key : RV A ρ (Im Γ ρ (s.set id none) w) w (.sl k (L.map f)) (.slice (some ⟨b, 0 * k, none⟩) (L.map f).length cap) := by
      refine .sl (fun j => cs.getD j undef) ⟨by simp; omega, hmx⟩ hIb (fun e he => by obtain ⟨x, _, rfl⟩ := List.mem_map.1 he; exact hk x) (fun j hj => ?_) (fun j hj => ?_) (fun j x hx => ?_)
      · have : j < cs.size := Nat.lt_of_lt_of_le hj hrow.len
        rw [cell_of_block hblk]; simp [Array.getD, this]
      · have : j < cs.size := Nat.lt_of_lt_of_le hj hrow.len
        exact hrow.atoms j _ hj (by simp [Array.getD, this])
      · have hj := (List.getElem?_eq_some_iff.1 hx).1
        have : j < cs.size := Nat.lt_of_lt_of_le hj hrow.len
        exact (hrow.vals j x _ hx (by simp [Array.getD, this])).pure (flat_bd (bdL_map hb L) x (List.mem_of_getElem? hx)) hI (fun _ _ hn => hn)
    rw [List.length_map, hl] at key
    exact key
  | refn hA hbk =>
    have : L = [] := List.eq_nil_of_length_eq_zero hl
    subst this
    exact .nils
theorem SRa.newb {n M : Nat} {l : List (Nat × AV)} {os : List (Nat × Option AObj)} {id mm : Nat} {o : AObj} (h : SRa Γ A ρ (S n l M os) a w) (hm : Γ.m = mm) (hfq : frzq mm id M os = true) (hl : (S n l M os).live id o) : ∀ b, ρ id = some b → Γ.w0.heap.size ≤ b := by
  intro b hb
  rcases h.own id o b hl hb with h1 | ⟨i, hi, h1⟩
  · exact h1
  · exfalso
    rw [hm] at hi
    have h2 := List.all_eq_true.1 hfq i (List.mem_range.2 hi)
    simp only [Bool.and_eq_true, Bool.not_eq_true'] at h2
    obtain ⟨o', ho'⟩ := Option.isSome_iff_exists.1 h2.2
    have h3 := St.look_some.1 (by rw [S_look]; exact ho' : (S n l M os).look i = some o')
    have h4 := (h.ext i (by omega)).2
    have h5 := h.inj i id o' o b h3 hl (by rw [h4]; exact h1) hb
    subst h5
    simp at h2
end
section
variable {P : Program} {Γ : Cx} {n M : Nat} {l : List (Nat × AV)} {os : List (Nat × Option AObj)} {c : Code} {Q : Exit → St → Prop} {ops : Array Oper} {rest : List Oper}
theorem wp_frzm {id k len : Nat} {α : Type} {f : α → AV} {L : List α} (j : Nat) {mm : Nat} (hm : Γ.m = mm) (h : opq n l (.tmp j) = some (.ref id k 0 len)) (ho : lookq M os id = some (.arr k (L.map f))) (hl : L.length = len) (hb : ∀ x, (f x).bd 0 = true) (hk : ∀ x, (f x).cells.length = k) (hfq : frzq mm id M os = true)
    (hw : WP P Γ c Q (S n ((j, .sl k (L.map f)) :: l) M ((id, none) :: os))) : WP P Γ c Q (S n l M os) := fun a w hs => by
  refine hw a w ?_
  obtain ⟨ρ, hs⟩ := hs
  have hj : j < n := by
    simp only [opq] at h
    cases hb : Nat.blt j n with
    | false => rw [hb] at h; simp at h
    | true => exact blt_of hb
  have hx := opq_op (M := M) (os := os) h
  simp only [St.op, S] at hx
  rw [tl_getD l hj] at hx
  have hlen : a.tmps.size = n := by rw [hs.len]; simp [S, tl_length]
  have hv : a.tmps[j]? = some (a.tmps[j]'(by omega)) := Array.getElem?_eq_getElem (by omega)
  have hrv := hs.tmp j (.ref id k 0 len) _ (by simp only [S, tl_get l hj, hx]) hv
  have h1 := hs.kill id
  have h2 := h1.put (some j) (hs.list1 (by rw [S_look]; exact ho) hl hb hk (hs.newb hm hfq (St.look_some.1 (by rw [S_look]; exact ho))) hrv)
  rw [act_same hv] at h2
  refine ⟨ρ, ?_⟩
  have e : ((S n l M os).set id none).put (some j) (.sl k (L.map f)) = S n ((j, .sl k (L.map f)) :: l) M ((id, none) :: os) := by simp [S, St.set, St.put, ol_set, tl_set]
  rw [e] at h2
  simpa [S, ol_length] using h2
theorem wp_frzom {id k len : Nat} {α : Type} {f : α → AV} {L : List α} (ido m : Nat) {k' : Nat} {cs : List AV} {mm : Nat} (hm : Γ.m = mm) (hid : Nat.beq id ido = false) (hob : lookq M os ido = some (.arr k' [.agg cs])) (h : cs[m]? = some (.ref id k 0 len)) (ho : lookq M os id = some (.arr k (L.map f))) (hl : L.length = len) (hb : ∀ x, (f x).bd 0 = true) (hk : ∀ x, (f x).cells.length = k) (hfq : frzq mm id M os = true)
    (hw : WP P Γ c Q (S n l M ((ido, some (.arr k' [.agg (cs.set m (.sl k (L.map f)))])) :: (id, none) :: os))) : WP P Γ c Q (S n l M os) := fun a w hs => by
  refine hw a w ?_
  obtain ⟨ρ, hs⟩ := hs
  have h1 := hs.kill id
  have hne : id ≠ ido := Nat.ne_of_beq_eq_false hid
  have hob' : ((S n l M os).set id none).live ido (.arr k' [.agg cs]) := by
    have := St.look_some.1 (by rw [S_look]; exact hob : (S n l M os).look ido = some (.arr k' [.agg cs]))
    simp only [St.live, St.set_objs] at this ⊢
    rw [List.getElem?_set_ne hne]; exact this
  have hwide : cs.length = k' := by
    have := hs.obj ido _ (St.look_some.1 (by rw [S_look]; exact hob))
    cases hr : ρ ido with
    | none => rw [hr] at this; obtain ⟨_, h2⟩ := this.resolve_left (by simp); cases h2
    | some b => rw [hr] at this; obtain ⟨_, _, _, _, h3, _⟩ := this; exact h3 (.agg cs) (by simp)
  have h2 := h1.recell hob' (es' := [.agg (cs.set m (.sl k (L.map f)))]) (by simp [flat, AV.cells]) (by simp [AV.cells, hwide]) (by simp) (fun j x y hx hy v hv => by
    simp only [flat, AV.cells, List.flatMap_cons, List.flatMap_nil, List.append_nil] at hx hy
    rw [List.getElem?_set] at hy
    by_cases e : m = j
    · subst e
      rw [h] at hx; injection hx with hx; subst hx
      simp only [if_true] at hy
      split at hy
      · injection hy with hy; subst hy
        exact hs.list1 (by rw [S_look]; exact ho) hl hb hk (hs.newb hm hfq (St.look_some.1 (by rw [S_look]; exact ho))) hv
      · cases hy
    · rw [if_neg e, hx] at hy; injection hy with hy; subst hy; exact hv)
  refine ⟨ρ, ?_⟩
  have e : (((S n l M os).set id none).set ido (some (.arr k' [.agg (cs.set m (.sl k (L.map f)))]))) = S n l M ((ido, some (.arr k' [.agg (cs.set m (.sl k (L.map f)))])) :: (id, none) :: os) := by simp [S, St.set, ol_set]
  rw [e] at h2
  simpa [S, ol_length] using h2
theorem wpl_frzm {id k len : Nat} {vs : List AV} (j : Nat) {mm : Nat} (hm : Γ.m = mm) (h : opq n l (.tmp j) = some (.ref id k 0 len)) (ho : lookq M os id = some (.arr k vs)) (hl : vs.length = len) (hb : bdL 0 vs = true) (hk : (vs.all fun x => Nat.beq x.cells.length k) = true) (hfq : frzq mm id M os = true)
    (hw : WPL P Γ ops rest Q (S n ((j, .sl k vs) :: l) M ((id, none) :: os))) : WPL P Γ ops rest Q (S n l M os) := fun a w hs => by
  refine hw a w ?_
  obtain ⟨ρ, hs⟩ := hs
  have hj : j < n := by
    simp only [opq] at h
    cases hb : Nat.blt j n with
    | false => rw [hb] at h; simp at h
    | true => exact blt_of hb
  have hx := opq_op (M := M) (os := os) h
  simp only [St.op, S] at hx
  rw [tl_getD l hj] at hx
  have hlen : a.tmps.size = n := by rw [hs.len]; simp [S, tl_length]
  have hv : a.tmps[j]? = some (a.tmps[j]'(by omega)) := Array.getElem?_eq_getElem (by omega)
  have hrv := hs.tmp j (.ref id k 0 len) _ (by simp only [S, tl_get l hj, hx]) hv
  have h1 := hs.kill id
  have hmap : vs.attach.map (fun x => x.1) = vs := List.attach_map_subtype_val vs
  have hlist := hs.list1 (α := {x // x ∈ vs}) (f := fun x => x.1) (L := vs.attach) (by rw [S_look, hmap]; exact ho) (by simpa using hl) (fun x => bdL_iff.1 hb x.1 x.2) (fun x => Nat.eq_of_beq_eq_true (List.all_eq_true.1 hk x.1 x.2)) (hs.newb hm hfq (St.look_some.1 (by rw [S_look]; exact ho))) hrv
  rw [hmap] at hlist
  have h2 := h1.put (some j) hlist
  rw [act_same hv] at h2
  refine ⟨ρ, ?_⟩
  have e : ((S n l M os).set id none).put (some j) (.sl k vs) = S n ((j, .sl k vs) :: l) M ((id, none) :: os) := by simp [S, St.set, St.put, ol_set, tl_set]
  rw [e] at h2
  simpa [S, ol_length] using h2
theorem sgt_u {K : St → Prop} {d t : Tmp} {ty : TypeId} {pos : String} {af : Array Edge} {op : Op} {x : AV} {j : Nat} {want b : Bool} (hd : (ops[j]?).bind (·.dst) = some t) (hv : opq n l (.tmp t) = some (.val (.bool b))) (hb : b = want) (hp : plainq n l op.operands.toList = true) (hpk : (match op with | .pick _ _ _ => false | .call _ => false | _ => true) = true) (h : Ap P n l M os [] op x)
    (hk : asemC P ops rest (S n ((d, x) :: l) M os) K) : asemC P ops (⟨some d, op, ty, pos, af, some (j, want)⟩ :: rest) (S n l M os) K := by
  subst hb
  simp only [asemC]
  refine .inl ⟨b, yielded_q hd hv, fun _ => ?_, fun h => by cases b <;> cases h⟩
  rw [hd, S_put, S_lit hv]
  have hl : (S n l M os).objs.length = M := ol_length M os
  have ha := apure_aop (P := P) (look := (S n l M os).look) (nid := M) (plainq_res hp) (by rintro c a b rfl; cases hpk) h
  have hs : (S n l M os).after (some d) (x, .none) = S n ((d, x) :: l) M os := by simp only [St.after, S_put]
  unfold execA
  split
  · rename_i c hop
    simp only at hop
    subst hop
    cases hpk
  · exact ⟨_, by rw [hl]; exact ha, by rw [hs]; exact hk⟩
theorem still_fieldAddr {a : Operand} {ty : TypeId} {f off sz : Nat} {ti : TI} [h : TIc P ty ti] (hf : ti.fields[f]? = some (off, sz)) (hz : Nat.beq sz 0 = false) : Still P (.fieldAddr ty a f) := by
  obtain ⟨fs, fd, i, h1, h2, h3, h4, h5⟩ := fields_spec h.h hf (Nat.ne_of_beq_eq_false hz)
  have hz' : ¬ sz = 0 := Nat.ne_of_beq_eq_false hz
  subst h5
  intro ρ dst ty' pos af v w w' w1 h
  have hs : ∀ x : Value, (∃ ad, x = .pointer (some ad)) ∨ (∀ w : World, (Instr.fieldAt ty x f).run P w = (stuck "an address expected (no nilCheck in front?)" : Sem Value).run P w) := by
    intro x
    cases x with
    | pointer o => cases o with
      | some ad => exact .inl ⟨ad, rfl⟩
      | none => exact .inr fun w => by simp [Instr.fieldAt, run_underlying h1, h2, Instr.sureAddr]
    | _ => exact .inr fun w => by simp [Instr.fieldAt, run_underlying h1, h2, Instr.sureAddr]
  rcases hs (ρ a) with ⟨ad, had⟩ | hst
  · simp [execOp, had, Instr.fieldAt, run_underlying h1, h2, Instr.sureAddr, fieldPlace, sizeOf, typeInfo, h4, hz'] at h ⊢
    exact h.1
  · simp only [execOp, Sem.run_bind, hst w] at h
    simp [stuck] at h
theorem sgt_pk {K : St → Prop} {d t : Tmp} {ty : TypeId} {pos : String} {af : Array Edge} {c p q : Operand} {x : AV} {j : Nat} {want b v : Bool} (hd : (ops[j]?).bind (·.dst) = some t) (hv : opq n l (.tmp t) = some (.val (.bool b))) (hb : b = want) (hc : opq n l c = some (.val (.bool v))) (hx : (if v then opq n l p else opq n l q) = some x)
    (hk : asemC P ops rest (S n ((d, x) :: l) M os) K) : asemC P ops (⟨some d, .pick c p q, ty, pos, af, some (j, want)⟩ :: rest) (S n l M os) K := by
  subst hb
  simp only [asemC]
  refine .inl ⟨b, yielded_q hd hv, fun _ => ?_, fun h => by cases b <;> cases h⟩
  rw [hd, S_put, S_lit hv]
  have hs : (S n l M os).after (some d) (x, .none) = S n ((d, x) :: l) M os := by simp only [St.after, S_put]
  unfold execA
  refine ⟨(x, .none), ?_, by rw [hs]; exact hk⟩
  simp only [aop, opq_op hc, pickA, pure']
  cases v with
  | true =>
    simp only [if_true] at hx
    rw [opq_op hx]
    split <;> simp_all
  | false =>
    simp only [Bool.false_eq_true, if_false] at hx
    rw [opq_op hx]
    split <;> simp_all
theorem retM_L {post : AV → List AObj → Prop} {m : Nat} {rs : List ResultVar} {xs : List AV} {x : AV} {os1 : List (Nat × Option AObj)} (os' : List AObj) (hr : ResL P n l M os rs xs) (hx : tupA xs = x) (hb : x.bd 0 = true) (hT : ∃ is, ToR m is (S 0 [] M os) (S 0 [] m os1)) (he : ol m os1 = os'.map some) (hp : post x os') : RetM P rs m post (S n l M os) := by
  obtain ⟨is, hT⟩ := hT
  refine ⟨x, is, os', ?_, hb, ?_, ?_, hp⟩
  · simp only [resN, hr.ok, Option.map_some, hx]
  · simp only [S, tl, List.range_zero, List.map_nil] at hT
    rw [he] at hT
    exact hT
  · have := congrArg List.length he
    rw [ol_length, List.length_map] at this
    exact this.symm
end
end Go.Lg

namespace Go.Lg
open Go.Proofs
set_option linter.unusedSimpArgs false
set_option linter.unusedVariables false
attribute [local irreducible] Ap Rq asemC WP RunD Ret Gq thenA inBlockA bodyQ noGotoA RqL RqP OpP
set_option maxHeartbeats 8000000
set_option maxRecDepth 20000
theorem rletter17_fn (c : Int) : Fn Try.prog 63 [.val (.int .u8 c)] (boolA (letB c)) := by
  refine Fn.intro (by rfl) (by kernel_rfl) Try.func63 rfl rfl Try.ntmps63 (by exact Nat.le_of_ble_eq_true rfl) ?_; intro Γ hm
  (repeat' (first | refine WP.seq ?_ | refine go_n ?_ | refine WP.ret ?_ | refine bo_r ?_ | (refine WP.regionC (id := 0) ?_; (refine su (ap_assign (rq_p rfl rfl)) ?_); refine asemC_end ?_) | (refine WP.regionC (id := 1) ?_; (refine su (ap_move (rq_p rfl rfl)) ?_); (refine su (ap_geq (rq_p rfl rfl) (rq_p rfl rfl)) ?_); (refine su (ap_move (rq_p rfl rfl)) ?_); (refine sg (gq_vt rfl rfl) (fun he => ap_move (rq_p rfl rfl)) ?_); (refine sg (gq_vt rfl rfl) (fun he => ap_leq (rq_c rfl rfl) (rq_p rfl rfl)) ?_); (refine su (ap_and (rq_p rfl rfl) (rq_c rfl rfl)) ?_); (refine su (ap_move (rq_p rfl rfl)) ?_); (refine sg (gq_vf rfl rfl) (fun he => ap_move (rq_p rfl rfl)) ?_); (refine sg (gq_vf rfl rfl) (fun he => ap_geq (rq_c rfl rfl) (rq_p rfl rfl)) ?_); (refine sg (gq_vf rfl rfl) (fun he => ap_move (rq_c rfl rfl)) ?_); (refine sg (gq_ct rfl rfl) (fun he => ap_move (rq_p rfl rfl)) ?_); (refine sg (gq_ct rfl rfl) (fun he => ap_leq (rq_c rfl rfl) (rq_p rfl rfl)) ?_); (refine sg (gq_vf rfl rfl) (fun he => ap_and (rq_c rfl rfl) (rq_c rfl rfl)) ?_); (refine su (ap_or (rq_p rfl rfl) (rq_c rfl rfl)) ?_); (refine su (ap_assign (rq_p rfl rfl)) ?_); refine asemC_end ?_) | exact ret_eq (by rfl) (by rfl) rfl))
theorem rdigit17_fn (c : Int) : Fn Try.prog 64 [.val (.int .u8 c)] (boolA (digB c)) := by
  refine Fn.intro (by rfl) (by kernel_rfl) Try.func64 rfl rfl Try.ntmps64 (by exact Nat.le_of_ble_eq_true rfl) ?_; intro Γ hm
  (repeat' (first | refine WP.seq ?_ | refine go_n ?_ | refine WP.ret ?_ | refine bo_r ?_ | (refine WP.regionC (id := 0) ?_; (refine su (ap_assign (rq_p rfl rfl)) ?_); refine asemC_end ?_) | (refine WP.regionC (id := 1) ?_; (refine su (ap_move (rq_p rfl rfl)) ?_); (refine su (ap_geq (rq_p rfl rfl) (rq_p rfl rfl)) ?_); (refine su (ap_move (rq_p rfl rfl)) ?_); (refine sg (gq_vt rfl rfl) (fun he => ap_move (rq_p rfl rfl)) ?_); (refine sg (gq_vt rfl rfl) (fun he => ap_leq (rq_c rfl rfl) (rq_p rfl rfl)) ?_); (refine su (ap_and (rq_p rfl rfl) (rq_c rfl rfl)) ?_); (refine su (ap_assign (rq_p rfl rfl)) ?_); refine asemC_end ?_) | exact ret_eq (by rfl) (by rfl) rfl))
def blkB (c : Int) : Bool := decide (c = 32) || decide (c = 9) || decide (c = 13) || decide (c = 10)
theorem rblank17_fn (c : Int) : Fn Try.prog 62 [.val (.int .u8 c)] (boolA (blkB c)) := by
  refine Fn.intro (by rfl) (by kernel_rfl) Try.func62 rfl rfl Try.ntmps62 (by exact Nat.le_of_ble_eq_true rfl) ?_; intro Γ hm
  (repeat' (first | refine WP.seq ?_ | refine go_n ?_ | refine WP.ret ?_ | refine bo_r ?_ | (refine WP.regionC (id := 0) ?_; (refine su (ap_assign (rq_p rfl rfl)) ?_); refine asemC_end ?_) | (refine WP.regionC (id := 1) ?_; (refine su (ap_move (rq_p rfl rfl)) ?_); (refine su (ap_eql (rq_p rfl rfl) (rq_p rfl rfl)) ?_); (refine su (ap_move (rq_p rfl rfl)) ?_); (refine sg (gq_vf rfl rfl) (fun he => ap_move (rq_p rfl rfl)) ?_); (refine sg (gq_vf rfl rfl) (fun he => ap_eql (rq_c rfl rfl) (rq_p rfl rfl)) ?_); (refine su (ap_or (rq_p rfl rfl) (rq_c rfl rfl)) ?_); (refine su (ap_move (rq_p rfl rfl)) ?_); (refine sg (gq_vf rfl rfl) (fun he => ap_move (rq_p rfl rfl)) ?_); (refine sg (gq_vf rfl rfl) (fun he => ap_eql (rq_c rfl rfl) (rq_p rfl rfl)) ?_); (refine su (ap_or (rq_p rfl rfl) (rq_c rfl rfl)) ?_); (refine su (ap_move (rq_p rfl rfl)) ?_); (refine sg (gq_vf rfl rfl) (fun he => ap_move (rq_p rfl rfl)) ?_); (refine sg (gq_vf rfl rfl) (fun he => ap_eql (rq_c rfl rfl) (rq_p rfl rfl)) ?_); (refine su (ap_or (rq_p rfl rfl) (rq_c rfl rfl)) ?_); (refine su (ap_assign (rq_p rfl rfl)) ?_); refine asemC_end ?_) | exact ret_eq (by rfl) (by rfl) rfl))
def psR (s : ByteArray) (a n : Nat) (b : Bool) : AObj := .arr 4 [.agg [strA s, intA (a : Nat), intA (n : Nat), boolA b]]
theorem text17_fn (s : ByteArray) (hs : s.size ≤ 100000) (a n : Nat) (h : a + n ≤ s.size) (b : Bool) : FnO Try.prog 34 [.ptr 0 4 0 0] [psR s a n b] (strA (s.extract a (a + n))) [some (psR s a n b)] := by
  have e : s.extract a (a + n) = s.extract (a : Int).toNat ((a : Int) + (n : Int)).toNat := by congr 1
  rw [e]
  unfold psR
  refine FnO.intro (by exact Nat.le_of_ble_eq_true rfl) (by rfl) (by kernel_rfl) Try.func34 rfl rfl Try.ntmps34 (by exact Nat.le_of_ble_eq_true rfl) ?_; intro Γ hm
  (repeat' (first | refine WP.seq ?_ | refine go_n ?_ | refine WP.ret ?_ | refine bo_r ?_ | (refine WP.regionC (id := 0) ?_; (refine su (ap_assign (rq_p rfl rfl)) ?_); refine asemC_end ?_) | (refine wp_draw (id := 1) 19 mixed (by kernel_rfl) (by kernel_rfl) rfl ?_ <;> (refine rd_u (by rfl) (by rfl) (ap_move (rq_p rfl rfl)) ?_) <;> (refine rd_u (by rfl) (by rfl) (ap_nilc (rq_p rfl rfl)) ?_) <;> (refine rd_u (by rfl) (by rfl) (ap_field_p (rq_p rfl rfl) (by rfl) (by rfl)) ?_) <;> (refine rd_u (by rfl) (by rfl) (ap_load_p (rq_p rfl rfl) (by rfl) (by rfl) (by rfl)) ?_) <;> (refine rd_u (by rfl) (by rfl) (ap_move (rq_p rfl rfl)) ?_) <;> (refine rd_u (by rfl) (by rfl) (ap_nilc (rq_p rfl rfl)) ?_) <;> (refine rd_u (by rfl) (by rfl) (ap_field_p (rq_p rfl rfl) (by rfl) (by rfl)) ?_) <;> (refine rd_u (by rfl) (by rfl) (ap_load_p (rq_p rfl rfl) (by rfl) (by rfl) (by rfl)) ?_) <;> (refine rd_u (by rfl) (by rfl) (ap_move (rq_p rfl rfl)) ?_) <;> (refine rd_u (by rfl) (by rfl) (ap_nilc (rq_p rfl rfl)) ?_) <;> (refine rd_u (by rfl) (by rfl) (ap_field_p (rq_p rfl rfl) (by rfl) (by rfl)) ?_) <;> (refine rd_u (by rfl) (by rfl) (ap_load_p (rq_p rfl rfl) (by rfl) (by rfl) (by rfl)) ?_) <;> (refine rd_u (by rfl) (by rfl) (ap_move (rq_p rfl rfl)) ?_) <;> (refine rd_u (by rfl) (by rfl) (ap_nilc (rq_p rfl rfl)) ?_) <;> (refine rd_u (by rfl) (by rfl) (ap_field_p (rq_p rfl rfl) (by rfl) (by rfl)) ?_) <;> (refine rd_u (by rfl) (by rfl) (ap_load_p (rq_p rfl rfl) (by rfl) (by rfl) (by rfl)) ?_) <;> (refine rd_u (by rfl) (by rfl) (ap_add (rq_p rfl rfl) (rq_p rfl rfl) (by exact inr_i64_of (by omega))) ?_) <;> (refine rd_u (by rfl) (by rfl) (ap_slice_s (by rfl) (rq_p rfl rfl) (by exact bq_some (rq_p rfl rfl)) (by exact bq_some (rq_p rfl rfl)) (by omega)) ?_) <;> (refine rd_u (by rfl) (by rfl) (ap_assign (rq_p rfl rfl)) ?_) <;> (refine rd_end (by kernel_rfl) ?_))))
  refine retO_L (x := strA (s.extract (a : Int).toNat ((a : Int) + (n : Int)).toNat)) (k := 1) (os1 := [(0, some (psR s a n b))]) (.tmp (by rfl) .nil) (by rfl) ⟨[0], ToR.S rfl (by repeat' (first | exact rt_nil | refine rt_e (by rfl) (by rfl) ?_)) (by repeat' (first | exact ro_nil | refine ro_e (by rfl) (by rfl) ?_)) (by rfl) (by rfl) (by rfl) (by (simp [bdT, AV.bd, bdL, bdL_append]; done)) (by repeat' (first | exact True.intro | exact rfl | refine And.intro ?_ ?_)) (by exact Nat.le_of_ble_eq_true rfl)⟩ (by rfl)
end Go.Lg

namespace Go.Lg
open Go.Proofs
set_option linter.unusedSimpArgs false
set_option linter.unusedVariables false
attribute [local irreducible] Ap Rq asemC WP RunD Ret Gq thenA inBlockA bodyQ noGotoA RqL RqP OpP
set_option maxHeartbeats 4000000
set_option maxRecDepth 20000
attribute [local simp] tokA toks_bd
theorem bat_cons {s : ByteArray} {k : Nat} (hk : k < s.size) : ∃ (c : UInt8) (r : Tx), (bl s).drop k = c :: r ∧ bAt s k = (c.toNat : Int) ∧ r = (bl s).drop (k + 1) := by
  have hk' : k < (bl s).length := by rw [bl_len]; exact hk
  refine ⟨(bl s)[k]'hk', (bl s).drop (k + 1), List.drop_eq_getElem_cons hk', ?_, rfl⟩
  unfold bAt
  show (((bl s).getD k 0).toNat : Int) = _
  simp [List.getD, hk']
theorem u8eq (c : UInt8) (n : Nat) (hn : n < 256) : ((c.toNat : Int) = n) ↔ c = UInt8.ofNat n := by
  constructor
  · intro h
    have h' : c.toNat = n := by omega
    apply UInt8.toNat_inj.1
    rw [h', UInt8.toNat_ofNat']
    omega
  · rintro rfl
    rw [UInt8.toNat_ofNat']
    omega
theorem extract_tx (s : ByteArray) (a b : Nat) : s.extract a b = tx (((bl s).drop a).take (b - a)) := by
  apply ba_ext
  show (s.extract a b).data.toList = _
  rw [ByteArray.data_extract, Array.toList_extract]
  simp [List.extract_eq_take_drop, bl, tx]
theorem isB_bat {s : ByteArray} {k : Nat} {c : UInt8} (hb : bAt s k = (c.toNat : Int)) : isB c = (decide (bAt s k = 32) || decide (bAt s k = 9) || decide (bAt s k = 13) || decide (bAt s k = 10)) := by
  have e : ∀ n : Nat, n < 256 → decide (bAt s k = (n : Int)) = decide (c = UInt8.ofNat n) := fun n hn => by
    rw [hb]
    have := u8eq c n hn
    simp only [this]
  have e1 := e 32 (by decide); have e2 := e 9 (by decide); have e3 := e 13 (by decide); have e4 := e 10 (by decide)
  simp only [Int.cast_ofNat_Int] at e1 e2 e3 e4
  rw [e1, e2, e3, e4]
  rfl
theorem spanN_r {p : Int → Bool} {s : ByteArray} {k : Nat} {r : Tx} (hr : r = (bl s).drop (k + 1)) : spanN p s (k + 1) = (r.takeWhile fun c => p (c.toNat : Int)).length := by rw [hr]; rfl
theorem drop_add {s : ByteArray} {k : Nat} {l : Tx} (h : (bl s).drop k = l) (n : Nat) : (bl s).drop (k + n) = l.drop n := by rw [← h, List.drop_drop]
theorem lex_fn (s : ByteArray) (hs : s.size ≤ 100000) : Fn Try.prog 19 [strA s] (.sl 4 ((lexL (bl s) 0).map tokA)) := by
  refine Fn.intro (by simp [AV.bd, bdL, bdL_append]) (by kernel_rfl) Try.func19 rfl rfl Try.ntmps19 (by exact Nat.le_of_ble_eq_true rfl) ?_; intro Γ hm
  (repeat' (first | refine WP.seq ?_ | refine WP.block ?_ | refine go_n ?_ | (refine WP.regionC (id := 0) ?_; (refine su (ap_assign (rq_p rfl rfl)) ?_); refine asemC_end ?_) | (refine WP.regionC (id := 1) ?_; (refine su (ap_assign (rq_p rfl rfl)) ?_); refine asemC_end ?_) | (refine WP.regionC (id := 2) ?_; (refine su (ap_assign (rq_p rfl rfl)) ?_); refine asemC_end ?_)))
  refine wp_nil 3 4 rfl ?_
  refine wp_loop (fun (σ : List (Nat × Tx) × Nat) => σ.2 ≤ s.size ∧ σ.1.length ≤ σ.2 ∧ σ.1 ++ lexL ((bl s).drop σ.2) σ.2 = lexL (bl s) 0) (fun σ => s.size - σ.2)
    (fun σ => (S 72 [(0, strA s), (3, .ref 0 4 0 σ.1.length), (4, intA (σ.2 : Nat))] 1 [(0, some (.arr 4 (σ.1.map tokA)))])) ([], 0) ⟨[0], ToR.S rfl (by repeat' (first | exact rt_nil | refine rt_r (by rfl) (by rfl) ?_ | refine rt_e (by rfl) (by rfl) ?_)) (by repeat' (first | exact ro_nil | refine ro_e (by rfl) (by rfl) ?_)) (by rfl) (by (rw [hm]; exact rfl)) (by rfl) (by (simp [bdT, AV.bd, bdL, bdL_append]; done)) (by repeat' (first | exact True.intro | exact rfl | refine And.intro ?_ ?_)) (by (rw [hm]; exact Nat.le_of_ble_eq_true rfl))⟩ ⟨Nat.zero_le _, Nat.le_refl _, rfl⟩ ?_
  rintro ⟨acc, k⟩ ⟨hk, ha, hl⟩
  simp only at hk ha hl ⊢
  by_cases hlt : k < s.size
  · obtain ⟨c, r, hd, hb, hr⟩ := bat_cons hlt
    rw [hd, lexL_cons] at hl
    have hB := isB_bat hb
    have h35 : (bAt s k = 35) ↔ c = 35 := by rw [hb]; exact u8eq c 35 (by decide)
    have hL : letB (bAt s k) = isL c := by rw [hb]; rfl
    have hD : digB (bAt s k) = isD c := by rw [hb]; rfl
    cases hBc : isB c with
    | true =>
      rw [hBc] at hB hl
      simp only [if_true] at hl
      (repeat' (first | refine WP.seq ?_ | refine WP.block ?_ | refine go_n ?_ | refine WP.skip ?_ | refine WP.exit ?_ | refine go_x ?_ | refine bl_x ?_ | refine bl_y (by rfl) ?_ | (refine wp_cond (by rfl) (fun hc => ?_) (fun hc => ?_) <;> (try simp only [sB, ne_eq, reduceCtorEq] at hc) <;> (try (exfalso; omega))) | (refine WP.regionC (id := 3) ?_; (refine su (ap_move (rq_p rfl rfl)) ?_); (refine su (ap_move (rq_p rfl rfl)) ?_); (refine su (ap_len_str (by rfl) (rq_p rfl rfl)) ?_); (refine su (ap_lss (rq_p rfl rfl) (rq_p rfl rfl)) ?_); refine asemC_end ?_) | (refine WP.regionC (id := 4) ?_; (refine su (ap_move (rq_p rfl rfl)) ?_); (refine su (ap_build (RqP.cons (rq_p rfl rfl) (RqP.cons (rq_p rfl rfl) (RqP.nil))) (by rfl)) ?_); (refine se_alloc (by rfl) ?_); (refine se_store_b (by rfl) (by rfl) (by rfl) (by rfl) ?_); refine asemC_end ?_) | (refine WP.regionC (id := 5) ?_; (refine su (ap_move (rq_p rfl rfl)) ?_); (refine su (ap_add (rq_p rfl rfl) (rq_p rfl rfl) (by exact inr_i64_of (by omega))) ?_); (refine su (ap_assign (rq_p rfl rfl)) ?_); refine asemC_end ?_) | (refine WP.regionC (id := 6) ?_; (refine su (ap_move (rq_p rfl rfl)) ?_); (refine su (ap_move (rq_p rfl rfl)) ?_); (refine su (ap_sidx_n (rq_p rfl rfl) (rq_p rfl rfl) (by rfl) (by omega)) ?_); (refine su (ap_assign (rq_p rfl rfl)) ?_); refine asemC_end ?_) | (refine WP.regionC (id := 7) ?_; (refine su (ap_move (rq_p rfl rfl)) ?_); (refine su (ap_eql (rq_p rfl rfl) (rq_p rfl rfl)) ?_); (refine su (ap_move (rq_p rfl rfl)) ?_); (refine sg (gq_vf rfl rfl) (fun he => ap_move (rq_p rfl rfl)) ?_); (refine sg (gq_vf rfl rfl) (fun he => ap_eql (rq_c rfl rfl) (rq_p rfl rfl)) ?_); (refine su (ap_or (rq_p rfl rfl) (rq_c rfl rfl)) ?_); (refine su (ap_move (rq_p rfl rfl)) ?_); (refine sg (gq_vf rfl rfl) (fun he => ap_move (rq_p rfl rfl)) ?_); (refine sg (gq_vf rfl rfl) (fun he => ap_eql (rq_c rfl rfl) (rq_p rfl rfl)) ?_); (refine su (ap_or (rq_p rfl rfl) (rq_c rfl rfl)) ?_); (refine su (ap_move (rq_p rfl rfl)) ?_); (refine sg (gq_vf rfl rfl) (fun he => ap_move (rq_p rfl rfl)) ?_); (refine sg (gq_vf rfl rfl) (fun he => ap_eql (rq_c rfl rfl) (rq_p rfl rfl)) ?_); (refine su (ap_or (rq_p rfl rfl) (rq_c rfl rfl)) ?_); (refine su (ap_assign (rq_p rfl rfl)) ?_); refine asemC_end ?_) | (refine WP.regionC (id := 8) ?_; (refine su (ap_move (rq_p rfl rfl)) ?_); (refine su (ap_add (rq_p rfl rfl) (rq_p rfl rfl) (by exact inr_i64_of (by omega))) ?_); (refine su (ap_assign (rq_p rfl rfl)) ?_); refine asemC_end ?_)))
      · refine ⟨(acc, k + 1), ⟨by simp only; omega, by simp only; omega, by simp only; omega, ?_⟩, ⟨[0], ToR.S rfl (by repeat' (first | exact rt_nil | refine rt_r (by rfl) (by rfl) ?_ | refine rt_e (by rfl) (by rfl) ?_)) (by repeat' (first | exact ro_nil | refine ro_p (by rfl) (by first | exact rfl | fail) (by first | exact bdL_map (fun _ => by exact rfl) _ | fail) ?_)) (by rfl) (by (rw [hm]; exact rfl)) (by rfl) (by (simp [bdT, AV.bd, bdL, bdL_append]; done)) (by repeat' (first | exact True.intro | refine And.intro ?_ ?_ | exact bdL_map (fun _ => by exact rfl) _)) (by (rw [hm]; exact Nat.le_of_ble_eq_true rfl))⟩⟩
        simp only
        rw [← hr]; exact hl
      · exfalso; simp_all
    | false =>
      rw [hBc] at hB hl
      simp only [Bool.false_eq_true, if_false] at hl
      by_cases hc35 : c = 35
      · rw [if_pos hc35] at hl
        have h35' := h35.2 hc35
        have hp1 : spanN (fun c => !decide (c = 10)) s k = comN r + 1 := by
          rw [spanN_step hlt (by rw [h35']; rfl), spanN_r hr]
          unfold comN
          congr 2
          congr 1
          funext d
          have := u8eq d 10 (by decide)
          simp only [Int.cast_ofNat_Int] at this
          simp only [this]
          rfl
        have hle := spanN_le (fun c => !decide (c = 10)) s k hk
        (repeat' (first | refine WP.seq ?_ | refine WP.block ?_ | refine go_n ?_ | refine WP.skip ?_ | refine WP.exit ?_ | refine go_x ?_ | refine bl_x ?_ | refine bl_y (by rfl) ?_ | (refine wp_cond (by rfl) (fun hc => ?_) (fun hc => ?_) <;> (try simp only [sB, ne_eq, reduceCtorEq] at hc) <;> (try (exfalso; omega))) | (refine WP.regionC (id := 3) ?_; (refine su (ap_move (rq_p rfl rfl)) ?_); (refine su (ap_move (rq_p rfl rfl)) ?_); (refine su (ap_len_str (by rfl) (rq_p rfl rfl)) ?_); (refine su (ap_lss (rq_p rfl rfl) (rq_p rfl rfl)) ?_); refine asemC_end ?_) | (refine WP.regionC (id := 4) ?_; (refine su (ap_move (rq_p rfl rfl)) ?_); (refine su (ap_build (RqP.cons (rq_p rfl rfl) (RqP.cons (rq_p rfl rfl) (RqP.nil))) (by rfl)) ?_); (refine se_alloc (by rfl) ?_); (refine se_store_b (by rfl) (by rfl) (by rfl) (by rfl) ?_); refine asemC_end ?_) | (refine WP.regionC (id := 5) ?_; (refine su (ap_move (rq_p rfl rfl)) ?_); (refine su (ap_add (rq_p rfl rfl) (rq_p rfl rfl) (by exact inr_i64_of (by omega))) ?_); (refine su (ap_assign (rq_p rfl rfl)) ?_); refine asemC_end ?_) | (refine WP.regionC (id := 6) ?_; (refine su (ap_move (rq_p rfl rfl)) ?_); (refine su (ap_move (rq_p rfl rfl)) ?_); (refine su (ap_sidx_n (rq_p rfl rfl) (rq_p rfl rfl) (by rfl) (by omega)) ?_); (refine su (ap_assign (rq_p rfl rfl)) ?_); refine asemC_end ?_) | (refine WP.regionC (id := 7) ?_; (refine su (ap_move (rq_p rfl rfl)) ?_); (refine su (ap_eql (rq_p rfl rfl) (rq_p rfl rfl)) ?_); (refine su (ap_move (rq_p rfl rfl)) ?_); (refine sg (gq_vf rfl rfl) (fun he => ap_move (rq_p rfl rfl)) ?_); (refine sg (gq_vf rfl rfl) (fun he => ap_eql (rq_c rfl rfl) (rq_p rfl rfl)) ?_); (refine su (ap_or (rq_p rfl rfl) (rq_c rfl rfl)) ?_); (refine su (ap_move (rq_p rfl rfl)) ?_); (refine sg (gq_vf rfl rfl) (fun he => ap_move (rq_p rfl rfl)) ?_); (refine sg (gq_vf rfl rfl) (fun he => ap_eql (rq_c rfl rfl) (rq_p rfl rfl)) ?_); (refine su (ap_or (rq_p rfl rfl) (rq_c rfl rfl)) ?_); (refine su (ap_move (rq_p rfl rfl)) ?_); (refine sg (gq_vf rfl rfl) (fun he => ap_move (rq_p rfl rfl)) ?_); (refine sg (gq_vf rfl rfl) (fun he => ap_eql (rq_c rfl rfl) (rq_p rfl rfl)) ?_); (refine su (ap_or (rq_p rfl rfl) (rq_c rfl rfl)) ?_); (refine su (ap_assign (rq_p rfl rfl)) ?_); refine asemC_end ?_) | (refine WP.regionC (id := 9) ?_; (refine su (ap_move (rq_p rfl rfl)) ?_); (refine su (ap_eql (rq_p rfl rfl) (rq_p rfl rfl)) ?_); (refine su (ap_assign (rq_p rfl rfl)) ?_); refine asemC_end ?_) | (refine WP.regionC (id := 10) ?_; (refine su (ap_move (rq_p rfl rfl)) ?_); (refine su (ap_move (rq_p rfl rfl)) ?_); (refine sc_p rfl rfl (by first | ((repeat' first | exact SubL.nil | refine SubL.cons ?_ ?_ | exact Sub.refl); done) | fail) (by first | (simp [bdL, bdL_append, AV.bd]; done) | fail) (span_fn _ _ lex1_fn s (by omega) k hk) ?_); (refine su (ap_assign (rq_p rfl rfl)) ?_); refine asemC_end ?_)))
        · refine ⟨(acc, k + spanN (fun c => !decide (c = 10)) s k), ⟨by simp only; omega, by simp only; omega, by simp only; omega, ?_⟩, ⟨[0], ToR.S rfl (by repeat' (first | exact rt_nil | refine rt_r (by rfl) (by rfl) ?_ | refine rt_e (by rfl) (by rfl) ?_)) (by repeat' (first | exact ro_nil | refine ro_p (by rfl) (by first | exact rfl | fail) (by first | exact bdL_map (fun _ => by exact rfl) _ | fail) ?_)) (by rfl) (by (rw [hm]; exact rfl)) (by rfl) (by (simp [bdT, AV.bd, bdL, bdL_append]; done)) (by repeat' (first | exact True.intro | refine And.intro ?_ ?_ | exact bdL_map (fun _ => by exact rfl) _)) (by (rw [hm]; exact Nat.le_of_ble_eq_true rfl))⟩⟩
          simp only
          rw [drop_add hd, hp1]
          have : (c :: r).drop (comN r + 1) = r.drop (comN r) := rfl
          rw [this]
          rw [show k + (comN r + 1) = k + 1 + comN r by omega]
          exact hl
      · rw [if_neg hc35] at hl
        have h35' : ¬ bAt s k = 35 := fun h => hc35 (h35.1 h)
        have htp := tokN_pos c r
        cases hLc : isL c with
        | true =>
          have hsp : spanN wB s k = tokN (c :: r) := by
            rw [spanN_step hlt (by unfold wB; rw [hL, hLc]; rfl), spanN_r hr]
            simp only [tokN, hLc, if_true]
            rw [Nat.add_comm]
            congr 3
            funext d
            have := u8eq d 95 (by decide)
            simp only [Int.cast_ofNat_Int] at this
            simp only [wB, this, isW]
            rfl
          have hle := spanN_le wB s k hk
          have hta : (c :: r).take (tokN (c :: r)) = c :: r.take (tokN (c :: r) - 1) := by
            obtain ⟨m, hm⟩ : ∃ m, tokN (c :: r) = m + 1 := ⟨_, (Nat.sub_add_cancel htp).symm⟩
            rw [hm]; rfl
          have hnD : isD c = false := by
            cases hq : isD c with
            | false => rfl
            | true =>
              simp only [isL, letB, isD, digB, Bool.or_eq_true, Bool.and_eq_true, decide_eq_true_eq] at hLc hq
              omega
          have htW : tkW ((c :: r).take (tokN (c :: r))) = true := by rw [hta]; exact hLc
          have htN : tkNum ((c :: r).take (tokN (c :: r))) = -1 := by rw [hta]; simp only [tkNum, isNum, hnD]; rfl
          have hnext : s.size - (k + spanN wB s k) < s.size - k ∧ k + spanN wB s k ≤ s.size ∧ (acc ++ [(k, (c :: r).take (tokN (c :: r)))]).length ≤ k + spanN wB s k ∧ (acc ++ [(k, (c :: r).take (tokN (c :: r)))]) ++ lexL ((bl s).drop (k + spanN wB s k)) (k + spanN wB s k) = lexL (bl s) 0 := by
            refine ⟨by omega, by omega, by simp only [List.length_append, List.length_cons, List.length_nil]; omega, ?_⟩
            rw [drop_add hd, hsp, ← hl]
            simp
          have htok : tokA (k, (c :: r).take (tokN (c :: r))) = .agg [intA (k : Nat), strA (tx ((c :: r).take (tokN (c :: r)))), boolA true, intA (-1)] := by
            simp only [tokA, htW, htN]
          (repeat' (first | refine WP.seq ?_ | refine WP.block ?_ | refine go_n ?_ | refine WP.skip ?_ | refine bl_n ?_ | (refine wp_cond (by rfl) (fun hc => ?_) (fun hc => ?_) <;> (try simp only [sB, ne_eq, reduceCtorEq] at hc) <;> (try (exfalso; omega))) | (refine WP.regionC (id := 3) ?_; (refine su (ap_move (rq_p rfl rfl)) ?_); (refine su (ap_move (rq_p rfl rfl)) ?_); (refine su (ap_len_str (by rfl) (rq_p rfl rfl)) ?_); (refine su (ap_lss (rq_p rfl rfl) (rq_p rfl rfl)) ?_); refine asemC_end ?_) | (refine WP.regionC (id := 4) ?_; (refine su (ap_move (rq_p rfl rfl)) ?_); (refine su (ap_build (RqP.cons (rq_p rfl rfl) (RqP.cons (rq_p rfl rfl) (RqP.nil))) (by rfl)) ?_); (refine se_alloc (by rfl) ?_); (refine se_store_b (by rfl) (by rfl) (by rfl) (by rfl) ?_); refine asemC_end ?_) | (refine WP.regionC (id := 5) ?_; (refine su (ap_move (rq_p rfl rfl)) ?_); (refine su (ap_add (rq_p rfl rfl) (rq_p rfl rfl) (by exact inr_i64_of (by omega))) ?_); (refine su (ap_assign (rq_p rfl rfl)) ?_); refine asemC_end ?_) | (refine WP.regionC (id := 6) ?_; (refine su (ap_move (rq_p rfl rfl)) ?_); (refine su (ap_move (rq_p rfl rfl)) ?_); (refine su (ap_sidx_n (rq_p rfl rfl) (rq_p rfl rfl) (by rfl) (by omega)) ?_); (refine su (ap_assign (rq_p rfl rfl)) ?_); refine asemC_end ?_) | (refine WP.regionC (id := 7) ?_; (refine su (ap_move (rq_p rfl rfl)) ?_); (refine su (ap_eql (rq_p rfl rfl) (rq_p rfl rfl)) ?_); (refine su (ap_move (rq_p rfl rfl)) ?_); (refine sg (gq_vf rfl rfl) (fun he => ap_move (rq_p rfl rfl)) ?_); (refine sg (gq_vf rfl rfl) (fun he => ap_eql (rq_c rfl rfl) (rq_p rfl rfl)) ?_); (refine su (ap_or (rq_p rfl rfl) (rq_c rfl rfl)) ?_); (refine su (ap_move (rq_p rfl rfl)) ?_); (refine sg (gq_vf rfl rfl) (fun he => ap_move (rq_p rfl rfl)) ?_); (refine sg (gq_vf rfl rfl) (fun he => ap_eql (rq_c rfl rfl) (rq_p rfl rfl)) ?_); (refine su (ap_or (rq_p rfl rfl) (rq_c rfl rfl)) ?_); (refine su (ap_move (rq_p rfl rfl)) ?_); (refine sg (gq_vf rfl rfl) (fun he => ap_move (rq_p rfl rfl)) ?_); (refine sg (gq_vf rfl rfl) (fun he => ap_eql (rq_c rfl rfl) (rq_p rfl rfl)) ?_); (refine su (ap_or (rq_p rfl rfl) (rq_c rfl rfl)) ?_); (refine su (ap_assign (rq_p rfl rfl)) ?_); refine asemC_end ?_) | (refine WP.regionC (id := 9) ?_; (refine su (ap_move (rq_p rfl rfl)) ?_); (refine su (ap_eql (rq_p rfl rfl) (rq_p rfl rfl)) ?_); (refine su (ap_assign (rq_p rfl rfl)) ?_); refine asemC_end ?_) | (refine WP.regionC (id := 11) ?_; (refine su (ap_move (rq_p rfl rfl)) ?_); (refine sc_p rfl rfl (by first | ((repeat' first | exact SubL.nil | refine SubL.cons ?_ ?_ | exact Sub.refl); done) | fail) (by first | (simp [bdL, bdL_append, AV.bd]; done) | fail) (gpletter_fn _) ?_); (refine su (ap_assign (rq_p rfl rfl)) ?_); refine asemC_end ?_) | (refine WP.regionC (id := 12) ?_; (refine su (ap_move (rq_p rfl rfl)) ?_); (refine su (ap_move (rq_p rfl rfl)) ?_); (refine sc_p rfl rfl (by first | ((repeat' first | exact SubL.nil | refine SubL.cons ?_ ?_ | exact Sub.refl); done) | fail) (by first | (simp [bdL, bdL_append, AV.bd]; done) | fail) (span_fn _ wB lex2_fn s (by omega) k hk) ?_); (refine su (ap_assign (rq_p rfl rfl)) ?_); refine asemC_end ?_) | (refine WP.regionC (id := 13) ?_; (refine su (ap_field_p (rq_p rfl rfl) (by rfl) (by rfl)) ?_); (refine se_store_b (by rfl) (by rfl) (by rfl) (by rfl) ?_); refine asemC_end ?_) | (refine WP.regionC (id := 17) ?_; (refine su (ap_move (rq_p rfl rfl)) ?_); (refine su (ap_move (rq_p rfl rfl)) ?_); (refine su (ap_move (rq_p rfl rfl)) ?_); (refine su (ap_slice_s (by rfl) (rq_p rfl rfl) (by exact bq_some (rq_p rfl rfl)) (by exact bq_some (rq_p rfl rfl)) (by omega)) ?_); (refine su (ap_field_p (rq_p rfl rfl) (by rfl) (by rfl)) ?_); (refine se_store_b (by rfl) (by rfl) (by rfl) (by rfl) ?_); refine asemC_end ?_)))
          · exfalso; simp_all
          · skip
            have hx : s.extract (k : Int).toNat ((k + spanN wB s k : Nat) : Int).toNat = tx ((c :: r).take (tokN (c :: r))) := by
              rw [extract_tx]
              simp only [Int.toNat_natCast]
              rw [hd, show k + spanN wB s k - k = tokN (c :: r) by omega]
            rw [hx]
            refine wp_st (S 72 [(0, strA s), (3, .ref 0 4 0 acc.length), (4, intA (k : Nat)), (5, .ptr 1 4 0 0), (6, intA ((k + spanN wB s k : Nat) : Int))] 2 [(0, some (.arr 4 (acc.map tokA))), (1, some (.arr 4 [.agg [intA (k : Nat), strA (tx ((c :: r).take (tokN (c :: r)))), boolA true, intA (-1)]]))]) ⟨[0, 1], ToR.S rfl (by repeat' (first | exact rt_nil | refine rt_r (by rfl) (by rfl) ?_ | refine rt_t (by rfl) (by rfl) ?_ | refine rt_e (by rfl) (by rfl) ?_)) (by repeat' (first | exact ro_nil | refine ro_e (by rfl) (by rfl) ?_ | refine ro_p (by rfl) (by first | exact rfl | fail) (by first | exact bdL_map (fun _ => by exact rfl) _ | fail) ?_)) (by rfl) (by (rw [hm]; exact rfl)) (by rfl) (by (simp [bdT, AV.bd, bdL, bdL_append]; done)) (by repeat' (first | exact True.intro | exact rfl | refine And.intro ?_ ?_ | exact bdL_map (fun _ => by exact rfl) _)) (by (rw [hm]; exact Nat.le_of_ble_eq_true rfl))⟩ ?_
            rw [← htok]
            (repeat' (first | refine go_n ?_ | refine bl_n ?_ | (refine WP.regionC (id := 18) ?_; (refine su (ap_move (rq_p rfl rfl)) ?_); (refine su (ap_load_pw (rq_p rfl rfl) (by rfl) (by rfl) (by rfl)) ?_); (refine se_lit (OpP.cons (by rfl) (OpP.nil)) (by rfl) (by rfl) (by rfl) (by rfl) (by rfl) (by rfl) ?_); (refine se_app1 (by rfl) (by rfl) (by rfl) (by rfl) (by rfl) (by rfl) (by rfl) (by rfl) (by omega) ?_); (refine su (ap_assign (rq_p rfl rfl)) ?_); refine asemC_end ?_) | (refine WP.regionC (id := 19) ?_; (refine su (ap_move (rq_p rfl rfl)) ?_); (refine su (ap_assign (rq_p rfl rfl)) ?_); refine asemC_end ?_)))
            exact ⟨(acc ++ [(k, (c :: r).take (tokN (c :: r)))], k + spanN wB s k), hnext, ⟨[3], ToR.S rfl (by repeat' (first | exact rt_nil | refine rt_r (by rfl) (by rfl) ?_ | refine rt_e (by rfl) (by rfl) ?_)) (by repeat' (first | exact ro_nil | refine ro_p (by rfl) (by first | exact rfl | fail) (by first | exact bdL_map (fun _ => by exact rfl) _ | fail) ?_)) (by rfl) (by (rw [hm]; exact rfl)) (by rfl) (by (simp [bdT, AV.bd, bdL, bdL_append]; done)) (by repeat' (first | exact True.intro | refine And.intro ?_ ?_ | exact bdL_map (fun _ => by exact rfl) _)) (by (rw [hm]; exact Nat.le_of_ble_eq_true rfl))⟩⟩
          · exfalso; simp_all
        | false =>
          cases hDc : isD c with
          | true =>
            have hsp : spanN digB s k = tokN (c :: r) := by
              rw [spanN_step hlt (by rw [hD, hDc]), spanN_r hr]
              simp only [tokN, hLc, hDc, Bool.false_eq_true, if_false, if_true]
              rw [Nat.add_comm]
              rfl
            have hle := spanN_le digB s k hk
            have hta : (c :: r).take (tokN (c :: r)) = c :: r.take (tokN (c :: r) - 1) := by
              obtain ⟨m, hm⟩ : ∃ m, tokN (c :: r) = m + 1 := ⟨_, (Nat.sub_add_cancel htp).symm⟩
              rw [hm]; rfl
            have htd : ((c :: r).take (tokN (c :: r))).all isD = true := by
              simp only [tokN, hLc, hDc, Bool.false_eq_true, if_false, if_true]
              rw [Nat.add_comm, List.take_succ_cons, List.all_cons, hDc, Bool.true_and]
              rw [List.all_eq_true]
              intro x hx
              have h1 : r.take (r.takeWhile isD).length = r.takeWhile isD := (List.prefix_iff_eq_take.1 (List.takeWhile_prefix isD)).symm
              rw [h1] at hx
              exact List.all_eq_true.1 List.all_takeWhile x hx
            have htl : ((c :: r).take (tokN (c :: r))).length ≤ 1000000 := by
              have h1 := List.length_take_le (tokN (c :: r)) (c :: r)
              omega
            have hval := value_fn ((c :: r).take (tokN (c :: r))) htd htl
            have htW : tkW ((c :: r).take (tokN (c :: r))) = false := by rw [hta]; exact hLc
            have htN : tkNum ((c :: r).take (tokN (c :: r))) = numV ((c :: r).take (tokN (c :: r))) := by rw [hta]; simp only [tkNum, isNum, hDc, if_true]
            have hx : s.extract (k : Int).toNat ((k + spanN digB s k : Nat) : Int).toNat = tx ((c :: r).take (tokN (c :: r))) := by
              rw [extract_tx]
              simp only [Int.toNat_natCast]
              rw [hd, show k + spanN digB s k - k = tokN (c :: r) by omega]
            rw [← hx] at hval
            have hnext : s.size - (k + spanN digB s k) < s.size - k ∧ k + spanN digB s k ≤ s.size ∧ (acc ++ [(k, (c :: r).take (tokN (c :: r)))]).length ≤ k + spanN digB s k ∧ (acc ++ [(k, (c :: r).take (tokN (c :: r)))]) ++ lexL ((bl s).drop (k + spanN digB s k)) (k + spanN digB s k) = lexL (bl s) 0 := by
              refine ⟨by omega, by omega, by simp only [List.length_append, List.length_cons, List.length_nil]; omega, ?_⟩
              rw [drop_add hd, hsp, ← hl]
              simp
            have htok : tokA (k, (c :: r).take (tokN (c :: r))) = .agg [intA (k : Nat), strA (tx ((c :: r).take (tokN (c :: r)))), boolA false, intA (numV ((c :: r).take (tokN (c :: r))))] := by
              simp only [tokA, htW, htN]
            (repeat' (first | refine WP.seq ?_ | refine WP.block ?_ | refine go_n ?_ | refine WP.skip ?_ | refine bl_n ?_ | (refine wp_cond (by rfl) (fun hc => ?_) (fun hc => ?_) <;> (try simp only [sB, ne_eq, reduceCtorEq] at hc) <;> (try (exfalso; omega))) | (refine WP.regionC (id := 3) ?_; (refine su (ap_move (rq_p rfl rfl)) ?_); (refine su (ap_move (rq_p rfl rfl)) ?_); (refine su (ap_len_str (by rfl) (rq_p rfl rfl)) ?_); (refine su (ap_lss (rq_p rfl rfl) (rq_p rfl rfl)) ?_); refine asemC_end ?_) | (refine WP.regionC (id := 4) ?_; (refine su (ap_move (rq_p rfl rfl)) ?_); (refine su (ap_build (RqP.cons (rq_p rfl rfl) (RqP.cons (rq_p rfl rfl) (RqP.nil))) (by rfl)) ?_); (refine se_alloc (by rfl) ?_); (refine se_store_b (by rfl) (by rfl) (by rfl) (by rfl) ?_); refine asemC_end ?_) | (refine WP.regionC (id := 5) ?_; (refine su (ap_move (rq_p rfl rfl)) ?_); (refine su (ap_add (rq_p rfl rfl) (rq_p rfl rfl) (by exact inr_i64_of (by omega))) ?_); (refine su (ap_assign (rq_p rfl rfl)) ?_); refine asemC_end ?_) | (refine WP.regionC (id := 6) ?_; (refine su (ap_move (rq_p rfl rfl)) ?_); (refine su (ap_move (rq_p rfl rfl)) ?_); (refine su (ap_sidx_n (rq_p rfl rfl) (rq_p rfl rfl) (by rfl) (by omega)) ?_); (refine su (ap_assign (rq_p rfl rfl)) ?_); refine asemC_end ?_) | (refine WP.regionC (id := 7) ?_; (refine su (ap_move (rq_p rfl rfl)) ?_); (refine su (ap_eql (rq_p rfl rfl) (rq_p rfl rfl)) ?_); (refine su (ap_move (rq_p rfl rfl)) ?_); (refine sg (gq_vf rfl rfl) (fun he => ap_move (rq_p rfl rfl)) ?_); (refine sg (gq_vf rfl rfl) (fun he => ap_eql (rq_c rfl rfl) (rq_p rfl rfl)) ?_); (refine su (ap_or (rq_p rfl rfl) (rq_c rfl rfl)) ?_); (refine su (ap_move (rq_p rfl rfl)) ?_); (refine sg (gq_vf rfl rfl) (fun he => ap_move (rq_p rfl rfl)) ?_); (refine sg (gq_vf rfl rfl) (fun he => ap_eql (rq_c rfl rfl) (rq_p rfl rfl)) ?_); (refine su (ap_or (rq_p rfl rfl) (rq_c rfl rfl)) ?_); (refine su (ap_move (rq_p rfl rfl)) ?_); (refine sg (gq_vf rfl rfl) (fun he => ap_move (rq_p rfl rfl)) ?_); (refine sg (gq_vf rfl rfl) (fun he => ap_eql (rq_c rfl rfl) (rq_p rfl rfl)) ?_); (refine su (ap_or (rq_p rfl rfl) (rq_c rfl rfl)) ?_); (refine su (ap_assign (rq_p rfl rfl)) ?_); refine asemC_end ?_) | (refine WP.regionC (id := 9) ?_; (refine su (ap_move (rq_p rfl rfl)) ?_); (refine su (ap_eql (rq_p rfl rfl) (rq_p rfl rfl)) ?_); (refine su (ap_assign (rq_p rfl rfl)) ?_); refine asemC_end ?_) | (refine WP.regionC (id := 11) ?_; (refine su (ap_move (rq_p rfl rfl)) ?_); (refine sc_p rfl rfl (by first | ((repeat' first | exact SubL.nil | refine SubL.cons ?_ ?_ | exact Sub.refl); done) | fail) (by first | (simp [bdL, bdL_append, AV.bd]; done) | fail) (gpletter_fn _) ?_); (refine su (ap_assign (rq_p rfl rfl)) ?_); refine asemC_end ?_) | (refine WP.regionC (id := 14) ?_; (refine su (ap_move (rq_p rfl rfl)) ?_); (refine sc_p rfl rfl (by first | ((repeat' first | exact SubL.nil | refine SubL.cons ?_ ?_ | exact Sub.refl); done) | fail) (by first | (simp [bdL, bdL_append, AV.bd]; done) | fail) (gpdigit_fn _) ?_); (refine su (ap_assign (rq_p rfl rfl)) ?_); refine asemC_end ?_) | (refine WP.regionC (id := 15) ?_; (refine su (ap_move (rq_p rfl rfl)) ?_); (refine su (ap_move (rq_p rfl rfl)) ?_); (refine sc_p rfl rfl (by first | ((repeat' first | exact SubL.nil | refine SubL.cons ?_ ?_ | exact Sub.refl); done) | fail) (by first | (simp [bdL, bdL_append, AV.bd]; done) | fail) (span_fn _ _ gpdigit_fn s (by omega) k hk) ?_); (refine su (ap_assign (rq_p rfl rfl)) ?_); refine asemC_end ?_) | (refine WP.regionC (id := 16) ?_; (refine su (ap_move (rq_p rfl rfl)) ?_); (refine su (ap_move (rq_p rfl rfl)) ?_); (refine su (ap_move (rq_p rfl rfl)) ?_); (refine su (ap_slice_s (by rfl) (rq_p rfl rfl) (by exact bq_some (rq_p rfl rfl)) (by exact bq_some (rq_p rfl rfl)) (by omega)) ?_); (refine sc_p rfl rfl (by first | ((repeat' first | exact SubL.nil | refine SubL.cons ?_ ?_ | exact Sub.refl); done) | fail) (by first | (simp [bdL, bdL_append, AV.bd]; done) | fail) (hval) ?_); (refine su (ap_field_p (rq_p rfl rfl) (by rfl) (by rfl)) ?_); (refine se_store_b (by rfl) (by rfl) (by rfl) (by rfl) ?_); refine asemC_end ?_) | (refine WP.regionC (id := 17) ?_; (refine su (ap_move (rq_p rfl rfl)) ?_); (refine su (ap_move (rq_p rfl rfl)) ?_); (refine su (ap_move (rq_p rfl rfl)) ?_); (refine su (ap_slice_s (by rfl) (rq_p rfl rfl) (by exact bq_some (rq_p rfl rfl)) (by exact bq_some (rq_p rfl rfl)) (by omega)) ?_); (refine su (ap_field_p (rq_p rfl rfl) (by rfl) (by rfl)) ?_); (refine se_store_b (by rfl) (by rfl) (by rfl) (by rfl) ?_); refine asemC_end ?_)))
            · exfalso; simp_all
            · exfalso; simp_all
            · skip
              have hx : s.extract (k : Int).toNat ((k + spanN digB s k : Nat) : Int).toNat = tx ((c :: r).take (tokN (c :: r))) := by
                rw [extract_tx]
                simp only [Int.toNat_natCast]
                rw [hd, show k + spanN digB s k - k = tokN (c :: r) by omega]
              rw [hx]
              refine wp_st (S 72 [(0, strA s), (3, .ref 0 4 0 acc.length), (4, intA (k : Nat)), (5, .ptr 1 4 0 0), (6, intA ((k + spanN digB s k : Nat) : Int))] 2 [(0, some (.arr 4 (acc.map tokA))), (1, some (.arr 4 [.agg [intA (k : Nat), strA (tx ((c :: r).take (tokN (c :: r)))), boolA false, intA (numV ((c :: r).take (tokN (c :: r))))]]))]) ⟨[0, 1], ToR.S rfl (by repeat' (first | exact rt_nil | refine rt_r (by rfl) (by rfl) ?_ | refine rt_t (by rfl) (by rfl) ?_ | refine rt_e (by rfl) (by rfl) ?_)) (by repeat' (first | exact ro_nil | refine ro_e (by rfl) (by rfl) ?_ | refine ro_p (by rfl) (by first | exact rfl | fail) (by first | exact bdL_map (fun _ => by exact rfl) _ | fail) ?_)) (by rfl) (by (rw [hm]; exact rfl)) (by rfl) (by (simp [bdT, AV.bd, bdL, bdL_append]; done)) (by repeat' (first | exact True.intro | exact rfl | refine And.intro ?_ ?_ | exact bdL_map (fun _ => by exact rfl) _)) (by (rw [hm]; exact Nat.le_of_ble_eq_true rfl))⟩ ?_
              rw [← htok]
              (repeat' (first | refine go_n ?_ | refine bl_n ?_ | (refine WP.regionC (id := 18) ?_; (refine su (ap_move (rq_p rfl rfl)) ?_); (refine su (ap_load_pw (rq_p rfl rfl) (by rfl) (by rfl) (by rfl)) ?_); (refine se_lit (OpP.cons (by rfl) (OpP.nil)) (by rfl) (by rfl) (by rfl) (by rfl) (by rfl) (by rfl) ?_); (refine se_app1 (by rfl) (by rfl) (by rfl) (by rfl) (by rfl) (by rfl) (by rfl) (by rfl) (by omega) ?_); (refine su (ap_assign (rq_p rfl rfl)) ?_); refine asemC_end ?_) | (refine WP.regionC (id := 19) ?_; (refine su (ap_move (rq_p rfl rfl)) ?_); (refine su (ap_assign (rq_p rfl rfl)) ?_); refine asemC_end ?_)))
              exact ⟨(acc ++ [(k, (c :: r).take (tokN (c :: r)))], k + spanN digB s k), hnext, ⟨[3], ToR.S rfl (by repeat' (first | exact rt_nil | refine rt_r (by rfl) (by rfl) ?_ | refine rt_e (by rfl) (by rfl) ?_)) (by repeat' (first | exact ro_nil | refine ro_p (by rfl) (by first | exact rfl | fail) (by first | exact bdL_map (fun _ => by exact rfl) _ | fail) ?_)) (by rfl) (by (rw [hm]; exact rfl)) (by rfl) (by (simp [bdT, AV.bd, bdL, bdL_append]; done)) (by repeat' (first | exact True.intro | refine And.intro ?_ ?_ | exact bdL_map (fun _ => by exact rfl) _)) (by (rw [hm]; exact Nat.le_of_ble_eq_true rfl))⟩⟩
            · exfalso; simp_all
          | false =>
            have hsp : tokN (c :: r) = 1 := by simp only [tokN, hLc, hDc, Bool.false_eq_true, if_false]
            have hta : (c :: r).take (tokN (c :: r)) = [c] := by rw [hsp]; rfl
            have htW : tkW ((c :: r).take (tokN (c :: r))) = false := by rw [hta]; exact hLc
            have htN : tkNum ((c :: r).take (tokN (c :: r))) = -1 := by rw [hta]; simp only [tkNum, isNum, hDc]; rfl
            have hnext : s.size - (k + 1) < s.size - k ∧ k + 1 ≤ s.size ∧ (acc ++ [(k, (c :: r).take (tokN (c :: r)))]).length ≤ k + 1 ∧ (acc ++ [(k, (c :: r).take (tokN (c :: r)))]) ++ lexL ((bl s).drop (k + 1)) (k + 1) = lexL (bl s) 0 := by
              refine ⟨by omega, by omega, by simp only [List.length_append, List.length_cons, List.length_nil]; omega, ?_⟩
              rw [drop_add hd, ← hl, hsp]
              simp
            have htok : tokA (k, (c :: r).take (tokN (c :: r))) = .agg [intA (k : Nat), strA (tx ((c :: r).take (tokN (c :: r)))), boolA false, intA (-1)] := by
              simp only [tokA, htW, htN]
            (repeat' (first | refine WP.seq ?_ | refine WP.block ?_ | refine go_n ?_ | refine WP.skip ?_ | refine bl_n ?_ | (refine wp_cond (by rfl) (fun hc => ?_) (fun hc => ?_) <;> (try simp only [sB, ne_eq, reduceCtorEq] at hc) <;> (try (exfalso; omega))) | (refine WP.regionC (id := 3) ?_; (refine su (ap_move (rq_p rfl rfl)) ?_); (refine su (ap_move (rq_p rfl rfl)) ?_); (refine su (ap_len_str (by rfl) (rq_p rfl rfl)) ?_); (refine su (ap_lss (rq_p rfl rfl) (rq_p rfl rfl)) ?_); refine asemC_end ?_) | (refine WP.regionC (id := 4) ?_; (refine su (ap_move (rq_p rfl rfl)) ?_); (refine su (ap_build (RqP.cons (rq_p rfl rfl) (RqP.cons (rq_p rfl rfl) (RqP.nil))) (by rfl)) ?_); (refine se_alloc (by rfl) ?_); (refine se_store_b (by rfl) (by rfl) (by rfl) (by rfl) ?_); refine asemC_end ?_) | (refine WP.regionC (id := 5) ?_; (refine su (ap_move (rq_p rfl rfl)) ?_); (refine su (ap_add (rq_p rfl rfl) (rq_p rfl rfl) (by exact inr_i64_of (by omega))) ?_); (refine su (ap_assign (rq_p rfl rfl)) ?_); refine asemC_end ?_) | (refine WP.regionC (id := 6) ?_; (refine su (ap_move (rq_p rfl rfl)) ?_); (refine su (ap_move (rq_p rfl rfl)) ?_); (refine su (ap_sidx_n (rq_p rfl rfl) (rq_p rfl rfl) (by rfl) (by omega)) ?_); (refine su (ap_assign (rq_p rfl rfl)) ?_); refine asemC_end ?_) | (refine WP.regionC (id := 7) ?_; (refine su (ap_move (rq_p rfl rfl)) ?_); (refine su (ap_eql (rq_p rfl rfl) (rq_p rfl rfl)) ?_); (refine su (ap_move (rq_p rfl rfl)) ?_); (refine sg (gq_vf rfl rfl) (fun he => ap_move (rq_p rfl rfl)) ?_); (refine sg (gq_vf rfl rfl) (fun he => ap_eql (rq_c rfl rfl) (rq_p rfl rfl)) ?_); (refine su (ap_or (rq_p rfl rfl) (rq_c rfl rfl)) ?_); (refine su (ap_move (rq_p rfl rfl)) ?_); (refine sg (gq_vf rfl rfl) (fun he => ap_move (rq_p rfl rfl)) ?_); (refine sg (gq_vf rfl rfl) (fun he => ap_eql (rq_c rfl rfl) (rq_p rfl rfl)) ?_); (refine su (ap_or (rq_p rfl rfl) (rq_c rfl rfl)) ?_); (refine su (ap_move (rq_p rfl rfl)) ?_); (refine sg (gq_vf rfl rfl) (fun he => ap_move (rq_p rfl rfl)) ?_); (refine sg (gq_vf rfl rfl) (fun he => ap_eql (rq_c rfl rfl) (rq_p rfl rfl)) ?_); (refine su (ap_or (rq_p rfl rfl) (rq_c rfl rfl)) ?_); (refine su (ap_assign (rq_p rfl rfl)) ?_); refine asemC_end ?_) | (refine WP.regionC (id := 9) ?_; (refine su (ap_move (rq_p rfl rfl)) ?_); (refine su (ap_eql (rq_p rfl rfl) (rq_p rfl rfl)) ?_); (refine su (ap_assign (rq_p rfl rfl)) ?_); refine asemC_end ?_) | (refine WP.regionC (id := 11) ?_; (refine su (ap_move (rq_p rfl rfl)) ?_); (refine sc_p rfl rfl (by first | ((repeat' first | exact SubL.nil | refine SubL.cons ?_ ?_ | exact Sub.refl); done) | fail) (by first | (simp [bdL, bdL_append, AV.bd]; done) | fail) (gpletter_fn _) ?_); (refine su (ap_assign (rq_p rfl rfl)) ?_); refine asemC_end ?_) | (refine WP.regionC (id := 14) ?_; (refine su (ap_move (rq_p rfl rfl)) ?_); (refine sc_p rfl rfl (by first | ((repeat' first | exact SubL.nil | refine SubL.cons ?_ ?_ | exact Sub.refl); done) | fail) (by first | (simp [bdL, bdL_append, AV.bd]; done) | fail) (gpdigit_fn _) ?_); (refine su (ap_assign (rq_p rfl rfl)) ?_); refine asemC_end ?_) | (refine WP.regionC (id := 17) ?_; (refine su (ap_move (rq_p rfl rfl)) ?_); (refine su (ap_move (rq_p rfl rfl)) ?_); (refine su (ap_move (rq_p rfl rfl)) ?_); (refine su (ap_slice_s (by rfl) (rq_p rfl rfl) (by exact bq_some (rq_p rfl rfl)) (by exact bq_some (rq_p rfl rfl)) (by omega)) ?_); (refine su (ap_field_p (rq_p rfl rfl) (by rfl) (by rfl)) ?_); (refine se_store_b (by rfl) (by rfl) (by rfl) (by rfl) ?_); refine asemC_end ?_)))
            · exfalso; simp_all
            · exfalso; simp_all
            · exfalso; simp_all
            · skip
              have hx : s.extract (k : Int).toNat ((k : Int) + 1).toNat = tx ((c :: r).take (tokN (c :: r))) := by
                rw [extract_tx]
                simp only [Int.toNat_natCast]
                rw [hd, show ((k : Int) + 1).toNat - k = tokN (c :: r) by omega]
              rw [hx]
              refine wp_st (S 72 [(0, strA s), (3, .ref 0 4 0 acc.length), (4, intA (k : Nat)), (5, .ptr 1 4 0 0), (6, intA ((k : Int) + 1))] 2 [(0, some (.arr 4 (acc.map tokA))), (1, some (.arr 4 [.agg [intA (k : Nat), strA (tx ((c :: r).take (tokN (c :: r)))), boolA false, intA (-1)]]))]) ⟨[0, 1], ToR.S rfl (by repeat' (first | exact rt_nil | refine rt_r (by rfl) (by rfl) ?_ | refine rt_t (by rfl) (by rfl) ?_ | refine rt_e (by rfl) (by rfl) ?_)) (by repeat' (first | exact ro_nil | refine ro_e (by rfl) (by rfl) ?_ | refine ro_p (by rfl) (by first | exact rfl | fail) (by first | exact bdL_map (fun _ => by exact rfl) _ | fail) ?_)) (by rfl) (by (rw [hm]; exact rfl)) (by rfl) (by (simp [bdT, AV.bd, bdL, bdL_append]; done)) (by repeat' (first | exact True.intro | exact rfl | refine And.intro ?_ ?_ | exact bdL_map (fun _ => by exact rfl) _)) (by (rw [hm]; exact Nat.le_of_ble_eq_true rfl))⟩ ?_
              rw [← htok]
              (repeat' (first | refine go_n ?_ | refine bl_n ?_ | (refine WP.regionC (id := 18) ?_; (refine su (ap_move (rq_p rfl rfl)) ?_); (refine su (ap_load_pw (rq_p rfl rfl) (by rfl) (by rfl) (by rfl)) ?_); (refine se_lit (OpP.cons (by rfl) (OpP.nil)) (by rfl) (by rfl) (by rfl) (by rfl) (by rfl) (by rfl) ?_); (refine se_app1 (by rfl) (by rfl) (by rfl) (by rfl) (by rfl) (by rfl) (by rfl) (by rfl) (by omega) ?_); (refine su (ap_assign (rq_p rfl rfl)) ?_); refine asemC_end ?_) | (refine WP.regionC (id := 19) ?_; (refine su (ap_move (rq_p rfl rfl)) ?_); (refine su (ap_assign (rq_p rfl rfl)) ?_); refine asemC_end ?_)))
              exact ⟨(acc ++ [(k, (c :: r).take (tokN (c :: r)))], k + 1), hnext, ⟨[3], ToR.S rfl (by repeat' (first | exact rt_nil | refine rt_r (by rfl) (by rfl) ?_ | refine rt_e (by rfl) (by rfl) ?_)) (by repeat' (first | exact ro_nil | refine ro_p (by rfl) (by first | exact rfl | fail) (by first | exact bdL_map (fun _ => by exact rfl) _ | fail) ?_)) (by rfl) (by (rw [hm]; exact rfl)) (by rfl) (by (simp [bdT, AV.bd, bdL, bdL_append]; done)) (by repeat' (first | exact True.intro | refine And.intro ?_ ?_ | exact bdL_map (fun _ => by exact rfl) _)) (by (rw [hm]; exact Nat.le_of_ble_eq_true rfl))⟩⟩
  · have hk2 : k = s.size := by omega
    have hnil : (bl s).drop k = [] := List.drop_eq_nil_of_le (by rw [bl_len]; omega)
    rw [hnil, lexL_nil, List.append_nil] at hl
    subst hl
    refine wp_frzm 3 hm rfl rfl rfl (fun _ => rfl) (fun _ => rfl) (by rfl) ?_
    (repeat' (first | refine WP.seq ?_ | refine go_n ?_ | refine WP.exit ?_ | refine WP.ret ?_ | refine go_x ?_ | refine bl_x ?_ | refine bo_r ?_ | (refine wp_cond (by rfl) (fun hc => ?_) (fun hc => ?_) <;> (try simp only [sB, ne_eq, reduceCtorEq] at hc) <;> (try (exfalso; omega))) | (refine WP.regionC (id := 3) ?_; (refine su (ap_move (rq_p rfl rfl)) ?_); (refine su (ap_move (rq_p rfl rfl)) ?_); (refine su (ap_len_str (by rfl) (rq_p rfl rfl)) ?_); (refine su (ap_lss (rq_p rfl rfl) (rq_p rfl rfl)) ?_); refine asemC_end ?_) | (refine WP.regionC (id := 20) ?_; (refine su (ap_move (rq_p rfl rfl)) ?_); (refine su (ap_assign (rq_p rfl rfl)) ?_); refine asemC_end ?_) | exact ret_eq (by rfl) (by (simp [AV.bd, bdL, bdL_append]; done)) rfl))
    all_goals done
end Go.Lg
