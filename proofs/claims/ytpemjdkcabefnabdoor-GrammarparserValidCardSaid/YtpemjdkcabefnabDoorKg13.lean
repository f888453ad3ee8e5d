/-
  Part 13 of the proof of GrammarparserValidCard: the logic over the model, the functions' contracts and the plain laws.
-/
import Derived.Test.YtpemjdkcabefnabDoorKg12
import Derived.Lib.Join
import Derived.Lib.ItoaLen

set_option linter.unusedSimpArgs false
set_option linter.unusedVariables false
set_option linter.unusedSectionVars false
set_option linter.defProp false

namespace Go.Lg
open Go.Proofs
def letB (c : Int) : Bool := decide (97 ≤ c) && decide (c ≤ 122) || decide (65 ≤ c) && decide (c ≤ 90)
def digB (c : Int) : Bool := decide (48 ≤ c) && decide (c ≤ 57)
theorem range_all_succ {f : Nat → Bool} {k : Nat} (h : (List.range k).all f = true) (hf : f k = true) : (List.range (k + 1)).all f = true := by
  rw [List.range_succ, List.all_append, h]; simp [hf]
theorem range_all_no {f : Nat → Bool} {k n : Nat} (hk : k < n) (hf : f k = false) : (List.range n).all f = false := by
  rw [List.all_eq_false]; exact ⟨k, by simpa using hk, by simp [hf]⟩
def indexP {α : Type} (p : α → Bool) (l : List α) : Int := match l.findIdx? p with
  | some i => i
  | none => -1
theorem indexP_at {α : Type} [Inhabited α] {p : α → Bool} {l : List α} {k : Nat} (hk : k < l.length) (h : (l.take k).any p = false) (hp : p (nth l k) = true) : indexP p l = k := by
  have : l.findIdx? p = some k := by
    rw [List.findIdx?_eq_some_iff_getElem]
    refine ⟨hk, by rwa [nth_eq hk] at hp, fun j hj => ?_⟩
    rw [List.any_eq_false] at h
    have := h l[j] (by rw [List.mem_take_iff_getElem]; exact ⟨j, by omega, rfl⟩)
    simpa using this
  simp [indexP, this]
theorem indexP_no {α : Type} {p : α → Bool} {l : List α} {k : Nat} (hk : l.length ≤ k) (h : (l.take k).any p = false) : indexP p l = -1 := by
  rw [List.take_of_length_le hk] at h
  have : l.findIdx? p = none := by rw [List.findIdx?_eq_none_iff]; intro x hx; rw [List.any_eq_false] at h; simpa using h x hx
  simp [indexP, this]
theorem indexP_any {α : Type} {p : α → Bool} {l : List α} : decide (0 ≤ indexP p l) = l.any p := by
  unfold indexP
  cases h : l.findIdx? p with
  | none => rw [List.findIdx?_eq_none_iff] at h; rw [show l.any p = false by rw [List.any_eq_false]; intro x hx; simp [h x hx]]; rfl
  | some i =>
    rw [List.findIdx?_eq_some_iff_getElem] at h
    obtain ⟨hi, hp, _⟩ := h
    rw [show l.any p = true by rw [List.any_eq_true]; exact ⟨_, List.getElem_mem hi, hp⟩]
    simp
theorem take_any_succ {α : Type} [Inhabited α] {l : List α} {f : α → Bool} {k : Nat} (hk : k < l.length) (h : (l.take k).any f = false) (hf : f (nth l k) = false) : (l.take (k + 1)).any f = false := by
  rw [take_succ_nth hk, List.any_append, h]; simp [hf]
theorem take_eq_succ {α : Type} [Inhabited α] {a b : List α} {k : Nat} (ha : k < a.length) (hb : k < b.length) (h : a.take k = b.take k) (he : nth a k = nth b k) : a.take (k + 1) = b.take (k + 1) := by
  rw [take_succ_nth ha, take_succ_nth hb, h, he]
theorem eq_of_takes {α : Type} {a b : List α} {k : Nat} (hl : a.length = b.length) (hk : a.length ≤ k) (h : a.take k = b.take k) : a = b := by
  rwa [List.take_of_length_le hk, List.take_of_length_le (by omega)] at h
theorem nodup_nth {α : Type} [Inhabited α] {l : List α} (h : ∀ j, j < l.length → ∀ k, k < j → nth l k ≠ nth l j) : l.Nodup := by
  rw [List.nodup_iff_pairwise_ne, List.pairwise_iff_getElem]
  intro i j hi hj hij
  have := h j hj i hij
  rwa [nth_eq hi, nth_eq hj] at this
theorem not_nodup {α : Type} [Inhabited α] {l : List α} {k j : Nat} (hj : j < l.length) (hk : k < j) (h : nth l k = nth l j) : ¬ l.Nodup := by
  rw [List.nodup_iff_pairwise_ne, List.pairwise_iff_getElem]
  intro hp
  have := hp k j (by omega) hj hk
  rw [nth_eq (by omega), nth_eq hj] at h
  exact this h
theorem all_of_nth {α : Type} [Inhabited α] {l : List α} {f : α → Bool} (h : ∀ j, j < l.length → f (nth l j) = true) : l.all f = true := by
  rw [List.all_eq_true]; intro x hx
  obtain ⟨i, hi, rfl⟩ := List.getElem_of_mem hx
  have := h i hi
  rwa [nth_eq hi] at this
def bl (s : ByteArray) : List UInt8 := s.data.toList
def tx (l : List UInt8) : ByteArray := ⟨l.toArray⟩
@[simp] theorem bl_tx (l : List UInt8) : bl (tx l) = l := rfl
theorem tx_bl (s : ByteArray) : tx (bl s) = s := by obtain ⟨⟨l⟩⟩ := s; rfl
theorem bl_app (a b : ByteArray) : bl (a ++ b) = bl a ++ bl b := by simp [bl]
theorem tx_inj {a b : List UInt8} (h : tx a = tx b) : a = b := by have := congrArg bl h; simpa using this
theorem ba_ext {a b : ByteArray} (h : bl a = bl b) : a = b := by rw [← tx_bl a, ← tx_bl b, h]
theorem tx_size (l : List UInt8) : (tx l).size = l.length := by simp [tx, ByteArray.size]
theorem bl_len (s : ByteArray) : (bl s).length = s.size := by simp [bl]
def spaced (l : List ByteArray) : List UInt8 := (l.map fun x => 32 :: bl x).flatten
def lineT (l : List ByteArray) : List UInt8 := Lib.join (l.map bl) [32] ++ [10]
theorem lineT_cons (h : ByteArray) (r : List ByteArray) : lineT (h :: r) = bl h ++ spaced r ++ [10] := by
  simp only [lineT, List.map_cons, Lib.join_cons, Lib.joinTail, spaced, List.map_map]
  rfl
theorem spaced_len {l : List ByteArray} {c : Nat} (h : ∀ x, x ∈ l → x.size ≤ c) : (spaced l).length ≤ l.length * (c + 1) := by
  induction l with
  | nil => simp [spaced]
  | cons x l ih =>
    have h1 := ih fun y hy => h y (by simp [hy])
    have h2 := h x (by simp)
    simp only [spaced, List.map_cons, List.flatten_cons, List.length_append, List.length_cons, bl_len] at h1 ⊢
    rw [Nat.add_mul]; omega
end Go.Lg

namespace Go.Lg
open Go.RowKit
section
variable {P : Program} {Γ : Cx} {a : Act} {w : World}
theorem asemC_one {ops : Array Oper} {s : St} {o : Oper} {K : St → Prop} {QQ : Exit → Act → World → Prop} (hg : o.guard = none) (h : SR Γ s a w) (hk : asemC P ops [o] s K) : o.wp P a w (fun a' w' => ∃ s', K s' ∧ SR Γ s' a' w') QQ := by
  simp only [asemC, hg] at hk
  rcases hk with hk | ⟨x, hx, hk⟩ | ⟨s1, hk, hs1⟩
  · exact exec_sound h hk fun s' a' w' hk' hs' => ⟨s', hk', hs'⟩
  · obtain ⟨ρ, hρ⟩ := h
    obtain ⟨v, hrun, hrv⟩ := pure_sound (P := P) hρ (e := []) rfl hx
    unfold Oper.wp
    rw [hrun]
    exact ⟨_, hk, ρ, by simpa using hρ.put o.dst hrv⟩
  · obtain ⟨v, w', hrun, hsr⟩ := hs1 Γ a w h
    unfold Oper.wp
    rw [hrun]
    exact ⟨_, hk, hsr⟩
end
def lastOk (ops : Array Oper) (m : Nat) : Bool := (List.range m).all fun i => bef ops i m
section
variable {P : Program} {Γ : Cx} {ops : Array Oper}
set_option maxHeartbeats 1000000 in
theorem WP.drawT {id : Nat} {l : List Oper} {o' : Oper} {s : St} {Q : Exit → St → Prop} (hm : P.follows .mixedOrders = true) (he : edgeOk (l ++ [o']).toArray = true) (hcl : closeOk (l ++ [o']).toArray = true) (hla : lastOk (l ++ [o']).toArray l.length = true) (hg' : o'.guard = none)
    (h : RunD P (l ++ [o']).toArray s.objs.length 0 l { s with objs := s.objs ++ List.replicate l.length none } [] fun rs s' => freeOk (l ++ [o']).toArray rs = true ∧ asemC P (l ++ [o']).toArray [o'] s' (Q .normal)) : WP P Γ (.region id (l ++ [o']).toArray true) Q s := by
  intro a w hs
  obtain ⟨ρ0, hs⟩ := hs
  obtain ⟨out, st, hst0, hsteps, rs, hrl, hrec, hfree, hQ⟩ := RunD.unpack l 0 _ [] h
  simp only [Nat.zero_add, List.nil_append] at hsteps hrec hfree hQ
  have hsize : (l ++ [o']).toArray.size = l.length + 1 := by simp
  have hget : ∀ i : Nat, i < l.length → (l ++ [o']).toArray[i]? = l[i]? := fun i hi => by simp [List.getElem?_append_left hi]
  have hgetL : (l ++ [o']).toArray[l.length]? = some o' := by simp
  generalize hops : (l ++ [o']).toArray = ops at *
  generalize hN : s.objs.length = N at *
  let s0 : St := { s with objs := s.objs ++ List.replicate l.length none }
  let T := s.tmps.length
  let M := N + l.length
  have hlen0 : okLen T M s0 := ⟨rfl, by simp [s0, M, hN]⟩
  let act := actI ops N out
  have hstA : ∀ i, i ≤ l.length → st i = runTo act s0 (fun _ => true) i := by
    intro i
    induction i with
    | zero => intro _; exact hst0
    | succ i ih =>
      intro hi
      have ho : l[i]? = some l[i] := List.getElem?_eq_getElem (by omega)
      have := stepD_act (hsteps i _ ho)
      rw [this, ih (by omega), runTo_succ]
      simp only [if_true, act, actI, hget _ (Nat.lt_of_succ_le hi), ho, Option.bind_some]
  have hstC : ∀ i, i ≤ l.length → st i = runTo act s0 (fun j => decide (j < i)) l.length := fun i hi => by rw [hstA i hi, runTo_cut act s0 i l.length hi]
  let S (lst : Nat → Bool) : St := runTo act s0 lst l.length
  have hact : ∀ i x ℓ, okLen T M x → (act i x).at_ ℓ = (wvI ops N T M out i ℓ).getD (x.at_ ℓ) := fun i x ℓ hx => actI_at i x ℓ hx
  have hokk : ∀ i x, okLen T M x → okLen T M (act i x) := fun i x hx => actI_len i x hx
  have hSlen : ∀ lst, okLen T M (S lst) := fun lst => runTo_ok act (okLen T M) hokk hlen0 lst l.length
  have hconf : ∀ i j ℓ, i < l.length → j < l.length → i ≠ j → (wvI ops N T M out i ℓ).isSome = true →
      (∀ oj, ops[j]? = some oj → match ℓ with | .tmp t => t ∈ namesOf ops oj | .obj id => id ∈ (recOf N j (st j) oj (out j)).wr ∨ id ∈ (recOf N j (st j) oj (out j)).rd) → bef ops i j = true ∨ bef ops j i = true := by
    intro i j ℓ hi hj hne hw hn
    have hoi : l[i]? = some l[i] := List.getElem?_eq_getElem hi
    have hoj : l[j]? = some l[j] := List.getElem?_eq_getElem hj
    have hn := hn l[j] (by rw [hget _ hj]; exact hoj)
    rcases free_spec hfree (by rw [hget _ hi]; exact hoi) (by rw [hget _ hj]; exact hoj) (hrec i _ hoi) (hrec j _ hoj) hne with h1 | h1 | ⟨h1, h2⟩
    · exact .inl h1
    · exact .inr h1
    · exfalso
      cases ℓ with
      | tmp t =>
        have := wv_tmp hw
        rw [hget _ hi, hoi] at this
        exact h1 t this hn
      | obj id =>
        obtain ⟨r, hr, hid⟩ := wv_obj hw
        have := h2 id (by rw [hr]; exact hid)
        exact hn.elim this.1 this.2
  let lst (listed : Array Bool) (i : Nat) : Bool := listed.getD i false
  let AL (listed : Array Bool) (id : Nat) : Prop := id < N ∨ ∃ i, i < l.length ∧ lst listed i = true ∧ id = N + i ∧ (out i).makes = true
  let Inv (listed : Array Bool) (a : Act) (w : World) : Prop := listed.size = l.length + 1 ∧ lst listed l.length = false ∧ (∀ j k, j < l.length → k < l.length → lst listed j = true → bef ops k j = true → lst listed k = true) ∧ ∃ ρ, SRa Γ (AL listed) ρ (S (lst listed)) a w
  let unl (listed : Array Bool) : Nat := ((List.range l.length).filter fun i => !listed.getD i true).length
  have some_ready : ∀ listed a w, Inv listed a w → Region.ready .any ops listed = [] → False := by
    rintro listed a w ⟨hsz, hL, hdc, ρ, hsr⟩ hr
    have hall : ∀ n i, i < n → i < l.length → lst listed i = true := by
      intro n
      induction n with
      | zero => intro i hi; omega
      | succ n ih =>
        intro i hi hil
        by_cases hin : i < n
        · exact ih i hin hil
        · obtain rfl : i = n := by omega
          cases hl : lst listed i with
          | true => rfl
          | false =>
            exfalso
            have hoi : l[i]? = some l[i] := List.getElem?_eq_getElem hil
            have hmem : i ∈ Region.ready .any ops listed := by
              rw [mem_ready]
              refine ⟨by rw [getD_false (by omega)]; exact hl, l[i], by rw [hget _ hil]; exact hoi, fun e hee hb => ?_⟩
              have hon := (edge_spec he (by rw [hget _ hil]; exact hoi) hee hb).1
              exact ih e.on hon (by omega)
            rw [hr] at hmem
            simp at hmem
    have hmem : l.length ∈ Region.ready .any ops listed := by
      rw [mem_ready]
      refine ⟨by rw [getD_false (by omega)]; exact hL, o', hgetL, fun e hee hb => ?_⟩
      have hon := (edge_spec he hgetL hee hb).1
      exact hall (e.on + 1) e.on (by omega) hon
    rw [hr] at hmem
    simp at hmem
  have none_ready : ∀ listed : Array Bool, listed.size = l.length + 1 → (∀ i, i < l.length + 1 → lst listed i = true) → Region.ready .any ops listed = [] := by
    intro listed hsz hall
    cases hr : Region.ready .any ops listed with
    | nil => rfl
    | cons i rest =>
      exfalso
      have hmem : i ∈ Region.ready .any ops listed := by rw [hr]; simp
      obtain ⟨hl, o, ho, _⟩ := mem_ready.1 hmem
      have hil : i < l.length + 1 := by rw [← hsize]; exact (Array.getElem?_eq_some_iff.1 ho).1
      have := hall i hil
      simp only [lst] at this
      rw [getD_false (by omega), this] at hl
      cases hl
  have stop : ∀ fuel (listed : Array Bool) a w, listed.size = l.length + 1 → (∀ i, i < l.length + 1 → lst listed i = true) → (∃ s', Q .normal s' ∧ SR Γ s' a w) → wpAny P .any ops (fun e a' w' => ∃ s', Q e s' ∧ SR Γ s' a' w') fuel listed a w := by
    intro fuel listed a w hsz hall hq
    have hr := none_ready listed hsz hall
    cases fuel with
    | zero => exact ⟨hr, hq⟩
    | succ fuel => exact ⟨fun _ => hq, fun i hi => by rw [hr] at hi; simp at hi⟩
  have main : ∀ fuel listed a w, Inv listed a w → unl listed < fuel → wpAny P .any ops (fun e a' w' => ∃ s', Q e s' ∧ SR Γ s' a' w') fuel listed a w := by
    intro fuel
    induction fuel with
    | zero => intro listed a w hinv hu; omega
    | succ fuel ih =>
      intro listed a w hinv hu
      refine ⟨fun hr => (some_ready listed a w hinv hr).elim, fun i hi => ?_⟩
      obtain ⟨hl, o, ho, hed⟩ := mem_ready.1 hi
      have hil' : i < l.length + 1 := by rw [← hsize]; exact (Array.getElem?_eq_some_iff.1 ho).1
      obtain ⟨hsz, hL, hdc, ρ, hsr⟩ := hinv
      have hlst' : ∀ j, lst (listed.setIfInBounds i true) j = if j = i then true else lst listed j := by
        intro j
        by_cases hji : j = i
        · subst hji; simp [lst, Array.getD, hsz, hil']
        · simp only [lst]; rw [getD_set_ne false (fun e => hji e.symm), if_neg hji]
      have hpre : ∀ k, k < l.length → bef ops k i = true → lst listed k = true := by
        intro k hk hb
        obtain ⟨_, e, hee, hbb, hor⟩ := close_spec hcl ho (by omega) hb
        have hon := hed e hee hbb
        rcases hor with rfl | hor
        · exact hon
        · exact hdc e.on k (by have := (edge_spec he ho hee hbb).1; omega) hk hon hor
      by_cases hil : i = l.length
      · -- the last one
        subst hil
        rw [hgetL] at ho
        injection ho with ho
        subst ho
        have hall : ∀ k, k < l.length → lst listed k = true := fun k hk => hpre k hk (by
          unfold lastOk at hla
          rw [List.all_eq_true] at hla
          exact hla k (List.mem_range.2 hk))
        have hSt : S (lst listed) = st l.length := by
          rw [hstC l.length (Nat.le_refl _)]
          exact St.ext_at fun ℓ => runTo_same St.at_ act (wvI ops N T M out) (okLen T M) hact hokk hlen0 ℓ l.length fun i hi _ => by rw [hall i hi]; simp [hi]
        rw [hSt] at hsr
        have hlenst : (st l.length).objs.length = M := by rw [hstC l.length (Nat.le_refl _)]; exact (runTo_ok act (okLen T M) hokk hlen0 _ _).2
        have hSR : SR Γ (st l.length) a w := ⟨ρ, hsr.more (fun i hi => hsr.bound i hi) (fun i hi => hi)⟩
        unfold wpOp
        rw [hgetL]
        simp only
        rw [if_pos (by simp [Region.wanted, hg'])]
        refine .inl (Oper.wp_mono (fun a' w' hq => ?_) (asemC_one hg' hSR hQ))
        refine stop _ _ _ _ (by simp [hsz]) (fun k hk => ?_) hq
        rw [hlst']
        split
        · rfl
        · exact hall k (by omega)
      have hil : i < l.length := by omega
      have hlo : l[i]? = some o := by rw [← hget _ hil]; exact ho
      have hlf : lst listed i = false := by simp only [lst]; rw [← getD_false (by omega)]; exact hl
      have hL' : lst (listed.setIfInBounds i true) l.length = false := by rw [hlst', if_neg (by omega)]; exact hL
      have hpost : ∀ j, j < l.length → lst listed j = true → bef ops i j = true → False := fun j hj hlj hb => by
        have := hdc j i hj hil hlj hb
        rw [hlf] at this; cases this
      have hagree : ∀ ℓ, (match ℓ with | .tmp t => t ∈ namesOf ops o | .obj id => id ∈ (recOf N i (st i) o (out i)).wr ∨ id ∈ (recOf N i (st i) o (out i)).rd) → (S (lst listed)).at_ ℓ = (st i).at_ ℓ := by
        intro ℓ hn
        rw [hstC i (by omega)]
        refine runTo_same St.at_ act (wvI ops N T M out) (okLen T M) hact hokk hlen0 ℓ l.length fun j hj hw => ?_
        by_cases hji : j = i
        · subst hji; simp [hlf]
        · rcases hconf j i ℓ hj hil hji hw (fun oj hoj => by rw [ho] at hoj; injection hoj with hoj; subst hoj; exact hn) with hb | hb
          · have h1 := hpre j hj hb
            have h2 := (close_spec hcl ho (by omega) hb).1
            simp [h1, h2]
          · have h1 : lst listed j = false := by
              cases hlj : lst listed j with
              | false => rfl
              | true => exact (hpost j hj hlj hb).elim
            obtain ⟨oj, hoj⟩ : ∃ oj, ops[j]? = some oj := ⟨l[j], by rw [hget _ hj]; exact List.getElem?_eq_getElem hj⟩
            have h2 := (close_spec hcl hoj (by omega) hb).1
            rw [h1, decide_eq_false (by omega)]
      have htmp : ∀ t, t ∈ namesOf ops o → (S (lst listed)).tmps[t]? = (st i).tmps[t]? := fun t ht => by have := hagree (.tmp t) ht; simpa [St.at_] using this
      have hop : ∀ x, x ∈ o.op.operands → (st i).op x = (S (lst listed)).op x := by
        intro x hx
        cases x with
        | tmp t => simp only [St.op, List.getD]; rw [htmp t (mem_names_op hx)]
        | _ => rfl
      have hyl : ∀ j want, o.guard = some (j, want) → yieldedA ops (S (lst listed)) j = yieldedA ops (st i) j := by
        intro j want hg
        unfold yieldedA
        cases hd : (ops[j]?).bind (·.dst) with
        | none => rfl
        | some t => simp only [Option.map_some, List.getD]; rw [htmp t (mem_names_guard hg hd)]
      have hys : ∀ j want, o.guard = some (j, want) → ((ops[j]?).bind (·.dst)).map (fun t => (S (lst listed)).tmps.getD t .any) = ((ops[j]?).bind (·.dst)).map (fun t => (st i).tmps.getD t .any) := by
        intro j want hg
        cases hd : (ops[j]?).bind (·.dst) with
        | none => rfl
        | some t => simp only [Option.map_some, List.getD]; rw [htmp t (mem_names_guard hg hd)]
      have hnext : act i (S (lst listed)) = S (lst (listed.setIfInBounds i true)) := by
        refine St.ext_at fun ℓ => ?_
        rw [hact i _ ℓ (hSlen _)]
        cases hw : wvI ops N T M out i ℓ with
        | none =>
          refine (runTo_same St.at_ act (wvI ops N T M out) (okLen T M) hact hokk hlen0 ℓ l.length fun j hj hwj => ?_)
          rw [hlst']
          by_cases hji : j = i
          · subst hji; rw [hw] at hwj; cases hwj
          · rw [if_neg hji]
        | some c =>
          refine (runTo_last St.at_ act (wvI ops N T M out) (okLen T M) hact hokk hlen0 (by rw [hlst']; simp) hw l.length hil fun j hij hj hlj => ?_).symm
          rw [hlst', if_neg (by omega)] at hlj
          cases hwj : wvI ops N T M out j ℓ with
          | none => rfl
          | some c' =>
            exfalso
            obtain ⟨oj, hoj⟩ : ∃ oj, ops[j]? = some oj := ⟨l[j], by rw [hget _ hj]; exact List.getElem?_eq_getElem hj⟩
            have hn : match (generalizing := false) ℓ with | .tmp t => t ∈ namesOf ops oj | .obj id => id ∈ (recOf N j (st j) oj (out j)).wr ∨ id ∈ (recOf N j (st j) oj (out j)).rd := by
              cases ℓ with
              | tmp t =>
                have := wv_tmp (by rw [hwj]; rfl : (wvI ops N T M out j (.tmp t)).isSome = true)
                rw [hoj] at this
                exact mem_names_dst this
              | obj id =>
                obtain ⟨r, hr, hid⟩ := wv_obj (by rw [hwj]; rfl : (wvI ops N T M out j (.obj id)).isSome = true)
                rw [hr]; exact .inl hid
            rcases hconf i j ℓ hil hj (by omega) (by rw [hw]; rfl) (fun oj' hoj' => by rw [hoj] at hoj'; injection hoj' with hoj'; subst hoj'; exact hn) with hb | hb
            · exact hpost j hj hlj hb
            · have := (close_spec hcl ho (by omega) hb).1; omega
      have hdc' : ∀ j k, j < l.length → k < l.length → lst (listed.setIfInBounds i true) j = true → bef ops k j = true → lst (listed.setIfInBounds i true) k = true := by
        intro j k hj hk hlj hb
        rw [hlst'] at hlj ⊢
        by_cases hki : k = i
        · simp [hki]
        · rw [if_neg hki]
          by_cases hji : j = i
          · subst hji; exact hpre k hk hb
          · rw [if_neg hji] at hlj; exact hdc j k hj hk hlj hb
      have hunl : unl (listed.setIfInBounds i true) < fuel := by
        have : unl (listed.setIfInBounds i true) < unl listed := by
          refine count_lt (i := i) (by simpa using hil) (fun x hx => ?_) (by simp [hl]) (by simp [Array.getD, hsz, hil'])
          by_cases hxi : x = i
          · subst hxi; simp [Array.getD, hsz, hil'] at hx
          · rw [getD_set_ne true (fun e => hxi e.symm)] at hx; exact hx
        omega
      have hstep := hsteps i o hlo
      have hdst : (ops[i]?).bind (·.dst) = o.dst := by rw [ho]; rfl
      have hnA : ¬ AL listed (N + i) := by
        rintro (h1 | ⟨j, _, hlj, hj, _⟩)
        · omega
        · obtain rfl : j = i := by omega
          rw [hlf] at hlj; cases hlj
      unfold wpOp
      rw [ho]
      simp only
      cases hout : out i with
      | skip =>
        rw [hout] at hstep
        obtain ⟨_, j, want, hg, hy⟩ := hstep
        have hy' : yielded ops a.tmps j ≠ some want := by
          rcases hy with hy | hy
          · rw [yielded_okA hsr (by rw [hyl j want hg]; exact hy : yieldedA ops (S (lst listed)) j = some (!want))]
            cases want <;> simp
          · exact skipped_okA hsr (by rw [hys j want hg]; exact hy)
        rw [if_neg (by simp [Region.wanted, hg, hy'])]
        refine ih _ _ _ ⟨by simp [hsz], hL', hdc', ρ, ?_⟩ hunl
        have hp := hsr.put o.dst (x := skA) (v := undef) (.cond (fun h => by simp at h) (fun _ => rfl))
        have : (S (lst listed)).put o.dst skA = S (lst (listed.setIfInBounds i true)) := by rw [← hnext]; simp [act, actI, actOut, hout, hdst]
        rw [this] at hp
        refine hp.conv fun id => ?_
        simp only [AL]
        constructor
        · rintro (h1 | ⟨j, hj, hlj, hid, hmk⟩)
          · exact .inl h1
          · exact .inr ⟨j, hj, by rw [hlst']; split; rfl; exact hlj, hid, hmk⟩
        · rintro (h1 | ⟨j, hj, hlj, hid, hmk⟩)
          · exact .inl h1
          · rw [hlst'] at hlj
            by_cases hji : j = i
            · subst hji; rw [hout] at hmk; cases hmk
            · rw [if_neg hji] at hlj; exact .inr ⟨j, hj, hlj, hid, hmk⟩
      | did r =>
        rw [hout] at hstep
        obtain ⟨_, hdoes, hgd⟩ := hstep
        have hwant : Region.wanted o (yielded ops a.tmps) = true := by
          cases hg : o.guard with
          | none => simp [Region.wanted, hg]
          | some p =>
            obtain ⟨j, want⟩ := p
            rw [hg] at hgd
            have hy' := yielded_okA hsr (by rw [hyl j want hg]; exact hgd : yieldedA ops (S (lst listed)) j = some want)
            simp [Region.wanted, hg, hy']
        rw [if_pos hwant]
        refine .inl ?_
        have hdoes' : Does P (N + i) (S (lst listed)) o r := by
          rcases hdoes with hr | ⟨c, f, g, first, cap, hcop, hcf, hfv, hspec, hbd, hnone⟩
          · refine .inl ?_
            rw [← hr]
            refine (aop_local hop (fun x hx id hid => ?_)).symm
            have hid' : id ∈ (recOf N i (st i) o (out i)).rd := by
              rw [hout]
              simp only [recOf, topIds, List.mem_filterMap]
              exact ⟨x, by simpa using hx, hid⟩
            have := hagree (.obj id) (.inr hid')
            simp only [St.at_, Cont.obj.injEq] at this
            simp only [St.look, this]
          · have hfm : f ∈ o.op.operands := by rw [hcop]; simp [Op.operands, Call.operands, hcf]
            have ham : c.args.toList.map (st i).op = c.args.toList.map (S (lst listed)).op := List.map_congr_left fun x hx => hop x (by rw [hcop]; simp only [Op.operands, Call.operands, hcf]; simp at hx ⊢; exact .inr hx)
            refine .inr ⟨c, f, g, first, cap, hcop, hcf, by rw [← hop f hfm]; exact hfv, ?_, ?_, hnone⟩
            · rw [← ham]; exact hspec
            · rw [← ham]; exact hbd
        refine does_sound hsr (by rw [(hSlen _).2]; simp only [M]; omega) hnA hdoes' ?_
        intro A' ρ' a' w' hA' hs'
        refine ih _ _ _ ⟨by simp [hsz], hL', hdc', ρ', ?_⟩ hunl
        have : ((S (lst listed)).eff (N + i) r.2).put o.dst r.1 = S (lst (listed.setIfInBounds i true)) := by rw [← hnext]; simp [act, actI, actOut, hout, hdst]
        rw [this] at hs'
        refine hs'.conv fun id => ?_
        rw [hA']
        simp only [AL]
        constructor
        · rintro ((h1 | ⟨j, hj, hlj, hid, hmk⟩) | ⟨hid, hmk⟩)
          · exact .inl h1
          · exact .inr ⟨j, hj, by rw [hlst']; split; rfl; exact hlj, hid, hmk⟩
          · exact .inr ⟨i, hil, by rw [hlst']; simp, hid, by rw [hout]; exact hmk⟩
        · rintro (h1 | ⟨j, hj, hlj, hid, hmk⟩)
          · exact .inl (.inl h1)
          · rw [hlst'] at hlj
            by_cases hji : j = i
            · subst hji; rw [hout] at hmk; exact .inr ⟨hid, hmk⟩
            · rw [if_neg hji] at hlj; exact .inl (.inr ⟨j, hj, hlj, hid, hmk⟩)
  refine wp_region_any hm (main ops.size (Array.replicate ops.size false) a _ ⟨by simp [hsize], by simp [lst, Array.getD], ?_, ρ0, ?_⟩ ?_)
  · intro j k _ _ hlj
    simp [lst, Array.getD] at hlj
  · have h0 : S (lst (Array.replicate ops.size false)) = s0 := by
      have : ∀ m, runTo act s0 (lst (Array.replicate ops.size false)) m = s0 := by
        intro m
        induction m with
        | zero => rfl
        | succ m ih =>
          rw [runTo_succ, ih]
          have : lst (Array.replicate ops.size false) m = false := by simp [lst, Array.getD]
          rw [this]; rfl
      exact this _
    rw [h0]
    have := (hs.extendN l.length).drawn (w.drawn + 1)
    refine this.conv fun id => ?_
    simp only [AL]
    constructor
    · exact .inl
    · rintro (h1 | ⟨j, _, hlj, _⟩)
      · exact h1
      · simp [lst, Array.getD] at hlj
  · simp only [unl, hsize]
    calc _ ≤ (List.range l.length).length := List.length_filter_le _ _
      _ = l.length := by simp
      _ < l.length + 1 := Nat.lt_succ_self _
end
end Go.Lg

namespace Go.Lg
section
variable {P : Program} {n M N i : Nat} {l : List (Nat × AV)} {os : List (Nat × Option AObj)} {a b : Operand} {d : Tmp} {ty : TypeId} {pos : String} {af : Array Edge} {ops : Array Oper} {rest : List Oper} {KK : List Rec → St → Prop} {K : St → Prop} {rs : List Rec}
theorem se_lit0 {te : TI} {k bt : Nat} [ht : TEl P ty te k bt] {ty2 : TypeId} (hk : asemC P ops rest (S n ((d, .ref M k 0 0) :: l) (M + 1) ((M, some (.arr k [])) :: os)) K) :
    asemC P ops (⟨some d, .buildSlice ty 0 #[], ty2, pos, af, none⟩ :: rest) (S n l M os) K := by
  obtain ⟨ti, el, g1, he, hs, g4, hsz, hbz⟩ := ht.h
  refine se_new (x := .ref M k 0 0) (by rintro c f h; cases h) ?_ hk
  have hb : buildSliceA te 0 [] = some (.arr k []) := by simp [buildSliceA, hsz]
  simp only [aop, g1, he, g4, Option.bind_some, Array.toList, List.map_nil, hb, Option.map_some, hsz]
end
section
variable {P : Program} {Γ : Cx} {c : Code} {Q : Exit → St → Prop} {n M : Nat} {l : List (Nat × AV)} {os : List (Nat × Option AObj)}
theorem wp_st (t : St) {s : St} (h0 : ∃ is, ToR Γ.m is s t) (h : WP P Γ c Q t) : WP P Γ c Q s := by
  obtain ⟨is, h0⟩ := h0; exact .toR is t h0 h
end
section
variable {P : Program} {n M : Nat} {l : List (Nat × AV)} {os : List (Nat × Option AObj)} {d t : Tmp} {ty : TypeId} {pos : String} {af : Array Edge} {ops : Array Oper} {rest : List Oper} {K : St → Prop} {j : Nat} {want b : Bool} {x : AV} {op : Op}
theorem sgt_new {o : AObj} (hd : (ops[j]?).bind (·.dst) = some t) (hv : opq n l (.tmp t) = some (.val (.bool b))) (hb : b = want) (hc : ∀ c f, op = .call c → c.callee ≠ .value f) (h : aop P (S n ((t, .val (.bool b)) :: l) M os).look M (S n ((t, .val (.bool b)) :: l) M os).op op = some (x, .new o))
    (hk : asemC P ops rest (S n ((d, x) :: (t, .val (.bool b)) :: l) (M + 1) ((M, some o) :: os)) K) : asemC P ops (⟨some d, op, ty, pos, af, some (j, want)⟩ :: rest) (S n l M os) K := by
  subst hb
  simp only [asemC]
  refine .inl ⟨b, ?_, fun _ => ?_, fun h => by cases b <;> cases h⟩
  · have hop := opq_op (M := M) (os := os) hv
    simp only [St.op] at hop
    simp only [yieldedA, hd, Option.map_some, hop]
  rw [hd, S_put]
  have hl : (S n ((t, .val (.bool b)) :: l) M os).objs.length = M := ol_length M os
  have hs : (S n ((t, .val (.bool b)) :: l) M os).after (some d) (x, .new o) = S n ((d, x) :: (t, .val (.bool b)) :: l) (M + 1) ((M, some o) :: os) := by
    simp only [St.after, S, St.put, ol_push, tl_set]
  unfold execA
  split
  · rename_i c hop
    simp only at hop
    split
    · rename_i f hf; exact absurd hf (hc c f hop)
    · exact ⟨_, by rw [hl, ← hop]; exact h, by rw [hs]; exact hk⟩
  · exact ⟨_, by rw [hl]; exact h, by rw [hs]; exact hk⟩
theorem sgt_lit {te : TI} {k m bt : Nat} {z : AV} {ps : Array (Nat × Operand)} {xs : List (Nat × AV)} {vs : List AV} (hd : (ops[j]?).bind (·.dst) = some t) (hg : opq n l (.tmp t) = some (.val (.bool b))) (hgb : b = want) [ht : TEl P ty te k bt] (hp : OpP n ((t, .val (.bool b)) :: l) ps.toList xs) (hv : seqv 0 xs = some vs) (hl : xs.length = m) (h0 : Nat.beq m 0 = false) (hbig : Nat.ble (m * k) 16777216 = true) (hzero : zeroA te = some z)
    (hc : (vs.all fun x => Nat.beq x.cells.length k && x.store) = true) {ty2 : TypeId} (hk : asemC P ops rest (S n ((d, .ref M k 0 m) :: (t, .val (.bool b)) :: l) (M + 1) ((M, some (.arr k vs)) :: os)) K) :
    asemC P ops (⟨some d, .buildSlice ty m ps, ty2, pos, af, some (j, want)⟩ :: rest) (S n l M os) K := by
  obtain ⟨ti, el, g1, he, hs, g4, hsz, hbz⟩ := ht.h
  refine sgt_new (x := .ref M k 0 m) hd hg hgb (by rintro c f h; cases h) ?_ hk
  have hp' := hp.get (M := M) (os := os)
  have hb : buildSliceA te m xs = some (.arr k vs) := by
    have hne : m ≠ 0 := Nat.ne_of_beq_eq_false h0
    simp only [buildSliceA, if_neg hne, hzero, Option.bind_some, hsz, if_pos (Nat.le_of_ble_eq_true hbig)]
    have := seqv_fill (k := k) (z := z) xs [] vs hv (fun x hx => by
      have := List.all_eq_true.1 hc x hx
      simp only [Bool.and_eq_true] at this
      exact ⟨Nat.eq_of_beq_eq_true this.1, this.2⟩)
    simp only [List.nil_append, hl] at this
    rw [this]; rfl
  simp only [aop, g1, he, g4, Option.bind_some, hp', hb, Option.map_some, hsz]
end
end Go.Lg

namespace Go.Lg
open Go.RowKit
section
variable {P : Program} {Γ : Cx} {n M : Nat} {l : List (Nat × AV)} {os : List (Nat × Option AObj)} {Q : Exit → St → Prop}
theorem wp_drawT {id : Nat} {L : List Oper} (k : Nat) (hm : P.follows .mixedOrders = true) (he : edgeOk L.toArray = true) (hcl : closeOk L.toArray = true) (hla : lastOk L.toArray k = true) (hlen : L.length = k + 1) (hg : ((L.drop k).all fun o => o.guard.isNone) = true)
    (h : RunD P L.toArray M 0 (L.take k) (S n l (M + k) ((List.range k).map (fun i => (M + i, (none : Option AObj))) ++ os)) [] fun rs s' => freeOk L.toArray rs = true ∧ asemC P L.toArray (L.drop k) s' (Q .normal)) : WP P Γ (.region id L.toArray true) Q (S n l M os) := by
  have hk : (L.take k).length = k := by rw [List.length_take]; omega
  obtain ⟨o', ho'⟩ : ∃ o', L.drop k = [o'] := by
    have : (L.drop k).length = 1 := by rw [List.length_drop]; omega
    exact List.length_eq_one_iff.1 this
  rw [ho'] at h hg
  have hL : L = L.take k ++ [o'] := by rw [← ho', List.take_append_drop]
  generalize L.take k = p at *
  subst hL
  have hM : (S n l M os).objs.length = M := ol_length M os
  refine WP.drawT hm he hcl (by rw [hk]; exact hla) (by simpa using hg) ?_
  rw [hM, hk]
  rw [S_more]
  exact h
theorem rd_tail {ops : Array Oper} {N i : Nat} {o : Oper} {s : St} {rs : List Rec} (hf : freeOk ops rs = true) (h : asemC P ops [o] s (Q .normal)) : RunD P ops N i [] s rs fun rs s' => freeOk ops rs = true ∧ asemC P ops [o] s' (Q .normal) := ⟨hf, h⟩
end
section
variable {P : Program} {n M : Nat} {l : List (Nat × AV)} {os : List (Nat × Option AObj)} {d t : Tmp} {ty : TypeId} {pos : String} {af : Array Edge} {ops : Array Oper} {rest : List Oper} {K : St → Prop} {j : Nat} {want p : Bool} {x : AV} {op : Op} {a b c : Operand}
theorem as_split {r0 : List Oper} (hg : opq n l (.tmp t) = some (.val (.bool p))) (h1 : p = true → asemC P ops r0 (S n ((t, .val (.bool true)) :: l) M os) K) (h2 : p = false → asemC P ops r0 (S n ((t, .val (.bool false)) :: l) M os) K) : asemC P ops r0 (S n l M os) K := by
  cases p with
  | true => have := h1 rfl; rwa [S_lit hg] at this
  | false => have := h2 rfl; rwa [S_lit hg] at this
theorem sk_no (ht : (ops[j]?).bind (·.dst) = some t) (hg : opq n l (.tmp t) = some (.val (.bool (!want)))) (hk : asemC P ops rest (S n ((d, .any) :: l) M os) K) : asemC P ops (⟨some d, op, ty, pos, af, some (j, want)⟩ :: rest) (S n l M os) K := by
  simp only [asemC]
  refine .inl ⟨!want, yielded_q ht hg, ?_, fun _ => ?_⟩
  · intro h; exact absurd h (by cases want <;> decide)
  rw [ht, S_put, S_lit hg, S_put]
  exact hk
theorem pk_t (hc : opq n l c = some (.val (.bool true))) (ha : opq n l a = some x) (hk : asemC P ops rest (S n ((d, x) :: l) M os) K) : asemC P ops (⟨some d, .pick c a b, ty, pos, af, none⟩ :: rest) (S n l M os) K := by
  simp only [asemC]
  refine .inl ⟨(x, .none), ?_, ?_⟩
  · simp only [aop, opq_op hc, opq_op ha, pickA, pure']
    split <;> simp_all
  · simp only [St.after, S_put]; exact hk
theorem pk_f (hc : opq n l c = some (.val (.bool false))) (hb : opq n l b = some x) (hk : asemC P ops rest (S n ((d, x) :: l) M os) K) : asemC P ops (⟨some d, .pick c a b, ty, pos, af, none⟩ :: rest) (S n l M os) K := by
  simp only [asemC]
  refine .inl ⟨(x, .none), ?_, ?_⟩
  · simp only [aop, opq_op hc, opq_op hb, pickA, pure']
    split <;> simp_all
  · simp only [St.after, S_put]; exact hk
end
end Go.Lg

namespace Go.Lg
theorem sB : (∀ {p : Prop} [Decidable p], (decide p = true) = p) ∧
  (∀ {p : Prop} [Decidable p], decide p = false ↔ ¬p) ∧
  (∀ {p : Prop} [Decidable p], ¬¬p ↔ p) ∧
  (∀ a b : Bool, ((a && b) = true) = (a = true ∧ b = true)) ∧
  (∀ a b : Bool, ((a || b) = true) = (a = true ∨ b = true)) ∧
  (∀ {b : Bool}, ((!b) = true) = (b = false)) ∧
  (∀ {b : Bool}, ((!b) = false) = (b = true)) ∧
  (∀ {x y : Bool}, (x || y) = false ↔ x = false ∧ y = false) ∧
  (∀ {x y : Bool}, (x && y) = false ↔ x = false ∨ y = false) ∧
  (∀ {a b : Int}, ¬a < b ↔ b ≤ a) ∧
  (∀ {a b : Int}, ¬a ≤ b ↔ b < a) ∧
  ((!true) = false) ∧
  ((!false) = true) ∧
  (∀ {b : Bool}, (¬b = true) = (b = false)) ∧
  (∀ {b : Bool}, (¬b = false) = (b = true)) := ⟨@decide_eq_true_eq, @decide_eq_false_iff_not, @Decidable.not_not, Bool.and_eq_true, Bool.or_eq_true, @Bool.not_eq_true', @Bool.not_eq_false', @Bool.or_eq_false_iff, @Bool.and_eq_false_iff, @Int.not_lt, @Int.not_le, Bool.not_true, Bool.not_false, @Bool.not_eq_true, @Bool.not_eq_false⟩
theorem sH : (∀ {α : Type} {a : α} {l : List α} {p : α → Bool}, (a :: l).all p = (p a && l.all p)) ∧
  (∀ {α : Type} {p : α → Bool} {xs ys : List α}, (xs ++ ys).all p = (xs.all p && ys.all p)) ∧
  (∀ {α : Type} {p : α → Bool}, ([] : List α).all p = true) ∧
  (∀ b : Bool, (b && true) = b) := ⟨@List.all_cons, @List.all_append, @List.all_nil, Bool.and_true⟩
theorem sL : (∀ {α : Type} {n : Nat} {a : α}, (List.replicate n a).length = n) ∧
  (∀ {α : Type} {us : List α} {i : Nat} {a : α}, (us.set i a).length = us.length) ∧
  (∀ {α : Type} {us bs : List α}, (us ++ bs).length = us.length + bs.length) ∧
  (∀ {α : Type} {β : Type} {us : List α} (f : α → β), (us.map f).length = us.length) ∧
  (∀ {α : Type} {a : α} {us : List α}, (a :: us).length = us.length + 1) ∧
  (∀ {α : Type}, ([] : List α).length = 0) ∧
  (∀ {α : Type} {i : Nat} {l : List α}, (l.take i).length = min i l.length) ∧
  (∀ {α : Type} {i : Nat} {l : List α}, (l.drop i).length = l.length - i) := ⟨@List.length_replicate, @List.length_set, @List.length_append, @List.length_map, @List.length_cons, @List.length_nil, @List.length_take, @List.length_drop⟩
theorem sZ : (∀ {α : Type} (us : List α), us.toArray.size = us.length) ∧
  (∀ {a b : ByteArray}, (a ++ b).size = a.size + b.size) ∧
  (∀ {α : Type} {us bs : List α}, (us ++ bs).length = us.length + bs.length) ∧
  (∀ {α : Type} {a : α} {us : List α}, (a :: us).length = us.length + 1) ∧
  (∀ {α : Type}, ([] : List α).length = 0) := ⟨@List.size_toArray, @ByteArray.size_append, @List.length_append, @List.length_cons, @List.length_nil⟩
end Go.Lg

namespace Go.Lg
open Go.RowKit
def opp (n : Nat) (l : List (Nat × AV)) (a : Operand) : Option AV := match opq n l a with
  | some x => bif x.plain then some x else none
  | none => none
section
variable {P : Program} {n M N i0 : Nat} {l : List (Nat × AV)} {os : List (Nat × Option AObj)} {e l' t : List Bool} {a b c d : Operand} {x y : AV} {dd tg : Tmp} {tyo : TypeId} {pos : String} {af : Array Edge} {ops : Array Oper} {rest : List Oper} {KD : List Rec → St → Prop} {K : St → Prop} {rs : List Rec} {jg : Nat} {want : Bool}
theorem opp_b (h : opp n l a = some x) : opq n l a = some x ∧ x.plain = true := by
  unfold opp at h
  cases hq : opq n l a with
  | none => rw [hq] at h; cases h
  | some y =>
    rw [hq] at h
    simp only at h
    cases hp : y.plain with
    | false => rw [hp] at h; cases h
    | true => rw [hp] at h; injection h with h; subst h; exact ⟨rfl, hp⟩
theorem opp_o (h : opp n l a = some x) : opq n l a = some x := (opp_b h).1
theorem opp_p (h : opp n l a = some x) : x.plain = true := (opp_b h).2
theorem opp_q (h : opp n l a = some x) : Rq n l e a x := rq_p (opp_b h).1 (opp_b h).2
section
variable {k kk : IntKind} {p q : Int} {ty ty2 : TypeId} {s u : ByteArray} {ti tj te : TI} {el : TypeId} {cs es : List AV} {i j id off sz len : Nat} {ed : AV} {b' : Bool}
theorem smove (h : opp n l a = some x) (hk : asemC P ops rest (S n ((dd, x) :: l) M os) K) : asemC P ops (⟨some dd, (.move a), tyo, pos, af, none⟩ :: rest) (S n l M os) K := su (ap_move (opp_q h)) hk
theorem rmove (h : opp n l a = some x) (hk : RunD P ops N (i0 + 1) rest (S n ((dd, x) :: l) M os) (rs ++ [⟨some dd, [], topq n l (Op.operands (.move a)).toList⟩]) KD) : RunD P ops N i0 (⟨some dd, (.move a), tyo, pos, af, none⟩ :: rest) (S n l M os) rs KD := rd_u (by first | (simp [Op.operands, plainq, opp_o h, opp_p h]; done) | simp [Op.operands, plainq, AV.plain, opp_o h]) rfl (ap_move (opp_q h)) hk
theorem amove (h : opp n l a = some x) : Ap P n l M os e (.move a) x := ap_move (opp_q h)
theorem snilc {id k i j : Nat} (h : opp n l a = some (.ptr id k i j)) (hk : asemC P ops rest (S n ((dd, (.ptr id k i j)) :: l) M os) K) : asemC P ops (⟨some dd, (.nilCheck a), tyo, pos, af, none⟩ :: rest) (S n l M os) K := su (ap_nilc (opp_q h)) hk
theorem rnilc {id k i j : Nat} (h : opp n l a = some (.ptr id k i j)) (hk : RunD P ops N (i0 + 1) rest (S n ((dd, (.ptr id k i j)) :: l) M os) (rs ++ [⟨some dd, [], topq n l (Op.operands (.nilCheck a)).toList⟩]) KD) : RunD P ops N i0 (⟨some dd, (.nilCheck a), tyo, pos, af, none⟩ :: rest) (S n l M os) rs KD := rd_u (by first | (simp [Op.operands, plainq, opp_o h, opp_p h]; done) | simp [Op.operands, plainq, AV.plain, opp_o h]) rfl (ap_nilc (opp_q h)) hk
theorem sassign (h : opp n l a = some x) (hk : asemC P ops rest (S n ((dd, x) :: l) M os) K) : asemC P ops (⟨some dd, (.assign a), tyo, pos, af, none⟩ :: rest) (S n l M os) K := su (ap_assign (opp_q h)) hk
theorem sadd (ha : opp n l a = some (.val (.int k p))) (hb : opp n l b = some (.val (.int k q))) (h : inr k (p + q)) (hk : asemC P ops rest (S n ((dd, (.val (.int k (p + q)))) :: l) M os) K) : asemC P ops (⟨some dd, (.binOp .add ty a b ty2), tyo, pos, af, none⟩ :: rest) (S n l M os) K := su (ap_add (opp_q ha) (opp_q hb) h) hk
theorem asub (ha : opp n l a = some (.val (.int k p))) (hb : opp n l b = some (.val (.int k q))) (h : inr k (p - q)) : Ap P n l M os e (.binOp .sub ty a b ty2) (.val (.int k (p - q))) := ap_sub (opp_q ha) (opp_q hb) h
theorem amul (ha : opp n l a = some (.val (.int k p))) (hb : opp n l b = some (.val (.int k q))) (h : inr k (p * q)) : Ap P n l M os e (.binOp .mul ty a b ty2) (.val (.int k (p * q))) := ap_mul (opp_q ha) (opp_q hb) h
theorem seql (ha : opp n l a = some (.val (.int k p))) (hb : opp n l b = some (.val (.int k q))) (hk : asemC P ops rest (S n ((dd, (.val (.bool (decide (p = q))))) :: l) M os) K) : asemC P ops (⟨some dd, (.binOp .eql ty a b ty2), tyo, pos, af, none⟩ :: rest) (S n l M os) K := su (ap_eql (opp_q ha) (opp_q hb)) hk
theorem aneq (ha : opp n l a = some (.val (.int k p))) (hb : opp n l b = some (.val (.int k q))) : Ap P n l M os e (.binOp .neq ty a b ty2) (.val (.bool (!decide (p = q)))) := ap_neq (opp_q ha) (opp_q hb)
theorem slss (ha : opp n l a = some (.val (.int k p))) (hb : opp n l b = some (.val (.int k q))) (hk : asemC P ops rest (S n ((dd, (.val (.bool (decide (p < q))))) :: l) M os) K) : asemC P ops (⟨some dd, (.binOp .lss ty a b ty2), tyo, pos, af, none⟩ :: rest) (S n l M os) K := su (ap_lss (opp_q ha) (opp_q hb)) hk
theorem agtr (ha : opp n l a = some (.val (.int k p))) (hb : opp n l b = some (.val (.int k q))) : Ap P n l M os e (.binOp .gtr ty a b ty2) (.val (.bool (decide (q < p)))) := ap_gtr (opp_q ha) (opp_q hb)
theorem ageq (ha : opp n l a = some (.val (.int k p))) (hb : opp n l b = some (.val (.int k q))) : Ap P n l M os e (.binOp .geq ty a b ty2) (.val (.bool (decide (q ≤ p)))) := ap_geq (opp_q ha) (opp_q hb)
theorem seqs (ha : opp n l a = some (.val (.string s))) (hb : opp n l b = some (.val (.string u))) (hk : asemC P ops rest (S n ((dd, (.val (.bool (decide (s = u))))) :: l) M os) K) : asemC P ops (⟨some dd, (.binOp .eql ty a b ty2), tyo, pos, af, none⟩ :: rest) (S n l M os) K := su (ap_eqs (opp_q ha) (opp_q hb)) hk
theorem aeqs (ha : opp n l a = some (.val (.string s))) (hb : opp n l b = some (.val (.string u))) : Ap P n l M os e (.binOp .eql ty a b ty2) (.val (.bool (decide (s = u)))) := ap_eqs (opp_q ha) (opp_q hb)
theorem anes (ha : opp n l a = some (.val (.string s))) (hb : opp n l b = some (.val (.string u))) : Ap P n l M os e (.binOp .neq ty a b ty2) (.val (.bool (!decide (s = u)))) := ap_nes (opp_q ha) (opp_q hb)
theorem acat (ha : opp n l a = some (.val (.string s))) (hb : opp n l b = some (.val (.string u))) (h : s.size + u.size ≤ 9223372036854775807) : Ap P n l M os e (.binOp .add ty a b ty2) (.val (.string (s ++ u))) := ap_cat (opp_q ha) (opp_q hb) h
theorem anot {p : Bool} (ha : opp n l a = some (.val (.bool p))) : Ap P n l M os e (.unOp .not ty a) (.val (.bool !p)) := ap_not (opp_q ha)
theorem sloadw [h : TIc P ty ti] (ha : opp n l a = some (.iptr (AV.cells x) 0)) (hp : part ti x.cells 0 = some x) (hk : asemC P ops rest (S n ((dd, x) :: l) M os) K) : asemC P ops (⟨some dd, (.load ty a), tyo, pos, af, none⟩ :: rest) (S n l M os) K := su (ap_load_w (opp_q ha) hp) hk
theorem aloadw [h : TIc P ty ti] (ha : opp n l a = some (.iptr (AV.cells x) 0)) (hp : part ti x.cells 0 = some x) : Ap P n l M os e (.load ty a) x := ap_load_w (opp_q ha) hp
theorem aloadi [h : TIc P ty ti] (ha : opp n l a = some (.iptr cs j)) (hp : part ti cs j = some x) : Ap P n l M os e (.load ty a) x := ap_load_i (opp_q ha) hp
theorem sloadpw {k : Nat} [h : TIc P ty ti] (ha : opp n l a = some (.ptr id k i 0)) (ho : lookq M os id = some (.arr k es)) (hi : es[i]? = some x) (hp : part ti x.cells 0 = some x) (hk : asemC P ops rest (S n ((dd, x) :: l) M os) K) : asemC P ops (⟨some dd, (.load ty a), tyo, pos, af, none⟩ :: rest) (S n l M os) K := su (ap_load_pw (opp_q ha) ho hi hp) hk
theorem sloadp {k : Nat} [h : TIc P ty ti] (ha : opp n l a = some (.ptr id k i j)) (ho : lookq M os id = some (.arr k es)) (hi : es[i]? = some y) (hp : part ti y.cells j = some x) (hk : asemC P ops rest (S n ((dd, x) :: l) M os) K) : asemC P ops (⟨some dd, (.load ty a), tyo, pos, af, none⟩ :: rest) (S n l M os) K := su (ap_load_p (opp_q ha) ho hi hp) hk
theorem rloadp {k : Nat} [h : TIc P ty ti] (ha : opp n l a = some (.ptr id k i j)) (ho : lookq M os id = some (.arr k es)) (hi : es[i]? = some y) (hp : part ti y.cells j = some x) (hk : RunD P ops N (i0 + 1) rest (S n ((dd, x) :: l) M os) (rs ++ [⟨some dd, [], topq n l (Op.operands (.load ty a)).toList⟩]) KD) : RunD P ops N i0 (⟨some dd, (.load ty a), tyo, pos, af, none⟩ :: rest) (S n l M os) rs KD := rd_u (by first | (simp [Op.operands, plainq, opp_o ha, opp_p ha]; done) | simp [Op.operands, plainq, AV.plain, opp_o ha]) rfl (ap_load_p (opp_q ha) ho hi hp) hk
theorem sfieldp {k : Nat} [h : TIc P ty ti] {f : Nat} (ha : opp n l a = some (.ptr id k i j)) (hf : ti.fields[f]? = some (off, sz)) (hs : Nat.beq sz 0 = false) (hk : asemC P ops rest (S n ((dd, (.ptr id k i (j + off))) :: l) M os) K) : asemC P ops (⟨some dd, (.fieldAddr ty a f), tyo, pos, af, none⟩ :: rest) (S n l M os) K := su (ap_field_p (opp_q ha) hf hs) hk
theorem rfieldp {k : Nat} [h : TIc P ty ti] {f : Nat} (ha : opp n l a = some (.ptr id k i j)) (hf : ti.fields[f]? = some (off, sz)) (hs : Nat.beq sz 0 = false) (hk : RunD P ops N (i0 + 1) rest (S n ((dd, (.ptr id k i (j + off))) :: l) M os) (rs ++ [⟨some dd, [], topq n l (Op.operands (.fieldAddr ty a f)).toList⟩]) KD) : RunD P ops N i0 (⟨some dd, (.fieldAddr ty a f), tyo, pos, af, none⟩ :: rest) (S n l M os) rs KD := rd_u (by first | (simp [Op.operands, plainq, opp_o ha, opp_p ha]; done) | simp [Op.operands, plainq, AV.plain, opp_o ha]) rfl (ap_field_p (opp_q ha) hf hs) hk
theorem afieldi [h : TIc P ty ti] {f : Nat} (ha : opp n l a = some (.iptr cs j)) (hf : ti.fields[f]? = some (off, sz)) (hs : Nat.beq sz 0 = false) : Ap P n l M os e (.fieldAddr ty a f) (.iptr cs (j + off)) := ap_field_i (opp_q ha) hf hs
theorem sidxn {k : Nat} {α : Type} [Inhabited α] {f : α → AV} {L : List α} {kk : IntKind} {i : Nat} {bt : Nat} [h : TEl P ty te k bt] (ha : opp n l a = some (.sl k (L.map f))) (hb : opp n l b = some (.val (.int kk (i : Int)))) (hi : i < L.length) (hk : asemC P ops rest (S n ((dd, (.iptr (AV.cells (f (nth L i))) 0)) :: l) M os) K) : asemC P ops (⟨some dd, (.indexAddr ty a b), tyo, pos, af, none⟩ :: rest) (S n l M os) K := su (ap_idx_n (opp_q ha) (opp_q hb) hi) hk
theorem aidxn {k : Nat} {α : Type} [Inhabited α] {f : α → AV} {L : List α} {kk : IntKind} {i : Nat} {bt : Nat} [h : TEl P ty te k bt] (ha : opp n l a = some (.sl k (L.map f))) (hb : opp n l b = some (.val (.int kk (i : Int)))) (hi : i < L.length) : Ap P n l M os e (.indexAddr ty a b) (.iptr (AV.cells (f (nth L i))) 0) := ap_idx_n (opp_q ha) (opp_q hb) hi
theorem asidxn {s : ByteArray} {kk : IntKind} {i : Nat} [h : TIc P ty ti] (ha : opp n l a = some (.val (.string s))) (hb : opp n l b = some (.val (.int kk (i : Int)))) (hs : ti.sh = .string) (hi : i < s.size) : Ap P n l M os e (.index ty a b) (.val (.int .u8 (bAt s i))) := ap_sidx_n (opp_q ha) (opp_q hb) hs hi
theorem slenm {k : Nat} {α : Type} {f : α → AV} {L : List α} [h : TIc P ty ti] (hs : ti.sh = .slice) (ha : opp n l a = some (.sl k (L.map f))) (hk : asemC P ops rest (S n ((dd, (.val (.int .i64 (L.length : Int)))) :: l) M os) K) : asemC P ops (⟨some dd, (.call ⟨.builtin .len, #[a], #[ty]⟩), tyo, pos, af, none⟩ :: rest) (S n l M os) K := su (ap_len_m hs (opp_q ha)) hk
theorem alenstr {s : ByteArray} [h : TIc P ty ti] (hs : ti.sh = .string) (ha : opp n l a = some (.val (.string s))) : Ap P n l M os e (.call ⟨.builtin .len, #[a], #[ty]⟩) (.val (.int .i64 (s.size : Int))) := ap_len_str hs (opp_q ha)
theorem amin {k k2 : IntKind} {p q : Int} {t1 t2 : TypeId} (ha : opp n l a = some (.val (.int k p))) (hb : opp n l b = some (.val (.int k2 q))) : Ap P n l M os e (.call ⟨.builtin .min, #[a, b], #[t1, t2]⟩) (.val (.int k (min p q))) := ap_min (opp_q ha) (opp_q hb)
theorem aconv {src : TypeId} {k kk : IntKind} {p : Int} [h0 : TIc P src tj] [h : TIc P ty ti] (ha : opp n l a = some (.val (.int kk p))) (hk : ti.kind = some k) (hb : b8 P ti = false) (hr : inr k p) : Ap P n l M os e (.convert src ty a) (.val (.int k p)) := ap_conv (opp_q ha) hk hb hr
theorem aextract {vs : List AV} (ha : opp n l a = some (.tup vs)) (hi : vs[i]? = some x) : Ap P n l M os e (.extract a i) x := ap_extract (opp_q ha) hi
theorem afieldv {f off : Nat} [h : TFd P ty f off ti] {cs : List AV} (ha : opp n l a = some (.agg cs)) (hp : part ti cs off = some x) : Ap P n l M os e (.field ty a f) x := ap_fieldv (opp_q ha) hp
end
end
section
variable {P : Program} {n M : Nat} {l : List (Nat × AV)} {os : List (Nat × Option AObj)} {e : List Bool} {op : Op} {d : Tmp} {ty : TypeId} {pos : String} {af : Array Edge} {ops : Array Oper} {rest : List Oper} {K : St → Prop} {j : Nat} {want : Bool}
theorem skZ (hg : Gq ops n l j want e) (he : e.all id = false) (hk : asemC P ops rest (S n ((d, .cond e (.val (.bool true))) :: l) M os) K) : asemC P ops (⟨some d, op, ty, pos, af, some (j, want)⟩ :: rest) (S n l M os) K := sg hg (fun h => absurd h (by rw [he]; decide)) hk
end
end Go.Lg

namespace Go.Lg
def jA := @WP.seq
end Go.Lg

namespace Go.Lg
def jF := @WP.block
end Go.Lg

namespace Go.Lg
def jH := @go_n
end Go.Lg

namespace Go.Lg
def jI := @WP.skip
end Go.Lg

namespace Go.Lg
def jJ := @WP.exit
end Go.Lg

namespace Go.Lg
def jK := @WP.ret
end Go.Lg

namespace Go.Lg
def jL := @go_x
end Go.Lg

namespace Go.Lg
def jM := @go_r
end Go.Lg

namespace Go.Lg
def jN := @bl_n
end Go.Lg

namespace Go.Lg
def jO := @bl_r
end Go.Lg

namespace Go.Lg
def jP := @bl_x
end Go.Lg

namespace Go.Lg
def jS := @bo_r
end Go.Lg

namespace Go.Lg
def jW := @asemC_end
end Go.Lg

namespace Go.Lg
open Go.Proofs
set_option linter.unusedSimpArgs false
set_option linter.unusedVariables false
attribute [local irreducible] Ap Rq asemC WP RunD Ret Gq thenA inBlockA bodyQ noGotoA RqL RqP OpP
set_option maxHeartbeats 4000000
theorem letter_fn (c : Int) : Fn Tryd.prog 63 [.val (.int .u8 c)] (boolA (letB c)) := by
  refine Fn.intro rfl (by kernel_rfl) Tryd.func63 rfl rfl Tryd.ntmps63 (by exact Nat.le_of_ble_eq_true rfl) ?_; intro Γ hm
  (repeat' (first | apply jA | apply jH | apply jK | apply jS | (refine WP.regionC (id := 0) ?_; (refine sassign rfl ?_); apply jW) | (refine WP.regionC (id := 1) ?_; (refine smove rfl ?_); (refine su (ageq rfl rfl) ?_); (refine smove rfl ?_); (refine sg (gq_vt rfl rfl) (fun he => ap_move (rq_p rfl rfl)) ?_); (refine sg (gq_vt rfl rfl) (fun he => ap_leq (rq_c rfl rfl) (rq_p rfl rfl)) ?_); (refine su (ap_and (rq_p rfl rfl) (rq_c rfl rfl)) ?_); (refine smove rfl ?_); (refine sg (gq_vf rfl rfl) (fun he => ap_move (rq_p rfl rfl)) ?_); (refine sg (gq_vf rfl rfl) (fun he => ap_geq (rq_c rfl rfl) (rq_p rfl rfl)) ?_); (refine sg (gq_vf rfl rfl) (fun he => ap_move (rq_c rfl rfl)) ?_); (refine sg (gq_ct rfl rfl) (fun he => ap_move (rq_p rfl rfl)) ?_); (refine sg (gq_ct rfl rfl) (fun he => ap_leq (rq_c rfl rfl) (rq_p rfl rfl)) ?_); (refine sg (gq_vf rfl rfl) (fun he => ap_and (rq_c rfl rfl) (rq_c rfl rfl)) ?_); (refine su (ap_or (rq_p rfl rfl) (rq_c rfl rfl)) ?_); (refine sassign rfl ?_); apply jW) | exact ret_eq rfl rfl rfl))
def idx (l : List ByteArray) (s : ByteArray) : Int := indexP (fun x => decide (s = x)) l
theorem index_fn (l : List ByteArray) (s : ByteArray) : Fn Tryd.prog 52 [strsA l, strA s] (intA (idx l s)) := by
  refine Fn.intro rfl (by kernel_rfl) Tryd.func52 rfl rfl Tryd.ntmps52 (by exact Nat.le_of_ble_eq_true rfl) ?_; intro Γ hm
  refine wp_lens 0 rfl fun h0 => ?_
  rw [lens_strsA] at h0
  (repeat' (first | apply jA | apply jF | apply jH | (refine WP.regionC (id := 0) ?_; (refine sassign rfl ?_); apply jW) | (refine WP.regionC (id := 1) ?_; (refine smove rfl ?_); (refine slenm rfl rfl ?_); (refine smove rfl ?_); apply jW)))
  refine wp_loop (fun k => k ≤ l.length ∧ (l.take k).any (fun x => decide (s = x)) = false) (fun k => l.length - k) (fun k => (S 19 [(0, strsA l), (1, strA s), (7, intA (l.length : Nat)), (8, intA (k : Nat))] 0 [])) 0 ⟨[], ToR.S rfl (by repeat' (first | exact rt_nil | refine rt_e rfl rfl ?_ | refine rt_p rfl rfl (by first | (simp [AV.bd, bdL, bdL_append]; done) | fail) ?_)) (by repeat' (exact ro_nil)) rfl (by (rw [hm]; exact rfl)) rfl (by (simp [bdT, AV.bd, bdL, bdL_append]; done)) (by repeat' (exact True.intro)) (by (rw [hm]; exact Nat.le_of_ble_eq_true rfl))⟩ ⟨Nat.zero_le _, rfl⟩ ?_
  rintro k ⟨hk, hall⟩
  (repeat' (first | apply jA | apply jF | apply jH | apply jI | apply jJ | apply jK | apply jL | apply jM | apply jN | apply jO | apply jP | apply jS | (refine wp_cond rfl (fun hc => ?_) (fun hc => ?_) <;> (try simp only [sB, ne_eq, reduceCtorEq] at hc) <;> (try (exfalso; omega))) | (refine WP.regionC (id := 2) ?_; (refine slss rfl rfl ?_); apply jW) | (refine WP.regionC ?_; (refine smove rfl ?_); (refine sassign rfl ?_); apply jW) | (refine WP.regionC (id := 4) ?_; (refine smove rfl ?_); (refine smove rfl ?_); (refine smove rfl ?_); (refine sidxn rfl rfl (by omega) ?_); (refine sloadw rfl rfl ?_); (refine seqs rfl rfl ?_); apply jW) | (refine WP.regionC (id := 6) ?_; (refine sadd rfl rfl (by exact inr_i64_of (by omega)) ?_); (refine smove rfl ?_); apply jW) | (refine WP.regionC (id := 7) ?_; (refine sassign rfl ?_); apply jW) | refine ret_i rfl ?_))
  · exact (indexP_at (by omega) hall (by simp [hc])).symm
  · exact ⟨k + 1, ⟨by omega, by omega, take_any_succ (by omega) hall (by simp [hc])⟩, ⟨[], ToR.S rfl (by repeat' (first | exact rt_nil | refine rt_e rfl rfl ?_ | refine rt_p rfl rfl (by first | (simp [AV.bd, bdL, bdL_append]; done) | fail) ?_)) (by repeat' (exact ro_nil)) rfl (by (rw [hm]; exact rfl)) rfl (by (simp [bdT, AV.bd, bdL, bdL_append]; done)) (by repeat' (exact True.intro)) (by (rw [hm]; exact Nat.le_of_ble_eq_true rfl))⟩⟩
  · exact (indexP_no (by omega) hall).symm
theorem containsS_fn (l : List ByteArray) (s : ByteArray) : Fn Tryd.prog 22 [strsA l, strA s] (boolA (l.any fun x => decide (s = x))) := by
  refine Fn.intro rfl (by kernel_rfl) Tryd.func22 rfl rfl Tryd.ntmps22 (by exact Nat.le_of_ble_eq_true rfl) ?_; intro Γ hm
  (repeat' (first | apply jA | apply jH | apply jK | apply jS | (refine WP.regionC (id := 0) ?_; (refine sassign rfl ?_); apply jW) | (refine WP.regionC (id := 1) ?_; (refine smove rfl ?_); (refine smove rfl ?_); (refine sc_p rfl rfl (by first | ((repeat' first | exact SubL.nil | refine SubL.cons ?_ ?_ | exact Sub.refl); done) | fail) (by first | (simp [bdL, bdL_append, AV.bd]; done) | fail) (index_fn _ _) ?_); (refine su (ageq rfl rfl) ?_); (refine sassign rfl ?_); apply jW) | refine ret_b rfl ?_))
  exact indexP_any
def kw0 : ByteArray := ⟨#[115, 116, 97, 114, 116]⟩
def kw1 : ByteArray := ⟨#[108, 101, 102, 116]⟩
def kw2 : ByteArray := ⟨#[114, 105, 103, 104, 116]⟩
def kw3 : ByteArray := ⟨#[110, 111, 110, 101]⟩
def kw4 : ByteArray := ⟨#[112, 114, 105, 99, 101]⟩
def kws : List ByteArray := [kw0, kw1, kw2, kw3, kw4]
def gnCh (s : ByteArray) (i : Nat) : Bool := letB (bAt s i) || (!decide (i = 0) && (digB (bAt s i) || decide (bAt s i = 95)))
def gnOk (s : ByteArray) : Bool := decide (1 ≤ s.size) && decide (s.size ≤ 24) && (List.range s.size).all (gnCh s) && !kws.any (fun x => decide (s = x))
theorem size_zero {s : ByteArray} (hs : s.size = 0) : s = ⟨#[]⟩ := by
  obtain ⟨⟨l⟩⟩ := s
  have : l = [] := List.eq_nil_of_length_eq_zero (by simpa [ByteArray.size] using hs)
  subst this; rfl
theorem gnOk_no0 {s : ByteArray} (h : letB (bAt s 0) = false) : gnOk s = false := by
  by_cases h0 : s.size = 0
  · simp [gnOk, h0]
  · have : gnCh s 0 = false := by simp [gnCh, h]
    simp only [gnOk, range_all_no (k := 0) (n := s.size) (by omega) this, Bool.and_false, Bool.false_and]
theorem name_fn (s : ByteArray) : Fn Tryd.prog 51 [strA s] (boolA (gnOk s)) := by
  refine Fn.intro rfl (by kernel_rfl) Tryd.func51 rfl rfl Tryd.ntmps51 (by exact Nat.le_of_ble_eq_true rfl) ?_; intro Γ hm
  by_cases hs : s.size = 0
  · have e0 := size_zero hs
    (repeat' (first | apply jA | apply jF | apply jH | apply jI | apply jK | apply jM | apply jS | (refine wp_cond rfl (fun hc => ?_) (fun hc => ?_) <;> (try simp only [sB, ne_eq, reduceCtorEq] at hc) <;> (try (exfalso; omega))) | (refine WP.regionC ?_; (refine sassign rfl ?_); apply jW) | (refine WP.regionC (id := 1) ?_ <;> (refine smove rfl ?_) <;> (refine seqs rfl rfl ?_) <;> (refine smove rfl ?_) <;> (refine sg (gq_vf rfl rfl) (fun he => ap_move (rq_p rfl rfl)) ?_) <;> (refine sg (gq_vf rfl rfl) (fun he => ap_len_str rfl (rq_c rfl rfl)) ?_) <;> (refine sg (gq_vf rfl rfl) (fun he => ap_gtr (rq_c rfl rfl) (rq_p rfl rfl)) ?_) <;> (refine su (ap_or (rq_p rfl rfl) (rq_c rfl rfl)) ?_) <;> (refine smove rfl ?_) <;> (refine sg (gq_vf rfl rfl) (fun he => ap_move (rq_p rfl rfl)) ?_) <;> (refine sg (gq_vf rfl rfl) (fun he => ap_sidx_n (rq_c rfl rfl) (rq_p rfl rfl) rfl (by (try simp only [sH, id, sB, ne_eq, reduceCtorEq] at he); (exfalso; simp [*] at he; done))) ?_) <;> (refine sg_p (gq_vf rfl rfl) (fun he => ⟨(rq_p rfl rfl), (RqL.cons (rq_c rfl rfl) (RqL.nil)), (by first | ((repeat' first | exact SubL.nil | refine SubL.cons ?_ ?_ | exact Sub.refl); done) | fail), (by first | (simp [bdL, bdL_append, AV.bd]; done) | fail), letter_fn _⟩) ?_) <;> (refine sg (gq_vf rfl rfl) (fun he => ap_not (rq_c rfl rfl)) ?_) <;> (refine su (ap_or (rq_p rfl rfl) (rq_c rfl rfl)) ?_) <;> (refine smove rfl ?_) <;> ((refine as_split (t := 17) rfl (fun hc => ?_) (fun hc => ?_) <;> (try simp only [sB, ne_eq, reduceCtorEq] at hc) <;> (try (exfalso; omega)) <;> (first | refine sgt_lit rfl rfl rfl (OpP.cons rfl (OpP.cons rfl (OpP.cons rfl (OpP.cons rfl (OpP.cons rfl (OpP.nil)))))) rfl rfl rfl rfl rfl rfl ?_ | refine sk_no rfl rfl ?_))) <;> (refine sg (gq_vf rfl rfl) (fun he => ap_move (rq_p rfl rfl)) ?_) <;> (first | refine sk_no rfl rfl ?_ | refine sg_b (gq_vf rfl rfl) (fun he => ⟨(rq_p rfl rfl), (RqL.cons (rq_p rfl rfl) (RqL.cons (rq_c rfl rfl) (RqL.nil))), (by first | ((repeat' first | exact FzL.nil | refine FzL.cons ?_ ?_ | (exact Fz.list rfl rfl (fun _ => by simp [AV.bd, bdL, bdL_append]) (fun _ => rfl)) | (exact Fz.reflp (by simp [AV.bd, bdL, bdL_append]))); done) | fail), containsS_fn kws _, rfl⟩) ?_) <;> (first | refine su (ap_or (rq_p rfl rfl) (rq_c rfl rfl)) ?_ | refine pk_t rfl rfl ?_) <;> apply jW) | (refine WP.regionC (id := 3) ?_; (refine smove rfl ?_); (refine su (alenstr rfl rfl) ?_); (refine smove rfl ?_); apply jW) | refine ret_b rfl ?_))
    · rw [show gnOk s = false by simp [gnOk, hs]]
    · rcases hc with hc | hc
      · exact hc.elim
      · simp only [gnOk, hc, Bool.not_true, Bool.and_false]
    · rename_i h1; exact absurd e0 h1.1.1
  have hb0 := bAt_bd s 0
  have hne : ¬ s = ⟨#[]⟩ := by rintro rfl; exact hs rfl
  (repeat' (first | apply jA | apply jF | apply jH | apply jI | apply jK | apply jM | apply jS | (refine wp_cond rfl (fun hc => ?_) (fun hc => ?_) <;> (try simp only [sB, ne_eq, reduceCtorEq] at hc) <;> (try (exfalso; omega))) | (refine WP.regionC ?_; (refine sassign rfl ?_); apply jW) | (refine WP.regionC (id := 1) ?_ <;> (refine smove rfl ?_) <;> (refine seqs rfl rfl ?_) <;> (refine smove rfl ?_) <;> (refine sg (gq_vf rfl rfl) (fun he => ap_move (rq_p rfl rfl)) ?_) <;> (refine sg (gq_vf rfl rfl) (fun he => ap_len_str rfl (rq_c rfl rfl)) ?_) <;> (refine sg (gq_vf rfl rfl) (fun he => ap_gtr (rq_c rfl rfl) (rq_p rfl rfl)) ?_) <;> (refine su (ap_or (rq_p rfl rfl) (rq_c rfl rfl)) ?_) <;> (refine smove rfl ?_) <;> (refine sg (gq_vf rfl rfl) (fun he => ap_move (rq_p rfl rfl)) ?_) <;> (refine sg (gq_vf rfl rfl) (fun he => ap_sidx_n (rq_c rfl rfl) (rq_p rfl rfl) rfl (by (try simp only [sH, id, sB, ne_eq, reduceCtorEq] at he); (simp only [sL] <;> omega))) ?_) <;> (refine sg_p (gq_vf rfl rfl) (fun he => ⟨(rq_p rfl rfl), (RqL.cons (rq_c rfl rfl) (RqL.nil)), (by first | ((repeat' first | exact SubL.nil | refine SubL.cons ?_ ?_ | exact Sub.refl); done) | fail), (by first | (simp [bdL, bdL_append, AV.bd]; done) | fail), letter_fn _⟩) ?_) <;> (refine sg (gq_vf rfl rfl) (fun he => ap_not (rq_c rfl rfl)) ?_) <;> (refine su (ap_or (rq_p rfl rfl) (rq_c rfl rfl)) ?_) <;> (refine smove rfl ?_) <;> ((refine as_split (t := 17) rfl (fun hc => ?_) (fun hc => ?_) <;> (try simp only [sB, ne_eq, reduceCtorEq] at hc) <;> (try (exfalso; omega)) <;> (first | refine sgt_lit rfl rfl rfl (OpP.cons rfl (OpP.cons rfl (OpP.cons rfl (OpP.cons rfl (OpP.cons rfl (OpP.nil)))))) rfl rfl rfl rfl rfl rfl ?_ | refine sk_no rfl rfl ?_))) <;> (refine sg (gq_vf rfl rfl) (fun he => ap_move (rq_p rfl rfl)) ?_) <;> (first | refine sk_no rfl rfl ?_ | refine sg_b (gq_vf rfl rfl) (fun he => ⟨(rq_p rfl rfl), (RqL.cons (rq_p rfl rfl) (RqL.cons (rq_c rfl rfl) (RqL.nil))), (by first | ((repeat' first | exact FzL.nil | refine FzL.cons ?_ ?_ | (exact Fz.list rfl rfl (fun _ => by simp [AV.bd, bdL, bdL_append]) (fun _ => rfl)) | (exact Fz.reflp (by simp [AV.bd, bdL, bdL_append]))); done) | fail), containsS_fn kws s, rfl⟩) ?_) <;> (first | refine su (ap_or (rq_p rfl rfl) (rq_c rfl rfl)) ?_ | refine pk_t rfl rfl ?_) <;> apply jW) | (refine WP.regionC (id := 3) ?_; (refine smove rfl ?_); (refine su (alenstr rfl rfl) ?_); (refine smove rfl ?_); apply jW) | refine ret_b rfl ?_))
  · rename_i h1
    rcases h1 with (h1 | h1) | h1
    · exact absurd h1 hne
    · simp [gnOk]; omega
    · exact (gnOk_no0 h1).symm
  · rcases hc with hc | hc
    · exact hc.elim
    · simp only [gnOk, hc, Bool.not_true, Bool.and_false]
  rename_i h1
  obtain ⟨⟨_, h24⟩, hl0⟩ := h1
  have hkw := hc.2
  refine wp_loop (fun (k : Nat) => k ≤ s.size ∧ (List.range k).all (gnCh s) = true) (fun k => s.size - k)
    (fun k => (S 52 [(0, strA s), (23, intA (s.size : Nat)), (24, intA (k : Nat))] 0 [])) 0 ⟨[], ToR.S rfl (by repeat' (first | exact rt_nil | refine rt_e rfl rfl ?_)) (by repeat' (exact ro_nil)) rfl (by (rw [hm]; exact rfl)) rfl (by (simp [bdT, AV.bd, bdL, bdL_append]; done)) (by repeat' (exact True.intro)) (by (rw [hm]; exact Nat.le_of_ble_eq_true rfl))⟩ ⟨Nat.zero_le _, rfl⟩ ?_
  rintro k ⟨hk, hall⟩
  have hb := bAt_bd s k
  (repeat' (first | apply jA | apply jF | apply jH | apply jI | apply jJ | apply jK | apply jL | apply jM | apply jN | apply jO | apply jP | apply jS | (refine wp_cond rfl (fun hc => ?_) (fun hc => ?_) <;> (try simp only [sB, ne_eq, reduceCtorEq] at hc) <;> (try (exfalso; omega))) | (refine WP.regionC (id := 4) ?_; (refine slss rfl rfl ?_); apply jW) | (refine WP.regionC (id := 5) ?_; (refine smove rfl ?_); (refine sassign rfl ?_); apply jW) | (refine WP.regionC (id := 6) ?_; (refine smove rfl ?_); (refine smove rfl ?_); (refine su (asidxn rfl rfl rfl (by omega)) ?_); (refine sc_p rfl rfl (by first | ((repeat' first | exact SubL.nil | refine SubL.cons ?_ ?_ | exact Sub.refl); done) | fail) (by first | (simp [bdL, bdL_append, AV.bd]; done) | fail) (letter_fn _) ?_); (refine su (anot rfl) ?_); (refine smove rfl ?_); (refine sg (gq_vt rfl rfl) (fun he => ap_move (rq_p rfl rfl)) ?_); (refine sg (gq_vt rfl rfl) (fun he => ap_move (rq_p rfl rfl)) ?_); (refine sg (gq_vt rfl rfl) (fun he => ap_sidx_n (rq_c rfl rfl) (rq_c rfl rfl) rfl (by (try simp only [sH, id, sB, ne_eq, reduceCtorEq] at he); omega)) ?_); (refine sg (gq_vt rfl rfl) (fun he => ap_geq (rq_c rfl rfl) (rq_p rfl rfl)) ?_); (refine sg (gq_vt rfl rfl) (fun he => ap_move (rq_c rfl rfl)) ?_); (refine sg (gq_ct rfl rfl) (fun he => ap_move (rq_p rfl rfl)) ?_); (refine sg (gq_ct rfl rfl) (fun he => ap_move (rq_p rfl rfl)) ?_); (refine sg (gq_ct rfl rfl) (fun he => ap_sidx_n (rq_c rfl rfl) (rq_c rfl rfl) rfl (by (try simp only [sH, id, sB, ne_eq, reduceCtorEq] at he); omega)) ?_); (refine sg (gq_ct rfl rfl) (fun he => ap_leq (rq_c rfl rfl) (rq_p rfl rfl)) ?_); (refine sg (gq_vt rfl rfl) (fun he => ap_and (rq_c rfl rfl) (rq_c rfl rfl)) ?_); (refine sg (gq_vt rfl rfl) (fun he => ap_not (rq_c rfl rfl)) ?_); (refine su (ap_and (rq_p rfl rfl) (rq_c rfl rfl)) ?_); (refine smove rfl ?_); (refine sg (gq_vt rfl rfl) (fun he => ap_move (rq_p rfl rfl)) ?_); (refine sg (gq_vt rfl rfl) (fun he => ap_move (rq_p rfl rfl)) ?_); (refine sg (gq_vt rfl rfl) (fun he => ap_sidx_n (rq_c rfl rfl) (rq_c rfl rfl) rfl (by (try simp only [sH, id, sB, ne_eq, reduceCtorEq] at he); omega)) ?_); (refine sg (gq_vt rfl rfl) (fun he => ap_neq (rq_c rfl rfl) (rq_p rfl rfl)) ?_); (refine su (ap_and (rq_p rfl rfl) (rq_c rfl rfl)) ?_); apply jW) | (refine WP.regionC ?_; (refine sassign rfl ?_); apply jW) | (refine WP.regionC (id := 8) ?_; (refine sadd rfl rfl (by exact inr_i64_of (by omega)) ?_); (refine smove rfl ?_); apply jW) | refine ret_b rfl ?_))
  · rw [show gnOk s = false by simp only [gnOk]; rw [range_all_no (k := k) (by omega), Bool.and_false, Bool.false_and]; simp [gnCh, hc]; simp [letB, digB]; omega]
  · refine ⟨k + 1, ⟨by omega, by omega, range_all_succ hall ?_⟩, ⟨[], ToR.S rfl (by repeat' (first | exact rt_nil | refine rt_e rfl rfl ?_)) (by repeat' (exact ro_nil)) rfl (by (rw [hm]; exact rfl)) rfl (by (simp [bdT, AV.bd, bdL, bdL_append]; done)) (by repeat' (exact True.intro)) (by (rw [hm]; exact Nat.le_of_ble_eq_true rfl))⟩⟩
    by_cases h0 : k = 0
    · subst h0; simp [gnCh, hl0]
    · simp only [gnCh, digB, h0, decide_false, Bool.not_false, Bool.true_and, Bool.or_eq_true, Bool.and_eq_true, decide_eq_true_eq]
      rcases hc with (hc | hc) | hc
      · exact .inl hc
      · exact .inr (.inl hc)
      · exact .inr (.inr hc)
  have : k = s.size := by omega
  subst this
  simp only [gnOk, hall, hkw]; simp; omega
end Go.Lg

namespace Go.Lg
abbrev Tx := List UInt8
def isL (c : UInt8) : Bool := letB (c.toNat : Int)
def isD (c : UInt8) : Bool := digB (c.toNat : Int)
def isW (c : UInt8) : Bool := isL c || isD c || decide (c = 95)
def isB (c : UInt8) : Bool := decide (c = 32) || decide (c = 9) || decide (c = 13) || decide (c = 10)
def tokN : Tx → Nat
  | [] => 0
  | c :: r => if isL c then 1 + (r.takeWhile isW).length else if isD c then 1 + (r.takeWhile isD).length else 1
def comN (l : Tx) : Nat := (l.takeWhile fun c => !decide (c = 10)).length
theorem tokN_pos (c : UInt8) (r : Tx) : 1 ≤ tokN (c :: r) := by
  simp only [tokN]
  split
  · omega
  · split <;> omega
def lexL (l : Tx) (at_ : Nat) : List (Nat × Tx) :=
  match l with
  | [] => []
  | c :: r =>
    if isB c then lexL r (at_ + 1)
    else if c = 35 then lexL (r.drop (comN r)) (at_ + 1 + comN r)
    else (at_, (c :: r).take (tokN (c :: r))) :: lexL ((c :: r).drop (tokN (c :: r))) (at_ + tokN (c :: r))
termination_by l.length
decreasing_by
  all_goals simp only [List.length_cons, List.length_drop]
  · omega
  · omega
  · have := tokN_pos c r; omega
def lexT (l : Tx) : List Tx := (lexL l 0).map (·.2)
theorem lexL_nil (k : Nat) : lexL [] k = [] := by rw [lexL]
theorem lexL_cons (c : UInt8) (r : Tx) (k : Nat) : lexL (c :: r) k = if isB c then lexL r (k + 1) else if c = 35 then lexL (r.drop (comN r)) (k + 1 + comN r) else (k, (c :: r).take (tokN (c :: r))) :: lexL ((c :: r).drop (tokN (c :: r))) (k + tokN (c :: r)) := by
  rw [lexL]
def kwT : List Tx := kws.map bl
def nmT (t : Tx) : Bool := (match t with | [] => false | c :: _ => isL c) && !kwT.any fun k => decide (t = k)
theorem bAt_bl (s : ByteArray) (i : Nat) : bAt s i = (((bl s).getD i 0).toNat : Int) := rfl
inductive PR (α : Type) where
  | ok (a : α) (r : List Tx)
  | err (r : List Tx)
def seqOf : List GEx → GEx
  | [x] => x
  | l => .mk 2 ⟨#[]⟩ l
def altOf : List GEx → GEx
  | [x] => x
  | l => .mk 3 ⟨#[]⟩ l
def isN : List Tx → Bool
  | [] => false
  | t :: _ => nmT t
def hd (l : List Tx) : Tx := l.headD []
def sufT : GEx → List Tx → GEx × List Tx
  | x, [] => (x, [])
  | x, t :: r => if t = [42] then sufT (.mk 5 ⟨#[]⟩ [x]) r else if t = [43] then sufT (.mk 6 ⟨#[]⟩ [x]) r else if t = [63] then sufT (.mk 4 ⟨#[]⟩ [x]) r else (x, t :: r)
theorem sufT_len : ∀ (x : GEx) (l : List Tx), (sufT x l).2.length ≤ l.length
  | x, [] => Nat.le_refl _
  | x, t :: r => by
    rw [sufT]
    split
    · have := sufT_len (.mk 5 ⟨#[]⟩ [x]) r; simp; omega
    · split
      · have := sufT_len (.mk 6 ⟨#[]⟩ [x]) r; simp; omega
      · split
        · have := sufT_len (.mk 4 ⟨#[]⟩ [x]) r; simp; omega
        · exact Nat.le_refl _
mutual
def pPrim (l : List Tx) : PR GEx :=
  match l with
  | [] => .err []
  | t :: r =>
    if nmT t then .ok (.mk 1 (tx t) []) r
    else if t = [40] then
      match pAlts r with
      | .err q => .err q
      | .ok es q => match q with
        | [] => .err []
        | t' :: q' => if t' = [41] then .ok (altOf es) q' else .err (t' :: q')
    else .err (t :: r)
termination_by (l.length, 0)
def pItems (l : List Tx) : PR (List GEx) :=
  if isN l || decide (hd l = [40]) then
    match pPrim l with
    | .err r => .err r
    | .ok x r =>
      if h : (sufT x r).2.length < l.length then
        match pItems (sufT x r).2 with
        | .err q => .err q
        | .ok xs q => .ok ((sufT x r).1 :: xs) q
      else .err l
  else .ok [] l
termination_by (l.length, 1)
def pAlts (l : List Tx) : PR (List GEx) :=
  match pItems l with
  | .err q => .err q
  | .ok xs [] => .ok [seqOf xs] []
  | .ok xs (t :: q) =>
    if t = [124] then
      if h : q.length < l.length then
        match pAlts q with
        | .err q' => .err q'
        | .ok es q' => .ok (seqOf xs :: es) q'
      else .err l
    else .ok [seqOf xs] (t :: q)
termination_by (l.length, 2)
end
def pName : List Tx → PR ByteArray
  | [] => .err []
  | t :: r => if nmT t then .ok (tx t) r else .err (t :: r)
def pTake (c : Tx) : List Tx → PR Unit
  | [] => .err []
  | t :: r => if t = c then .ok () r else .err (t :: r)
def pNames : List Tx → List ByteArray × List Tx
  | [] => ([], [])
  | t :: r => if nmT t then (tx t :: (pNames r).1, (pNames r).2) else ([], t :: r)
def assocOf (t : Tx) : Option Int := if t = bl kw1 then some 1 else if t = bl kw2 then some 2 else if t = bl kw3 then some 3 else none
def pLevels (l : List Tx) : PR (List GLe) :=
  match l with
  | [] => .ok [] []
  | t :: r =>
    match assocOf t with
    | none => .ok [] (t :: r)
    | some a => match pName r with
      | .err q => .err q
      | .ok n r1 => match pTake [59] (pNames r1).2 with
        | .err q => .err q
        | .ok _ r3 =>
          if h : r3.length < (t :: r).length then
            match pLevels r3 with
            | .err q => .err q
            | .ok ls q => .ok (⟨a, n :: (pNames r1).1⟩ :: ls) q
          else .err l
termination_by l.length
def numV (t : Tx) : Int := t.foldl (fun n c => min (10 * n + ((c.toNat : Int) - 48)) 1001) 0
def isNum : Tx → Bool
  | [] => false
  | c :: _ => isD c
def pPrice (l : List Tx) : PR Int :=
  match l with
  | [] => .ok 0 []
  | t :: r => if t = bl kw4 then (match r with
    | [] => .err []
    | t2 :: r2 => if isNum t2 then .ok (numV t2) r2 else .err (t2 :: r2)) else .ok 0 (t :: r)
def pAlt (l : List Tx) : PR GAl :=
  match pItems l with
  | .err q => .err q
  | .ok xs r => match pPrice r with
    | .err q => .err q
    | .ok p q => .ok ⟨seqOf xs, p⟩ q
def pAltsR (l : List Tx) : PR (List GAl) :=
  match pAlt l with
  | .err q => .err q
  | .ok a [] => .ok [a] []
  | .ok a (t :: q) =>
    if t = [124] then
      if h : q.length < l.length then
        match pAltsR q with
        | .err q' => .err q'
        | .ok es q' => .ok (a :: es) q'
      else .err l
    else .ok [a] (t :: q)
termination_by l.length
def pRule (l : List Tx) : PR GRu :=
  match pName l with
  | .err q => .err q
  | .ok n r => match pTake [61] r with
    | .err q => .err q
    | .ok _ r1 => match pAltsR r1 with
      | .err q => .err q
      | .ok ys r2 => match pTake [59] r2 with
        | .err q => .err q
        | .ok _ r3 => .ok ⟨n, ys⟩ r3
def pRules (l : List Tx) : PR (List GRu) :=
  match l with
  | [] => .ok [] []
  | t :: r =>
    match pRule (t :: r) with
    | .err q => .err q
    | .ok x q =>
      if h : q.length < (t :: r).length then
        match pRules q with
        | .err q' => .err q'
        | .ok xs q' => .ok (x :: xs) q'
      else .err l
termination_by l.length
def pFile (l : List Tx) : PR GFi :=
  match pTake (bl kw0) l with
  | .err q => .err q
  | .ok _ r => match pName r with
    | .err q => .err q
    | .ok s r1 => match pTake [59] r1 with
      | .err q => .err q
      | .ok _ r2 => match pLevels r2 with
        | .err q => .err q
        | .ok ls r3 => match pRules r3 with
          | .err q => .err q
          | .ok rs q => .ok ⟨s, ls, rs⟩ q
end Go.Lg

namespace Go.Lg
open Go.RowKit
theorem bsz (a : Array UInt8) : (⟨a⟩ : ByteArray).size = a.size := rfl
structure FnO (P : Program) (g : FuncId) (ys : List AV) (os : List AObj) (X : AV) (os' : List (Option AObj)) : Prop where
  spec : Spec P g ys (os.map some) fun r o' => r = X ∧ o' = os'
  len : os.length ≤ os'.length
  bd : X.bd os'.length = true
def newO (π : Nat → Nat) (M : Nat) : List (Option AObj) → List (Nat × Option AObj) → List (Nat × Option AObj)
  | [], os => os
  | o :: r, os => newO π (M + 1) r ((M, o.map (AObj.ren π)) :: os)
def updN (π : Nat → Nat) (M : Nat) : List Nat → List (Option AObj) → List (Nat × Option AObj) → List (Nat × Option AObj)
  | i :: is, o :: os', os => updN π M is os' ((i, o.map (AObj.ren π)) :: os)
  | _, os', os => newO π M os' os
theorem ol_newO {π : Nat → Nat} : ∀ (os' : List (Option AObj)) (M : Nat) (os : List (Nat × Option AObj)), ol M os ++ os'.map (Option.map (AObj.ren π)) = ol (M + os'.length) (newO π M os' os)
  | [], M, os => by simp [newO]
  | o :: r, M, os => by
    rw [List.map_cons, ← List.singleton_append, ← List.append_assoc, ol_push, ol_newO r (M + 1), newO]
    congr 1; simp; omega
theorem updN_ol {π : Nat → Nat} {M : Nat} : ∀ (is : List Nat) (os' : List (Option AObj)) (os : List (Nat × Option AObj)), is.length ≤ os'.length → updO π (ol M os) is os' = ol (M + (os'.length - is.length)) (updN π M is os' os)
  | [], os', os, _ => by
    have e : updN π M [] os' os = newO π M os' os := by unfold updN; rfl
    have e2 : updO π (ol M os) [] os' = ol M os ++ os'.map (Option.map (AObj.ren π)) := by unfold updO; rfl
    rw [e, e2, ol_newO]; simp
  | i :: is, o :: os', os, h => by
    simp only [updO, ol_set, updN]
    rw [updN_ol is os' _ (by simpa using h)]
    simp
  | _ :: _, [], _, h => by simp at h
section
variable {P : Program} {Γ : Cx} {n M : Nat} {l : List (Nat × AV)} {os : List (Nat × Option AObj)} {x X : AV} {d t : Tmp} {ty : TypeId} {pos : String} {af : Array Edge} {ops : Array Oper} {rest : List Oper} {K : St → Prop} {g : FuncId} {first cap xa ys : List AV} {f : Operand} {args : Array Operand} {tys : Array TypeId}
theorem sc_o {aos : List AObj} {os' : List (Option AObj)} (is : List Nat) (hf : opq n l f = some (.clo (.func g) first cap)) (has : opqL n l args.toList = some xa) (hspec : FnO P g ys aos X os')
    (hL : Lend is (S n l M os) (first ++ xa ++ cap) ys aos)
    (hk : asemC P ops rest (S n ((d, X.ren (apx M is)) :: l) (M + (os'.length - is.length)) (updN (apx M is) M is os' os)) K) :
    asemC P ops (⟨some d, .call ⟨.value f, args, tys⟩, ty, pos, af, none⟩ :: rest) (S n l M os) K := by
  simp only [asemC]
  refine .inl ?_
  have hM : (S n l M os).objs.length = M := ol_length M os
  simp only [execA, opq_op hf, opqL_op has]
  refine Call.via is hspec.spec hL ?_
  rintro r o' ⟨rfl, rfl⟩
  have hil : is.length = aos.length := by have := wkRO_len hL.2.1; simpa using this.symm
  have := hspec.len
  refine ⟨hspec.len, hspec.bd, ?_⟩
  rw [hM]
  have e : (⟨(S n l M os).tmps, updO (apx M is) (S n l M os).objs is o'⟩ : St) = S n l (M + (o'.length - is.length)) (updN (apx M is) M is o' os) := by
    simp only [S]; rw [updN_ol is o' os (by omega)]
  rw [e, S_put]
  exact hk
def RetO (P : Program) (rs : List ResultVar) (m : Nat) (X : AV) (os' : List (Option AObj)) (s : St) : Prop :=
  ∃ x is, resN P s rs = some x ∧ ToR m is ⟨[x], s.objs⟩ ⟨[X], os'⟩
theorem FnO.intro {fn : Func} {c : Code} {aos : List AObj} {os' : List (Option AObj)} {rs : List ResultVar} (hlen : aos.length ≤ os'.length) (hbd : X.bd os'.length = true) (he : enterable P g = true) (hf : P.funcs[g]? = some fn) (hb : fn.body = some c) (hrs : fn.results = rs.toArray) (hn : fn.ntmps = n) (hl : ys.length ≤ n)
    (h : ∀ Γ : Cx, Γ.m = aos.length → WP P Γ c (bodyQ (RetO P rs aos.length X os')) (S n (enumA 0 ys) aos.length (enumO 0 aos))) : FnO P g ys aos X os' := by
  refine ⟨Spec.introR he hf hb (rs := rs) (by rw [hrs]) fun Γ hm => ?_, hlen, hbd⟩
  subst hn
  rw [List.length_map] at hm
  rw [tl_start _ _ hl]
  have hw := h Γ hm
  simp only [S, ← ol_enum] at hw
  refine WP.mono hw ?_
  have key : ∀ s, RetO P rs aos.length X os' s → ∃ x y l t, resN P s rs = some x ∧ ToR (aos.map some).length l ⟨[x], s.objs⟩ ⟨[y], t⟩ ∧ (y = X ∧ t = os') := by
    rintro s ⟨x, is, h1, h2⟩
    exact ⟨x, X, is, os', h1, by rw [List.length_map]; exact h2, rfl, rfl⟩
  intro e s hq
  cases e with
  | normal => exact key s hq
  | ret => exact key s hq
  | _ => exact hq
theorem retO_L {m : Nat} {rs : List ResultVar} {xs : List AV} {os' : List (Option AObj)} {os1 : List (Nat × Option AObj)} {k : Nat} (hr : ResL P n l M os rs xs) (hx : tupA xs = x) (hT : ∃ is, ToR m is (S 1 [(0, x)] M os) (S 1 [(0, X)] k os1)) (he : ol k os1 = os') : RetO P rs m X os' (S n l M os) := by
  obtain ⟨is, hT⟩ := hT
  refine ⟨x, is, ?_, ?_⟩
  · simp only [resN, hr.ok, Option.map_some, hx]
  · subst he
    have e1 : ∀ y : AV, tl 1 [(0, y)] = [y] := fun y => rfl
    simp only [S, e1] at hT
    exact hT
end
end Go.Lg

namespace Go.Lg
open Go.RowKit
def WPL (P : Program) (Γ : Cx) (ops : Array Oper) (l : List Oper) (Q : Exit → St → Prop) (s : St) : Prop :=
  ∀ a w, SR Γ s a w → wpList P ops (fun e a' w' => ∃ s', Q e s' ∧ SR Γ s' a' w') l a w
section
variable {P : Program} {Γ : Cx} {ops : Array Oper} {Q : Exit → St → Prop} {s : St} {rest : List Oper} {o : Oper}
theorem wpl_region {id : Nat} {l : List Oper} (h : WPL P Γ l.toArray l Q s) : WP P Γ (.region id l.toArray false) Q s := fun a w hs => wp_region_lit (h a w hs)
theorem wpl_step (hg : o.guard = none) (h : asemC P ops [o] s fun s' => WPL P Γ ops rest Q s') : WPL P Γ ops (o :: rest) Q s := fun a w hs =>
  wpList_plain hg fun K hK => Oper.wp_mono (fun a' w' ⟨s', h1, h2⟩ => hK a' w' (h1 a' w' h2)) (asemC_one hg hs h)
theorem wpl_end (h : Q .normal s) : WPL P Γ ops [] Q s := fun a w hs => ⟨s, h, hs⟩
variable {n M : Nat} {l : List (Nat × AV)} {os : List (Nat × Option AObj)}
end
end Go.Lg

namespace Go.Lg
open Go.RowKit
def CallX (P : Program) (fv : AV) (args : List AV) (s : St) (v : Value) (s' : St) : Prop :=
  ∀ (Γ : Cx) (a : Act) (w : World) (f : Value) (vs : List Value), SR Γ s a w → (∀ ρ, SRa Γ (fun id => id < s.objs.length) ρ s a w → RV (fun id => id < s.objs.length) ρ (Im Γ ρ s w) w fv f ∧ vs.length = args.length ∧
      ∀ (i : Nat) x v, args[i]? = some x → vs[i]? = some v → RV (fun id => id < s.objs.length) ρ (Im Γ ρ s w) w x v) →
    ∃ g us, (∀ w : World, (do let d ← Deferred.ofValue f vs.toArray; invoke d.target d.args : Sem Next).run P w = .ok (.enter g us) w) ∧
      Calls P g us w fun e w' => e = .panicked [{ v, recovered := false }] ∧ SR Γ s' a w'
structure FnX (P : Program) (g : FuncId) (ys : List AV) (os : List AObj) (v : Value) : Prop where
  en : enterable P g = true
  spec : ∀ (Γ : Cx) (vs : Array Value), Γ.m = (os.map some).length → SR Γ ⟨ys, os.map some⟩ ⟨vs, []⟩ Γ.w0 →
    Calls P g vs Γ.w0 fun e w' => e = .panicked [{ v, recovered := false }] ∧ SR Γ ⟨[.any], os.map fun _ => none⟩ ⟨#[undef], []⟩ w'
section
variable {P : Program} {Γ : Cx} {A : Nat → Prop} {ρ : Nat → Option Nat} {s : St} {a : Act} {w : World}
theorem SRa.view {g : FuncId} {first cap args ys : List AV} {os : List AObj} (l : List Nat) {f : Value} {vs : List Value} (he : enterable P g = true) (h : SRa Γ (fun id => id < s.objs.length) ρ s a w)
    (hf : RV (fun id => id < s.objs.length) ρ (Im Γ ρ s w) w (.clo (.func g) first cap) f) (hl : vs.length = args.length) (hv : ∀ (i : Nat) x v, args[i]? = some x → vs[i]? = some v → RV (fun id => id < s.objs.length) ρ (Im Γ ρ s w) w x v) (hL : Lend l s (first ++ args ++ cap) ys os) :
    ∃ us, (∀ w : World, (do let d ← Deferred.ofValue f vs.toArray; invoke d.target d.args : Sem Next).run P w = .ok (.enter g us) w) ∧ ∃ Γ' : Cx, Γ'.m = os.length ∧ Γ'.w0 = w ∧ Γ'.ds = [] ∧ SR Γ' ⟨ys, os.map some⟩ ⟨us, []⟩ w ∧
      ∀ (objs' : List (Option AObj)) w' (r : AV) (v : Value), os.length ≤ objs'.length → SR Γ' ⟨[r], objs'⟩ ⟨#[v], []⟩ w' → SR Γ ⟨s.tmps, updO (apx s.objs.length l) s.objs l objs'⟩ a w' := by
  obtain ⟨us, hrun, hsz, hrv⟩ := call_args he hf hl hv
  obtain ⟨h1, h2, h3, h5, h6⟩ := hL
  have hm : os.length = l.length := by simpa using wkRO_len h2
  have hlive : ∀ j o, os[j]? = some o → s.live (ap l j) (o.ren (ap l)) := fun j o ho => wkRO_get h2 j o (by simp [ho])
  have hlive' : ∀ j, j < l.length → ∃ o, s.live (ap l j) o := fun j hj => ⟨_, hlive j _ (List.getElem?_eq_getElem (by omega))⟩
  have hlt : ∀ j, j < l.length → ap l j < s.objs.length := fun j hj => wkRO_lt h2 j hj
  have happ : ∀ j, j < l.length → ap l j ∈ l := fun j hj => by simp [ap, List.getD, List.getElem?_eq_getElem hj]
  let Γ' : Cx := ⟨w, Im Γ ρ s w, os.length, fun j => ρ (ap l j), h.fr.next.1, h.fr.next.2, fun j hj b hb => by
    obtain ⟨o, ho⟩ := hlive' j (by omega)
    rcases h.own _ o b ho hb with q | ⟨i, hi, q⟩
    · exact Nat.le_trans Γ.hgl q
    · exact Γ.hext i hi b q, []⟩
  have hst : ∀ id o, St.live ⟨ys, os.map some⟩ id o → os[id]? = some o := fun id o hl => by
    unfold St.live at hl
    simp only [List.getElem?_map, Option.map_eq_some_iff] at hl
    obtain ⟨x, hx, hxo⟩ := hl
    injection hxo with hxo; subst hxo; exact hx
  have hI0 : ∀ b, Im Γ ρ s w b → Im Γ' (fun j => ρ (ap l j)) ⟨ys, os.map some⟩ w b ∧ w.heap[b]? = w.heap[b]? := fun b hb => ⟨⟨.inl hb, hb.2.1, fun id o hl => hb.2.2 _ _ (hlive id o (hst id o hl))⟩, rfl⟩
  have h0 : SR Γ' ⟨ys, os.map some⟩ ⟨us, []⟩ w := by
    refine ⟨fun j => ρ (ap l j), fun i hi => ⟨by simpa using hi, rfl⟩, by simp only; rw [hsz, wkR_len h1], ?_, fun id o hl => ?_, fun id o hl => (List.getElem?_eq_some_iff.1 hl).1, fun _ hid => hid, fun id o b hl hb => .inr ⟨id, (List.getElem?_eq_some_iff.1 (hst id o hl)).1, hb⟩, fun i j o o' b g1 g2 g3 g4 => ?_, rfl, ⟨Nat.le_refl _, rfl, rfl, rfl, fun _ _ _ => rfl, fun _ _ hn => hn⟩⟩
    · intro i y v hy hu
      simp only at hy hu
      have hi : i < (first ++ args ++ cap).length := by rw [← wkR_len h1]; exact (List.getElem?_eq_some_iff.1 hy).1
      have hx := List.getElem?_eq_getElem hi
      rcases wkR_get h1 i _ y hx hy with rfl | hxy
      · exact .any
      · have := (hrv i _ v hx hu).unren (π := ap l) (n := os.length) (ρ' := fun j => ρ (ap l j)) (fun _ _ => rfl) hI0 (fun _ _ hn => hn) hxy (bdL_iff.1 h5 _ (List.mem_of_getElem? hy))
        simpa using this
    · have := (h.obj _ _ (hlive id o (hst id o hl))).unren (π := ap l) (n := os.length) (ρ' := fun j => ρ (ap l j)) (fun _ _ => rfl) hI0 (fun _ _ hn => hn) (fun _ _ => rfl) (by have := bdO_get h6 id o (by simp [hst id o hl]); cases o <;> exact this)
      simpa using this
    · have e := h.inj _ _ _ _ b (hlive i o (hst i o g1)) (hlive j o' (hst j o' g2)) g3 g4
      have hi := (List.getElem?_eq_some_iff.1 (hst i o g1)).1
      have hj := (List.getElem?_eq_some_iff.1 (hst j o' g2)).1
      rw [hm] at hi hj
      simp only [ap, List.getD, List.getElem?_eq_getElem hi, List.getElem?_eq_getElem hj, Option.getD_some] at e
      exact (List.getElem_inj h3).1 e
  refine ⟨us, hrun, Γ', rfl, rfl, rfl, h0, ?_⟩
  rintro objs' w' r rv hle ⟨ρ'', hs'⟩
  have hfr := hs'.fr
  have hext : ∀ j, j < l.length → ρ'' j = ρ (ap l j) := fun j hj => (hs'.ext j (by simp only [Γ']; omega)).2
  generalize hs2 : (⟨s.tmps, updO (apx s.objs.length l) s.objs l objs'⟩ : St) = s2
  let ρn : Nat → Option Nat := fun id => if id < s.objs.length then ρ id else ρ'' (id - s.objs.length + l.length)
  have hρold : ∀ id, id < s.objs.length → ρn id = ρ id := fun id hid => if_pos hid
  have hρnew : ∀ j, ρn (apx s.objs.length l j) = ρ'' j := fun j => by
    unfold apx
    split
    · rename_i hj; rw [hρold _ (hlt j hj)]; exact (hext j hj).symm
    · rename_i hj
      simp only [ρn]
      rw [if_neg (by omega)]
      congr 1; omega
  have hn2 : s2.objs.length = s.objs.length + (objs'.length - l.length) := by rw [← hs2]; exact updO_len (by omega)
  have hapx : ∀ j, j < objs'.length → apx s.objs.length l j < s2.objs.length := fun j hj => by
    rw [hn2]; unfold apx
    split
    · rename_i h; have := hlt j h; omega
    · omega
  have cases2 : ∀ id o, s2.live id o → (id < s.objs.length ∧ s.live id o ∧ id ∉ l) ∨ ∃ j o0, St.live ⟨[r], objs'⟩ j o0 ∧ o = o0.ren (apx s.objs.length l) ∧ id = apx s.objs.length l j := by
    intro id o ho
    rw [← hs2] at ho
    exact updO_get (os := objs') (show l.length ≤ objs'.length by omega) (fun j i hi => by
      have hj := (List.getElem?_eq_some_iff.1 hi).1
      have := hlt j hj
      simpa [ap, List.getD, hi] using this) h3 ho
  have hblk : ∀ b, b < w.heap.size → (∀ j, j < l.length → ρ (ap l j) ≠ some b) → w'.heap[b]? = w.heap[b]? := fun b hb hne => hfr.block b hb (fun i hi => hne i (by simp only [Γ'] at hi; omega))
  have hIold : ∀ b, Im Γ ρ s w b → Im Γ ρn s2 w' b ∧ w'.heap[b]? = w.heap[b]? := by
    rintro b ⟨g1, g2, g3⟩
    refine ⟨⟨g1, Nat.lt_of_lt_of_le g2 hfr.size, fun id o ho => ?_⟩, hblk b g2 fun j hj => ?_⟩
    · rcases cases2 id o ho with ⟨c1, c2, _⟩ | ⟨j, o0, c1, _, rfl⟩
      · rw [hρold id c1]; exact g3 id o c2
      · rw [hρnew]
        intro hb
        rcases hs'.own j o0 b c1 hb with q | ⟨i, hi, q⟩
        · simp only [Γ'] at q; omega
        · simp only [Γ'] at hi q
          obtain ⟨o', ho'⟩ := hlive' i (by omega)
          exact g3 _ _ ho' q
    · obtain ⟨o', ho'⟩ := hlive' j hj
      exact g3 _ _ ho'
  have hInew : ∀ b, Im Γ' ρ'' ⟨[r], objs'⟩ w' b → Im Γ ρn s2 w' b ∧ w'.heap[b]? = w'.heap[b]? := by
    rintro b ⟨g1, g2, g3⟩
    refine ⟨⟨?_, g2, fun id o ho => ?_⟩, rfl⟩
    · rcases g1 with g1 | g1
      · exact g1.1
      · exact .inr (Nat.le_trans h.fr.size g1)
    · rcases cases2 id o ho with ⟨c1, c2, _⟩ | ⟨j, o0, c1, _, rfl⟩
      · rw [hρold id c1]
        intro hb
        have := live_block h c2 hb
        rcases g1 with g1 | g1
        · exact g1.2.2 id o c2 hb
        · simp only [Γ'] at g1; omega
      · rw [hρnew]; exact g3 j o0 c1
  have hown : ∀ j o0 b, St.live ⟨[r], objs'⟩ j o0 → ρ'' j = some b → w.heap.size ≤ b ∨ ∃ i, i < l.length ∧ ρ (ap l i) = some b := fun j o0 b c1 hb => by
    rcases hs'.own j o0 b c1 hb with q | ⟨i, hi, q⟩
    · exact .inl q
    · exact .inr ⟨i, by simp only [Γ'] at hi; omega, q⟩
  have hw' : SRa Γ (fun id => id < s2.objs.length) ρn s2 a w' := by
    refine ⟨fun i hi => ?_, by rw [← hs2]; exact h.len, ?_, ?_, fun id o ho => (List.getElem?_eq_some_iff.1 ho).1, fun _ hid => hid, ?_, ?_, h.defers, h.fr.turn hfr.size hfr.os hfr.tape hfr.output ?_ hfr.csize⟩
    · have g := h.ext i hi
      exact ⟨by have := g.1; omega, (hρold i g.1).trans g.2⟩
    · intro i x u hx hu
      exact (h.tmp i x u (by rw [← hs2] at hx; exact hx) hu).mono (fun id hid => ⟨by omega, hρold id hid⟩) hIold hfr.csize
    · intro id o ho
      rcases cases2 id o ho with ⟨c1, c2, c3⟩ | ⟨j, o0, c1, rfl, rfl⟩
      · rw [hρold id c1]
        refine (h.obj id o c2).mono (fun id hid => ⟨by omega, hρold id hid⟩) hIold hfr.csize fun c hc => hblk c (live_block h c2 hc) fun j hj hj' => ?_
        obtain ⟨o', ho'⟩ := hlive' j hj
        have := h.inj _ _ _ _ c c2 ho' hc hj'
        exact c3 (this ▸ happ j hj)
      · rw [hρnew]
        exact (hs'.obj j o0 c1).reren (fun id hid => ⟨hapx id hid, hρnew id⟩) hInew (fun _ _ hn => hn) (fun _ _ => rfl)
    · intro id o b ho hb
      rcases cases2 id o ho with ⟨c1, c2, c3⟩ | ⟨j, o0, c1, rfl, rfl⟩
      · rw [hρold id c1] at hb; exact h.own id o b c2 hb
      · rw [hρnew] at hb
        rcases hown j o0 b c1 hb with q | ⟨i, hi, q⟩
        · exact .inl (Nat.le_trans h.fr.size q)
        · obtain ⟨o', ho'⟩ := hlive' i hi
          exact h.own _ _ b ho' q
    · have mix : ∀ id o b j o0, s.live id o → id ∉ l → ρ id = some b → St.live ⟨[r], objs'⟩ j o0 → ρ'' j = some b → False := by
        intro id o b j o0 c2 c3 hb c1 hb'
        rcases hown j o0 b c1 hb' with q | ⟨i, hi, q⟩
        · have := live_block h c2 hb; omega
        · obtain ⟨o', ho'⟩ := hlive' i hi
          have := h.inj _ _ _ _ b c2 ho' hb q
          exact c3 (this ▸ happ i hi)
      intro id id' o o' b ho ho' hb hb'
      rcases cases2 id o ho with ⟨c1, c2, c3⟩ | ⟨j, o0, c1, rfl, rfl⟩ <;> rcases cases2 id' o' ho' with ⟨d1, d2, d3⟩ | ⟨j', o0', d1, rfl, rfl⟩
      · rw [hρold id c1] at hb; rw [hρold id' d1] at hb'
        exact h.inj _ _ _ _ b c2 d2 hb hb'
      · rw [hρold id c1] at hb; rw [hρnew] at hb'
        exact (mix _ _ _ _ _ c2 c3 hb d1 hb').elim
      · rw [hρnew] at hb; rw [hρold id' d1] at hb'
        exact (mix _ _ _ _ _ d2 d3 hb' c1 hb).elim
      · rw [hρnew] at hb hb'
        rw [hs'.inj _ _ _ _ b c1 d1 hb hb']
    · intro b hb
      by_cases hj : ∃ j, j < l.length ∧ ρ (ap l j) = some b
      · obtain ⟨j, hj, hjb⟩ := hj
        obtain ⟨o', ho'⟩ := hlive' j hj
        exact .inr (h.own _ _ b ho' hjb)
      · exact .inl (hblk b hb fun j hj' he => hj ⟨j, hj', he⟩)
  exact ⟨ρn, hw'⟩
theorem CallX.via {g : FuncId} {first cap args ys : List AV} {os : List AObj} (l : List Nat) {pv : Value} (hspec : FnX P g ys os pv) (hL : Lend l s (first ++ args ++ cap) ys os) :
    CallX P (.clo (.func g) first cap) args s pv ⟨s.tmps, updO (apx s.objs.length l) s.objs l (os.map fun _ => none)⟩ := by
  intro Γ a w f vs hs hfv
  obtain ⟨ρ, h⟩ := hs
  obtain ⟨hf, hl, hv⟩ := hfv ρ h
  obtain ⟨us, hrun, Γ', hm, hw, hd, h0, hback⟩ := h.view l hspec.en hf hl hv hL
  refine ⟨g, us, hrun, ?_⟩
  subst hw
  refine (hspec.spec Γ' us (by simp [hm]) h0).mono ?_
  rintro e w' ⟨rfl, hs'⟩
  exact ⟨rfl, hback _ _ _ _ (by simp) hs'⟩
theorem SR.dead (h : SR Γ s a w) (hd : Γ.ds = []) {m : Nat} (hm : Γ.m = m) : SR Γ ⟨[.any], List.replicate m none⟩ ⟨#[undef], []⟩ w := by
  obtain ⟨ρ, h⟩ := h
  have hl : ∀ id o, ¬ St.live ⟨[.any], List.replicate m none⟩ id o := fun id o hl => by
    unfold St.live at hl
    simp only [List.getElem?_replicate] at hl
    split at hl <;> simp at hl
  refine ⟨ρ, fun i hi => ⟨by simp; omega, (h.ext i hi).2⟩, rfl, fun i x v hx hv => ?_, fun id o h => absurd h (hl id o), fun id o h => absurd h (hl id o), fun _ hid => hid, fun id o b h => absurd h (hl id o), fun i j o o' b h => absurd h (hl i o), hd.symm, h.fr⟩
  cases i with
  | zero => simp at hx; subst hx; exact .any
  | succ i => simp at hx
end
def bodyX (v : Value) : Exit → St → Prop
  | .panic ch, _ => ch = [{ v, recovered := false }]
  | _, _ => False
section
variable {P : Program} {Γ : Cx} {n M : Nat} {l : List (Nat × AV)} {os : List (Nat × Option AObj)} {x X : AV} {d t : Tmp} {ty : TypeId} {pos : String} {af : Array Edge} {ops : Array Oper} {rest : List Oper} {K : St → Prop} {g : FuncId} {first cap xa ys : List AV} {f : Operand} {args : Array Operand} {tys : Array TypeId} {Q : Exit → St → Prop} {s : St} {next : St → Prop}
theorem FnX.intro {fn : Func} {c : Code} {aos : List AObj} {v : Value} (he : enterable P g = true) (hf : P.funcs[g]? = some fn) (hb : fn.body = some c) (hn : fn.ntmps = n) (hl : ys.length ≤ n)
    (h : ∀ Γ : Cx, Γ.m = aos.length → WP P Γ c (bodyX v) (S n (enumA 0 ys) aos.length (enumO 0 aos))) : FnX P g ys aos v := by
  refine ⟨he, fun Γ vs hm hs => calls_of_wp hf hb ?_⟩
  obtain ⟨ρ, hs⟩ := hs
  have hlen : vs.size = ys.length := hs.len
  have h0 : SR Γ ⟨ys ++ List.replicate (fn.ntmps - ys.length) .any, aos.map some⟩ ⟨vs ++ Array.replicate (fn.ntmps - vs.size) undef, []⟩ Γ.w0 := by
    refine ⟨ρ, hs.ext, by simp [hlen], ?_, hs.obj, hs.made, hs.bound, hs.own, hs.inj, hs.defers, hs.fr⟩
    intro i x v hx hv
    simp only at hx hv
    by_cases hi : i < ys.length
    · rw [List.getElem?_append_left hi] at hx
      rw [Array.getElem?_append_left (by omega)] at hv
      exact hs.tmp i x v hx hv
    · rw [List.getElem?_append_right (by omega)] at hx
      have hm := List.mem_of_getElem? hx
      rw [(List.mem_replicate.1 hm).2]
      exact .any
  subst hn
  rw [tl_start _ _ hl] at h0
  rw [List.length_map] at hm
  have hw := h Γ hm
  simp only [S, ← ol_enum] at hw
  refine wp_mono (hw _ _ h0) ?_
  rintro e a' w' ⟨s', hq, hs'⟩
  cases e with
  | panic ch =>
    have hd : Γ.ds = [] := hs.defers.symm
    have e1 : (aos.map fun _ => (none : Option AObj)) = List.replicate aos.length none := by
      rw [List.map_const']
    obtain ⟨ρ', hs''⟩ := hs'
    refine ⟨hs''.defers.trans hd, ?_⟩
    simp only [bodyX] at hq
    exact ⟨by rw [hq], by rw [e1]; exact SR.dead ⟨ρ', hs''⟩ hd hm⟩
  | _ => exact hq.elim
theorem wpl_callx {v : Value} {s' : St} (hc : CallX P (s.op f) (args.toList.map s.op) s v s') (hq : Q (.panic [{ v, recovered := false }]) s') {dst : Option Tmp} : WPL P Γ ops (⟨dst, .call ⟨.value f, args, tys⟩, ty, pos, af, none⟩ :: rest) Q s := fun a w hs =>
  wpList_plain rfl fun K hK => by
    obtain ⟨ρ, hρ⟩ := hs
    obtain ⟨g, us, hrun, hcall⟩ := hc Γ a w (a.eval f) (args.toList.map a.eval) ⟨ρ, hρ⟩ (fun ρ' h' => ⟨h'.eval f, by simp, fun i x v hx hv => by
      simp only [List.getElem?_map, Option.map_eq_some_iff] at hx hv
      obtain ⟨p, hp, rfl⟩ := hx
      obtain ⟨q, hq, rfl⟩ := hv
      rw [hp] at hq; injection hq with hq; subst hq
      exact h'.eval p⟩)
    unfold Oper.wp
    have hex : (execOp a.eval ⟨dst, .call ⟨.value f, args, tys⟩, ty, pos, af, none⟩).run P w = .ok (.enter g us) w := by
      have e1 : (args.map a.eval) = (args.toList.map a.eval).toArray := by apply Array.ext'; simp
      rw [← hrun w]
      simp only [execOp, resolve, e1]
    rw [hex]
    simp only [Oper.upon]
    refine hcall.mono ?_
    rintro e w' ⟨rfl, hs'⟩
    exact ⟨s', hq, hs'⟩
def kill : List Nat → List (Nat × Option AObj) → List (Nat × Option AObj)
  | [], os => os
  | i :: is, os => kill is ((i, none) :: os)
theorem kill_ol {π : Nat → Nat} : ∀ (is : List Nat) (k : List AObj) (os : List (Nat × Option AObj)), is.length = k.length → updO π (ol M os) is (k.map fun _ => none) = ol M (kill is os)
  | [], [], os, _ => by simp [updO, kill]
  | i :: is, o :: k, os, h => by
    simp only [List.map_cons, updO, Option.map_none, ol_set, kill]
    exact kill_ol is k _ (by simpa using h)
  | [], _ :: _, _, h => by simp at h
  | _ :: _, [], _, h => by simp at h
theorem wpl_x {aos : List AObj} {v : Value} (is : List Nat) (hf : opq n l f = some (.clo (.func g) first cap)) (has : opqL n l args.toList = some xa) (hspec : FnX P g ys aos v)
    (hL : Lend is (S n l M os) (first ++ xa ++ cap) ys aos) (hq : Q (.panic [{ v, recovered := false }]) (S n l M (kill is os))) {dst : Option Tmp} : WPL P Γ ops (⟨dst, .call ⟨.value f, args, tys⟩, ty, pos, af, none⟩ :: rest) Q (S n l M os) := by
  have hM : (S n l M os).objs.length = M := ol_length M os
  have hil : is.length = aos.length := by have := wkRO_len hL.2.1; simpa using this.symm
  refine wpl_callx (s' := S n l M (kill is os)) ?_ hq
  rw [opq_op hf, opqL_op has]
  have h := CallX.via is hspec hL
  have e : (⟨(S n l M os).tmps, updO (apx (S n l M os).objs.length is) (S n l M os).objs is (aos.map fun _ => none)⟩ : St) = S n l M (kill is os) := by
    simp only [S]; rw [kill_ol is aos os hil]
  rw [e] at h
  exact h
theorem wpl_panic {T : TypeId} {u : Value} {a : Operand} (h : opq n l a = some (.val (.iface T u))) (hq : Q (.panic [{ v := .iface T u, recovered := false }]) (S n l M os)) {dst : Option Tmp} : WPL P Γ ops (⟨dst, .panic a, ty, pos, af, none⟩ :: rest) Q (S n l M os) := fun ac w hs =>
  wpList_plain rfl fun K hK => by
    obtain ⟨ρ, hρ⟩ := hs
    have hv : ac.eval a = .iface T u := by
      have := hρ.eval a
      rw [opq_op h] at this
      exact this.val_eq
    unfold Oper.wp
    have hex : (execOp ac.eval ⟨dst, .panic a, ty, pos, af, none⟩).run P w = .halt (.panic (.iface T u)) w := by
      simp [execOp, Instr.panic, hv, goPanic]
    rw [hex]
    exact ⟨_, hq, ρ, hρ⟩
theorem go_p {ch : List PanicEntry} (h : Q (.panic ch) s) : thenA next Q (.panic ch) s := h
theorem bl_p {id : Nat} {ch : List PanicEntry} (h : Q (.panic ch) s) : inBlockA id Q (.panic ch) s := h
theorem bx_p {v : Value} {ch : List PanicEntry} (h : ch = [{ v, recovered := false }]) : bodyX v (.panic ch) s := h
theorem se_iface {u : Value} {tx : TypeId} {a : Operand} {ti : TI} [ht : TIc P tx ti] (h : opq n l a = some (.val u)) (hat : atom (.iface tx u) = true) (hni : (match P.underlying tx with | some (.interface _) => false | some _ => true | none => false) = true) (hk : asemC P ops rest (S n ((d, .val (.iface tx u)) :: l) M os) K) :
    asemC P ops (⟨some d, .makeInterface tx a, ty, pos, af, none⟩ :: rest) (S n l M os) K := by
  simp only [asemC]
  refine .inr (.inr ⟨_, hk, fun Γ ac w hs => ?_⟩)
  obtain ⟨ρ, hs⟩ := hs
  have hv : ac.eval a = u := by
    have := hs.eval a
    rw [opq_op h] at this
    exact this.val_eq
  refine ⟨.iface tx u, w, ?_, ρ, ?_⟩
  · cases hu : P.underlying tx with
    | none => rw [hu] at hni; cases hni
    | some D =>
      rw [hu] at hni
      cases D <;> first
        | (simp at hni; done)
        | simp [execOp, Instr.makeInterface, hv, run_underlying hu]
  · have := hs.put (some d) (x := .val (.iface tx u)) (v := .iface tx u) (.val hat)
    rw [S_put] at this
    exact this
end
end Go.Lg

namespace Go.Lg
open Go.RowKit
set_option linter.unusedVariables false
inductive Res where
  | ok (X : AV) (os : List (Option AObj))
  | die (v : Value)
def FnP (P : Program) (g : FuncId) (ys : List AV) (os : List AObj) : Res → Prop
  | .ok X os' => FnO P g ys os X os'
  | .die v => FnX P g ys os v
def bodyP (P : Program) (rs : List ResultVar) (m : Nat) (r : Res) : Exit → St → Prop
  | .normal, s | .ret, s => ∃ X os', r = .ok X os' ∧ RetO P rs m X os' s
  | .panic ch, _ => ∃ v, r = .die v ∧ ch = [{ v, recovered := false }]
  | _, _ => False
def Res.fine (m : Nat) : Res → Prop
  | .ok X os' => m ≤ os'.length ∧ X.bd os'.length = true
  | .die _ => True
section
variable {P : Program} {Γ : Cx} {n M : Nat} {l : List (Nat × AV)} {os : List (Nat × Option AObj)} {x X : AV} {d t : Tmp} {ty : TypeId} {pos : String} {af : Array Edge} {ops : Array Oper} {rest : List Oper} {K : St → Prop} {g : FuncId} {first cap xa ys : List AV} {f : Operand} {args : Array Operand} {tys : Array TypeId} {Q : Exit → St → Prop} {s : St} {next : St → Prop}
theorem FnP.intro {fn : Func} {c : Code} {aos : List AObj} {rs : List ResultVar} {r : Res} (hr : r.fine aos.length) (he : enterable P g = true) (hf : P.funcs[g]? = some fn) (hb : fn.body = some c) (hrs : fn.results = rs.toArray) (hn : fn.ntmps = n) (hl : ys.length ≤ n)
    (h : ∀ Γ : Cx, Γ.m = aos.length → WP P Γ c (bodyP P rs aos.length r) (S n (enumA 0 ys) aos.length (enumO 0 aos))) : FnP P g ys aos r := by
  cases r with
  | ok X os' =>
    refine FnO.intro hr.1 hr.2 he hf hb hrs hn hl fun Γ hm => WP.mono (h Γ hm) ?_
    intro e s hq
    cases e with
    | normal => obtain ⟨X', o', e, h⟩ := hq; injection e with e1 e2; subst e1 e2; exact h
    | ret => obtain ⟨X', o', e, h⟩ := hq; injection e with e1 e2; subst e1 e2; exact h
    | panic ch => obtain ⟨v, e, _⟩ := hq; cases e
    | _ => exact hq
  | die v =>
    refine FnX.intro he hf hb hn hl fun Γ hm => WP.mono (h Γ hm) ?_
    intro e s hq
    cases e with
    | normal => obtain ⟨X', o', e, h⟩ := hq; cases e
    | ret => obtain ⟨X', o', e, h⟩ := hq; cases e
    | panic ch => obtain ⟨v', e, h⟩ := hq; injection e with e; subst e; exact h
    | _ => exact hq
theorem FnP.oks {aos : List AObj} {r : Res} {os' : List (Option AObj)} (h : FnP P g ys aos r) (hr : r = .ok X os') : FnO P g ys aos X os' := by subst hr; exact h
theorem FnP.dies {aos : List AObj} {r : Res} {v : Value} (h : FnP P g ys aos r) (hr : r = .die v) : FnX P g ys aos v := by subst hr; exact h
theorem bp_n {rs : List ResultVar} {m : Nat} {r : Res} {os' : List (Option AObj)} (hr : r = .ok X os') (h : RetO P rs m X os' s) : bodyP P rs m r .normal s := ⟨_, _, hr, h⟩
theorem bp_r {rs : List ResultVar} {m : Nat} {r : Res} {os' : List (Option AObj)} (hr : r = .ok X os') (h : RetO P rs m X os' s) : bodyP P rs m r .ret s := ⟨_, _, hr, h⟩
theorem bp_p {rs : List ResultVar} {m : Nat} {r : Res} {v : Value} (hr : r = .die v) : bodyP P rs m r (.panic [{ v, recovered := false }]) s := ⟨_, hr, rfl⟩
def PInd (Q : Exit → St → Prop) : Prop := ∀ ch s t x, Q (.panic ch) s → Q (.panic ch) (s.put t x)
theorem pind_then (h : PInd Q) : PInd (thenA next Q) := fun ch s t x hq => h ch s t x hq
theorem pind_block {id : Nat} (h : PInd Q) : PInd (inBlockA id Q) := fun ch s t x hq => h ch s t x hq
theorem pind_p {rs : List ResultVar} {m : Nat} {r : Res} : PInd (bodyP P rs m r) := fun ch s t x hq => hq
theorem pind_q {R : St → Prop} : PInd (bodyQ R) := fun ch s t x hq => hq
def liftQ (Γ : Cx) (Q : Exit → St → Prop) : Exit → Act → World → Prop := fun e a' w' => ∃ s', Q e s' ∧ SR Γ s' a' w'
def WPT (P : Program) (Γ : Cx) (ops : Array Oper) (Q : Exit → St → Prop) (fuel : Nat) (listed : Array Bool) (s : St) : Prop :=
  ∀ a w, SR Γ s a w → wpAny P .any ops (liftQ Γ Q) fuel listed a w
def WPO (P : Program) (Γ : Cx) (ops : Array Oper) (Q : Exit → St → Prop) (i : Nat) (K : St → Prop) (s : St) : Prop :=
  ∀ a w, SR Γ s a w → wpOp P ops (liftQ Γ Q) i (fun a' w' => ∃ s', K s' ∧ SR Γ s' a' w') a w
def AllO (P : Program) (Γ : Cx) (ops : Array Oper) (Q : Exit → St → Prop) (fuel : Nat) (listed : Array Bool) (s : St) : List Nat → Prop
  | [] => True
  | i :: r => WPO P Γ ops Q i (WPT P Γ ops Q fuel (listed.setIfInBounds i true)) s ∧ AllO P Γ ops Q fuel listed s r
theorem wp_tree {id : Nat} {L : List Oper} (k : Nat) (hm : P.follows .mixedOrders = true) (hk : L.length = k) (h : WPT P Γ L.toArray Q k (Array.replicate k false) s) : WP P Γ (.region id L.toArray true) Q s := by
  intro a w hs
  have hsz : L.toArray.size = k := by simpa using hk
  refine wp_region_any hm ?_
  rw [hsz]
  exact h a _ (hs.drawn _)
variable {fuel i : Nat} {listed : Array Bool}
theorem wpt_all {rs : List Nat} (hr : Region.ready .any ops listed = rs) (hne : rs.isEmpty = false) (h : AllO P Γ ops Q fuel listed s rs) : WPT P Γ ops Q (fuel + 1) listed s := by
  intro a w hs
  refine wpAny_all hr (by cases rs <;> simp_all) fun i hi => ?_
  have key : ∀ rs, AllO P Γ ops Q fuel listed s rs → ∀ i, i ∈ rs → WPO P Γ ops Q i (WPT P Γ ops Q fuel (listed.setIfInBounds i true)) s := by
    intro rs
    induction rs with
    | nil => intro _ i hi; cases hi
    | cons j r ih =>
      intro h i hi
      rcases List.mem_cons.1 hi with rfl | hi
      · exact h.1
      · exact ih h.2 i hi
  exact wpOp_mono (fun a' w' ⟨s', h1, h2⟩ => h1 a' w' h2) (key rs h i hi a w hs)
theorem wpt_end (hr : Region.ready .any ops listed = []) (h : Q .normal s) : WPT P Γ ops Q fuel listed s := fun a w hs => wpAny_done hr ⟨s, h, hs⟩ fuel
theorem wpo_do {o : Oper} (ho : ops[i]? = some o) (hg : o.guard = none) (h : asemC P ops [o] s K) : WPO P Γ ops Q i K s := by
  intro a w hs
  unfold wpOp
  rw [ho]
  simp only
  rw [if_pos (by simp [Region.wanted, hg])]
  exact .inl (asemC_one hg hs h)
theorem wpo_callx {v : Value} {s' : St} {dst : Option Tmp} (ho : ops[i]? = some ⟨dst, .call ⟨.value f, args, tys⟩, ty, pos, af, none⟩) (hc : CallX P (s.op f) (args.toList.map s.op) s v s') (hq : Q (.panic [{ v, recovered := false }]) s') : WPO P Γ ops Q i K s := by
  intro a w hs
  unfold wpOp
  rw [ho]
  simp only
  rw [if_pos (by simp [Region.wanted])]
  refine .inl ?_
  obtain ⟨ρ, hρ⟩ := hs
  obtain ⟨g, us, hrun, hcall⟩ := hc Γ a w (a.eval f) (args.toList.map a.eval) ⟨ρ, hρ⟩ (fun ρ' h' => ⟨h'.eval f, by simp, fun i x v hx hv => by
    simp only [List.getElem?_map, Option.map_eq_some_iff] at hx hv
    obtain ⟨p, hp, rfl⟩ := hx
    obtain ⟨q, hq, rfl⟩ := hv
    rw [hp] at hq; injection hq with hq; subst hq
    exact h'.eval p⟩)
  unfold Oper.wp
  have hex : (execOp a.eval ⟨dst, .call ⟨.value f, args, tys⟩, ty, pos, af, none⟩).run P w = .ok (.enter g us) w := by
    have e1 : (args.map a.eval) = (args.toList.map a.eval).toArray := by apply Array.ext'; simp
    rw [← hrun w]
    simp only [execOp, resolve, e1]
  rw [hex]
  simp only [Oper.upon]
  refine hcall.mono ?_
  rintro e w' ⟨rfl, hs'⟩
  exact ⟨s', hq, hs'⟩
theorem wpo_x {aos : List AObj} {v : Value} {dst : Option Tmp} (is : List Nat) (ho : ops[i]? = some ⟨dst, .call ⟨.value f, args, tys⟩, ty, pos, af, none⟩) (hf : opq n l f = some (.clo (.func g) first cap)) (has : opqL n l args.toList = some xa) (hspec : FnX P g ys aos v)
    (hL : Lend is (S n l M os) (first ++ xa ++ cap) ys aos) (hq : Q (.panic [{ v, recovered := false }]) (S n l M (kill is os))) : WPO P Γ ops Q i K (S n l M os) := by
  have hM : (S n l M os).objs.length = M := ol_length M os
  have hil : is.length = aos.length := by have := wkRO_len hL.2.1; simpa using this.symm
  refine wpo_callx (s' := S n l M (kill is os)) ho ?_ hq
  rw [opq_op hf, opqL_op has]
  have h := CallX.via is hspec hL
  have e : (⟨(S n l M os).tmps, updO (apx (S n l M os).objs.length is) (S n l M os).objs is (aos.map fun _ => none)⟩ : St) = S n l M (kill is os) := by
    simp only [S]; rw [kill_ol is aos os hil]
  rw [e] at h
  exact h
def Still (P : Program) (op : Op) : Prop := ∀ (ρ : Operand → Value) (dst : Option Tmp) (ty : TypeId) (pos : String) (af : Array Edge) (v : Value) (w w' w1 : World), (execOp ρ ⟨dst, op, ty, pos, af, none⟩).run P w = .ok (.value v) w1 → (execOp ρ ⟨dst, op, ty, pos, af, none⟩).run P w' = .ok (.value v) w'
theorem still_move {a : Operand} : Still P (.move a) := by
  intro ρ dst ty pos af v w w' w1 h
  simp only [execOp, Sem.run_pure] at h ⊢
  injection h with h1 h2
  rw [h1]
theorem still_assign {a : Operand} : Still P (.assign a) := by
  intro ρ dst ty pos af v w w' w1 h
  simp only [execOp, Sem.run_pure] at h ⊢
  injection h with h1 h2
  rw [h1]
theorem wpt_take {op : Op} (i : Nat) (ho : ops[i]? = some ⟨some d, op, ty, pos, af, none⟩) (hst : Still P op) (hap : Ap P n l M os [] op x) (hs : Region.noSelect ops = true) (hf : Region.free .any ops listed i = true) (hr : (Region.ready .any ops listed).contains i = true) (hQ : PInd Q)
    (hk : WPT P Γ ops Q fuel (listed.setIfInBounds i true) (S n ((d, x) :: l) M os)) : WPT P Γ ops Q (fuel + 1) listed (S n l M os) := by
  intro a w hs'
  obtain ⟨ρ, hρ⟩ := hs'
  obtain ⟨v, hrun, hrv⟩ := pure_sound (P := P) hρ (o := ⟨some d, op, ty, pos, af, none⟩) (e := []) rfl hap
  refine wpAny_take (v := v) ho hs hf hr ?_ (.inl ⟨by simp [Region.wanted], fun w' => hst _ _ _ _ _ _ _ _ _ hrun⟩) ?_
  · rintro c a1 w1 ⟨s', hq, ρ', h'⟩
    by_cases hd : d < a1.tmps.size
    · have hv : a1.tmps[d]? = some a1.tmps[d] := Array.getElem?_eq_getElem hd
      refine ⟨s'.put (some d) .any, hQ _ _ _ _ hq, ρ', ?_⟩
      have h2 := h'.put (some d) (x := .any) (v := a1.tmps[d]) .any
      have e : (a1.put (some d) v).put (some d) a1.tmps[d] = a1 := by
        have e1 : (a1.put (some d) v).put (some d) a1.tmps[d] = a1.put (some d) a1.tmps[d] := by simp [Act.put]
        rw [e1]; exact act_same hv
      rw [e] at h2
      simpa [St.put] using h2
    · refine ⟨s', hq, ρ', ?_⟩
      have e : a1.put (some d) v = a1 := by
        cases a1 with | mk tm df => simp only [Act.put, Act.mk.injEq, and_true]; exact Array.setIfInBounds_eq_of_size_le (by simpa using hd)
      rwa [e] at h'
  · refine hk _ _ ⟨ρ, ?_⟩
    have h2 := hρ.put (some d) hrv
    rw [S_put] at h2
    simpa [S, ol_length] using h2
theorem sgt_o {aos : List AObj} {os' : List (Option AObj)} {j : Nat} {want b : Bool} (is : List Nat) (hd : (ops[j]?).bind (·.dst) = some t) (hv : opq n l (.tmp t) = some (.val (.bool b))) (hb : b = want) (hf : opq n ((t, .val (.bool b)) :: l) f = some (.clo (.func g) first cap)) (has : opqL n ((t, .val (.bool b)) :: l) args.toList = some xa) (hspec : FnO P g ys aos X os')
    (hL : Lend is (S n ((t, .val (.bool b)) :: l) M os) (first ++ xa ++ cap) ys aos)
    (hk : asemC P ops rest (S n ((d, X.ren (apx M is)) :: (t, .val (.bool b)) :: l) (M + (os'.length - is.length)) (updN (apx M is) M is os' os)) K) :
    asemC P ops (⟨some d, .call ⟨.value f, args, tys⟩, ty, pos, af, some (j, want)⟩ :: rest) (S n l M os) K := by
  subst hb
  simp only [asemC]
  refine .inl ⟨b, yielded_q hd hv, fun _ => ?_, fun h => by cases b <;> cases h⟩
  rw [hd, S_put]
  generalize hl : ((t, AV.val (.bool b)) :: l) = l2 at *
  have hM : (S n l2 M os).objs.length = M := ol_length M os
  simp only [execA, opq_op hf, opqL_op has]
  refine Call.via is hspec.spec hL ?_
  rintro r o' ⟨rfl, rfl⟩
  have hil : is.length = aos.length := by have := wkRO_len hL.2.1; simpa using this.symm
  have := hspec.len
  refine ⟨hspec.len, hspec.bd, ?_⟩
  rw [hM]
  have e : (⟨(S n l2 M os).tmps, updO (apx M is) (S n l2 M os).objs is o'⟩ : St) = S n l2 (M + (o'.length - is.length)) (updN (apx M is) M is o' os) := by
    simp only [S]; rw [updN_ol is o' os (by omega)]
  rw [e, S_put]
  exact hk
end
end Go.Lg

namespace Go.Lg
section
variable {P : Program} {n M N i : Nat} {l : List (Nat × AV)} {os : List (Nat × Option AObj)} {d t : Tmp} {ty : TypeId} {pos : String} {af : Array Edge} {ops : Array Oper} {rest : List Oper} {K : List Rec → St → Prop} {rs : List Rec} {j : Nat} {want : Bool} {X : AV}
end
end Go.Lg

namespace Go.Lg
theorem sO : (∀ {α : Type} {β : Type} (b : α) (f : α → β), (some b).map f = some (f b)) ∧
  (∀ {α : Type} {β : Type} (f : α → β), (none : Option α).map f = none) ∧
  (∀ {π : Nat → Nat} {l : List AV}, bdL 0 l = true → renL π l = l) ∧
  (∀ {π : Nat → Nat} {x : AV}, x.bd 0 = true → x.ren π = x) ∧
  (∀ (n : Nat) (l : List Bool), bdL n (l.map boolA) = true) ∧
  (∀ (n : Nat) (l : List Int), bdL n (l.map intA) = true) ∧
  (∀ (n : Nat) (l : List ByteArray), bdL n (l.map strA) = true) ∧
  (∀ (n : Nat) (x : Bool), (boolA x).bd n = true) ∧
  (∀ (n : Nat) (x : Int), (intA x).bd n = true) ∧
  (∀ (n : Nat) (x : ByteArray), (strA x).bd n = true) ∧
  (∀ (n : Nat) (l : List Int), (intsA l).bd n = true) ∧
  (∀ (n : Nat) (l : List ByteArray), (strsA l).bd n = true) ∧
  (∀ {α : Type} {a : α} {us : List α}, (a :: us).length = us.length + 1) ∧
  (∀ {α : Type}, ([] : List α).length = 0) ∧
  (∀ {α : Type} {a : α} {us : List α} {d : α}, (a :: us).getD 0 d = a) ∧
  (∀ {α : Type} {a : α} {us : List α} {i : Nat} {d : α}, (a :: us).getD (i + 1) d = us.getD i d) ∧
  (∀ n : Nat, ¬n < n) ∧
  (∀ n : Nat, 0 < n.succ) ∧
  (∀ n : Nat, n - 0 = n) ∧
  (∀ n : Nat, n - n = 0) ∧
  (∀ n : Nat, n + 0 = n) := ⟨@Option.map_some, @Option.map_none, @renL_pure, @ren_pure, bdL_boolA, bdL_intA, bdL_strA, bd_boolA, bd_intA, bd_strA, bd_intsA, bd_strsA, @List.length_cons, @List.length_nil, @List.getD_cons_zero, @List.getD_cons_succ, Nat.lt_irrefl, Nat.zero_lt_succ, Nat.sub_zero, Nat.sub_self, Nat.add_zero⟩
theorem RenL.of {π : Nat → Nat} : ∀ {xs ys : List AV}, xs = renL π ys → RenL π xs ys
  | xs, [], h => by subst h; exact .nil
  | xs, y :: ys, h => by subst h; exact .cons rfl (RenL.of rfl)
theorem Lend.o1 {n M : Nat} {l : List (Nat × AV)} {os : List (Nat × Option AObj)} {xs ys es es' : List AV} {i k : Nat} (h1 : xs = renL (ap [i]) ys) (h : lkO i os = some (.arr k es)) (he : es = renL (ap [i]) es') (hlt : Nat.blt i M = true) (h3 : bdL 1 ys = true) (h4 : bdL 1 es' = true) : Lend [i] (Lg.S n l M os) xs ys [.arr k es'] :=
  Lend.S (RenL.of h1) (.arr h he .nil) (by simp) (by simp [hlt]) h3 ⟨h4, trivial⟩
end Go.Lg

namespace Go.Lg
open Go.Proofs
set_option linter.unusedSimpArgs false
set_option linter.unusedVariables false
attribute [local irreducible] Ap Rq asemC WP RunD Ret Gq thenA inBlockA bodyQ noGotoA RqL RqP OpP
set_option maxHeartbeats 4000000
def hdT (l : List (Nat × Tx)) : Tx := hd (l.map (·.2))
def tkW : Tx → Bool
  | [] => false
  | c :: _ => isL c
def tkNum (t : Tx) : Int := if isNum t then numV t else -1
def pos (l : List (Nat × Tx)) (e : Int) : Int := match l with
  | [] => e
  | p :: _ => p.1
def tokA (p : Nat × Tx) : AV := .agg [intA p.1, strA (tx p.2), boolA (tkW p.2), intA (tkNum p.2)]
def rdA (l : List (Nat × Tx)) (e : Int) : AObj := .arr 2 [.agg [.sl 4 (l.map tokA), intA e]]
def pkA (l : List (Nat × Tx)) (e : Int) : AV := .agg [intA (pos l e), strA (tx (hdT l)), boolA (tkW (hdT l)), intA (tkNum (hdT l))]
theorem toks_bd (m : Nat) (l : List (Nat × Tx)) : bdL m (l.map tokA) = true := bdL_map (fun _ => rfl) _
attribute [local simp] rdA pkA tokA toks_bd
theorem ren_pkA (π : Nat → Nat) (l : List (Nat × Tx)) (e : Int) : AV.ren π (pkA l e) = pkA l e := ren_pure rfl
theorem ren_toks (π : Nat → Nat) (l : List (Nat × Tx)) : renL π (l.map tokA) = l.map tokA := renL_pure (toks_bd 0 l)
instance : Inhabited (Nat × Tx) := ⟨(0, [])⟩
theorem peek_fn (l : List (Nat × Tx)) (e : Int) : FnO Tryd.prog 37 [.ptr 0 2 0 0] [rdA l e] (pkA l e) [some (rdA l e)] := by
  cases l with
  | nil =>
    refine FnO.intro (by exact Nat.le_of_ble_eq_true rfl) rfl (by kernel_rfl) Tryd.func37 rfl rfl Tryd.ntmps37 (by exact Nat.le_of_ble_eq_true rfl) ?_; intro Γ hm
    (repeat' (first | apply jA | apply jH | apply jI | apply jK | apply jM | apply jS | (refine wp_cond rfl (fun hc => ?_) (fun hc => ?_) <;> (try simp only [sB, ne_eq, reduceCtorEq] at hc) <;> (try (exfalso; omega))) | (refine WP.regionC (id := 0) ?_; (refine se_alloc rfl ?_); apply jW) | (refine WP.regionC (id := 1) ?_; (refine smove rfl ?_); (refine snilc rfl ?_); (refine sfieldp rfl rfl rfl ?_); (refine sloadp rfl rfl rfl rfl ?_); (refine slenm rfl rfl ?_); (refine seql rfl rfl ?_); apply jW) | (refine WP.regionC (id := 2) ?_; (refine smove rfl ?_); (refine snilc rfl ?_); (refine sfieldp rfl rfl rfl ?_); (refine sloadp rfl rfl rfl rfl ?_); (refine su (ap_build (RqP.cons (rq_p rfl rfl) (RqP.cons (rq_p rfl rfl) (RqP.nil))) rfl) ?_); (refine se_store_b rfl rfl rfl rfl ?_); apply jW)))
    · refine retO_L (x := pkA [] e) (k := 1) (os1 := [(0, some (rdA [] e))]) (.cellT rfl rfl rfl rfl .nil) rfl ⟨[0], ToR.S rfl (by repeat' (first | exact rt_nil | refine rt_e rfl rfl ?_)) (by repeat' (first | exact ro_nil | refine ro_e rfl rfl ?_)) rfl rfl rfl (by (simp [bdT, AV.bd, bdL, bdL_append]; done)) (by repeat' (first | exact True.intro | exact rfl | refine And.intro ?_ ?_)) (by exact Nat.le_of_ble_eq_true rfl)⟩ rfl
    · exfalso; simp at hc
  | cons p l =>
    refine FnO.intro (by exact Nat.le_of_ble_eq_true rfl) rfl (by kernel_rfl) Tryd.func37 rfl rfl Tryd.ntmps37 (by exact Nat.le_of_ble_eq_true rfl) ?_; intro Γ hm
    (repeat' (first | apply jA | apply jH | apply jI | apply jK | apply jS | (refine wp_cond rfl (fun hc => ?_) (fun hc => ?_) <;> (try simp only [sB, ne_eq, reduceCtorEq] at hc) <;> (try (exfalso; omega))) | (refine WP.regionC (id := 0) ?_; (refine se_alloc rfl ?_); apply jW) | (refine WP.regionC (id := 1) ?_; (refine smove rfl ?_); (refine snilc rfl ?_); (refine sfieldp rfl rfl rfl ?_); (refine sloadp rfl rfl rfl rfl ?_); (refine slenm rfl rfl ?_); (refine seql rfl rfl ?_); apply jW) | (refine WP.regionC (id := 3) ?_; (refine smove rfl ?_); (refine snilc rfl ?_); (refine sfieldp rfl rfl rfl ?_); (refine sloadp rfl rfl rfl rfl ?_); (refine sidxn rfl rfl (by (simp only [sL] <;> omega)) ?_); (refine sloadw rfl rfl ?_); (refine se_store_b rfl rfl rfl rfl ?_); apply jW)))
    · exfalso; simp at hc; omega
    · refine retO_L (x := pkA (p :: l) e) (k := 1) (os1 := [(0, some (rdA (p :: l) e))]) (.cellT rfl rfl rfl rfl .nil) rfl ⟨[0], ToR.S rfl (by repeat' (first | exact rt_nil | refine rt_e rfl rfl ?_)) (by repeat' (first | exact ro_nil | refine ro_p rfl (by first | exact rfl | fail) (by first | (simp [bdL, bdL_append, AV.bd]; done) | fail) ?_)) rfl rfl rfl (by (simp [bdT, AV.bd, bdL, bdL_append]; done)) (by repeat' (first | exact True.intro | refine And.intro ?_ ?_ | (simp [bdOq, bdL, bdL_append, AV.bd]; done))) (by exact Nat.le_of_ble_eq_true rfl)⟩ rfl
theorem next_fn (p : Nat × Tx) (l : List (Nat × Tx)) (e : Int) : FnO Tryd.prog 39 [.ptr 0 2 0 0] [rdA (p :: l) e] (tokA p) [some (rdA l e)] := by
  obtain ⟨L, hL⟩ : ∃ L, L = p :: l := ⟨_, rfl⟩
  have hlen : L.length = l.length + 1 := by rw [hL]; rfl
  have hpk : pkA L e = tokA p := by rw [hL]; rfl
  rw [← hL, ← hpk]
  unfold rdA
  refine FnO.intro (by exact Nat.le_of_ble_eq_true rfl) rfl (by kernel_rfl) Tryd.func39 rfl rfl Tryd.ntmps39 (by exact Nat.le_of_ble_eq_true rfl) ?_; intro Γ hm
  (repeat' (first | apply jA | apply jH | apply jK | apply jS | (refine WP.regionC (id := 0) ?_; (refine se_alloc rfl ?_); apply jW) | (refine WP.regionC (id := 1) ?_; (refine smove rfl ?_); (refine sc_o [0] rfl rfl (peek_fn _ _) (Lend.o1 rfl rfl (by (exact (renL_pure (by simp [AV.bd, bdL, bdL_append])).symm)) rfl (by simp [AV.bd, bdL, bdL_append]) (by simp [AV.bd, bdL, bdL_append])) ?_; simp only [updN, newO, AObj.ren, renL, AV.ren, apx, ap, if_true, if_false, Nat.reduceLT, Nat.reduceAdd, Nat.reduceSub, sO, intA, boolA, strA, ren_pkA, rdA, ren_toks]); (refine se_alloc rfl ?_); (refine se_store_b rfl rfl rfl rfl ?_); apply jW) | (refine WP.regionC (id := 2) ?_; (refine smove rfl ?_); (refine smove rfl ?_); (refine snilc rfl ?_); (refine sfieldp rfl rfl rfl ?_); (refine sloadp rfl rfl rfl rfl ?_); (refine su (ap_slice_m (rq_p rfl rfl) (by exact bq_some (rq_p rfl rfl)) (by exact bq_none) (by (simp only [sL] <;> omega))) ?_); (refine snilc rfl ?_); (refine sfieldp rfl rfl rfl ?_); (refine se_store_b rfl rfl rfl rfl ?_); apply jW) | (refine WP.regionC (id := 3) ?_; (refine sloadpw rfl rfl rfl rfl ?_); (refine se_store_b rfl rfl rfl rfl ?_); apply jW)))
  have hd : (L.take ((List.map tokA L).length : Int).toNat).drop (1 : Int).toNat = l := by rw [hL]; simp
  rw [hd]
  refine retO_L (x := pkA L e) (k := 1) (os1 := [(0, some (rdA l e))]) (.cellT rfl rfl rfl rfl .nil) rfl ⟨[0], ToR.S rfl (by repeat' (first | exact rt_nil | refine rt_e rfl rfl ?_)) (by repeat' (first | exact ro_nil | refine ro_p rfl (by first | exact rfl | fail) (by first | (simp [bdL, bdL_append, AV.bd]; done) | fail) ?_)) rfl rfl rfl (by (simp [bdT, AV.bd, bdL, bdL_append]; done)) (by repeat' (first | exact True.intro | refine And.intro ?_ ?_ | (simp [bdOq, bdL, bdL_append, AV.bd]; done))) (by exact Nat.le_of_ble_eq_true rfl)⟩ rfl
def synV (x : Int) : Value := .iface 42 (.int .i64 x)
theorem fail_fn (l : List (Nat × Tx)) (e : Int) : FnX Tryd.prog 38 [.ptr 0 2 0 0] [rdA l e] (synV (pos l e)) := by
  unfold rdA
  refine FnX.intro (by kernel_rfl) Tryd.func38 rfl Tryd.ntmps38 (by exact Nat.le_of_ble_eq_true rfl) ?_; intro Γ hm
  refine wpl_region (id := 0) ?_
  (refine wpl_step rfl ?_)
  (refine smove rfl ?_)
  (refine asemC_end ?_)
  (refine wpl_step rfl ?_)
  (refine sc_o [0] rfl rfl (peek_fn _ _) (Lend.o1 rfl rfl (by (exact (renL_pure (by simp [AV.bd, bdL, bdL_append])).symm)) rfl (by simp [AV.bd, bdL, bdL_append]) (by simp [AV.bd, bdL, bdL_append])) ?_; simp only [updN, newO, AObj.ren, renL, AV.ren, apx, ap, if_true, if_false, Nat.reduceLT, Nat.reduceAdd, Nat.reduceSub, sO, intA, boolA, strA, ren_pkA, rdA, ren_toks])
  (refine asemC_end ?_)
  (refine wpl_step rfl ?_)
  (refine su (afieldv rfl rfl) ?_)
  (refine asemC_end ?_)
  (refine wpl_step rfl ?_)
  (refine se_iface rfl (by kernel_rfl) (by kernel_rfl) ?_)
  (refine asemC_end ?_)
  (refine wpl_panic rfl ?_)
  exact bx_p rfl
end Go.Lg

namespace Go.Lg
def jT := @go_p
end Go.Lg

namespace Go.Lg
open Go.Proofs
set_option linter.unusedSimpArgs false
set_option linter.unusedVariables false
attribute [local irreducible] Ap Rq asemC WP RunD Ret Gq thenA inBlockA bodyQ noGotoA RqL RqP OpP
set_option maxHeartbeats 4000000
attribute [local simp] rdA pkA tokA toks_bd
def cut (l : List (Nat × Tx)) (r : List Tx) : List (Nat × Tx) := l.drop (l.length - r.length)
def pout {α : Type} (l : List (Nat × Tx)) (e : Int) (f : α → AV) : PR α → Res
  | .ok x r => .ok (f x) [some (rdA (cut l r) e)]
  | .err r => .die (synV (pos (cut l r) e))
theorem cut_self (l : List (Nat × Tx)) : cut l (l.map (·.2)) = l := by simp [cut]
theorem cut_tail (p : Nat × Tx) (l : List (Nat × Tx)) : cut (p :: l) (l.map (·.2)) = l := by simp [cut]
theorem pout_fine {α : Type} (l : List (Nat × Tx)) (e : Int) (f : α → AV) (hf : ∀ x, (f x).bd 1 = true) (p : PR α) : (pout l e f p).fine 1 := by
  cases p with
  | ok x r => exact ⟨Nat.le_refl _, hf x⟩
  | err r => trivial
def kwB (s : ByteArray) : Bool := kws.any fun k => decide (s = k)
theorem reserved_fn (s : ByteArray) : Fn Tryd.prog 40 [strA s] (boolA (kwB s)) := by
  refine Fn.intro rfl (by kernel_rfl) Tryd.func40 rfl rfl Tryd.ntmps40 (by exact Nat.le_of_ble_eq_true rfl) ?_; intro Γ hm
  (repeat' (first | apply jA | apply jF | apply jH | apply jI | apply jK | apply jM | apply jN | apply jO | apply jS | (refine wp_cond rfl (fun hc => ?_) (fun hc => ?_) <;> (try simp only [sB, ne_eq, reduceCtorEq] at hc) <;> (try (exfalso; omega))) | (refine WP.regionC ?_; (refine sassign rfl ?_); apply jW) | (refine WP.regionC (id := 1) ?_; (refine smove rfl ?_); apply jW) | (refine WP.regionC ?_; (refine seqs rfl rfl ?_); (refine sassign rfl ?_); apply jW) | refine ret_b rfl ?_))
  all_goals simp_all [kwB, kws, kw0, kw1, kw2, kw3, kw4]
theorem expect_fn (s : ByteArray) (hs : bl s ≠ []) (l : List (Nat × Tx)) (e : Int) :
    FnP Tryd.prog 11 [.ptr 0 2 0 0, strA s] [rdA l e] (pout l e (fun _ => .tup []) (pTake (bl s) (l.map (·.2)))) := by
  by_cases h : hdT l = bl s
  · obtain ⟨p, l', rfl⟩ : ∃ p l', l = p :: l' := by
      cases l with
      | nil => exact absurd h.symm hs
      | cons p l' => exact ⟨_, _, rfl⟩
    have hr : pout (p :: l') e (fun _ : Unit => .tup []) (pTake (bl s) ((p :: l').map (·.2))) = .ok (.tup []) [some (rdA l' e)] := by
      have h' : p.2 = bl s := h
      simp [pTake, pout, h', cut_tail]
    rw [hr]
    have ht : tx (hdT (p :: l')) = s := by rw [h, tx_bl]
    have hn := next_fn p l' e
    generalize hL : p :: l' = L at *
    clear hr
    unfold rdA
    refine FnP.intro ?_ (by kernel_rfl) Tryd.func11 rfl rfl Tryd.ntmps11 (by exact Nat.le_of_ble_eq_true rfl) ?_; rotate_left; intro Γ hm
    · (repeat' (first | apply jA | apply jH | apply jI | (refine wp_cond rfl (fun hc => ?_) (fun hc => ?_) <;> (try simp only [sB, ne_eq, reduceCtorEq] at hc) <;> (try (exfalso; omega))) | (refine WP.regionC (id := 0) ?_; (refine smove rfl ?_); (refine sc_o [0] rfl rfl (peek_fn _ _) (Lend.o1 rfl rfl (by (exact (renL_pure (by simp [AV.bd, bdL, bdL_append])).symm)) rfl (by simp [AV.bd, bdL, bdL_append]) (by simp [AV.bd, bdL, bdL_append])) ?_; simp only [updN, newO, AObj.ren, renL, AV.ren, apx, ap, if_true, if_false, Nat.reduceLT, Nat.reduceAdd, Nat.reduceSub, sO, intA, boolA, strA, ren_pkA, rdA, ren_toks]); (refine su (afieldv rfl rfl) ?_); (refine smove rfl ?_); (refine su (anes rfl rfl) ?_); apply jW) | (refine WP.regionC (id := 2) ?_; (refine smove rfl ?_); (refine sc_o [0] rfl rfl (hn) (Lend.o1 rfl rfl (by (exact (renL_pure (by simp [AV.bd, bdL, bdL_append])).symm)) rfl (by simp [AV.bd, bdL, bdL_append]) (by simp [AV.bd, bdL, bdL_append])) ?_; simp only [updN, newO, AObj.ren, renL, AV.ren, apx, ap, if_true, if_false, Nat.reduceLT, Nat.reduceAdd, Nat.reduceSub, sO, intA, boolA, strA, rdA, ren_toks]); apply jW)))
      · exact absurd ht hc
      · refine bp_n rfl ?_
        refine retO_L (x := .tup []) (k := 1) (os1 := [(0, some (rdA l' e))]) .nil rfl ⟨[0], ToR.S rfl (by repeat' (first | exact rt_nil | refine rt_e rfl rfl ?_)) (by repeat' (first | exact ro_nil | refine ro_p rfl (by first | exact rfl | fail) (by first | (simp [bdL, bdL_append, AV.bd]; done) | fail) ?_)) rfl rfl rfl (by (simp [bdT, AV.bd, bdL, bdL_append]; done)) (by repeat' (first | exact True.intro | refine And.intro ?_ ?_ | (simp [bdOq, bdL, bdL_append, AV.bd]; done))) (by exact Nat.le_of_ble_eq_true rfl)⟩ rfl
    · exact ⟨Nat.le_refl _, rfl⟩
  · have hr : pout l e (fun _ : Unit => .tup []) (pTake (bl s) (l.map (·.2))) = .die (synV (pos l e)) := by
      cases l with
      | nil => rfl
      | cons p l' =>
        have h' : ¬ p.2 = bl s := h
        simp [pTake, pout, h', cut, pos]
    have ht : ¬ tx (hdT l) = s := fun q => h (by rw [← q]; rfl)
    rw [hr]
    unfold rdA
    refine FnP.intro ?_ (by kernel_rfl) Tryd.func11 rfl rfl Tryd.ntmps11 (by exact Nat.le_of_ble_eq_true rfl) ?_; rotate_left; intro Γ hm
    · (repeat' (first | apply jA | apply jH | apply jI | apply jT | (refine wp_cond rfl (fun hc => ?_) (fun hc => ?_) <;> (try simp only [sB, ne_eq, reduceCtorEq] at hc) <;> (try (exfalso; omega))) | (refine WP.regionC (id := 0) ?_; (refine smove rfl ?_); (refine sc_o [0] rfl rfl (peek_fn _ _) (Lend.o1 rfl rfl (by (exact (renL_pure (by simp [AV.bd, bdL, bdL_append])).symm)) rfl (by simp [AV.bd, bdL, bdL_append]) (by simp [AV.bd, bdL, bdL_append])) ?_; simp only [updN, newO, AObj.ren, renL, AV.ren, apx, ap, if_true, if_false, Nat.reduceLT, Nat.reduceAdd, Nat.reduceSub, sO, intA, boolA, strA, ren_pkA, rdA, ren_toks]); (refine su (afieldv rfl rfl) ?_); (refine smove rfl ?_); (refine su (anes rfl rfl) ?_); apply jW) | (refine wpl_region (id := 1) ?_; (refine wpl_step rfl ?_; (refine smove rfl ?_); apply jW; ((refine wpl_x [0] rfl rfl (fail_fn l e) (Lend.S (by first | ((repeat' first | exact RenL.nil | refine RenL.cons rfl ?_); done) | fail) (by first | ((repeat' first | exact LendO.nil | refine LendO.arr rfl (by (exact (renL_pure (by simp [AV.bd, bdL, bdL_append])).symm)) ?_); done) | fail) (by decide) rfl (by simp [AV.bd, bdL, bdL_append]) (by repeat' (first | exact True.intro | refine And.intro ?_ ?_ | simp [AV.bd, bdL, bdL_append]))) ?_))))))
      · exact bp_p rfl
      · exact absurd hc ht
    · trivial
theorem kwB_tx (t : Tx) : kwB (tx t) = kwT.any fun k => decide (t = k) := by
  unfold kwB kwT
  rw [List.any_map]
  congr 1
  funext k
  simp only [Function.comp]
  have : (tx t = k) ↔ (t = bl k) := ⟨fun h => by rw [← h]; rfl, fun h => by rw [h, tx_bl]⟩
  simp only [this]
theorem nm_hd (l : List (Nat × Tx)) : (tkW (hdT l) && !(kwB (tx (hdT l)))) = isN (l.map (·.2)) := by
  cases l with
  | nil => rfl
  | cons p l =>
    rw [kwB_tx]
    show _ = nmT p.2
    unfold nmT tkW
    have : hdT (p :: l) = p.2 := rfl
    rw [this]
    all_goals (cases p.2 <;> rfl)
theorem isname_fn (l : List (Nat × Tx)) (e : Int) : FnO Tryd.prog 54 [.ptr 0 2 0 0] [rdA l e] (boolA (isN (l.map (·.2)))) [some (rdA l e)] := by
  have h := nm_hd l
  unfold rdA
  refine FnO.intro (by exact Nat.le_of_ble_eq_true rfl) rfl (by kernel_rfl) Tryd.func54 rfl rfl Tryd.ntmps54 (by exact Nat.le_of_ble_eq_true rfl) ?_; intro Γ hm
  (repeat' (first | apply jA | apply jH | apply jK | apply jS | (refine WP.regionC (id := 0) ?_; (refine sassign rfl ?_); apply jW) | (refine WP.regionC (id := 1) ?_; (refine smove rfl ?_); (refine sc_o [0] rfl rfl (peek_fn _ _) (Lend.o1 rfl rfl (by (exact (renL_pure (by simp [AV.bd, bdL, bdL_append])).symm)) rfl (by simp [AV.bd, bdL, bdL_append]) (by simp [AV.bd, bdL, bdL_append])) ?_; simp only [updN, newO, AObj.ren, renL, AV.ren, apx, ap, if_true, if_false, Nat.reduceLT, Nat.reduceAdd, Nat.reduceSub, sO, intA, boolA, strA, ren_pkA, rdA, ren_toks]); (refine se_alloc rfl ?_); (refine se_store_b rfl rfl rfl rfl ?_); apply jW) | (refine WP.regionC (id := 2) ?_; (refine sfieldp rfl rfl rfl ?_); (refine sloadp rfl rfl rfl rfl ?_); (refine smove rfl ?_); (refine sg (gq_vt rfl rfl) (fun he => ap_field_p (rq_p rfl rfl) rfl rfl) ?_); (refine sg (gq_vt rfl rfl) (fun he => ap_load_p (rq_c rfl rfl) rfl rfl rfl) ?_); (refine sg_p (gq_vt rfl rfl) (fun he => ⟨(rq_p rfl rfl), (RqL.cons (rq_c rfl rfl) (RqL.nil)), (by first | ((repeat' first | exact SubL.nil | refine SubL.cons ?_ ?_ | exact Sub.refl); done) | fail), (by first | (simp [bdL, bdL_append, AV.bd]; done) | fail), reserved_fn _⟩) ?_); (refine sg (gq_vt rfl rfl) (fun he => ap_not (rq_c rfl rfl)) ?_); (refine su (ap_and (rq_p rfl rfl) (rq_c rfl rfl)) ?_); (refine sassign rfl ?_); apply jW)))
  rw [← h]
  refine retO_L (x := boolA (tkW (hdT l) && !(kwB (tx (hdT l))))) (k := 1) (os1 := [(0, some (rdA l e))]) (.tmp rfl .nil) rfl ⟨[0], ToR.S rfl (by repeat' (first | exact rt_nil | refine rt_e rfl rfl ?_)) (by repeat' (first | exact ro_nil | refine ro_p rfl (by first | exact rfl | fail) (by first | (simp [bdL, bdL_append, AV.bd]; done) | fail) ?_)) rfl rfl rfl (by (simp [bdT, AV.bd, bdL, bdL_append]; done)) (by repeat' (first | exact True.intro | refine And.intro ?_ ?_ | (simp [bdOq, bdL, bdL_append, AV.bd]; done))) (by exact Nat.le_of_ble_eq_true rfl)⟩ rfl
theorem gpname_fn (l : List (Nat × Tx)) (e : Int) : FnP Tryd.prog 12 [.ptr 0 2 0 0] [rdA l e] (pout l e strA (pName (l.map (·.2)))) := by
  have h := nm_hd l
  cases hb : isN (l.map (·.2)) with
  | true =>
    obtain ⟨p, l', rfl⟩ : ∃ p l', l = p :: l' := by
      cases l with
      | nil => cases hb
      | cons p l' => exact ⟨_, _, rfl⟩
    have hr : pout (p :: l') e strA (pName ((p :: l').map (·.2))) = .ok (strA (tx p.2)) [some (rdA l' e)] := by
      have h' : nmT p.2 = true := hb
      simp [pName, pout, h', cut_tail]
    rw [hr]
    have hn := next_fn p l' e
    generalize hL : p :: l' = L at *
    clear hr
    rw [hb] at h
    unfold rdA
    refine FnP.intro ?_ (by kernel_rfl) Tryd.func12 rfl rfl Tryd.ntmps12 (by exact Nat.le_of_ble_eq_true rfl) ?_; rotate_left; intro Γ hm
    · (repeat' (first | apply jA | apply jH | apply jI | apply jK | (refine wp_cond rfl (fun hc => ?_) (fun hc => ?_) <;> (try simp only [sB, ne_eq, reduceCtorEq] at hc) <;> (try (exfalso; omega))) | (refine WP.regionC (id := 0) ?_; (refine sassign rfl ?_); apply jW) | (refine WP.regionC (id := 1) ?_; (refine smove rfl ?_); (refine sc_o [0] rfl rfl (peek_fn _ _) (Lend.o1 rfl rfl (by (exact (renL_pure (by simp [AV.bd, bdL, bdL_append])).symm)) rfl (by simp [AV.bd, bdL, bdL_append]) (by simp [AV.bd, bdL, bdL_append])) ?_; simp only [updN, newO, AObj.ren, renL, AV.ren, apx, ap, if_true, if_false, Nat.reduceLT, Nat.reduceAdd, Nat.reduceSub, sO, intA, boolA, strA, ren_pkA, rdA, ren_toks]); (refine se_alloc rfl ?_); (refine se_store_b rfl rfl rfl rfl ?_); apply jW) | (refine WP.regionC (id := 2) ?_; (refine sfieldp rfl rfl rfl ?_); (refine sloadp rfl rfl rfl rfl ?_); (refine su (anot rfl) ?_); (refine smove rfl ?_); (refine sg (gq_vf rfl rfl) (fun he => ap_field_p (rq_p rfl rfl) rfl rfl) ?_); (refine sg (gq_vf rfl rfl) (fun he => ap_load_p (rq_c rfl rfl) rfl rfl rfl) ?_); (refine sg_p (gq_vf rfl rfl) (fun he => ⟨(rq_p rfl rfl), (RqL.cons (rq_c rfl rfl) (RqL.nil)), (by first | ((repeat' first | exact SubL.nil | refine SubL.cons ?_ ?_ | exact Sub.refl); done) | fail), (by first | (simp [bdL, bdL_append, AV.bd]; done) | fail), reserved_fn _⟩) ?_); (refine su (ap_or (rq_p rfl rfl) (rq_c rfl rfl)) ?_); apply jW) | (refine WP.regionC (id := 4) ?_; (refine smove rfl ?_); (refine sc_o [0] rfl rfl (hn) (Lend.o1 rfl rfl (by (exact (renL_pure (by simp [AV.bd, bdL, bdL_append])).symm)) rfl (by simp [AV.bd, bdL, bdL_append]) (by simp [AV.bd, bdL, bdL_append])) ?_; simp only [updN, newO, AObj.ren, renL, AV.ren, apx, ap, if_true, if_false, Nat.reduceLT, Nat.reduceAdd, Nat.reduceSub, sO, intA, boolA, strA, rdA, ren_toks]); (refine su (afieldv rfl rfl) ?_); (refine sassign rfl ?_); apply jW)))
      · exfalso; rcases hc with hc | hc <;> simp [hc] at h
      · refine bp_r rfl ?_
        refine retO_L (x := strA (tx p.2)) (k := 1) (os1 := [(0, some (rdA l' e))]) (.tmp rfl .nil) rfl ⟨[0], ToR.S rfl (by repeat' (first | exact rt_nil | refine rt_e rfl rfl ?_)) (by repeat' (first | exact ro_nil | refine ro_p rfl (by first | exact rfl | fail) (by first | (simp [bdL, bdL_append, AV.bd]; done) | fail) ?_)) rfl rfl rfl (by (simp [bdT, AV.bd, bdL, bdL_append]; done)) (by repeat' (first | exact True.intro | refine And.intro ?_ ?_ | (simp [bdOq, bdL, bdL_append, AV.bd]; done))) (by exact Nat.le_of_ble_eq_true rfl)⟩ rfl
    · exact ⟨Nat.le_refl _, rfl⟩
  | false =>
    have hr : pout l e strA (pName (l.map (·.2))) = .die (synV (pos l e)) := by
      cases l with
      | nil => rfl
      | cons p l' =>
        have h' : nmT p.2 = false := hb
        simp [pName, pout, h', cut, pos]
    rw [hr]
    rw [hb] at h
    unfold rdA
    refine FnP.intro ?_ (by kernel_rfl) Tryd.func12 rfl rfl Tryd.ntmps12 (by exact Nat.le_of_ble_eq_true rfl) ?_; rotate_left; intro Γ hm
    · (repeat' (first | apply jA | apply jH | apply jI | apply jT | (refine wp_cond rfl (fun hc => ?_) (fun hc => ?_) <;> (try simp only [sB, ne_eq, reduceCtorEq] at hc) <;> (try (exfalso; omega))) | (refine WP.regionC (id := 0) ?_; (refine sassign rfl ?_); apply jW) | (refine WP.regionC (id := 1) ?_; (refine smove rfl ?_); (refine sc_o [0] rfl rfl (peek_fn _ _) (Lend.o1 rfl rfl (by (exact (renL_pure (by simp [AV.bd, bdL, bdL_append])).symm)) rfl (by simp [AV.bd, bdL, bdL_append]) (by simp [AV.bd, bdL, bdL_append])) ?_; simp only [updN, newO, AObj.ren, renL, AV.ren, apx, ap, if_true, if_false, Nat.reduceLT, Nat.reduceAdd, Nat.reduceSub, sO, intA, boolA, strA, ren_pkA, rdA, ren_toks]); (refine se_alloc rfl ?_); (refine se_store_b rfl rfl rfl rfl ?_); apply jW) | (refine WP.regionC (id := 2) ?_; (refine sfieldp rfl rfl rfl ?_); (refine sloadp rfl rfl rfl rfl ?_); (refine su (anot rfl) ?_); (refine smove rfl ?_); (refine sg (gq_vf rfl rfl) (fun he => ap_field_p (rq_p rfl rfl) rfl rfl) ?_); (refine sg (gq_vf rfl rfl) (fun he => ap_load_p (rq_c rfl rfl) rfl rfl rfl) ?_); (refine sg_p (gq_vf rfl rfl) (fun he => ⟨(rq_p rfl rfl), (RqL.cons (rq_c rfl rfl) (RqL.nil)), (by first | ((repeat' first | exact SubL.nil | refine SubL.cons ?_ ?_ | exact Sub.refl); done) | fail), (by first | (simp [bdL, bdL_append, AV.bd]; done) | fail), reserved_fn _⟩) ?_); (refine su (ap_or (rq_p rfl rfl) (rq_c rfl rfl)) ?_); apply jW) | (refine wpl_region (id := 3) ?_; (refine wpl_step rfl ?_; (refine smove rfl ?_); apply jW; ((refine wpl_x [0] rfl rfl (fail_fn l e) (Lend.S (by first | ((repeat' first | exact RenL.nil | refine RenL.cons rfl ?_); done) | fail) (by first | ((repeat' first | exact LendO.nil | refine LendO.arr rfl (by (exact (renL_pure (by simp [AV.bd, bdL, bdL_append])).symm)) ?_); done) | fail) (by decide) rfl (by simp [AV.bd, bdL, bdL_append]) (by repeat' (first | exact True.intro | refine And.intro ?_ ?_ | simp [AV.bd, bdL, bdL_append]))) ?_))))))
      · exact bp_p rfl
      · exfalso; simp [hc.1, hc.2] at h
    · trivial
end Go.Lg

namespace Go.Lg
set_option linter.unusedVariables false
def PR.rest {α : Type} : PR α → List Tx
  | .ok _ r => r
  | .err r => r
theorem suf_tail {t : Tx} {r l : List Tx} (h : r <:+ l) : r <:+ t :: l := h.trans (List.suffix_cons t l)
theorem sufT_suf : ∀ (x : GEx) (l : List Tx), (sufT x l).2 <:+ l
  | x, [] => by rw [sufT]; exact List.suffix_refl _
  | x, t :: r => by
    rw [sufT]
    split
    · exact suf_tail (sufT_suf _ r)
    · split
      · exact suf_tail (sufT_suf _ r)
      · split
        · exact suf_tail (sufT_suf _ r)
        · exact List.suffix_refl _
theorem par_suf (n : Nat) : ∀ l : List Tx, l.length ≤ n → (pPrim l).rest <:+ l ∧ (pItems l).rest <:+ l ∧ (pAlts l).rest <:+ l ∧ (∀ x r, pPrim l = .ok x r → r.length < l.length) := by
  induction n with
  | zero =>
    intro l hl
    obtain rfl : l = [] := List.eq_nil_of_length_eq_zero (by omega)
    have h1 : pPrim [] = .err [] := by rw [pPrim]
    have h2 : pItems [] = .ok [] [] := by rw [pItems]; rfl
    have h3 : pAlts [] = .ok [seqOf []] [] := by rw [pAlts, h2]
    rw [h1, h2, h3]
    exact ⟨List.suffix_refl _, List.suffix_refl _, List.suffix_refl _, fun x r h => by cases h⟩
  | succ n ih =>
    intro l hl
    have hp : (pPrim l).rest <:+ l ∧ (∀ x r, pPrim l = .ok x r → r.length < l.length) := by
      cases l with
      | nil => rw [pPrim]; exact ⟨List.suffix_refl _, fun x r h => by cases h⟩
      | cons t r =>
        obtain ⟨_, _, h3, _⟩ := ih r (by simp at hl; omega)
        rw [pPrim]
        split
        · exact ⟨suf_tail (List.suffix_refl _), fun x q h => by injection h with h1 h2; subst h2; simp⟩
        · split
          · split
            · rename_i q hq; rw [hq] at h3; exact ⟨suf_tail h3, fun x q h => by cases h⟩
            · rename_i es q hq
              rw [hq] at h3
              split
              · exact ⟨List.nil_suffix, fun x q h => by cases h⟩
              · rename_i t' q'
                have hl2 := h3.length_le
                simp [PR.rest] at hl2
                split
                · exact ⟨suf_tail ((List.suffix_cons _ _).trans h3), fun x q h => by injection h with h1 h2; subst h2; simp; omega⟩
                · exact ⟨suf_tail h3, fun x q h => by cases h⟩
          · exact ⟨List.suffix_refl _, fun x q h => by cases h⟩
    have hi : (pItems l).rest <:+ l := by
      rw [pItems]
      split
      · split
        · rename_i r hr; have := hp.1; rw [hr] at this; exact this
        · rename_i x r hr
          have h1 := hp.1; rw [hr] at h1
          have h2 := sufT_suf x r
          split
          · rename_i hlt
            obtain ⟨_, h3, _⟩ := ih (sufT x r).2 (by omega)
            split
            · rename_i q hq; rw [hq] at h3; exact (h3.trans h2).trans h1
            · rename_i xs q hq; rw [hq] at h3; exact (h3.trans h2).trans h1
          · exact List.suffix_refl _
      · exact List.suffix_refl _
    refine ⟨hp.1, hi, ?_, hp.2⟩
    rw [pAlts]
    split
    · rename_i q hq; rw [hq] at hi; exact hi
    · exact List.nil_suffix
    · rename_i xs t q hq
      rw [hq] at hi
      split
      · split
        · rename_i hlt
          obtain ⟨_, _, h3, _⟩ := ih q (by omega)
          split
          · rename_i q' hq'; rw [hq'] at h3; exact (h3.trans (List.suffix_cons _ _)).trans hi
          · rename_i es q' hq'; rw [hq'] at h3; exact (h3.trans (List.suffix_cons _ _)).trans hi
        · exact List.suffix_refl _
      · exact hi
theorem pPrim_suf (l : List Tx) : (pPrim l).rest <:+ l := (par_suf _ l (Nat.le_refl _)).1
theorem pItems_suf (l : List Tx) : (pItems l).rest <:+ l := (par_suf _ l (Nat.le_refl _)).2.1
theorem pPrim_lt {l : List Tx} {x : GEx} {r : List Tx} (h : pPrim l = .ok x r) : r.length < l.length := (par_suf _ l (Nat.le_refl _)).2.2.2 x r h
theorem pItems_eq (l : List Tx) : pItems l = if isN l || decide (hd l = [40]) then (match pPrim l with
    | .err r => .err r
    | .ok x r => match pItems (sufT x r).2 with
      | .err q => .err q
      | .ok xs q => .ok ((sufT x r).1 :: xs) q) else .ok [] l := by
  conv => lhs; rw [pItems]
  split
  · cases h : pPrim l with
    | err r => rfl
    | ok x r =>
      have h1 := pPrim_lt h
      have h2 := sufT_len x r
      simp only
      rw [dif_pos (by omega)] <;> rfl
  · rfl
def finA (acc : List GEx) (r : List Tx) : PR (List GEx) := match r with
  | [] => .ok acc []
  | t :: q => if t = [124] then (match pAlts q with
    | .err q' => .err q'
    | .ok es q' => .ok (acc ++ es) q') else .ok acc (t :: q)
theorem pAlts_eq (l : List Tx) : pAlts l = match pItems l with
    | .err q => .err q
    | .ok xs q => finA [seqOf xs] q := by
  conv => lhs; rw [pAlts]
  cases h : pItems l with
  | err q => rfl
  | ok xs q =>
    cases q with
    | nil => rfl
    | cons t q =>
      have h1 := (pItems_suf l).length_le
      rw [h] at h1
      simp [PR.rest] at h1
      simp only [finA]
      split
      · rw [dif_pos (by omega)]; rfl
      · rfl
theorem finA_bar (acc : List GEx) (q : List Tx) : finA acc ([124] :: q) = match pItems q with
    | .err q' => .err q'
    | .ok xs q' => finA (acc ++ [seqOf xs]) q' := by
  simp only [finA, if_true]
  rw [pAlts_eq]
  cases h : pItems q with
  | err q' => rfl
  | ok xs q' =>
    cases q' with
    | nil => rfl
    | cons t r =>
      simp only [finA]
      by_cases ht : t = [124]
      · simp only [if_pos ht]
        cases h2 : pAlts r with
        | err q2 => rfl
        | ok es q2 => simp
      · simp only [if_neg ht]
def pItem (l : List Tx) : PR GEx := match pPrim l with
  | .err r => .err r
  | .ok x r => .ok (sufT x r).1 (sufT x r).2
def pSeq (l : List Tx) : PR GEx := match pItems l with
  | .err q => .err q
  | .ok xs q => .ok (seqOf xs) q
theorem pItem_suf (l : List Tx) : (pItem l).rest <:+ l := by
  have := pPrim_suf l
  unfold pItem
  cases h : pPrim l with
  | err r => rw [h] at this; exact this
  | ok x r => rw [h] at this; exact (sufT_suf x r).trans this
def finI (acc : List GEx) (l : List Tx) : PR (List GEx) := match pItems l with
  | .err q => .err q
  | .ok xs q => .ok (acc ++ xs) q
theorem finI_stop {acc : List GEx} {l : List Tx} (h : (isN l || decide (hd l = [40])) = false) : finI acc l = .ok acc l := by
  unfold finI
  rw [pItems_eq, h]
  simp
theorem finI_step {acc : List GEx} {l : List Tx} (h : (isN l || decide (hd l = [40])) = true) : finI acc l = match pItem l with
    | .err q => .err q
    | .ok x r => finI (acc ++ [x]) r := by
  conv => lhs; unfold finI
  rw [pItems_eq, h]
  unfold pItem
  cases h1 : pPrim l with
  | err q => rfl
  | ok x r =>
    simp only [if_true, finI]
    cases h2 : pItems (sufT x r).2 with
    | err q => rfl
    | ok xs q => simp
theorem finI_nil (l : List Tx) : finI [] l = pItems l := by
  unfold finI; cases pItems l <;> rfl
end Go.Lg

namespace Go.Lg
open Go.RowKit
set_option linter.unusedVariables false
def frzq (m id M : Nat) (os : List (Nat × Option AObj)) : Bool := (List.range m).all fun i => !Nat.beq i id && (lookq M os i).isSome
section
variable {P : Program} {Γ : Cx} {A : Nat → Prop} {ρ : Nat → Option Nat} {s : St} {a : Act} {w : World}
theorem SRa.list1 (h : SRa Γ A ρ s a w) {id k len : Nat} {α : Type} {f : α → AV} {L : List α} (ho : s.look id = some (.arr k (L.map f))) (hl : L.length = len) (hb : ∀ x, (f x).bd 0 = true) (hk : ∀ x, (f x).cells.length = k)
    (hnb : ∀ b, ρ id = some b → Γ.w0.heap.size ≤ b) {I : Nat → Prop} {v : Value} (hv : RV A ρ I w (.ref id k 0 len) v) : RV A ρ (Im Γ ρ (s.set id none) w) w (.sl k (L.map f)) v := by
  have hlive := St.look_some.1 ho
  have hI : ∀ b, Im Γ ρ s w b → Im Γ ρ (s.set id none) w b ∧ w.heap[b]? = w.heap[b]? := fun b ⟨h1, h2, h3⟩ => ⟨⟨h1, h2, fun i o hl => h3 i o (St.live_kill hl).2⟩, rfl⟩
  cases hv with
  | @ref _ _ _ _ cap b hA hbk hlc hcs hmx =>
    obtain ⟨cs, t, hblk, hrow⟩ := h.row ho hbk
    have hflat : (flat (L.map f)).length = (L.map f).length * k := flat_length hrow.wide
    have hIb : Im Γ ρ (s.set id none) w b := by
      refine ⟨.inr ?_, World.lt_of_block hblk, fun i o hl hr => ?_⟩
      · exact hnb b hbk
      · obtain ⟨h1, h2⟩ := St.live_kill hl
        exact h1 (h.inj i id o _ b h2 hlive hr hbk)
    have key : RV A ρ (Im Γ ρ (s.set id none) w) w (.sl k (L.map f)) (.slice (some ⟨b, 0 * k, none⟩) (L.map f).length cap) := by
      refine .sl (fun j => cs.getD j undef) ⟨by simp; omega, hmx⟩ hIb (fun e he => by obtain ⟨x, _, rfl⟩ := List.mem_map.1 he; exact hk x) (fun j hj => ?_) (fun j hj => ?_) (fun j x hx => ?_)
      · have : j < cs.size := Nat.lt_of_lt_of_le hj hrow.len
        rw [cell_of_block hblk]; simp [Array.getD, this]
      · have : j < cs.size := Nat.lt_of_lt_of_le hj hrow.len
        exact hrow.atoms j _ hj (by simp [Array.getD, this])
      · have hj := (List.getElem?_eq_some_iff.1 hx).1
        have : j < cs.size := Nat.lt_of_lt_of_le hj hrow.len
        exact (hrow.vals j x _ hx (by simp [Array.getD, this])).pure (flat_bd (bdL_map hb L) x (List.mem_of_getElem? hx)) hI (fun _ _ hn => hn)
    rw [List.length_map, hl] at key
    exact key
  | refn hA hbk =>
    have : L = [] := List.eq_nil_of_length_eq_zero hl
    subst this
    exact .nils
theorem SRa.newb {n M : Nat} {l : List (Nat × AV)} {os : List (Nat × Option AObj)} {id mm : Nat} {o : AObj} (h : SRa Γ A ρ (S n l M os) a w) (hm : Γ.m = mm) (hfq : frzq mm id M os = true) (hl : (S n l M os).live id o) : ∀ b, ρ id = some b → Γ.w0.heap.size ≤ b := by
  intro b hb
  rcases h.own id o b hl hb with h1 | ⟨i, hi, h1⟩
  · exact h1
  · exfalso
    rw [hm] at hi
    have h2 := List.all_eq_true.1 hfq i (List.mem_range.2 hi)
    simp only [Bool.and_eq_true, Bool.not_eq_true'] at h2
    obtain ⟨o', ho'⟩ := Option.isSome_iff_exists.1 h2.2
    have h3 := St.look_some.1 (by rw [S_look]; exact ho' : (S n l M os).look i = some o')
    have h4 := (h.ext i (by omega)).2
    have h5 := h.inj i id o' o b h3 hl (by rw [h4]; exact h1) hb
    subst h5
    simp at h2
end
section
variable {P : Program} {Γ : Cx} {n M : Nat} {l : List (Nat × AV)} {os : List (Nat × Option AObj)} {c : Code} {Q : Exit → St → Prop} {ops : Array Oper} {rest : List Oper}
theorem wp_frzm {id k len : Nat} {α : Type} {f : α → AV} {L : List α} (j : Nat) {mm : Nat} (hm : Γ.m = mm) (h : opq n l (.tmp j) = some (.ref id k 0 len)) (ho : lookq M os id = some (.arr k (L.map f))) (hl : L.length = len) (hb : ∀ x, (f x).bd 0 = true) (hk : ∀ x, (f x).cells.length = k) (hfq : frzq mm id M os = true)
    (hw : WP P Γ c Q (S n ((j, .sl k (L.map f)) :: l) M ((id, none) :: os))) : WP P Γ c Q (S n l M os) := fun a w hs => by
  refine hw a w ?_
  obtain ⟨ρ, hs⟩ := hs
  have hj : j < n := by
    simp only [opq] at h
    cases hb : Nat.blt j n with
    | false => rw [hb] at h; simp at h
    | true => exact blt_of hb
  have hx := opq_op (M := M) (os := os) h
  simp only [St.op, S] at hx
  rw [tl_getD l hj] at hx
  have hlen : a.tmps.size = n := by rw [hs.len]; simp [S, tl_length]
  have hv : a.tmps[j]? = some (a.tmps[j]'(by omega)) := Array.getElem?_eq_getElem (by omega)
  have hrv := hs.tmp j (.ref id k 0 len) _ (by simp only [S, tl_get l hj, hx]) hv
  have h1 := hs.kill id
  have h2 := h1.put (some j) (hs.list1 (by rw [S_look]; exact ho) hl hb hk (hs.newb hm hfq (St.look_some.1 (by rw [S_look]; exact ho))) hrv)
  rw [act_same hv] at h2
  refine ⟨ρ, ?_⟩
  have e : ((S n l M os).set id none).put (some j) (.sl k (L.map f)) = S n ((j, .sl k (L.map f)) :: l) M ((id, none) :: os) := by simp [S, St.set, St.put, ol_set, tl_set]
  rw [e] at h2
  simpa [S, ol_length] using h2
theorem wp_frzom {id k len : Nat} {α : Type} {f : α → AV} {L : List α} (ido m : Nat) {k' : Nat} {cs : List AV} {mm : Nat} (hm : Γ.m = mm) (hid : Nat.beq id ido = false) (hob : lookq M os ido = some (.arr k' [.agg cs])) (h : cs[m]? = some (.ref id k 0 len)) (ho : lookq M os id = some (.arr k (L.map f))) (hl : L.length = len) (hb : ∀ x, (f x).bd 0 = true) (hk : ∀ x, (f x).cells.length = k) (hfq : frzq mm id M os = true)
    (hw : WP P Γ c Q (S n l M ((ido, some (.arr k' [.agg (cs.set m (.sl k (L.map f)))])) :: (id, none) :: os))) : WP P Γ c Q (S n l M os) := fun a w hs => by
  refine hw a w ?_
  obtain ⟨ρ, hs⟩ := hs
  have h1 := hs.kill id
  have hne : id ≠ ido := Nat.ne_of_beq_eq_false hid
  have hob' : ((S n l M os).set id none).live ido (.arr k' [.agg cs]) := by
    have := St.look_some.1 (by rw [S_look]; exact hob : (S n l M os).look ido = some (.arr k' [.agg cs]))
    simp only [St.live, St.set_objs] at this ⊢
    rw [List.getElem?_set_ne hne]; exact this
  have hwide : cs.length = k' := by
    have := hs.obj ido _ (St.look_some.1 (by rw [S_look]; exact hob))
    cases hr : ρ ido with
    | none => rw [hr] at this; obtain ⟨_, h2⟩ := this.resolve_left (by simp); cases h2
    | some b => rw [hr] at this; obtain ⟨_, _, _, _, h3, _⟩ := this; exact h3 (.agg cs) (by simp)
  have h2 := h1.recell hob' (es' := [.agg (cs.set m (.sl k (L.map f)))]) (by simp [flat, AV.cells]) (by simp [AV.cells, hwide]) (by simp) (fun j x y hx hy v hv => by
    simp only [flat, AV.cells, List.flatMap_cons, List.flatMap_nil, List.append_nil] at hx hy
    rw [List.getElem?_set] at hy
    by_cases e : m = j
    · subst e
      rw [h] at hx; injection hx with hx; subst hx
      simp only [if_true] at hy
      split at hy
      · injection hy with hy; subst hy
        exact hs.list1 (by rw [S_look]; exact ho) hl hb hk (hs.newb hm hfq (St.look_some.1 (by rw [S_look]; exact ho))) hv
      · cases hy
    · rw [if_neg e, hx] at hy; injection hy with hy; subst hy; exact hv)
  refine ⟨ρ, ?_⟩
  have e : (((S n l M os).set id none).set ido (some (.arr k' [.agg (cs.set m (.sl k (L.map f)))]))) = S n l M ((ido, some (.arr k' [.agg (cs.set m (.sl k (L.map f)))])) :: (id, none) :: os) := by simp [S, St.set, ol_set]
  rw [e] at h2
  simpa [S, ol_length] using h2
theorem wpl_frzm {id k len : Nat} {vs : List AV} (j : Nat) {mm : Nat} (hm : Γ.m = mm) (h : opq n l (.tmp j) = some (.ref id k 0 len)) (ho : lookq M os id = some (.arr k vs)) (hl : vs.length = len) (hb : bdL 0 vs = true) (hk : (vs.all fun x => Nat.beq x.cells.length k) = true) (hfq : frzq mm id M os = true)
    (hw : WPL P Γ ops rest Q (S n ((j, .sl k vs) :: l) M ((id, none) :: os))) : WPL P Γ ops rest Q (S n l M os) := fun a w hs => by
  refine hw a w ?_
  obtain ⟨ρ, hs⟩ := hs
  have hj : j < n := by
    simp only [opq] at h
    cases hb : Nat.blt j n with
    | false => rw [hb] at h; simp at h
    | true => exact blt_of hb
  have hx := opq_op (M := M) (os := os) h
  simp only [St.op, S] at hx
  rw [tl_getD l hj] at hx
  have hlen : a.tmps.size = n := by rw [hs.len]; simp [S, tl_length]
  have hv : a.tmps[j]? = some (a.tmps[j]'(by omega)) := Array.getElem?_eq_getElem (by omega)
  have hrv := hs.tmp j (.ref id k 0 len) _ (by simp only [S, tl_get l hj, hx]) hv
  have h1 := hs.kill id
  have hmap : vs.attach.map (fun x => x.1) = vs := List.attach_map_subtype_val vs
  have hlist := hs.list1 (α := {x // x ∈ vs}) (f := fun x => x.1) (L := vs.attach) (by rw [S_look, hmap]; exact ho) (by simpa using hl) (fun x => bdL_iff.1 hb x.1 x.2) (fun x => Nat.eq_of_beq_eq_true (List.all_eq_true.1 hk x.1 x.2)) (hs.newb hm hfq (St.look_some.1 (by rw [S_look]; exact ho))) hrv
  rw [hmap] at hlist
  have h2 := h1.put (some j) hlist
  rw [act_same hv] at h2
  refine ⟨ρ, ?_⟩
  have e : ((S n l M os).set id none).put (some j) (.sl k vs) = S n ((j, .sl k vs) :: l) M ((id, none) :: os) := by simp [S, St.set, St.put, ol_set, tl_set]
  rw [e] at h2
  simpa [S, ol_length] using h2
theorem sgt_u {K : St → Prop} {d t : Tmp} {ty : TypeId} {pos : String} {af : Array Edge} {op : Op} {x : AV} {j : Nat} {want b : Bool} (hd : (ops[j]?).bind (·.dst) = some t) (hv : opq n l (.tmp t) = some (.val (.bool b))) (hb : b = want) (hp : plainq n l op.operands.toList = true) (hpk : (match op with | .pick _ _ _ => false | .call _ => false | _ => true) = true) (h : Ap P n l M os [] op x)
    (hk : asemC P ops rest (S n ((d, x) :: l) M os) K) : asemC P ops (⟨some d, op, ty, pos, af, some (j, want)⟩ :: rest) (S n l M os) K := by
  subst hb
  simp only [asemC]
  refine .inl ⟨b, yielded_q hd hv, fun _ => ?_, fun h => by cases b <;> cases h⟩
  rw [hd, S_put, S_lit hv]
  have hl : (S n l M os).objs.length = M := ol_length M os
  have ha := apure_aop (P := P) (look := (S n l M os).look) (nid := M) (plainq_res hp) (by rintro c a b rfl; cases hpk) h
  have hs : (S n l M os).after (some d) (x, .none) = S n ((d, x) :: l) M os := by simp only [St.after, S_put]
  unfold execA
  split
  · rename_i c hop
    simp only at hop
    subst hop
    cases hpk
  · exact ⟨_, by rw [hl]; exact ha, by rw [hs]; exact hk⟩
theorem still_fieldAddr {a : Operand} {ty : TypeId} {f off sz : Nat} {ti : TI} [h : TIc P ty ti] (hf : ti.fields[f]? = some (off, sz)) (hz : Nat.beq sz 0 = false) : Still P (.fieldAddr ty a f) := by
  obtain ⟨fs, fd, i, h1, h2, h3, h4, h5⟩ := fields_spec h.h hf (Nat.ne_of_beq_eq_false hz)
  have hz' : ¬ sz = 0 := Nat.ne_of_beq_eq_false hz
  subst h5
  intro ρ dst ty' pos af v w w' w1 h
  have hs : ∀ x : Value, (∃ ad, x = .pointer (some ad)) ∨ (∀ w : World, (Instr.fieldAt ty x f).run P w = (stuck "an address expected (no nilCheck in front?)" : Sem Value).run P w) := by
    intro x
    cases x with
    | pointer o => cases o with
      | some ad => exact .inl ⟨ad, rfl⟩
      | none => exact .inr fun w => by simp [Instr.fieldAt, run_underlying h1, h2, Instr.sureAddr]
    | _ => exact .inr fun w => by simp [Instr.fieldAt, run_underlying h1, h2, Instr.sureAddr]
  rcases hs (ρ a) with ⟨ad, had⟩ | hst
  · simp [execOp, had, Instr.fieldAt, run_underlying h1, h2, Instr.sureAddr, fieldPlace, sizeOf, typeInfo, h4, hz'] at h ⊢
    exact h.1
  · simp only [execOp, Sem.run_bind, hst w] at h
    simp [stuck] at h
end
end Go.Lg

namespace Go.Lg
def jU := @bl_p
end Go.Lg

namespace Go.Lg
open Go.Proofs
set_option linter.unusedSimpArgs false
set_option linter.unusedVariables false
attribute [local irreducible] Ap Rq asemC WP RunD Ret Gq thenA inBlockA bodyQ noGotoA RqL RqP OpP
set_option maxHeartbeats 4000000
set_option maxRecDepth 20000
attribute [local simp] rdA pkA tokA toks_bd
theorem cut_map {l : List (Nat × Tx)} {r : List Tx} (h : r <:+ l.map (·.2)) : (cut l r).map (·.2) = r := by
  obtain ⟨t, ht⟩ := h
  unfold cut
  rw [List.map_drop, ← ht]
  have : l.length = t.length + r.length := by rw [← List.length_append, ht, List.length_map]
  rw [show l.length - r.length = t.length by omega]
  simp
theorem cut_suf (l : List (Nat × Tx)) (r : List Tx) : cut l r <:+ l := List.drop_suffix _ _
theorem cut_of {l l' : List (Nat × Tx)} (h : l' <:+ l) : cut l (l'.map (·.2)) = l' := by
  obtain ⟨t, rfl⟩ := h
  simp [cut]
theorem cut_cut {l l' : List (Nat × Tx)} {r : List Tx} (h : l' <:+ l) (hr : r <:+ l'.map (·.2)) : cut l' r = cut l r := by
  have h1 := cut_map hr
  have h2 := cut_of ((cut_suf l' r).trans h)
  rw [h1] at h2
  exact h2.symm
theorem ren_exprA (π : Nat → Nat) (x : GEx) : AV.ren π (exprA x) = exprA x := ren_pure (bd_exprA 0 x)
theorem pItem_lt {l : List Tx} {x : GEx} {r : List Tx} (h : pItem l = .ok x r) : r.length < l.length := by
  unfold pItem at h
  cases h1 : pPrim l with
  | err q => rw [h1] at h; cases h
  | ok y q =>
    rw [h1] at h
    have := pPrim_lt h1
    have := sufT_len y q
    injection h with h2 h3
    subst h3
    omega
theorem hd40 (l : List (Nat × Tx)) : decide (tx (hdT l) = (⟨#[40]⟩ : ByteArray)) = decide (hd (l.map (·.2)) = [40]) := by
  have : (tx (hdT l) = (⟨#[40]⟩ : ByteArray)) ↔ (hd (l.map (·.2)) = [40]) := ⟨fun h => tx_inj (h.trans rfl), fun h => by unfold hdT; rw [h]; rfl⟩
  simp only [this]
theorem exprA_mk (k : Int) (n : ByteArray) (l : List GEx) : exprA (.mk k n l) = .agg [intA k, strA n, .sl 3 (l.map exprA)] := by
  unfold exprA
  rw [kidsL_map]
  rfl
theorem gpseq_of (l : List (Nat × Tx)) (e : Int) (hB : l.length ≤ 1000000) (hi : ∀ l', l' <:+ l → FnP Tryd.prog 64 [.ptr 0 2 0 0] [rdA l' e] (pout l' e exprA (pItem (l'.map (·.2))))) :
    FnP Tryd.prog 55 [.ptr 0 2 0 0] [rdA l e] (pout l e exprA (pSeq (l.map (·.2)))) := by
  refine FnP.intro ?_ (by kernel_rfl) Tryd.func55 rfl rfl Tryd.ntmps55 (by exact Nat.le_of_ble_eq_true rfl) ?_; rotate_left; intro Γ hm
  · (repeat' (first | apply jA | apply jF | apply jH | (refine WP.regionC (id := 0) ?_; (refine se_alloc rfl ?_); apply jW) | (refine WP.regionC (id := 1) ?_; (refine sassign rfl ?_); apply jW)))
    refine wp_nil 3 3 rfl ?_
    refine wp_loop (fun (σ : List GEx × List (Nat × Tx)) => σ.2 <:+ l ∧ σ.1.length + σ.2.length ≤ l.length ∧ finI σ.1 (σ.2.map (·.2)) = pItems (l.map (·.2))) (fun σ => σ.2.length)
      (fun σ => (S 25 [(0, .ptr 0 2 0 0), (2, .ptr 1 3 0 0), (3, .ref 2 3 0 σ.1.length)] 3 [(0, some (rdA σ.2 e)), (1, some (.arr 3 [.agg [intA 0, strA ⟨#[]⟩, .val (.slice none 0 0)]])), (2, some (.arr 3 (σ.1.map exprA)))])) ([], l) ⟨[0, 1, 2], ToR.S rfl (by repeat' (first | exact rt_nil | refine rt_r rfl rfl ?_ | refine rt_t rfl rfl ?_)) (by repeat' (first | exact ro_nil | refine ro_e rfl rfl ?_ | refine ro_p rfl (by first | exact rfl | fail) (by first | (simp [bdL, bdL_append, AV.bd]; done) | fail) ?_)) rfl (by (rw [hm]; exact rfl)) rfl (by (simp [bdT, AV.bd, bdL, bdL_append]; done)) (by repeat' (first | exact True.intro | exact rfl | refine And.intro ?_ ?_ | (simp [bdOq, bdL, bdL_append, AV.bd]; done))) (by (rw [hm]; exact Nat.le_of_ble_eq_true rfl))⟩ ⟨List.suffix_refl _, by simp, finI_nil _⟩ ?_
    rintro ⟨acc, l1⟩ ⟨hs1, hn1, hf1⟩
    simp only at hs1 hf1 hn1 ⊢
    have hi1 := hi l1 hs1
    cases hgo : (isN (l1.map (·.2)) || decide (hd (l1.map (·.2)) = [40])) with
    | false =>
      have hst : pSeq (l.map (·.2)) = .ok (seqOf acc) (l1.map (·.2)) := by
        have := finI_stop (acc := acc) hgo
        rw [hf1] at this
        simp [pSeq, this]
      have hout : pout l e exprA (pSeq (l.map (·.2))) = .ok (exprA (seqOf acc)) [some (rdA l1 e)] := by rw [hst]; simp only [pout, cut_of hs1]
      rw [← hd40, Bool.or_eq_false_iff] at hgo
      (repeat' (first | apply jA | apply jF | apply jH | apply jI | apply jJ | apply jL | apply jP | (refine wp_cond rfl (fun hc => ?_) (fun hc => ?_) <;> (try simp only [sB, ne_eq, reduceCtorEq] at hc) <;> (try (exfalso; omega))) | (refine WP.regionC (id := 2) ?_ <;> (refine smove rfl ?_) <;> (refine sc_o [0] rfl rfl (isname_fn _ _) (Lend.o1 rfl rfl (by (exact (renL_pure (by simp [AV.bd, bdL, bdL_append])).symm)) rfl (by simp [AV.bd, bdL, bdL_append]) (by simp [AV.bd, bdL, bdL_append])) ?_; simp only [updN, newO, AObj.ren, renL, AV.ren, apx, ap, if_true, if_false, Nat.reduceLT, Nat.reduceAdd, Nat.reduceSub, sO, intA, boolA, strA, ren_pkA, rdA, ren_toks]) <;> (refine smove rfl ?_) <;> (first | (refine as_split (t := 6) rfl (fun hc => ?_) (fun hc => ?_) <;> (try simp only [sB, ne_eq, reduceCtorEq] at hc) <;> (try (exfalso; omega)) <;> (first | refine sgt_u rfl rfl rfl rfl rfl (amove rfl) ?_ | refine skZ (gq_vf rfl rfl) rfl ?_ | fail)) | fail) <;> (first | refine sgt_o [0] rfl rfl rfl rfl rfl (peek_fn _ _) (Lend.S (by first | ((repeat' first | exact RenL.nil | refine RenL.cons rfl ?_); done) | fail) (by first | ((repeat' first | exact LendO.nil | refine LendO.arr rfl (by (exact (renL_pure (by simp [AV.bd, bdL, bdL_append])).symm)) ?_); done) | fail) (by decide) rfl (by simp [AV.bd, bdL, bdL_append]) (by repeat' (first | exact True.intro | refine And.intro ?_ ?_ | simp [AV.bd, bdL, bdL_append]))) ?_; simp only [updN, newO, AObj.ren, renL, AV.ren, apx, ap, if_true, if_false, Nat.reduceLT, Nat.reduceAdd, Nat.reduceSub, sO, intA, boolA, strA, ren_pkA, rdA, ren_toks] | refine skZ (gq_vf rfl rfl) rfl ?_ | fail) <;> (first | refine sgt_u rfl rfl rfl rfl rfl (afieldv rfl rfl) ?_ | refine skZ (gq_vf rfl rfl) rfl ?_ | fail) <;> (first | refine sgt_u rfl rfl rfl rfl rfl (aeqs rfl rfl) ?_ | refine skZ (gq_vf rfl rfl) rfl ?_ | fail) <;> (refine su (ap_or (rq_p rfl rfl) (by first | exact rq_p rfl rfl | exact rq_c rfl rfl)) ?_) <;> apply jW)))
      all_goals (first | (exfalso; simp_all; done) | skip)
      · rw [hout]
        refine wp_frzm 3 hm rfl rfl rfl (bd_exprA 0) (fun _ => rfl) rfl ?_
        cases acc with
        | nil =>
          (repeat' (first | apply jA | apply jH | apply jI | apply jK | (refine wp_cond rfl (fun hc => ?_) (fun hc => ?_) <;> (try simp only [sB, ne_eq, reduceCtorEq] at hc) <;> (try (exfalso; omega))) | (refine WP.regionC (id := 4) ?_; (refine smove rfl ?_); (refine slenm rfl rfl ?_); (refine seql rfl rfl ?_); apply jW) | (refine WP.regionC (id := 6) ?_; (refine smove rfl ?_); (refine su (ap_build (RqP.cons (rq_p rfl rfl) (RqP.cons (rq_p rfl rfl) (RqP.nil))) rfl) ?_); (refine se_store_b rfl rfl rfl rfl ?_); apply jW)))
          · exfalso; simp at hc
          · refine bp_r rfl ?_
            refine retO_L (x := exprA (seqOf [])) (k := 1) (os1 := [(0, some (rdA l1 e))]) (.cellT rfl rfl rfl rfl .nil) rfl ⟨[0], ToR.S rfl (by repeat' (first | exact rt_nil | refine rt_e rfl rfl ?_)) (by repeat' (first | exact ro_nil | refine ro_p rfl (by first | exact rfl | fail) (by first | (simp [bdL, bdL_append, AV.bd]; done) | fail) ?_)) rfl rfl rfl (by (simp [bdT, AV.bd, bdL, bdL_append]; done)) (by repeat' (first | exact True.intro | refine And.intro ?_ ?_ | (simp [bdOq, bdL, bdL_append, AV.bd]; done))) (by exact Nat.le_of_ble_eq_true rfl)⟩ rfl
        | cons y acc' =>
          cases acc' with
          | nil =>
            (repeat' (first | apply jA | apply jH | apply jI | apply jK | apply jM | (refine wp_cond rfl (fun hc => ?_) (fun hc => ?_) <;> (try simp only [sB, ne_eq, reduceCtorEq] at hc) <;> (try (exfalso; omega))) | (refine WP.regionC (id := 4) ?_; (refine smove rfl ?_); (refine slenm rfl rfl ?_); (refine seql rfl rfl ?_); apply jW) | (refine WP.regionC (id := 5) ?_; (refine smove rfl ?_); (refine sidxn rfl rfl (by (simp only [sL] <;> omega)) ?_); (refine sloadw rfl rfl ?_); (refine se_store_b rfl rfl rfl rfl ?_); apply jW)))
            · refine bp_r rfl ?_
              refine retO_L (x := exprA (seqOf [y])) (k := 1) (os1 := [(0, some (rdA l1 e))]) (.cellT rfl rfl rfl rfl .nil) rfl ⟨[0], ToR.S rfl (by repeat' (first | exact rt_nil | refine rt_p rfl rfl (by first | (simp [AV.bd, bdL, bdL_append]; done) | fail) ?_)) (by repeat' (first | exact ro_nil | refine ro_p rfl (by first | exact rfl | fail) (by first | (simp [bdL, bdL_append, AV.bd]; done) | fail) ?_)) rfl rfl rfl (by (simp [bdT, AV.bd, bdL, bdL_append]; done)) (by repeat' (first | exact True.intro | refine And.intro ?_ ?_ | (simp [bdOq, bdL, bdL_append, AV.bd]; done))) (by exact Nat.le_of_ble_eq_true rfl)⟩ rfl
            · exfalso; simp at hc
          | cons y' acc2 =>
            (repeat' (first | apply jA | apply jH | apply jI | apply jK | (refine wp_cond rfl (fun hc => ?_) (fun hc => ?_) <;> (try simp only [sB, ne_eq, reduceCtorEq] at hc) <;> (try (exfalso; omega))) | (refine WP.regionC (id := 4) ?_; (refine smove rfl ?_); (refine slenm rfl rfl ?_); (refine seql rfl rfl ?_); apply jW) | (refine WP.regionC (id := 6) ?_; (refine smove rfl ?_); (refine su (ap_build (RqP.cons (rq_p rfl rfl) (RqP.cons (rq_p rfl rfl) (RqP.nil))) rfl) ?_); (refine se_store_b rfl rfl rfl rfl ?_); apply jW)))
            · exfalso; simp at hc; omega
            · refine bp_r rfl ?_
              have he : exprA (seqOf (y :: y' :: acc2)) = .agg [intA 2, strA ⟨#[]⟩, .sl 3 ((y :: y' :: acc2).map exprA)] := exprA_mk _ _ _
              rw [he]
              refine retO_L (x := .agg [intA 2, strA ⟨#[]⟩, .sl 3 ((y :: y' :: acc2).map exprA)]) (k := 1) (os1 := [(0, some (rdA l1 e))]) (.cellT rfl rfl rfl rfl .nil) rfl ⟨[0], ToR.S rfl (by repeat' (first | exact rt_nil | refine rt_p rfl rfl (by first | (simp [AV.bd, bdL, bdL_append]; done) | fail) ?_)) (by repeat' (first | exact ro_nil | refine ro_p rfl (by first | exact rfl | fail) (by first | (simp [bdL, bdL_append, AV.bd]; done) | fail) ?_)) rfl rfl rfl (by (simp [bdT, AV.bd, bdL, bdL_append]; done)) (by repeat' (first | exact True.intro | refine And.intro ?_ ?_ | (simp [bdOq, bdL, bdL_append, AV.bd]; done))) (by exact Nat.le_of_ble_eq_true rfl)⟩ rfl
    | true =>
      have hi1 := hi l1 hs1
      have go : finI acc (l1.map (·.2)) = match pItem (l1.map (·.2)) with | .err q => .err q | .ok x r => finI (acc ++ [x]) r := finI_step hgo
      rw [← hd40] at hgo
      cases hp : pItem (l1.map (·.2)) with
      | ok x r =>
        have hO : FnO Tryd.prog 64 [.ptr 0 2 0 0] [rdA l1 e] (exprA x) [some (rdA (cut l1 r) e)] := hi1.oks (by rw [hp]; rfl)
        have hr : r <:+ l1.map (·.2) := by have := pItem_suf (l1.map (·.2)); rw [hp] at this; exact this
        have hlt := pItem_lt hp
        rw [List.length_map] at hlt
        have hcl : (cut l1 r).length = r.length := by have := congrArg List.length (cut_map hr); rwa [List.length_map] at this
        have hnext : (cut l1 r).length < l1.length ∧ cut l1 r <:+ l ∧ (acc ++ [x]).length + (cut l1 r).length ≤ l.length ∧ finI (acc ++ [x]) ((cut l1 r).map (·.2)) = pItems (l.map (·.2)) := by
          refine ⟨by omega, (cut_suf _ _).trans hs1, by simp; omega, ?_⟩
          rw [cut_map hr, ← hf1, go, hp]
        (repeat' (first | apply jA | apply jF | apply jH | apply jI | apply jJ | apply jL | apply jN | apply jP | (refine wp_cond rfl (fun hc => ?_) (fun hc => ?_) <;> (try simp only [sB, ne_eq, reduceCtorEq] at hc) <;> (try (exfalso; omega))) | (refine WP.regionC (id := 2) ?_ <;> (refine smove rfl ?_) <;> (refine sc_o [0] rfl rfl (isname_fn _ _) (Lend.o1 rfl rfl (by (exact (renL_pure (by simp [AV.bd, bdL, bdL_append])).symm)) rfl (by simp [AV.bd, bdL, bdL_append]) (by simp [AV.bd, bdL, bdL_append])) ?_; simp only [updN, newO, AObj.ren, renL, AV.ren, apx, ap, if_true, if_false, Nat.reduceLT, Nat.reduceAdd, Nat.reduceSub, sO, intA, boolA, strA, ren_pkA, rdA, ren_toks]) <;> (refine smove rfl ?_) <;> (first | (refine as_split (t := 6) rfl (fun hc => ?_) (fun hc => ?_) <;> (try simp only [sB, ne_eq, reduceCtorEq] at hc) <;> (try (exfalso; omega)) <;> (first | refine sgt_u rfl rfl rfl rfl rfl (amove rfl) ?_ | refine skZ (gq_vf rfl rfl) rfl ?_ | fail)) | fail) <;> (first | refine sgt_o [0] rfl rfl rfl rfl rfl (peek_fn _ _) (Lend.S (by first | ((repeat' first | exact RenL.nil | refine RenL.cons rfl ?_); done) | fail) (by first | ((repeat' first | exact LendO.nil | refine LendO.arr rfl (by (exact (renL_pure (by simp [AV.bd, bdL, bdL_append])).symm)) ?_); done) | fail) (by decide) rfl (by simp [AV.bd, bdL, bdL_append]) (by repeat' (first | exact True.intro | refine And.intro ?_ ?_ | simp [AV.bd, bdL, bdL_append]))) ?_; simp only [updN, newO, AObj.ren, renL, AV.ren, apx, ap, if_true, if_false, Nat.reduceLT, Nat.reduceAdd, Nat.reduceSub, sO, intA, boolA, strA, ren_pkA, rdA, ren_toks] | refine skZ (gq_vf rfl rfl) rfl ?_ | fail) <;> (first | refine sgt_u rfl rfl rfl rfl rfl (afieldv rfl rfl) ?_ | refine skZ (gq_vf rfl rfl) rfl ?_ | fail) <;> (first | refine sgt_u rfl rfl rfl rfl rfl (aeqs rfl rfl) ?_ | refine skZ (gq_vf rfl rfl) rfl ?_ | fail) <;> (refine su (ap_or (rq_p rfl rfl) (by first | exact rq_p rfl rfl | exact rq_c rfl rfl)) ?_) <;> apply jW) | (refine WP.regionC (id := 3) ?_; (refine smove rfl ?_); (refine smove rfl ?_); (refine sc_o [0] rfl rfl (hO) (Lend.o1 rfl rfl (by (exact (renL_pure (by simp [AV.bd, bdL, bdL_append])).symm)) rfl (by simp [AV.bd, bdL, bdL_append]) (by simp [AV.bd, bdL, bdL_append])) ?_; simp only [updN, newO, AObj.ren, renL, AV.ren, apx, ap, if_true, if_false, Nat.reduceLT, Nat.reduceAdd, Nat.reduceSub, sO, intA, boolA, strA, rdA, ren_toks, ren_exprA]); (refine se_lit (OpP.cons rfl (OpP.nil)) rfl rfl rfl rfl rfl rfl ?_); (refine se_app1 rfl rfl rfl rfl rfl rfl rfl rfl (by omega) ?_); (refine sassign rfl ?_); apply jW)))
        all_goals (first | exact ⟨(acc ++ [x], cut l1 r), hnext, ⟨[0, 1, 4], ToR.S rfl (by repeat' (first | exact rt_nil | refine rt_r rfl rfl ?_ | refine rt_t rfl rfl ?_)) (by repeat' (first | exact ro_nil | refine ro_e rfl rfl ?_ | refine ro_p rfl (by first | exact rfl | fail) (by first | exact bdL_map (fun _ => by simp [AV.bd, bdL, bdL_append]) _ | (simp [bdL, bdL_append, AV.bd]; done) | fail) ?_)) rfl (by (rw [hm]; exact rfl)) rfl (by (simp [bdT, AV.bd, bdL, bdL_append]; done)) (by repeat' (first | exact True.intro | exact rfl | refine And.intro ?_ ?_ | exact bdL_map (fun _ => by simp [AV.bd, bdL, bdL_append]) _ | (simp [bdOq, bdL, bdL_append, AV.bd]; done))) (by (rw [hm]; exact Nat.le_of_ble_eq_true rfl))⟩⟩ | (exfalso; simp_all; done))
      | err q =>
        have hX : FnX Tryd.prog 64 [.ptr 0 2 0 0] [rdA l1 e] (synV (pos (cut l1 q) e)) := hi1.dies (by rw [hp]; rfl)
        have hr : q <:+ l1.map (·.2) := by have := pItem_suf (l1.map (·.2)); rw [hp] at this; exact this
        have hout : pout l e exprA (pSeq (l.map (·.2))) = .die (synV (pos (cut l1 q) e)) := by
          rw [hp, hf1] at go
          simp only [pSeq, go, pout, cut_cut hs1 hr]
        (repeat' (first | apply jA | apply jF | apply jH | apply jI | apply jJ | apply jL | apply jP | apply jT | apply jU | (refine wp_cond rfl (fun hc => ?_) (fun hc => ?_) <;> (try simp only [sB, ne_eq, reduceCtorEq] at hc) <;> (try (exfalso; omega))) | (refine WP.regionC (id := 2) ?_ <;> (refine smove rfl ?_) <;> (refine sc_o [0] rfl rfl (isname_fn _ _) (Lend.o1 rfl rfl (by (exact (renL_pure (by simp [AV.bd, bdL, bdL_append])).symm)) rfl (by simp [AV.bd, bdL, bdL_append]) (by simp [AV.bd, bdL, bdL_append])) ?_; simp only [updN, newO, AObj.ren, renL, AV.ren, apx, ap, if_true, if_false, Nat.reduceLT, Nat.reduceAdd, Nat.reduceSub, sO, intA, boolA, strA, ren_pkA, rdA, ren_toks]) <;> (refine smove rfl ?_) <;> (first | (refine as_split (t := 6) rfl (fun hc => ?_) (fun hc => ?_) <;> (try simp only [sB, ne_eq, reduceCtorEq] at hc) <;> (try (exfalso; omega)) <;> (first | refine sgt_u rfl rfl rfl rfl rfl (amove rfl) ?_ | refine skZ (gq_vf rfl rfl) rfl ?_ | fail)) | fail) <;> (first | refine sgt_o [0] rfl rfl rfl rfl rfl (peek_fn _ _) (Lend.S (by first | ((repeat' first | exact RenL.nil | refine RenL.cons rfl ?_); done) | fail) (by first | ((repeat' first | exact LendO.nil | refine LendO.arr rfl (by (exact (renL_pure (by simp [AV.bd, bdL, bdL_append])).symm)) ?_); done) | fail) (by decide) rfl (by simp [AV.bd, bdL, bdL_append]) (by repeat' (first | exact True.intro | refine And.intro ?_ ?_ | simp [AV.bd, bdL, bdL_append]))) ?_; simp only [updN, newO, AObj.ren, renL, AV.ren, apx, ap, if_true, if_false, Nat.reduceLT, Nat.reduceAdd, Nat.reduceSub, sO, intA, boolA, strA, ren_pkA, rdA, ren_toks] | refine skZ (gq_vf rfl rfl) rfl ?_ | fail) <;> (first | refine sgt_u rfl rfl rfl rfl rfl (afieldv rfl rfl) ?_ | refine skZ (gq_vf rfl rfl) rfl ?_ | fail) <;> (first | refine sgt_u rfl rfl rfl rfl rfl (aeqs rfl rfl) ?_ | refine skZ (gq_vf rfl rfl) rfl ?_ | fail) <;> (refine su (ap_or (rq_p rfl rfl) (by first | exact rq_p rfl rfl | exact rq_c rfl rfl)) ?_) <;> apply jW) | (refine wpl_region (id := 3) ?_; (refine wpl_step rfl ?_; (refine smove rfl ?_); apply jW; (refine wpl_step rfl ?_; (refine smove rfl ?_); apply jW; ((refine wpl_x [0] rfl rfl (hX) (Lend.S (by first | ((repeat' first | exact RenL.nil | refine RenL.cons rfl ?_); done) | fail) (by first | ((repeat' first | exact LendO.nil | refine LendO.arr rfl (by (exact (renL_pure (by simp [AV.bd, bdL, bdL_append])).symm)) ?_); done) | fail) (by decide) rfl (by simp [AV.bd, bdL, bdL_append]) (by repeat' (first | exact True.intro | refine And.intro ?_ ?_ | simp [AV.bd, bdL, bdL_append]))) ?_)))))))
        all_goals (first | exact bp_p hout | (exfalso; simp_all; done))
  · exact pout_fine l e exprA (fun x => bd_exprA 1 x) _
end Go.Lg

namespace Go.Lg
def jX := @wpl_end
end Go.Lg

namespace Go.Lg
open Go.Proofs
set_option linter.unusedSimpArgs false
set_option linter.unusedVariables false
attribute [local irreducible] Ap Rq asemC WP RunD Ret Gq thenA inBlockA bodyQ noGotoA RqL RqP OpP
set_option maxHeartbeats 4000000
set_option maxRecDepth 20000
attribute [local simp] rdA pkA tokA toks_bd AV.cells
theorem gpitem_of (l : List (Nat × Tx)) (e : Int) (hp : FnP Tryd.prog 68 [.ptr 0 2 0 0] [rdA l e] (pout l e exprA (pPrim (l.map (·.2))))) :
    FnP Tryd.prog 64 [.ptr 0 2 0 0] [rdA l e] (pout l e exprA (pItem (l.map (·.2)))) := by
  cases hq : pPrim (l.map (·.2)) with
  | err q =>
    have hX : FnX Tryd.prog 68 [.ptr 0 2 0 0] [rdA l e] (synV (pos (cut l q) e)) := hp.dies (by rw [hq]; rfl)
    have hout : pout l e exprA (pItem (l.map (·.2))) = .die (synV (pos (cut l q) e)) := by simp only [pItem, hq, pout]
    rw [hout]
    unfold rdA
    refine FnP.intro ?_ (by kernel_rfl) Tryd.func64 rfl rfl Tryd.ntmps64 (by exact Nat.le_of_ble_eq_true rfl) ?_; rotate_left; intro Γ hm
    · (repeat' (first | apply jA | apply jH | apply jT | (refine WP.regionC (id := 0) ?_; (refine se_alloc rfl ?_); apply jW) | (refine wpl_region (id := 1) ?_; (refine wpl_step rfl ?_; (refine smove rfl ?_); apply jW; ((refine wpl_x [0] rfl rfl (hX) (Lend.S (by first | ((repeat' first | exact RenL.nil | refine RenL.cons rfl ?_); done) | fail) (by first | ((repeat' first | exact LendO.nil | refine LendO.arr rfl (by (exact (renL_pure (by simp [AV.bd, bdL, bdL_append])).symm)) ?_); done) | fail) (by decide) rfl (by simp [AV.bd, bdL, bdL_append]) (by repeat' (first | exact True.intro | refine And.intro ?_ ?_ | simp [AV.bd, bdL, bdL_append]))) ?_))))))
      exact bp_p rfl
    · trivial
  | ok x0 r0 =>
    have hO : FnO Tryd.prog 68 [.ptr 0 2 0 0] [rdA l e] (exprA x0) [some (rdA (cut l r0) e)] := hp.oks (by rw [hq]; rfl)
    have hr : r0 <:+ l.map (·.2) := by have := pPrim_suf (l.map (·.2)); rw [hq] at this; exact this
    have hout : pout l e exprA (pItem (l.map (·.2))) = .ok (exprA (sufT x0 r0).1) [some (rdA (cut l (sufT x0 r0).2) e)] := by simp only [pItem, hq, pout]
    rw [hout]
    refine FnP.intro ?_ (by kernel_rfl) Tryd.func64 rfl rfl Tryd.ntmps64 (by exact Nat.le_of_ble_eq_true rfl) ?_; rotate_left; intro Γ hm
    · (repeat' (first | apply jA | apply jF | apply jH | (refine WP.regionC (id := 0) ?_; (refine se_alloc rfl ?_); apply jW) | (refine WP.regionC (id := 1) ?_; (refine smove rfl ?_); (refine sc_o [0] rfl rfl (hO) (Lend.o1 rfl rfl (by (exact (renL_pure (by simp [AV.bd, bdL, bdL_append])).symm)) rfl (by simp [AV.bd, bdL, bdL_append]) (by simp [AV.bd, bdL, bdL_append])) ?_; simp only [updN, newO, AObj.ren, renL, AV.ren, apx, ap, if_true, if_false, Nat.reduceLT, Nat.reduceAdd, Nat.reduceSub, sO, intA, boolA, strA, rdA, ren_toks, ren_exprA]); (refine se_alloc rfl ?_); (refine se_store_b rfl rfl rfl rfl ?_); apply jW)))
      refine wp_loop (fun (σ : GEx × List (Nat × Tx)) => σ.2 <:+ l ∧ sufT σ.1 (σ.2.map (·.2)) = sufT x0 r0) (fun σ => σ.2.length)
        (fun σ => (S 23 [(0, .ptr 0 2 0 0), (2, .ptr 1 3 0 0), (3, .ptr 2 3 0 0)] 3 [(0, some (rdA σ.2 e)), (1, some (.arr 3 [.agg [intA 0, strA ⟨#[]⟩, .val (.slice none 0 0)]])), (2, some (.arr 3 [exprA σ.1]))])) (x0, cut l r0) ⟨[0, 1, 2], ToR.S rfl (by repeat' (first | exact rt_nil | refine rt_t rfl rfl ?_)) (by repeat' (first | exact ro_nil | refine ro_e rfl rfl ?_ | refine ro_p rfl (by first | exact rfl | fail) (by first | (simp [bdL, bdL_append, AV.bd]; done) | fail) ?_)) rfl (by (rw [hm]; exact rfl)) rfl (by (simp [bdT, AV.bd, bdL, bdL_append]; done)) (by repeat' (first | exact True.intro | exact rfl | refine And.intro ?_ ?_ | (simp [bdOq, bdL, bdL_append, AV.bd]; done))) (by (rw [hm]; exact Nat.le_of_ble_eq_true rfl))⟩ ⟨cut_suf _ _, by rw [cut_map hr]⟩ ?_
      rintro ⟨x, l1⟩ ⟨hs1, hf1⟩
      simp only at hs1 hf1 ⊢
      have go : ∀ (p : Nat × Tx) (l2 : List (Nat × Tx)) (k : Int), l1 = p :: l2 → sufT x (p.2 :: l2.map (·.2)) = sufT (.mk k ⟨#[]⟩ [x]) (l2.map (·.2)) → l2.length < l1.length ∧ l2 <:+ l ∧ sufT (.mk k ⟨#[]⟩ [x]) (l2.map (·.2)) = sufT x0 r0 := by
        rintro p l2 k rfl h
        refine ⟨by simp, (List.suffix_cons p l2).trans hs1, ?_⟩
        rw [← h, ← hf1]; rfl
      have hex : ∀ k : Int, AV.agg [intA k, strA ⟨#[]⟩, .sl 3 [exprA x]] = exprA (.mk k ⟨#[]⟩ [x]) := fun k => (exprA_mk k ⟨#[]⟩ [x]).symm
      by_cases h1 : hdT l1 = [42] ∨ hdT l1 = [43] ∨ hdT l1 = [63]
      · obtain ⟨p, l2, hl1⟩ : ∃ p l2, l1 = p :: l2 := by
          cases l1 with
          | nil => simp [hdT, hd] at h1
          | cons p l2 => exact ⟨_, _, rfl⟩
        have hn : FnO Tryd.prog 39 [.ptr 0 2 0 0] [rdA l1 e] (tokA p) [some (rdA l2 e)] := by rw [hl1]; exact next_fn p l2 e
        have hpt : hdT l1 = p.2 := by rw [hl1]; rfl
        rw [hpt] at h1
        (repeat' (first | apply jA | apply jF | apply jH | apply jN | (refine wp_cond rfl (fun hc => ?_) (fun hc => ?_) <;> (try simp only [sB, ne_eq, reduceCtorEq] at hc) <;> (try (exfalso; omega))) | (refine WP.regionC ?_; (refine sassign rfl ?_); apply jW) | (refine WP.regionC (id := 3) ?_; (refine smove rfl ?_); (refine sc_o [0] rfl rfl (peek_fn _ _) (Lend.o1 rfl rfl (by (exact (renL_pure (by simp [AV.bd, bdL, bdL_append])).symm)) rfl (by simp [AV.bd, bdL, bdL_append]) (by simp [AV.bd, bdL, bdL_append])) ?_; simp only [updN, newO, AObj.ren, renL, AV.ren, apx, ap, if_true, if_false, Nat.reduceLT, Nat.reduceAdd, Nat.reduceSub, sO, intA, boolA, strA, ren_pkA, rdA, ren_toks]); (refine su (afieldv rfl rfl) ?_); apply jW) | (refine WP.regionC ?_; (refine seqs rfl rfl ?_); (refine sassign rfl ?_); apply jW) | (refine WP.regionC (id := 11) ?_; (refine smove rfl ?_); (refine sc_o [0] rfl rfl (hn) (Lend.o1 rfl rfl (by (exact (renL_pure (by simp [AV.bd, bdL, bdL_append])).symm)) rfl (by simp [AV.bd, bdL, bdL_append]) (by simp [AV.bd, bdL, bdL_append])) ?_; simp only [updN, newO, AObj.ren, renL, AV.ren, apx, ap, if_true, if_false, Nat.reduceLT, Nat.reduceAdd, Nat.reduceSub, sO, intA, boolA, strA, rdA, ren_toks]); apply jW) | (refine wpl_region (id := 12) ?_; (refine wpl_step rfl ?_); (refine smove rfl ?_); (apply jW); (refine wpl_step rfl ?_); (refine sloadpw rfl rfl rfl rfl ?_); (apply jW); (refine wpl_step rfl ?_); (refine se_lit (OpP.cons rfl (OpP.nil)) rfl rfl rfl rfl rfl rfl ?_); (apply jW); (refine wpl_frzm 21 hm rfl rfl (by first | exact rfl | fail) (by first | (simp [AV.bd, bdL, bdL_append]; done) | fail) rfl rfl ?_); (refine wpl_step rfl ?_); (refine su (ap_build (RqP.cons (rq_p rfl rfl) (RqP.cons (rq_p rfl rfl) (RqP.nil))) rfl) ?_); (apply jW); (refine wpl_step rfl ?_); (refine se_store_b rfl rfl rfl rfl ?_); (apply jW); (apply jX))))
        · have h2 : p.2 = [42] := by rw [← hpt]; exact tx_inj (hc.trans rfl)
          refine ⟨(.mk 5 ⟨#[]⟩ [x], l2), go p l2 5 hl1 (by rw [sufT, h2]; rfl), ?_⟩
          simp only
          rw [exprA_mk]
          exact ⟨[0, 1, 2], ToR.S rfl (by repeat' (first | exact rt_nil | refine rt_t rfl rfl ?_)) (by repeat' (first | exact ro_nil | refine ro_e rfl rfl ?_ | refine ro_p rfl (by first | exact rfl | fail) (by first | (simp [bdL, bdL_append, AV.bd]; done) | fail) ?_)) rfl (by (rw [hm]; exact rfl)) rfl (by (simp [bdT, AV.bd, bdL, bdL_append]; done)) (by repeat' (first | exact True.intro | exact rfl | refine And.intro ?_ ?_ | (simp [bdOq, bdL, bdL_append, AV.bd]; done))) (by (rw [hm]; exact Nat.le_of_ble_eq_true rfl))⟩
        · have h2 : p.2 = [43] := by rw [← hpt]; exact tx_inj (hc.trans rfl)
          refine ⟨(.mk 6 ⟨#[]⟩ [x], l2), go p l2 6 hl1 (by rw [sufT, h2]; rfl), ?_⟩
          simp only
          rw [exprA_mk]
          exact ⟨[0, 1, 2], ToR.S rfl (by repeat' (first | exact rt_nil | refine rt_t rfl rfl ?_)) (by repeat' (first | exact ro_nil | refine ro_e rfl rfl ?_ | refine ro_p rfl (by first | exact rfl | fail) (by first | (simp [bdL, bdL_append, AV.bd]; done) | fail) ?_)) rfl (by (rw [hm]; exact rfl)) rfl (by (simp [bdT, AV.bd, bdL, bdL_append]; done)) (by repeat' (first | exact True.intro | exact rfl | refine And.intro ?_ ?_ | (simp [bdOq, bdL, bdL_append, AV.bd]; done))) (by (rw [hm]; exact Nat.le_of_ble_eq_true rfl))⟩
        · have h2 : p.2 = [63] := by rw [← hpt]; exact tx_inj (hc.trans rfl)
          refine ⟨(.mk 4 ⟨#[]⟩ [x], l2), go p l2 4 hl1 (by rw [sufT, h2]; rfl), ?_⟩
          simp only
          rw [exprA_mk]
          exact ⟨[0, 1, 2], ToR.S rfl (by repeat' (first | exact rt_nil | refine rt_t rfl rfl ?_)) (by repeat' (first | exact ro_nil | refine ro_e rfl rfl ?_ | refine ro_p rfl (by first | exact rfl | fail) (by first | (simp [bdL, bdL_append, AV.bd]; done) | fail) ?_)) rfl (by (rw [hm]; exact rfl)) rfl (by (simp [bdT, AV.bd, bdL, bdL_append]; done)) (by repeat' (first | exact True.intro | exact rfl | refine And.intro ?_ ?_ | (simp [bdOq, bdL, bdL_append, AV.bd]; done))) (by (rw [hm]; exact Nat.le_of_ble_eq_true rfl))⟩
        · exfalso
          have e : ∀ c : UInt8, ¬ tx (hdT l1) = (⟨#[c]⟩ : ByteArray) → p.2 ≠ [c] := fun c h h2 => h (by rw [hpt, h2]; rfl)
          rcases h1 with h1 | h1 | h1
          · exact e 42 (by assumption) h1
          · exact e 43 (by assumption) h1
          · exact e 63 (by assumption) h1
      · have hst : sufT x (l1.map (·.2)) = (x, l1.map (·.2)) := by
          cases l1 with
          | nil => rfl
          | cons p l2 =>
            have h2 : ¬ (p.2 = [42] ∨ p.2 = [43] ∨ p.2 = [63]) := h1
            simp only [not_or] at h2
            rw [List.map_cons, sufT, if_neg h2.1, if_neg h2.2.1, if_neg h2.2.2]
        rw [hst] at hf1
        rw [← hf1]
        simp only [cut_of hs1]
        simp only [not_or] at h1
        (repeat' (first | apply jA | apply jF | apply jH | apply jK | apply jM | apply jN | apply jO | (refine wp_cond rfl (fun hc => ?_) (fun hc => ?_) <;> (try simp only [sB, ne_eq, reduceCtorEq] at hc) <;> (try (exfalso; omega))) | (refine WP.regionC ?_; (refine sassign rfl ?_); apply jW) | (refine WP.regionC (id := 3) ?_; (refine smove rfl ?_); (refine sc_o [0] rfl rfl (peek_fn _ _) (Lend.o1 rfl rfl (by (exact (renL_pure (by simp [AV.bd, bdL, bdL_append])).symm)) rfl (by simp [AV.bd, bdL, bdL_append]) (by simp [AV.bd, bdL, bdL_append])) ?_; simp only [updN, newO, AObj.ren, renL, AV.ren, apx, ap, if_true, if_false, Nat.reduceLT, Nat.reduceAdd, Nat.reduceSub, sO, intA, boolA, strA, ren_pkA, rdA, ren_toks]); (refine su (afieldv rfl rfl) ?_); apply jW) | (refine WP.regionC ?_; (refine seqs rfl rfl ?_); (refine sassign rfl ?_); apply jW) | (refine WP.regionC (id := 4) ?_; (refine sloadpw rfl rfl rfl rfl ?_); (refine se_store_b rfl rfl rfl rfl ?_); apply jW)))
        · exact absurd (tx_inj (hc.trans rfl)) h1.1
        · exact absurd (tx_inj (hc.trans rfl)) h1.2.1
        · exact absurd (tx_inj (hc.trans rfl)) h1.2.2
        · refine bp_r rfl ?_
          refine retO_L (x := exprA x) (k := 1) (os1 := [(0, some (rdA l1 e))]) (.cellT rfl rfl rfl rfl .nil) rfl ⟨[0], ToR.S rfl (by repeat' (first | exact rt_nil | refine rt_p rfl rfl (by first | (simp [AV.bd, bdL, bdL_append]; done) | fail) ?_)) (by repeat' (first | exact ro_nil | refine ro_p rfl (by first | exact rfl | fail) (by first | (simp [bdL, bdL_append, AV.bd]; done) | fail) ?_)) rfl rfl rfl (by (simp [bdT, AV.bd, bdL, bdL_append]; done)) (by repeat' (first | exact True.intro | refine And.intro ?_ ?_ | (simp [bdOq, bdL, bdL_append, AV.bd]; done))) (by exact Nat.le_of_ble_eq_true rfl)⟩ rfl
    · exact ⟨Nat.le_refl _, bd_exprA 1 _⟩
end Go.Lg

namespace Go.Lg
open Go.Proofs
set_option linter.unusedSimpArgs false
set_option linter.unusedVariables false
attribute [local irreducible] Ap Rq asemC WP RunD Ret Gq thenA inBlockA bodyQ noGotoA RqL RqP OpP
set_option maxHeartbeats 4000000
set_option maxRecDepth 20000
attribute [local simp] rdA pkA tokA toks_bd
theorem finA_stop {acc : List GEx} {l : List Tx} (h : hd l ≠ [124]) : finA acc l = .ok acc l := by
  cases l with
  | nil => rfl
  | cons t r => have h' : ¬ t = [124] := h; simp only [finA, if_neg h']
theorem pPrim_name {l : List Tx} (t : Tx) (r : List Tx) (hl : l = t :: r) (h : nmT t = true) : pPrim l = .ok (.mk 1 (tx t) []) r := by rw [hl, pPrim, if_pos h]
theorem pPrim_bad {l : List Tx} (h : isN l = false) (h2 : hd l ≠ [40]) : pPrim l = .err l := by
  cases l with
  | nil => rw [pPrim]
  | cons t r =>
    have h3 : nmT t = false := h
    have h4 : ¬ t = [40] := h2
    rw [pPrim, h3]
    simp [h4]
theorem pPrim_par (r : List Tx) : pPrim ([40] :: r) = match pAlts r with
    | .err q => .err q
    | .ok es q => match pTake [41] q with
      | .err q => .err q
      | .ok _ q' => .ok (altOf es) q' := by
  have nm : nmT [40] = false := by decide
  rw [pPrim, nm]
  simp only [Bool.false_eq_true, if_false, if_true]
  cases pAlts r with
  | err q => rfl
  | ok es q =>
    cases q with
    | nil => rfl
    | cons t q => simp only [pTake]; split <;> rfl
theorem hdT_cons {l : List (Nat × Tx)} {c : Tx} (hc : c ≠ []) (h : hdT l = c) : ∃ p l2, l = p :: l2 ∧ p.2 = c := by
  cases l with
  | nil => exact absurd h.symm hc
  | cons p l2 => exact ⟨p, l2, rfl, h⟩
theorem expect_ok (c : Tx) (hc : c ≠ []) (p : Nat × Tx) (l : List (Nat × Tx)) (e : Int) (h : p.2 = c) : FnO Tryd.prog 11 [.ptr 0 2 0 0, strA (tx c)] [rdA (p :: l) e] (.tup []) [some (rdA l e)] :=
  (expect_fn (tx c) hc (p :: l) e).oks (by
    have : pTake (bl (tx c)) ((p :: l).map (·.2)) = .ok () (l.map (·.2)) := by have h' : p.2 = bl (tx c) := h; simp only [List.map_cons, pTake, if_pos h']
    rw [this]; simp only [pout, cut_tail])
theorem pTake_bad {c : Tx} {l : List Tx} (hc : c ≠ []) (h : hd l ≠ c) : pTake c l = .err l := by
  cases l with
  | nil => rfl
  | cons t r => have h' : ¬ t = c := h; simp only [pTake, if_neg h']
theorem expect_x (c : Tx) (hc : c ≠ []) (l : List (Nat × Tx)) (e : Int) (h : hdT l ≠ c) : FnX Tryd.prog 11 [.ptr 0 2 0 0, strA (tx c)] [rdA l e] (synV (pos l e)) :=
  (expect_fn (tx c) hc l e).dies (by
    have : pTake (bl (tx c)) (l.map (·.2)) = .err (l.map (·.2)) := pTake_bad hc h
    rw [this]; simp only [pout, cut_self])
theorem gpprim_of (l : List (Nat × Tx)) (e : Int) (hB : l.length ≤ 1000000) (hs : ∀ l', l' <:+ l → l'.length < l.length → FnP Tryd.prog 55 [.ptr 0 2 0 0] [rdA l' e] (pout l' e exprA (pSeq (l'.map (·.2))))) :
    FnP Tryd.prog 68 [.ptr 0 2 0 0] [rdA l e] (pout l e exprA (pPrim (l.map (·.2)))) := by
  cases hn : isN (l.map (·.2)) with
  | true =>
    obtain ⟨p, l2, hl⟩ : ∃ p l2, l = p :: l2 := by
      cases l with
      | nil => cases hn
      | cons p l2 => exact ⟨_, _, rfl⟩
    have hnm : nmT p.2 = true := by rw [hl] at hn; exact hn
    have hO : FnO Tryd.prog 12 [.ptr 0 2 0 0] [rdA l e] (strA (tx p.2)) [some (rdA l2 e)] := (gpname_fn l e).oks (by rw [hl]; simp only [List.map_cons, pName, hnm, if_true, pout, cut_tail])
    have hout : pout l e exprA (pPrim (l.map (·.2))) = .ok (exprA (.mk 1 (tx p.2) [])) [some (rdA l2 e)] := by
      rw [pPrim_name p.2 (l2.map (·.2)) (by rw [hl]; rfl) hnm]
      simp only [pout, hl, cut_tail]
    rw [hout]
    refine FnP.intro ?_ (by kernel_rfl) Tryd.func68 rfl rfl Tryd.ntmps68 (by exact Nat.le_of_ble_eq_true rfl) ?_; rotate_left; intro Γ hm
    · (repeat' (first | apply jA | apply jH | apply jI | (refine wp_cond rfl (fun hc => ?_) (fun hc => ?_) <;> (try simp only [sB, ne_eq, reduceCtorEq] at hc) <;> (try (exfalso; omega))) | (refine WP.regionC (id := 0) ?_; (refine se_alloc rfl ?_); apply jW) | (refine WP.regionC (id := 1) ?_; (refine smove rfl ?_); (refine sc_o [0] rfl rfl (isname_fn _ _) (Lend.o1 rfl rfl (by (exact (renL_pure (by simp [AV.bd, bdL, bdL_append])).symm)) rfl (by simp [AV.bd, bdL, bdL_append]) (by simp [AV.bd, bdL, bdL_append])) ?_; simp only [updN, newO, AObj.ren, renL, AV.ren, apx, ap, if_true, if_false, Nat.reduceLT, Nat.reduceAdd, Nat.reduceSub, sO, intA, boolA, strA, ren_pkA, rdA, ren_toks]); apply jW) | (refine WP.regionC (id := 2) ?_; (refine smove rfl ?_); (refine sc_o [0] rfl rfl (hO) (Lend.o1 rfl rfl (by (exact (renL_pure (by simp [AV.bd, bdL, bdL_append])).symm)) rfl (by simp [AV.bd, bdL, bdL_append]) (by simp [AV.bd, bdL, bdL_append])) ?_; simp only [updN, newO, AObj.ren, renL, AV.ren, apx, ap, if_true, if_false, Nat.reduceLT, Nat.reduceAdd, Nat.reduceSub, sO, intA, boolA, strA, rdA, ren_toks]); (refine su (ap_build (RqP.cons (rq_p rfl rfl) (RqP.cons (rq_p rfl rfl) (RqP.nil))) rfl) ?_); (refine se_store_b rfl rfl rfl rfl ?_); apply jW)))
      · refine wp_nilo 1 2 3 rfl rfl ?_
        refine wp_frzom (L := ([] : List GEx)) (f := exprA) 1 2 hm rfl rfl rfl rfl rfl (bd_exprA 0) (fun _ => rfl) rfl ?_
        refine WP.ret ?_
        refine go_r ?_
        refine bp_r rfl ?_
        refine retO_L (x := exprA (.mk 1 (tx p.2) [])) (k := 1) (os1 := [(0, some (rdA l2 e))]) (.cellT rfl rfl rfl rfl .nil) rfl ⟨[0], ToR.S rfl (by repeat' (first | exact rt_nil | refine rt_e rfl rfl ?_)) (by repeat' (first | exact ro_nil | refine ro_p rfl (by first | exact rfl | fail) (by first | (simp [bdL, bdL_append, AV.bd]; done) | fail) ?_)) rfl rfl rfl (by (simp [bdT, AV.bd, bdL, bdL_append]; done)) (by repeat' (first | exact True.intro | refine And.intro ?_ ?_ | (simp [bdOq, bdL, bdL_append, AV.bd]; done))) (by exact Nat.le_of_ble_eq_true rfl)⟩ rfl
      · exfalso; simp_all
    · exact ⟨Nat.le_refl _, bd_exprA 1 _⟩
  | false =>
    by_cases h40 : hdT l = [40]
    · obtain ⟨p, l2, hl, hp⟩ := hdT_cons (by simp) h40
      have hE : FnO Tryd.prog 11 [.ptr 0 2 0 0, strA (tx [40])] [rdA l e] (.tup []) [some (rdA l2 e)] := by rw [hl]; exact expect_ok [40] (by simp) p l2 e hp
      have hlt : l2.length < l.length := by rw [hl]; simp
      have hs2 : l2 <:+ l := by rw [hl]; exact List.suffix_cons _ _
      have hpp : pPrim (l.map (·.2)) = match pAlts (l2.map (·.2)) with
          | .err q => .err q
          | .ok es q => match pTake [41] q with
            | .err q => .err q
            | .ok _ q' => .ok (altOf es) q' := by rw [hl, List.map_cons, hp]; exact pPrim_par _
      have hsq := hs l2 hs2 hlt
      cases hq : pItems (l2.map (·.2)) with
      | err q =>
        have hqs : q <:+ l2.map (·.2) := by have := pItems_suf (l2.map (·.2)); rw [hq] at this; exact this
        have hX : FnX Tryd.prog 55 [.ptr 0 2 0 0] [rdA l2 e] (synV (pos (cut l2 q) e)) := hsq.dies (by simp only [pSeq, hq, pout])
        have hout : pout l e exprA (pPrim (l.map (·.2))) = .die (synV (pos (cut l2 q) e)) := by
          rw [hpp, pAlts_eq, hq]; simp only [pout, cut_cut hs2 hqs]
        rw [hout]
        refine FnP.intro ?_ (by kernel_rfl) Tryd.func68 rfl rfl Tryd.ntmps68 (by exact Nat.le_of_ble_eq_true rfl) ?_; rotate_left; intro Γ hm
        · (repeat' (first | apply jA | apply jH | apply jI | apply jT | (refine wp_cond rfl (fun hc => ?_) (fun hc => ?_) <;> (try simp only [sB, ne_eq, reduceCtorEq] at hc) <;> (try (exfalso; omega))) | (refine WP.regionC (id := 0) ?_; (refine se_alloc rfl ?_); apply jW) | (refine WP.regionC (id := 1) ?_; (refine smove rfl ?_); (refine sc_o [0] rfl rfl (isname_fn _ _) (Lend.o1 rfl rfl (by (exact (renL_pure (by simp [AV.bd, bdL, bdL_append])).symm)) rfl (by simp [AV.bd, bdL, bdL_append]) (by simp [AV.bd, bdL, bdL_append])) ?_; simp only [updN, newO, AObj.ren, renL, AV.ren, apx, ap, if_true, if_false, Nat.reduceLT, Nat.reduceAdd, Nat.reduceSub, sO, intA, boolA, strA, ren_pkA, rdA, ren_toks]); apply jW) | (refine wpl_region (id := 3) ?_; (refine wpl_step rfl ?_; (refine smove rfl ?_); apply jW; ((refine wpl_step rfl ?_; (refine sc_o [0] rfl rfl (hE) (Lend.o1 rfl rfl (by (exact (renL_pure (by simp [AV.bd, bdL, bdL_append])).symm)) rfl (by simp [AV.bd, bdL, bdL_append]) (by simp [AV.bd, bdL, bdL_append])) ?_; simp only [updN, newO, AObj.ren, renL, AV.ren, apx, ap, if_true, if_false, Nat.reduceLT, Nat.reduceAdd, Nat.reduceSub, sO, intA, boolA, strA, rdA, ren_toks]); apply jW; (apply jX))))) | (refine wpl_region (id := 4) ?_; (refine wpl_step rfl ?_; (refine smove rfl ?_); apply jW; ((refine wpl_x [0] rfl rfl (hX) (Lend.S (by first | ((repeat' first | exact RenL.nil | refine RenL.cons rfl ?_); done) | fail) (by first | ((repeat' first | exact LendO.nil | refine LendO.arr rfl (by (exact (renL_pure (by simp [AV.bd, bdL, bdL_append])).symm)) ?_); done) | fail) (by decide) rfl (by simp [AV.bd, bdL, bdL_append]) (by repeat' (first | exact True.intro | refine And.intro ?_ ?_ | simp [AV.bd, bdL, bdL_append]))) ?_))))))
          · exfalso; simp_all
          · exact bp_p rfl
        · trivial
      | ok xs0 r0 =>
        have hqs : r0 <:+ l2.map (·.2) := by have := pItems_suf (l2.map (·.2)); rw [hq] at this; exact this
        have hO : FnO Tryd.prog 55 [.ptr 0 2 0 0] [rdA l2 e] (exprA (seqOf xs0)) [some (rdA (cut l2 r0) e)] := hsq.oks (by simp only [pSeq, hq, pout])
        have hfin : finA [seqOf xs0] r0 = pAlts (l2.map (·.2)) := by rw [pAlts_eq, hq]
        have hcl : (cut l2 r0).length ≤ l2.length := (cut_suf l2 r0).length_le
        refine FnP.intro ?_ (by kernel_rfl) Tryd.func68 rfl rfl Tryd.ntmps68 (by exact Nat.le_of_ble_eq_true rfl) ?_; rotate_left; intro Γ hm
        · (repeat' (first | apply jA | apply jF | apply jH | apply jI | (refine wp_cond rfl (fun hc => ?_) (fun hc => ?_) <;> (try simp only [sB, ne_eq, reduceCtorEq] at hc) <;> (try (exfalso; omega))) | (refine WP.regionC (id := 0) ?_; (refine se_alloc rfl ?_); apply jW) | (refine WP.regionC (id := 1) ?_; (refine smove rfl ?_); (refine sc_o [0] rfl rfl (isname_fn _ _) (Lend.o1 rfl rfl (by (exact (renL_pure (by simp [AV.bd, bdL, bdL_append])).symm)) rfl (by simp [AV.bd, bdL, bdL_append]) (by simp [AV.bd, bdL, bdL_append])) ?_; simp only [updN, newO, AObj.ren, renL, AV.ren, apx, ap, if_true, if_false, Nat.reduceLT, Nat.reduceAdd, Nat.reduceSub, sO, intA, boolA, strA, ren_pkA, rdA, ren_toks]); apply jW) | (refine WP.regionC (id := 3) ?_; (refine smove rfl ?_); (refine sc_o [0] rfl rfl (hE) (Lend.o1 rfl rfl (by (exact (renL_pure (by simp [AV.bd, bdL, bdL_append])).symm)) rfl (by simp [AV.bd, bdL, bdL_append]) (by simp [AV.bd, bdL, bdL_append])) ?_; simp only [updN, newO, AObj.ren, renL, AV.ren, apx, ap, if_true, if_false, Nat.reduceLT, Nat.reduceAdd, Nat.reduceSub, sO, intA, boolA, strA, rdA, ren_toks]); apply jW) | (refine WP.regionC (id := 4) ?_; (refine smove rfl ?_); (refine sc_o [0] rfl rfl (hO) (Lend.o1 rfl rfl (by (exact (renL_pure (by simp [AV.bd, bdL, bdL_append])).symm)) rfl (by simp [AV.bd, bdL, bdL_append]) (by simp [AV.bd, bdL, bdL_append])) ?_; simp only [updN, newO, AObj.ren, renL, AV.ren, apx, ap, if_true, if_false, Nat.reduceLT, Nat.reduceAdd, Nat.reduceSub, sO, intA, boolA, strA, rdA, ren_toks, ren_exprA]); (refine se_lit (OpP.cons rfl (OpP.nil)) rfl rfl rfl rfl rfl rfl ?_); (refine sassign rfl ?_); apply jW)))
          · exfalso; simp_all
          refine wp_loop (fun (σ : List GEx × List (Nat × Tx)) => σ.2 <:+ l2 ∧ σ.1 ≠ [] ∧ σ.1.length + σ.2.length ≤ l.length ∧ finA σ.1 (σ.2.map (·.2)) = pAlts (l2.map (·.2))) (fun σ => σ.2.length)
            (fun σ => (S 35 [(0, .ptr 0 2 0 0), (2, .ptr 1 3 0 0), (3, .ref 2 3 0 σ.1.length)] 3 [(0, some (rdA σ.2 e)), (1, some (.arr 3 [.agg [intA 0, strA ⟨#[]⟩, .val (.slice none 0 0)]])), (2, some (.arr 3 (σ.1.map exprA)))])) ([seqOf xs0], cut l2 r0) ⟨[0, 1, 2], ToR.S rfl (by repeat' (first | exact rt_nil | refine rt_r rfl rfl ?_ | refine rt_t rfl rfl ?_)) (by repeat' (first | exact ro_nil | refine ro_e rfl rfl ?_ | refine ro_p rfl (by first | exact rfl | fail) (by first | exact bdL_map (fun _ => by simp [AV.bd, bdL, bdL_append]) _ | (simp [bdL, bdL_append, AV.bd]; done) | fail) ?_)) rfl (by (rw [hm]; exact rfl)) rfl (by (simp [bdT, AV.bd, bdL, bdL_append]; done)) (by repeat' (first | exact True.intro | exact rfl | refine And.intro ?_ ?_ | exact bdL_map (fun _ => by simp [AV.bd, bdL, bdL_append]) _ | (simp [bdOq, bdL, bdL_append, AV.bd]; done))) (by (rw [hm]; exact Nat.le_of_ble_eq_true rfl))⟩ ⟨cut_suf _ _, by simp, by simp only [List.length_cons, List.length_nil]; omega, by rw [cut_map hqs]; exact hfin⟩ ?_
          rintro ⟨acc, l3⟩ ⟨hs3, hne, hn3, hf3⟩
          simp only at hs3 hne hn3 hf3 ⊢
          by_cases hbar : hdT l3 = [124]
          · obtain ⟨p3, l4, hl3, hp3⟩ := hdT_cons (by simp) hbar
            have hN : FnO Tryd.prog 39 [.ptr 0 2 0 0] [rdA l3 e] (tokA p3) [some (rdA l4 e)] := by rw [hl3]; exact next_fn p3 l4 e
            have hbb : finA acc (l3.map (·.2)) = match pItems (l4.map (·.2)) with
                | .err q' => .err q'
                | .ok xs q' => finA (acc ++ [seqOf xs]) q' := by rw [hl3, List.map_cons, hp3]; exact finA_bar _ _
            have hs4 : l4 <:+ l2 := by rw [hl3] at hs3; exact (List.suffix_cons _ _).trans hs3
            have hlen4 : l4.length < l3.length := by rw [hl3]; simp
            have hle4 := hs4.length_le
            have hsq4 := hs l4 (hs4.trans hs2) (by omega)
            cases hq4 : pItems (l4.map (·.2)) with
            | err q =>
              have hq4s : q <:+ l4.map (·.2) := by have := pItems_suf (l4.map (·.2)); rw [hq4] at this; exact this
              have hX : FnX Tryd.prog 55 [.ptr 0 2 0 0] [rdA l4 e] (synV (pos (cut l4 q) e)) := hsq4.dies (by simp only [pSeq, hq4, pout])
              have hout : pout l e exprA (pPrim (l.map (·.2))) = .die (synV (pos (cut l4 q) e)) := by
                rw [hpp, ← hf3, hbb, hq4]; simp only [pout, cut_cut (hs4.trans hs2) hq4s]
              rw [hout]
              (repeat' (first | apply jA | apply jF | apply jH | apply jI | apply jJ | apply jL | apply jP | apply jT | apply jU | (refine wp_cond rfl (fun hc => ?_) (fun hc => ?_) <;> (try simp only [sB, ne_eq, reduceCtorEq] at hc) <;> (try (exfalso; omega))) | (refine WP.regionC (id := 5) ?_; (refine smove rfl ?_); (refine sc_o [0] rfl rfl (peek_fn _ _) (Lend.o1 rfl rfl (by (exact (renL_pure (by simp [AV.bd, bdL, bdL_append])).symm)) rfl (by simp [AV.bd, bdL, bdL_append]) (by simp [AV.bd, bdL, bdL_append])) ?_; simp only [updN, newO, AObj.ren, renL, AV.ren, apx, ap, if_true, if_false, Nat.reduceLT, Nat.reduceAdd, Nat.reduceSub, sO, intA, boolA, strA, ren_pkA, rdA, ren_toks]); (refine su (afieldv rfl rfl) ?_); (refine seqs rfl rfl ?_); apply jW) | (refine wpl_region (id := 6) ?_; (refine wpl_step rfl ?_; (refine smove rfl ?_); apply jW; ((refine wpl_step rfl ?_; (refine sc_o [0] rfl rfl (hN) (Lend.o1 rfl rfl (by (exact (renL_pure (by simp [AV.bd, bdL, bdL_append])).symm)) rfl (by simp [AV.bd, bdL, bdL_append]) (by simp [AV.bd, bdL, bdL_append])) ?_; simp only [updN, newO, AObj.ren, renL, AV.ren, apx, ap, if_true, if_false, Nat.reduceLT, Nat.reduceAdd, Nat.reduceSub, sO, intA, boolA, strA, rdA, ren_toks]); apply jW; (apply jX))))) | (refine wpl_region (id := 7) ?_; (refine wpl_step rfl ?_; (refine smove rfl ?_); apply jW; (refine wpl_step rfl ?_; (refine smove rfl ?_); apply jW; ((refine wpl_x [0] rfl rfl (hX) (Lend.S (by first | ((repeat' first | exact RenL.nil | refine RenL.cons rfl ?_); done) | fail) (by first | ((repeat' first | exact LendO.nil | refine LendO.arr rfl (by (exact (renL_pure (by simp [AV.bd, bdL, bdL_append])).symm)) ?_); done) | fail) (by decide) rfl (by simp [AV.bd, bdL, bdL_append]) (by repeat' (first | exact True.intro | refine And.intro ?_ ?_ | simp [AV.bd, bdL, bdL_append]))) ?_)))))))
              · exact bp_p rfl
              · exact absurd (by rw [hbar]; rfl) hc
            | ok xs r =>
              have hq4s : r <:+ l4.map (·.2) := by have := pItems_suf (l4.map (·.2)); rw [hq4] at this; exact this
              have hO4 : FnO Tryd.prog 55 [.ptr 0 2 0 0] [rdA l4 e] (exprA (seqOf xs)) [some (rdA (cut l4 r) e)] := hsq4.oks (by simp only [pSeq, hq4, pout])
              have hcl4 := (cut_suf l4 r).length_le
              have hnext : (cut l4 r).length < l3.length ∧ cut l4 r <:+ l2 ∧ acc ++ [seqOf xs] ≠ [] ∧ (acc ++ [seqOf xs]).length + (cut l4 r).length ≤ l.length ∧ finA (acc ++ [seqOf xs]) ((cut l4 r).map (·.2)) = pAlts (l2.map (·.2)) := by
                refine ⟨by omega, (cut_suf _ _).trans hs4, by simp, by simp only [List.length_append, List.length_cons, List.length_nil]; omega, ?_⟩
                rw [cut_map hq4s, ← hf3, hbb, hq4]
              (repeat' (first | apply jA | apply jF | apply jH | apply jI | apply jJ | apply jL | apply jN | apply jP | (refine wp_cond rfl (fun hc => ?_) (fun hc => ?_) <;> (try simp only [sB, ne_eq, reduceCtorEq] at hc) <;> (try (exfalso; omega))) | (refine WP.regionC (id := 5) ?_; (refine smove rfl ?_); (refine sc_o [0] rfl rfl (peek_fn _ _) (Lend.o1 rfl rfl (by (exact (renL_pure (by simp [AV.bd, bdL, bdL_append])).symm)) rfl (by simp [AV.bd, bdL, bdL_append]) (by simp [AV.bd, bdL, bdL_append])) ?_; simp only [updN, newO, AObj.ren, renL, AV.ren, apx, ap, if_true, if_false, Nat.reduceLT, Nat.reduceAdd, Nat.reduceSub, sO, intA, boolA, strA, ren_pkA, rdA, ren_toks]); (refine su (afieldv rfl rfl) ?_); (refine seqs rfl rfl ?_); apply jW) | (refine WP.regionC (id := 6) ?_; (refine smove rfl ?_); (refine sc_o [0] rfl rfl (hN) (Lend.o1 rfl rfl (by (exact (renL_pure (by simp [AV.bd, bdL, bdL_append])).symm)) rfl (by simp [AV.bd, bdL, bdL_append]) (by simp [AV.bd, bdL, bdL_append])) ?_; simp only [updN, newO, AObj.ren, renL, AV.ren, apx, ap, if_true, if_false, Nat.reduceLT, Nat.reduceAdd, Nat.reduceSub, sO, intA, boolA, strA, rdA, ren_toks]); apply jW) | (refine WP.regionC (id := 7) ?_; (refine smove rfl ?_); (refine smove rfl ?_); (refine sc_o [0] rfl rfl (hO4) (Lend.o1 rfl rfl (by (exact (renL_pure (by simp [AV.bd, bdL, bdL_append])).symm)) rfl (by simp [AV.bd, bdL, bdL_append]) (by simp [AV.bd, bdL, bdL_append])) ?_; simp only [updN, newO, AObj.ren, renL, AV.ren, apx, ap, if_true, if_false, Nat.reduceLT, Nat.reduceAdd, Nat.reduceSub, sO, intA, boolA, strA, rdA, ren_toks, ren_exprA]); (refine se_lit (OpP.cons rfl (OpP.nil)) rfl rfl rfl rfl rfl rfl ?_); (refine se_app1 rfl rfl rfl rfl rfl rfl rfl rfl (by omega) ?_); (refine sassign rfl ?_); apply jW)))
              · exact ⟨(acc ++ [seqOf xs], cut l4 r), hnext, ⟨[0, 1, 4], ToR.S rfl (by repeat' (first | exact rt_nil | refine rt_r rfl rfl ?_ | refine rt_t rfl rfl ?_)) (by repeat' (first | exact ro_nil | refine ro_e rfl rfl ?_ | refine ro_p rfl (by first | exact rfl | fail) (by first | exact bdL_map (fun _ => by simp [AV.bd, bdL, bdL_append]) _ | (simp [bdL, bdL_append, AV.bd]; done) | fail) ?_)) rfl (by (rw [hm]; exact rfl)) rfl (by (simp [bdT, AV.bd, bdL, bdL_append]; done)) (by repeat' (first | exact True.intro | exact rfl | refine And.intro ?_ ?_ | exact bdL_map (fun _ => by simp [AV.bd, bdL, bdL_append]) _ | (simp [bdOq, bdL, bdL_append, AV.bd]; done))) (by (rw [hm]; exact Nat.le_of_ble_eq_true rfl))⟩⟩
              · exact absurd (by rw [hbar]; rfl) hc
          · have hfe : pAlts (l2.map (·.2)) = .ok acc (l3.map (·.2)) := by rw [← hf3]; exact finA_stop hbar
            rw [hpp, hfe]
            simp only
            by_cases h41 : hdT l3 = [41]
            · obtain ⟨p3, l4, hl3, hp3⟩ := hdT_cons (by simp) h41
              have hE2 : FnO Tryd.prog 11 [.ptr 0 2 0 0, strA (tx [41])] [rdA l3 e] (.tup []) [some (rdA l4 e)] := by rw [hl3]; exact expect_ok [41] (by simp) p3 l4 e hp3
              have hpt : pTake [41] (l3.map (·.2)) = .ok () (l4.map (·.2)) := by rw [hl3, List.map_cons, pTake, if_pos hp3]
              rw [hpt]
              have hout : pout l e exprA (.ok (altOf acc) (l4.map (·.2))) = .ok (exprA (altOf acc)) [some (rdA l4 e)] := by
                have : l4 <:+ l := (by rw [hl3] at hs3; exact ((List.suffix_cons _ _).trans hs3).trans hs2)
                simp only [pout, cut_of this]
              simp only
              rw [hout]
              (repeat' (first | apply jA | apply jF | apply jH | apply jI | apply jJ | apply jL | apply jP | (refine wp_cond rfl (fun hc => ?_) (fun hc => ?_) <;> (try simp only [sB, ne_eq, reduceCtorEq] at hc) <;> (try (exfalso; omega))) | (refine WP.regionC (id := 5) ?_; (refine smove rfl ?_); (refine sc_o [0] rfl rfl (peek_fn _ _) (Lend.o1 rfl rfl (by (exact (renL_pure (by simp [AV.bd, bdL, bdL_append])).symm)) rfl (by simp [AV.bd, bdL, bdL_append]) (by simp [AV.bd, bdL, bdL_append])) ?_; simp only [updN, newO, AObj.ren, renL, AV.ren, apx, ap, if_true, if_false, Nat.reduceLT, Nat.reduceAdd, Nat.reduceSub, sO, intA, boolA, strA, ren_pkA, rdA, ren_toks]); (refine su (afieldv rfl rfl) ?_); (refine seqs rfl rfl ?_); apply jW) | (refine WP.regionC (id := 8) ?_; (refine smove rfl ?_); (refine sc_o [0] rfl rfl (hE2) (Lend.o1 rfl rfl (by (exact (renL_pure (by simp [AV.bd, bdL, bdL_append])).symm)) rfl (by simp [AV.bd, bdL, bdL_append]) (by simp [AV.bd, bdL, bdL_append])) ?_; simp only [updN, newO, AObj.ren, renL, AV.ren, apx, ap, if_true, if_false, Nat.reduceLT, Nat.reduceAdd, Nat.reduceSub, sO, intA, boolA, strA, rdA, ren_toks]); apply jW)))
              · exact absurd (tx_inj (hc.trans rfl)) hbar
              · refine wp_frzm 3 hm rfl rfl rfl (bd_exprA 0) (fun _ => rfl) rfl ?_
                cases acc with
                | nil => exact absurd rfl hne
                | cons y acc' =>
                  cases acc' with
                  | nil =>
                    (repeat' (first | apply jA | apply jH | apply jI | apply jK | apply jM | (refine wp_cond rfl (fun hc => ?_) (fun hc => ?_) <;> (try simp only [sB, ne_eq, reduceCtorEq] at hc) <;> (try (exfalso; omega))) | (refine WP.regionC (id := 9) ?_; (refine smove rfl ?_); (refine slenm rfl rfl ?_); (refine seql rfl rfl ?_); apply jW) | (refine WP.regionC (id := 10) ?_; (refine smove rfl ?_); (refine sidxn rfl rfl (by (simp only [sL] <;> omega)) ?_); (refine sloadw rfl rfl ?_); (refine se_store_b rfl rfl rfl rfl ?_); apply jW)))
                    · refine bp_r rfl ?_
                      refine retO_L (x := exprA (altOf [y])) (k := 1) (os1 := [(0, some (rdA l4 e))]) (.cellT rfl rfl rfl rfl .nil) rfl ⟨[0], ToR.S rfl (by repeat' (first | exact rt_nil | refine rt_p rfl rfl (by first | (simp [AV.bd, bdL, bdL_append]; done) | fail) ?_)) (by repeat' (first | exact ro_nil | refine ro_p rfl (by first | exact rfl | fail) (by first | (simp [bdL, bdL_append, AV.bd]; done) | fail) ?_)) rfl rfl rfl (by (simp [bdT, AV.bd, bdL, bdL_append]; done)) (by repeat' (first | exact True.intro | refine And.intro ?_ ?_ | (simp [bdOq, bdL, bdL_append, AV.bd]; done))) (by exact Nat.le_of_ble_eq_true rfl)⟩ rfl
                    · exfalso; simp at hc
                  | cons y' acc2 =>
                    (repeat' (first | apply jA | apply jH | apply jI | apply jK | (refine wp_cond rfl (fun hc => ?_) (fun hc => ?_) <;> (try simp only [sB, ne_eq, reduceCtorEq] at hc) <;> (try (exfalso; omega))) | (refine WP.regionC (id := 9) ?_; (refine smove rfl ?_); (refine slenm rfl rfl ?_); (refine seql rfl rfl ?_); apply jW) | (refine WP.regionC (id := 11) ?_; (refine smove rfl ?_); (refine su (ap_build (RqP.cons (rq_p rfl rfl) (RqP.cons (rq_p rfl rfl) (RqP.nil))) rfl) ?_); (refine se_store_b rfl rfl rfl rfl ?_); apply jW)))
                    · exfalso; simp at hc; omega
                    · refine bp_r rfl ?_
                      have he : exprA (altOf (y :: y' :: acc2)) = .agg [intA 3, strA ⟨#[]⟩, .sl 3 ((y :: y' :: acc2).map exprA)] := exprA_mk _ _ _
                      rw [he]
                      refine retO_L (x := .agg [intA 3, strA ⟨#[]⟩, .sl 3 ((y :: y' :: acc2).map exprA)]) (k := 1) (os1 := [(0, some (rdA l4 e))]) (.cellT rfl rfl rfl rfl .nil) rfl ⟨[0], ToR.S rfl (by repeat' (first | exact rt_nil | refine rt_p rfl rfl (by first | (simp [AV.bd, bdL, bdL_append]; done) | fail) ?_)) (by repeat' (first | exact ro_nil | refine ro_p rfl (by first | exact rfl | fail) (by first | (simp [bdL, bdL_append, AV.bd]; done) | fail) ?_)) rfl rfl rfl (by (simp [bdT, AV.bd, bdL, bdL_append]; done)) (by repeat' (first | exact True.intro | refine And.intro ?_ ?_ | (simp [bdOq, bdL, bdL_append, AV.bd]; done))) (by exact Nat.le_of_ble_eq_true rfl)⟩ rfl
            · have hX2 := expect_x [41] (by simp) l3 e h41
              rw [pTake_bad (by simp) h41]
              have hout : pout l e exprA (.err (l3.map (·.2))) = .die (synV (pos l3 e)) := by simp only [pout, cut_of (hs3.trans hs2)]
              simp only
              rw [hout]
              (repeat' (first | apply jA | apply jF | apply jH | apply jI | apply jJ | apply jL | apply jP | apply jT | (refine wp_cond rfl (fun hc => ?_) (fun hc => ?_) <;> (try simp only [sB, ne_eq, reduceCtorEq] at hc) <;> (try (exfalso; omega))) | (refine WP.regionC (id := 5) ?_; (refine smove rfl ?_); (refine sc_o [0] rfl rfl (peek_fn _ _) (Lend.o1 rfl rfl (by (exact (renL_pure (by simp [AV.bd, bdL, bdL_append])).symm)) rfl (by simp [AV.bd, bdL, bdL_append]) (by simp [AV.bd, bdL, bdL_append])) ?_; simp only [updN, newO, AObj.ren, renL, AV.ren, apx, ap, if_true, if_false, Nat.reduceLT, Nat.reduceAdd, Nat.reduceSub, sO, intA, boolA, strA, ren_pkA, rdA, ren_toks]); (refine su (afieldv rfl rfl) ?_); (refine seqs rfl rfl ?_); apply jW) | (refine wpl_region (id := 8) ?_; (refine wpl_step rfl ?_; (refine smove rfl ?_); apply jW; ((refine wpl_x [0] rfl rfl (hX2) (Lend.S (by first | ((repeat' first | exact RenL.nil | refine RenL.cons rfl ?_); done) | fail) (by first | ((repeat' first | exact LendO.nil | refine LendO.arr rfl (by (exact (renL_pure (by simp [AV.bd, bdL, bdL_append])).symm)) ?_); done) | fail) (by decide) rfl (by simp [AV.bd, bdL, bdL_append]) (by repeat' (first | exact True.intro | refine And.intro ?_ ?_ | simp [AV.bd, bdL, bdL_append]))) ?_))))))
              · exact absurd (tx_inj (hc.trans rfl)) hbar
              · exact bp_p rfl
        · exact pout_fine l e exprA (fun x => bd_exprA 1 x) _
    · have hX := expect_x [40] (by simp) l e h40
      have hout : pout l e exprA (pPrim (l.map (·.2))) = .die (synV (pos l e)) := by
        rw [pPrim_bad hn h40]
        simp only [pout, cut_self]
      rw [hout]
      refine FnP.intro ?_ (by kernel_rfl) Tryd.func68 rfl rfl Tryd.ntmps68 (by exact Nat.le_of_ble_eq_true rfl) ?_; rotate_left; intro Γ hm
      · (repeat' (first | apply jA | apply jH | apply jI | apply jT | (refine wp_cond rfl (fun hc => ?_) (fun hc => ?_) <;> (try simp only [sB, ne_eq, reduceCtorEq] at hc) <;> (try (exfalso; omega))) | (refine WP.regionC (id := 0) ?_; (refine se_alloc rfl ?_); apply jW) | (refine WP.regionC (id := 1) ?_; (refine smove rfl ?_); (refine sc_o [0] rfl rfl (isname_fn _ _) (Lend.o1 rfl rfl (by (exact (renL_pure (by simp [AV.bd, bdL, bdL_append])).symm)) rfl (by simp [AV.bd, bdL, bdL_append]) (by simp [AV.bd, bdL, bdL_append])) ?_; simp only [updN, newO, AObj.ren, renL, AV.ren, apx, ap, if_true, if_false, Nat.reduceLT, Nat.reduceAdd, Nat.reduceSub, sO, intA, boolA, strA, ren_pkA, rdA, ren_toks]); apply jW) | (refine wpl_region (id := 3) ?_; (refine wpl_step rfl ?_; (refine smove rfl ?_); apply jW; ((refine wpl_x [0] rfl rfl (hX) (Lend.S (by first | ((repeat' first | exact RenL.nil | refine RenL.cons rfl ?_); done) | fail) (by first | ((repeat' first | exact LendO.nil | refine LendO.arr rfl (by (exact (renL_pure (by simp [AV.bd, bdL, bdL_append])).symm)) ?_); done) | fail) (by decide) rfl (by simp [AV.bd, bdL, bdL_append]) (by repeat' (first | exact True.intro | refine And.intro ?_ ?_ | simp [AV.bd, bdL, bdL_append]))) ?_))))))
        · exfalso; simp_all
        · exact bp_p rfl
      · trivial
theorem gp_exprs (n : Nat) : ∀ (l : List (Nat × Tx)) (e : Int), l.length ≤ n → l.length ≤ 1000000 → FnP Tryd.prog 55 [.ptr 0 2 0 0] [rdA l e] (pout l e exprA (pSeq (l.map (·.2)))) := by
  induction n with
  | zero =>
    intro l e hl hB
    refine gpseq_of l e hB fun l1 h1 => gpitem_of l1 e (gpprim_of l1 e (by have := h1.length_le; omega) fun l2 h2 h3 => ?_)
    have := h1.length_le; omega
  | succ n ih =>
    intro l e hl hB
    refine gpseq_of l e hB fun l1 h1 => gpitem_of l1 e (gpprim_of l1 e (by have := h1.length_le; omega) fun l2 h2 h3 => ih l2 e ?_ ?_)
    · have := h1.length_le; omega
    · have := h1.length_le; omega
theorem gpseq_fn (l : List (Nat × Tx)) (e : Int) (hB : l.length ≤ 1000000) : FnP Tryd.prog 55 [.ptr 0 2 0 0] [rdA l e] (pout l e exprA (pSeq (l.map (·.2)))) := gp_exprs _ l e (Nat.le_refl _) hB
end Go.Lg

namespace Go.Lg
set_option linter.unusedVariables false
theorem pName_suf (l : List Tx) : (pName l).rest <:+ l := by
  cases l with
  | nil => exact List.suffix_refl _
  | cons t r =>
    simp only [pName]
    split
    · exact List.suffix_cons _ _
    · exact List.suffix_refl _
theorem pName_lt {l : List Tx} {s : ByteArray} {r : List Tx} (h : pName l = .ok s r) : r.length < l.length := by
  cases l with
  | nil => cases h
  | cons t q =>
    simp only [pName] at h
    split at h
    · injection h with h1 h2; subst h2; simp
    · cases h
theorem pTake_suf (c : Tx) (l : List Tx) : (pTake c l).rest <:+ l := by
  cases l with
  | nil => exact List.suffix_refl _
  | cons t r =>
    simp only [pTake]
    split
    · exact List.suffix_cons _ _
    · exact List.suffix_refl _
theorem pTake_lt {c : Tx} {l : List Tx} {r : List Tx} (h : pTake c l = .ok () r) : r.length < l.length := by
  cases l with
  | nil => cases h
  | cons t q =>
    simp only [pTake] at h
    split at h
    · injection h with h1 h2; subst h2; simp
    · cases h
theorem pNames_suf : ∀ l : List Tx, (pNames l).2 <:+ l
  | [] => List.suffix_refl _
  | t :: r => by
    rw [pNames]
    split
    · exact suf_tail (pNames_suf r)
    · exact List.suffix_refl _
theorem pPrice_suf (l : List Tx) : (pPrice l).rest <:+ l := by
  unfold pPrice
  split
  · exact List.suffix_refl _
  · rename_i t r
    split
    · split
      · exact List.nil_suffix
      · split
        · exact suf_tail (List.suffix_cons _ _)
        · exact List.suffix_cons _ _
    · exact List.suffix_refl _
theorem pAlt_suf (l : List Tx) : (pAlt l).rest <:+ l := by
  have h1 := pItems_suf l
  unfold pAlt
  cases h : pItems l with
  | err q => rw [h] at h1; exact h1
  | ok xs r =>
    rw [h] at h1
    have h2 := pPrice_suf r
    simp only
    cases h3 : pPrice r with
    | err q => rw [h3] at h2; exact h2.trans h1
    | ok p q => rw [h3] at h2; exact h2.trans h1
def pLevel (a : Int) (l : List Tx) : PR GLe := match pName l with
  | .err q => .err q
  | .ok n r => match pTake [59] (pNames r).2 with
    | .err q => .err q
    | .ok _ q => .ok ⟨a, n :: (pNames r).1⟩ q
theorem pLevel_suf (a : Int) (l : List Tx) : (pLevel a l).rest <:+ l := by
  have h1 := pName_suf l
  unfold pLevel
  cases h : pName l with
  | err q => rw [h] at h1; exact h1
  | ok n r =>
    rw [h] at h1
    have h2 := pTake_suf [59] (pNames r).2
    simp only
    cases h3 : pTake [59] (pNames r).2 with
    | err q => rw [h3] at h2; exact (h2.trans (pNames_suf r)).trans h1
    | ok p q => rw [h3] at h2; exact (h2.trans (pNames_suf r)).trans h1
def finL (acc : List GLe) (l : List Tx) : PR (List GLe) := match pLevels l with
  | .err q => .err q
  | .ok ls q => .ok (acc ++ ls) q
theorem pLevels_nil : pLevels [] = .ok [] [] := by rw [pLevels]
theorem pLevels_cons (t : Tx) (r : List Tx) : pLevels (t :: r) = match assocOf t with
    | none => .ok [] (t :: r)
    | some a => match pLevel a r with
      | .err q => .err q
      | .ok x q => match pLevels q with
        | .err q => .err q
        | .ok ls q => .ok (x :: ls) q := by
  conv => lhs; rw [pLevels]
  cases assocOf t with
  | none => rfl
  | some a =>
    unfold pLevel
    cases h : pName r with
    | err q => rfl
    | ok n r1 =>
      simp only
      have h0 := pName_lt h
      have h1 := (pNames_suf r1).length_le
      cases h2 : pTake [59] (pNames r1).2 with
      | err q => rfl
      | ok u q =>
        have h3 := pTake_lt h2
        simp only
        rw [dif_pos (by simp only [List.length_cons]; omega)] <;> rfl
def asT (l : List Tx) : Option Int := match l with
  | [] => none
  | t :: _ => assocOf t
theorem finL_stop {acc : List GLe} {l : List Tx} (h : asT l = none) : finL acc l = .ok acc l := by
  cases l with
  | nil => simp [finL, pLevels_nil]
  | cons t r =>
    have h' : assocOf t = none := h
    simp [finL, pLevels_cons, h']
theorem finL_step {acc : List GLe} {t : Tx} {r : List Tx} {a : Int} (h : assocOf t = some a) : finL acc (t :: r) = match pLevel a r with
    | .err q => .err q
    | .ok x q => finL (acc ++ [x]) q := by
  simp only [finL, pLevels_cons, h]
  cases pLevel a r with
  | err q => rfl
  | ok x q =>
    simp only [finL]
    cases pLevels q with
    | err q => rfl
    | ok ls q => simp
theorem finL_nil (l : List Tx) : finL [] l = pLevels l := by unfold finL; cases pLevels l <;> rfl
def finR (acc : List GAl) (r : List Tx) : PR (List GAl) := match r with
  | [] => .ok acc []
  | t :: q => if t = [124] then (match pAltsR q with
    | .err q' => .err q'
    | .ok es q' => .ok (acc ++ es) q') else .ok acc (t :: q)
theorem pAltsR_eq (l : List Tx) : pAltsR l = match pAlt l with
    | .err q => .err q
    | .ok a q => finR [a] q := by
  conv => lhs; rw [pAltsR]
  cases h : pAlt l with
  | err q => rfl
  | ok xs q =>
    cases q with
    | nil => rfl
    | cons t q =>
      have h1 := (pAlt_suf l).length_le
      rw [h] at h1
      simp [PR.rest] at h1
      simp only [finR]
      split
      · rw [dif_pos (by omega)]; rfl
      · rfl
theorem finR_bar (acc : List GAl) (q : List Tx) : finR acc ([124] :: q) = match pAlt q with
    | .err q' => .err q'
    | .ok a q' => finR (acc ++ [a]) q' := by
  simp only [finR, if_true]
  rw [pAltsR_eq]
  cases h : pAlt q with
  | err q' => rfl
  | ok xs q' =>
    cases q' with
    | nil => rfl
    | cons t r =>
      simp only [finR]
      by_cases ht : t = [124]
      · simp only [if_pos ht]
        cases h2 : pAltsR r with
        | err q2 => rfl
        | ok es q2 => simp
      · simp only [if_neg ht]
theorem finR_stop {acc : List GAl} {l : List Tx} (h : hd l ≠ [124]) : finR acc l = .ok acc l := by
  cases l with
  | nil => rfl
  | cons t r => have h' : ¬ t = [124] := h; simp only [finR, if_neg h']
theorem pAltsR_suf (n : Nat) : ∀ l : List Tx, l.length ≤ n → (pAltsR l).rest <:+ l := by
  induction n with
  | zero =>
    intro l hl
    obtain rfl : l = [] := List.eq_nil_of_length_eq_zero (by omega)
    rw [pAltsR_eq]
    have h1 := pAlt_suf []
    cases h : pAlt [] with
    | err q => rw [h] at h1; exact h1
    | ok a q =>
      rw [h] at h1
      obtain rfl : q = [] := List.suffix_nil.1 h1
      exact List.suffix_refl _
  | succ n ih =>
    intro l hl
    rw [pAltsR_eq]
    have h1 := pAlt_suf l
    cases h : pAlt l with
    | err q => rw [h] at h1; exact h1
    | ok a q =>
      rw [h] at h1
      cases q with
      | nil => exact List.nil_suffix
      | cons t q =>
        have h2 := h1.length_le
        simp only [PR.rest, List.length_cons] at h2
        simp only [finR]
        split
        · have h3 := ih q (by omega)
          cases h4 : pAltsR q with
          | err q' => rw [h4] at h3; exact (suf_tail h3).trans h1
          | ok es q' => rw [h4] at h3; exact (suf_tail h3).trans h1
        · exact h1
theorem pRule_suf (l : List Tx) : (pRule l).rest <:+ l := by
  unfold pRule
  have h1 := pName_suf l
  cases e1 : pName l with
  | err q => rw [e1] at h1; exact h1
  | ok n r =>
    rw [e1] at h1
    have h2 := pTake_suf [61] r
    simp only
    cases e2 : pTake [61] r with
    | err q => rw [e2] at h2; exact h2.trans h1
    | ok u r1 =>
      rw [e2] at h2
      have h3 := pAltsR_suf _ r1 (Nat.le_refl _)
      simp only
      cases e3 : pAltsR r1 with
      | err q => rw [e3] at h3; exact (h3.trans h2).trans h1
      | ok ys r2 =>
        rw [e3] at h3
        have h4 := pTake_suf [59] r2
        simp only
        cases e4 : pTake [59] r2 with
        | err q => rw [e4] at h4; exact ((h4.trans h3).trans h2).trans h1
        | ok u r3 => rw [e4] at h4; exact ((h4.trans h3).trans h2).trans h1
theorem pRule_lt {l : List Tx} {x : GRu} {r : List Tx} (h : pRule l = .ok x r) : r.length < l.length := by
  unfold pRule at h
  cases e1 : pName l with
  | err q => rw [e1] at h; cases h
  | ok n r0 =>
    have h1 := pName_lt e1
    rw [e1] at h
    simp only at h
    cases e2 : pTake [61] r0 with
    | err q => rw [e2] at h; cases h
    | ok u r1 =>
      have h2 := pTake_lt e2
      rw [e2] at h
      have h3 := (pAltsR_suf _ r1 (Nat.le_refl _)).length_le
      simp only at h
      cases e3 : pAltsR r1 with
      | err q => rw [e3] at h; cases h
      | ok ys r2 =>
        rw [e3] at h h3
        simp only [PR.rest] at h h3
        cases e4 : pTake [59] r2 with
        | err q => rw [e4] at h; cases h
        | ok u r3 =>
          rw [e4] at h
          have h4 := pTake_lt e4
          injection h with h5 h6
          subst h6
          omega
def finU (acc : List GRu) (l : List Tx) : PR (List GRu) := match pRules l with
  | .err q => .err q
  | .ok xs q => .ok (acc ++ xs) q
theorem finU_nil (l : List Tx) : finU [] l = pRules l := by unfold finU; cases pRules l <;> rfl
theorem finU_stop (acc : List GRu) : finU acc [] = .ok acc [] := by
  have : pRules [] = .ok [] [] := by rw [pRules]
  simp [finU, this]
theorem finU_step (acc : List GRu) (t : Tx) (r : List Tx) : finU acc (t :: r) = match pRule (t :: r) with
    | .err q => .err q
    | .ok x q => finU (acc ++ [x]) q := by
  have h0 : pRules (t :: r) = match pRule (t :: r) with
      | .err q => .err q
      | .ok x q => match pRules q with
        | .err q' => .err q'
        | .ok xs q' => .ok (x :: xs) q' := by
    conv => lhs; rw [pRules]
    cases h : pRule (t :: r) with
    | err q => rfl
    | ok x q =>
      have := pRule_lt h
      simp only
      rw [dif_pos this] <;> rfl
  unfold finU
  rw [h0]
  cases h : pRule (t :: r) with
  | err q => rfl
  | ok x q =>
    simp only
    cases pRules q with
    | err q' => rfl
    | ok xs q' => simp
theorem pLevels_suf (n : Nat) : ∀ l : List Tx, l.length ≤ n → (pLevels l).rest <:+ l := by
  induction n with
  | zero =>
    intro l hl
    obtain rfl : l = [] := List.eq_nil_of_length_eq_zero (by omega)
    rw [pLevels_nil]; exact List.suffix_refl _
  | succ n ih =>
    intro l hl
    cases l with
    | nil => rw [pLevels_nil]; exact List.suffix_refl _
    | cons t r =>
      rw [pLevels_cons]
      cases assocOf t with
      | none => exact List.suffix_refl _
      | some a =>
        have h1 := pLevel_suf a r
        simp only
        cases h : pLevel a r with
        | err q => rw [h] at h1; exact suf_tail h1
        | ok x q =>
          rw [h] at h1
          simp only [PR.rest] at h1
          have hle := h1.length_le
          have h2 := ih q (by simp at hl; omega)
          simp only
          cases h3 : pLevels q with
          | err q' => rw [h3] at h2; exact suf_tail (h2.trans h1)
          | ok ls q' => rw [h3] at h2; exact suf_tail (h2.trans h1)
end Go.Lg

namespace Go.Lg
open Go.Proofs
set_option linter.unusedSimpArgs false
set_option linter.unusedVariables false
attribute [local irreducible] Ap Rq asemC WP RunD Ret Gq thenA inBlockA bodyQ noGotoA RqL RqP OpP
set_option maxHeartbeats 4000000
set_option maxRecDepth 20000
attribute [local simp] rdA pkA tokA toks_bd
def NumW (l : List (Nat × Tx)) : Prop := ∀ p, p ∈ l → isNum p.2 = true → 0 ≤ numV p.2
theorem NumW.suf {l l' : List (Nat × Tx)} (h : NumW l) (hs : l' <:+ l) : NumW l' := fun p hp => h p (hs.subset hp)
theorem tx_eq {t : Tx} {k : ByteArray} (h : tx t = k) : t = bl k := by rw [← h]; rfl
theorem gpalt_fn (l : List (Nat × Tx)) (e : Int) (hB : l.length ≤ 1000000) (hW : NumW l) : FnP Tryd.prog 42 [.ptr 0 2 0 0] [rdA l e] (pout l e altA (pAlt (l.map (·.2)))) := by
  have hsq := gpseq_fn l e hB
  cases hq : pItems (l.map (·.2)) with
  | err q =>
    have hX : FnX Tryd.prog 55 [.ptr 0 2 0 0] [rdA l e] (synV (pos (cut l q) e)) := hsq.dies (by simp only [pSeq, hq, pout])
    have hout : pout l e altA (pAlt (l.map (·.2))) = .die (synV (pos (cut l q) e)) := by simp only [pAlt, hq, pout]
    rw [hout]
    refine FnP.intro ?_ (by kernel_rfl) Tryd.func42 rfl rfl Tryd.ntmps42 (by exact Nat.le_of_ble_eq_true rfl) ?_; rotate_left; intro Γ hm
    · (repeat' (first | apply jA | apply jH | apply jT | (refine WP.regionC (id := 0) ?_; (refine se_alloc rfl ?_); apply jW) | (refine wpl_region (id := 1) ?_; (refine wpl_step rfl ?_; (refine smove rfl ?_); apply jW; ((refine wpl_x [0] rfl rfl (hX) (Lend.S (by first | ((repeat' first | exact RenL.nil | refine RenL.cons rfl ?_); done) | fail) (by first | ((repeat' first | exact LendO.nil | refine LendO.arr rfl (by (exact (renL_pure (by simp [AV.bd, bdL, bdL_append])).symm)) ?_); done) | fail) (by decide) rfl (by simp [AV.bd, bdL, bdL_append]) (by repeat' (first | exact True.intro | refine And.intro ?_ ?_ | simp [AV.bd, bdL, bdL_append]))) ?_))))))
      exact bp_p rfl
    · trivial
  | ok xs r =>
    have hr : r <:+ l.map (·.2) := by have := pItems_suf (l.map (·.2)); rw [hq] at this; exact this
    have hO : FnO Tryd.prog 55 [.ptr 0 2 0 0] [rdA l e] (exprA (seqOf xs)) [some (rdA (cut l r) e)] := hsq.oks (by simp only [pSeq, hq, pout])
    have hs1 := cut_suf l r
    have hm1 := cut_map hr
    generalize hl1 : cut l r = l1 at *
    have hpa : pAlt (l.map (·.2)) = match pPrice (l1.map (·.2)) with
        | .err q => .err q
        | .ok p q => .ok ⟨seqOf xs, p⟩ q := by rw [hm1]; simp only [pAlt, hq] <;> cases pPrice r <;> rfl
    by_cases hpr : hdT l1 = bl kw4
    · obtain ⟨p, l2, hl2, hp2⟩ := hdT_cons (by decide) hpr
      have hN : FnO Tryd.prog 39 [.ptr 0 2 0 0] [rdA l1 e] (tokA p) [some (rdA l2 e)] := by rw [hl2]; exact next_fn p l2 e
      have hs2 : l2 <:+ l := by rw [hl2] at hs1; exact (List.suffix_cons _ _).trans hs1
      have htx : tx (hdT l1) = kw4 := by rw [hpr, tx_bl]
      cases hnm : isNum (hdT l2) with
      | false =>
        have hpp : pPrice (l1.map (·.2)) = .err (l2.map (·.2)) := by
          rw [hl2, List.map_cons]
          cases l2 with
          | nil => simp only [pPrice, hp2, if_true, List.map_nil]
          | cons p2 l3 =>
            have : isNum p2.2 = false := hnm
            simp only [pPrice, hp2, if_true, List.map_cons, this, Bool.false_eq_true, if_false]
        have htk : tkNum (hdT l2) = -1 := by simp only [tkNum, hnm, Bool.false_eq_true, if_false]
        have hout : pout l e altA (pAlt (l.map (·.2))) = .die (synV (pos l2 e)) := by rw [hpa, hpp]; simp only [pout, cut_of hs2]
        rw [hout]
        refine FnP.intro ?_ (by kernel_rfl) Tryd.func42 rfl rfl Tryd.ntmps42 (by exact Nat.le_of_ble_eq_true rfl) ?_; rotate_left; intro Γ hm
        · (repeat' (first | apply jA | apply jH | apply jI | apply jT | (refine wp_cond rfl (fun hc => ?_) (fun hc => ?_) <;> (try simp only [sB, ne_eq, reduceCtorEq] at hc) <;> (try (exfalso; omega))) | (refine WP.regionC (id := 0) ?_; (refine se_alloc rfl ?_); apply jW) | (refine wpl_region (id := 1) ?_; (refine wpl_step rfl ?_; (refine smove rfl ?_); apply jW; ((refine wpl_step rfl ?_; (refine sc_o [0] rfl rfl (hO) (Lend.o1 rfl rfl (by (exact (renL_pure (by simp [AV.bd, bdL, bdL_append])).symm)) rfl (by simp [AV.bd, bdL, bdL_append]) (by simp [AV.bd, bdL, bdL_append])) ?_; simp only [updN, newO, AObj.ren, renL, AV.ren, apx, ap, if_true, if_false, Nat.reduceLT, Nat.reduceAdd, Nat.reduceSub, sO, intA, boolA, strA, rdA, ren_toks, ren_exprA]); apply jW; (refine wpl_step rfl ?_; (refine su (ap_build (RqP.cons (rq_p rfl rfl) (RqP.nil)) rfl) ?_); apply jW; (refine wpl_step rfl ?_; (refine se_alloc rfl ?_); apply jW; (refine wpl_step rfl ?_; (refine se_store_b rfl rfl rfl rfl ?_); apply jW; (apply jX)))))))) | (refine WP.regionC (id := 2) ?_; (refine smove rfl ?_); (refine sc_o [0] rfl rfl (peek_fn _ _) (Lend.o1 rfl rfl (by (exact (renL_pure (by simp [AV.bd, bdL, bdL_append])).symm)) rfl (by simp [AV.bd, bdL, bdL_append]) (by simp [AV.bd, bdL, bdL_append])) ?_; simp only [updN, newO, AObj.ren, renL, AV.ren, apx, ap, if_true, if_false, Nat.reduceLT, Nat.reduceAdd, Nat.reduceSub, sO, intA, boolA, strA, ren_pkA, rdA, ren_toks]); (refine su (afieldv rfl rfl) ?_); (refine seqs rfl rfl ?_); apply jW) | (refine wpl_region (id := 3) ?_; (refine wpl_step rfl ?_; (refine smove rfl ?_); apply jW; ((refine wpl_step rfl ?_; (refine sc_o [0] rfl rfl (hN) (Lend.o1 rfl rfl (by (exact (renL_pure (by simp [AV.bd, bdL, bdL_append])).symm)) rfl (by simp [AV.bd, bdL, bdL_append]) (by simp [AV.bd, bdL, bdL_append])) ?_; simp only [updN, newO, AObj.ren, renL, AV.ren, apx, ap, if_true, if_false, Nat.reduceLT, Nat.reduceAdd, Nat.reduceSub, sO, intA, boolA, strA, rdA, ren_toks]); apply jW; (apply jX))))) | (refine WP.regionC (id := 4) ?_; (refine smove rfl ?_); (refine sc_o [0] rfl rfl (peek_fn _ _) (Lend.o1 rfl rfl (by (exact (renL_pure (by simp [AV.bd, bdL, bdL_append])).symm)) rfl (by simp [AV.bd, bdL, bdL_append]) (by simp [AV.bd, bdL, bdL_append])) ?_; simp only [updN, newO, AObj.ren, renL, AV.ren, apx, ap, if_true, if_false, Nat.reduceLT, Nat.reduceAdd, Nat.reduceSub, sO, intA, boolA, strA, ren_pkA, rdA, ren_toks]); (refine su (afieldv rfl rfl) ?_); (refine slss rfl rfl ?_); apply jW) | (refine wpl_region (id := 5) ?_; (refine wpl_step rfl ?_; (refine smove rfl ?_); apply jW; ((refine wpl_x [0] rfl rfl (fail_fn l2 e) (Lend.S (by first | ((repeat' first | exact RenL.nil | refine RenL.cons rfl ?_); done) | fail) (by first | ((repeat' first | exact LendO.nil | refine LendO.arr rfl (by (exact (renL_pure (by simp [AV.bd, bdL, bdL_append])).symm)) ?_); done) | fail) (by decide) rfl (by simp [AV.bd, bdL, bdL_append]) (by repeat' (first | exact True.intro | refine And.intro ?_ ?_ | simp [AV.bd, bdL, bdL_append]))) ?_))))))
          · exact bp_p rfl
          · exact absurd htx hc
        · trivial
      | true =>
        obtain ⟨p2, l3, hl3⟩ : ∃ p2 l3, l2 = p2 :: l3 := by
          cases l2 with
          | nil => cases hnm
          | cons p2 l3 => exact ⟨_, _, rfl⟩
        have hn2 : isNum p2.2 = true := by rw [hl3] at hnm; exact hnm
        have hN2 : FnO Tryd.prog 39 [.ptr 0 2 0 0] [rdA l2 e] (tokA p2) [some (rdA l3 e)] := by rw [hl3]; exact next_fn p2 l3 e
        have hpp : pPrice (l1.map (·.2)) = .ok (numV p2.2) (l3.map (·.2)) := by
          rw [hl2, hl3]
          simp only [pPrice, hp2, if_true, List.map_cons, hn2]
        have h0 : 0 ≤ numV p2.2 := hW p2 (hs2.subset (by rw [hl3]; simp)) hn2
        have htk : tkNum (hdT l2) = numV p2.2 := by rw [hl3]; show tkNum p2.2 = _; simp only [tkNum, hn2, if_true]
        have htk2 : tkNum p2.2 = numV p2.2 := by simp only [tkNum, hn2, if_true]
        have hs3 : l3 <:+ l := by rw [hl3] at hs2; exact (List.suffix_cons _ _).trans hs2
        have hout : pout l e altA (pAlt (l.map (·.2))) = .ok (altA ⟨seqOf xs, tkNum p2.2⟩) [some (rdA l3 e)] := by rw [hpa, hpp, htk2]; simp only [pout, cut_of hs3]
        rw [hout]
        refine FnP.intro ?_ (by kernel_rfl) Tryd.func42 rfl rfl Tryd.ntmps42 (by exact Nat.le_of_ble_eq_true rfl) ?_; rotate_left; intro Γ hm
        · (repeat' (first | apply jA | apply jH | apply jI | apply jK | (refine wp_cond rfl (fun hc => ?_) (fun hc => ?_) <;> (try simp only [sB, ne_eq, reduceCtorEq] at hc) <;> (try (exfalso; omega))) | (refine WP.regionC (id := 0) ?_; (refine se_alloc rfl ?_); apply jW) | (refine WP.regionC (id := 1) ?_; (refine smove rfl ?_); (refine sc_o [0] rfl rfl (hO) (Lend.o1 rfl rfl (by (exact (renL_pure (by simp [AV.bd, bdL, bdL_append])).symm)) rfl (by simp [AV.bd, bdL, bdL_append]) (by simp [AV.bd, bdL, bdL_append])) ?_; simp only [updN, newO, AObj.ren, renL, AV.ren, apx, ap, if_true, if_false, Nat.reduceLT, Nat.reduceAdd, Nat.reduceSub, sO, intA, boolA, strA, rdA, ren_toks, ren_exprA]); (refine su (ap_build (RqP.cons (rq_p rfl rfl) (RqP.nil)) rfl) ?_); (refine se_alloc rfl ?_); (refine se_store_b rfl rfl rfl rfl ?_); apply jW) | (refine WP.regionC (id := 2) ?_; (refine smove rfl ?_); (refine sc_o [0] rfl rfl (peek_fn _ _) (Lend.o1 rfl rfl (by (exact (renL_pure (by simp [AV.bd, bdL, bdL_append])).symm)) rfl (by simp [AV.bd, bdL, bdL_append]) (by simp [AV.bd, bdL, bdL_append])) ?_; simp only [updN, newO, AObj.ren, renL, AV.ren, apx, ap, if_true, if_false, Nat.reduceLT, Nat.reduceAdd, Nat.reduceSub, sO, intA, boolA, strA, ren_pkA, rdA, ren_toks]); (refine su (afieldv rfl rfl) ?_); (refine seqs rfl rfl ?_); apply jW) | (refine WP.regionC (id := 3) ?_; (refine smove rfl ?_); (refine sc_o [0] rfl rfl (hN) (Lend.o1 rfl rfl (by (exact (renL_pure (by simp [AV.bd, bdL, bdL_append])).symm)) rfl (by simp [AV.bd, bdL, bdL_append]) (by simp [AV.bd, bdL, bdL_append])) ?_; simp only [updN, newO, AObj.ren, renL, AV.ren, apx, ap, if_true, if_false, Nat.reduceLT, Nat.reduceAdd, Nat.reduceSub, sO, intA, boolA, strA, rdA, ren_toks]); apply jW) | (refine WP.regionC (id := 4) ?_; (refine smove rfl ?_); (refine sc_o [0] rfl rfl (peek_fn _ _) (Lend.o1 rfl rfl (by (exact (renL_pure (by simp [AV.bd, bdL, bdL_append])).symm)) rfl (by simp [AV.bd, bdL, bdL_append]) (by simp [AV.bd, bdL, bdL_append])) ?_; simp only [updN, newO, AObj.ren, renL, AV.ren, apx, ap, if_true, if_false, Nat.reduceLT, Nat.reduceAdd, Nat.reduceSub, sO, intA, boolA, strA, ren_pkA, rdA, ren_toks]); (refine su (afieldv rfl rfl) ?_); (refine slss rfl rfl ?_); apply jW) | (refine WP.regionC (id := 6) ?_; (refine smove rfl ?_); (refine sc_o [0] rfl rfl (hN2) (Lend.o1 rfl rfl (by (exact (renL_pure (by simp [AV.bd, bdL, bdL_append])).symm)) rfl (by simp [AV.bd, bdL, bdL_append]) (by simp [AV.bd, bdL, bdL_append])) ?_; simp only [updN, newO, AObj.ren, renL, AV.ren, apx, ap, if_true, if_false, Nat.reduceLT, Nat.reduceAdd, Nat.reduceSub, sO, intA, boolA, strA, rdA, ren_toks]); (refine su (afieldv rfl rfl) ?_); (refine sfieldp rfl rfl rfl ?_); (refine se_store_b rfl rfl rfl rfl ?_); apply jW) | (refine WP.regionC (id := 7) ?_; (refine sloadpw rfl rfl rfl rfl ?_); (refine se_store_b rfl rfl rfl rfl ?_); apply jW)))
          · refine bp_r rfl ?_
            refine retO_L (x := altA ⟨seqOf xs, tkNum p2.2⟩) (k := 1) (os1 := [(0, some (rdA l3 e))]) (.cellT rfl rfl rfl rfl .nil) rfl ⟨[0], ToR.S rfl (by repeat' (first | exact rt_nil | refine rt_p rfl rfl (by first | (simp [AV.bd, bdL, bdL_append]; done) | fail) ?_)) (by repeat' (first | exact ro_nil | refine ro_p rfl (by first | exact rfl | fail) (by first | (simp [bdL, bdL_append, AV.bd]; done) | fail) ?_)) rfl rfl rfl (by (simp [bdT, AV.bd, bdL, bdL_append]; done)) (by repeat' (first | exact True.intro | refine And.intro ?_ ?_ | (simp [bdOq, bdL, bdL_append, AV.bd]; done))) (by exact Nat.le_of_ble_eq_true rfl)⟩ rfl
          · exact absurd htx hc
        · exact ⟨Nat.le_refl _, bd_altA 1 _⟩
    · have hpp : pPrice (l1.map (·.2)) = .ok 0 (l1.map (·.2)) := by
        cases l1 with
        | nil => rfl
        | cons p l2 => have h' : ¬ p.2 = bl kw4 := hpr; simp only [pPrice, List.map_cons, if_neg h']
      have hout : pout l e altA (pAlt (l.map (·.2))) = .ok (altA ⟨seqOf xs, 0⟩) [some (rdA l1 e)] := by rw [hpa, hpp]; simp only [pout, cut_of hs1]
      rw [hout]
      refine FnP.intro ?_ (by kernel_rfl) Tryd.func42 rfl rfl Tryd.ntmps42 (by exact Nat.le_of_ble_eq_true rfl) ?_; rotate_left; intro Γ hm
      · (repeat' (first | apply jA | apply jH | apply jI | apply jK | (refine wp_cond rfl (fun hc => ?_) (fun hc => ?_) <;> (try simp only [sB, ne_eq, reduceCtorEq] at hc) <;> (try (exfalso; omega))) | (refine WP.regionC (id := 0) ?_; (refine se_alloc rfl ?_); apply jW) | (refine WP.regionC (id := 1) ?_; (refine smove rfl ?_); (refine sc_o [0] rfl rfl (hO) (Lend.o1 rfl rfl (by (exact (renL_pure (by simp [AV.bd, bdL, bdL_append])).symm)) rfl (by simp [AV.bd, bdL, bdL_append]) (by simp [AV.bd, bdL, bdL_append])) ?_; simp only [updN, newO, AObj.ren, renL, AV.ren, apx, ap, if_true, if_false, Nat.reduceLT, Nat.reduceAdd, Nat.reduceSub, sO, intA, boolA, strA, rdA, ren_toks, ren_exprA]); (refine su (ap_build (RqP.cons (rq_p rfl rfl) (RqP.nil)) rfl) ?_); (refine se_alloc rfl ?_); (refine se_store_b rfl rfl rfl rfl ?_); apply jW) | (refine WP.regionC (id := 2) ?_; (refine smove rfl ?_); (refine sc_o [0] rfl rfl (peek_fn _ _) (Lend.o1 rfl rfl (by (exact (renL_pure (by simp [AV.bd, bdL, bdL_append])).symm)) rfl (by simp [AV.bd, bdL, bdL_append]) (by simp [AV.bd, bdL, bdL_append])) ?_; simp only [updN, newO, AObj.ren, renL, AV.ren, apx, ap, if_true, if_false, Nat.reduceLT, Nat.reduceAdd, Nat.reduceSub, sO, intA, boolA, strA, ren_pkA, rdA, ren_toks]); (refine su (afieldv rfl rfl) ?_); (refine seqs rfl rfl ?_); apply jW) | (refine WP.regionC (id := 7) ?_; (refine sloadpw rfl rfl rfl rfl ?_); (refine se_store_b rfl rfl rfl rfl ?_); apply jW)))
        · exact absurd (tx_eq hc) hpr
        · refine bp_r rfl ?_
          refine retO_L (x := altA ⟨seqOf xs, 0⟩) (k := 1) (os1 := [(0, some (rdA l1 e))]) (.cellT rfl rfl rfl rfl .nil) rfl ⟨[0], ToR.S rfl (by repeat' (first | exact rt_nil | refine rt_p rfl rfl (by first | (simp [AV.bd, bdL, bdL_append]; done) | fail) ?_)) (by repeat' (first | exact ro_nil | refine ro_p rfl (by first | exact rfl | fail) (by first | (simp [bdL, bdL_append, AV.bd]; done) | fail) ?_)) rfl rfl rfl (by (simp [bdT, AV.bd, bdL, bdL_append]; done)) (by repeat' (first | exact True.intro | refine And.intro ?_ ?_ | (simp [bdOq, bdL, bdL_append, AV.bd]; done))) (by exact Nat.le_of_ble_eq_true rfl)⟩ rfl
      · exact ⟨Nat.le_refl _, bd_altA 1 _⟩
end Go.Lg
