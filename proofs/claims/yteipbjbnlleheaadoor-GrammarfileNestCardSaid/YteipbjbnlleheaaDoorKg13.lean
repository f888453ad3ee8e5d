/-
  Part 13 of the proof of GrammarfileLinesCard: the logic over the model, the functions' contracts and the plain laws.
-/
import Derived.Test.YteipbjbnlleheaaDoorKg12
import Derived.Lib.ItoaLen

set_option linter.unusedSimpArgs false
set_option linter.unusedVariables false
set_option linter.unusedSectionVars false

/- Plain helps for the texts about grammar files. -/
namespace Go.Lg
open Go.Proofs

def letB (c : Int) : Bool := decide (97 ≤ c) && decide (c ≤ 122) || decide (65 ≤ c) && decide (c ≤ 90)
def digB (c : Int) : Bool := decide (48 ≤ c) && decide (c ≤ 57)
theorem range_all_succ {f : Nat → Bool} {k : Nat} (h : (List.range k).all f = true) (hf : f k = true) : (List.range (k + 1)).all f = true := by
  rw [List.range_succ, List.all_append, h]; simp [hf]
theorem range_all_no {f : Nat → Bool} {k n : Nat} (hk : k < n) (hf : f k = false) : (List.range n).all f = false := by
  rw [List.all_eq_false]; exact ⟨k, by simpa using hk, by simp [hf]⟩

/-- slices.IndexFunc over numbers -/
def indexP {α : Type} (p : α → Bool) (l : List α) : Int := match l.findIdx? p with
  | some i => i
  | none => -1
theorem indexP_at {α : Type} [Inhabited α] {p : α → Bool} {l : List α} {k : Nat} (hk : k < l.length) (h : (l.take k).any p = false) (hp : p (nth l k) = true) : indexP p l = k := by
  have : l.findIdx? p = some k := by
    rw [List.findIdx?_eq_some_iff_getElem]
    refine ⟨hk, by rwa [nth_eq hk] at hp, fun j hj => ?_⟩
    rw [List.any_eq_false] at h
    have := h l[j] (by rw [List.mem_take_iff_getElem]; exact ⟨j, by omega, rfl⟩)
    simpa using this
  simp [indexP, this]
theorem indexP_no {α : Type} {p : α → Bool} {l : List α} {k : Nat} (hk : l.length ≤ k) (h : (l.take k).any p = false) : indexP p l = -1 := by
  rw [List.take_of_length_le hk] at h
  have : l.findIdx? p = none := by rw [List.findIdx?_eq_none_iff]; intro x hx; rw [List.any_eq_false] at h; simpa using h x hx
  simp [indexP, this]
theorem indexP_any {α : Type} {p : α → Bool} {l : List α} : decide (0 ≤ indexP p l) = l.any p := by
  unfold indexP
  cases h : l.findIdx? p with
  | none => rw [List.findIdx?_eq_none_iff] at h; rw [show l.any p = false by rw [List.any_eq_false]; intro x hx; simp [h x hx]]; rfl
  | some i =>
    rw [List.findIdx?_eq_some_iff_getElem] at h
    obtain ⟨hi, hp, _⟩ := h
    rw [show l.any p = true by rw [List.any_eq_true]; exact ⟨_, List.getElem_mem hi, hp⟩]
    simp
theorem take_any_succ {α : Type} [Inhabited α] {l : List α} {f : α → Bool} {k : Nat} (hk : k < l.length) (h : (l.take k).any f = false) (hf : f (nth l k) = false) : (l.take (k + 1)).any f = false := by
  rw [take_succ_nth hk, List.any_append, h]; simp [hf]

theorem ret_2 {P : Program} {n M : Nat} {l : List (Nat × AV)} {os : List (Nat × Option AObj)} {a b : Tmp} {x y X : AV} (h1 : opq n l (.tmp a) = some x) (h2 : opq n l (.tmp b) = some y) (hx : x.bd 0 = true) (hy : y.bd 0 = true) (he : AV.tup [x, y] = X) : Ret P [.tmp a, .tmp b] X (S n l M os) := by
  subst he
  exact ret_many (.tmp h1 (.tmp h2 .nil)) (Nat.le_refl 2) (.cons (.reflp hx) (.cons (.reflp hy) .nil))
theorem nth_default {α : Type} [Inhabited α] {l : List α} {k : Nat} (h : l.length ≤ k) : nth l k = default := by simp [nth, List.getD, List.getElem?_eq_none h]
theorem take_eq_succ {α : Type} [Inhabited α] {a b : List α} {k : Nat} (ha : k < a.length) (hb : k < b.length) (h : a.take k = b.take k) (he : nth a k = nth b k) : a.take (k + 1) = b.take (k + 1) := by
  rw [take_succ_nth ha, take_succ_nth hb, h, he]
theorem eq_of_takes {α : Type} {a b : List α} {k : Nat} (hl : a.length = b.length) (hk : a.length ≤ k) (h : a.take k = b.take k) : a = b := by
  rwa [List.take_of_length_le hk, List.take_of_length_le (by omega)] at h

theorem nodup_nth {α : Type} [Inhabited α] {l : List α} (h : ∀ j, j < l.length → ∀ k, k < j → nth l k ≠ nth l j) : l.Nodup := by
  rw [List.nodup_iff_pairwise_ne, List.pairwise_iff_getElem]
  intro i j hi hj hij
  have := h j hj i hij
  rwa [nth_eq hi, nth_eq hj] at this
theorem not_nodup {α : Type} [Inhabited α] {l : List α} {k j : Nat} (hj : j < l.length) (hk : k < j) (h : nth l k = nth l j) : ¬ l.Nodup := by
  rw [List.nodup_iff_pairwise_ne, List.pairwise_iff_getElem]
  intro hp
  have := hp k j (by omega) hj hk
  rw [nth_eq (by omega), nth_eq hj] at h
  exact this h
theorem all_of_nth {α : Type} [Inhabited α] {l : List α} {f : α → Bool} (h : ∀ j, j < l.length → f (nth l j) = true) : l.all f = true := by
  rw [List.all_eq_true]; intro x hx
  obtain ⟨i, hi, rfl⟩ := List.getElem_of_mem hx
  have := h i hi
  rwa [nth_eq hi] at this

def bl (s : ByteArray) : List UInt8 := s.data.toList
def tx (l : List UInt8) : ByteArray := ⟨l.toArray⟩
@[simp] theorem bl_tx (l : List UInt8) : bl (tx l) = l := rfl
theorem tx_bl (s : ByteArray) : tx (bl s) = s := by obtain ⟨⟨l⟩⟩ := s; rfl
theorem bl_app (a b : ByteArray) : bl (a ++ b) = bl a ++ bl b := by simp [bl]
theorem tx_inj {a b : List UInt8} (h : tx a = tx b) : a = b := by have := congrArg bl h; simpa using this
theorem ba_ext {a b : ByteArray} (h : bl a = bl b) : a = b := by rw [← tx_bl a, ← tx_bl b, h]
theorem tx_app (a b : List UInt8) : tx a ++ tx b = tx (a ++ b) := ba_ext (by rw [bl_app]; rfl)
theorem tx_size (l : List UInt8) : (tx l).size = l.length := by simp [tx, ByteArray.size]
theorem bl_len (s : ByteArray) : (bl s).length = s.size := by simp [bl]

/-- names, each behind a space -/
def spaced (l : List ByteArray) : List UInt8 := (l.map fun x => 32 :: bl x).flatten
/-- a line: words with a space between them -/
def lineT (l : List ByteArray) : List UInt8 := Lib.join (l.map bl) [32] ++ [10]
theorem lineT_cons (h : ByteArray) (r : List ByteArray) : lineT (h :: r) = bl h ++ spaced r ++ [10] := by
  simp only [lineT, List.map_cons, Lib.join_cons, Lib.joinTail, spaced, List.map_map]
  rfl
theorem spaced_app (a b : List ByteArray) : spaced (a ++ b) = spaced a ++ spaced b := by simp [spaced]
theorem spaced_len {l : List ByteArray} {c : Nat} (h : ∀ x, x ∈ l → x.size ≤ c) : (spaced l).length ≤ l.length * (c + 1) := by
  induction l with
  | nil => simp [spaced]
  | cons x l ih =>
    have h1 := ih fun y hy => h y (by simp [hy])
    have h2 := h x (by simp)
    simp only [spaced, List.map_cons, List.flatten_cons, List.length_append, List.length_cons, bl_len] at h1 ⊢
    rw [Nat.add_mul]; omega
theorem lineT_len {l : List ByteArray} {c : Nat} (h : ∀ x, x ∈ l → x.size ≤ c) : (lineT l).length ≤ l.length * (c + 1) + 1 := by
  cases l with
  | nil => simp [lineT, Lib.join_nil]
  | cons x l =>
    rw [lineT_cons]
    have h1 := spaced_len (l := l) (c := c) fun y hy => h y (by simp [hy])
    have h2 := h x (by simp)
    simp only [List.length_append, List.length_cons, List.length_nil, bl_len]
    rw [Nat.add_mul]; omega


end Go.Lg

/-
  A region that draws its order and whose last operation comes behind all others in every order: that operation may be any (a call that lends).
-/
namespace Go.Lg
open Go.RowKit

section
variable {P : Program} {Γ : Cx} {a : Act} {w : World}
/-- One operation without a guard. -/
theorem asemC_one {ops : Array Oper} {s : St} {o : Oper} {K : St → Prop} {QQ : Exit → Act → World → Prop} (hg : o.guard = none) (h : SR Γ s a w) (hk : asemC P ops [o] s K) : o.wp P a w (fun a' w' => ∃ s', K s' ∧ SR Γ s' a' w') QQ := by
  simp only [asemC, hg] at hk
  rcases hk with hk | ⟨x, hx, hk⟩ | ⟨s1, hk, hs1⟩
  · exact exec_sound h hk fun s' a' w' hk' hs' => ⟨s', hk', hs'⟩
  · obtain ⟨ρ, hρ⟩ := h
    obtain ⟨v, hrun, hrv⟩ := pure_sound (P := P) hρ (e := []) rfl hx
    unfold Oper.wp
    rw [hrun]
    exact ⟨_, hk, ρ, by simpa using hρ.put o.dst hrv⟩
  · obtain ⟨v, w', hrun, hsr⟩ := hs1 Γ a w h
    unfold Oper.wp
    rw [hrun]
    exact ⟨_, hk, hsr⟩
end

def lastOk (ops : Array Oper) (m : Nat) : Bool := (List.range m).all fun i => bef ops i m

section
variable {P : Program} {Γ : Cx} {ops : Array Oper}
set_option maxHeartbeats 1000000 in
theorem WP.drawT {id : Nat} {l : List Oper} {o' : Oper} {s : St} {Q : Exit → St → Prop} (hm : P.follows .mixedOrders = true) (he : edgeOk (l ++ [o']).toArray = true) (hcl : closeOk (l ++ [o']).toArray = true) (hla : lastOk (l ++ [o']).toArray l.length = true) (hg' : o'.guard = none)
    (h : RunD P (l ++ [o']).toArray s.objs.length 0 l { s with objs := s.objs ++ List.replicate l.length none } [] fun rs s' => freeOk (l ++ [o']).toArray rs = true ∧ asemC P (l ++ [o']).toArray [o'] s' (Q .normal)) : WP P Γ (.region id (l ++ [o']).toArray true) Q s := by
  intro a w hs
  obtain ⟨ρ0, hs⟩ := hs
  obtain ⟨out, st, hst0, hsteps, rs, hrl, hrec, hfree, hQ⟩ := RunD.unpack l 0 _ [] h
  simp only [Nat.zero_add, List.nil_append] at hsteps hrec hfree hQ
  have hsize : (l ++ [o']).toArray.size = l.length + 1 := by simp
  have hget : ∀ i : Nat, i < l.length → (l ++ [o']).toArray[i]? = l[i]? := fun i hi => by simp [List.getElem?_append_left hi]
  have hgetL : (l ++ [o']).toArray[l.length]? = some o' := by simp
  generalize hops : (l ++ [o']).toArray = ops at *
  generalize hN : s.objs.length = N at *
  -- the text's run as acts
  let s0 : St := { s with objs := s.objs ++ List.replicate l.length none }
  let T := s.tmps.length
  let M := N + l.length
  have hlen0 : okLen T M s0 := ⟨rfl, by simp [s0, M, hN]⟩
  let act := actI ops N out
  have hstA : ∀ i, i ≤ l.length → st i = runTo act s0 (fun _ => true) i := by
    intro i
    induction i with
    | zero => intro _; exact hst0
    | succ i ih =>
      intro hi
      have ho : l[i]? = some l[i] := List.getElem?_eq_getElem (by omega)
      have := stepD_act (hsteps i _ ho)
      rw [this, ih (by omega), runTo_succ]
      simp only [if_true, act, actI, hget _ (Nat.lt_of_succ_le hi), ho, Option.bind_some]
  have hstC : ∀ i, i ≤ l.length → st i = runTo act s0 (fun j => decide (j < i)) l.length := fun i hi => by rw [hstA i hi, runTo_cut act s0 i l.length hi]
  let S (lst : Nat → Bool) : St := runTo act s0 lst l.length
  have hact : ∀ i x ℓ, okLen T M x → (act i x).at_ ℓ = (wvI ops N T M out i ℓ).getD (x.at_ ℓ) := fun i x ℓ hx => actI_at i x ℓ hx
  have hokk : ∀ i x, okLen T M x → okLen T M (act i x) := fun i x hx => actI_len i x hx
  have hSlen : ∀ lst, okLen T M (S lst) := fun lst => runTo_ok act (okLen T M) hokk hlen0 lst l.length
  -- two operations that write and name one place are ordered
  have hconf : ∀ i j ℓ, i < l.length → j < l.length → i ≠ j → (wvI ops N T M out i ℓ).isSome = true →
      (∀ oj, ops[j]? = some oj → match ℓ with | .tmp t => t ∈ namesOf ops oj | .obj id => id ∈ (recOf N j (st j) oj (out j)).wr ∨ id ∈ (recOf N j (st j) oj (out j)).rd) → bef ops i j = true ∨ bef ops j i = true := by
    intro i j ℓ hi hj hne hw hn
    have hoi : l[i]? = some l[i] := List.getElem?_eq_getElem hi
    have hoj : l[j]? = some l[j] := List.getElem?_eq_getElem hj
    have hn := hn l[j] (by rw [hget _ hj]; exact hoj)
    rcases free_spec hfree (by rw [hget _ hi]; exact hoi) (by rw [hget _ hj]; exact hoj) (hrec i _ hoi) (hrec j _ hoj) hne with h1 | h1 | ⟨h1, h2⟩
    · exact .inl h1
    · exact .inr h1
    · exfalso
      cases ℓ with
      | tmp t =>
        have := wv_tmp hw
        rw [hget _ hi, hoi] at this
        exact h1 t this hn
      | obj id =>
        obtain ⟨r, hr, hid⟩ := wv_obj hw
        have := h2 id (by rw [hr]; exact hid)
        exact hn.elim this.1 this.2
  -- the invariant
  let lst (listed : Array Bool) (i : Nat) : Bool := listed.getD i false
  let AL (listed : Array Bool) (id : Nat) : Prop := id < N ∨ ∃ i, i < l.length ∧ lst listed i = true ∧ id = N + i ∧ (out i).makes = true
  let Inv (listed : Array Bool) (a : Act) (w : World) : Prop := listed.size = l.length + 1 ∧ lst listed l.length = false ∧ (∀ j k, j < l.length → k < l.length → lst listed j = true → bef ops k j = true → lst listed k = true) ∧ ∃ ρ, SRa Γ (AL listed) ρ (S (lst listed)) a w
  let unl (listed : Array Bool) : Nat := ((List.range l.length).filter fun i => !listed.getD i true).length
  -- while the last one is not listed, something is ready
  have some_ready : ∀ listed a w, Inv listed a w → Region.ready .any ops listed = [] → False := by
    rintro listed a w ⟨hsz, hL, hdc, ρ, hsr⟩ hr
    have hall : ∀ n i, i < n → i < l.length → lst listed i = true := by
      intro n
      induction n with
      | zero => intro i hi; omega
      | succ n ih =>
        intro i hi hil
        by_cases hin : i < n
        · exact ih i hin hil
        · obtain rfl : i = n := by omega
          cases hl : lst listed i with
          | true => rfl
          | false =>
            exfalso
            have hoi : l[i]? = some l[i] := List.getElem?_eq_getElem hil
            have hmem : i ∈ Region.ready .any ops listed := by
              rw [mem_ready]
              refine ⟨by rw [getD_false (by omega)]; exact hl, l[i], by rw [hget _ hil]; exact hoi, fun e hee hb => ?_⟩
              have hon := (edge_spec he (by rw [hget _ hil]; exact hoi) hee hb).1
              exact ih e.on hon (by omega)
            rw [hr] at hmem
            simp at hmem
    have hmem : l.length ∈ Region.ready .any ops listed := by
      rw [mem_ready]
      refine ⟨by rw [getD_false (by omega)]; exact hL, o', hgetL, fun e hee hb => ?_⟩
      have hon := (edge_spec he hgetL hee hb).1
      exact hall (e.on + 1) e.on (by omega) hon
    rw [hr] at hmem
    simp at hmem
  have none_ready : ∀ listed : Array Bool, listed.size = l.length + 1 → (∀ i, i < l.length + 1 → lst listed i = true) → Region.ready .any ops listed = [] := by
    intro listed hsz hall
    cases hr : Region.ready .any ops listed with
    | nil => rfl
    | cons i rest =>
      exfalso
      have hmem : i ∈ Region.ready .any ops listed := by rw [hr]; simp
      obtain ⟨hl, o, ho, _⟩ := mem_ready.1 hmem
      have hil : i < l.length + 1 := by rw [← hsize]; exact (Array.getElem?_eq_some_iff.1 ho).1
      have := hall i hil
      simp only [lst] at this
      rw [getD_false (by omega), this] at hl
      cases hl
  have stop : ∀ fuel (listed : Array Bool) a w, listed.size = l.length + 1 → (∀ i, i < l.length + 1 → lst listed i = true) → (∃ s', Q .normal s' ∧ SR Γ s' a w) → wpAny P .any ops (fun e a' w' => ∃ s', Q e s' ∧ SR Γ s' a' w') fuel listed a w := by
    intro fuel listed a w hsz hall hq
    have hr := none_ready listed hsz hall
    cases fuel with
    | zero => exact ⟨hr, hq⟩
    | succ fuel => exact ⟨fun _ => hq, fun i hi => by rw [hr] at hi; simp at hi⟩
  have main : ∀ fuel listed a w, Inv listed a w → unl listed < fuel → wpAny P .any ops (fun e a' w' => ∃ s', Q e s' ∧ SR Γ s' a' w') fuel listed a w := by
    intro fuel
    induction fuel with
    | zero => intro listed a w hinv hu; omega
    | succ fuel ih =>
      intro listed a w hinv hu
      refine ⟨fun hr => (some_ready listed a w hinv hr).elim, fun i hi => ?_⟩
      obtain ⟨hl, o, ho, hed⟩ := mem_ready.1 hi
      have hil' : i < l.length + 1 := by rw [← hsize]; exact (Array.getElem?_eq_some_iff.1 ho).1
      obtain ⟨hsz, hL, hdc, ρ, hsr⟩ := hinv
      have hlst' : ∀ j, lst (listed.setIfInBounds i true) j = if j = i then true else lst listed j := by
        intro j
        by_cases hji : j = i
        · subst hji; simp [lst, Array.getD, hsz, hil']
        · simp only [lst]; rw [getD_set_ne false (fun e => hji e.symm), if_neg hji]
      have hpre : ∀ k, k < l.length → bef ops k i = true → lst listed k = true := by
        intro k hk hb
        obtain ⟨_, e, hee, hbb, hor⟩ := close_spec hcl ho (by omega) hb
        have hon := hed e hee hbb
        rcases hor with rfl | hor
        · exact hon
        · exact hdc e.on k (by have := (edge_spec he ho hee hbb).1; omega) hk hon hor
      by_cases hil : i = l.length
      · -- the last one
        subst hil
        rw [hgetL] at ho
        injection ho with ho
        subst ho
        have hall : ∀ k, k < l.length → lst listed k = true := fun k hk => hpre k hk (by
          unfold lastOk at hla
          rw [List.all_eq_true] at hla
          exact hla k (List.mem_range.2 hk))
        have hSt : S (lst listed) = st l.length := by
          rw [hstC l.length (Nat.le_refl _)]
          exact St.ext_at fun ℓ => runTo_same St.at_ act (wvI ops N T M out) (okLen T M) hact hokk hlen0 ℓ l.length fun i hi _ => by rw [hall i hi]; simp [hi]
        rw [hSt] at hsr
        have hlenst : (st l.length).objs.length = M := by rw [hstC l.length (Nat.le_refl _)]; exact (runTo_ok act (okLen T M) hokk hlen0 _ _).2
        have hSR : SR Γ (st l.length) a w := ⟨ρ, hsr.more (fun i hi => hsr.bound i hi) (fun i hi => hi)⟩
        unfold wpOp
        rw [hgetL]
        simp only
        rw [if_pos (by simp [Region.wanted, hg'])]
        refine .inl (Oper.wp_mono (fun a' w' hq => ?_) (asemC_one hg' hSR hQ))
        refine stop _ _ _ _ (by simp [hsz]) (fun k hk => ?_) hq
        rw [hlst']
        split
        · rfl
        · exact hall k (by omega)
      have hil : i < l.length := by omega
      have hlo : l[i]? = some o := by rw [← hget _ hil]; exact ho
      have hlf : lst listed i = false := by simp only [lst]; rw [← getD_false (by omega)]; exact hl
      have hL' : lst (listed.setIfInBounds i true) l.length = false := by rw [hlst', if_neg (by omega)]; exact hL
      have hpost : ∀ j, j < l.length → lst listed j = true → bef ops i j = true → False := fun j hj hlj hb => by
        have := hdc j i hj hil hlj hb
        rw [hlf] at this; cases this
      -- what the operation names reads as in the text's order
      have hagree : ∀ ℓ, (match ℓ with | .tmp t => t ∈ namesOf ops o | .obj id => id ∈ (recOf N i (st i) o (out i)).wr ∨ id ∈ (recOf N i (st i) o (out i)).rd) → (S (lst listed)).at_ ℓ = (st i).at_ ℓ := by
        intro ℓ hn
        rw [hstC i (by omega)]
        refine runTo_same St.at_ act (wvI ops N T M out) (okLen T M) hact hokk hlen0 ℓ l.length fun j hj hw => ?_
        by_cases hji : j = i
        · subst hji; simp [hlf]
        · rcases hconf j i ℓ hj hil hji hw (fun oj hoj => by rw [ho] at hoj; injection hoj with hoj; subst hoj; exact hn) with hb | hb
          · have h1 := hpre j hj hb
            have h2 := (close_spec hcl ho (by omega) hb).1
            simp [h1, h2]
          · have h1 : lst listed j = false := by
              cases hlj : lst listed j with
              | false => rfl
              | true => exact (hpost j hj hlj hb).elim
            obtain ⟨oj, hoj⟩ : ∃ oj, ops[j]? = some oj := ⟨l[j], by rw [hget _ hj]; exact List.getElem?_eq_getElem hj⟩
            have h2 := (close_spec hcl hoj (by omega) hb).1
            rw [h1, decide_eq_false (by omega)]
      have htmp : ∀ t, t ∈ namesOf ops o → (S (lst listed)).tmps[t]? = (st i).tmps[t]? := fun t ht => by have := hagree (.tmp t) ht; simpa [St.at_] using this
      have hop : ∀ x, x ∈ o.op.operands → (st i).op x = (S (lst listed)).op x := by
        intro x hx
        cases x with
        | tmp t => simp only [St.op, List.getD]; rw [htmp t (mem_names_op hx)]
        | _ => rfl
      have hyl : ∀ j want, o.guard = some (j, want) → yieldedA ops (S (lst listed)) j = yieldedA ops (st i) j := by
        intro j want hg
        unfold yieldedA
        cases hd : (ops[j]?).bind (·.dst) with
        | none => rfl
        | some t => simp only [Option.map_some, List.getD]; rw [htmp t (mem_names_guard hg hd)]
      have hys : ∀ j want, o.guard = some (j, want) → ((ops[j]?).bind (·.dst)).map (fun t => (S (lst listed)).tmps.getD t .any) = ((ops[j]?).bind (·.dst)).map (fun t => (st i).tmps.getD t .any) := by
        intro j want hg
        cases hd : (ops[j]?).bind (·.dst) with
        | none => rfl
        | some t => simp only [Option.map_some, List.getD]; rw [htmp t (mem_names_guard hg hd)]
      -- the act of the operation is the next state
      have hnext : act i (S (lst listed)) = S (lst (listed.setIfInBounds i true)) := by
        refine St.ext_at fun ℓ => ?_
        rw [hact i _ ℓ (hSlen _)]
        cases hw : wvI ops N T M out i ℓ with
        | none =>
          refine (runTo_same St.at_ act (wvI ops N T M out) (okLen T M) hact hokk hlen0 ℓ l.length fun j hj hwj => ?_)
          rw [hlst']
          by_cases hji : j = i
          · subst hji; rw [hw] at hwj; cases hwj
          · rw [if_neg hji]
        | some c =>
          refine (runTo_last St.at_ act (wvI ops N T M out) (okLen T M) hact hokk hlen0 (by rw [hlst']; simp) hw l.length hil fun j hij hj hlj => ?_).symm
          rw [hlst', if_neg (by omega)] at hlj
          cases hwj : wvI ops N T M out j ℓ with
          | none => rfl
          | some c' =>
            exfalso
            obtain ⟨oj, hoj⟩ : ∃ oj, ops[j]? = some oj := ⟨l[j], by rw [hget _ hj]; exact List.getElem?_eq_getElem hj⟩
            have hn : match (generalizing := false) ℓ with | .tmp t => t ∈ namesOf ops oj | .obj id => id ∈ (recOf N j (st j) oj (out j)).wr ∨ id ∈ (recOf N j (st j) oj (out j)).rd := by
              cases ℓ with
              | tmp t =>
                have := wv_tmp (by rw [hwj]; rfl : (wvI ops N T M out j (.tmp t)).isSome = true)
                rw [hoj] at this
                exact mem_names_dst this
              | obj id =>
                obtain ⟨r, hr, hid⟩ := wv_obj (by rw [hwj]; rfl : (wvI ops N T M out j (.obj id)).isSome = true)
                rw [hr]; exact .inl hid
            rcases hconf i j ℓ hil hj (by omega) (by rw [hw]; rfl) (fun oj' hoj' => by rw [hoj] at hoj'; injection hoj' with hoj'; subst hoj'; exact hn) with hb | hb
            · exact hpost j hj hlj hb
            · have := (close_spec hcl ho (by omega) hb).1; omega
      have hdc' : ∀ j k, j < l.length → k < l.length → lst (listed.setIfInBounds i true) j = true → bef ops k j = true → lst (listed.setIfInBounds i true) k = true := by
        intro j k hj hk hlj hb
        rw [hlst'] at hlj ⊢
        by_cases hki : k = i
        · simp [hki]
        · rw [if_neg hki]
          by_cases hji : j = i
          · subst hji; exact hpre k hk hb
          · rw [if_neg hji] at hlj; exact hdc j k hj hk hlj hb
      have hunl : unl (listed.setIfInBounds i true) < fuel := by
        have : unl (listed.setIfInBounds i true) < unl listed := by
          refine count_lt (i := i) (by simpa using hil) (fun x hx => ?_) (by simp [hl]) (by simp [Array.getD, hsz, hil'])
          by_cases hxi : x = i
          · subst hxi; simp [Array.getD, hsz, hil'] at hx
          · rw [getD_set_ne true (fun e => hxi e.symm)] at hx; exact hx
        omega
      have hstep := hsteps i o hlo
      have hdst : (ops[i]?).bind (·.dst) = o.dst := by rw [ho]; rfl
      have hnA : ¬ AL listed (N + i) := by
        rintro (h1 | ⟨j, _, hlj, hj, _⟩)
        · omega
        · obtain rfl : j = i := by omega
          rw [hlf] at hlj; cases hlj
      unfold wpOp
      rw [ho]
      simp only
      cases hout : out i with
      | skip =>
        rw [hout] at hstep
        obtain ⟨_, j, want, hg, hy⟩ := hstep
        have hy' : yielded ops a.tmps j ≠ some want := by
          rcases hy with hy | hy
          · rw [yielded_okA hsr (by rw [hyl j want hg]; exact hy : yieldedA ops (S (lst listed)) j = some (!want))]
            cases want <;> simp
          · exact skipped_okA hsr (by rw [hys j want hg]; exact hy)
        rw [if_neg (by simp [Region.wanted, hg, hy'])]
        refine ih _ _ _ ⟨by simp [hsz], hL', hdc', ρ, ?_⟩ hunl
        have hp := hsr.put o.dst (x := skA) (v := undef) (.cond (fun h => by simp at h) (fun _ => rfl))
        have : (S (lst listed)).put o.dst skA = S (lst (listed.setIfInBounds i true)) := by rw [← hnext]; simp [act, actI, actOut, hout, hdst]
        rw [this] at hp
        refine hp.conv fun id => ?_
        simp only [AL]
        constructor
        · rintro (h1 | ⟨j, hj, hlj, hid, hmk⟩)
          · exact .inl h1
          · exact .inr ⟨j, hj, by rw [hlst']; split; rfl; exact hlj, hid, hmk⟩
        · rintro (h1 | ⟨j, hj, hlj, hid, hmk⟩)
          · exact .inl h1
          · rw [hlst'] at hlj
            by_cases hji : j = i
            · subst hji; rw [hout] at hmk; cases hmk
            · rw [if_neg hji] at hlj; exact .inr ⟨j, hj, hlj, hid, hmk⟩
      | did r =>
        rw [hout] at hstep
        obtain ⟨_, hdoes, hgd⟩ := hstep
        have hwant : Region.wanted o (yielded ops a.tmps) = true := by
          cases hg : o.guard with
          | none => simp [Region.wanted, hg]
          | some p =>
            obtain ⟨j, want⟩ := p
            rw [hg] at hgd
            have hy' := yielded_okA hsr (by rw [hyl j want hg]; exact hgd : yieldedA ops (S (lst listed)) j = some want)
            simp [Region.wanted, hg, hy']
        rw [if_pos hwant]
        refine .inl ?_
        have hdoes' : Does P (N + i) (S (lst listed)) o r := by
          rcases hdoes with hr | ⟨c, f, g, first, cap, hcop, hcf, hfv, hspec, hbd, hnone⟩
          · refine .inl ?_
            rw [← hr]
            refine (aop_local hop (fun x hx id hid => ?_)).symm
            have hid' : id ∈ (recOf N i (st i) o (out i)).rd := by
              rw [hout]
              simp only [recOf, topIds, List.mem_filterMap]
              exact ⟨x, by simpa using hx, hid⟩
            have := hagree (.obj id) (.inr hid')
            simp only [St.at_, Cont.obj.injEq] at this
            simp only [St.look, this]
          · have hfm : f ∈ o.op.operands := by rw [hcop]; simp [Op.operands, Call.operands, hcf]
            have ham : c.args.toList.map (st i).op = c.args.toList.map (S (lst listed)).op := List.map_congr_left fun x hx => hop x (by rw [hcop]; simp only [Op.operands, Call.operands, hcf]; simp at hx ⊢; exact .inr hx)
            refine .inr ⟨c, f, g, first, cap, hcop, hcf, by rw [← hop f hfm]; exact hfv, ?_, ?_, hnone⟩
            · rw [← ham]; exact hspec
            · rw [← ham]; exact hbd
        refine does_sound hsr (by rw [(hSlen _).2]; simp only [M]; omega) hnA hdoes' ?_
        intro A' ρ' a' w' hA' hs'
        refine ih _ _ _ ⟨by simp [hsz], hL', hdc', ρ', ?_⟩ hunl
        have : ((S (lst listed)).eff (N + i) r.2).put o.dst r.1 = S (lst (listed.setIfInBounds i true)) := by rw [← hnext]; simp [act, actI, actOut, hout, hdst]
        rw [this] at hs'
        refine hs'.conv fun id => ?_
        rw [hA']
        simp only [AL]
        constructor
        · rintro ((h1 | ⟨j, hj, hlj, hid, hmk⟩) | ⟨hid, hmk⟩)
          · exact .inl h1
          · exact .inr ⟨j, hj, by rw [hlst']; split; rfl; exact hlj, hid, hmk⟩
          · exact .inr ⟨i, hil, by rw [hlst']; simp, hid, by rw [hout]; exact hmk⟩
        · rintro (h1 | ⟨j, hj, hlj, hid, hmk⟩)
          · exact .inl (.inl h1)
          · rw [hlst'] at hlj
            by_cases hji : j = i
            · subst hji; rw [hout] at hmk; exact .inr ⟨hid, hmk⟩
            · rw [if_neg hji] at hlj; exact .inl (.inr ⟨j, hj, hlj, hid, hmk⟩)
  refine wp_region_any hm (main ops.size (Array.replicate ops.size false) a _ ⟨by simp [hsize], by simp [lst, Array.getD], ?_, ρ0, ?_⟩ ?_)
  · intro j k _ _ hlj
    simp [lst, Array.getD] at hlj
  · have h0 : S (lst (Array.replicate ops.size false)) = s0 := by
      have : ∀ m, runTo act s0 (lst (Array.replicate ops.size false)) m = s0 := by
        intro m
        induction m with
        | zero => rfl
        | succ m ih =>
          rw [runTo_succ, ih]
          have : lst (Array.replicate ops.size false) m = false := by simp [lst, Array.getD]
          rw [this]; rfl
      exact this _
    rw [h0]
    have := (hs.extendN l.length).drawn (w.drawn + 1)
    refine this.conv fun id => ?_
    simp only [AL]
    constructor
    · exact .inl
    · rintro (h1 | ⟨j, _, hlj, _⟩)
      · exact h1
      · simp [lst, Array.getD] at hlj
  · simp only [unl, hsize]
    calc _ ≤ (List.range l.length).length := List.length_filter_le _ _
      _ = l.length := by simp
      _ < l.length + 1 := Nat.lt_succ_self _
end
end Go.Lg

/-
  Grammars as abstract values.
-/
namespace Go.Lg

structure Rul where
  head : Int
  body : List Int
  price : Int
  deriving DecidableEq
structure Gram where
  terms : List ByteArray
  nonterms : List ByteArray
  start : Int
  rules : List Rul
  deriving DecidableEq

def ruleA (r : Rul) : AV := .agg [intA r.head, intsA r.body, intA r.price]
def rulesA (l : List Rul) : AV := .sl 3 (l.map ruleA)
def gramA (g : Gram) : AV := .agg [strsA g.terms, strsA g.nonterms, intA g.start, rulesA g.rules]

@[simp] theorem bd_ruleA (n : Nat) (r : Rul) : (ruleA r).bd n = true := by simp [ruleA, AV.bd, bdL]
@[simp] theorem bdL_ruleA (n : Nat) (l : List Rul) : bdL n (l.map ruleA) = true := bdL_map (bd_ruleA n) l
@[simp] theorem bd_rulesA (n : Nat) (l : List Rul) : (rulesA l).bd n = true := bdL_ruleA n l
@[simp] theorem bd_gramA (n : Nat) (g : Gram) : (gramA g).bd n = true := by simp [gramA, AV.bd, bdL]
theorem renL_rules (π : Nat → Nat) (l : List Rul) : renL π (l.map ruleA) = l.map ruleA := renL_map (bd_ruleA 0) l
theorem fzL_rules (id k : Nat) (es : List AV) (l : List Rul) : fzL id k es (l.map ruleA) = l.map ruleA := fzL_map (bd_ruleA 0) l
/-- The bounds of a grammar's slices. -/
def Gram.fit (g : Gram) : Prop := g.terms.length ≤ 9223372036854775807 ∧ g.nonterms.length ≤ 9223372036854775807 ∧ g.rules.length ≤ 9223372036854775807 ∧ ∀ r, r ∈ g.rules → r.body.length ≤ 9223372036854775807
theorem lens_gramA (g : Gram) : (gramA g).lens ↔ g.fit := by
  simp [gramA, AV.lens, lensL, rulesA, lensL_map, ruleA, Gram.fit, intA]
instance : Inhabited Rul := ⟨⟨0, [], 0⟩⟩
instance : Inhabited Gram := ⟨⟨[], [], 0, []⟩⟩
section
variable {P : Program} {n M N i : Nat} {l : List (Nat × AV)} {os : List (Nat × Option AObj)} {a b : Operand} {d : Tmp} {ty : TypeId} {pos : String} {af : Array Edge} {ops : Array Oper} {rest : List Oper} {KK : List Rec → St → Prop} {K : St → Prop} {rs : List Rec}
/-- append of one rule -/
theorem se_app1R {L : List Rul} {h p : Int} {bd : List Int} {te tj : TI} {tx : TypeId} {bt id id2 len : Nat} [ht : TEl P ty te 3 bt] [h3 : TIc P tx tj] (hsh : (match tj.sh with | .int => false | _ => true) = true) (ha : opq n l a = some (.ref id 3 0 len)) (ho : lookq M os id = some (.arr 3 (L.map ruleA))) (hl : L.length = len)
    (hb : opq n l b = some (.ref id2 3 0 1)) (ho2 : lookq M os id2 = some (.arr 3 [.agg [intA h, intsA bd, intA p]])) (hz0 : (zeroA te).isSome = true) (hbt : Nat.beq bt 0 = false) (hr : (L.length + 1) * bt ≤ 140737488355328) {ty2 : TypeId} (hk : asemC P ops rest (S n ((d, .ref M 3 0 (L ++ [(⟨h, bd, p⟩ : Rul)]).length) :: l) (M + 1) ((M, some (.arr 3 ((L ++ [(⟨h, bd, p⟩ : Rul)]).map ruleA))) :: (id, none) :: os)) K) :
    asemC P ops (⟨some d, .call ⟨.builtin .append, #[a, b], #[ty, tx]⟩, ty2, pos, af, none⟩ :: rest) (S n l M os) K :=
  se_app1 (v := (⟨h, bd, p⟩ : Rul)) hsh ha ho hl hb ho2 hz0 hbt hr hk
theorem rd_app1R {L : List Rul} {h p : Int} {bd : List Int} {te tj : TI} {tx : TypeId} {bt id id2 len : Nat} [ht : TEl P ty te 3 bt] [h3 : TIc P tx tj] (hsh : (match tj.sh with | .int => false | _ => true) = true) (ha : opq n l a = some (.ref id 3 0 len)) (ho : lookq M os id = some (.arr 3 (L.map ruleA))) (hl : L.length = len)
    (hb : opq n l b = some (.ref id2 3 0 1)) (ho2 : lookq M os id2 = some (.arr 3 [.agg [intA h, intsA bd, intA p]])) (hz0 : (zeroA te).isSome = true) (hbt : Nat.beq bt 0 = false) (hr : (L.length + 1) * bt ≤ 140737488355328) {ty2 : TypeId}
    (hk : RunD P ops N (i + 1) rest (S n ((d, .ref (N + i) 3 0 (L ++ [(⟨h, bd, p⟩ : Rul)]).length) :: l) M ((N + i, some (.arr 3 ((L ++ [(⟨h, bd, p⟩ : Rul)]).map ruleA))) :: (id, none) :: os)) (rs ++ [⟨some d, [id, N + i], topq n l [a, b]⟩]) KK) :
    RunD P ops N i (⟨some d, .call ⟨.builtin .append, #[a, b], #[ty, tx]⟩, ty2, pos, af, none⟩ :: rest) (S n l M os) rs KK :=
  rd_app1 (v := (⟨h, bd, p⟩ : Rul)) hsh ha ho hl hb ho2 hz0 hbt hr hk
end
end Go.Lg

/-
  Literals of no element; what is appended to them.
-/
namespace Go.Lg
theorem ren_strsA (π : Nat → Nat) (l : List ByteArray) : (strsA l).ren π = strsA l := ren_pure (by simp [strsA, AV.bd])
theorem ren_intsA (π : Nat → Nat) (l : List Int) : (intsA l).ren π = intsA l := ren_pure (by simp [intsA, AV.bd])
section
variable {P : Program} {n M N i : Nat} {l : List (Nat × AV)} {os : List (Nat × Option AObj)} {a b : Operand} {d : Tmp} {ty : TypeId} {pos : String} {af : Array Edge} {ops : Array Oper} {rest : List Oper} {KK : List Rec → St → Prop} {K : St → Prop} {rs : List Rec}
theorem se_lit0 {te : TI} {k bt : Nat} [ht : TEl P ty te k bt] {ty2 : TypeId} (hk : asemC P ops rest (S n ((d, .ref M k 0 0) :: l) (M + 1) ((M, some (.arr k [])) :: os)) K) :
    asemC P ops (⟨some d, .buildSlice ty 0 #[], ty2, pos, af, none⟩ :: rest) (S n l M os) K := by
  obtain ⟨ti, el, g1, he, hs, g4, hsz, hbz⟩ := ht.h
  refine se_new (x := .ref M k 0 0) (by rintro c f h; cases h) ?_ hk
  have hb : buildSliceA te 0 [] = some (.arr k []) := by simp [buildSliceA, hsz]
  simp only [aop, g1, he, g4, Option.bind_some, Array.toList, List.map_nil, hb, Option.map_some, hsz]
theorem rd_lit0 {te : TI} {k bt : Nat} [ht : TEl P ty te k bt] {ty2 : TypeId} (hk : RunD P ops N (i + 1) rest (S n ((d, .ref (N + i) k 0 0) :: l) M ((N + i, some (.arr k [])) :: os)) (rs ++ [⟨some d, [N + i], topq n l (Op.operands (.buildSlice ty 0 #[])).toList⟩]) KK) :
    RunD P ops N i (⟨some d, .buildSlice ty 0 #[], ty2, pos, af, none⟩ :: rest) (S n l M os) rs KK := by
  obtain ⟨ti, el, g1, he, hs, g4, hsz, hbz⟩ := ht.h
  have hb : buildSliceA te 0 [] = some (.arr k []) := by simp [buildSliceA, hsz]
  refine rd (.ref (N + i) k 0 0, .new (.arr k [])) (by simp only [aop, g1, he, g4, Option.bind_some, Array.toList, List.map_nil, hb, Option.map_some, hsz]) ?_
  have : ((S n l M os).eff (N + i) (.new (.arr k []))).put (some d) (.ref (N + i) k 0 0) = S n ((d, .ref (N + i) k 0 0) :: l) M ((N + i, some (.arr k [])) :: os) := by
    simp only [St.eff, St.set, S, St.put, ol_set, tl_set]
  rw [this]; exact hk
/-- a whole slice appended to a literal of no element -/
theorem se_appE {te tj : TI} {tx : TypeId} {k bt id : Nat} {ys : List AV} [ht : TEl P ty te k bt] [h3 : TIc P tx tj] (hsh : (match tj.sh with | .int => false | _ => true) = true) (ha : opq n l a = some (.ref id k 0 0)) (ho : lookq M os id = some (.arr k []))
    (hb : opq n l b = some (.sl k ys)) (hz0 : (zeroA te).isSome = true) (hbt : Nat.beq bt 0 = false) (hr : ys.length * bt ≤ 140737488355328) {ty2 : TypeId} (hk : asemC P ops rest (S n ((d, .ref M k 0 ys.length) :: l) (M + 1) ((M, some (.arr k ys)) :: (id, none) :: os)) K) :
    asemC P ops (⟨some d, .call ⟨.builtin .append, #[a, b], #[ty, tx]⟩, ty2, pos, af, none⟩ :: rest) (S n l M os) K :=
  se_app (es := []) (ys := ys) hsh ha ho rfl hb (by obtain ⟨ti, el, g1, he, hs, g4, hsz, hbz⟩ := ht.h; simp [srcA, hsz]) hz0 hbt (by simpa using hr) hk
theorem rd_appE {te tj : TI} {tx : TypeId} {k bt id : Nat} {ys : List AV} [ht : TEl P ty te k bt] [h3 : TIc P tx tj] (hsh : (match tj.sh with | .int => false | _ => true) = true) (ha : opq n l a = some (.ref id k 0 0)) (ho : lookq M os id = some (.arr k []))
    (hb : opq n l b = some (.sl k ys)) (hz0 : (zeroA te).isSome = true) (hbt : Nat.beq bt 0 = false) (hr : ys.length * bt ≤ 140737488355328) {ty2 : TypeId}
    (hk : RunD P ops N (i + 1) rest (S n ((d, .ref (N + i) k 0 ys.length) :: l) M ((N + i, some (.arr k ys)) :: (id, none) :: os)) (rs ++ [⟨some d, [id, N + i], topq n l [a, b]⟩]) KK) :
    RunD P ops N i (⟨some d, .call ⟨.builtin .append, #[a, b], #[ty, tx]⟩, ty2, pos, af, none⟩ :: rest) (S n l M os) rs KK :=
  rd_app (es := []) (ys := ys) hsh ha ho rfl hb (by obtain ⟨ti, el, g1, he, hs, g4, hsz, hbz⟩ := ht.h; simp [srcA, hsz]) hz0 hbt (by simpa using hr) hk
end

section
variable {P : Program} {Γ : Cx} {c : Code} {Q : Exit → St → Prop} {n M : Nat} {l : List (Nat × AV)} {os : List (Nat × Option AObj)}
/-- A finished slice in one struct of several that lie in one object. -/
theorem wp_frzx {id k len : Nat} {α : Type} {f : α → AV} {L : List α} (ido m : Nat) {k' : Nat} (pre post : List AV) {cs : List AV} (hm : Γ.m = 0) (hid : Nat.beq id ido = false) (hob : lookq M os ido = some (.arr k' (pre ++ .agg cs :: post))) (h : cs[m]? = some (.ref id k 0 len)) (ho : lookq M os id = some (.arr k (L.map f))) (hl : L.length = len) (hb : ∀ x, (f x).bd 0 = true) (hk : ∀ x, (f x).cells.length = k)
    (hw : WP P Γ c Q (S n l M ((ido, some (.arr k' (pre ++ .agg (cs.set m (.sl k (L.map f))) :: post))) :: (id, none) :: os))) : WP P Γ c Q (S n l M os) := fun a w hs => by
  refine hw a w ?_
  obtain ⟨ρ, hs⟩ := hs
  have h1 := hs.kill id
  have hne : id ≠ ido := Nat.ne_of_beq_eq_false hid
  have hob' : ((S n l M os).set id none).live ido (.arr k' (pre ++ .agg cs :: post)) := by
    have := St.look_some.1 (by rw [S_look]; exact hob : (S n l M os).look ido = some (.arr k' (pre ++ .agg cs :: post)))
    simp only [St.live, St.set_objs] at this ⊢
    rw [List.getElem?_set_ne hne]; exact this
  have hwide : ∀ e, e ∈ pre ++ .agg cs :: post → e.cells.length = k' := by
    have := hs.obj ido _ (St.look_some.1 (by rw [S_look]; exact hob))
    cases hr : ρ ido with
    | none => rw [hr] at this; obtain ⟨_, h2⟩ := this.resolve_left (by simp); simp at h2
    | some b => rw [hr] at this; obtain ⟨_, _, _, _, h3, _⟩ := this; exact h3
  have hm1 : m < cs.length := (List.getElem?_eq_some_iff.1 h).1
  have hfl : flat (pre ++ .agg (cs.set m (.sl k (L.map f))) :: post) = (flat (pre ++ .agg cs :: post)).set ((flat pre).length + m) (.sl k (L.map f)) := by
    simp only [flat, List.flatMap_append, List.flatMap_cons, AV.cells]
    rw [List.set_append_right _ _ (by omega), Nat.add_sub_cancel_left, List.set_append_left _ _ hm1]
  have hat : (flat (pre ++ .agg cs :: post))[(flat pre).length + m]? = some (.ref id k 0 len) := by
    simp only [flat, List.flatMap_append, List.flatMap_cons, AV.cells]
    rw [List.getElem?_append_right (by omega), Nat.add_sub_cancel_left, List.getElem?_append_left hm1]; exact h
  have h2 := h1.recell hob' (es' := pre ++ .agg (cs.set m (.sl k (L.map f))) :: post) (by rw [hfl]; simp) (fun e he => by
      rcases List.mem_append.1 he with he | he
      · exact hwide e (by simp [he])
      · rcases List.mem_cons.1 he with rfl | he
        · have := hwide (.agg cs) (by simp)
          simpa [AV.cells] using this
        · exact hwide e (by simp [he])) (by simp) (fun j x y hx hy v hv => by
    rw [hfl, List.getElem?_set] at hy
    by_cases e : (flat pre).length + m = j
    · subst e
      rw [hat] at hx; injection hx with hx; subst hx
      simp only [if_true] at hy
      split at hy
      · injection hy with hy; subst hy
        exact hs.list hm (by rw [S_look]; exact ho) hl hb hk hv
      · cases hy
    · rw [if_neg e, hx] at hy; injection hy with hy; subst hy; exact hv)
  refine ⟨ρ, ?_⟩
  have e : (((S n l M os).set id none).set ido (some (.arr k' (pre ++ .agg (cs.set m (.sl k (L.map f))) :: post)))) = S n l M ((ido, some (.arr k' (pre ++ .agg (cs.set m (.sl k (L.map f))) :: post))) :: (id, none) :: os) := by simp [S, St.set, ol_set]
  rw [e] at h2
  simpa [S, ol_length] using h2
/-- The state in other words. -/
theorem wp_st (t : St) {s : St} (h0 : ∃ is, ToR Γ.m is s t) (h : WP P Γ c Q t) : WP P Γ c Q s := by
  obtain ⟨is, h0⟩ := h0; exact .toR is t h0 h
end
section
variable {P : Program} {n M : Nat} {l : List (Nat × AV)} {os : List (Nat × Option AObj)} {d t : Tmp} {ty : TypeId} {pos : String} {af : Array Edge} {ops : Array Oper} {rest : List Oper} {K : St → Prop} {j : Nat} {want b : Bool} {x : AV} {op : Op}
/-- A guarded operation that is known to run: a new object. -/
theorem sgt_new {o : AObj} (hd : (ops[j]?).bind (·.dst) = some t) (hv : opq n l (.tmp t) = some (.val (.bool b))) (hb : b = want) (hc : ∀ c f, op = .call c → c.callee ≠ .value f) (h : aop P (S n ((t, .val (.bool b)) :: l) M os).look M (S n ((t, .val (.bool b)) :: l) M os).op op = some (x, .new o))
    (hk : asemC P ops rest (S n ((d, x) :: (t, .val (.bool b)) :: l) (M + 1) ((M, some o) :: os)) K) : asemC P ops (⟨some d, op, ty, pos, af, some (j, want)⟩ :: rest) (S n l M os) K := by
  subst hb
  simp only [asemC]
  refine .inl ⟨b, ?_, fun _ => ?_, fun h => by cases b <;> cases h⟩
  · have hop := opq_op (M := M) (os := os) hv
    simp only [St.op] at hop
    simp only [yieldedA, hd, Option.map_some, hop]
  rw [hd, S_put]
  have hl : (S n ((t, .val (.bool b)) :: l) M os).objs.length = M := ol_length M os
  have hs : (S n ((t, .val (.bool b)) :: l) M os).after (some d) (x, .new o) = S n ((d, x) :: (t, .val (.bool b)) :: l) (M + 1) ((M, some o) :: os) := by
    simp only [St.after, S, St.put, ol_push, tl_set]
  unfold execA
  split
  · rename_i c hop
    simp only at hop
    split
    · rename_i f hf; exact absurd hf (hc c f hop)
    · exact ⟨_, by rw [hl, ← hop]; exact h, by rw [hs]; exact hk⟩
  · exact ⟨_, by rw [hl]; exact h, by rw [hs]; exact hk⟩
theorem sgt_lit {te : TI} {k m bt : Nat} {z : AV} {ps : Array (Nat × Operand)} {xs : List (Nat × AV)} {vs : List AV} (hd : (ops[j]?).bind (·.dst) = some t) (hg : opq n l (.tmp t) = some (.val (.bool b))) (hgb : b = want) [ht : TEl P ty te k bt] (hp : OpP n ((t, .val (.bool b)) :: l) ps.toList xs) (hv : seqv 0 xs = some vs) (hl : xs.length = m) (h0 : Nat.beq m 0 = false) (hbig : Nat.ble (m * k) 16777216 = true) (hzero : zeroA te = some z)
    (hc : (vs.all fun x => Nat.beq x.cells.length k && x.store) = true) {ty2 : TypeId} (hk : asemC P ops rest (S n ((d, .ref M k 0 m) :: (t, .val (.bool b)) :: l) (M + 1) ((M, some (.arr k vs)) :: os)) K) :
    asemC P ops (⟨some d, .buildSlice ty m ps, ty2, pos, af, some (j, want)⟩ :: rest) (S n l M os) K := by
  obtain ⟨ti, el, g1, he, hs, g4, hsz, hbz⟩ := ht.h
  refine sgt_new (x := .ref M k 0 m) hd hg hgb (by rintro c f h; cases h) ?_ hk
  have hp' := hp.get (M := M) (os := os)
  have hb : buildSliceA te m xs = some (.arr k vs) := by
    have hne : m ≠ 0 := Nat.ne_of_beq_eq_false h0
    simp only [buildSliceA, if_neg hne, hzero, Option.bind_some, hsz, if_pos (Nat.le_of_ble_eq_true hbig)]
    have := seqv_fill (k := k) (z := z) xs [] vs hv (fun x hx => by
      have := List.all_eq_true.1 hc x hx
      simp only [Bool.and_eq_true] at this
      exact ⟨Nat.eq_of_beq_eq_true this.1, this.2⟩)
    simp only [List.nil_append, hl] at this
    rw [this]; rfl
  simp only [aop, g1, he, g4, Option.bind_some, hp', hb, Option.map_some, hsz]
end
theorem ret_c {P : Program} {n : Nat} {l : List (Nat × AV)} {M : Nat} {os : List (Nat × Option AObj)} {a : Tmp} {ty : TypeId} {ti : TI} [hti : TIc P ty ti] {id k i j : Nat} {es : List AV} {y x X : AV} (h : opq n l (.tmp a) = some (.ptr id k i j)) (ho : lookq M os id = some (.arr k es)) (hi : es[i]? = some y) (hp : part ti y.cells j = some x)
    (hz : Fz (lookq M os) x X) : Ret P [.cell a ty] X (S n l M os) := by
  refine ⟨x, ?_, by rw [S_look']; exact hz⟩
  have := (ResL.cellT h ho hi hp .nil : ResL P n l M os [.cell a ty] [x]).ok
  simp only [resN, this, Option.map_some, tupA]
theorem Fz.rowL {look : Nat → Option AObj} {id k n : Nat} {es ys : List AV} (hlook : look id = some (.arr k es)) (hn : es.length = n) (hk : (ys.all fun e => Nat.beq e.cells.length k) = true) (h : FzL look es ys) : Fz look (.ref id k 0 n) (.sl k ys) := by
  have hz := h.fzs
  have hl := Fzs_len hz
  have e : (es.drop 0).take n = es := by rw [List.drop_zero, List.take_of_length_le (by omega)]
  refine Fz.ref' hlook (by omega) (by omega) (fun y hy => Nat.eq_of_beq_eq_true (List.all_eq_true.1 hk y hy)) fun i x y hx hy => ?_
  rw [e] at hx
  exact Fzs_get hz i x y hx hy
end Go.Lg

/- Steps: a drawn region with a tail, printed; a guard taken apart; an operation that is known not to run; pick with a known condition. -/
namespace Go.Lg
open Go.RowKit

section
variable {P : Program} {Γ : Cx} {n M : Nat} {l : List (Nat × AV)} {os : List (Nat × Option AObj)} {Q : Exit → St → Prop}
theorem wp_drawT {id : Nat} {L : List Oper} (k : Nat) (hm : P.follows .mixedOrders = true) (he : edgeOk L.toArray = true) (hcl : closeOk L.toArray = true) (hla : lastOk L.toArray k = true) (hlen : L.length = k + 1) (hg : ((L.drop k).all fun o => o.guard.isNone) = true)
    (h : RunD P L.toArray M 0 (L.take k) (S n l (M + k) ((List.range k).map (fun i => (M + i, (none : Option AObj))) ++ os)) [] fun rs s' => freeOk L.toArray rs = true ∧ asemC P L.toArray (L.drop k) s' (Q .normal)) : WP P Γ (.region id L.toArray true) Q (S n l M os) := by
  have hk : (L.take k).length = k := by rw [List.length_take]; omega
  obtain ⟨o', ho'⟩ : ∃ o', L.drop k = [o'] := by
    have : (L.drop k).length = 1 := by rw [List.length_drop]; omega
    exact List.length_eq_one_iff.1 this
  rw [ho'] at h hg
  have hL : L = L.take k ++ [o'] := by rw [← ho', List.take_append_drop]
  generalize L.take k = p at *
  subst hL
  have hM : (S n l M os).objs.length = M := ol_length M os
  refine WP.drawT hm he hcl (by rw [hk]; exact hla) (by simpa using hg) ?_
  rw [hM, hk]
  rw [S_more]
  exact h
theorem rd_tail {ops : Array Oper} {N i : Nat} {o : Oper} {s : St} {rs : List Rec} (hf : freeOk ops rs = true) (h : asemC P ops [o] s (Q .normal)) : RunD P ops N i [] s rs fun rs s' => freeOk ops rs = true ∧ asemC P ops [o] s' (Q .normal) := ⟨hf, h⟩
end
section
variable {P : Program} {n M : Nat} {l : List (Nat × AV)} {os : List (Nat × Option AObj)} {d t : Tmp} {ty : TypeId} {pos : String} {af : Array Edge} {ops : Array Oper} {rest : List Oper} {K : St → Prop} {j : Nat} {want p : Bool} {x : AV} {op : Op} {a b c : Operand}
theorem as_split {r0 : List Oper} (hg : opq n l (.tmp t) = some (.val (.bool p))) (h1 : p = true → asemC P ops r0 (S n ((t, .val (.bool true)) :: l) M os) K) (h2 : p = false → asemC P ops r0 (S n ((t, .val (.bool false)) :: l) M os) K) : asemC P ops r0 (S n l M os) K := by
  cases p with
  | true => have := h1 rfl; rwa [S_lit hg] at this
  | false => have := h2 rfl; rwa [S_lit hg] at this
theorem sk_no (ht : (ops[j]?).bind (·.dst) = some t) (hg : opq n l (.tmp t) = some (.val (.bool (!want)))) (hk : asemC P ops rest (S n ((d, .any) :: l) M os) K) : asemC P ops (⟨some d, op, ty, pos, af, some (j, want)⟩ :: rest) (S n l M os) K := by
  simp only [asemC]
  refine .inl ⟨!want, yielded_q ht hg, ?_, fun _ => ?_⟩
  · intro h; exact absurd h (by cases want <;> decide)
  rw [ht, S_put, S_lit hg, S_put]
  exact hk
theorem pk_t (hc : opq n l c = some (.val (.bool true))) (ha : opq n l a = some x) (hk : asemC P ops rest (S n ((d, x) :: l) M os) K) : asemC P ops (⟨some d, .pick c a b, ty, pos, af, none⟩ :: rest) (S n l M os) K := by
  simp only [asemC]
  refine .inl ⟨(x, .none), ?_, ?_⟩
  · simp only [aop, opq_op hc, opq_op ha, pickA, pure']
    split <;> simp_all
  · simp only [St.after, S_put]; exact hk
theorem pk_f (hc : opq n l c = some (.val (.bool false))) (hb : opq n l b = some x) (hk : asemC P ops rest (S n ((d, x) :: l) M os) K) : asemC P ops (⟨some d, .pick c a b, ty, pos, af, none⟩ :: rest) (S n l M os) K := by
  simp only [asemC]
  refine .inl ⟨(x, .none), ?_, ?_⟩
  · simp only [aop, opq_op hc, opq_op hb, pickA, pure']
    split <;> simp_all
  · simp only [St.after, S_put]; exact hk
end
end Go.Lg

/- grammarfile.letter, slices.Index, Contains, grammarfile.name; emendateref16.Name. -/
namespace Go.Lg
open Go.Proofs
set_option linter.unusedSimpArgs false
set_option linter.unusedVariables false
attribute [local irreducible] Ap Rq asemC WP RunD Ret Gq thenA inBlockA bodyQ noGotoA RqL RqP OpP
set_option maxHeartbeats 4000000

theorem letter_fn (c : Int) : Fn Tryd.prog 59 [.val (.int .u8 c)] (boolA (letB c)) := by
  refine Fn.intro (by exact rfl) (by kernel_rfl) Tryd.func59 rfl rfl Tryd.ntmps59 (by exact Nat.le_of_ble_eq_true rfl) ?_; intro Γ hm
  (repeat' (first | refine WP.seq ?_ | refine go_n ?_ | refine WP.ret ?_ | refine bo_r ?_ | (refine WP.regionC (id := 0) ?_; (refine su (ap_assign (by exact rq_p rfl rfl)) ?_); refine asemC_end ?_) | (refine WP.regionC (id := 1) ?_; (refine su (ap_move (by exact rq_p rfl rfl)) ?_); (refine su (ap_geq (by exact rq_p rfl rfl) (by exact rq_p rfl rfl)) ?_); (refine su (ap_move (by exact rq_p rfl rfl)) ?_); (refine sg (by exact gq_vt rfl rfl) (fun he => ap_move (by exact rq_p rfl rfl)) ?_); (refine sg (by exact gq_vt rfl rfl) (fun he => ap_leq (by exact rq_c rfl rfl) (by exact rq_p rfl rfl)) ?_); (refine su (ap_and (by exact rq_p rfl rfl) (by exact rq_c rfl rfl)) ?_); (refine su (ap_move (by exact rq_p rfl rfl)) ?_); (refine sg (by exact gq_vf rfl rfl) (fun he => ap_move (by exact rq_p rfl rfl)) ?_); (refine sg (by exact gq_vf rfl rfl) (fun he => ap_geq (by exact rq_c rfl rfl) (by exact rq_p rfl rfl)) ?_); (refine sg (by exact gq_vf rfl rfl) (fun he => ap_move (by exact rq_c rfl rfl)) ?_); (refine sg (by exact gq_ct rfl rfl) (fun he => ap_move (by exact rq_p rfl rfl)) ?_); (refine sg (by exact gq_ct rfl rfl) (fun he => ap_leq (by exact rq_c rfl rfl) (by exact rq_p rfl rfl)) ?_); (refine sg (by exact gq_vf rfl rfl) (fun he => ap_and (by exact rq_c rfl rfl) (by exact rq_c rfl rfl)) ?_); (refine su (ap_or (by exact rq_p rfl rfl) (by exact rq_c rfl rfl)) ?_); (refine su (ap_assign (by exact rq_p rfl rfl)) ?_); refine asemC_end ?_) | exact ret_eq (by exact rfl) (by exact rfl) rfl))

/-- the place of a name, or -1 -/
def idx (l : List ByteArray) (s : ByteArray) : Int := indexP (fun x => decide (s = x)) l
theorem index_fn (l : List ByteArray) (s : ByteArray) : Fn Tryd.prog 47 [strsA l, strA s] (intA (idx l s)) := by
  refine Fn.intro (by exact rfl) (by kernel_rfl) Tryd.func47 rfl rfl Tryd.ntmps47 (by exact Nat.le_of_ble_eq_true rfl) ?_; intro Γ hm
  refine wp_lens 0 rfl fun h0 => ?_
  rw [lens_strsA] at h0
  (repeat' (first | refine WP.seq ?_ | refine WP.block ?_ | refine go_n ?_ | (refine WP.regionC (id := 0) ?_; (refine su (ap_assign (by exact rq_p rfl rfl)) ?_); refine asemC_end ?_) | (refine WP.regionC (id := 1) ?_; (refine su (ap_move (by exact rq_p rfl rfl)) ?_); (refine su (ap_len_m (by exact rfl) (by exact rq_p rfl rfl)) ?_); (refine su (ap_move (by exact rq_p rfl rfl)) ?_); refine asemC_end ?_)))
  refine wp_loop (fun k => k ≤ l.length ∧ (l.take k).any (fun x => decide (s = x)) = false) (fun k => l.length - k) (fun k => (S 19 [(0, strsA l), (1, strA s), (7, intA (l.length : Nat)), (8, intA (k : Nat))] 0 [])) 0 ⟨[], ToR.S rfl (by repeat' (first | exact rt_nil | refine rt_e (by exact rfl) (by exact rfl) ?_ | refine rt_p (by exact rfl) (by exact rfl) (by first | (simp [AV.bd, bdL, bdL_append]; done) | fail) ?_)) (by repeat' (exact ro_nil)) (by decide) (by (rw [hm]; exact rfl)) (by exact rfl) (by (simp [bdT, AV.bd, bdL, bdL_append]; done)) (by repeat' (exact True.intro)) (by (rw [hm]; exact Nat.le_of_ble_eq_true rfl))⟩ ⟨Nat.zero_le _, rfl⟩ ?_
  rintro k ⟨hk, hall⟩
  (repeat' (first | refine WP.seq ?_ | refine WP.block ?_ | refine go_n ?_ | refine WP.skip ?_ | refine WP.exit ?_ | refine WP.ret ?_ | refine go_x ?_ | refine go_r ?_ | refine bl_n ?_ | refine bl_r ?_ | refine bl_x ?_ | refine bo_r ?_ | (refine wp_cond (by exact rfl) (fun hc => ?_) (fun hc => ?_) <;> (try simp only [decide_eq_true_eq, decide_eq_false_iff_not, Decidable.not_not, Bool.and_eq_true, Bool.or_eq_true, Bool.not_eq_true', Bool.not_eq_false', Bool.or_eq_false_iff, Bool.and_eq_false_iff, Int.not_lt, Int.not_le, reduceCtorEq, ne_eq, Bool.not_true, Bool.not_false, Bool.not_eq_true, Bool.not_eq_false] at hc) <;> (try (exfalso; omega))) | (refine WP.regionC (id := 2) ?_; (refine su (ap_lss (by exact rq_p rfl rfl) (by exact rq_p rfl rfl)) ?_); refine asemC_end ?_) | (refine WP.regionC (id := 3) ?_; (refine su (ap_move (by exact rq_p rfl rfl)) ?_); (refine su (ap_assign (by exact rq_p rfl rfl)) ?_); refine asemC_end ?_) | (refine WP.regionC (id := 4) ?_; (refine su (ap_move (by exact rq_p rfl rfl)) ?_); (refine su (ap_move (by exact rq_p rfl rfl)) ?_); (refine su (ap_move (by exact rq_p rfl rfl)) ?_); (refine su (ap_idx_n (by exact rq_p rfl rfl) (by exact rq_p rfl rfl) (by omega)) ?_); (refine su (ap_load_w (by exact rq_p rfl rfl) (by exact rfl)) ?_); (refine su (ap_eqs (by exact rq_p rfl rfl) (by exact rq_p rfl rfl)) ?_); refine asemC_end ?_) | (refine WP.regionC (id := 5) ?_; (refine su (ap_move (by exact rq_p rfl rfl)) ?_); (refine su (ap_assign (by exact rq_p rfl rfl)) ?_); refine asemC_end ?_) | (refine WP.regionC (id := 6) ?_; (refine su (ap_add (by exact rq_p rfl rfl) (by exact rq_p rfl rfl) (by exact inr_i64_of (by omega))) ?_); (refine su (ap_move (by exact rq_p rfl rfl)) ?_); refine asemC_end ?_) | (refine WP.regionC (id := 7) ?_; (refine su (ap_assign (by exact rq_p rfl rfl)) ?_); refine asemC_end ?_) | refine ret_i (by exact rfl) ?_))
  · exact (indexP_at (by omega) hall (by simp [hc])).symm
  · exact ⟨k + 1, ⟨by omega, by omega, take_any_succ (by omega) hall (by simp [hc])⟩, ⟨[], ToR.S rfl (by repeat' (first | exact rt_nil | refine rt_e (by exact rfl) (by exact rfl) ?_ | refine rt_p (by exact rfl) (by exact rfl) (by first | (simp [AV.bd, bdL, bdL_append]; done) | fail) ?_)) (by repeat' (exact ro_nil)) (by decide) (by (rw [hm]; exact rfl)) (by exact rfl) (by (simp [bdT, AV.bd, bdL, bdL_append]; done)) (by repeat' (exact True.intro)) (by (rw [hm]; exact Nat.le_of_ble_eq_true rfl))⟩⟩
  · exact (indexP_no (by omega) hall).symm
theorem containsS_fn (l : List ByteArray) (s : ByteArray) : Fn Tryd.prog 23 [strsA l, strA s] (boolA (l.any fun x => decide (s = x))) := by
  refine Fn.intro (by exact rfl) (by kernel_rfl) Tryd.func23 rfl rfl Tryd.ntmps23 (by exact Nat.le_of_ble_eq_true rfl) ?_; intro Γ hm
  (repeat' (first | refine WP.seq ?_ | refine go_n ?_ | refine WP.ret ?_ | refine bo_r ?_ | (refine WP.regionC (id := 0) ?_; (refine su (ap_assign (by exact rq_p rfl rfl)) ?_); refine asemC_end ?_) | (refine WP.regionC (id := 1) ?_; (refine su (ap_move (by exact rq_p rfl rfl)) ?_); (refine su (ap_move (by exact rq_p rfl rfl)) ?_); (refine sc_p rfl rfl (by first | ((repeat' first | exact SubL.nil | refine SubL.cons ?_ ?_ | exact Sub.refl); done) | fail) (by first | (simp [bdL, bdL_append, AV.bd]; done) | fail) (index_fn _ _) ?_); (refine su (ap_geq (by exact rq_p rfl rfl) (by exact rq_p rfl rfl)) ?_); (refine su (ap_assign (by exact rq_p rfl rfl)) ?_); refine asemC_end ?_) | refine ret_b (by exact rfl) ?_))
  exact indexP_any

def kw0 : ByteArray := ⟨#[115, 116, 97, 114, 116]⟩
def kw1 : ByteArray := ⟨#[108, 101, 102, 116]⟩
def kw2 : ByteArray := ⟨#[114, 105, 103, 104, 116]⟩
def kw3 : ByteArray := ⟨#[110, 111, 110, 101]⟩
def kw4 : ByteArray := ⟨#[112, 114, 105, 99, 101]⟩
def kws : List ByteArray := [kw0, kw1, kw2, kw3, kw4]
/-- the i-th byte of a name -/
def gnCh (s : ByteArray) (i : Nat) : Bool := letB (bAt s i) || (!decide (i = 0) && (digB (bAt s i) || decide (bAt s i = 95)))
/-- a name of a grammar file -/
def gnOk (s : ByteArray) : Bool := decide (1 ≤ s.size) && decide (s.size ≤ 24) && (List.range s.size).all (gnCh s) && !kws.any (fun x => decide (s = x))
theorem size_zero {s : ByteArray} (hs : s.size = 0) : s = ⟨#[]⟩ := by
  obtain ⟨⟨l⟩⟩ := s
  have : l = [] := List.eq_nil_of_length_eq_zero (by simpa [ByteArray.size] using hs)
  subst this; rfl
theorem gnOk_no0 {s : ByteArray} (h : letB (bAt s 0) = false) : gnOk s = false := by
  by_cases h0 : s.size = 0
  · simp [gnOk, h0]
  · have : gnCh s 0 = false := by simp [gnCh, h]
    simp only [gnOk, range_all_no (k := 0) (n := s.size) (by omega) this, Bool.and_false, Bool.false_and]

theorem rname_fn (x : ByteArray) (hx : x.size ≤ 9223372036854775807) : Fn Tryd.prog 24 [strA x] (boolA (gnOk x)) := by
  refine Fn.intro (by exact rfl) (by kernel_rfl) Tryd.func24 rfl rfl Tryd.ntmps24 (by exact Nat.le_of_ble_eq_true rfl) ?_; intro Γ hm
  (repeat' (first | refine WP.seq ?_ | refine WP.block ?_ | refine go_n ?_ | (refine WP.regionC (id := 0) ?_; (refine su (ap_assign (by exact rq_p rfl rfl)) ?_); refine asemC_end ?_) | (refine WP.regionC (id := 1) ?_; (refine su (ap_assign (by exact rq_p rfl rfl)) ?_); refine asemC_end ?_)))
  refine wp_loop (fun k => k ≤ x.size ∧ (List.range k).all (gnCh x) = true) (fun k => x.size - k) (fun k => (S 84 [(0, strA x), (3, intA (k : Nat))] 0 [])) 0 ⟨[], ToR.S rfl (by repeat' (first | exact rt_nil | refine rt_e (by exact rfl) (by exact rfl) ?_)) (by repeat' (exact ro_nil)) (by decide) (by (rw [hm]; exact rfl)) (by exact rfl) (by (simp [bdT, AV.bd, bdL, bdL_append]; done)) (by repeat' (exact True.intro)) (by (rw [hm]; exact Nat.le_of_ble_eq_true rfl))⟩ ⟨Nat.zero_le _, rfl⟩ ?_
  rintro k ⟨hk, hall⟩
  have hb := bAt_bd x k
  (repeat' (first | refine WP.seq ?_ | refine WP.block ?_ | refine go_n ?_ | refine WP.skip ?_ | refine WP.exit ?_ | refine WP.ret ?_ | refine go_x ?_ | refine go_r ?_ | refine bl_n ?_ | refine bl_r ?_ | refine bl_x ?_ | refine bo_r ?_ | (refine wp_cond (by exact rfl) (fun hc => ?_) (fun hc => ?_) <;> (try simp only [decide_eq_true_eq, decide_eq_false_iff_not, Decidable.not_not, Bool.and_eq_true, Bool.or_eq_true, Bool.not_eq_true', Bool.not_eq_false', Bool.or_eq_false_iff, Bool.and_eq_false_iff, Int.not_lt, Int.not_le, reduceCtorEq, ne_eq, Bool.not_true, Bool.not_false, Bool.not_eq_true, Bool.not_eq_false] at hc) <;> (try (exfalso; omega))) | (refine WP.regionC (id := 2) ?_; (refine su (ap_move (by exact rq_p rfl rfl)) ?_); (refine su (ap_move (by exact rq_p rfl rfl)) ?_); (refine su (ap_len_str (by exact rfl) (by exact rq_p rfl rfl)) ?_); (refine su (ap_lss (by exact rq_p rfl rfl) (by exact rq_p rfl rfl)) ?_); refine asemC_end ?_) | (refine WP.regionC (id := 4) ?_; (refine su (ap_move (by exact rq_p rfl rfl)) ?_); (refine su (ap_move (by exact rq_p rfl rfl)) ?_); (refine su (ap_sidx_n (by exact rq_p rfl rfl) (by exact rq_p rfl rfl) (by exact rfl) (by omega)) ?_); (refine su (ap_geq (by exact rq_p rfl rfl) (by exact rq_p rfl rfl)) ?_); (refine su (ap_move (by exact rq_p rfl rfl)) ?_); (refine sg (by exact gq_vt rfl rfl) (fun he => ap_move (by exact rq_p rfl rfl)) ?_); (refine sg (by exact gq_vt rfl rfl) (fun he => ap_move (by exact rq_p rfl rfl)) ?_); (refine sg (by exact gq_vt rfl rfl) (fun he => ap_sidx_n (by exact rq_c rfl rfl) (by exact rq_c rfl rfl) (by exact rfl) (by (try simp only [List.all_cons, List.all_append, List.all_nil, id, Bool.and_true, decide_eq_true_eq, decide_eq_false_iff_not, Decidable.not_not, Bool.and_eq_true, Bool.or_eq_true, Bool.not_eq_true', Bool.not_eq_false', Bool.or_eq_false_iff, Bool.and_eq_false_iff, Int.not_lt, Int.not_le, reduceCtorEq, ne_eq, Bool.not_true, Bool.not_false, Bool.not_eq_true, Bool.not_eq_false] at he); omega)) ?_); (refine sg (by exact gq_vt rfl rfl) (fun he => ap_leq (by exact rq_c rfl rfl) (by exact rq_p rfl rfl)) ?_); (refine su (ap_and (by exact rq_p rfl rfl) (by exact rq_c rfl rfl)) ?_); (refine su (ap_move (by exact rq_p rfl rfl)) ?_); (refine sg (by exact gq_vf rfl rfl) (fun he => ap_move (by exact rq_p rfl rfl)) ?_); (refine sg (by exact gq_vf rfl rfl) (fun he => ap_move (by exact rq_p rfl rfl)) ?_); (refine sg (by exact gq_vf rfl rfl) (fun he => ap_sidx_n (by exact rq_c rfl rfl) (by exact rq_c rfl rfl) (by exact rfl) (by (try simp only [List.all_cons, List.all_append, List.all_nil, id, Bool.and_true, decide_eq_true_eq, decide_eq_false_iff_not, Decidable.not_not, Bool.and_eq_true, Bool.or_eq_true, Bool.not_eq_true', Bool.not_eq_false', Bool.or_eq_false_iff, Bool.and_eq_false_iff, Int.not_lt, Int.not_le, reduceCtorEq, ne_eq, Bool.not_true, Bool.not_false, Bool.not_eq_true, Bool.not_eq_false] at he); omega)) ?_); (refine sg (by exact gq_vf rfl rfl) (fun he => ap_geq (by exact rq_c rfl rfl) (by exact rq_p rfl rfl)) ?_); (refine sg (by exact gq_vf rfl rfl) (fun he => ap_move (by exact rq_c rfl rfl)) ?_); (refine sg (by exact gq_ct rfl rfl) (fun he => ap_move (by exact rq_p rfl rfl)) ?_); (refine sg (by exact gq_ct rfl rfl) (fun he => ap_move (by exact rq_p rfl rfl)) ?_); (refine sg (by exact gq_ct rfl rfl) (fun he => ap_sidx_n (by exact rq_c rfl rfl) (by exact rq_c rfl rfl) (by exact rfl) (by (try simp only [List.all_cons, List.all_append, List.all_nil, id, Bool.and_true, decide_eq_true_eq, decide_eq_false_iff_not, Decidable.not_not, Bool.and_eq_true, Bool.or_eq_true, Bool.not_eq_true', Bool.not_eq_false', Bool.or_eq_false_iff, Bool.and_eq_false_iff, Int.not_lt, Int.not_le, reduceCtorEq, ne_eq, Bool.not_true, Bool.not_false, Bool.not_eq_true, Bool.not_eq_false] at he); omega)) ?_); (refine sg (by exact gq_ct rfl rfl) (fun he => ap_leq (by exact rq_c rfl rfl) (by exact rq_p rfl rfl)) ?_); (refine sg (by exact gq_vf rfl rfl) (fun he => ap_and (by exact rq_c rfl rfl) (by exact rq_c rfl rfl)) ?_); (refine su (ap_or (by exact rq_p rfl rfl) (by exact rq_c rfl rfl)) ?_); (refine su (ap_assign (by exact rq_p rfl rfl)) ?_); refine asemC_end ?_) | (refine WP.regionC (id := 5) ?_; (refine su (ap_move (by exact rq_p rfl rfl)) ?_); (refine su (ap_not (by exact rq_p rfl rfl)) ?_); (refine su (ap_move (by exact rq_p rfl rfl)) ?_); (refine sg (by exact gq_vt rfl rfl) (fun he => ap_move (by exact rq_p rfl rfl)) ?_); (refine sg (by exact gq_vt rfl rfl) (fun he => ap_eql (by exact rq_c rfl rfl) (by exact rq_p rfl rfl)) ?_); (refine sg (by exact gq_vt rfl rfl) (fun he => ap_move (by exact rq_c rfl rfl)) ?_); (refine sg (by exact gq_cf rfl rfl) (fun he => ap_move (by exact rq_p rfl rfl)) ?_); (refine sg (by exact gq_cf rfl rfl) (fun he => ap_move (by exact rq_p rfl rfl)) ?_); (refine sg (by exact gq_cf rfl rfl) (fun he => ap_sidx_n (by exact rq_c rfl rfl) (by exact rq_c rfl rfl) (by exact rfl) (by (try simp only [List.all_cons, List.all_append, List.all_nil, id, Bool.and_true, decide_eq_true_eq, decide_eq_false_iff_not, Decidable.not_not, Bool.and_eq_true, Bool.or_eq_true, Bool.not_eq_true', Bool.not_eq_false', Bool.or_eq_false_iff, Bool.and_eq_false_iff, Int.not_lt, Int.not_le, reduceCtorEq, ne_eq, Bool.not_true, Bool.not_false, Bool.not_eq_true, Bool.not_eq_false] at he); omega)) ?_); (refine sg (by exact gq_cf rfl rfl) (fun he => ap_lss (by exact rq_c rfl rfl) (by exact rq_p rfl rfl)) ?_); (refine sg (by exact gq_cf rfl rfl) (fun he => ap_move (by exact rq_c rfl rfl)) ?_); (refine sg (by exact gq_cf rfl rfl) (fun he => ap_move (by exact rq_p rfl rfl)) ?_); (refine sg (by exact gq_cf rfl rfl) (fun he => ap_move (by exact rq_p rfl rfl)) ?_); (refine sg (by exact gq_cf rfl rfl) (fun he => ap_sidx_n (by exact rq_c rfl rfl) (by exact rq_c rfl rfl) (by exact rfl) (by (try simp only [List.all_cons, List.all_append, List.all_nil, id, Bool.and_true, decide_eq_true_eq, decide_eq_false_iff_not, Decidable.not_not, Bool.and_eq_true, Bool.or_eq_true, Bool.not_eq_true', Bool.not_eq_false', Bool.or_eq_false_iff, Bool.and_eq_false_iff, Int.not_lt, Int.not_le, reduceCtorEq, ne_eq, Bool.not_true, Bool.not_false, Bool.not_eq_true, Bool.not_eq_false] at he); omega)) ?_); (refine sg (by exact gq_cf rfl rfl) (fun he => ap_gtr (by exact rq_c rfl rfl) (by exact rq_p rfl rfl)) ?_); (refine sg (by exact gq_cf rfl rfl) (fun he => ap_or (by exact rq_c rfl rfl) (by exact rq_c rfl rfl)) ?_); (refine sg (by exact gq_cf rfl rfl) (fun he => ap_move (by exact rq_c rfl rfl)) ?_); (refine sg (by exact gq_ct rfl rfl) (fun he => ap_move (by exact rq_p rfl rfl)) ?_); (refine sg (by exact gq_ct rfl rfl) (fun he => ap_move (by exact rq_p rfl rfl)) ?_); (refine sg (by exact gq_ct rfl rfl) (fun he => ap_sidx_n (by exact rq_c rfl rfl) (by exact rq_c rfl rfl) (by exact rfl) (by (try simp only [List.all_cons, List.all_append, List.all_nil, id, Bool.and_true, decide_eq_true_eq, decide_eq_false_iff_not, Decidable.not_not, Bool.and_eq_true, Bool.or_eq_true, Bool.not_eq_true', Bool.not_eq_false', Bool.or_eq_false_iff, Bool.and_eq_false_iff, Int.not_lt, Int.not_le, reduceCtorEq, ne_eq, Bool.not_true, Bool.not_false, Bool.not_eq_true, Bool.not_eq_false] at he); omega)) ?_); (refine sg (by exact gq_ct rfl rfl) (fun he => ap_neq (by exact rq_c rfl rfl) (by exact rq_p rfl rfl)) ?_); (refine sg (by exact gq_cf rfl rfl) (fun he => ap_and (by exact rq_c rfl rfl) (by exact rq_c rfl rfl)) ?_); (refine sg (by exact gq_vt rfl rfl) (fun he => ap_or (by exact rq_c rfl rfl) (by exact rq_c rfl rfl)) ?_); (refine su (ap_and (by exact rq_p rfl rfl) (by exact rq_c rfl rfl)) ?_); refine asemC_end ?_) | (refine WP.regionC (id := 6) ?_; (refine su (ap_assign (by exact rq_p rfl rfl)) ?_); refine asemC_end ?_) | (refine WP.regionC (id := 3) ?_; (refine su (ap_move (by exact rq_p rfl rfl)) ?_); (refine su (ap_add (by exact rq_p rfl rfl) (by exact rq_p rfl rfl) (by exact inr_i64_of (by omega))) ?_); (refine su (ap_assign (by exact rq_p rfl rfl)) ?_); refine asemC_end ?_) | (refine WP.regionC (id := 7) ?_; (refine su (ap_move (by exact rq_p rfl rfl)) ?_); (refine su (ap_nes (by exact rq_p rfl rfl) (by exact rq_p rfl rfl)) ?_); (refine su (ap_move (by exact rq_p rfl rfl)) ?_); (refine sg (by exact gq_vt rfl rfl) (fun he => ap_move (by exact rq_p rfl rfl)) ?_); (refine sg (by exact gq_vt rfl rfl) (fun he => ap_len_str (by exact rfl) (by exact rq_c rfl rfl)) ?_); (refine sg (by exact gq_vt rfl rfl) (fun he => ap_leq (by exact rq_c rfl rfl) (by exact rq_p rfl rfl)) ?_); (refine su (ap_and (by exact rq_p rfl rfl) (by exact rq_c rfl rfl)) ?_); (refine su (ap_move (by exact rq_p rfl rfl)) ?_); (refine sg (by exact gq_vt rfl rfl) (fun he => ap_move (by exact rq_p rfl rfl)) ?_); (refine sg (by exact gq_vt rfl rfl) (fun he => ap_nes (by exact rq_c rfl rfl) (by exact rq_p rfl rfl)) ?_); (refine su (ap_and (by exact rq_p rfl rfl) (by exact rq_c rfl rfl)) ?_); (refine su (ap_move (by exact rq_p rfl rfl)) ?_); (refine sg (by exact gq_vt rfl rfl) (fun he => ap_move (by exact rq_p rfl rfl)) ?_); (refine sg (by exact gq_vt rfl rfl) (fun he => ap_nes (by exact rq_c rfl rfl) (by exact rq_p rfl rfl)) ?_); (refine su (ap_and (by exact rq_p rfl rfl) (by exact rq_c rfl rfl)) ?_); (refine su (ap_move (by exact rq_p rfl rfl)) ?_); (refine sg (by exact gq_vt rfl rfl) (fun he => ap_move (by exact rq_p rfl rfl)) ?_); (refine sg (by exact gq_vt rfl rfl) (fun he => ap_nes (by exact rq_c rfl rfl) (by exact rq_p rfl rfl)) ?_); (refine su (ap_and (by exact rq_p rfl rfl) (by exact rq_c rfl rfl)) ?_); (refine su (ap_move (by exact rq_p rfl rfl)) ?_); (refine sg (by exact gq_vt rfl rfl) (fun he => ap_move (by exact rq_p rfl rfl)) ?_); (refine sg (by exact gq_vt rfl rfl) (fun he => ap_nes (by exact rq_c rfl rfl) (by exact rq_p rfl rfl)) ?_); (refine su (ap_and (by exact rq_p rfl rfl) (by exact rq_c rfl rfl)) ?_); (refine su (ap_move (by exact rq_p rfl rfl)) ?_); (refine sg (by exact gq_vt rfl rfl) (fun he => ap_move (by exact rq_p rfl rfl)) ?_); (refine sg (by exact gq_vt rfl rfl) (fun he => ap_nes (by exact rq_c rfl rfl) (by exact rq_p rfl rfl)) ?_); (refine su (ap_and (by exact rq_p rfl rfl) (by exact rq_c rfl rfl)) ?_); (refine su (ap_assign (by exact rq_p rfl rfl)) ?_); refine asemC_end ?_) | refine ret_b (by exact rfl) ?_))
  · rw [show gnOk x = false by simp only [gnOk]; rw [range_all_no (k := k) (by omega), Bool.and_false, Bool.false_and]; simp [gnCh, letB, digB]; omega]
  · refine ⟨k + 1, ⟨by omega, by omega, range_all_succ hall ?_⟩, ⟨[], ToR.S rfl (by repeat' (first | exact rt_nil | refine rt_e (by exact rfl) (by exact rfl) ?_)) (by repeat' (exact ro_nil)) (by decide) (by (rw [hm]; exact rfl)) (by exact rfl) (by (simp [bdT, AV.bd, bdL, bdL_append]; done)) (by repeat' (exact True.intro)) (by (rw [hm]; exact Nat.le_of_ble_eq_true rfl))⟩⟩
    simp [gnCh, letB, digB]; omega
  have : k = x.size := by omega
  subst this
  rw [Bool.eq_iff_iff]
  have e0 : x = ⟨#[]⟩ ↔ x.size = 0 := ⟨fun h => by rw [h]; rfl, size_zero⟩
  simp only [gnOk, hall, kws, kw0, kw1, kw2, kw3, kw4, List.any_cons, List.any_nil, Bool.or_false, Bool.not_or, Bool.and_eq_true, Bool.not_eq_true', decide_eq_true_eq, decide_eq_false_iff_not, and_true, e0]
  constructor
  · rintro ⟨⟨⟨⟨⟨⟨h1, h2⟩, h3⟩, h4⟩, h5⟩, h6⟩, h7⟩; exact ⟨⟨by omega, by omega⟩, h3, h4, h5, h6, h7⟩
  · rintro ⟨⟨h1, h2⟩, h3, h4, h5, h6, h7⟩; exact ⟨⟨⟨⟨⟨⟨by omega, by omega⟩, h3⟩, h4⟩, h5⟩, h6⟩, h7⟩

theorem name_fn (s : ByteArray) : Fn Tryd.prog 46 [strA s] (boolA (gnOk s)) := by
  refine Fn.intro (by exact rfl) (by kernel_rfl) Tryd.func46 rfl rfl Tryd.ntmps46 (by exact Nat.le_of_ble_eq_true rfl) ?_; intro Γ hm
  by_cases hs : s.size = 0
  · have e0 := size_zero hs
    (repeat' (first | refine WP.seq ?_ | refine WP.block ?_ | refine go_n ?_ | refine WP.skip ?_ | refine WP.ret ?_ | refine go_r ?_ | refine bo_r ?_ | (refine wp_cond (by exact rfl) (fun hc => ?_) (fun hc => ?_) <;> (try simp only [decide_eq_true_eq, decide_eq_false_iff_not, Decidable.not_not, Bool.and_eq_true, Bool.or_eq_true, Bool.not_eq_true', Bool.not_eq_false', Bool.or_eq_false_iff, Bool.and_eq_false_iff, Int.not_lt, Int.not_le, reduceCtorEq, ne_eq, Bool.not_true, Bool.not_false, Bool.not_eq_true, Bool.not_eq_false] at hc) <;> (try (exfalso; omega))) | (refine WP.regionC (id := 0) ?_; (refine su (ap_assign (by exact rq_p rfl rfl)) ?_); refine asemC_end ?_) | (refine WP.regionC (id := 1) ?_ <;> (refine su (ap_move (by exact rq_p rfl rfl)) ?_) <;> (refine su (ap_eqs (by exact rq_p rfl rfl) (by exact rq_p rfl rfl)) ?_) <;> (refine su (ap_move (by exact rq_p rfl rfl)) ?_) <;> (refine sg (by exact gq_vf rfl rfl) (fun he => ap_move (by exact rq_p rfl rfl)) ?_) <;> (refine sg (by exact gq_vf rfl rfl) (fun he => ap_len_str (by exact rfl) (by exact rq_c rfl rfl)) ?_) <;> (refine sg (by exact gq_vf rfl rfl) (fun he => ap_gtr (by exact rq_c rfl rfl) (by exact rq_p rfl rfl)) ?_) <;> (refine su (ap_or (by exact rq_p rfl rfl) (by exact rq_c rfl rfl)) ?_) <;> (refine su (ap_move (by exact rq_p rfl rfl)) ?_) <;> (refine sg (by exact gq_vf rfl rfl) (fun he => ap_move (by exact rq_p rfl rfl)) ?_) <;> (refine sg (by exact gq_vf rfl rfl) (fun he => ap_sidx_n (by exact rq_c rfl rfl) (by exact rq_p rfl rfl) (by exact rfl) (by (try simp only [List.all_cons, List.all_append, List.all_nil, id, Bool.and_true, decide_eq_true_eq, decide_eq_false_iff_not, Decidable.not_not, Bool.and_eq_true, Bool.or_eq_true, Bool.not_eq_true', Bool.not_eq_false', Bool.or_eq_false_iff, Bool.and_eq_false_iff, Int.not_lt, Int.not_le, reduceCtorEq, ne_eq, Bool.not_true, Bool.not_false, Bool.not_eq_true, Bool.not_eq_false] at he); (exfalso; simp [*] at he; done))) ?_) <;> (refine sg_p (by exact gq_vf rfl rfl) (fun he => ⟨(by exact rq_p rfl rfl), (RqL.cons (by exact rq_c rfl rfl) (RqL.nil)), (by first | ((repeat' first | exact SubL.nil | refine SubL.cons ?_ ?_ | exact Sub.refl); done) | fail), (by first | (simp [bdL, bdL_append, AV.bd]; done) | fail), letter_fn _⟩) ?_) <;> (refine sg (by exact gq_vf rfl rfl) (fun he => ap_not (by exact rq_c rfl rfl)) ?_) <;> (refine su (ap_or (by exact rq_p rfl rfl) (by exact rq_c rfl rfl)) ?_) <;> (refine su (ap_move (by exact rq_p rfl rfl)) ?_) <;> ((refine as_split (t := 17) (by exact rfl) (fun hc => ?_) (fun hc => ?_) <;> (try simp only [decide_eq_true_eq, decide_eq_false_iff_not, Decidable.not_not, Bool.and_eq_true, Bool.or_eq_true, Bool.not_eq_true', Bool.not_eq_false', Bool.or_eq_false_iff, Bool.and_eq_false_iff, Int.not_lt, Int.not_le, reduceCtorEq, ne_eq, Bool.not_true, Bool.not_false, Bool.not_eq_true, Bool.not_eq_false] at hc) <;> (try (exfalso; omega)) <;> (first | refine sgt_lit (by exact rfl) (by exact rfl) (by exact rfl) (OpP.cons (by exact rfl) (OpP.cons (by exact rfl) (OpP.cons (by exact rfl) (OpP.cons (by exact rfl) (OpP.cons (by exact rfl) (OpP.nil)))))) (by exact rfl) (by exact rfl) (by exact rfl) (by exact rfl) (by exact rfl) (by exact rfl) ?_ | refine sk_no (by exact rfl) (by exact rfl) ?_))) <;> (refine sg (by exact gq_vf rfl rfl) (fun he => ap_move (by exact rq_p rfl rfl)) ?_) <;> (first | refine sk_no (by exact rfl) (by exact rfl) ?_ | refine sg_b (by exact gq_vf rfl rfl) (fun he => ⟨(by exact rq_p rfl rfl), (RqL.cons (by exact rq_p rfl rfl) (RqL.cons (by exact rq_c rfl rfl) (RqL.nil))), (by first | ((repeat' first | exact FzL.nil | refine FzL.cons ?_ ?_ | (exact Fz.list (by exact rfl) (by exact rfl) (fun _ => by simp [AV.bd, bdL, bdL_append]) (fun _ => rfl)) | (exact Fz.reflp (by simp [AV.bd, bdL, bdL_append]))); done) | fail), containsS_fn kws _, (by exact rfl)⟩) ?_) <;> (first | refine su (ap_or (by exact rq_p rfl rfl) (by exact rq_c rfl rfl)) ?_ | refine pk_t (by exact rfl) (by exact rfl) ?_) <;> refine asemC_end ?_) | (refine WP.regionC (id := 2) ?_; (refine su (ap_assign (by exact rq_p rfl rfl)) ?_); refine asemC_end ?_) | (refine WP.regionC (id := 3) ?_; (refine su (ap_move (by exact rq_p rfl rfl)) ?_); (refine su (ap_len_str (by exact rfl) (by exact rq_p rfl rfl)) ?_); (refine su (ap_move (by exact rq_p rfl rfl)) ?_); refine asemC_end ?_) | refine ret_b (by exact rfl) ?_))
    · rw [show gnOk s = false by simp [gnOk, hs]]
    · rcases hc with hc | hc
      · exact hc.elim
      · simp only [gnOk, hc, Bool.not_true, Bool.and_false]
    · rename_i h1; exact absurd e0 h1.1.1
  have hb0 := bAt_bd s 0
  have hne : ¬ s = ⟨#[]⟩ := by rintro rfl; exact hs rfl
  (repeat' (first | refine WP.seq ?_ | refine WP.block ?_ | refine go_n ?_ | refine WP.skip ?_ | refine WP.ret ?_ | refine go_r ?_ | refine bo_r ?_ | (refine wp_cond (by exact rfl) (fun hc => ?_) (fun hc => ?_) <;> (try simp only [decide_eq_true_eq, decide_eq_false_iff_not, Decidable.not_not, Bool.and_eq_true, Bool.or_eq_true, Bool.not_eq_true', Bool.not_eq_false', Bool.or_eq_false_iff, Bool.and_eq_false_iff, Int.not_lt, Int.not_le, reduceCtorEq, ne_eq, Bool.not_true, Bool.not_false, Bool.not_eq_true, Bool.not_eq_false] at hc) <;> (try (exfalso; omega))) | (refine WP.regionC (id := 0) ?_; (refine su (ap_assign (by exact rq_p rfl rfl)) ?_); refine asemC_end ?_) | (refine WP.regionC (id := 1) ?_ <;> (refine su (ap_move (by exact rq_p rfl rfl)) ?_) <;> (refine su (ap_eqs (by exact rq_p rfl rfl) (by exact rq_p rfl rfl)) ?_) <;> (refine su (ap_move (by exact rq_p rfl rfl)) ?_) <;> (refine sg (by exact gq_vf rfl rfl) (fun he => ap_move (by exact rq_p rfl rfl)) ?_) <;> (refine sg (by exact gq_vf rfl rfl) (fun he => ap_len_str (by exact rfl) (by exact rq_c rfl rfl)) ?_) <;> (refine sg (by exact gq_vf rfl rfl) (fun he => ap_gtr (by exact rq_c rfl rfl) (by exact rq_p rfl rfl)) ?_) <;> (refine su (ap_or (by exact rq_p rfl rfl) (by exact rq_c rfl rfl)) ?_) <;> (refine su (ap_move (by exact rq_p rfl rfl)) ?_) <;> (refine sg (by exact gq_vf rfl rfl) (fun he => ap_move (by exact rq_p rfl rfl)) ?_) <;> (refine sg (by exact gq_vf rfl rfl) (fun he => ap_sidx_n (by exact rq_c rfl rfl) (by exact rq_p rfl rfl) (by exact rfl) (by (try simp only [List.all_cons, List.all_append, List.all_nil, id, Bool.and_true, decide_eq_true_eq, decide_eq_false_iff_not, Decidable.not_not, Bool.and_eq_true, Bool.or_eq_true, Bool.not_eq_true', Bool.not_eq_false', Bool.or_eq_false_iff, Bool.and_eq_false_iff, Int.not_lt, Int.not_le, reduceCtorEq, ne_eq, Bool.not_true, Bool.not_false, Bool.not_eq_true, Bool.not_eq_false] at he); (simp only [List.length_replicate, List.length_set, List.length_append, List.length_map, List.length_cons, List.length_nil, List.length_take, List.length_drop] <;> omega))) ?_) <;> (refine sg_p (by exact gq_vf rfl rfl) (fun he => ⟨(by exact rq_p rfl rfl), (RqL.cons (by exact rq_c rfl rfl) (RqL.nil)), (by first | ((repeat' first | exact SubL.nil | refine SubL.cons ?_ ?_ | exact Sub.refl); done) | fail), (by first | (simp [bdL, bdL_append, AV.bd]; done) | fail), letter_fn _⟩) ?_) <;> (refine sg (by exact gq_vf rfl rfl) (fun he => ap_not (by exact rq_c rfl rfl)) ?_) <;> (refine su (ap_or (by exact rq_p rfl rfl) (by exact rq_c rfl rfl)) ?_) <;> (refine su (ap_move (by exact rq_p rfl rfl)) ?_) <;> ((refine as_split (t := 17) (by exact rfl) (fun hc => ?_) (fun hc => ?_) <;> (try simp only [decide_eq_true_eq, decide_eq_false_iff_not, Decidable.not_not, Bool.and_eq_true, Bool.or_eq_true, Bool.not_eq_true', Bool.not_eq_false', Bool.or_eq_false_iff, Bool.and_eq_false_iff, Int.not_lt, Int.not_le, reduceCtorEq, ne_eq, Bool.not_true, Bool.not_false, Bool.not_eq_true, Bool.not_eq_false] at hc) <;> (try (exfalso; omega)) <;> (first | refine sgt_lit (by exact rfl) (by exact rfl) (by exact rfl) (OpP.cons (by exact rfl) (OpP.cons (by exact rfl) (OpP.cons (by exact rfl) (OpP.cons (by exact rfl) (OpP.cons (by exact rfl) (OpP.nil)))))) (by exact rfl) (by exact rfl) (by exact rfl) (by exact rfl) (by exact rfl) (by exact rfl) ?_ | refine sk_no (by exact rfl) (by exact rfl) ?_))) <;> (refine sg (by exact gq_vf rfl rfl) (fun he => ap_move (by exact rq_p rfl rfl)) ?_) <;> (first | refine sk_no (by exact rfl) (by exact rfl) ?_ | refine sg_b (by exact gq_vf rfl rfl) (fun he => ⟨(by exact rq_p rfl rfl), (RqL.cons (by exact rq_p rfl rfl) (RqL.cons (by exact rq_c rfl rfl) (RqL.nil))), (by first | ((repeat' first | exact FzL.nil | refine FzL.cons ?_ ?_ | (exact Fz.list (by exact rfl) (by exact rfl) (fun _ => by simp [AV.bd, bdL, bdL_append]) (fun _ => rfl)) | (exact Fz.reflp (by simp [AV.bd, bdL, bdL_append]))); done) | fail), containsS_fn kws s, (by exact rfl)⟩) ?_) <;> (first | refine su (ap_or (by exact rq_p rfl rfl) (by exact rq_c rfl rfl)) ?_ | refine pk_t (by exact rfl) (by exact rfl) ?_) <;> refine asemC_end ?_) | (refine WP.regionC (id := 2) ?_; (refine su (ap_assign (by exact rq_p rfl rfl)) ?_); refine asemC_end ?_) | (refine WP.regionC (id := 3) ?_; (refine su (ap_move (by exact rq_p rfl rfl)) ?_); (refine su (ap_len_str (by exact rfl) (by exact rq_p rfl rfl)) ?_); (refine su (ap_move (by exact rq_p rfl rfl)) ?_); refine asemC_end ?_) | refine ret_b (by exact rfl) ?_))
  · rename_i h1
    rcases h1 with (h1 | h1) | h1
    · exact absurd h1 hne
    · simp [gnOk]; omega
    · exact (gnOk_no0 h1).symm
  · rcases hc with hc | hc
    · exact hc.elim
    · simp only [gnOk, hc, Bool.not_true, Bool.and_false]
  rename_i h1
  obtain ⟨⟨_, h24⟩, hl0⟩ := h1
  have hkw := hc.2
  refine wp_loop (fun (k : Nat) => k ≤ s.size ∧ (List.range k).all (gnCh s) = true) (fun k => s.size - k)
    (fun k => (S 52 [(0, strA s), (23, intA (s.size : Nat)), (24, intA (k : Nat))] 0 [])) 0 ⟨[], ToR.S rfl (by repeat' (first | exact rt_nil | refine rt_e (by exact rfl) (by exact rfl) ?_)) (by repeat' (exact ro_nil)) (by decide) (by (rw [hm]; exact rfl)) (by exact rfl) (by (simp [bdT, AV.bd, bdL, bdL_append]; done)) (by repeat' (exact True.intro)) (by (rw [hm]; exact Nat.le_of_ble_eq_true rfl))⟩ ⟨Nat.zero_le _, rfl⟩ ?_
  rintro k ⟨hk, hall⟩
  have hb := bAt_bd s k
  (repeat' (first | refine WP.seq ?_ | refine WP.block ?_ | refine go_n ?_ | refine WP.skip ?_ | refine WP.exit ?_ | refine WP.ret ?_ | refine go_x ?_ | refine go_r ?_ | refine bl_n ?_ | refine bl_r ?_ | refine bl_x ?_ | refine bo_r ?_ | (refine wp_cond (by exact rfl) (fun hc => ?_) (fun hc => ?_) <;> (try simp only [decide_eq_true_eq, decide_eq_false_iff_not, Decidable.not_not, Bool.and_eq_true, Bool.or_eq_true, Bool.not_eq_true', Bool.not_eq_false', Bool.or_eq_false_iff, Bool.and_eq_false_iff, Int.not_lt, Int.not_le, reduceCtorEq, ne_eq, Bool.not_true, Bool.not_false, Bool.not_eq_true, Bool.not_eq_false] at hc) <;> (try (exfalso; omega))) | (refine WP.regionC (id := 4) ?_; (refine su (ap_lss (by exact rq_p rfl rfl) (by exact rq_p rfl rfl)) ?_); refine asemC_end ?_) | (refine WP.regionC (id := 5) ?_; (refine su (ap_move (by exact rq_p rfl rfl)) ?_); (refine su (ap_assign (by exact rq_p rfl rfl)) ?_); refine asemC_end ?_) | (refine WP.regionC (id := 6) ?_; (refine su (ap_move (by exact rq_p rfl rfl)) ?_); (refine su (ap_move (by exact rq_p rfl rfl)) ?_); (refine su (ap_sidx_n (by exact rq_p rfl rfl) (by exact rq_p rfl rfl) (by exact rfl) (by omega)) ?_); (refine sc_p rfl rfl (by first | ((repeat' first | exact SubL.nil | refine SubL.cons ?_ ?_ | exact Sub.refl); done) | fail) (by first | (simp [bdL, bdL_append, AV.bd]; done) | fail) (letter_fn _) ?_); (refine su (ap_not (by exact rq_p rfl rfl)) ?_); (refine su (ap_move (by exact rq_p rfl rfl)) ?_); (refine sg (by exact gq_vt rfl rfl) (fun he => ap_move (by exact rq_p rfl rfl)) ?_); (refine sg (by exact gq_vt rfl rfl) (fun he => ap_move (by exact rq_p rfl rfl)) ?_); (refine sg (by exact gq_vt rfl rfl) (fun he => ap_sidx_n (by exact rq_c rfl rfl) (by exact rq_c rfl rfl) (by exact rfl) (by (try simp only [List.all_cons, List.all_append, List.all_nil, id, Bool.and_true, decide_eq_true_eq, decide_eq_false_iff_not, Decidable.not_not, Bool.and_eq_true, Bool.or_eq_true, Bool.not_eq_true', Bool.not_eq_false', Bool.or_eq_false_iff, Bool.and_eq_false_iff, Int.not_lt, Int.not_le, reduceCtorEq, ne_eq, Bool.not_true, Bool.not_false, Bool.not_eq_true, Bool.not_eq_false] at he); omega)) ?_); (refine sg (by exact gq_vt rfl rfl) (fun he => ap_geq (by exact rq_c rfl rfl) (by exact rq_p rfl rfl)) ?_); (refine sg (by exact gq_vt rfl rfl) (fun he => ap_move (by exact rq_c rfl rfl)) ?_); (refine sg (by exact gq_ct rfl rfl) (fun he => ap_move (by exact rq_p rfl rfl)) ?_); (refine sg (by exact gq_ct rfl rfl) (fun he => ap_move (by exact rq_p rfl rfl)) ?_); (refine sg (by exact gq_ct rfl rfl) (fun he => ap_sidx_n (by exact rq_c rfl rfl) (by exact rq_c rfl rfl) (by exact rfl) (by (try simp only [List.all_cons, List.all_append, List.all_nil, id, Bool.and_true, decide_eq_true_eq, decide_eq_false_iff_not, Decidable.not_not, Bool.and_eq_true, Bool.or_eq_true, Bool.not_eq_true', Bool.not_eq_false', Bool.or_eq_false_iff, Bool.and_eq_false_iff, Int.not_lt, Int.not_le, reduceCtorEq, ne_eq, Bool.not_true, Bool.not_false, Bool.not_eq_true, Bool.not_eq_false] at he); omega)) ?_); (refine sg (by exact gq_ct rfl rfl) (fun he => ap_leq (by exact rq_c rfl rfl) (by exact rq_p rfl rfl)) ?_); (refine sg (by exact gq_vt rfl rfl) (fun he => ap_and (by exact rq_c rfl rfl) (by exact rq_c rfl rfl)) ?_); (refine sg (by exact gq_vt rfl rfl) (fun he => ap_not (by exact rq_c rfl rfl)) ?_); (refine su (ap_and (by exact rq_p rfl rfl) (by exact rq_c rfl rfl)) ?_); (refine su (ap_move (by exact rq_p rfl rfl)) ?_); (refine sg (by exact gq_vt rfl rfl) (fun he => ap_move (by exact rq_p rfl rfl)) ?_); (refine sg (by exact gq_vt rfl rfl) (fun he => ap_move (by exact rq_p rfl rfl)) ?_); (refine sg (by exact gq_vt rfl rfl) (fun he => ap_sidx_n (by exact rq_c rfl rfl) (by exact rq_c rfl rfl) (by exact rfl) (by (try simp only [List.all_cons, List.all_append, List.all_nil, id, Bool.and_true, decide_eq_true_eq, decide_eq_false_iff_not, Decidable.not_not, Bool.and_eq_true, Bool.or_eq_true, Bool.not_eq_true', Bool.not_eq_false', Bool.or_eq_false_iff, Bool.and_eq_false_iff, Int.not_lt, Int.not_le, reduceCtorEq, ne_eq, Bool.not_true, Bool.not_false, Bool.not_eq_true, Bool.not_eq_false] at he); omega)) ?_); (refine sg (by exact gq_vt rfl rfl) (fun he => ap_neq (by exact rq_c rfl rfl) (by exact rq_p rfl rfl)) ?_); (refine su (ap_and (by exact rq_p rfl rfl) (by exact rq_c rfl rfl)) ?_); refine asemC_end ?_) | (refine WP.regionC (id := 7) ?_; (refine su (ap_assign (by exact rq_p rfl rfl)) ?_); refine asemC_end ?_) | (refine WP.regionC (id := 8) ?_; (refine su (ap_add (by exact rq_p rfl rfl) (by exact rq_p rfl rfl) (by exact inr_i64_of (by omega))) ?_); (refine su (ap_move (by exact rq_p rfl rfl)) ?_); refine asemC_end ?_) | (refine WP.regionC (id := 9) ?_; (refine su (ap_assign (by exact rq_p rfl rfl)) ?_); refine asemC_end ?_) | refine ret_b (by exact rfl) ?_))
  · rw [show gnOk s = false by simp only [gnOk]; rw [range_all_no (k := k) (by omega), Bool.and_false, Bool.false_and]; simp [gnCh, hc]; simp [letB, digB]; omega]
  · refine ⟨k + 1, ⟨by omega, by omega, range_all_succ hall ?_⟩, ⟨[], ToR.S rfl (by repeat' (first | exact rt_nil | refine rt_e (by exact rfl) (by exact rfl) ?_)) (by repeat' (exact ro_nil)) (by decide) (by (rw [hm]; exact rfl)) (by exact rfl) (by (simp [bdT, AV.bd, bdL, bdL_append]; done)) (by repeat' (exact True.intro)) (by (rw [hm]; exact Nat.le_of_ble_eq_true rfl))⟩⟩
    by_cases h0 : k = 0
    · subst h0; simp [gnCh, hl0]
    · simp only [gnCh, digB, h0, decide_false, Bool.not_false, Bool.true_and, Bool.or_eq_true, Bool.and_eq_true, decide_eq_true_eq]
      rcases hc with (hc | hc) | hc
      · exact .inl hc
      · exact .inr (.inl hc)
      · exact .inr (.inr hc)
  have : k = s.size := by omega
  subst this
  simp only [gnOk, hall, hkw]; simp; omega
end Go.Lg

/- slices.IndexFunc, ContainsFunc over expressions and alternatives; grammarfile.expr, rule, distinct. -/
namespace Go.Lg
open Go.Proofs
set_option linter.unusedSimpArgs false
set_option linter.unusedVariables false
attribute [local irreducible] Ap Rq asemC WP RunD Ret Gq thenA inBlockA bodyQ noGotoA RqL RqP OpP
set_option maxHeartbeats 4000000

@[simp] theorem bdL_strM (n : Nat) (l : List ByteArray) : bdL n (l.map strA) = true := bdL_map (fun _ => rfl) l
@[simp] theorem bdL_strT (n k : Nat) (l : List ByteArray) : bdL n ((l.map strA).take k) = true := by rw [← List.map_take]; exact bdL_strM n _
/-- may an expression of a kind with a name have so many kids -/
def okK (k : Int) (n : ByteArray) (m : Nat) : Bool :=
  decide (k = 1) && gnOk n && decide (m = 0) || !decide (k = 1) && decide (n = ⟨#[]⟩) &&
    (decide (k = 2) && !decide (m = 1) || decide (k = 3) && decide (2 ≤ m) || (decide (k = 4) || decide (k = 5) || decide (k = 6)) && decide (m = 1))
mutual
def okE : GEx → Int → Bool
  | .mk k n l, d => decide (1 ≤ d) && okK k n l.length && okEL l (d - 1)
def okEL : List GEx → Int → Bool
  | [], _ => true
  | e :: l, d => okE e d && okEL l d
end
theorem okEL_all : ∀ (l : List GEx) (d : Int), okEL l d = l.all fun e => okE e d
  | [], d => by rw [okEL]; rfl
  | e :: l, d => by rw [okEL, okEL_all l d]; rfl
theorem okE_eq (e : GEx) (d : Int) : okE e d = (decide (1 ≤ d) && okK e.kind e.name e.kids.length && e.kids.all fun k => okE k (d - 1)) := by
  cases e; rw [okE, okEL_all]; rfl
def exprsA (l : List GEx) : AV := .sl 3 (l.map exprA)
theorem kids_exprsA (e : GEx) : AV.sl 3 (kidsL e) = exprsA e.kids := by rw [exprsA, kidsL_map]
@[simp] theorem bd_exprsA (n : Nat) (l : List GEx) : (exprsA l).bd n = true := bdL_exprs n l

theorem indexFuncE_fn (l : List GEx) (g : FuncId) (cap : List AV) (p : GEx → Bool) (hcap : ∀ n, bdL n cap = true) (h : ∀ x, x ∈ l → Fn Tryd.prog g (exprA x :: cap) (boolA (p x))) :
    Fn Tryd.prog 65 [exprsA l, .clo (.func g) [] cap] (intA (indexP p l)) := by
  refine Fn.intro (by exact rfl) (by kernel_rfl) Tryd.func65 rfl rfl Tryd.ntmps65 (by exact Nat.le_of_ble_eq_true rfl) ?_; intro Γ hm
  refine wp_lens 0 rfl fun h0 => ?_
  have h0 : l.length ≤ 9223372036854775807 := by simpa [exprsA] using h0.1
  (repeat' (first | refine WP.seq ?_ | refine WP.block ?_ | refine go_n ?_ | (refine WP.regionC (id := 0) ?_; (refine su (ap_assign (by exact rq_p rfl rfl)) ?_); refine asemC_end ?_) | (refine WP.regionC (id := 1) ?_; (refine su (ap_move (by exact rq_p rfl rfl)) ?_); (refine su (ap_len_m (by exact rfl) (by exact rq_p rfl rfl)) ?_); (refine su (ap_move (by exact rq_p rfl rfl)) ?_); refine asemC_end ?_)))
  refine wp_loop (fun k => k ≤ l.length ∧ (l.take k).any p = false) (fun k => l.length - k) (fun k => (S 19 [(0, exprsA l), (1, .clo (.func g) [] cap), (7, intA (l.length : Nat)), (8, intA (k : Nat))] 0 [])) 0 ⟨[], ToR.S rfl (by repeat' (first | exact rt_nil | refine rt_e (by exact rfl) (by exact rfl) ?_ | refine rt_p (by exact rfl) (by exact rfl) (by first | (simp [AV.bd, bdL, bdL_append]; done) | (simp [AV.bd, bdL, bdL_append, *]; done) | fail) ?_)) (by repeat' (exact ro_nil)) (by decide) (by (rw [hm]; exact rfl)) (by exact rfl) (by simp [bdT, AV.bd, bdL, bdL_append, *]) (by repeat' (exact True.intro)) (by (rw [hm]; exact Nat.le_of_ble_eq_true rfl))⟩ ⟨Nat.zero_le _, rfl⟩ ?_
  rintro k ⟨hk, hall⟩
  (repeat' (first | refine WP.seq ?_ | refine WP.block ?_ | refine go_n ?_ | refine WP.skip ?_ | refine WP.exit ?_ | refine WP.ret ?_ | refine go_x ?_ | refine go_r ?_ | refine bl_n ?_ | refine bl_r ?_ | refine bl_x ?_ | refine bo_r ?_ | (refine wp_cond (by exact rfl) (fun hc => ?_) (fun hc => ?_) <;> (try simp only [decide_eq_true_eq, decide_eq_false_iff_not, Decidable.not_not, Bool.and_eq_true, Bool.or_eq_true, Bool.not_eq_true', Bool.not_eq_false', Bool.or_eq_false_iff, Bool.and_eq_false_iff, Int.not_lt, Int.not_le, reduceCtorEq, ne_eq, Bool.not_true, Bool.not_false, Bool.not_eq_true, Bool.not_eq_false] at hc) <;> (try (exfalso; omega))) | (refine WP.regionC (id := 2) ?_; (refine su (ap_lss (by exact rq_p rfl rfl) (by exact rq_p rfl rfl)) ?_); refine asemC_end ?_) | (refine WP.regionC (id := 3) ?_; (refine su (ap_move (by exact rq_p rfl rfl)) ?_); (refine su (ap_assign (by exact rq_p rfl rfl)) ?_); refine asemC_end ?_) | (refine WP.regionC (id := 4) ?_; (refine su (ap_move (by exact rq_p rfl rfl)) ?_); (refine su (ap_move (by exact rq_p rfl rfl)) ?_); (refine su (ap_move (by exact rq_p rfl rfl)) ?_); (refine su (ap_idx_n (by exact rq_p rfl rfl) (by exact rq_p rfl rfl) (by omega)) ?_); (refine su (ap_load_w (by exact rq_p rfl rfl) (by exact rfl)) ?_); (refine sc_p rfl rfl (by first | ((repeat' first | refine SubL.cons ?_ ?_ | exact SubL.rfl | exact Sub.refl); done) | fail) (by first | (simp [bdL, bdL_append, AV.bd, *]; done) | fail) (h _ (nth_mem (by omega))) ?_); refine asemC_end ?_) | (refine WP.regionC (id := 5) ?_; (refine su (ap_move (by exact rq_p rfl rfl)) ?_); (refine su (ap_assign (by exact rq_p rfl rfl)) ?_); refine asemC_end ?_) | (refine WP.regionC (id := 6) ?_; (refine su (ap_add (by exact rq_p rfl rfl) (by exact rq_p rfl rfl) (by exact inr_i64_of (by omega))) ?_); (refine su (ap_move (by exact rq_p rfl rfl)) ?_); refine asemC_end ?_) | (refine WP.regionC (id := 7) ?_; (refine su (ap_assign (by exact rq_p rfl rfl)) ?_); refine asemC_end ?_) | refine ret_i (by exact rfl) ?_))
  · exact (indexP_at (by omega) hall hc).symm
  · exact ⟨k + 1, ⟨by omega, by omega, take_any_succ (by omega) hall hc⟩, ⟨[], ToR.S rfl (by repeat' (first | exact rt_nil | refine rt_e (by exact rfl) (by exact rfl) ?_ | refine rt_p (by exact rfl) (by exact rfl) (by first | (simp [AV.bd, bdL, bdL_append]; done) | (simp [AV.bd, bdL, bdL_append, *]; done) | fail) ?_)) (by repeat' (exact ro_nil)) (by decide) (by (rw [hm]; exact rfl)) (by exact rfl) (by simp [bdT, AV.bd, bdL, bdL_append, *]) (by repeat' (exact True.intro)) (by (rw [hm]; exact Nat.le_of_ble_eq_true rfl))⟩⟩
  · exact (indexP_no (by omega) hall).symm
theorem containsFuncE_fn (l : List GEx) (g : FuncId) (cap : List AV) (p : GEx → Bool) (hcap : ∀ n, bdL n cap = true) (h : ∀ x, x ∈ l → Fn Tryd.prog g (exprA x :: cap) (boolA (p x))) :
    Fn Tryd.prog 57 [exprsA l, .clo (.func g) [] cap] (boolA (l.any p)) := by
  refine Fn.intro (by exact rfl) (by kernel_rfl) Tryd.func57 rfl rfl Tryd.ntmps57 (by exact Nat.le_of_ble_eq_true rfl) ?_; intro Γ hm
  (repeat' (first | refine WP.seq ?_ | refine go_n ?_ | refine WP.ret ?_ | refine bo_r ?_ | (refine WP.regionC (id := 0) ?_; (refine su (ap_assign (by exact rq_p rfl rfl)) ?_); refine asemC_end ?_) | (refine WP.regionC (id := 1) ?_; (refine su (ap_move (by exact rq_p rfl rfl)) ?_); (refine su (ap_move (by exact rq_p rfl rfl)) ?_); (refine sc_p rfl rfl (by first | ((repeat' first | exact SubL.nil | refine SubL.cons ?_ ?_ | exact Sub.refl); done) | fail) (by first | (simp [bdL, bdL_append, AV.bd, *]; done) | fail) (indexFuncE_fn _ _ _ p hcap h) ?_); (refine su (ap_geq (by exact rq_p rfl rfl) (by exact rq_p rfl rfl)) ?_); (refine su (ap_assign (by exact rq_p rfl rfl)) ?_); refine asemC_end ?_) | refine ret_b (by exact rfl) ?_))
  exact indexP_any
theorem indexFuncA_fn (l : List GAl) (g : FuncId) (cap : List AV) (p : GAl → Bool) (hcap : ∀ n, bdL n cap = true) (h : ∀ x, x ∈ l → Fn Tryd.prog g (altA x :: cap) (boolA (p x))) :
    Fn Tryd.prog 56 [altsA l, .clo (.func g) [] cap] (intA (indexP p l)) := by
  refine Fn.intro (by exact rfl) (by kernel_rfl) Tryd.func56 rfl rfl Tryd.ntmps56 (by exact Nat.le_of_ble_eq_true rfl) ?_; intro Γ hm
  refine wp_lens 0 rfl fun h0 => ?_
  have h0 : l.length ≤ 9223372036854775807 := by simpa [altsA] using h0.1
  (repeat' (first | refine WP.seq ?_ | refine WP.block ?_ | refine go_n ?_ | (refine WP.regionC (id := 0) ?_; (refine su (ap_assign (by exact rq_p rfl rfl)) ?_); refine asemC_end ?_) | (refine WP.regionC (id := 1) ?_; (refine su (ap_move (by exact rq_p rfl rfl)) ?_); (refine su (ap_len_m (by exact rfl) (by exact rq_p rfl rfl)) ?_); (refine su (ap_move (by exact rq_p rfl rfl)) ?_); refine asemC_end ?_)))
  refine wp_loop (fun k => k ≤ l.length ∧ (l.take k).any p = false) (fun k => l.length - k) (fun k => (S 19 [(0, altsA l), (1, .clo (.func g) [] cap), (7, intA (l.length : Nat)), (8, intA (k : Nat))] 0 [])) 0 ⟨[], ToR.S rfl (by repeat' (first | exact rt_nil | refine rt_e (by exact rfl) (by exact rfl) ?_ | refine rt_p (by exact rfl) (by exact rfl) (by first | (simp [AV.bd, bdL, bdL_append]; done) | (simp [AV.bd, bdL, bdL_append, *]; done) | fail) ?_)) (by repeat' (exact ro_nil)) (by decide) (by (rw [hm]; exact rfl)) (by exact rfl) (by simp [bdT, AV.bd, bdL, bdL_append, *]) (by repeat' (exact True.intro)) (by (rw [hm]; exact Nat.le_of_ble_eq_true rfl))⟩ ⟨Nat.zero_le _, rfl⟩ ?_
  rintro k ⟨hk, hall⟩
  (repeat' (first | refine WP.seq ?_ | refine WP.block ?_ | refine go_n ?_ | refine WP.skip ?_ | refine WP.exit ?_ | refine WP.ret ?_ | refine go_x ?_ | refine go_r ?_ | refine bl_n ?_ | refine bl_r ?_ | refine bl_x ?_ | refine bo_r ?_ | (refine wp_cond (by exact rfl) (fun hc => ?_) (fun hc => ?_) <;> (try simp only [decide_eq_true_eq, decide_eq_false_iff_not, Decidable.not_not, Bool.and_eq_true, Bool.or_eq_true, Bool.not_eq_true', Bool.not_eq_false', Bool.or_eq_false_iff, Bool.and_eq_false_iff, Int.not_lt, Int.not_le, reduceCtorEq, ne_eq, Bool.not_true, Bool.not_false, Bool.not_eq_true, Bool.not_eq_false] at hc) <;> (try (exfalso; omega))) | (refine WP.regionC (id := 2) ?_; (refine su (ap_lss (by exact rq_p rfl rfl) (by exact rq_p rfl rfl)) ?_); refine asemC_end ?_) | (refine WP.regionC (id := 3) ?_; (refine su (ap_move (by exact rq_p rfl rfl)) ?_); (refine su (ap_assign (by exact rq_p rfl rfl)) ?_); refine asemC_end ?_) | (refine WP.regionC (id := 4) ?_; (refine su (ap_move (by exact rq_p rfl rfl)) ?_); (refine su (ap_move (by exact rq_p rfl rfl)) ?_); (refine su (ap_move (by exact rq_p rfl rfl)) ?_); (refine su (ap_idx_n (by exact rq_p rfl rfl) (by exact rq_p rfl rfl) (by omega)) ?_); (refine su (ap_load_w (by exact rq_p rfl rfl) (by exact rfl)) ?_); (refine sc_p rfl rfl (by first | ((repeat' first | refine SubL.cons ?_ ?_ | exact SubL.rfl | exact Sub.refl); done) | fail) (by first | (simp [bdL, bdL_append, AV.bd, *]; done) | fail) (h _ (nth_mem (by omega))) ?_); refine asemC_end ?_) | (refine WP.regionC (id := 5) ?_; (refine su (ap_move (by exact rq_p rfl rfl)) ?_); (refine su (ap_assign (by exact rq_p rfl rfl)) ?_); refine asemC_end ?_) | (refine WP.regionC (id := 6) ?_; (refine su (ap_add (by exact rq_p rfl rfl) (by exact rq_p rfl rfl) (by exact inr_i64_of (by omega))) ?_); (refine su (ap_move (by exact rq_p rfl rfl)) ?_); refine asemC_end ?_) | (refine WP.regionC (id := 7) ?_; (refine su (ap_assign (by exact rq_p rfl rfl)) ?_); refine asemC_end ?_) | refine ret_i (by exact rfl) ?_))
  · exact (indexP_at (by omega) hall hc).symm
  · exact ⟨k + 1, ⟨by omega, by omega, take_any_succ (by omega) hall hc⟩, ⟨[], ToR.S rfl (by repeat' (first | exact rt_nil | refine rt_e (by exact rfl) (by exact rfl) ?_ | refine rt_p (by exact rfl) (by exact rfl) (by first | (simp [AV.bd, bdL, bdL_append]; done) | (simp [AV.bd, bdL, bdL_append, *]; done) | fail) ?_)) (by repeat' (exact ro_nil)) (by decide) (by (rw [hm]; exact rfl)) (by exact rfl) (by simp [bdT, AV.bd, bdL, bdL_append, *]) (by repeat' (exact True.intro)) (by (rw [hm]; exact Nat.le_of_ble_eq_true rfl))⟩⟩
  · exact (indexP_no (by omega) hall).symm
theorem containsFuncA_fn (l : List GAl) (g : FuncId) (cap : List AV) (p : GAl → Bool) (hcap : ∀ n, bdL n cap = true) (h : ∀ x, x ∈ l → Fn Tryd.prog g (altA x :: cap) (boolA (p x))) :
    Fn Tryd.prog 43 [altsA l, .clo (.func g) [] cap] (boolA (l.any p)) := by
  refine Fn.intro (by exact rfl) (by kernel_rfl) Tryd.func43 rfl rfl Tryd.ntmps43 (by exact Nat.le_of_ble_eq_true rfl) ?_; intro Γ hm
  (repeat' (first | refine WP.seq ?_ | refine go_n ?_ | refine WP.ret ?_ | refine bo_r ?_ | (refine WP.regionC (id := 0) ?_; (refine su (ap_assign (by exact rq_p rfl rfl)) ?_); refine asemC_end ?_) | (refine WP.regionC (id := 1) ?_; (refine su (ap_move (by exact rq_p rfl rfl)) ?_); (refine su (ap_move (by exact rq_p rfl rfl)) ?_); (refine sc_p rfl rfl (by first | ((repeat' first | exact SubL.nil | refine SubL.cons ?_ ?_ | exact Sub.refl); done) | fail) (by first | (simp [bdL, bdL_append, AV.bd, *]; done) | fail) (indexFuncA_fn _ _ _ p hcap h) ?_); (refine su (ap_geq (by exact rq_p rfl rfl) (by exact rq_p rfl rfl)) ?_); (refine su (ap_assign (by exact rq_p rfl rfl)) ?_); refine asemC_end ?_) | refine ret_b (by exact rfl) ?_))
  exact indexP_any

theorem expr1_fn (k : GEx) (d : Int) (h1 : 1 ≤ d) (h2 : d ≤ 1000) (h : Fn Tryd.prog 45 [exprA k, intA (d - 1)] (boolA (okE k (d - 1)))) : Fn Tryd.prog 58 [exprA k, .iptr [intA d] 0] (boolA (!okE k (d - 1))) := by
  refine Fn.intro (by exact rfl) (by kernel_rfl) Tryd.func58 rfl rfl Tryd.ntmps58 (by exact Nat.le_of_ble_eq_true rfl) ?_; intro Γ hm
  (repeat' (first | refine WP.seq ?_ | refine go_n ?_ | refine WP.ret ?_ | refine bo_r ?_ | (refine WP.regionC (id := 0) ?_; (refine se_box (by exact rfl) (by exact ⟨rfl, rfl⟩) ?_); (refine su (ap_assign (by exact rq_p rfl rfl)) ?_); refine asemC_end ?_) | (refine WP.regionC (id := 1) ?_; (refine su (ap_load_pw (by exact rq_p rfl rfl) (by exact rfl) (by exact rfl) (by exact rfl)) ?_); (refine su (ap_load_i (by exact rq_p rfl rfl) (by exact rfl)) ?_); (refine su (ap_sub (by exact rq_p rfl rfl) (by exact rq_p rfl rfl) (by exact inr_i64_of (by omega))) ?_); (refine sc_p rfl rfl (by first | ((repeat' first | exact SubL.nil | refine SubL.cons ?_ ?_ | exact Sub.refl); done) | fail) (by first | (simp [bdL, bdL_append, AV.bd]; done) | fail) (h) ?_); (refine su (ap_not (by exact rq_p rfl rfl)) ?_); (refine su (ap_assign (by exact rq_p rfl rfl)) ?_); refine asemC_end ?_) | exact ret_eq (by exact rfl) (by exact rfl) rfl))
theorem any_not_all {α : Type} (p : α → Bool) (l : List α) : l.any (fun x => !p x) = !l.all p := by
  induction l with
  | nil => rfl
  | cons x l ih => simp only [List.any_cons, List.all_cons, ih, Bool.not_and]

theorem expr_fn (e : GEx) : ∀ d : Int, 0 ≤ d → d ≤ 1000 → Fn Tryd.prog 45 [exprA e, intA d] (boolA (okE e d)) := by
  induction e using GEx.ind with
  | h e ih =>
    intro d h0 h1
    rw [okE_eq, exprA, kids_exprsA]
    generalize hkd : e.kids = kids at *
    generalize e.kind = kk
    generalize e.name = nm
    clear hkd e
    by_cases hd : d < 1
    · refine Fn.intro (by exact rfl) (by kernel_rfl) Tryd.func45 rfl rfl Tryd.ntmps45 (by exact Nat.le_of_ble_eq_true rfl) ?_; intro Γ hm
      (repeat' (first | refine WP.seq ?_ | refine go_n ?_ | refine WP.ret ?_ | refine go_r ?_ | refine bo_r ?_ | (refine wp_cond (by exact rfl) (fun hc => ?_) (fun hc => ?_) <;> (try simp only [decide_eq_true_eq, decide_eq_false_iff_not, Decidable.not_not, Bool.and_eq_true, Bool.or_eq_true, Bool.not_eq_true', Bool.not_eq_false', Bool.or_eq_false_iff, Bool.and_eq_false_iff, Int.not_lt, Int.not_le, reduceCtorEq, ne_eq, Bool.not_true, Bool.not_false, Bool.not_eq_true, Bool.not_eq_false] at hc) <;> (try (exfalso; omega))) | (refine WP.regionC (id := 0) ?_; (refine se_box (by exact rfl) (by exact ⟨rfl, rfl⟩) ?_); (refine se_box (by exact rfl) (by exact ⟨rfl, rfl⟩) ?_); (refine su (ap_assign (by exact rq_p rfl rfl)) ?_); refine asemC_end ?_) | (refine WP.regionC (id := 1) ?_; (refine su (ap_load_pw (by exact rq_p rfl rfl) (by exact rfl) (by exact rfl) (by exact rfl)) ?_); (refine su (ap_lss (by exact rq_p rfl rfl) (by exact rq_p rfl rfl)) ?_); (refine su (ap_move (by exact rq_p rfl rfl)) ?_); (refine sg (by exact gq_vf rfl rfl) (fun he => ap_field_p (by exact rq_p rfl rfl) (by exact rfl) (by exact rfl)) ?_); (refine sg (by exact gq_vf rfl rfl) (fun he => ap_load_p (by exact rq_c rfl rfl) (by exact rfl) (by exact rfl) (by exact rfl)) ?_); (refine sg (by exact gq_vf rfl rfl) (fun he => ap_neq (by exact rq_c rfl rfl) (by exact rq_p rfl rfl)) ?_); (refine sg (by exact gq_vf rfl rfl) (fun he => ap_move (by exact rq_c rfl rfl)) ?_); (refine sg (by exact gq_ct rfl rfl) (fun he => ap_field_p (by exact rq_p rfl rfl) (by exact rfl) (by exact rfl)) ?_); (refine sg (by exact gq_ct rfl rfl) (fun he => ap_load_p (by exact rq_c rfl rfl) (by exact rfl) (by exact rfl) (by exact rfl)) ?_); (refine sg (by exact gq_ct rfl rfl) (fun he => ap_nes (by exact rq_c rfl rfl) (by exact rq_p rfl rfl)) ?_); (refine sg (by exact gq_vf rfl rfl) (fun he => ap_and (by exact rq_c rfl rfl) (by exact rq_c rfl rfl)) ?_); (refine su (ap_or (by exact rq_p rfl rfl) (by exact rq_c rfl rfl)) ?_); refine asemC_end ?_) | (refine WP.regionC (id := 2) ?_; (refine su (ap_assign (by exact rq_p rfl rfl)) ?_); refine asemC_end ?_) | refine ret_b (by exact rfl) ?_))
      rw [decide_eq_false (show ¬ 1 ≤ d by omega)]; rfl
    have hd1 : decide (1 ≤ d) = true := by simp; omega
    have c1 : decide ((kids.length : Int) = 1) = decide (kids.length = 1) := by rw [Bool.eq_iff_iff]; simp; omega
    have c2 : decide (2 ≤ (kids.length : Int)) = decide (2 ≤ kids.length) := by rw [Bool.eq_iff_iff]; simp; omega
    have hB := containsFuncE_fn kids 58 [.iptr [intA d] 0] (fun x => !okE x (d - 1)) (fun n => by simp [bdL, AV.bd, AV.cells]) (fun x hx => expr1_fn x d (by omega) h1 (ih x hx (d - 1) (by omega) (by omega)))
    refine Fn.intro (by exact rfl) (by kernel_rfl) Tryd.func45 rfl rfl Tryd.ntmps45 (by exact Nat.le_of_ble_eq_true rfl) ?_; intro Γ hm
    (repeat' (first | refine WP.seq ?_ | refine WP.block ?_ | refine go_n ?_ | refine WP.skip ?_ | refine WP.ret ?_ | refine go_r ?_ | refine bl_n ?_ | refine bo_r ?_ | (refine wp_cond (by exact rfl) (fun hc => ?_) (fun hc => ?_) <;> (try simp only [decide_eq_true_eq, decide_eq_false_iff_not, Decidable.not_not, Bool.and_eq_true, Bool.or_eq_true, Bool.not_eq_true', Bool.not_eq_false', Bool.or_eq_false_iff, Bool.and_eq_false_iff, Int.not_lt, Int.not_le, reduceCtorEq, ne_eq, Bool.not_true, Bool.not_false, Bool.not_eq_true, Bool.not_eq_false] at hc) <;> (try (exfalso; omega))) | (refine WP.regionC (id := 0) ?_; (refine se_box (by exact rfl) (by exact ⟨rfl, rfl⟩) ?_); (refine se_box (by exact rfl) (by exact ⟨rfl, rfl⟩) ?_); (refine su (ap_assign (by exact rq_p rfl rfl)) ?_); refine asemC_end ?_) | (refine WP.regionC (id := 1) ?_; (refine su (ap_load_pw (by exact rq_p rfl rfl) (by exact rfl) (by exact rfl) (by exact rfl)) ?_); (refine su (ap_lss (by exact rq_p rfl rfl) (by exact rq_p rfl rfl)) ?_); (refine su (ap_move (by exact rq_p rfl rfl)) ?_); (refine sg (by exact gq_vf rfl rfl) (fun he => ap_field_p (by exact rq_p rfl rfl) (by exact rfl) (by exact rfl)) ?_); (refine sg (by exact gq_vf rfl rfl) (fun he => ap_load_p (by exact rq_c rfl rfl) (by exact rfl) (by exact rfl) (by exact rfl)) ?_); (refine sg (by exact gq_vf rfl rfl) (fun he => ap_neq (by exact rq_c rfl rfl) (by exact rq_p rfl rfl)) ?_); (refine sg (by exact gq_vf rfl rfl) (fun he => ap_move (by exact rq_c rfl rfl)) ?_); (refine sg (by exact gq_ct rfl rfl) (fun he => ap_field_p (by exact rq_p rfl rfl) (by exact rfl) (by exact rfl)) ?_); (refine sg (by exact gq_ct rfl rfl) (fun he => ap_load_p (by exact rq_c rfl rfl) (by exact rfl) (by exact rfl) (by exact rfl)) ?_); (refine sg (by exact gq_ct rfl rfl) (fun he => ap_nes (by exact rq_c rfl rfl) (by exact rq_p rfl rfl)) ?_); (refine sg (by exact gq_vf rfl rfl) (fun he => ap_and (by exact rq_c rfl rfl) (by exact rq_c rfl rfl)) ?_); (refine su (ap_or (by exact rq_p rfl rfl) (by exact rq_c rfl rfl)) ?_); refine asemC_end ?_) | (refine WP.regionC (id := 2) ?_; (refine su (ap_assign (by exact rq_p rfl rfl)) ?_); refine asemC_end ?_) | (refine WP.regionC (id := 3) ?_; (refine su (ap_field_p (by exact rq_p rfl rfl) (by exact rfl) (by exact rfl)) ?_); (refine su (ap_load_p (by exact rq_p rfl rfl) (by exact rfl) (by exact rfl) (by exact rfl)) ?_); (refine su (ap_len_m (by exact rfl) (by exact rq_p rfl rfl)) ?_); (refine su (ap_assign (by exact rq_p rfl rfl)) ?_); (refine su (ap_assign (by exact rq_p rfl rfl)) ?_); refine asemC_end ?_) | (refine WP.regionC (id := 4) ?_; (refine su (ap_field_p (by exact rq_p rfl rfl) (by exact rfl) (by exact rfl)) ?_); (refine su (ap_load_p (by exact rq_p rfl rfl) (by exact rfl) (by exact rfl) (by exact rfl)) ?_); refine asemC_end ?_) | (refine WP.regionC (id := 5) ?_; (refine su (ap_eql (by exact rq_p rfl rfl) (by exact rq_p rfl rfl)) ?_); (refine su (ap_assign (by exact rq_p rfl rfl)) ?_); refine asemC_end ?_) | (refine WP.regionC (id := 6) ?_; (refine su (ap_field_p (by exact rq_p rfl rfl) (by exact rfl) (by exact rfl)) ?_); (refine su (ap_load_p (by exact rq_p rfl rfl) (by exact rfl) (by exact rfl) (by exact rfl)) ?_); (refine sc_p rfl rfl (by first | ((repeat' first | exact SubL.nil | refine SubL.cons ?_ ?_ | exact Sub.refl); done) | fail) (by first | (simp [bdL, bdL_append, AV.bd]; done) | fail) (name_fn _) ?_); (refine su (ap_move (by exact rq_p rfl rfl)) ?_); (refine sg (by exact gq_vt rfl rfl) (fun he => ap_move (by exact rq_p rfl rfl)) ?_); (refine sg (by exact gq_vt rfl rfl) (fun he => ap_eql (by exact rq_c rfl rfl) (by exact rq_p rfl rfl)) ?_); (refine su (ap_and (by exact rq_p rfl rfl) (by exact rq_c rfl rfl)) ?_); (refine su (ap_assign (by exact rq_p rfl rfl)) ?_); refine asemC_end ?_) | (refine WP.regionC (id := 7) ?_; (refine su (ap_eql (by exact rq_p rfl rfl) (by exact rq_p rfl rfl)) ?_); (refine su (ap_assign (by exact rq_p rfl rfl)) ?_); refine asemC_end ?_) | (refine WP.regionC (id := 8) ?_; (refine su (ap_move (by exact rq_p rfl rfl)) ?_); (refine su (ap_neq (by exact rq_p rfl rfl) (by exact rq_p rfl rfl)) ?_); (refine su (ap_assign (by exact rq_p rfl rfl)) ?_); refine asemC_end ?_) | (refine WP.regionC (id := 9) ?_; (refine su (ap_eql (by exact rq_p rfl rfl) (by exact rq_p rfl rfl)) ?_); (refine su (ap_assign (by exact rq_p rfl rfl)) ?_); refine asemC_end ?_) | (refine WP.regionC (id := 10) ?_; (refine su (ap_move (by exact rq_p rfl rfl)) ?_); (refine su (ap_geq (by exact rq_p rfl rfl) (by exact rq_p rfl rfl)) ?_); (refine su (ap_assign (by exact rq_p rfl rfl)) ?_); refine asemC_end ?_) | (refine WP.regionC (id := 11) ?_; (refine su (ap_eql (by exact rq_p rfl rfl) (by exact rq_p rfl rfl)) ?_); (refine su (ap_assign (by exact rq_p rfl rfl)) ?_); refine asemC_end ?_) | (refine WP.regionC (id := 12) ?_; (refine su (ap_eql (by exact rq_p rfl rfl) (by exact rq_p rfl rfl)) ?_); (refine su (ap_assign (by exact rq_p rfl rfl)) ?_); refine asemC_end ?_) | (refine WP.regionC (id := 13) ?_; (refine su (ap_eql (by exact rq_p rfl rfl) (by exact rq_p rfl rfl)) ?_); (refine su (ap_assign (by exact rq_p rfl rfl)) ?_); refine asemC_end ?_) | (refine WP.regionC (id := 14) ?_; (refine su (ap_move (by exact rq_p rfl rfl)) ?_); (refine su (ap_eql (by exact rq_p rfl rfl) (by exact rq_p rfl rfl)) ?_); (refine su (ap_assign (by exact rq_p rfl rfl)) ?_); refine asemC_end ?_) | (refine WP.regionC (id := 15) ?_; (refine su (ap_move (by exact rq_p rfl rfl)) ?_); (refine su (ap_move (by exact rq_p rfl rfl)) ?_); (refine sg (by exact gq_vt rfl rfl) (fun he => ap_field_p (by exact rq_p rfl rfl) (by exact rfl) (by exact rfl)) ?_); (refine sg (by exact gq_vt rfl rfl) (fun he => ap_load_p (by exact rq_c rfl rfl) (by exact rfl) (by exact rfl) (by exact rfl)) ?_); (refine sg (by exact gq_vt rfl rfl) (fun he => ap_clo (RqL.nil) (RqL.cons (by exact rq_p rfl rfl) (RqL.nil))) ?_); (first | refine sk_no (by exact rfl) (by exact rfl) ?_ | refine sg_b (by exact gq_vt rfl rfl) (fun he => ⟨(by exact rq_p rfl rfl), (RqL.cons (by exact rq_c rfl rfl) (RqL.cons (by exact rq_c rfl rfl) (RqL.nil))), (by first | ((repeat' first | exact FzL.nil | refine FzL.cons ?_ ?_ | (exact Fz.reflp (by simp [AV.bd, bdL, bdL_append])) | refine Fz.ptrL (by exact rfl) (by exact rfl) ?_ | refine Fz.cloL ?_ ?_); done) | fail), hB, (by exact rfl)⟩) ?_); (first | refine sg (by exact gq_vt rfl rfl) (fun he => ap_not (by exact rq_c rfl rfl)) ?_ | refine sk_no (by exact rfl) (by exact rfl) ?_); (first | refine su (ap_and (by exact rq_p rfl rfl) (by exact rq_c rfl rfl)) ?_ | refine pk_f (by exact rfl) (by exact rfl) ?_); (refine su (ap_assign (by exact rq_p rfl rfl)) ?_); refine asemC_end ?_) | refine ret_b (by exact rfl) ?_))
    · rcases hc with hc | hc
      · omega
      · simp [okK, hc.1, hc.2]
    · rw [any_not_all, Bool.not_not]; subst hc; simp [okK, hd1]
    · rw [any_not_all, Bool.not_not]; simp only [c1, c2]; clear c1 c2 hB ih; simp_all [okK]
    · rw [any_not_all, Bool.not_not]; simp only [c1, c2]; clear c1 c2 hB ih; simp_all [okK]
    · rw [any_not_all, Bool.not_not]; simp only [c1, c2]; clear c1 c2 hB ih; simp_all [okK]
    · rw [any_not_all, Bool.not_not]; simp only [c1, c2]; clear c1 c2 hB ih; simp_all [okK]
    · rw [any_not_all, Bool.not_not]; simp only [c1, c2]; clear c1 c2 hB ih; simp_all [okK]
    · simp [okK, *]

/-- is an alternative of a rule valid -/
def altOk (a : GAl) : Bool := decide (0 ≤ a.price) && decide (a.price ≤ 1000) && okE a.body 30
theorem rule1_fn (a : GAl) : Fn Tryd.prog 44 [altA a] (boolA (!altOk a)) := by
  unfold altA
  refine Fn.intro (by exact rfl) (by kernel_rfl) Tryd.func44 rfl rfl Tryd.ntmps44 (by exact Nat.le_of_ble_eq_true rfl) ?_; intro Γ hm
  (repeat' (first | refine WP.seq ?_ | refine go_n ?_ | refine WP.ret ?_ | refine bo_r ?_ | (refine WP.regionC (id := 0) ?_; (refine se_box (by exact rfl) (by exact ⟨rfl, rfl⟩) ?_); (refine su (ap_assign (by exact rq_p rfl rfl)) ?_); refine asemC_end ?_) | (refine WP.regionC (id := 1) ?_; (refine su (ap_field_p (by exact rq_p rfl rfl) (by exact rfl) (by exact rfl)) ?_); (refine su (ap_load_p (by exact rq_p rfl rfl) (by exact rfl) (by exact rfl) (by exact rfl)) ?_); (refine su (ap_lss (by exact rq_p rfl rfl) (by exact rq_p rfl rfl)) ?_); (refine su (ap_move (by exact rq_p rfl rfl)) ?_); (refine sg (by exact gq_vf rfl rfl) (fun he => ap_field_p (by exact rq_p rfl rfl) (by exact rfl) (by exact rfl)) ?_); (refine sg (by exact gq_vf rfl rfl) (fun he => ap_load_p (by exact rq_c rfl rfl) (by exact rfl) (by exact rfl) (by exact rfl)) ?_); (refine sg (by exact gq_vf rfl rfl) (fun he => ap_gtr (by exact rq_c rfl rfl) (by exact rq_p rfl rfl)) ?_); (refine su (ap_or (by exact rq_p rfl rfl) (by exact rq_c rfl rfl)) ?_); (refine su (ap_move (by exact rq_p rfl rfl)) ?_); (refine sg (by exact gq_vf rfl rfl) (fun he => ap_field_p (by exact rq_p rfl rfl) (by exact rfl) (by exact rfl)) ?_); (refine sg (by exact gq_vf rfl rfl) (fun he => ap_load_p (by exact rq_c rfl rfl) (by exact rfl) (by exact rfl) (by exact rfl)) ?_); (refine sg_p (by exact gq_vf rfl rfl) (fun he => ⟨(by exact rq_p rfl rfl), (RqL.cons (by exact rq_c rfl rfl) (RqL.cons (by exact rq_p rfl rfl) (RqL.nil))), (by first | ((repeat' first | exact SubL.nil | refine SubL.cons ?_ ?_ | exact Sub.refl); done) | fail), (by first | (simp [bdL, bdL_append, AV.bd, AV.cells]; done) | fail), expr_fn a.body 30 (by decide) (by decide)⟩) ?_); (refine sg (by exact gq_vf rfl rfl) (fun he => ap_not (by exact rq_c rfl rfl)) ?_); (refine su (ap_or (by exact rq_p rfl rfl) (by exact rq_c rfl rfl)) ?_); (refine su (ap_assign (by exact rq_p rfl rfl)) ?_); refine asemC_end ?_) | refine ret_b (by exact rfl) ?_))
  simp only [altOk]; rw [Bool.eq_iff_iff]; simp
def gruleOk (r : GRu) : Bool := !decide (r.alts = []) && r.alts.all altOk
theorem rule_fn (r : GRu) : Fn Tryd.prog 21 [gruleA r] (boolA (gruleOk r)) := by
  refine Fn.intro (by exact rfl) (by kernel_rfl) Tryd.func21 rfl rfl Tryd.ntmps21 (by exact Nat.le_of_ble_eq_true rfl) ?_; intro Γ hm
  (repeat' (first | refine WP.seq ?_ | refine go_n ?_ | refine WP.ret ?_ | refine bo_r ?_ | (refine WP.regionC (id := 0) ?_; (refine se_box (by exact rfl) (by exact ⟨rfl, rfl⟩) ?_); (refine su (ap_assign (by exact rq_p rfl rfl)) ?_); refine asemC_end ?_) | (refine WP.regionC (id := 1) ?_; (refine su (ap_field_p (by exact rq_p rfl rfl) (by exact rfl) (by exact rfl)) ?_); (refine su (ap_load_p (by exact rq_p rfl rfl) (by exact rfl) (by exact rfl) (by exact rfl)) ?_); (refine su (ap_len_m (by exact rfl) (by exact rq_p rfl rfl)) ?_); (refine su (ap_gtr (by exact rq_p rfl rfl) (by exact rq_p rfl rfl)) ?_); (refine su (ap_move (by exact rq_p rfl rfl)) ?_); (refine sg (by exact gq_vt rfl rfl) (fun he => ap_field_p (by exact rq_p rfl rfl) (by exact rfl) (by exact rfl)) ?_); (refine sg (by exact gq_vt rfl rfl) (fun he => ap_load_p (by exact rq_c rfl rfl) (by exact rfl) (by exact rfl) (by exact rfl)) ?_); (refine sg_p (by exact gq_vt rfl rfl) (fun he => ⟨(by exact rq_p rfl rfl), (RqL.cons (by exact rq_c rfl rfl) (RqL.cons (by exact rq_p rfl rfl) (RqL.nil))), (by first | ((repeat' first | exact SubL.nil | refine SubL.cons ?_ ?_ | exact Sub.refl); done) | fail), (by first | (simp [bdL, bdL_append, AV.bd]; done) | fail), containsFuncA_fn r.alts 44 [] (fun x => !altOk x) (fun n => rfl) (fun x hx => rule1_fn x)⟩) ?_); (refine sg (by exact gq_vt rfl rfl) (fun he => ap_not (by exact rq_c rfl rfl)) ?_); (refine su (ap_and (by exact rq_p rfl rfl) (by exact rq_c rfl rfl)) ?_); (refine su (ap_assign (by exact rq_p rfl rfl)) ?_); refine asemC_end ?_) | refine ret_b (by exact rfl) ?_))
  rw [any_not_all, Bool.not_not]
  simp only [gruleOk]; rw [Bool.eq_iff_iff]; simp [List.length_pos_iff]

/-- names, all different -/
def distOk (l : List ByteArray) : Bool := l.all gnOk && decide l.Nodup
theorem distinct_fn (l : List ByteArray) (hl : l.length ≤ 9223372036854775807) : Fn Tryd.prog 22 [strsA l] (boolA (distOk l)) := by
  refine Fn.intro (by exact rfl) (by kernel_rfl) Tryd.func22 rfl rfl Tryd.ntmps22 (by exact Nat.le_of_ble_eq_true rfl) ?_; intro Γ hm
  (repeat' (first | refine WP.seq ?_ | refine WP.block ?_ | refine go_n ?_ | (refine WP.regionC (id := 0) ?_; (refine su (ap_assign (by exact rq_p rfl rfl)) ?_); refine asemC_end ?_) | (refine WP.regionC (id := 1) ?_; (refine su (ap_move (by exact rq_p rfl rfl)) ?_); (refine su (ap_len_m (by exact rfl) (by exact rq_p rfl rfl)) ?_); (refine su (ap_move (by exact rq_p rfl rfl)) ?_); refine asemC_end ?_)))
  refine wp_loop (fun k => k ≤ l.length ∧ ∀ j, j < k → gnOk (nth l j) = true ∧ ∀ i, i < j → nth l i ≠ nth l j) (fun k => l.length - k) (fun k => (S 23 [(0, strsA l), (5, strsA l), (6, intA (l.length : Nat)), (7, intA (k : Nat))] 0 [])) 0 ⟨[], ToR.S rfl (by repeat' (first | exact rt_nil | refine rt_e (by exact rfl) (by exact rfl) ?_ | refine rt_p (by exact rfl) (by exact rfl) (by first | (simp [AV.bd, bdL, bdL_append]; done) | fail) ?_)) (by repeat' (exact ro_nil)) (by decide) (by (rw [hm]; exact rfl)) (by exact rfl) (by (simp [bdT, AV.bd, bdL, bdL_append]; done)) (by repeat' (exact True.intro)) (by (rw [hm]; exact Nat.le_of_ble_eq_true rfl))⟩ ⟨Nat.zero_le _, by simp⟩ ?_
  rintro k ⟨hk, hall⟩
  (repeat' (first | refine WP.seq ?_ | refine WP.block ?_ | refine go_n ?_ | refine WP.skip ?_ | refine WP.exit ?_ | refine WP.ret ?_ | refine go_x ?_ | refine go_r ?_ | refine bl_n ?_ | refine bl_r ?_ | refine bl_x ?_ | refine bo_r ?_ | (refine wp_cond (by exact rfl) (fun hc => ?_) (fun hc => ?_) <;> (try simp only [decide_eq_true_eq, decide_eq_false_iff_not, Decidable.not_not, Bool.and_eq_true, Bool.or_eq_true, Bool.not_eq_true', Bool.not_eq_false', Bool.or_eq_false_iff, Bool.and_eq_false_iff, Int.not_lt, Int.not_le, reduceCtorEq, ne_eq, Bool.not_true, Bool.not_false, Bool.not_eq_true, Bool.not_eq_false] at hc) <;> (try (exfalso; omega))) | (refine WP.regionC (id := 2) ?_; (refine su (ap_lss (by exact rq_p rfl rfl) (by exact rq_p rfl rfl)) ?_); refine asemC_end ?_) | (refine WP.regionC (id := 3) ?_; (refine su (ap_move (by exact rq_p rfl rfl)) ?_); (refine su (ap_idx_n (by exact rq_p rfl rfl) (by exact rq_p rfl rfl) (by omega)) ?_); (refine su (ap_load_w (by exact rq_p rfl rfl) (by exact rfl)) ?_); (refine su (ap_assign (by exact rq_p rfl rfl)) ?_); (refine su (ap_assign (by exact rq_p rfl rfl)) ?_); refine asemC_end ?_) | (refine WP.regionC (id := 4) ?_; (refine su (ap_move (by exact rq_p rfl rfl)) ?_); (refine sc_p rfl rfl (by first | ((repeat' first | exact SubL.nil | refine SubL.cons ?_ ?_ | exact Sub.refl); done) | fail) (by first | (simp [bdL, bdL_append, AV.bd]; done) | fail) (name_fn _) ?_); (refine su (ap_not (by exact rq_p rfl rfl)) ?_); (refine su (ap_move (by exact rq_p rfl rfl)) ?_); (refine sg (by exact gq_vf rfl rfl) (fun he => ap_move (by exact rq_p rfl rfl)) ?_); (refine sg (by exact gq_vf rfl rfl) (fun he => ap_move (by exact rq_p rfl rfl)) ?_); (refine sg (by exact gq_vf rfl rfl) (fun he => ap_slice_m (by exact rq_c rfl rfl) (by exact bq_none) (by exact bq_some (by exact rq_c rfl rfl)) (by (try simp only [List.all_cons, List.all_append, List.all_nil, id, Bool.and_true, decide_eq_true_eq, decide_eq_false_iff_not, Decidable.not_not, Bool.and_eq_true, Bool.or_eq_true, Bool.not_eq_true', Bool.not_eq_false', Bool.or_eq_false_iff, Bool.and_eq_false_iff, Int.not_lt, Int.not_le, reduceCtorEq, ne_eq, Bool.not_true, Bool.not_false, Bool.not_eq_true, Bool.not_eq_false] at he); omega)) ?_); (refine sg (by exact gq_vf rfl rfl) (fun he => ap_move (by exact rq_p rfl rfl)) ?_); (refine sg_p (by exact gq_vf rfl rfl) (fun he => ⟨(by exact rq_p rfl rfl), (RqL.cons (by exact rq_c rfl rfl) (RqL.cons (by exact rq_c rfl rfl) (RqL.nil))), (by first | ((repeat' first | exact SubL.nil | refine SubL.cons ?_ ?_ | exact Sub.refl); done) | fail), (by first | (simp [bdL, bdL_append, AV.bd]; done) | fail), containsS_fn ((l.take (k : Int).toNat).drop (0 : Int).toNat) (nth l k)⟩) ?_); (refine su (ap_or (by exact rq_p rfl rfl) (by exact rq_c rfl rfl)) ?_); refine asemC_end ?_) | (refine WP.regionC (id := 5) ?_; (refine su (ap_assign (by exact rq_p rfl rfl)) ?_); refine asemC_end ?_) | (refine WP.regionC (id := 6) ?_; (refine su (ap_add (by exact rq_p rfl rfl) (by exact rq_p rfl rfl) (by exact inr_i64_of (by omega))) ?_); (refine su (ap_move (by exact rq_p rfl rfl)) ?_); refine asemC_end ?_) | (refine WP.regionC (id := 7) ?_; (refine su (ap_assign (by exact rq_p rfl rfl)) ?_); refine asemC_end ?_) | refine ret_b (by exact rfl) ?_))
  · rcases hc with hc | hc
    · rw [show distOk l = false by simp only [distOk, all_nth_no (l := l) (k := k) (by omega) hc, Bool.false_and]]
    · rw [List.any_eq_true] at hc
      obtain ⟨y, hy, he⟩ := hc
      simp only [Int.toNat_natCast, Int.toNat_zero, List.drop_zero, decide_eq_true_eq] at hy he
      obtain ⟨i, hi, rfl⟩ := List.mem_take_iff_getElem.1 hy
      rw [show distOk l = false by simp only [distOk, decide_eq_false (not_nodup (l := l) (j := k) (k := i) (by omega) (by omega) (by rw [nth_eq (by omega)]; exact he.symm)), Bool.and_false]]
  · refine ⟨k + 1, ⟨by omega, by omega, fun j hj => ?_⟩, ⟨[], ToR.S rfl (by repeat' (first | exact rt_nil | refine rt_e (by exact rfl) (by exact rfl) ?_ | refine rt_p (by exact rfl) (by exact rfl) (by first | (simp [AV.bd, bdL, bdL_append]; done) | fail) ?_)) (by repeat' (exact ro_nil)) (by decide) (by (rw [hm]; exact rfl)) (by exact rfl) (by (simp [bdT, AV.bd, bdL, bdL_append]; done)) (by repeat' (exact True.intro)) (by (rw [hm]; exact Nat.le_of_ble_eq_true rfl))⟩⟩
    by_cases h : j = k
    · subst h
      refine ⟨hc.1, fun i hi e => ?_⟩
      have h2 := hc.2
      rw [List.any_eq_false] at h2
      refine h2 (nth l i) ?_ (by simp [e])
      simp only [Int.toNat_natCast, Int.toNat_zero, List.drop_zero]
      rw [nth_eq (by omega)]
      exact List.mem_take_iff_getElem.2 ⟨i, by omega, rfl⟩
    · exact hall j (by omega)
  have : k = l.length := by omega
  subst this
  simp only [distOk, all_of_nth fun j hj => (hall j hj).1, decide_eq_true (nodup_nth fun j hj => (hall j hj).2), Bool.and_true]
end Go.Lg

/- A builder's bytes under a new number (where a function may have written nothing). -/
namespace Go.Lg
open Go.RowKit Go.Lib Go.Proofs

section
variable {P : Program} {Γ : Cx} {ρ : Nat → Option Nat} {s : St} {a : Act} {w : World}
def mvρ (M : Nat) (b : Option Nat) (ρ : Nat → Option Nat) (i : Nat) : Option Nat := if i = M then b else ρ i
theorem mvρ_lt {M i : Nat} {b : Option Nat} {ρ : Nat → Option Nat} (h : i < M) : mvρ M b ρ i = ρ i := if_neg (by omega)
theorem mvρ_M {M : Nat} {b : Option Nat} {ρ : Nat → Option Nat} : mvρ M b ρ M = b := if_pos rfl

theorem SRa.moveB {M : Nat} (h : SRa Γ (fun id => id < M) ρ s a w) (hM : s.objs.length = M) {i j m : Nat} {T : TypeId} {bs : List UInt8} (hi : s.live i (.bld T (.ref j 1 0 m))) (hj : s.live j (.bytes bs)) (hij : i ≠ j) :
    SRa Γ (fun id => id < M + 1) (mvρ M (ρ j) ρ) ⟨s.tmps, ((s.objs.set j none).set i (some (.bld T (.ref M 1 0 m)))) ++ [some (.bytes bs)]⟩ a w := by
  have hiM : i < M := by rw [← hM]; exact live_len hi
  have hjM : j < M := by rw [← hM]; exact live_len hj
  have hlv : ∀ id o, St.live ⟨s.tmps, ((s.objs.set j none).set i (some (.bld T (.ref M 1 0 m)))) ++ [some (.bytes bs)]⟩ id o → (s.live id o ∧ id < M ∧ id ≠ i ∧ id ≠ j) ∨ (id = i ∧ o = .bld T (.ref M 1 0 m)) ∨ (id = M ∧ o = .bytes bs) := by
    intro id o hl
    simp only [St.live] at hl
    by_cases h1 : id < M
    · rw [List.getElem?_append_left (by simp; omega)] at hl
      by_cases h2 : id = i
      · subst h2; rw [List.getElem?_set_self (by simp; omega)] at hl; simp at hl; exact .inr (.inl ⟨rfl, hl.symm⟩)
      · rw [List.getElem?_set_ne (fun e => h2 e.symm)] at hl
        by_cases h3 : id = j
        · subst h3; rw [List.getElem?_set_self (by omega)] at hl; simp at hl
        · rw [List.getElem?_set_ne (fun e => h3 e.symm)] at hl; exact .inl ⟨hl, h1, h2, h3⟩
    · rw [List.getElem?_append_right (by simp; omega)] at hl
      simp only [List.length_set, hM] at hl
      by_cases h2 : id = M
      · subst h2; simp at hl; exact .inr (.inr ⟨rfl, hl.symm⟩)
      · have : (1 : Nat) ≤ id - M := by omega
        rw [List.getElem?_eq_none (by simpa using this)] at hl; cases hl
  have hA' : ∀ id, id < M → id < M + 1 ∧ mvρ M (ρ j) ρ id = ρ id := fun id hid => ⟨by omega, mvρ_lt hid⟩
  have hI : ∀ b, Im Γ ρ s w b → Im Γ (mvρ M (ρ j) ρ) ⟨s.tmps, ((s.objs.set j none).set i (some (.bld T (.ref M 1 0 m)))) ++ [some (.bytes bs)]⟩ w b ∧ w.heap[b]? = w.heap[b]? := by
    rintro b ⟨h1, h2, h3⟩
    refine ⟨⟨h1, h2, fun id o hl => ?_⟩, rfl⟩
    rcases hlv id o hl with ⟨q, hq, _, _⟩ | ⟨rfl, _⟩ | ⟨rfl, _⟩
    · rw [mvρ_lt hq]; exact h3 id o q
    · rw [mvρ_lt hiM]; exact h3 _ _ hi
    · rw [mvρ_M]; exact h3 _ _ hj
  refine h.turn rfl hA' hI (fun _ _ hn => hn) ?_ ?_ ?_ ?_ ?_ h.fr
  · intro id o hl
    rcases hlv id o hl with ⟨q, hq, _, _⟩ | ⟨rfl, rfl⟩ | ⟨rfl, rfl⟩
    · rw [mvρ_lt hq]
      exact (h.obj id o q).mono hA' hI (fun _ _ hn => hn) (fun _ _ => rfl)
    · rw [mvρ_lt hiM]
      have ho := h.obj _ _ hi
      cases hr : ρ id with
      | none =>
        rw [hr] at ho
        rcases ho with q | ⟨k, q⟩ <;> cases q
      | some b =>
        rw [hr] at ho
        obtain ⟨p, v, q1, q2, q3, q4⟩ := ho
        refine ⟨p, v, q1, q2, q3, ?_⟩
        cases q4 with
        | ref hA hb hl' hcs hm => exact .ref (Nat.lt_succ_self _) (by rw [mvρ_M]; exact hb) hl' hcs hm
        | refn hA hb => exact .refn (Nat.lt_succ_self _) (by rw [mvρ_M]; exact hb)
    · rw [mvρ_M]
      exact (h.obj _ _ hj).mono hA' hI (fun _ _ hn => hn) (fun _ _ => rfl)
  · intro id o hl
    rcases hlv id o hl with ⟨q, hq, _, _⟩ | ⟨rfl, rfl⟩ | ⟨rfl, rfl⟩ <;> omega
  · intro id hid; simp; omega
  · intro id o b hl hb
    rcases hlv id o hl with ⟨q, hq, _, _⟩ | ⟨rfl, rfl⟩ | ⟨rfl, rfl⟩
    · rw [mvρ_lt hq] at hb; exact h.own id o b q hb
    · rw [mvρ_lt hiM] at hb; exact h.own _ _ b hi hb
    · rw [mvρ_M] at hb; exact h.own _ _ b hj hb
  · have key : ∀ id o b, St.live ⟨s.tmps, ((s.objs.set j none).set i (some (.bld T (.ref M 1 0 m)))) ++ [some (.bytes bs)]⟩ id o → mvρ M (ρ j) ρ id = some b → ∃ o', s.live (if id = M then j else id) o' ∧ ρ (if id = M then j else id) = some b := by
      intro id o b hl hb
      rcases hlv id o hl with ⟨q, hq, _, _⟩ | ⟨rfl, rfl⟩ | ⟨rfl, rfl⟩
      · rw [mvρ_lt hq] at hb; rw [if_neg (by omega)]; exact ⟨o, q, hb⟩
      · rw [mvρ_lt hiM] at hb; rw [if_neg (by omega)]; exact ⟨_, hi, hb⟩
      · rw [mvρ_M] at hb; rw [if_pos rfl]; exact ⟨_, hj, hb⟩
    intro id id' o o' b h1 h2 h3 h4
    obtain ⟨p1, p2, p3⟩ := key id o b h1 h3
    obtain ⟨q1, q2, q3⟩ := key id' o' b h2 h4
    have e := h.inj _ _ _ _ b p2 q2 p3 q3
    have nj : ∀ id o, St.live ⟨s.tmps, ((s.objs.set j none).set i (some (.bld T (.ref M 1 0 m)))) ++ [some (.bytes bs)]⟩ id o → id ≠ j := by
      intro id o hl
      rcases hlv id o hl with ⟨_, _, _, q⟩ | ⟨rfl, _⟩ | ⟨rfl, _⟩
      · exact q
      · exact hij
      · omega
    have n1 := nj id o h1
    have n2 := nj id' o' h2
    split at e <;> split at e <;> omega
end

theorem wp_mv {P : Program} {Γ : Cx} {n M : Nat} {l : List (Nat × AV)} {os : List (Nat × Option AObj)} {c : Code} {Q : Exit → St → Prop} {i j m : Nat} {T : TypeId} {bs : List UInt8} (hi : lkO i os = some (.bld T (.ref j 1 0 m))) (hj : lkO j os = some (.bytes bs)) (hne : Nat.beq i j = false) (hlt : (Nat.blt i M && Nat.blt j M) = true)
    (hw : WP P Γ c Q (S n l (M + 1) ((M, some (.bytes bs)) :: (i, some (.bld T (.ref M 1 0 m))) :: (j, none) :: os))) : WP P Γ c Q (S n l M os) := fun a w hs => by
  refine hw a w ?_
  obtain ⟨ρ, hs⟩ := hs
  have hM : (S n l M os).objs.length = M := ol_length M os
  simp only [Bool.and_eq_true] at hlt
  have hi' := blt_of hlt.1
  have hj' := blt_of hlt.2
  rw [hM] at hs
  have h := hs.moveB hM (i := i) (j := j) (m := m) (T := T) (bs := bs) (by show (ol M os)[i]? = _; rw [ol_get _ hi', hi]) (by show (ol M os)[j]? = _; rw [ol_get _ hj', hj]) (Nat.ne_of_beq_eq_false hne)
  have e : (⟨(S n l M os).tmps, (((S n l M os).objs.set j none).set i (some (.bld T (.ref M 1 0 m)))) ++ [some (.bytes bs)]⟩ : St) = S n l (M + 1) ((M, some (.bytes bs)) :: (i, some (.bld T (.ref M 1 0 m))) :: (j, none) :: os) := by
    simp only [S, ol_set, ol_push]
  rw [e] at h
  refine ⟨mvρ M (ρ j) ρ, ?_⟩
  have e2 : (S n l (M + 1) ((M, some (.bytes bs)) :: (i, some (.bld T (.ref M 1 0 m))) :: (j, none) :: os)).objs.length = M + 1 := ol_length _ _
  rw [e2]; exact h
end Go.Lg

/- (*strings.Builder).WriteByte. -/
namespace Go.Lg
open Go.RowKit Go.Lib Go.Proofs

section
variable {P : Program} {t ty : TypeId} {i : TypeInfo}
theorem bytes_append1 (ht : P.underlying t = some (.slice GB)) (hi : P.info? GB = some i) (hz : i.zero = some (.int .u8 0)) (hsize : i.size = 1) (hby : i.bytes = 1)
    {w : World} {v : Value} {n : Nat} {xs : List Value} (hown : w.ownsRow 0 GB 1 v n xs) (x : UInt8) {ad : Addr} {c : Nat} (hcell : w.cell? ad = some (.int .u8 x.toNat)) (hn : n + 1 ≤ 140737488355328) :
    ∃ v' w', (Builtin.append_ #[t, t] ty #[v, .slice (some ad) 1 c]).run P w = .ok v' w' ∧ w'.ownsRow 0 GB 1 v' (n + 1) (xs ++ [.int .u8 x.toNat]) ∧ w.grownBy w' v.ownBlock ∧
      (v'.ownBlock = v.ownBlock ∨ v'.ownBlock = some w.heap.size) ∧ ∀ b m, csize w b = some m → csize w' b = some m := by
  have hxl : xs.length = n := by simpa using hown.1
  have hlen : (xs ++ [Value.int .u8 x.toNat]).length = (n + 1) * 1 := by simp [hxl]
  have hcz : ∀ (o : Obj) b m, csize w b = some m → csize (w.drew.alloc o) b = some m := fun o b m h => csize_alloc w.drew o b m h
  have hl : ([Value.int .u8 x.toNat] : List Value).length = 1 * i.size := by simp [hsize]
  have hnews : ∀ j u, ([Value.int .u8 x.toNat] : List Value)[j]? = some u → w.cell? (ad.add j) = some u := by
    intro j u hj
    match j with
    | 0 => simp at hj; subst hj; simpa [Addr.add] using hcell
    | j + 1 => simp at hj
  have h1 : ∀ u ∈ ([Value.int .u8 x.toNat] : List Value), u.oneCell' = true := by simp [Value.oneCell']
  have grown : ∀ (old : Nat), old < n + 1 → ∀ (row : Option Nat),
      (w.drew.alloc (.cells (xs.toArray ++ [Value.int .u8 x.toNat].toArray ++ Builtin.zeroCells (Value.int .u8 0).cells (grownCap w (n + 1) old GB - (n + 1))) GB)).ownsRow 0 GB 1
        (.slice (some ⟨w.heap.size, 0, none⟩) (n + 1) (grownCap w (n + 1) old GB)) (n + 1) (xs ++ [Value.int .u8 x.toNat]) ∧
      w.grownBy (w.drew.alloc (.cells (xs.toArray ++ [Value.int .u8 x.toNat].toArray ++ Builtin.zeroCells (Value.int .u8 0).cells (grownCap w (n + 1) old GB - (n + 1))) GB)) row := by
    intro old ho row
    have hge := grownCap_ge w (n + 1) old GB
    have hcm : grownCap w (n + 1) old GB ≤ maxLen := grownCap_le_maxLen w (n + 1) old GB (by unfold maxLen; omega)
    refine ⟨⟨hlen, .inr ⟨w.heap.size, _, _, rfl, Nat.zero_le _, heap_alloc_new w.drew _, hge, hcm, ?_, ?_⟩⟩, ⟨rfl, rfl, rfl, by simp, fun k hk _ => Below.heap_alloc w.drew _ k hk⟩⟩
    · have hz1 : (Value.int IntKind.u8 0).cells.size = 1 := rfl
      simp only [Array.size_append, List.size_toArray, size_zeroCells, hz1, hxl, List.length_cons, List.length_nil]
      omega
    · simp only [Array.toList_append, List.append_assoc]
      rw [← List.append_assoc, ← hlen]
      exact List.take_left
  rcases hown.2 with ⟨rfl, rfl⟩ | ⟨g, cap, cur, rfl, hbg, hg, hnc, hcm, hcs, htake⟩
  · have hx : xs = [] := List.eq_nil_of_length_eq_zero hxl
    subst hx
    have hr := run_append_nil (P := P) w t ty GB i (.int .u8 0) ht hi hz ad 1 c _ hl hnews (by omega) (by omega) (by rw [hby]; omega)
    have hgr := grown 0 (by omega) (Value.ownBlock (.slice none 0 0))
    simp only [Nat.zero_add, List.nil_append, Array.empty_append] at hgr ⊢
    exact ⟨_, _, hr, hgr.1, hgr.2, .inr rfl, hcz _⟩
  · have hcs' : cur.size = cap := by simpa using hcs
    by_cases hroom : n + 1 ≤ cap
    · have hr := run_append_room (P := P) w t ty GB i ht hi g n cap cur hg ad 1 c _ hl hnews h1 hroom (by simp [hsize]; omega)
      rw [hsize] at hr
      have hsz : (cur.toList.take (n * 1) ++ [Value.int .u8 x.toNat] ++ cur.toList.drop (n * 1 + [Value.int .u8 x.toNat].length)).toArray.size = cur.size := by
        simp only [List.size_toArray, List.length_append, List.length_take, List.length_drop, Array.length_toList, List.length_cons, List.length_nil]
        omega
      refine ⟨_, _, hr, ⟨hlen, .inr ⟨g, cap, _, rfl, hbg, setRow_heap w g cur _ GB _ hg, hroom, hcm, by rw [hsz]; exact hcs, ?_⟩⟩, ⟨rfl, rfl, rfl, by simp, fun k _ hk => setRow_other w g k _ (fun e => hk (by simp [Value.ownBlock, e]))⟩, .inl rfl, csize_setRow hg hsz⟩
      rw [htake, ← hlen]
      exact List.take_left
    · have holds : ∀ j u, xs[j]? = some u → w.cell? ((⟨g, 0, none⟩ : Addr).add j) = some u := hown.cells (g := g) rfl
      have hr := run_append_grow (P := P) w t ty GB i (.int .u8 0) ht hi hz ⟨g, 0, none⟩ n cap xs (by rw [hsize]; simpa using hxl) holds ad 1 c _ hl hnews (by omega) (by omega) (by rw [hby]; exact growslice_fits (by omega) (by omega))
      have hgr := grown cap (by omega) (Value.ownBlock (.slice (some ⟨g, 0, none⟩) n cap))
      exact ⟨_, _, hr, hgr.1, hgr.2, .inr rfl, hcz _⟩
theorem wpList_bytes_append1 {ops : Array Oper} {rest : List Oper} {o : Oper} {a : Act} {Q : Exit → Act → World → Prop} (hgd : o.guard = none) (sl x : Operand)
    (ho : o.op = .call { callee := .builtin .append, args := #[sl, x], argTypes := #[t, t] })
    (ht : P.underlying t = some (.slice GB)) (hi : P.info? GB = some i) (hz : i.zero = some (.int .u8 0)) (hsize : i.size = 1) (hby : i.bytes = 1)
    {w : World} (v : Value) (n : Nat) (xs : List Value) (hs : a.eval sl = v) (hown : w.ownsRow 0 GB 1 v n xs) (c : UInt8) {ad : Addr} {cp : Nat} (hx : a.eval x = .slice (some ad) 1 cp) (hcell : w.cell? ad = some (.int .u8 c.toNat)) (hn : n + 1 ≤ 140737488355328)
    (h : ∀ v' w', w'.ownsRow 0 GB 1 v' (n + 1) (xs ++ [.int .u8 c.toNat]) → w.grownBy w' v.ownBlock → (v'.ownBlock = v.ownBlock ∨ v'.ownBlock = some w.heap.size) → (∀ b m, csize w b = some m → csize w' b = some m) → wpList P ops Q rest (a.put o.dst v') w') : wpList P ops Q (o :: rest) a w := by
  refine wpList_plain hgd fun K hK => ?_
  obtain ⟨v', w', hr, h2, h3, h4, h5⟩ := bytes_append1 (P := P) (ty := o.type) (c := cp) ht hi hz hsize hby hown c hcell hn
  unfold Oper.wp execOp
  simp only [ho, resolve, invoke, builtin, Sem.run_bind, Sem.run_pure, Result.andThen_ok, List.map_toArray, List.map_cons, List.map_nil, hs, hx, hr]
  exact hK _ _ (h v' w' h2 h3 h4 h5)
end

section
set_option maxHeartbeats 2000000
set_option maxRecDepth 100000
theorem wbyte_calls (T : TypeId) (hT : BLies T) (b : Nat) (w : World) {p v : Value} (hb : w.heap[b]? = some (.cells #[p, v] T (0, 0))) (hp : p = .pointer none ∨ p = .pointer (some ⟨b, 0, none⟩)) {n : Nat} {xs : List Value} (hown : w.ownsRow 0 GB 1 v n xs) (hne : v.ownBlock ≠ some b)
    (c : UInt8) (hn : n + 1 ≤ 140737488355328) :
    Calls Tryd.prog 51 #[.pointer (some ⟨b, 0, none⟩), .int .u8 c.toNat] w fun e w' => e = .returned .nilIface ∧ ∃ v', w'.heap[b]? = some (.cells #[.pointer (some ⟨b, 0, none⟩), v'] T (0, 0)) ∧
      w'.ownsRow 0 GB 1 v' (n + 1) (xs ++ [.int .u8 c.toNat]) ∧ v'.ownBlock ≠ some b ∧ BFr w w' b v.ownBlock ∧ (v'.ownBlock = v.ownBlock ∨ ∃ k, v'.ownBlock = some k ∧ w.heap.size ≤ k) := by
  obtain ⟨i0, hi, hz, h1, h2⟩ := info_byte
  have hbw : b < w.heap.size := (Array.getElem?_eq_some_iff.1 hb).1
  go_enter Tryd.func51, Tryd.ntmps51
  go_wp2_with (go_at_call 49; refine (ccheck T hT b _ hb hp v.ownBlock).mono ?_)
  rintro e w1 ⟨rfl, hb1, hf1, hs1, ho1⟩
  have c0 : w1.cell? ⟨b, 0, none⟩ = some (.pointer (some ⟨b, 0, none⟩)) := by rw [cell_at hb1]; rfl
  have c1 : w1.cell? ⟨b, 1, none⟩ = some v := by rw [cell_at hb1]; rfl
  have hown1 : w1.ownsRow 0 GB 1 v n xs := by
    refine ⟨hown.1, ?_⟩
    rcases hown.2 with q | ⟨g, cap, cur, rfl, q1, q2, q3⟩
    · exact .inl q
    · exact .inr ⟨g, cap, cur, rfl, q1, by rw [ho1 g (fun e => hne (by simp [Value.ownBlock, e]))]; exact q2, q3⟩
  have hsl : Tryd.prog.underlying 62 = some (.slice GB) := Tryd.underlying62
  go_wp2_with (at_builtin; refine wpList_bytes_append1 (t := 62) rfl _ _ rfl hsl hi hz h1 h2 v n xs rfl ?hown c rfl ?hcell hn ?_)
  · exact hown1.alloc _
  · have hn1 := heap_alloc_new w1 (Obj.cells #[Value.int IntKind.u8 c.toNat] 5)
    rw [hs1] at hn1
    simp [World.cell?, hn1]
  intro v' w2 hown' hgrow hfresh hcz
  have hsz : (w1.alloc (Obj.cells #[Value.int IntKind.u8 c.toNat] 5)).heap.size = w1.heap.size + 1 := Array.size_push _
  have hb2 : w2.heap[b]? = some (.cells #[.pointer (some ⟨b, 0, none⟩), v] T (0, 0)) := by
    rw [hgrow.block b (by omega) (fun e => hne e.symm), Below.heap_alloc w1 _ b (by omega)]
    exact hb1
  have d0 : w2.cell? ⟨b, 0, none⟩ = some (.pointer (some ⟨b, 0, none⟩)) := by rw [cell_at hb2]; rfl
  have d1 : w2.cell? ⟨b, 1, none⟩ = some v := by rw [cell_at hb2]; rfl
  have f1 : w2.frozen? ⟨b, 1, none⟩ = false := by simp [World.frozen?, hb2]
  have hfresh : v'.ownBlock = v.ownBlock ∨ ∃ k, v'.ownBlock = some k ∧ w.heap.size ≤ k := by
    rcases hfresh with q | q
    · exact .inl q
    · exact .inr ⟨_, q, by omega⟩
  have hnb' : v'.ownBlock ≠ some b := by
    rcases hfresh with q | ⟨k, q, hk⟩
    · rw [q]; exact hne
    · rw [q]; intro e; injection e with e; omega
  obtain ⟨ao, n', cap, rfl⟩ : ∃ ao n' cap, v' = .slice ao n' cap := by
    rcases hown'.2 with ⟨hv, _⟩ | ⟨g, cap, cur, hv, _⟩
    · exact ⟨_, _, _, hv⟩
    · exact ⟨_, _, _, hv⟩
  go_wp2
  go_ret
  have hfr2 : BFr w w2 b v.ownBlock := ⟨hgrow.os.trans hf1.os, hgrow.tape.trans hf1.tape, hgrow.output.trans hf1.output, by have := hgrow.size; omega, fun k hk hkb hkr => (hgrow.block k (by omega) hkr).trans ((Below.heap_alloc w1 _ k (by omega)).trans (ho1 k hkb)), fun k m hm => hcz k m (csize_alloc w1 _ k m (hf1.csize k m hm))⟩
  refine ⟨rfl, _, by rw [setCell_heap hb2]; rfl, ?_, hnb', hfr2.setCell hb2 _ _, hfresh⟩
  refine ⟨hown'.1, ?_⟩
  rcases hown'.2 with q | ⟨g, cap', cur, hv, q1, q2, q3⟩
  · exact .inl q
  · exact .inr ⟨g, cap', cur, hv, q1, by rw [setCell_other _ _ (fun e => hnb' (by rw [hv, ← e]; rfl))]; exact q2, q3⟩
end

theorem wbyte_spec (T : TypeId) (hT : BLies T) (l : List UInt8) (c0 : UInt8) (hn : l.length + 1 ≤ 140737488355328) :
    Spec Tryd.prog 51 [.ptr 0 2 0 0, .val (.int .u8 c0.toNat)] [some (.bld T (.ref 1 1 0 l.length)), some (.bytes l)] fun r os' => r = .val .nilIface ∧ os' = [some (.bld T (.ref 2 1 0 (l.length + 1))), none, some (.bytes (l ++ [c0]))] := by
  refine ⟨by kernel_rfl, fun Γ vs hm hs => ?_⟩
  have hm2 : Γ.m = 2 := hm
  have hlen : vs.size = 2 := by obtain ⟨ρ, h⟩ := hs; exact h.len
  have hv0 := Array.getElem?_eq_getElem (show 0 < vs.size by omega)
  have hv1 := Array.getElem?_eq_getElem (show 1 < vs.size by omega)
  obtain ⟨b, p, v, hp0, hi⟩ := bld_in hm2 hs hv0
  have h1 : vs[1] = .int .u8 c0.toNat := by obtain ⟨ρ, h⟩ := hs; exact (h.tmp 1 _ _ rfl hv1).val_eq
  have hvs : vs = #[.pointer (some ⟨b, 0, none⟩), .int .u8 c0.toNat] := by
    apply Array.ext
    · exact hlen
    · intro i h1' h2'
      match i with
      | 0 => exact hp0
      | 1 => exact h1
      | i + 2 => exact absurd h2' (by simp)
  subst hvs
  refine (wbyte_calls T hT b Γ.w0 hi.blk hi.hp hi.own hi.ne c0 hn).mono ?_
  rintro e w' ⟨rfl, v', hb', hown', hnb', hfr, hfresh⟩
  obtain ⟨ρ, h⟩ := hs
  refine ⟨_, _, _, rfl, ⟨rfl, rfl⟩, fun i => if i = 2 then v'.ownBlock else ρ i, ?_⟩
  have hxs : byteCells l ++ [Value.int .u8 c0.toNat] = byteCells (l ++ [c0]) := by rw [byteCells_append]; rfl
  rw [hxs] at hown'
  have hll : (l ++ [c0]).length = l.length + 1 := by simp
  have hrow : OR (fun id => id < 3) (fun i => if i = 2 then v'.ownBlock else ρ i) (Im Γ (fun i => if i = 2 then v'.ownBlock else ρ i) ⟨[.val .nilIface], [some (.bld T (.ref 2 1 0 (l.length + 1))), none, some (.bytes (l ++ [c0]))]⟩ w') w' v'.ownBlock (.bytes (l ++ [c0])) := by
    rcases hown'.2 with ⟨rfl, hz⟩ | ⟨g, cap, cur, rfl, _, hg, hnc, hcm, hcs, htake⟩
    · have hnil : l ++ [c0] = [] := List.eq_nil_of_length_eq_zero (by rw [hll]; exact hz)
      rw [hnil]; exact .inl rfl
    · refine ⟨cur, hg, by omega, fun j x hx => ?_⟩
      have hj : j < l.length + 1 := by rw [← hll]; exact (List.getElem?_eq_some_iff.1 hx).1
      have := congrArg (fun q => q[j]?) htake
      simp only [Nat.mul_one, List.getElem?_take, if_pos hj, byteCells, List.getElem?_map, hx, Option.map_some] at this
      simpa using this
  refine ⟨fun i hi' => ⟨show i < 3 by omega, (if_neg (by omega)).trans (h.ext i hi').2⟩, rfl, ?_, ?_, ?_, fun _ hid => hid, ?_, ?_, rfl, hfr.fr hi hm2⟩
  · intro i x u hx hu
    match i with
    | 0 =>
      simp only [List.getElem?_cons_zero, Option.some.injEq] at hx
      simp at hu
      subst hx hu
      exact .val rfl
    | i + 1 => simp at hx
  · intro id o hl
    match id with
    | 0 =>
      simp [St.live] at hl; subst hl
      have hr0 : ρ 0 = some b := (h.ext 0 (by omega)).2.trans hi.r0
      show OR _ _ _ _ (if (0 : Nat) = 2 then v'.ownBlock else ρ 0) _
      rw [if_neg (by decide), hr0]
      refine ⟨_, v', hb', .inr rfl, ?_, ?_⟩
      · rcases hown'.2 with ⟨rfl, _⟩ | ⟨g, cap, cur, rfl, _⟩ <;> rfl
      · rcases hown'.2 with ⟨rfl, hz⟩ | ⟨g, cap, cur, rfl, _, hg, hnc, hcm, hcs, htake⟩
        · rw [hz]; exact .refn (show (2 : Nat) < 3 by decide) rfl
        · exact .ref0 (show (2 : Nat) < 3 by decide) rfl hnc (by simp [csize, hg]; omega) hcm
    | 1 => simp [St.live] at hl
    | 2 => simp [St.live] at hl; subst hl; exact hrow
    | i + 3 => simp [St.live] at hl
  · intro id o hl
    have := (List.getElem?_eq_some_iff.1 hl).1
    simpa using this
  · intro id o c hl hc
    match id with
    | 0 =>
      have hc : ρ 0 = some c := hc
      exact .inr ⟨0, by omega, (h.ext 0 (by omega)).2 ▸ hc⟩
    | 1 => simp [St.live] at hl
    | 2 =>
      have hc : v'.ownBlock = some c := hc
      rcases hfresh with q | q
      · exact .inr ⟨1, by omega, by rw [hi.r1, ← q]; exact hc⟩
      · obtain ⟨k, q, hk⟩ := q
        rw [q] at hc; injection hc with hc; exact .inl (by omega)
    | i + 3 => simp [St.live] at hl
  · intro id id' o o' c h1 h2 h3 h4
    have hr0 : ρ 0 = some b := (h.ext 0 (by omega)).2.trans hi.r0
    match id, id' with
    | 0, 0 => rfl
    | 2, 2 => rfl
    | 0, 2 => have h3 : ρ 0 = some c := h3; have h4 : v'.ownBlock = some c := h4; rw [hr0] at h3; rw [← h3] at h4; exact absurd h4 hnb'
    | 2, 0 => have h4 : ρ 0 = some c := h4; have h3 : v'.ownBlock = some c := h3; rw [hr0] at h4; rw [← h4] at h3; exact absurd h3 hnb'
    | 1, _ => simp [St.live] at h1
    | _, 1 => simp [St.live] at h2
    | i + 3, _ => simp [St.live] at h1
    | _, i + 3 => simp [St.live] at h2


theorem wbyte_wr (T : TypeId) (hT : BLies T) (l : List UInt8) (c0 : UInt8) (n : Int) (hc : n = c0.toNat) (hn : l.length + 1 ≤ 140737488355328) :
    Wr Tryd.prog 51 [.ptr 0 2 0 0, .val (.int .u8 n)] T l (l ++ [c0]) (.val .nilIface) :=
  ⟨by subst hc
      have h := wbyte_spec T hT l c0 hn
      have e : (l ++ [c0]).length = l.length + 1 := by simp
      rw [e]; exact h, rfl, rfl⟩
abbrev TW : TypeId := 66
theorem blies_W : BLies TW := by show _ = true; kernel_rfl
end Go.Lg

/- grammarfile's writer: expressions. -/
namespace Go.Lg
open Go.Proofs
set_option linter.unusedSimpArgs false
set_option linter.unusedVariables false
attribute [local irreducible] Ap Rq asemC WP RunD Ret Gq thenA inBlockA bodyQ noGotoA RqL RqP OpP
set_option maxHeartbeats 4000000
set_option maxRecDepth 20000

theorem wbyte_lit (T : TypeId) (hT : BLies T) (l : List UInt8) (n : Int) (hc : n = (UInt8.ofNat n.toNat).toNat) (hn : l.length + 1 ≤ 140737488355328) :
    Wr Tryd.prog 51 [.ptr 0 2 0 0, .val (.int .u8 n)] T l (l ++ [UInt8.ofNat n.toNat]) (.val .nilIface) := wbyte_wr T hT l _ n hc hn

def encT (t : List UInt8) (b : Bool) : List UInt8 := if b then [40] ++ t ++ [41] else t
def reqP (k : Int) (x : GEx) : Bool := if k = 2 then decide (x.kind = 2) || decide (x.kind = 3) else if k = 3 then decide (x.kind = 3) || decide (x.kind = 2) && decide ((x.kids.length : Int) = 0) else !decide (x.kind = 1)
def sepT (k : Int) : List UInt8 := if k = 2 then [32] else if k = 3 then [32, 124, 32] else []
def tailT (k : Int) (n : ByteArray) : List UInt8 := if k = 1 then bl n else if k = 4 then [63] else if k = 5 then [42] else if k = 6 then [43] else []
mutual
/-- the text of an expression -/
def exT : GEx → List UInt8
  | .mk k n l => kidsT k false l ++ tailT k n
def kidsT (k : Int) (more : Bool) : List GEx → List UInt8
  | [] => []
  | e :: l => ((if more then sepT k else []) ++ encT (exT e) (reqP k e)) ++ kidsT k true l
end
theorem exT_eq (e : GEx) : exT e = kidsT e.kind false e.kids ++ tailT e.kind e.name := by cases e; rw [exT]; rfl
def oneT (k : Int) (i : Nat) (e : GEx) : List UInt8 := (if i = 0 then [] else sepT k) ++ encT (exT e) (reqP k e)
theorem kidsT_snoc (k : Int) (e : GEx) : ∀ (m : Bool) (l : List GEx), kidsT k m (l ++ [e]) = kidsT k m l ++ ((if m || !l.isEmpty then sepT k else []) ++ encT (exT e) (reqP k e))
  | m, [] => by cases m <;> simp [kidsT]
  | m, x :: l => by rw [List.cons_append, kidsT, kidsT, kidsT_snoc k e true l]; simp
theorem kidsT_take {k : Int} {l : List GEx} {i : Nat} (hi : i < l.length) : kidsT k false (l.take (i + 1)) = kidsT k false (l.take i) ++ oneT k i (nth l i) := by
  rw [take_succ_nth hi, kidsT_snoc, oneT]
  cases i with
  | zero => simp
  | succ i => cases l with
    | nil => simp at hi
    | cons x l => simp
theorem kidsT_mono (k : Int) (l : List GEx) {i : Nat} (hi : i ≤ l.length) : (kidsT k false (l.take i)).length ≤ (kidsT k false l).length := by
  induction h : l.length - i generalizing i with
  | zero => rw [List.take_of_length_le (by omega)]; exact Nat.le_refl _
  | succ n ih =>
    have h1 := ih (i := i + 1) (by omega) (by omega)
    rw [kidsT_take (by omega), List.length_append] at h1
    omega

theorem enclosed_wr (e : GEx) (r : Bool) (hE : ∀ bs : List UInt8, bs.length + (exT e).length ≤ 1000000000 → Wr Tryd.prog 62 [.ptr 0 2 0 0, exprA e] TW bs (bs ++ exT e) (.tup []))
    (bs : List UInt8) (hb : bs.length + (encT (exT e) r).length ≤ 1000000000) : Wr Tryd.prog 52 [.ptr 0 2 0 0, exprA e, boolA r] TW bs (bs ++ encT (exT e) r) (.tup []) := by
  cases r with
  | false =>
    have hx := hE bs hb
    show Wr _ _ _ TW bs (bs ++ exT e) _
    refine Wr.intro (by exact rfl) (by exact rfl) (by kernel_rfl) Tryd.func52 rfl rfl Tryd.ntmps52 (by exact Nat.le_of_ble_eq_true rfl) ?_; intro Γ hm
    (repeat' (first | refine WP.seq ?_ | refine go_n ?_ | refine WP.ret ?_ | refine go_r ?_ | refine bo_r ?_ | (refine wp_cond (by exact rfl) (fun hc => ?_) (fun hc => ?_) <;> (try simp only [decide_eq_true_eq, decide_eq_false_iff_not, Decidable.not_not, Bool.and_eq_true, Bool.or_eq_true, Bool.not_eq_true', Bool.not_eq_false', Bool.or_eq_false_iff, Bool.and_eq_false_iff, Int.not_lt, Int.not_le, reduceCtorEq, ne_eq, Bool.not_true, Bool.not_false, Bool.not_eq_true, Bool.not_eq_false] at hc) <;> (try (exfalso; omega))) | (refine WP.regionC (id := 0) ?_; (refine se_box (by exact rfl) (by exact ⟨rfl, rfl⟩) ?_); refine asemC_end ?_) | (refine WP.regionC (id := 1) ?_; (refine su (ap_move (by exact rq_p rfl rfl)) ?_); (refine su (ap_not (by exact rq_p rfl rfl)) ?_); refine asemC_end ?_) | (refine WP.regionC (id := 2) ?_; (refine su (ap_move (by exact rq_p rfl rfl)) ?_); (refine su (ap_load_pw (by exact rq_p rfl rfl) (by exact rfl) (by exact rfl) (by exact rfl)) ?_); (refine sc_wr rfl rfl (by repeat' first | exact ArgS.nil | refine ArgS.ren (by first | exact rfl | exact ren_p (by simp [AV.bd, bdL, bdL_append])) (by first | exact rfl | (simp [AV.bd, bdL, bdL_append]; done)) ?_) (by exact rfl) (by exact rfl) (by exact rfl) (by exact rfl) (by exact rfl) (by exact rfl) (hx) ?_); refine asemC_end ?_)))
    exact retW_0 ⟨[0, 1, 3], ToR.S rfl (by repeat' (exact rt_nil)) (by repeat' (first | exact ro_nil | refine ro_b (by exact rfl) (by first | exact rfl | fail) ?_ | refine ro_d (by exact rfl) (by exact rfl) ?_)) (by decide) (by exact rfl) (by exact rfl) (by (simp [bdT, AV.bd, bdL, bdL_append]; done)) (by repeat' (first | exact True.intro | exact rfl | refine And.intro ?_ ?_)) (by exact Nat.le_of_ble_eq_true rfl)⟩
  | true =>
    have hb : bs.length + ((exT e).length + 2) ≤ 1000000000 := by simpa [encT, Nat.add_assoc] using hb
    have hx := hE (bs ++ [40]) (by simp; omega)
    have e1 : bs ++ encT (exT e) true = bs ++ [40] ++ exT e ++ [41] := by simp [encT]
    rw [e1]
    refine Wr.intro (by exact rfl) (by exact rfl) (by kernel_rfl) Tryd.func52 rfl rfl Tryd.ntmps52 (by exact Nat.le_of_ble_eq_true rfl) ?_; intro Γ hm
    (repeat' (first | refine WP.seq ?_ | refine go_n ?_ | refine WP.skip ?_ | refine bo_n ?_ | (refine wp_cond (by exact rfl) (fun hc => ?_) (fun hc => ?_) <;> (try simp only [decide_eq_true_eq, decide_eq_false_iff_not, Decidable.not_not, Bool.and_eq_true, Bool.or_eq_true, Bool.not_eq_true', Bool.not_eq_false', Bool.or_eq_false_iff, Bool.and_eq_false_iff, Int.not_lt, Int.not_le, reduceCtorEq, ne_eq, Bool.not_true, Bool.not_false, Bool.not_eq_true, Bool.not_eq_false] at hc) <;> (try (exfalso; omega))) | (refine WP.regionC (id := 0) ?_; (refine se_box (by exact rfl) (by exact ⟨rfl, rfl⟩) ?_); refine asemC_end ?_) | (refine WP.regionC (id := 1) ?_; (refine su (ap_move (by exact rq_p rfl rfl)) ?_); (refine su (ap_not (by exact rq_p rfl rfl)) ?_); refine asemC_end ?_) | (refine WP.regionC (id := 3) ?_; (refine su (ap_move (by exact rq_p rfl rfl)) ?_); (refine su (ap_nilc (by exact rq_p rfl rfl)) ?_); (refine su (ap_field_p (by exact rq_p rfl rfl) (by exact rfl) (by exact rfl)) ?_); (refine sc_wr rfl rfl (by repeat' first | exact ArgS.nil | refine ArgS.ren (by exact rfl) (by exact rfl) ?_) (by exact rfl) (by exact rfl) (by exact rfl) (by exact rfl) (by exact rfl) (by exact rfl) (wbyte_lit _ (by exact blies_W) _ _ (by decide) (by omega)) ?_); refine asemC_end ?_) | (refine WP.regionC (id := 4) ?_; (refine su (ap_move (by exact rq_p rfl rfl)) ?_); (refine su (ap_load_pw (by exact rq_p rfl rfl) (by exact rfl) (by exact rfl) (by exact rfl)) ?_); (refine sc_wr rfl rfl (by repeat' first | exact ArgS.nil | refine ArgS.ren (by first | exact rfl | exact ren_p (by simp [AV.bd, bdL, bdL_append])) (by first | exact rfl | (simp [AV.bd, bdL, bdL_append]; done)) ?_) (by exact rfl) (by exact rfl) (by exact rfl) (by exact rfl) (by exact rfl) (by exact rfl) (hx) ?_); refine asemC_end ?_) | (refine WP.regionC (id := 5) ?_; (refine su (ap_move (by exact rq_p rfl rfl)) ?_); (refine su (ap_nilc (by exact rq_p rfl rfl)) ?_); (refine su (ap_field_p (by exact rq_p rfl rfl) (by exact rfl) (by exact rfl)) ?_); (refine sc_wr rfl rfl (by repeat' first | exact ArgS.nil | refine ArgS.ren (by exact rfl) (by exact rfl) ?_) (by exact rfl) (by exact rfl) (by exact rfl) (by exact rfl) (by exact rfl) (by exact rfl) (wbyte_lit _ (by exact blies_W) _ _ (by decide) (by (simp only [bsz, List.size_toArray, List.length_append, List.length_cons, List.length_nil, ByteArray.size_append] <;> omega))) ?_); refine asemC_end ?_)))
    exact retW_0 ⟨[0, 1, 5], ToR.S rfl (by repeat' (exact rt_nil)) (by repeat' (first | exact ro_nil | refine ro_b (by exact rfl) (by first | exact rfl | fail) ?_ | refine ro_d (by exact rfl) (by exact rfl) ?_)) (by decide) (by exact rfl) (by exact rfl) (by (simp [bdT, AV.bd, bdL, bdL_append]; done)) (by repeat' (first | exact True.intro | exact rfl | refine And.intro ?_ ?_)) (by exact Nat.le_of_ble_eq_true rfl)⟩

theorem expr_wr (e : GEx) : ∀ bs : List UInt8, bs.length + (exT e).length ≤ 1000000000 → Wr Tryd.prog 62 [.ptr 0 2 0 0, exprA e] TW bs (bs ++ exT e) (.tup []) := by
  induction e using GEx.ind with
  | h e ih =>
    intro bs hb
    rw [exT_eq] at hb ⊢
    rw [exprA, kids_exprsA]
    generalize hkd : e.kids = kids at *
    generalize e.kind = kk at *
    generalize e.name = nm at *
    clear hkd e
    rw [List.length_append] at hb
    refine Wr.intro (by exact rfl) (by exact rfl) (by kernel_rfl) Tryd.func62 rfl rfl Tryd.ntmps62 (by exact Nat.le_of_ble_eq_true rfl) ?_; intro Γ hm
    refine wp_lens 1 rfl fun hl => ?_
    have hl : kids.length ≤ 9223372036854775807 := by have := hl; simp [AV.lens, lensL, exprsA] at this; omega
    (repeat' (first | refine WP.seq ?_ | refine WP.block ?_ | refine go_n ?_ | (refine WP.regionC (id := 0) ?_; (refine se_box (by exact rfl) (by exact ⟨rfl, rfl⟩) ?_); refine asemC_end ?_) | (refine WP.regionC (id := 1) ?_; (refine su (ap_field_p (by exact rq_p rfl rfl) (by exact rfl) (by exact rfl)) ?_); (refine su (ap_load_p (by exact rq_p rfl rfl) (by exact rfl) (by exact rfl) (by exact rfl)) ?_); (refine su (ap_len_m (by exact rfl) (by exact rq_p rfl rfl)) ?_); (refine su (ap_move (by exact rq_p rfl rfl)) ?_); refine asemC_end ?_)))
    refine wp_mv (i := 0) (j := 1) rfl rfl rfl rfl ?_
    have e0 : bs = bs ++ kidsT kk false (kids.take 0) := by simp [kidsT]
    refine wp_loop (fun (i : Nat) => i ≤ kids.length) (fun i => kids.length - i)
      (fun i => (S 95 [(0, .ptr 0 2 0 0), (3, .ptr 3 3 0 0), (7, exprsA kids), (8, intA (kids.length : Nat)), (9, intA (i : Nat))] 4 [(0, some (.bld TW (.ref 2 1 0 (bs ++ kidsT kk false (kids.take i)).length))), (2, some (.bytes (bs ++ kidsT kk false (kids.take i)))), (3, some (.arr 3 [.agg [intA kk, strA nm, exprsA kids]]))])) 0 ?_ (Nat.zero_le _) ?_
    · rw [← e0]; exact ⟨[0, 1, 3, 2], ToR.S rfl (by repeat' (first | exact rt_nil | refine rt_t (by exact rfl) (by exact rfl) ?_ | refine rt_e (by exact rfl) (by exact rfl) ?_ | refine rt_p (by exact rfl) (by exact rfl) (by first | (simp [AV.bd, bdL, bdL_append]; done) | fail) ?_)) (by repeat' (first | exact ro_nil | refine ro_b (by exact rfl) (by first | exact rfl | fail) ?_ | refine ro_d (by exact rfl) (by exact rfl) ?_ | refine ro_p (by exact rfl) (by first | exact rfl | fail) (by first | (simp [bdL, bdL_append, AV.bd]; done) | fail) ?_)) (by decide) (by (rw [hm]; exact rfl)) (by exact rfl) (by (simp [bdT, AV.bd, bdL, bdL_append]; done)) (by repeat' (first | exact True.intro | exact rfl | refine And.intro ?_ ?_ | (simp [bdOq, bdL, bdL_append, AV.bd]; done))) (by (rw [hm]; exact Nat.le_of_ble_eq_true rfl))⟩
    rintro i hi
    have hmo := kidsT_mono kk kids hi
    by_cases hlt : i < kids.length
    · have hmo2 := kidsT_mono kk kids (i := i + 1) (by omega)
      rw [kidsT_take hlt, List.length_append] at hmo2
      have hx := ih _ (nth_mem hlt)
      by_cases hk2 : kk = 2
      ·
        have ho : ∀ q : List UInt8, oneT kk i (nth kids i) = (if i = 0 then [] else [32]) ++ encT (exT (nth kids i)) (decide ((nth kids i).kind = 2) || decide ((nth kids i).kind = 3)) := fun _ => by simp [oneT, sepT, reqP, hk2]
        have ho := ho []
        have hW : ∀ b' : List UInt8, b'.length + (encT (exT (nth kids i)) (decide ((nth kids i).kind = 2) || decide ((nth kids i).kind = 3))).length ≤ 1000000000 → Wr Tryd.prog 52 [.ptr 0 2 0 0, exprA (nth kids i), boolA (decide ((nth kids i).kind = 2) || decide ((nth kids i).kind = 3))] TW b' (b' ++ encT (exT (nth kids i)) (decide ((nth kids i).kind = 2) || decide ((nth kids i).kind = 3))) (.tup []) := fun b' hb' => enclosed_wr _ _ hx b' hb'
        by_cases hi0 : i = 0
        · rw [if_pos hi0, List.nil_append] at ho
          rw [ho] at hmo2
          have e1 : bs ++ kidsT kk false (kids.take (i + 1)) = bs ++ kidsT kk false (kids.take i) ++ encT (exT (nth kids i)) (decide ((nth kids i).kind = 2) || decide ((nth kids i).kind = 3)) := by rw [kidsT_take hlt, ho, List.append_assoc]
          (repeat' (first | refine WP.seq ?_ | refine WP.block ?_ | refine go_n ?_ | refine WP.skip ?_ | refine bl_n ?_ | (refine wp_cond (by exact rfl) (fun hc => ?_) (fun hc => ?_) <;> (try simp only [decide_eq_true_eq, decide_eq_false_iff_not, Decidable.not_not, Bool.and_eq_true, Bool.or_eq_true, Bool.not_eq_true', Bool.not_eq_false', Bool.or_eq_false_iff, Bool.and_eq_false_iff, Int.not_lt, Int.not_le, reduceCtorEq, ne_eq, Bool.not_true, Bool.not_false, Bool.not_eq_true, Bool.not_eq_false] at hc) <;> (try (exfalso; omega))) | (refine WP.regionC (id := 2) ?_; (refine su (ap_lss (by exact rq_p rfl rfl) (by exact rq_p rfl rfl)) ?_); refine asemC_end ?_) | (refine WP.regionC (id := 3) ?_; (refine su (ap_move (by exact rq_p rfl rfl)) ?_); (refine su (ap_idx_n (by exact rq_p rfl rfl) (by exact rq_p rfl rfl) (by omega)) ?_); (refine su (ap_load_w (by exact rq_p rfl rfl) (by exact rfl)) ?_); (refine se_alloc (by exact rfl) ?_); (refine su (ap_assign (by exact rq_p rfl rfl)) ?_); (refine se_store_b (by exact rfl) (by exact rfl) (by exact rfl) (by exact rfl) ?_); refine asemC_end ?_) | (refine WP.regionC (id := 4) ?_; (refine su (ap_field_p (by exact rq_p rfl rfl) (by exact rfl) (by exact rfl)) ?_); (refine su (ap_load_p (by exact rq_p rfl rfl) (by exact rfl) (by exact rfl) (by exact rfl)) ?_); refine asemC_end ?_) | (refine WP.regionC (id := 6) ?_; (refine su (ap_eql (by exact rq_p rfl rfl) (by exact rq_p rfl rfl)) ?_); (refine su (ap_assign (by exact rq_p rfl rfl)) ?_); refine asemC_end ?_) | (refine WP.regionC (id := 7) ?_; (refine su (ap_move (by exact rq_p rfl rfl)) ?_); (refine su (ap_gtr (by exact rq_p rfl rfl) (by exact rq_p rfl rfl)) ?_); refine asemC_end ?_) | (refine WP.regionC (id := 9) ?_; (refine su (ap_move (by exact rq_p rfl rfl)) ?_); (refine su (ap_load_pw (by exact rq_p rfl rfl) (by exact rfl) (by exact rfl) (by exact rfl)) ?_); (refine su (ap_field_p (by exact rq_p rfl rfl) (by exact rfl) (by exact rfl)) ?_); (refine su (ap_load_p (by exact rq_p rfl rfl) (by exact rfl) (by exact rfl) (by exact rfl)) ?_); (refine su (ap_eql (by exact rq_p rfl rfl) (by exact rq_p rfl rfl)) ?_); (refine su (ap_move (by exact rq_p rfl rfl)) ?_); (refine sg (by exact gq_vf rfl rfl) (fun he => ap_field_p (by exact rq_p rfl rfl) (by exact rfl) (by exact rfl)) ?_); (refine sg (by exact gq_vf rfl rfl) (fun he => ap_load_p (by exact rq_c rfl rfl) (by exact rfl) (by exact rfl) (by exact rfl)) ?_); (refine sg (by exact gq_vf rfl rfl) (fun he => ap_eql (by exact rq_c rfl rfl) (by exact rq_p rfl rfl)) ?_); (refine su (ap_or (by exact rq_p rfl rfl) (by exact rq_c rfl rfl)) ?_); (refine sc_wr rfl rfl (by repeat' first | exact ArgS.nil | refine ArgS.ren (by first | exact rfl | exact ren_p (by simp [AV.bd, bdL, bdL_append])) (by first | exact rfl | (simp [AV.bd, bdL, bdL_append]; done)) ?_) (by exact rfl) (by exact rfl) (by exact rfl) (by exact rfl) (by exact rfl) (by exact rfl) (hW _ (by simp only [List.length_append]; omega)) ?_); refine asemC_end ?_) | (refine WP.regionC (id := 14) ?_; (refine su (ap_add (by exact rq_p rfl rfl) (by exact rq_p rfl rfl) (by exact inr_i64_of (by omega))) ?_); (refine su (ap_move (by exact rq_p rfl rfl)) ?_); refine asemC_end ?_)))
          refine ⟨i + 1, ⟨by omega, by omega⟩, ?_⟩
          rw [e1]
          exact ⟨[0, 1, 5, 3], ToR.S rfl (by repeat' (first | exact rt_nil | refine rt_t (by exact rfl) (by exact rfl) ?_ | refine rt_e (by exact rfl) (by exact rfl) ?_ | refine rt_p (by exact rfl) (by exact rfl) (by first | (simp [AV.bd, bdL, bdL_append]; done) | fail) ?_)) (by repeat' (first | exact ro_nil | refine ro_b (by exact rfl) (by first | exact rfl | fail) ?_ | refine ro_d (by exact rfl) (by exact rfl) ?_ | refine ro_p (by exact rfl) (by first | exact rfl | fail) (by first | (simp [bdL, bdL_append, AV.bd]; done) | fail) ?_)) (by decide) (by (rw [hm]; exact rfl)) (by exact rfl) (by (simp [bdT, AV.bd, bdL, bdL_append]; done)) (by repeat' (first | exact True.intro | exact rfl | refine And.intro ?_ ?_ | (simp [bdOq, bdL, bdL_append, AV.bd]; done))) (by (rw [hm]; exact Nat.le_of_ble_eq_true rfl))⟩
        · rw [if_neg hi0] at ho
          rw [ho, List.length_append] at hmo2
          have e1 : bs ++ kidsT kk false (kids.take (i + 1)) = bs ++ kidsT kk false (kids.take i) ++ [32] ++ encT (exT (nth kids i)) (decide ((nth kids i).kind = 2) || decide ((nth kids i).kind = 3)) := by rw [kidsT_take hlt, ho]; simp only [List.append_assoc]
          simp only [List.length_cons, List.length_nil] at hmo2
          (repeat' (first | refine WP.seq ?_ | refine WP.block ?_ | refine go_n ?_ | refine WP.skip ?_ | refine bl_n ?_ | (refine wp_cond (by exact rfl) (fun hc => ?_) (fun hc => ?_) <;> (try simp only [decide_eq_true_eq, decide_eq_false_iff_not, Decidable.not_not, Bool.and_eq_true, Bool.or_eq_true, Bool.not_eq_true', Bool.not_eq_false', Bool.or_eq_false_iff, Bool.and_eq_false_iff, Int.not_lt, Int.not_le, reduceCtorEq, ne_eq, Bool.not_true, Bool.not_false, Bool.not_eq_true, Bool.not_eq_false] at hc) <;> (try (exfalso; omega))) | (refine WP.regionC (id := 2) ?_; (refine su (ap_lss (by exact rq_p rfl rfl) (by exact rq_p rfl rfl)) ?_); refine asemC_end ?_) | (refine WP.regionC (id := 3) ?_; (refine su (ap_move (by exact rq_p rfl rfl)) ?_); (refine su (ap_idx_n (by exact rq_p rfl rfl) (by exact rq_p rfl rfl) (by omega)) ?_); (refine su (ap_load_w (by exact rq_p rfl rfl) (by exact rfl)) ?_); (refine se_alloc (by exact rfl) ?_); (refine su (ap_assign (by exact rq_p rfl rfl)) ?_); (refine se_store_b (by exact rfl) (by exact rfl) (by exact rfl) (by exact rfl) ?_); refine asemC_end ?_) | (refine WP.regionC (id := 4) ?_; (refine su (ap_field_p (by exact rq_p rfl rfl) (by exact rfl) (by exact rfl)) ?_); (refine su (ap_load_p (by exact rq_p rfl rfl) (by exact rfl) (by exact rfl) (by exact rfl)) ?_); refine asemC_end ?_) | (refine WP.regionC (id := 6) ?_; (refine su (ap_eql (by exact rq_p rfl rfl) (by exact rq_p rfl rfl)) ?_); (refine su (ap_assign (by exact rq_p rfl rfl)) ?_); refine asemC_end ?_) | (refine WP.regionC (id := 7) ?_; (refine su (ap_move (by exact rq_p rfl rfl)) ?_); (refine su (ap_gtr (by exact rq_p rfl rfl) (by exact rq_p rfl rfl)) ?_); refine asemC_end ?_) | (refine WP.regionC (id := 8) ?_; (refine su (ap_move (by exact rq_p rfl rfl)) ?_); (refine su (ap_nilc (by exact rq_p rfl rfl)) ?_); (refine su (ap_field_p (by exact rq_p rfl rfl) (by exact rfl) (by exact rfl)) ?_); (refine sc_wr rfl rfl (by repeat' first | exact ArgS.nil | refine ArgS.ren (by exact rfl) (by exact rfl) ?_) (by exact rfl) (by exact rfl) (by exact rfl) (by exact rfl) (by exact rfl) (by exact rfl) (wbyte_lit _ (by exact blies_W) _ _ (by decide) (by (simp only [bsz, List.size_toArray, List.length_append, List.length_cons, List.length_nil, ByteArray.size_append] <;> omega))) ?_); refine asemC_end ?_) | (refine WP.regionC (id := 9) ?_; (refine su (ap_move (by exact rq_p rfl rfl)) ?_); (refine su (ap_load_pw (by exact rq_p rfl rfl) (by exact rfl) (by exact rfl) (by exact rfl)) ?_); (refine su (ap_field_p (by exact rq_p rfl rfl) (by exact rfl) (by exact rfl)) ?_); (refine su (ap_load_p (by exact rq_p rfl rfl) (by exact rfl) (by exact rfl) (by exact rfl)) ?_); (refine su (ap_eql (by exact rq_p rfl rfl) (by exact rq_p rfl rfl)) ?_); (refine su (ap_move (by exact rq_p rfl rfl)) ?_); (refine sg (by exact gq_vf rfl rfl) (fun he => ap_field_p (by exact rq_p rfl rfl) (by exact rfl) (by exact rfl)) ?_); (refine sg (by exact gq_vf rfl rfl) (fun he => ap_load_p (by exact rq_c rfl rfl) (by exact rfl) (by exact rfl) (by exact rfl)) ?_); (refine sg (by exact gq_vf rfl rfl) (fun he => ap_eql (by exact rq_c rfl rfl) (by exact rq_p rfl rfl)) ?_); (refine su (ap_or (by exact rq_p rfl rfl) (by exact rq_c rfl rfl)) ?_); (refine sc_wr rfl rfl (by repeat' first | exact ArgS.nil | refine ArgS.ren (by first | exact rfl | exact ren_p (by simp [AV.bd, bdL, bdL_append])) (by first | exact rfl | (simp [AV.bd, bdL, bdL_append]; done)) ?_) (by exact rfl) (by exact rfl) (by exact rfl) (by exact rfl) (by exact rfl) (by exact rfl) (hW _ (by simp only [List.length_append, List.length_cons, List.length_nil]; omega)) ?_); refine asemC_end ?_) | (refine WP.regionC (id := 14) ?_; (refine su (ap_add (by exact rq_p rfl rfl) (by exact rq_p rfl rfl) (by exact inr_i64_of (by omega))) ?_); (refine su (ap_move (by exact rq_p rfl rfl)) ?_); refine asemC_end ?_)))
          refine ⟨i + 1, ⟨by omega, by omega⟩, ?_⟩
          rw [e1]
          exact ⟨[0, 1, 6, 3], ToR.S rfl (by repeat' (first | exact rt_nil | refine rt_t (by exact rfl) (by exact rfl) ?_ | refine rt_e (by exact rfl) (by exact rfl) ?_ | refine rt_p (by exact rfl) (by exact rfl) (by first | (simp [AV.bd, bdL, bdL_append]; done) | fail) ?_)) (by repeat' (first | exact ro_nil | refine ro_b (by exact rfl) (by first | exact rfl | fail) ?_ | refine ro_d (by exact rfl) (by exact rfl) ?_ | refine ro_p (by exact rfl) (by first | exact rfl | fail) (by first | (simp [bdL, bdL_append, AV.bd]; done) | fail) ?_)) (by decide) (by (rw [hm]; exact rfl)) (by exact rfl) (by (simp [bdT, AV.bd, bdL, bdL_append]; done)) (by repeat' (first | exact True.intro | exact rfl | refine And.intro ?_ ?_ | (simp [bdOq, bdL, bdL_append, AV.bd]; done))) (by (rw [hm]; exact Nat.le_of_ble_eq_true rfl))⟩
      by_cases hk3 : kk = 3
      ·
        have ho : ∀ q : List UInt8, oneT kk i (nth kids i) = (if i = 0 then [] else [32, 124, 32]) ++ encT (exT (nth kids i)) (decide ((nth kids i).kind = 3) || decide ((nth kids i).kind = 2) && decide (((nth kids i).kids.length : Int) = 0)) := fun _ => by simp [oneT, sepT, reqP, hk2, hk3]
        have ho := ho []
        have hW : ∀ b' : List UInt8, b'.length + (encT (exT (nth kids i)) (decide ((nth kids i).kind = 3) || decide ((nth kids i).kind = 2) && decide (((nth kids i).kids.length : Int) = 0))).length ≤ 1000000000 → Wr Tryd.prog 52 [.ptr 0 2 0 0, exprA (nth kids i), boolA (decide ((nth kids i).kind = 3) || decide ((nth kids i).kind = 2) && decide (((kidsL (nth kids i)).length : Int) = 0))] TW b' (b' ++ encT (exT (nth kids i)) (decide ((nth kids i).kind = 3) || decide ((nth kids i).kind = 2) && decide (((nth kids i).kids.length : Int) = 0))) (.tup []) := fun b' hb' => by rw [kidsL_len]; exact enclosed_wr _ _ hx b' hb'
        by_cases hi0 : i = 0
        · rw [if_pos hi0, List.nil_append] at ho
          rw [ho] at hmo2
          have e1 : bs ++ kidsT kk false (kids.take (i + 1)) = bs ++ kidsT kk false (kids.take i) ++ encT (exT (nth kids i)) (decide ((nth kids i).kind = 3) || decide ((nth kids i).kind = 2) && decide (((nth kids i).kids.length : Int) = 0)) := by rw [kidsT_take hlt, ho, List.append_assoc]
          (repeat' (first | refine WP.seq ?_ | refine WP.block ?_ | refine go_n ?_ | refine WP.skip ?_ | refine bl_n ?_ | (refine wp_cond (by exact rfl) (fun hc => ?_) (fun hc => ?_) <;> (try simp only [decide_eq_true_eq, decide_eq_false_iff_not, Decidable.not_not, Bool.and_eq_true, Bool.or_eq_true, Bool.not_eq_true', Bool.not_eq_false', Bool.or_eq_false_iff, Bool.and_eq_false_iff, Int.not_lt, Int.not_le, reduceCtorEq, ne_eq, Bool.not_true, Bool.not_false, Bool.not_eq_true, Bool.not_eq_false] at hc) <;> (try (exfalso; omega))) | (refine WP.regionC (id := 2) ?_; (refine su (ap_lss (by exact rq_p rfl rfl) (by exact rq_p rfl rfl)) ?_); refine asemC_end ?_) | (refine WP.regionC (id := 3) ?_; (refine su (ap_move (by exact rq_p rfl rfl)) ?_); (refine su (ap_idx_n (by exact rq_p rfl rfl) (by exact rq_p rfl rfl) (by omega)) ?_); (refine su (ap_load_w (by exact rq_p rfl rfl) (by exact rfl)) ?_); (refine se_alloc (by exact rfl) ?_); (refine su (ap_assign (by exact rq_p rfl rfl)) ?_); (refine se_store_b (by exact rfl) (by exact rfl) (by exact rfl) (by exact rfl) ?_); refine asemC_end ?_) | (refine WP.regionC (id := 4) ?_; (refine su (ap_field_p (by exact rq_p rfl rfl) (by exact rfl) (by exact rfl)) ?_); (refine su (ap_load_p (by exact rq_p rfl rfl) (by exact rfl) (by exact rfl) (by exact rfl)) ?_); refine asemC_end ?_) | (refine WP.regionC (id := 6) ?_; (refine su (ap_eql (by exact rq_p rfl rfl) (by exact rq_p rfl rfl)) ?_); (refine su (ap_assign (by exact rq_p rfl rfl)) ?_); refine asemC_end ?_) | (refine WP.regionC (id := 10) ?_; (refine su (ap_eql (by exact rq_p rfl rfl) (by exact rq_p rfl rfl)) ?_); (refine su (ap_assign (by exact rq_p rfl rfl)) ?_); refine asemC_end ?_) | (refine WP.regionC (id := 11) ?_; (refine su (ap_move (by exact rq_p rfl rfl)) ?_); (refine su (ap_gtr (by exact rq_p rfl rfl) (by exact rq_p rfl rfl)) ?_); refine asemC_end ?_) | (refine WP.regionC (id := 13) ?_; (refine su (ap_move (by exact rq_p rfl rfl)) ?_); (refine su (ap_load_pw (by exact rq_p rfl rfl) (by exact rfl) (by exact rfl) (by exact rfl)) ?_); (refine su (ap_field_p (by exact rq_p rfl rfl) (by exact rfl) (by exact rfl)) ?_); (refine su (ap_load_p (by exact rq_p rfl rfl) (by exact rfl) (by exact rfl) (by exact rfl)) ?_); (refine su (ap_eql (by exact rq_p rfl rfl) (by exact rq_p rfl rfl)) ?_); (refine su (ap_move (by exact rq_p rfl rfl)) ?_); (refine sg (by exact gq_vf rfl rfl) (fun he => ap_field_p (by exact rq_p rfl rfl) (by exact rfl) (by exact rfl)) ?_); (refine sg (by exact gq_vf rfl rfl) (fun he => ap_load_p (by exact rq_c rfl rfl) (by exact rfl) (by exact rfl) (by exact rfl)) ?_); (refine sg (by exact gq_vf rfl rfl) (fun he => ap_eql (by exact rq_c rfl rfl) (by exact rq_p rfl rfl)) ?_); (refine sg (by exact gq_vf rfl rfl) (fun he => ap_move (by exact rq_c rfl rfl)) ?_); (refine sg (by exact gq_ct rfl rfl) (fun he => ap_field_p (by exact rq_p rfl rfl) (by exact rfl) (by exact rfl)) ?_); (refine sg (by exact gq_ct rfl rfl) (fun he => ap_load_p (by exact rq_c rfl rfl) (by exact rfl) (by exact rfl) (by exact rfl)) ?_); (refine sg (by exact gq_ct rfl rfl) (fun he => ap_len_s (by exact rfl) (by exact rq_c rfl rfl)) ?_); (refine sg (by exact gq_ct rfl rfl) (fun he => ap_eql (by exact rq_c rfl rfl) (by exact rq_p rfl rfl)) ?_); (refine sg (by exact gq_vf rfl rfl) (fun he => ap_and (by exact rq_c rfl rfl) (by exact rq_c rfl rfl)) ?_); (refine su (ap_or (by exact rq_p rfl rfl) (by exact rq_c rfl rfl)) ?_); (refine sc_wr rfl rfl (by repeat' first | exact ArgS.nil | refine ArgS.ren (by first | exact rfl | exact ren_p (by simp [AV.bd, bdL, bdL_append])) (by first | exact rfl | (simp [AV.bd, bdL, bdL_append]; done)) ?_) (by exact rfl) (by exact rfl) (by exact rfl) (by exact rfl) (by exact rfl) (by exact rfl) (hW _ (by simp only [List.length_append]; omega)) ?_); refine asemC_end ?_) | (refine WP.regionC (id := 14) ?_; (refine su (ap_add (by exact rq_p rfl rfl) (by exact rq_p rfl rfl) (by exact inr_i64_of (by omega))) ?_); (refine su (ap_move (by exact rq_p rfl rfl)) ?_); refine asemC_end ?_)))
          refine ⟨i + 1, ⟨by omega, by omega⟩, ?_⟩
          rw [e1]
          exact ⟨[0, 1, 5, 3], ToR.S rfl (by repeat' (first | exact rt_nil | refine rt_t (by exact rfl) (by exact rfl) ?_ | refine rt_e (by exact rfl) (by exact rfl) ?_ | refine rt_p (by exact rfl) (by exact rfl) (by first | (simp [AV.bd, bdL, bdL_append]; done) | fail) ?_)) (by repeat' (first | exact ro_nil | refine ro_b (by exact rfl) (by first | exact rfl | fail) ?_ | refine ro_d (by exact rfl) (by exact rfl) ?_ | refine ro_p (by exact rfl) (by first | exact rfl | fail) (by first | (simp [bdL, bdL_append, AV.bd]; done) | fail) ?_)) (by decide) (by (rw [hm]; exact rfl)) (by exact rfl) (by (simp [bdT, AV.bd, bdL, bdL_append]; done)) (by repeat' (first | exact True.intro | exact rfl | refine And.intro ?_ ?_ | (simp [bdOq, bdL, bdL_append, AV.bd]; done))) (by (rw [hm]; exact Nat.le_of_ble_eq_true rfl))⟩
        · rw [if_neg hi0] at ho
          rw [ho, List.length_append] at hmo2
          have e1 : bs ++ kidsT kk false (kids.take (i + 1)) = bs ++ kidsT kk false (kids.take i) ++ [32, 124, 32] ++ encT (exT (nth kids i)) (decide ((nth kids i).kind = 3) || decide ((nth kids i).kind = 2) && decide (((nth kids i).kids.length : Int) = 0)) := by rw [kidsT_take hlt, ho]; simp only [List.append_assoc]
          simp only [List.length_cons, List.length_nil] at hmo2
          (repeat' (first | refine WP.seq ?_ | refine WP.block ?_ | refine go_n ?_ | refine WP.skip ?_ | refine bl_n ?_ | (refine wp_cond (by exact rfl) (fun hc => ?_) (fun hc => ?_) <;> (try simp only [decide_eq_true_eq, decide_eq_false_iff_not, Decidable.not_not, Bool.and_eq_true, Bool.or_eq_true, Bool.not_eq_true', Bool.not_eq_false', Bool.or_eq_false_iff, Bool.and_eq_false_iff, Int.not_lt, Int.not_le, reduceCtorEq, ne_eq, Bool.not_true, Bool.not_false, Bool.not_eq_true, Bool.not_eq_false] at hc) <;> (try (exfalso; omega))) | (refine WP.regionC (id := 2) ?_; (refine su (ap_lss (by exact rq_p rfl rfl) (by exact rq_p rfl rfl)) ?_); refine asemC_end ?_) | (refine WP.regionC (id := 3) ?_; (refine su (ap_move (by exact rq_p rfl rfl)) ?_); (refine su (ap_idx_n (by exact rq_p rfl rfl) (by exact rq_p rfl rfl) (by omega)) ?_); (refine su (ap_load_w (by exact rq_p rfl rfl) (by exact rfl)) ?_); (refine se_alloc (by exact rfl) ?_); (refine su (ap_assign (by exact rq_p rfl rfl)) ?_); (refine se_store_b (by exact rfl) (by exact rfl) (by exact rfl) (by exact rfl) ?_); refine asemC_end ?_) | (refine WP.regionC (id := 4) ?_; (refine su (ap_field_p (by exact rq_p rfl rfl) (by exact rfl) (by exact rfl)) ?_); (refine su (ap_load_p (by exact rq_p rfl rfl) (by exact rfl) (by exact rfl) (by exact rfl)) ?_); refine asemC_end ?_) | (refine WP.regionC (id := 6) ?_; (refine su (ap_eql (by exact rq_p rfl rfl) (by exact rq_p rfl rfl)) ?_); (refine su (ap_assign (by exact rq_p rfl rfl)) ?_); refine asemC_end ?_) | (refine WP.regionC (id := 10) ?_; (refine su (ap_eql (by exact rq_p rfl rfl) (by exact rq_p rfl rfl)) ?_); (refine su (ap_assign (by exact rq_p rfl rfl)) ?_); refine asemC_end ?_) | (refine WP.regionC (id := 11) ?_; (refine su (ap_move (by exact rq_p rfl rfl)) ?_); (refine su (ap_gtr (by exact rq_p rfl rfl) (by exact rq_p rfl rfl)) ?_); refine asemC_end ?_) | (refine WP.regionC (id := 12) ?_; (refine su (ap_move (by exact rq_p rfl rfl)) ?_); (refine su (ap_nilc (by exact rq_p rfl rfl)) ?_); (refine su (ap_field_p (by exact rq_p rfl rfl) (by exact rfl) (by exact rfl)) ?_); (refine sc_wr rfl rfl (by repeat' first | exact ArgS.nil | refine ArgS.ren (by exact rfl) (by exact rfl) ?_) (by exact rfl) (by exact rfl) (by exact rfl) (by exact rfl) (by exact rfl) (by exact rfl) (wstr_wr _ (by exact blies_W) _ _ (by (simp only [bsz, List.size_toArray, List.length_append, List.length_cons, List.length_nil, ByteArray.size_append] <;> omega))) ?_); refine asemC_end ?_) | (refine WP.regionC (id := 13) ?_; (refine su (ap_move (by exact rq_p rfl rfl)) ?_); (refine su (ap_load_pw (by exact rq_p rfl rfl) (by exact rfl) (by exact rfl) (by exact rfl)) ?_); (refine su (ap_field_p (by exact rq_p rfl rfl) (by exact rfl) (by exact rfl)) ?_); (refine su (ap_load_p (by exact rq_p rfl rfl) (by exact rfl) (by exact rfl) (by exact rfl)) ?_); (refine su (ap_eql (by exact rq_p rfl rfl) (by exact rq_p rfl rfl)) ?_); (refine su (ap_move (by exact rq_p rfl rfl)) ?_); (refine sg (by exact gq_vf rfl rfl) (fun he => ap_field_p (by exact rq_p rfl rfl) (by exact rfl) (by exact rfl)) ?_); (refine sg (by exact gq_vf rfl rfl) (fun he => ap_load_p (by exact rq_c rfl rfl) (by exact rfl) (by exact rfl) (by exact rfl)) ?_); (refine sg (by exact gq_vf rfl rfl) (fun he => ap_eql (by exact rq_c rfl rfl) (by exact rq_p rfl rfl)) ?_); (refine sg (by exact gq_vf rfl rfl) (fun he => ap_move (by exact rq_c rfl rfl)) ?_); (refine sg (by exact gq_ct rfl rfl) (fun he => ap_field_p (by exact rq_p rfl rfl) (by exact rfl) (by exact rfl)) ?_); (refine sg (by exact gq_ct rfl rfl) (fun he => ap_load_p (by exact rq_c rfl rfl) (by exact rfl) (by exact rfl) (by exact rfl)) ?_); (refine sg (by exact gq_ct rfl rfl) (fun he => ap_len_s (by exact rfl) (by exact rq_c rfl rfl)) ?_); (refine sg (by exact gq_ct rfl rfl) (fun he => ap_eql (by exact rq_c rfl rfl) (by exact rq_p rfl rfl)) ?_); (refine sg (by exact gq_vf rfl rfl) (fun he => ap_and (by exact rq_c rfl rfl) (by exact rq_c rfl rfl)) ?_); (refine su (ap_or (by exact rq_p rfl rfl) (by exact rq_c rfl rfl)) ?_); (refine sc_wr rfl rfl (by repeat' first | exact ArgS.nil | refine ArgS.ren (by first | exact rfl | exact ren_p (by simp [AV.bd, bdL, bdL_append])) (by first | exact rfl | (simp [AV.bd, bdL, bdL_append]; done)) ?_) (by exact rfl) (by exact rfl) (by exact rfl) (by exact rfl) (by exact rfl) (by exact rfl) (hW _ (by simp only [List.length_append, List.length_cons, List.length_nil]; omega)) ?_); refine asemC_end ?_) | (refine WP.regionC (id := 14) ?_; (refine su (ap_add (by exact rq_p rfl rfl) (by exact rq_p rfl rfl) (by exact inr_i64_of (by omega))) ?_); (refine su (ap_move (by exact rq_p rfl rfl)) ?_); refine asemC_end ?_)))
          refine ⟨i + 1, ⟨by omega, by omega⟩, ?_⟩
          rw [e1]
          exact ⟨[0, 1, 6, 3], ToR.S rfl (by repeat' (first | exact rt_nil | refine rt_t (by exact rfl) (by exact rfl) ?_ | refine rt_e (by exact rfl) (by exact rfl) ?_ | refine rt_p (by exact rfl) (by exact rfl) (by first | (simp [AV.bd, bdL, bdL_append]; done) | fail) ?_)) (by repeat' (first | exact ro_nil | refine ro_b (by exact rfl) (by first | exact rfl | fail) ?_ | refine ro_d (by exact rfl) (by exact rfl) ?_ | refine ro_p (by exact rfl) (by first | exact rfl | fail) (by first | (simp [bdL, bdL_append, AV.bd]; done) | fail) ?_)) (by decide) (by (rw [hm]; exact rfl)) (by exact rfl) (by (simp [bdT, AV.bd, bdL, bdL_append]; done)) (by repeat' (first | exact True.intro | exact rfl | refine And.intro ?_ ?_ | (simp [bdOq, bdL, bdL_append, AV.bd]; done))) (by (rw [hm]; exact Nat.le_of_ble_eq_true rfl))⟩
      · have ho : oneT kk i (nth kids i) = encT (exT (nth kids i)) (!decide ((nth kids i).kind = 1)) := by simp [oneT, sepT, reqP, hk2, hk3]
        rw [ho] at hmo2
        have e1 : bs ++ kidsT kk false (kids.take (i + 1)) = bs ++ kidsT kk false (kids.take i) ++ encT (exT (nth kids i)) (!decide ((nth kids i).kind = 1)) := by rw [kidsT_take hlt, ho, List.append_assoc]
        have hW : ∀ b' : List UInt8, b'.length + (encT (exT (nth kids i)) (!decide ((nth kids i).kind = 1))).length ≤ 1000000000 → Wr Tryd.prog 52 [.ptr 0 2 0 0, exprA (nth kids i), boolA (!decide ((nth kids i).kind = 1))] TW b' (b' ++ encT (exT (nth kids i)) (!decide ((nth kids i).kind = 1))) (.tup []) := fun b' hb' => enclosed_wr _ _ hx b' hb'
        (repeat' (first | refine WP.seq ?_ | refine WP.block ?_ | refine go_n ?_ | refine WP.skip ?_ | refine bl_n ?_ | (refine wp_cond (by exact rfl) (fun hc => ?_) (fun hc => ?_) <;> (try simp only [decide_eq_true_eq, decide_eq_false_iff_not, Decidable.not_not, Bool.and_eq_true, Bool.or_eq_true, Bool.not_eq_true', Bool.not_eq_false', Bool.or_eq_false_iff, Bool.and_eq_false_iff, Int.not_lt, Int.not_le, reduceCtorEq, ne_eq, Bool.not_true, Bool.not_false, Bool.not_eq_true, Bool.not_eq_false] at hc) <;> (try (exfalso; omega))) | (refine WP.regionC (id := 2) ?_; (refine su (ap_lss (by exact rq_p rfl rfl) (by exact rq_p rfl rfl)) ?_); refine asemC_end ?_) | (refine WP.regionC (id := 3) ?_; (refine su (ap_move (by exact rq_p rfl rfl)) ?_); (refine su (ap_idx_n (by exact rq_p rfl rfl) (by exact rq_p rfl rfl) (by omega)) ?_); (refine su (ap_load_w (by exact rq_p rfl rfl) (by exact rfl)) ?_); (refine se_alloc (by exact rfl) ?_); (refine su (ap_assign (by exact rq_p rfl rfl)) ?_); (refine se_store_b (by exact rfl) (by exact rfl) (by exact rfl) (by exact rfl) ?_); refine asemC_end ?_) | (refine WP.regionC (id := 4) ?_; (refine su (ap_field_p (by exact rq_p rfl rfl) (by exact rfl) (by exact rfl)) ?_); (refine su (ap_load_p (by exact rq_p rfl rfl) (by exact rfl) (by exact rfl) (by exact rfl)) ?_); refine asemC_end ?_) | (refine WP.regionC (id := 6) ?_; (refine su (ap_eql (by exact rq_p rfl rfl) (by exact rq_p rfl rfl)) ?_); (refine su (ap_assign (by exact rq_p rfl rfl)) ?_); refine asemC_end ?_) | (refine WP.regionC (id := 10) ?_; (refine su (ap_eql (by exact rq_p rfl rfl) (by exact rq_p rfl rfl)) ?_); (refine su (ap_assign (by exact rq_p rfl rfl)) ?_); refine asemC_end ?_) | (refine WP.regionC (id := 5) ?_; (refine su (ap_move (by exact rq_p rfl rfl)) ?_); (refine su (ap_load_pw (by exact rq_p rfl rfl) (by exact rfl) (by exact rfl) (by exact rfl)) ?_); (refine su (ap_field_p (by exact rq_p rfl rfl) (by exact rfl) (by exact rfl)) ?_); (refine su (ap_load_p (by exact rq_p rfl rfl) (by exact rfl) (by exact rfl) (by exact rfl)) ?_); (refine su (ap_neq (by exact rq_p rfl rfl) (by exact rq_p rfl rfl)) ?_); (refine sc_wr rfl rfl (by repeat' first | exact ArgS.nil | refine ArgS.ren (by first | exact rfl | exact ren_p (by simp [AV.bd, bdL, bdL_append])) (by first | exact rfl | (simp [AV.bd, bdL, bdL_append]; done)) ?_) (by exact rfl) (by exact rfl) (by exact rfl) (by exact rfl) (by exact rfl) (by exact rfl) (hW _ (by simp only [List.length_append]; omega)) ?_); refine asemC_end ?_) | (refine WP.regionC (id := 14) ?_; (refine su (ap_add (by exact rq_p rfl rfl) (by exact rq_p rfl rfl) (by exact inr_i64_of (by omega))) ?_); (refine su (ap_move (by exact rq_p rfl rfl)) ?_); refine asemC_end ?_)))
        refine ⟨i + 1, ⟨by omega, by omega⟩, ?_⟩
        rw [e1]
        exact ⟨[0, 1, 5, 3], ToR.S rfl (by repeat' (first | exact rt_nil | refine rt_t (by exact rfl) (by exact rfl) ?_ | refine rt_e (by exact rfl) (by exact rfl) ?_ | refine rt_p (by exact rfl) (by exact rfl) (by first | (simp [AV.bd, bdL, bdL_append]; done) | fail) ?_)) (by repeat' (first | exact ro_nil | refine ro_b (by exact rfl) (by first | exact rfl | fail) ?_ | refine ro_d (by exact rfl) (by exact rfl) ?_ | refine ro_p (by exact rfl) (by first | exact rfl | fail) (by first | (simp [bdL, bdL_append, AV.bd]; done) | fail) ?_)) (by decide) (by (rw [hm]; exact rfl)) (by exact rfl) (by (simp [bdT, AV.bd, bdL, bdL_append]; done)) (by repeat' (first | exact True.intro | exact rfl | refine And.intro ?_ ?_ | (simp [bdOq, bdL, bdL_append, AV.bd]; done))) (by (rw [hm]; exact Nat.le_of_ble_eq_true rfl))⟩
    obtain rfl : i = kids.length := by omega
    rw [List.take_of_length_le (Nat.le_refl _)] at hmo ⊢
    by_cases h1 : kk = 1
    · have e1 : tailT kk nm = bl nm := by simp [tailT, h1]
      rw [e1] at hb ⊢
      rw [bl_len] at hb
      (repeat' (first | refine WP.seq ?_ | refine WP.block ?_ | refine go_n ?_ | refine WP.exit ?_ | refine go_x ?_ | refine bl_n ?_ | refine bl_x ?_ | refine bo_n ?_ | (refine wp_cond (by exact rfl) (fun hc => ?_) (fun hc => ?_) <;> (try simp only [decide_eq_true_eq, decide_eq_false_iff_not, Decidable.not_not, Bool.and_eq_true, Bool.or_eq_true, Bool.not_eq_true', Bool.not_eq_false', Bool.or_eq_false_iff, Bool.and_eq_false_iff, Int.not_lt, Int.not_le, reduceCtorEq, ne_eq, Bool.not_true, Bool.not_false, Bool.not_eq_true, Bool.not_eq_false] at hc) <;> (try (exfalso; omega))) | (refine WP.regionC (id := 2) ?_; (refine su (ap_lss (by exact rq_p rfl rfl) (by exact rq_p rfl rfl)) ?_); refine asemC_end ?_) | (refine WP.regionC (id := 15) ?_; (refine su (ap_field_p (by exact rq_p rfl rfl) (by exact rfl) (by exact rfl)) ?_); (refine su (ap_load_p (by exact rq_p rfl rfl) (by exact rfl) (by exact rfl) (by exact rfl)) ?_); refine asemC_end ?_) | (refine WP.regionC (id := 16) ?_; (refine su (ap_eql (by exact rq_p rfl rfl) (by exact rq_p rfl rfl)) ?_); (refine su (ap_assign (by exact rq_p rfl rfl)) ?_); refine asemC_end ?_) | (refine wp_drawT (id := 17) 5 mixed (by kernel_rfl) (by kernel_rfl) (by kernel_rfl) rfl rfl ?_ <;> (refine rd_u (by exact rfl) (by exact rfl) (ap_move (by exact rq_p rfl rfl)) ?_) <;> (refine rd_u (by exact rfl) (by exact rfl) (ap_nilc (by exact rq_p rfl rfl)) ?_) <;> (refine rd_u (by exact rfl) (by exact rfl) (ap_field_p (by exact rq_p rfl rfl) (by exact rfl) (by exact rfl)) ?_) <;> (refine rd_u (by exact rfl) (by exact rfl) (ap_field_p (by exact rq_p rfl rfl) (by exact rfl) (by exact rfl)) ?_) <;> (refine rd_u (by exact rfl) (by exact rfl) (ap_load_p (by exact rq_p rfl rfl) (by exact rfl) (by exact rfl) (by exact rfl)) ?_) <;> (refine rd_tail (by kernel_rfl) ?_) <;> (refine sc_wr rfl rfl (by repeat' first | exact ArgS.nil | refine ArgS.ren (by exact rfl) (by exact rfl) ?_) (by exact rfl) (by exact rfl) (by exact rfl) (by exact rfl) (by exact rfl) (by exact rfl) (wstr_wr _ (by exact blies_W) _ _ (by (simp only [bsz, List.size_toArray, List.length_append, List.length_cons, List.length_nil, ByteArray.size_append] <;> omega))) ?_) <;> (refine asemC_end ?_))))
      rw [← List.append_assoc]
      exact retW_0 ⟨[0, 1, 9], ToR.S rfl (by repeat' (exact rt_nil)) (by repeat' (first | exact ro_nil | refine ro_b (by exact rfl) (by first | exact rfl | fail) ?_ | refine ro_d (by exact rfl) (by exact rfl) ?_)) (by decide) (by exact rfl) (by exact rfl) (by (simp [bdT, AV.bd, bdL, bdL_append]; done)) (by repeat' (first | exact True.intro | exact rfl | refine And.intro ?_ ?_)) (by exact Nat.le_of_ble_eq_true rfl)⟩
    by_cases h4 : kk = 4
    · have e1 : tailT kk nm = [63] := by simp [tailT, h4]
      rw [e1] at hb ⊢
      simp only [List.length_cons, List.length_nil] at hb
      (repeat' (first | refine WP.seq ?_ | refine WP.block ?_ | refine go_n ?_ | refine WP.exit ?_ | refine go_x ?_ | refine bl_n ?_ | refine bl_x ?_ | refine bo_n ?_ | (refine wp_cond (by exact rfl) (fun hc => ?_) (fun hc => ?_) <;> (try simp only [decide_eq_true_eq, decide_eq_false_iff_not, Decidable.not_not, Bool.and_eq_true, Bool.or_eq_true, Bool.not_eq_true', Bool.not_eq_false', Bool.or_eq_false_iff, Bool.and_eq_false_iff, Int.not_lt, Int.not_le, reduceCtorEq, ne_eq, Bool.not_true, Bool.not_false, Bool.not_eq_true, Bool.not_eq_false] at hc) <;> (try (exfalso; omega))) | (refine WP.regionC (id := 2) ?_; (refine su (ap_lss (by exact rq_p rfl rfl) (by exact rq_p rfl rfl)) ?_); refine asemC_end ?_) | (refine WP.regionC (id := 15) ?_; (refine su (ap_field_p (by exact rq_p rfl rfl) (by exact rfl) (by exact rfl)) ?_); (refine su (ap_load_p (by exact rq_p rfl rfl) (by exact rfl) (by exact rfl) (by exact rfl)) ?_); refine asemC_end ?_) | (refine WP.regionC (id := 16) ?_; (refine su (ap_eql (by exact rq_p rfl rfl) (by exact rq_p rfl rfl)) ?_); (refine su (ap_assign (by exact rq_p rfl rfl)) ?_); refine asemC_end ?_) | (refine WP.regionC (id := 18) ?_; (refine su (ap_eql (by exact rq_p rfl rfl) (by exact rq_p rfl rfl)) ?_); (refine su (ap_assign (by exact rq_p rfl rfl)) ?_); refine asemC_end ?_) | (refine WP.regionC (id := 19) ?_; (refine su (ap_move (by exact rq_p rfl rfl)) ?_); (refine su (ap_nilc (by exact rq_p rfl rfl)) ?_); (refine su (ap_field_p (by exact rq_p rfl rfl) (by exact rfl) (by exact rfl)) ?_); (refine sc_wr rfl rfl (by repeat' first | exact ArgS.nil | refine ArgS.ren (by exact rfl) (by exact rfl) ?_) (by exact rfl) (by exact rfl) (by exact rfl) (by exact rfl) (by exact rfl) (by exact rfl) (wbyte_lit _ (by exact blies_W) _ _ (by decide) (by (simp only [bsz, List.size_toArray, List.length_append, List.length_cons, List.length_nil, ByteArray.size_append] <;> omega))) ?_); refine asemC_end ?_)))
      rw [← List.append_assoc]
      exact retW_0 ⟨[0, 1, 4], ToR.S rfl (by repeat' (exact rt_nil)) (by repeat' (first | exact ro_nil | refine ro_b (by exact rfl) (by first | exact rfl | fail) ?_ | refine ro_d (by exact rfl) (by exact rfl) ?_)) (by decide) (by exact rfl) (by exact rfl) (by (simp [bdT, AV.bd, bdL, bdL_append]; done)) (by repeat' (first | exact True.intro | exact rfl | refine And.intro ?_ ?_)) (by exact Nat.le_of_ble_eq_true rfl)⟩
    by_cases h5 : kk = 5
    · have e1 : tailT kk nm = [42] := by simp [tailT, h5]
      rw [e1] at hb ⊢
      simp only [List.length_cons, List.length_nil] at hb
      (repeat' (first | refine WP.seq ?_ | refine WP.block ?_ | refine go_n ?_ | refine WP.exit ?_ | refine go_x ?_ | refine bl_n ?_ | refine bl_x ?_ | refine bo_n ?_ | (refine wp_cond (by exact rfl) (fun hc => ?_) (fun hc => ?_) <;> (try simp only [decide_eq_true_eq, decide_eq_false_iff_not, Decidable.not_not, Bool.and_eq_true, Bool.or_eq_true, Bool.not_eq_true', Bool.not_eq_false', Bool.or_eq_false_iff, Bool.and_eq_false_iff, Int.not_lt, Int.not_le, reduceCtorEq, ne_eq, Bool.not_true, Bool.not_false, Bool.not_eq_true, Bool.not_eq_false] at hc) <;> (try (exfalso; omega))) | (refine WP.regionC (id := 2) ?_; (refine su (ap_lss (by exact rq_p rfl rfl) (by exact rq_p rfl rfl)) ?_); refine asemC_end ?_) | (refine WP.regionC (id := 15) ?_; (refine su (ap_field_p (by exact rq_p rfl rfl) (by exact rfl) (by exact rfl)) ?_); (refine su (ap_load_p (by exact rq_p rfl rfl) (by exact rfl) (by exact rfl) (by exact rfl)) ?_); refine asemC_end ?_) | (refine WP.regionC (id := 16) ?_; (refine su (ap_eql (by exact rq_p rfl rfl) (by exact rq_p rfl rfl)) ?_); (refine su (ap_assign (by exact rq_p rfl rfl)) ?_); refine asemC_end ?_) | (refine WP.regionC (id := 18) ?_; (refine su (ap_eql (by exact rq_p rfl rfl) (by exact rq_p rfl rfl)) ?_); (refine su (ap_assign (by exact rq_p rfl rfl)) ?_); refine asemC_end ?_) | (refine WP.regionC (id := 20) ?_; (refine su (ap_eql (by exact rq_p rfl rfl) (by exact rq_p rfl rfl)) ?_); (refine su (ap_assign (by exact rq_p rfl rfl)) ?_); refine asemC_end ?_) | (refine WP.regionC (id := 21) ?_; (refine su (ap_move (by exact rq_p rfl rfl)) ?_); (refine su (ap_nilc (by exact rq_p rfl rfl)) ?_); (refine su (ap_field_p (by exact rq_p rfl rfl) (by exact rfl) (by exact rfl)) ?_); (refine sc_wr rfl rfl (by repeat' first | exact ArgS.nil | refine ArgS.ren (by exact rfl) (by exact rfl) ?_) (by exact rfl) (by exact rfl) (by exact rfl) (by exact rfl) (by exact rfl) (by exact rfl) (wbyte_lit _ (by exact blies_W) _ _ (by decide) (by (simp only [bsz, List.size_toArray, List.length_append, List.length_cons, List.length_nil, ByteArray.size_append] <;> omega))) ?_); refine asemC_end ?_)))
      rw [← List.append_assoc]
      exact retW_0 ⟨[0, 1, 4], ToR.S rfl (by repeat' (exact rt_nil)) (by repeat' (first | exact ro_nil | refine ro_b (by exact rfl) (by first | exact rfl | fail) ?_ | refine ro_d (by exact rfl) (by exact rfl) ?_)) (by decide) (by exact rfl) (by exact rfl) (by (simp [bdT, AV.bd, bdL, bdL_append]; done)) (by repeat' (first | exact True.intro | exact rfl | refine And.intro ?_ ?_)) (by exact Nat.le_of_ble_eq_true rfl)⟩
    by_cases h6 : kk = 6
    · have e1 : tailT kk nm = [43] := by simp [tailT, h6]
      rw [e1] at hb ⊢
      simp only [List.length_cons, List.length_nil] at hb
      (repeat' (first | refine WP.seq ?_ | refine WP.block ?_ | refine go_n ?_ | refine WP.exit ?_ | refine go_x ?_ | refine bl_n ?_ | refine bl_x ?_ | refine bo_n ?_ | (refine wp_cond (by exact rfl) (fun hc => ?_) (fun hc => ?_) <;> (try simp only [decide_eq_true_eq, decide_eq_false_iff_not, Decidable.not_not, Bool.and_eq_true, Bool.or_eq_true, Bool.not_eq_true', Bool.not_eq_false', Bool.or_eq_false_iff, Bool.and_eq_false_iff, Int.not_lt, Int.not_le, reduceCtorEq, ne_eq, Bool.not_true, Bool.not_false, Bool.not_eq_true, Bool.not_eq_false] at hc) <;> (try (exfalso; omega))) | (refine WP.regionC (id := 2) ?_; (refine su (ap_lss (by exact rq_p rfl rfl) (by exact rq_p rfl rfl)) ?_); refine asemC_end ?_) | (refine WP.regionC (id := 15) ?_; (refine su (ap_field_p (by exact rq_p rfl rfl) (by exact rfl) (by exact rfl)) ?_); (refine su (ap_load_p (by exact rq_p rfl rfl) (by exact rfl) (by exact rfl) (by exact rfl)) ?_); refine asemC_end ?_) | (refine WP.regionC (id := 16) ?_; (refine su (ap_eql (by exact rq_p rfl rfl) (by exact rq_p rfl rfl)) ?_); (refine su (ap_assign (by exact rq_p rfl rfl)) ?_); refine asemC_end ?_) | (refine WP.regionC (id := 18) ?_; (refine su (ap_eql (by exact rq_p rfl rfl) (by exact rq_p rfl rfl)) ?_); (refine su (ap_assign (by exact rq_p rfl rfl)) ?_); refine asemC_end ?_) | (refine WP.regionC (id := 20) ?_; (refine su (ap_eql (by exact rq_p rfl rfl) (by exact rq_p rfl rfl)) ?_); (refine su (ap_assign (by exact rq_p rfl rfl)) ?_); refine asemC_end ?_) | (refine WP.regionC (id := 22) ?_; (refine su (ap_eql (by exact rq_p rfl rfl) (by exact rq_p rfl rfl)) ?_); (refine su (ap_assign (by exact rq_p rfl rfl)) ?_); refine asemC_end ?_) | (refine WP.regionC (id := 23) ?_; (refine su (ap_move (by exact rq_p rfl rfl)) ?_); (refine su (ap_nilc (by exact rq_p rfl rfl)) ?_); (refine su (ap_field_p (by exact rq_p rfl rfl) (by exact rfl) (by exact rfl)) ?_); (refine sc_wr rfl rfl (by repeat' first | exact ArgS.nil | refine ArgS.ren (by exact rfl) (by exact rfl) ?_) (by exact rfl) (by exact rfl) (by exact rfl) (by exact rfl) (by exact rfl) (by exact rfl) (wbyte_lit _ (by exact blies_W) _ _ (by decide) (by (simp only [bsz, List.size_toArray, List.length_append, List.length_cons, List.length_nil, ByteArray.size_append] <;> omega))) ?_); refine asemC_end ?_)))
      rw [← List.append_assoc]
      exact retW_0 ⟨[0, 1, 4], ToR.S rfl (by repeat' (exact rt_nil)) (by repeat' (first | exact ro_nil | refine ro_b (by exact rfl) (by first | exact rfl | fail) ?_ | refine ro_d (by exact rfl) (by exact rfl) ?_)) (by decide) (by exact rfl) (by exact rfl) (by (simp [bdT, AV.bd, bdL, bdL_append]; done)) (by repeat' (first | exact True.intro | exact rfl | refine And.intro ?_ ?_)) (by exact Nat.le_of_ble_eq_true rfl)⟩
    have e1 : tailT kk nm = [] := by simp [tailT, h1, h4, h5, h6]
    rw [e1, List.append_nil] at ⊢
    (repeat' (first | refine WP.seq ?_ | refine WP.block ?_ | refine go_n ?_ | refine WP.skip ?_ | refine WP.exit ?_ | refine go_x ?_ | refine bl_n ?_ | refine bl_x ?_ | refine bo_n ?_ | (refine wp_cond (by exact rfl) (fun hc => ?_) (fun hc => ?_) <;> (try simp only [decide_eq_true_eq, decide_eq_false_iff_not, Decidable.not_not, Bool.and_eq_true, Bool.or_eq_true, Bool.not_eq_true', Bool.not_eq_false', Bool.or_eq_false_iff, Bool.and_eq_false_iff, Int.not_lt, Int.not_le, reduceCtorEq, ne_eq, Bool.not_true, Bool.not_false, Bool.not_eq_true, Bool.not_eq_false] at hc) <;> (try (exfalso; omega))) | (refine WP.regionC (id := 2) ?_; (refine su (ap_lss (by exact rq_p rfl rfl) (by exact rq_p rfl rfl)) ?_); refine asemC_end ?_) | (refine WP.regionC (id := 15) ?_; (refine su (ap_field_p (by exact rq_p rfl rfl) (by exact rfl) (by exact rfl)) ?_); (refine su (ap_load_p (by exact rq_p rfl rfl) (by exact rfl) (by exact rfl) (by exact rfl)) ?_); refine asemC_end ?_) | (refine WP.regionC (id := 16) ?_; (refine su (ap_eql (by exact rq_p rfl rfl) (by exact rq_p rfl rfl)) ?_); (refine su (ap_assign (by exact rq_p rfl rfl)) ?_); refine asemC_end ?_) | (refine WP.regionC (id := 18) ?_; (refine su (ap_eql (by exact rq_p rfl rfl) (by exact rq_p rfl rfl)) ?_); (refine su (ap_assign (by exact rq_p rfl rfl)) ?_); refine asemC_end ?_) | (refine WP.regionC (id := 20) ?_; (refine su (ap_eql (by exact rq_p rfl rfl) (by exact rq_p rfl rfl)) ?_); (refine su (ap_assign (by exact rq_p rfl rfl)) ?_); refine asemC_end ?_) | (refine WP.regionC (id := 22) ?_; (refine su (ap_eql (by exact rq_p rfl rfl) (by exact rq_p rfl rfl)) ?_); (refine su (ap_assign (by exact rq_p rfl rfl)) ?_); refine asemC_end ?_)))
    exact retW_0 ⟨[0, 1, 2], ToR.S rfl (by repeat' (exact rt_nil)) (by repeat' (first | exact ro_nil | refine ro_b (by exact rfl) (by first | exact rfl | fail) ?_ | refine ro_d (by exact rfl) (by exact rfl) ?_)) (by decide) (by exact rfl) (by exact rfl) (by (simp [bdT, AV.bd, bdL, bdL_append]; done)) (by repeat' (first | exact True.intro | exact rfl | refine And.intro ?_ ?_)) (by exact Nat.le_of_ble_eq_true rfl)⟩
end Go.Lg
