/-
  Part 13 of the proof of BinarizeParseRoundTripUpto: the logic over the model, the functions' contracts and the plain laws.
-/
import Derived.Test.YtdgibngbooghfaaNw12
import Derived.Lib.Join
import Derived.Lib.ItoaLen

set_option linter.unusedSimpArgs false
set_option linter.unusedVariables false
set_option linter.unusedSectionVars false
set_option linter.defProp false

namespace Go.Lg
open Go.Proofs
def letB (c : Int) : Bool := decide (97 ≤ c) && decide (c ≤ 122) || decide (65 ≤ c) && decide (c ≤ 90)
def digB (c : Int) : Bool := decide (48 ≤ c) && decide (c ≤ 57)
theorem range_all_succ {f : Nat → Bool} {k : Nat} (h : (List.range k).all f = true) (hf : f k = true) : (List.range (k + 1)).all f = true := by
  rw [List.range_succ, List.all_append, h]; simp [hf]
theorem range_all_no {f : Nat → Bool} {k n : Nat} (hk : k < n) (hf : f k = false) : (List.range n).all f = false := by
  rw [List.all_eq_false]; exact ⟨k, by simpa using hk, by simp [hf]⟩
def indexP {α : Type} (p : α → Bool) (l : List α) : Int := match l.findIdx? p with
  | some i => i
  | none => -1
theorem indexP_at {α : Type} [Inhabited α] {p : α → Bool} {l : List α} {k : Nat} (hk : k < l.length) (h : (l.take k).any p = false) (hp : p (nth l k) = true) : indexP p l = k := by
  have : l.findIdx? p = some k := by
    rw [List.findIdx?_eq_some_iff_getElem]
    refine ⟨hk, by rwa [nth_eq hk] at hp, fun j hj => ?_⟩
    rw [List.any_eq_false] at h
    have := h l[j] (by rw [List.mem_take_iff_getElem]; exact ⟨j, by omega, rfl⟩)
    simpa using this
  simp [indexP, this]
theorem indexP_no {α : Type} {p : α → Bool} {l : List α} {k : Nat} (hk : l.length ≤ k) (h : (l.take k).any p = false) : indexP p l = -1 := by
  rw [List.take_of_length_le hk] at h
  have : l.findIdx? p = none := by rw [List.findIdx?_eq_none_iff]; intro x hx; rw [List.any_eq_false] at h; simpa using h x hx
  simp [indexP, this]
theorem indexP_any {α : Type} {p : α → Bool} {l : List α} : decide (0 ≤ indexP p l) = l.any p := by
  unfold indexP
  cases h : l.findIdx? p with
  | none => rw [List.findIdx?_eq_none_iff] at h; rw [show l.any p = false by rw [List.any_eq_false]; intro x hx; simp [h x hx]]; rfl
  | some i =>
    rw [List.findIdx?_eq_some_iff_getElem] at h
    obtain ⟨hi, hp, _⟩ := h
    rw [show l.any p = true by rw [List.any_eq_true]; exact ⟨_, List.getElem_mem hi, hp⟩]
    simp
theorem take_any_succ {α : Type} [Inhabited α] {l : List α} {f : α → Bool} {k : Nat} (hk : k < l.length) (h : (l.take k).any f = false) (hf : f (nth l k) = false) : (l.take (k + 1)).any f = false := by
  rw [take_succ_nth hk, List.any_append, h]; simp [hf]
theorem take_eq_succ {α : Type} [Inhabited α] {a b : List α} {k : Nat} (ha : k < a.length) (hb : k < b.length) (h : a.take k = b.take k) (he : nth a k = nth b k) : a.take (k + 1) = b.take (k + 1) := by
  rw [take_succ_nth ha, take_succ_nth hb, h, he]
theorem eq_of_takes {α : Type} {a b : List α} {k : Nat} (hl : a.length = b.length) (hk : a.length ≤ k) (h : a.take k = b.take k) : a = b := by
  rwa [List.take_of_length_le hk, List.take_of_length_le (by omega)] at h
theorem nodup_nth {α : Type} [Inhabited α] {l : List α} (h : ∀ j, j < l.length → ∀ k, k < j → nth l k ≠ nth l j) : l.Nodup := by
  rw [List.nodup_iff_pairwise_ne, List.pairwise_iff_getElem]
  intro i j hi hj hij
  have := h j hj i hij
  rwa [nth_eq hi, nth_eq hj] at this
theorem not_nodup {α : Type} [Inhabited α] {l : List α} {k j : Nat} (hj : j < l.length) (hk : k < j) (h : nth l k = nth l j) : ¬ l.Nodup := by
  rw [List.nodup_iff_pairwise_ne, List.pairwise_iff_getElem]
  intro hp
  have := hp k j (by omega) hj hk
  rw [nth_eq (by omega), nth_eq hj] at h
  exact this h
theorem all_of_nth {α : Type} [Inhabited α] {l : List α} {f : α → Bool} (h : ∀ j, j < l.length → f (nth l j) = true) : l.all f = true := by
  rw [List.all_eq_true]; intro x hx
  obtain ⟨i, hi, rfl⟩ := List.getElem_of_mem hx
  have := h i hi
  rwa [nth_eq hi] at this
def bl (s : ByteArray) : List UInt8 := s.data.toList
def tx (l : List UInt8) : ByteArray := ⟨l.toArray⟩
@[simp] theorem bl_tx (l : List UInt8) : bl (tx l) = l := rfl
theorem tx_bl (s : ByteArray) : tx (bl s) = s := by obtain ⟨⟨l⟩⟩ := s; rfl
end Go.Lg

namespace Go.Lg
theorem sB : (∀ {p : Prop} [Decidable p], (decide p = true) = p) ∧
  (∀ {p : Prop} [Decidable p], decide p = false ↔ ¬p) ∧
  (∀ {p : Prop} [Decidable p], ¬¬p ↔ p) ∧
  (∀ a b : Bool, ((a && b) = true) = (a = true ∧ b = true)) ∧
  (∀ a b : Bool, ((a || b) = true) = (a = true ∨ b = true)) ∧
  (∀ {b : Bool}, ((!b) = true) = (b = false)) ∧
  (∀ {b : Bool}, ((!b) = false) = (b = true)) ∧
  (∀ {x y : Bool}, (x || y) = false ↔ x = false ∧ y = false) ∧
  (∀ {x y : Bool}, (x && y) = false ↔ x = false ∨ y = false) ∧
  (∀ {a b : Int}, ¬a < b ↔ b ≤ a) ∧
  (∀ {a b : Int}, ¬a ≤ b ↔ b < a) ∧
  ((!true) = false) ∧
  ((!false) = true) ∧
  (∀ {b : Bool}, (¬b = true) = (b = false)) ∧
  (∀ {b : Bool}, (¬b = false) = (b = true)) := ⟨@decide_eq_true_eq, @decide_eq_false_iff_not, @Decidable.not_not, Bool.and_eq_true, Bool.or_eq_true, @Bool.not_eq_true', @Bool.not_eq_false', @Bool.or_eq_false_iff, @Bool.and_eq_false_iff, @Int.not_lt, @Int.not_le, Bool.not_true, Bool.not_false, @Bool.not_eq_true, @Bool.not_eq_false⟩
theorem sH : (∀ {α : Type} {a : α} {l : List α} {p : α → Bool}, (a :: l).all p = (p a && l.all p)) ∧
  (∀ {α : Type} {p : α → Bool} {xs ys : List α}, (xs ++ ys).all p = (xs.all p && ys.all p)) ∧
  (∀ {α : Type} {p : α → Bool}, ([] : List α).all p = true) ∧
  (∀ b : Bool, (b && true) = b) := ⟨@List.all_cons, @List.all_append, @List.all_nil, Bool.and_true⟩
theorem sL : (∀ {α : Type} {n : Nat} {a : α}, (List.replicate n a).length = n) ∧
  (∀ {α : Type} {us : List α} {i : Nat} {a : α}, (us.set i a).length = us.length) ∧
  (∀ {α : Type} {us bs : List α}, (us ++ bs).length = us.length + bs.length) ∧
  (∀ {α : Type} {β : Type} {us : List α} (f : α → β), (us.map f).length = us.length) ∧
  (∀ {α : Type} {a : α} {us : List α}, (a :: us).length = us.length + 1) ∧
  (∀ {α : Type}, ([] : List α).length = 0) ∧
  (∀ {α : Type} {i : Nat} {l : List α}, (l.take i).length = min i l.length) ∧
  (∀ {α : Type} {i : Nat} {l : List α}, (l.drop i).length = l.length - i) := ⟨@List.length_replicate, @List.length_set, @List.length_append, @List.length_map, @List.length_cons, @List.length_nil, @List.length_take, @List.length_drop⟩
theorem sZ : (∀ {α : Type} (us : List α), us.toArray.size = us.length) ∧
  (∀ {a b : ByteArray}, (a ++ b).size = a.size + b.size) ∧
  (∀ {α : Type} {us bs : List α}, (us ++ bs).length = us.length + bs.length) ∧
  (∀ {α : Type} {a : α} {us : List α}, (a :: us).length = us.length + 1) ∧
  (∀ {α : Type}, ([] : List α).length = 0) := ⟨@List.size_toArray, @ByteArray.size_append, @List.length_append, @List.length_cons, @List.length_nil⟩
end Go.Lg

namespace Go.Lg
open Go.RowKit
def opp (n : Nat) (l : List (Nat × AV)) (a : Operand) : Option AV := match opq n l a with
  | some x => bif x.plain then some x else none
  | none => none
section
variable {P : Program} {n M N i0 : Nat} {l : List (Nat × AV)} {os : List (Nat × Option AObj)} {e l' t : List Bool} {a b c d : Operand} {x y : AV} {dd tg : Tmp} {tyo : TypeId} {pos : String} {af : Array Edge} {ops : Array Oper} {rest : List Oper} {KD : List Rec → St → Prop} {K : St → Prop} {rs : List Rec} {jg : Nat} {want : Bool}
theorem opp_b (h : opp n l a = some x) : opq n l a = some x ∧ x.plain = true := by
  unfold opp at h
  cases hq : opq n l a with
  | none => rw [hq] at h; cases h
  | some y =>
    rw [hq] at h
    simp only at h
    cases hp : y.plain with
    | false => rw [hp] at h; cases h
    | true => rw [hp] at h; injection h with h; subst h; exact ⟨rfl, hp⟩
theorem opp_o (h : opp n l a = some x) : opq n l a = some x := (opp_b h).1
theorem opp_p (h : opp n l a = some x) : x.plain = true := (opp_b h).2
theorem opp_q (h : opp n l a = some x) : Rq n l e a x := rq_p (opp_b h).1 (opp_b h).2
section
variable {k kk : IntKind} {p q : Int} {ty ty2 : TypeId} {s u : ByteArray} {ti tj te : TI} {el : TypeId} {cs es : List AV} {i j id off sz len : Nat} {ed : AV} {b' : Bool}
theorem smove (h : opp n l a = some x) (hk : asemC P ops rest (S n ((dd, x) :: l) M os) K) : asemC P ops (⟨some dd, (.move a), tyo, pos, af, none⟩ :: rest) (S n l M os) K := su (ap_move (opp_q h)) hk
theorem rmove (h : opp n l a = some x) (hk : RunD P ops N (i0 + 1) rest (S n ((dd, x) :: l) M os) (rs ++ [⟨some dd, [], topq n l (Op.operands (.move a)).toList⟩]) KD) : RunD P ops N i0 (⟨some dd, (.move a), tyo, pos, af, none⟩ :: rest) (S n l M os) rs KD := rd_u (by first | (simp [Op.operands, plainq, opp_o h, opp_p h]; done) | simp [Op.operands, plainq, AV.plain, opp_o h]) rfl (ap_move (opp_q h)) hk
theorem gmove (ht : (ops[jg]?).bind (·.dst) = some tg) (hg : opq n l (.tmp tg) = some (.val (.bool want))) (h : opp n l a = some x) (hk : RunD P ops N (i0 + 1) rest (S n ((dd, x) :: l) M os) (rs ++ [⟨some dd, [], topq n l (Op.operands (.move a)).toList⟩]) KD) : RunD P ops N i0 (⟨some dd, (.move a), tyo, pos, af, some (jg, want)⟩ :: rest) (S n l M os) rs KD := rdg_u ht hg (by first | (simp [Op.operands, plainq, opp_o h, opp_p h]; done) | simp [Op.operands, plainq, AV.plain, opp_o h]) rfl (ap_move (opp_q h)) hk
theorem snilc {id k i j : Nat} (h : opp n l a = some (.ptr id k i j)) (hk : asemC P ops rest (S n ((dd, (.ptr id k i j)) :: l) M os) K) : asemC P ops (⟨some dd, (.nilCheck a), tyo, pos, af, none⟩ :: rest) (S n l M os) K := su (ap_nilc (opp_q h)) hk
theorem sassign (h : opp n l a = some x) (hk : asemC P ops rest (S n ((dd, x) :: l) M os) K) : asemC P ops (⟨some dd, (.assign a), tyo, pos, af, none⟩ :: rest) (S n l M os) K := su (ap_assign (opp_q h)) hk
theorem aassign (h : opp n l a = some x) : Ap P n l M os e (.assign a) x := ap_assign (opp_q h)
theorem sadd (ha : opp n l a = some (.val (.int k p))) (hb : opp n l b = some (.val (.int k q))) (h : inr k (p + q)) (hk : asemC P ops rest (S n ((dd, (.val (.int k (p + q)))) :: l) M os) K) : asemC P ops (⟨some dd, (.binOp .add ty a b ty2), tyo, pos, af, none⟩ :: rest) (S n l M os) K := su (ap_add (opp_q ha) (opp_q hb) h) hk
theorem aadd (ha : opp n l a = some (.val (.int k p))) (hb : opp n l b = some (.val (.int k q))) (h : inr k (p + q)) : Ap P n l M os e (.binOp .add ty a b ty2) (.val (.int k (p + q))) := ap_add (opp_q ha) (opp_q hb) h
theorem asub (ha : opp n l a = some (.val (.int k p))) (hb : opp n l b = some (.val (.int k q))) (h : inr k (p - q)) : Ap P n l M os e (.binOp .sub ty a b ty2) (.val (.int k (p - q))) := ap_sub (opp_q ha) (opp_q hb) h
theorem seql (ha : opp n l a = some (.val (.int k p))) (hb : opp n l b = some (.val (.int k q))) (hk : asemC P ops rest (S n ((dd, (.val (.bool (decide (p = q))))) :: l) M os) K) : asemC P ops (⟨some dd, (.binOp .eql ty a b ty2), tyo, pos, af, none⟩ :: rest) (S n l M os) K := su (ap_eql (opp_q ha) (opp_q hb)) hk
theorem aeql (ha : opp n l a = some (.val (.int k p))) (hb : opp n l b = some (.val (.int k q))) : Ap P n l M os e (.binOp .eql ty a b ty2) (.val (.bool (decide (p = q)))) := ap_eql (opp_q ha) (opp_q hb)
theorem aneq (ha : opp n l a = some (.val (.int k p))) (hb : opp n l b = some (.val (.int k q))) : Ap P n l M os e (.binOp .neq ty a b ty2) (.val (.bool (!decide (p = q)))) := ap_neq (opp_q ha) (opp_q hb)
theorem slss (ha : opp n l a = some (.val (.int k p))) (hb : opp n l b = some (.val (.int k q))) (hk : asemC P ops rest (S n ((dd, (.val (.bool (decide (p < q))))) :: l) M os) K) : asemC P ops (⟨some dd, (.binOp .lss ty a b ty2), tyo, pos, af, none⟩ :: rest) (S n l M os) K := su (ap_lss (opp_q ha) (opp_q hb)) hk
theorem alss (ha : opp n l a = some (.val (.int k p))) (hb : opp n l b = some (.val (.int k q))) : Ap P n l M os e (.binOp .lss ty a b ty2) (.val (.bool (decide (p < q)))) := ap_lss (opp_q ha) (opp_q hb)
theorem aleq (ha : opp n l a = some (.val (.int k p))) (hb : opp n l b = some (.val (.int k q))) : Ap P n l M os e (.binOp .leq ty a b ty2) (.val (.bool (decide (p ≤ q)))) := ap_leq (opp_q ha) (opp_q hb)
theorem agtr (ha : opp n l a = some (.val (.int k p))) (hb : opp n l b = some (.val (.int k q))) : Ap P n l M os e (.binOp .gtr ty a b ty2) (.val (.bool (decide (q < p)))) := ap_gtr (opp_q ha) (opp_q hb)
theorem ageq (ha : opp n l a = some (.val (.int k p))) (hb : opp n l b = some (.val (.int k q))) : Ap P n l M os e (.binOp .geq ty a b ty2) (.val (.bool (decide (q ≤ p)))) := ap_geq (opp_q ha) (opp_q hb)
theorem seqs (ha : opp n l a = some (.val (.string s))) (hb : opp n l b = some (.val (.string u))) (hk : asemC P ops rest (S n ((dd, (.val (.bool (decide (s = u))))) :: l) M os) K) : asemC P ops (⟨some dd, (.binOp .eql ty a b ty2), tyo, pos, af, none⟩ :: rest) (S n l M os) K := su (ap_eqs (opp_q ha) (opp_q hb)) hk
theorem aeqs (ha : opp n l a = some (.val (.string s))) (hb : opp n l b = some (.val (.string u))) : Ap P n l M os e (.binOp .eql ty a b ty2) (.val (.bool (decide (s = u)))) := ap_eqs (opp_q ha) (opp_q hb)
theorem anot {p : Bool} (ha : opp n l a = some (.val (.bool p))) : Ap P n l M os e (.unOp .not ty a) (.val (.bool !p)) := ap_not (opp_q ha)
theorem aneg (ha : opp n l a = some (.val (.int k p))) (h : inr k (0 - p)) : Ap P n l M os e (.unOp .neg ty a) (.val (.int k (0 - p))) := ap_neg (opp_q ha) h
theorem sloadw [h : TIc P ty ti] (ha : opp n l a = some (.iptr (AV.cells x) 0)) (hp : part ti x.cells 0 = some x) (hk : asemC P ops rest (S n ((dd, x) :: l) M os) K) : asemC P ops (⟨some dd, (.load ty a), tyo, pos, af, none⟩ :: rest) (S n l M os) K := su (ap_load_w (opp_q ha) hp) hk
theorem aloadw [h : TIc P ty ti] (ha : opp n l a = some (.iptr (AV.cells x) 0)) (hp : part ti x.cells 0 = some x) : Ap P n l M os e (.load ty a) x := ap_load_w (opp_q ha) hp
theorem aloadi [h : TIc P ty ti] (ha : opp n l a = some (.iptr cs j)) (hp : part ti cs j = some x) : Ap P n l M os e (.load ty a) x := ap_load_i (opp_q ha) hp
theorem sloadpw {k : Nat} [h : TIc P ty ti] (ha : opp n l a = some (.ptr id k i 0)) (ho : lookq M os id = some (.arr k es)) (hi : es[i]? = some x) (hp : part ti x.cells 0 = some x) (hk : asemC P ops rest (S n ((dd, x) :: l) M os) K) : asemC P ops (⟨some dd, (.load ty a), tyo, pos, af, none⟩ :: rest) (S n l M os) K := su (ap_load_pw (opp_q ha) ho hi hp) hk
theorem aloadpw {k : Nat} [h : TIc P ty ti] (ha : opp n l a = some (.ptr id k i 0)) (ho : lookq M os id = some (.arr k es)) (hi : es[i]? = some x) (hp : part ti x.cells 0 = some x) : Ap P n l M os e (.load ty a) x := ap_load_pw (opp_q ha) ho hi hp
theorem sloadp {k : Nat} [h : TIc P ty ti] (ha : opp n l a = some (.ptr id k i j)) (ho : lookq M os id = some (.arr k es)) (hi : es[i]? = some y) (hp : part ti y.cells j = some x) (hk : asemC P ops rest (S n ((dd, x) :: l) M os) K) : asemC P ops (⟨some dd, (.load ty a), tyo, pos, af, none⟩ :: rest) (S n l M os) K := su (ap_load_p (opp_q ha) ho hi hp) hk
theorem rloadp {k : Nat} [h : TIc P ty ti] (ha : opp n l a = some (.ptr id k i j)) (ho : lookq M os id = some (.arr k es)) (hi : es[i]? = some y) (hp : part ti y.cells j = some x) (hk : RunD P ops N (i0 + 1) rest (S n ((dd, x) :: l) M os) (rs ++ [⟨some dd, [], topq n l (Op.operands (.load ty a)).toList⟩]) KD) : RunD P ops N i0 (⟨some dd, (.load ty a), tyo, pos, af, none⟩ :: rest) (S n l M os) rs KD := rd_u (by first | (simp [Op.operands, plainq, opp_o ha, opp_p ha]; done) | simp [Op.operands, plainq, AV.plain, opp_o ha]) rfl (ap_load_p (opp_q ha) ho hi hp) hk
theorem gloadp {k : Nat} (ht : (ops[jg]?).bind (·.dst) = some tg) (hg : opq n l (.tmp tg) = some (.val (.bool want))) [h : TIc P ty ti] (ha : opp n l a = some (.ptr id k i j)) (ho : lookq M os id = some (.arr k es)) (hi : es[i]? = some y) (hp : part ti y.cells j = some x) (hk : RunD P ops N (i0 + 1) rest (S n ((dd, x) :: l) M os) (rs ++ [⟨some dd, [], topq n l (Op.operands (.load ty a)).toList⟩]) KD) : RunD P ops N i0 (⟨some dd, (.load ty a), tyo, pos, af, some (jg, want)⟩ :: rest) (S n l M os) rs KD := rdg_u ht hg (by first | (simp [Op.operands, plainq, opp_o ha, opp_p ha]; done) | simp [Op.operands, plainq, AV.plain, opp_o ha]) rfl (ap_load_p (opp_q ha) ho hi hp) hk
theorem aloadpt {k : Nat} {α : Type} [Inhabited α] {f : α → AV} {L : List α} [h : TIc P ty ti] (ha : opp n l a = some (.ptr id k i 0)) (ho : lookq M os id = some (.arr k (L.map f))) (hi : i < L.length) (hp : part ti (f (nth L i)).cells 0 = some (f (nth L i))) : Ap P n l M os e (.load ty a) (f (nth L i)) := ap_load_pt (opp_q ha) ho hi hp
theorem sfieldp {k : Nat} [h : TIc P ty ti] {f : Nat} (ha : opp n l a = some (.ptr id k i j)) (hf : ti.fields[f]? = some (off, sz)) (hs : Nat.beq sz 0 = false) (hk : asemC P ops rest (S n ((dd, (.ptr id k i (j + off))) :: l) M os) K) : asemC P ops (⟨some dd, (.fieldAddr ty a f), tyo, pos, af, none⟩ :: rest) (S n l M os) K := su (ap_field_p (opp_q ha) hf hs) hk
theorem rfieldp {k : Nat} [h : TIc P ty ti] {f : Nat} (ha : opp n l a = some (.ptr id k i j)) (hf : ti.fields[f]? = some (off, sz)) (hs : Nat.beq sz 0 = false) (hk : RunD P ops N (i0 + 1) rest (S n ((dd, (.ptr id k i (j + off))) :: l) M os) (rs ++ [⟨some dd, [], topq n l (Op.operands (.fieldAddr ty a f)).toList⟩]) KD) : RunD P ops N i0 (⟨some dd, (.fieldAddr ty a f), tyo, pos, af, none⟩ :: rest) (S n l M os) rs KD := rd_u (by first | (simp [Op.operands, plainq, opp_o ha, opp_p ha]; done) | simp [Op.operands, plainq, AV.plain, opp_o ha]) rfl (ap_field_p (opp_q ha) hf hs) hk
theorem gfieldp {k : Nat} (ht : (ops[jg]?).bind (·.dst) = some tg) (hg : opq n l (.tmp tg) = some (.val (.bool want))) [h : TIc P ty ti] {f : Nat} (ha : opp n l a = some (.ptr id k i j)) (hf : ti.fields[f]? = some (off, sz)) (hs : Nat.beq sz 0 = false) (hk : RunD P ops N (i0 + 1) rest (S n ((dd, (.ptr id k i (j + off))) :: l) M os) (rs ++ [⟨some dd, [], topq n l (Op.operands (.fieldAddr ty a f)).toList⟩]) KD) : RunD P ops N i0 (⟨some dd, (.fieldAddr ty a f), tyo, pos, af, some (jg, want)⟩ :: rest) (S n l M os) rs KD := rdg_u ht hg (by first | (simp [Op.operands, plainq, opp_o ha, opp_p ha]; done) | simp [Op.operands, plainq, AV.plain, opp_o ha]) rfl (ap_field_p (opp_q ha) hf hs) hk
theorem afieldi [h : TIc P ty ti] {f : Nat} (ha : opp n l a = some (.iptr cs j)) (hf : ti.fields[f]? = some (off, sz)) (hs : Nat.beq sz 0 = false) : Ap P n l M os e (.fieldAddr ty a f) (.iptr cs (j + off)) := ap_field_i (opp_q ha) hf hs
theorem sidxn {k : Nat} {α : Type} [Inhabited α] {f : α → AV} {L : List α} {kk : IntKind} {i : Nat} {bt : Nat} [h : TEl P ty te k bt] (ha : opp n l a = some (.sl k (L.map f))) (hb : opp n l b = some (.val (.int kk (i : Int)))) (hi : i < L.length) (hk : asemC P ops rest (S n ((dd, (.iptr (AV.cells (f (nth L i))) 0)) :: l) M os) K) : asemC P ops (⟨some dd, (.indexAddr ty a b), tyo, pos, af, none⟩ :: rest) (S n l M os) K := su (ap_idx_n (opp_q ha) (opp_q hb) hi) hk
theorem aidxn {k : Nat} {α : Type} [Inhabited α] {f : α → AV} {L : List α} {kk : IntKind} {i : Nat} {bt : Nat} [h : TEl P ty te k bt] (ha : opp n l a = some (.sl k (L.map f))) (hb : opp n l b = some (.val (.int kk (i : Int)))) (hi : i < L.length) : Ap P n l M os e (.indexAddr ty a b) (.iptr (AV.cells (f (nth L i))) 0) := ap_idx_n (opp_q ha) (opp_q hb) hi
theorem aidxz {k : Nat} {α : Type} [Inhabited α] {f : α → AV} {L : List α} {kk : IntKind} {i : Int} {bt : Nat} [h : TEl P ty te k bt] (ha : opp n l a = some (.sl k (L.map f))) (hb : opp n l b = some (.val (.int kk i))) (hi : 0 ≤ i ∧ i < L.length) : Ap P n l M os e (.indexAddr ty a b) (.iptr (AV.cells (f (nth L i.toNat))) 0) := ap_idx_z (opp_q ha) (opp_q hb) hi
theorem aidxrn {k : Nat} {kk : IntKind} {i : Nat} {bt : Nat} [h : TEl P ty te k bt] (ha : opp n l a = some (.ref id k 0 len)) (hb : opp n l b = some (.val (.int kk (i : Int)))) (hi : i < len) : Ap P n l M os e (.indexAddr ty a b) (.ptr id k i 0) := ap_idxr_n (opp_q ha) (opp_q hb) hi
theorem aidxrz {k : Nat} {kk : IntKind} {i : Int} {bt : Nat} [h : TEl P ty te k bt] (ha : opp n l a = some (.ref id k 0 len)) (hb : opp n l b = some (.val (.int kk i))) (hi : 0 ≤ i ∧ i < len) : Ap P n l M os e (.indexAddr ty a b) (.ptr id k i.toNat 0) := ap_idxr_z (opp_q ha) (opp_q hb) hi
theorem asidxn {s : ByteArray} {kk : IntKind} {i : Nat} [h : TIc P ty ti] (ha : opp n l a = some (.val (.string s))) (hb : opp n l b = some (.val (.int kk (i : Int)))) (hs : ti.sh = .string) (hi : i < s.size) : Ap P n l M os e (.index ty a b) (.val (.int .u8 (bAt s i))) := ap_sidx_n (opp_q ha) (opp_q hb) hs hi
theorem slenm {k : Nat} {α : Type} {f : α → AV} {L : List α} [h : TIc P ty ti] (hs : ti.sh = .slice) (ha : opp n l a = some (.sl k (L.map f))) (hk : asemC P ops rest (S n ((dd, (.val (.int .i64 (L.length : Int)))) :: l) M os) K) : asemC P ops (⟨some dd, (.call ⟨.builtin .len, #[a], #[ty]⟩), tyo, pos, af, none⟩ :: rest) (S n l M os) K := su (ap_len_m hs (opp_q ha)) hk
theorem alenm {k : Nat} {α : Type} {f : α → AV} {L : List α} [h : TIc P ty ti] (hs : ti.sh = .slice) (ha : opp n l a = some (.sl k (L.map f))) : Ap P n l M os e (.call ⟨.builtin .len, #[a], #[ty]⟩) (.val (.int .i64 (L.length : Int))) := ap_len_m hs (opp_q ha)
theorem alenr {k : Nat} [h : TIc P ty ti] (hs : ti.sh = .slice) (ha : opp n l a = some (.ref id k off len)) : Ap P n l M os e (.call ⟨.builtin .len, #[a], #[ty]⟩) (.val (.int .i64 (len : Int))) := ap_len_r hs (opp_q ha)
theorem alenstr {s : ByteArray} [h : TIc P ty ti] (hs : ti.sh = .string) (ha : opp n l a = some (.val (.string s))) : Ap P n l M os e (.call ⟨.builtin .len, #[a], #[ty]⟩) (.val (.int .i64 (s.size : Int))) := ap_len_str hs (opp_q ha)
theorem aextract {vs : List AV} (ha : opp n l a = some (.tup vs)) (hi : vs[i]? = some x) : Ap P n l M os e (.extract a i) x := ap_extract (opp_q ha) hi
end
end
section
variable {P : Program} {n M : Nat} {l : List (Nat × AV)} {os : List (Nat × Option AObj)} {e : List Bool} {op : Op} {d : Tmp} {ty : TypeId} {pos : String} {af : Array Edge} {ops : Array Oper} {rest : List Oper} {K : St → Prop} {j : Nat} {want : Bool}
end
end Go.Lg

namespace Go.Lg
def jA := @WP.seq
end Go.Lg

namespace Go.Lg
def jF := @WP.block
end Go.Lg

namespace Go.Lg
def jH := @go_n
end Go.Lg

namespace Go.Lg
def jI := @WP.skip
end Go.Lg

namespace Go.Lg
def jJ := @WP.exit
end Go.Lg

namespace Go.Lg
def jK := @WP.ret
end Go.Lg

namespace Go.Lg
def jL := @go_x
end Go.Lg

namespace Go.Lg
def jM := @go_r
end Go.Lg

namespace Go.Lg
def jN := @bl_n
end Go.Lg

namespace Go.Lg
def jO := @bl_r
end Go.Lg

namespace Go.Lg
def jP := @bl_x
end Go.Lg

namespace Go.Lg
def jS := @bo_r
end Go.Lg

namespace Go.Lg
def jW := @asemC_end
end Go.Lg

namespace Go.Lg
open Go.Proofs
set_option linter.unusedSimpArgs false
set_option linter.unusedVariables false
attribute [local irreducible] Ap Rq asemC WP RunD Ret Gq thenA inBlockA bodyQ noGotoA RqL RqP OpP
set_option maxHeartbeats 1000000
def nameCh (s : ByteArray) (i : Nat) : Bool := letB (bAt s i) || (!decide (i = 0) && (digB (bAt s i) || decide (bAt s i = 95) || decide (bAt s i = 46) || decide (bAt s i = 64)))
def nameOk (s : ByteArray) : Bool := decide (1 ≤ s.size) && decide (s.size ≤ 48) && (List.range s.size).all (nameCh s)
theorem name18_fn (x : ByteArray) : Fn Try.prog 79 [strA x] (boolA (nameOk x)) := by
  refine Fn.intro rfl (by kernel_rfl) Try.func79 rfl rfl Try.ntmps79 (by exact Nat.le_of_ble_eq_true rfl) ?_; intro Γ hm
  (repeat' (first | apply jA | apply jF | apply jH | apply jI | apply jK | apply jM | apply jS | (refine wp_cond rfl (fun hc => ?_) (fun hc => ?_) <;> (try simp only [sB, ne_eq, reduceCtorEq] at hc) <;> (try (exfalso; omega))) | (refine WP.regionC ?_; (refine sassign rfl ?_); apply jW) | (refine WP.regionC (id := 1) ?_; (refine smove rfl ?_); (refine su (alenstr rfl rfl) ?_); (refine slss rfl rfl ?_); (refine smove rfl ?_); (refine sg (gq_vf rfl rfl) (fun he => ap_move (rq_p rfl rfl)) ?_); (refine sg (gq_vf rfl rfl) (fun he => ap_len_str rfl (rq_c rfl rfl)) ?_); (refine sg (gq_vf rfl rfl) (fun he => ap_gtr (rq_c rfl rfl) (rq_p rfl rfl)) ?_); (refine su (ap_or (rq_p rfl rfl) (rq_c rfl rfl)) ?_); apply jW) | refine ret_b rfl ?_))
  · simp [nameOk]; omega
  refine wp_loop (fun k => k ≤ x.size ∧ (List.range k).all (nameCh x) = true) (fun k => x.size - k) (fun k => (S 64 [(0, strA x), (3, intA (k : Nat))] 0 [])) 0 ⟨[], ToR.S rfl (by repeat' (first | exact rt_nil | refine rt_e rfl rfl ?_)) (by repeat' (exact ro_nil)) rfl (by (rw [hm]; exact rfl)) rfl (by (simp [bdT, AV.bd, bdL, bdL_append]; done)) (by repeat' (exact True.intro)) (by (rw [hm]; exact Nat.le_of_ble_eq_true rfl))⟩ ⟨Nat.zero_le _, rfl⟩ ?_
  rintro k ⟨hk, hall⟩
  have hb := bAt_bd x k
  (repeat' (first | apply jA | apply jF | apply jH | apply jI | apply jJ | apply jK | apply jL | apply jM | apply jN | apply jO | apply jP | apply jS | (refine wp_cond rfl (fun hc => ?_) (fun hc => ?_) <;> (try simp only [sB, ne_eq, reduceCtorEq] at hc) <;> (try (exfalso; omega))) | (refine WP.regionC (id := 4) ?_; (refine smove rfl ?_); (refine smove rfl ?_); (refine su (alenstr rfl rfl) ?_); (refine slss rfl rfl ?_); apply jW) | (refine WP.regionC (id := 6) ?_; (refine smove rfl ?_); (refine smove rfl ?_); (refine su (asidxn rfl rfl rfl (by omega)) ?_); (refine sassign rfl ?_); apply jW) | (refine WP.regionC (id := 7) ?_; (refine smove rfl ?_); (refine su (ageq rfl rfl) ?_); (refine smove rfl ?_); (refine sg (gq_vt rfl rfl) (fun he => ap_move (rq_p rfl rfl)) ?_); (refine sg (gq_vt rfl rfl) (fun he => ap_leq (rq_c rfl rfl) (rq_p rfl rfl)) ?_); (refine su (ap_and (rq_p rfl rfl) (rq_c rfl rfl)) ?_); (refine smove rfl ?_); (refine sg (gq_vf rfl rfl) (fun he => ap_move (rq_p rfl rfl)) ?_); (refine sg (gq_vf rfl rfl) (fun he => ap_geq (rq_c rfl rfl) (rq_p rfl rfl)) ?_); (refine sg (gq_vf rfl rfl) (fun he => ap_move (rq_c rfl rfl)) ?_); (refine sg (gq_ct rfl rfl) (fun he => ap_move (rq_p rfl rfl)) ?_); (refine sg (gq_ct rfl rfl) (fun he => ap_leq (rq_c rfl rfl) (rq_p rfl rfl)) ?_); (refine sg (gq_vf rfl rfl) (fun he => ap_and (rq_c rfl rfl) (rq_c rfl rfl)) ?_); (refine su (ap_or (rq_p rfl rfl) (rq_c rfl rfl)) ?_); (refine sassign rfl ?_); apply jW) | (refine WP.regionC (id := 8) ?_; (refine smove rfl ?_); (refine su (anot rfl) ?_); (refine smove rfl ?_); (refine sg (gq_vt rfl rfl) (fun he => ap_move (rq_p rfl rfl)) ?_); (refine sg (gq_vt rfl rfl) (fun he => ap_eql (rq_c rfl rfl) (rq_p rfl rfl)) ?_); (refine sg (gq_vt rfl rfl) (fun he => ap_move (rq_c rfl rfl)) ?_); (refine sg (gq_cf rfl rfl) (fun he => ap_move (rq_p rfl rfl)) ?_); (refine sg (gq_cf rfl rfl) (fun he => ap_geq (rq_c rfl rfl) (rq_p rfl rfl)) ?_); (refine sg (gq_cf rfl rfl) (fun he => ap_move (rq_c rfl rfl)) ?_); (refine sg (gq_ct rfl rfl) (fun he => ap_move (rq_p rfl rfl)) ?_); (refine sg (gq_ct rfl rfl) (fun he => ap_leq (rq_c rfl rfl) (rq_p rfl rfl)) ?_); (refine sg (gq_cf rfl rfl) (fun he => ap_and (rq_c rfl rfl) (rq_c rfl rfl)) ?_); (refine sg (gq_cf rfl rfl) (fun he => ap_move (rq_c rfl rfl)) ?_); (refine sg (gq_cf rfl rfl) (fun he => ap_move (rq_p rfl rfl)) ?_); (refine sg (gq_cf rfl rfl) (fun he => ap_eql (rq_c rfl rfl) (rq_p rfl rfl)) ?_); (refine sg (gq_cf rfl rfl) (fun he => ap_or (rq_c rfl rfl) (rq_c rfl rfl)) ?_); (refine sg (gq_cf rfl rfl) (fun he => ap_move (rq_c rfl rfl)) ?_); (refine sg (gq_cf rfl rfl) (fun he => ap_move (rq_p rfl rfl)) ?_); (refine sg (gq_cf rfl rfl) (fun he => ap_eql (rq_c rfl rfl) (rq_p rfl rfl)) ?_); (refine sg (gq_cf rfl rfl) (fun he => ap_or (rq_c rfl rfl) (rq_c rfl rfl)) ?_); (refine sg (gq_cf rfl rfl) (fun he => ap_move (rq_c rfl rfl)) ?_); (refine sg (gq_cf rfl rfl) (fun he => ap_move (rq_p rfl rfl)) ?_); (refine sg (gq_cf rfl rfl) (fun he => ap_eql (rq_c rfl rfl) (rq_p rfl rfl)) ?_); (refine sg (gq_cf rfl rfl) (fun he => ap_or (rq_c rfl rfl) (rq_c rfl rfl)) ?_); (refine sg (gq_cf rfl rfl) (fun he => ap_not (rq_c rfl rfl)) ?_); (refine sg (gq_vt rfl rfl) (fun he => ap_or (rq_c rfl rfl) (rq_c rfl rfl)) ?_); (refine su (ap_and (rq_p rfl rfl) (rq_c rfl rfl)) ?_); apply jW) | (refine WP.regionC ?_; (refine sassign rfl ?_); apply jW) | (refine WP.regionC (id := 5) ?_; (refine smove rfl ?_); (refine sadd rfl rfl (by exact inr_i64_of (by omega)) ?_); (refine sassign rfl ?_); apply jW) | refine ret_b rfl ?_))
  · rw [show nameOk x = false by simp only [nameOk]; rw [range_all_no (k := k) (by omega), Bool.and_false]; simp [nameCh, letB, digB]; omega]
  · refine ⟨k + 1, ⟨by omega, by omega, range_all_succ hall ?_⟩, ⟨[], ToR.S rfl (by repeat' (first | exact rt_nil | refine rt_e rfl rfl ?_)) (by repeat' (exact ro_nil)) rfl (by (rw [hm]; exact rfl)) rfl (by (simp [bdT, AV.bd, bdL, bdL_append]; done)) (by repeat' (exact True.intro)) (by (rw [hm]; exact Nat.le_of_ble_eq_true rfl))⟩⟩
    simp [nameCh, letB, digB]; omega
  have : k = x.size := by omega
  subst this
  simp only [nameOk, hall]; simp; omega
end Go.Lg

namespace Go.Lg
open Go.Proofs
set_option linter.unusedSimpArgs false
set_option linter.unusedVariables false
attribute [local irreducible] Ap Rq asemC WP RunD Ret Gq thenA inBlockA bodyQ noGotoA RqL RqP OpP
set_option maxHeartbeats 1000000
def namesOk (l : List ByteArray) : Bool := l.all nameOk && decide l.Nodup
theorem names_fn (a b : List ByteArray) (ha : a.length ≤ 1048576) (hb : b.length ≤ 1048576) : Fn Try.prog 67 [strsA a, strsA b] (boolA (namesOk (a ++ b))) := by
  refine Fn.intro rfl (by kernel_rfl) Try.func67 rfl rfl Try.ntmps67 (by exact Nat.le_of_ble_eq_true rfl) ?_; intro Γ hm
  have hab : (a ++ b).length = a.length + b.length := List.length_append
  (repeat' (first | apply jA | apply jF | apply jH | (refine WP.regionC ?_; (refine sassign rfl ?_); apply jW) | (refine WP.regionC (id := 2) ?_; (refine smove rfl ?_); (refine smove rfl ?_); (refine se_appNL rfl rfl rfl rfl rfl (by omega) ?_); (refine sassign rfl ?_); apply jW) | (refine WP.regionC (id := 3) ?_; (refine smove rfl ?_); (refine smove rfl ?_); (refine se_appL rfl rfl rfl rfl rfl rfl rfl (by omega) ?_); (refine sassign rfl ?_); apply jW)))
  refine wp_loop (fun i => i ≤ (a ++ b).length ∧ ∀ j, j < i → nameOk (nth (a ++ b) j) = true ∧ ∀ k, k < j → nth (a ++ b) k ≠ nth (a ++ b) j) (fun i => (a ++ b).length - i)
    (fun i => (S 40 [(5, .ref 0 1 0 (a ++ b).length), (6, intA (i : Nat))] 1 [(0, some (.arr 1 ((a ++ b).map strA)))])) 0 ⟨[1], ToR.S rfl (by repeat' (first | exact rt_nil | refine rt_r rfl rfl ?_ | refine rt_e rfl rfl ?_)) (by repeat' (first | exact ro_nil | refine ro_p rfl (by first | exact rfl | fail) (by first | exact bdL_map (fun _ => by exact rfl) _ | fail) ?_)) rfl (by (rw [hm]; exact rfl)) rfl (by (simp [bdT, AV.bd, bdL, bdL_append]; done)) (by repeat' (first | exact True.intro | refine And.intro ?_ ?_ | exact bdL_map (fun _ => by exact rfl) _)) (by (rw [hm]; exact Nat.le_of_ble_eq_true rfl))⟩ ⟨Nat.zero_le _, by simp⟩ ?_
  rintro i ⟨hi, hall⟩
  (repeat' (first | apply jA | apply jF | apply jH | apply jI | apply jJ | apply jK | apply jL | apply jM | apply jO | apply jP | apply jS | (refine wp_cond rfl (fun hc => ?_) (fun hc => ?_) <;> (try simp only [sB, ne_eq, reduceCtorEq] at hc) <;> (try (exfalso; omega))) | (refine WP.regionC (id := 5) ?_; (refine smove rfl ?_); (refine smove rfl ?_); (refine su (alenr rfl rfl) ?_); (refine slss rfl rfl ?_); apply jW) | (refine WP.regionC (id := 7) ?_; (refine smove rfl ?_); (refine smove rfl ?_); (refine su (aidxrn rfl rfl (by omega)) ?_); (refine su (aloadpt rfl rfl (by omega) rfl) ?_); (refine sc_p rfl rfl (by first | ((repeat' first | exact SubL.nil | refine SubL.cons ?_ ?_ | exact Sub.refl); done) | fail) (by first | (simp [bdL, bdL_append, AV.bd]; done) | fail) (name18_fn _) ?_); (refine su (anot rfl) ?_); apply jW) | (refine WP.regionC ?_; (refine sassign rfl ?_); apply jW) | refine ret_b rfl ?_))
  · simp only [namesOk, all_nth_no (l := a ++ b) (k := i) (by omega) hc, Bool.false_and]
  · have hn : nameOk (nth (a ++ b) i) = true := by assumption
    refine wp_loop (fun k => k ≤ i ∧ ∀ j, j < k → nth (a ++ b) j ≠ nth (a ++ b) i) (fun k => i - k)
      (fun k => (S 40 [(5, .ref 0 1 0 (a ++ b).length), (6, intA (i : Nat)), (7, intA (k : Nat))] 1 [(0, some (.arr 1 ((a ++ b).map strA)))])) 0 ⟨[0], ToR.S rfl (by repeat' (first | exact rt_nil | refine rt_r rfl rfl ?_ | refine rt_e rfl rfl ?_)) (by repeat' (first | exact ro_nil | refine ro_p rfl (by first | exact rfl | fail) (by first | exact bdL_map (fun _ => by exact rfl) _ | fail) ?_)) rfl (by (rw [hm]; exact rfl)) rfl (by (simp [bdT, AV.bd, bdL, bdL_append]; done)) (by repeat' (first | exact True.intro | refine And.intro ?_ ?_ | exact bdL_map (fun _ => by exact rfl) _)) (by (rw [hm]; exact Nat.le_of_ble_eq_true rfl))⟩ ⟨Nat.zero_le _, by simp⟩ ?_
    rintro k ⟨hk, hne⟩
    (repeat' (first | apply jA | apply jF | apply jH | apply jI | apply jJ | apply jK | apply jL | apply jM | apply jN | apply jO | apply jP | apply jS | (refine wp_cond rfl (fun hc => ?_) (fun hc => ?_) <;> (try simp only [sB, ne_eq, reduceCtorEq] at hc) <;> (try (exfalso; omega))) | (refine WP.regionC (id := 10) ?_; (refine smove rfl ?_); (refine smove rfl ?_); (refine slss rfl rfl ?_); apply jW) | (refine wp_draw (id := 12) 9 mixed (by kernel_rfl) (by kernel_rfl) rfl ?_ <;> (refine rmove rfl ?_) <;> (refine rmove rfl ?_) <;> (refine rd_u rfl rfl (aidxrn rfl rfl (by omega)) ?_) <;> (refine rd_u rfl rfl (aloadpt rfl rfl (by omega) rfl) ?_) <;> (refine rmove rfl ?_) <;> (refine rmove rfl ?_) <;> (refine rd_u rfl rfl (aidxrn rfl rfl (by omega)) ?_) <;> (refine rd_u rfl rfl (aloadpt rfl rfl (by omega) rfl) ?_) <;> (refine rd_u rfl rfl (aeqs rfl rfl) ?_) <;> (refine rd_end (by kernel_rfl) ?_)) | (refine WP.regionC (id := 13) ?_; (refine sassign rfl ?_); apply jW) | (refine WP.regionC ?_; (refine smove rfl ?_); (refine sadd rfl rfl (by exact inr_i64_of (by omega)) ?_); (refine sassign rfl ?_); apply jW) | refine ret_b rfl ?_))
    · simp only [namesOk, decide_eq_false (not_nodup (l := a ++ b) (j := i) (k := k) (by omega) (by omega) hc), Bool.and_false]
    · refine ⟨k + 1, ⟨by omega, by omega, fun j hj => ?_⟩, ⟨[0], ToR.S rfl (by repeat' (first | exact rt_nil | refine rt_r rfl rfl ?_ | refine rt_e rfl rfl ?_)) (by repeat' (first | exact ro_nil | refine ro_p rfl (by first | exact rfl | fail) (by first | exact bdL_map (fun _ => by exact rfl) _ | fail) ?_)) rfl (by (rw [hm]; exact rfl)) rfl (by (simp [bdT, AV.bd, bdL, bdL_append]; done)) (by repeat' (first | exact True.intro | refine And.intro ?_ ?_ | exact bdL_map (fun _ => by exact rfl) _)) (by (rw [hm]; exact Nat.le_of_ble_eq_true rfl))⟩⟩
      by_cases h : j = k
      · subst h; exact hc
      · exact hne j (by omega)
    · refine ⟨i + 1, ⟨by omega, by omega, fun j hj => ?_⟩, ⟨[0], ToR.S rfl (by repeat' (first | exact rt_nil | refine rt_r rfl rfl ?_ | refine rt_e rfl rfl ?_)) (by repeat' (first | exact ro_nil | refine ro_p rfl (by first | exact rfl | fail) (by first | exact bdL_map (fun _ => by exact rfl) _ | fail) ?_)) rfl (by (rw [hm]; exact rfl)) rfl (by (simp [bdT, AV.bd, bdL, bdL_append]; done)) (by repeat' (first | exact True.intro | refine And.intro ?_ ?_ | exact bdL_map (fun _ => by exact rfl) _)) (by (rw [hm]; exact Nat.le_of_ble_eq_true rfl))⟩⟩
      by_cases h : j = i
      · subst h; exact ⟨hn, fun k' hk' => hne k' (by omega)⟩
      · exact hall j (by omega)
  have : i = (a ++ b).length := by omega
  subst this
  simp only [namesOk, all_of_nth fun j hj => (hall j hj).1, decide_eq_true (nodup_nth fun j hj => (hall j hj).2), Bool.and_true]
end Go.Lg

namespace Go.Lg
open Go.Proofs
set_option linter.unusedSimpArgs false
set_option linter.unusedVariables false
attribute [local irreducible] Ap Rq asemC WP RunD Ret Gq thenA inBlockA bodyQ noGotoA RqL RqP OpP
set_option maxHeartbeats 1000000
end Go.Lg

namespace Go.Lg
open Go.Proofs
set_option linter.unusedSimpArgs false
set_option linter.unusedVariables false
attribute [local irreducible] Ap Rq asemC WP RunD Ret Gq thenA inBlockA bodyQ noGotoA RqL RqP OpP
set_option maxHeartbeats 4000000
def symOk (g : Gram) (x : Int) : Bool := decide (x < g.terms.length) && decide (-(g.nonterms.length : Int) ≤ x)
def ruleOk (g : Gram) (r : Rul) : Bool := decide (0 ≤ r.head) && decide (r.head < g.nonterms.length) && decide (r.body.length ≤ 12) && decide (0 ≤ r.price) && decide (r.price ≤ 1000) && r.body.all (symOk g)
def validG (g : Gram) : Bool := decide (g.terms.length ≤ 120) && decide (1 ≤ g.nonterms.length) && decide (g.nonterms.length ≤ 120) && decide (1 ≤ g.rules.length) && decide (g.rules.length ≤ 120) && decide (0 ≤ g.start) && decide (g.start < g.nonterms.length) && namesOk (g.terms ++ g.nonterms) && g.rules.all (ruleOk g)
theorem validG_no {g : Gram} {i : Nat} (hi : i < g.rules.length) (h : ruleOk g (nth g.rules i) = false) : validG g = false := by
  simp only [validG, all_nth_no (l := g.rules) (f := ruleOk g) hi h, Bool.and_false]
theorem ruleOk_no {g : Gram} {r : Rul} {k : Nat} (hk : k < r.body.length) (h : symOk g (nth r.body k) = false) : ruleOk g r = false := by
  simp only [ruleOk, all_nth_no (l := r.body) (f := symOk g) hk h, Bool.and_false]
theorem rvalid18_fn (g : Gram) : Fn Try.prog 42 [gramA g] (boolA (validG g)) := by
  refine Fn.intro rfl (by kernel_rfl) Try.func42 rfl rfl Try.ntmps42 (by exact Nat.le_of_ble_eq_true rfl) ?_; intro Γ hm
  refine wp_lens 0 rfl fun hl => ?_
  obtain ⟨hl1, hl2, hl3, hl4⟩ := (lens_gramA g).1 hl
  (repeat' (first | apply jA | apply jF | apply jH | apply jI | apply jK | apply jM | apply jS | (refine wp_cond rfl (fun hc => ?_) (fun hc => ?_) <;> (try simp only [sB, ne_eq, reduceCtorEq] at hc) <;> (try (exfalso; omega))) | (refine WP.regionC (id := 0) ?_; (refine se_box rfl (by exact ⟨rfl, rfl⟩) ?_); (refine sassign rfl ?_); apply jW) | (refine WP.regionC (id := 1) ?_; (refine sfieldp rfl rfl rfl ?_); (refine sloadp rfl rfl rfl rfl ?_); (refine slenm rfl rfl ?_); (refine su (agtr rfl rfl) ?_); (refine smove rfl ?_); (refine sg (gq_vf rfl rfl) (fun he => ap_field_p (rq_p rfl rfl) rfl rfl) ?_); (refine sg (gq_vf rfl rfl) (fun he => ap_load_p (rq_c rfl rfl) rfl rfl rfl) ?_); (refine sg (gq_vf rfl rfl) (fun he => ap_len_m rfl (rq_c rfl rfl)) ?_); (refine sg (gq_vf rfl rfl) (fun he => ap_lss (rq_c rfl rfl) (rq_p rfl rfl)) ?_); (refine su (ap_or (rq_p rfl rfl) (rq_c rfl rfl)) ?_); (refine smove rfl ?_); (refine sg (gq_vf rfl rfl) (fun he => ap_field_p (rq_p rfl rfl) rfl rfl) ?_); (refine sg (gq_vf rfl rfl) (fun he => ap_load_p (rq_c rfl rfl) rfl rfl rfl) ?_); (refine sg (gq_vf rfl rfl) (fun he => ap_len_m rfl (rq_c rfl rfl)) ?_); (refine sg (gq_vf rfl rfl) (fun he => ap_gtr (rq_c rfl rfl) (rq_p rfl rfl)) ?_); (refine su (ap_or (rq_p rfl rfl) (rq_c rfl rfl)) ?_); (refine smove rfl ?_); (refine sg (gq_vf rfl rfl) (fun he => ap_field_p (rq_p rfl rfl) rfl rfl) ?_); (refine sg (gq_vf rfl rfl) (fun he => ap_load_p (rq_c rfl rfl) rfl rfl rfl) ?_); (refine sg (gq_vf rfl rfl) (fun he => ap_len_m rfl (rq_c rfl rfl)) ?_); (refine sg (gq_vf rfl rfl) (fun he => ap_lss (rq_c rfl rfl) (rq_p rfl rfl)) ?_); (refine su (ap_or (rq_p rfl rfl) (rq_c rfl rfl)) ?_); (refine smove rfl ?_); (refine sg (gq_vf rfl rfl) (fun he => ap_field_p (rq_p rfl rfl) rfl rfl) ?_); (refine sg (gq_vf rfl rfl) (fun he => ap_load_p (rq_c rfl rfl) rfl rfl rfl) ?_); (refine sg (gq_vf rfl rfl) (fun he => ap_len_m rfl (rq_c rfl rfl)) ?_); (refine sg (gq_vf rfl rfl) (fun he => ap_gtr (rq_c rfl rfl) (rq_p rfl rfl)) ?_); (refine su (ap_or (rq_p rfl rfl) (rq_c rfl rfl)) ?_); apply jW) | (refine WP.regionC ?_; (refine sassign rfl ?_); apply jW) | (refine WP.regionC (id := 3) ?_; (refine sfieldp rfl rfl rfl ?_); (refine sloadp rfl rfl rfl rfl ?_); (refine slss rfl rfl ?_); (refine smove rfl ?_); (refine sg (gq_vf rfl rfl) (fun he => ap_field_p (rq_p rfl rfl) rfl rfl) ?_); (refine sg (gq_vf rfl rfl) (fun he => ap_load_p (rq_c rfl rfl) rfl rfl rfl) ?_); (refine sg (gq_vf rfl rfl) (fun he => ap_field_p (rq_p rfl rfl) rfl rfl) ?_); (refine sg (gq_vf rfl rfl) (fun he => ap_load_p (rq_c rfl rfl) rfl rfl rfl) ?_); (refine sg (gq_vf rfl rfl) (fun he => ap_len_m rfl (rq_c rfl rfl)) ?_); (refine sg (gq_vf rfl rfl) (fun he => ap_geq (rq_c rfl rfl) (rq_c rfl rfl)) ?_); (refine su (ap_or (rq_p rfl rfl) (rq_c rfl rfl)) ?_); (refine smove rfl ?_); (refine sg (gq_vf rfl rfl) (fun he => ap_field_p (rq_p rfl rfl) rfl rfl) ?_); (refine sg (gq_vf rfl rfl) (fun he => ap_load_p (rq_c rfl rfl) rfl rfl rfl) ?_); (refine sg (gq_vf rfl rfl) (fun he => ap_field_p (rq_p rfl rfl) rfl rfl) ?_); (refine sg (gq_vf rfl rfl) (fun he => ap_load_p (rq_c rfl rfl) rfl rfl rfl) ?_); (refine sg_b (gq_vf rfl rfl) (fun he => ⟨(rq_p rfl rfl), (RqL.cons (rq_c rfl rfl) (RqL.cons (rq_c rfl rfl) (RqL.nil))), (by first | ((repeat' first | exact FzL.nil | refine FzL.cons ?_ ?_ | (exact Fz.reflp (by simp [AV.bd, bdL, bdL_append]))); done) | fail), names_fn _ _ (by (try simp only [sH, id, sB, ne_eq, reduceCtorEq] at he); omega) (by (try simp only [sH, id, sB, ne_eq, reduceCtorEq] at he); omega), rfl⟩) ?_); (refine sg (gq_vf rfl rfl) (fun he => ap_not (rq_c rfl rfl)) ?_); (refine su (ap_or (rq_p rfl rfl) (rq_c rfl rfl)) ?_); apply jW) | refine ret_b rfl ?_))
  · simp [validG]; omega
  · rcases hc with hc | hc
    · simp [validG]; omega
    · simp [validG, hc]
  have hns : namesOk (g.terms ++ g.nonterms) = true := hc.2
  refine wp_loop (fun i => i ≤ g.rules.length ∧ (g.rules.take i).all (ruleOk g) = true) (fun i => g.rules.length - i)
    (fun i => (S 120 [(1, .ptr 0 4 0 0), (3, intA (i : Nat))] 1 [(0, some (.arr 4 [gramA g]))])) 0 ⟨[0], ToR.S rfl (by repeat' (first | exact rt_nil | refine rt_t rfl rfl ?_ | refine rt_e rfl rfl ?_)) (by repeat' (first | exact ro_nil | refine ro_p rfl (by first | exact rfl | fail) (by first | (simp [bdL, bdL_append, AV.bd]; done) | fail) ?_)) rfl (by (rw [hm]; exact rfl)) rfl (by (simp [bdT, AV.bd, bdL, bdL_append]; done)) (by repeat' (first | exact True.intro | refine And.intro ?_ ?_ | (simp [bdOq, bdL, bdL_append, AV.bd]; done))) (by (rw [hm]; exact Nat.le_of_ble_eq_true rfl))⟩ ⟨Nat.zero_le _, rfl⟩ ?_
  rintro i ⟨hi, hall⟩
  (repeat' (first | apply jA | apply jF | apply jH | apply jI | apply jJ | apply jK | apply jL | apply jM | apply jO | apply jP | apply jS | (refine wp_cond rfl (fun hc => ?_) (fun hc => ?_) <;> (try simp only [sB, ne_eq, reduceCtorEq] at hc) <;> (try (exfalso; omega))) | (refine WP.regionC (id := 6) ?_; (refine smove rfl ?_); (refine sfieldp rfl rfl rfl ?_); (refine sloadp rfl rfl rfl rfl ?_); (refine slenm rfl rfl ?_); (refine slss rfl rfl ?_); apply jW) | (refine WP.regionC (id := 8) ?_; (refine sfieldp rfl rfl rfl ?_); (refine sloadp rfl rfl rfl rfl ?_); (refine smove rfl ?_); (refine sidxn rfl rfl (by omega) ?_); (refine sloadw rfl rfl ?_); (refine se_alloc rfl ?_); (refine se_store_b rfl rfl rfl rfl ?_); apply jW) | (refine WP.regionC (id := 9) ?_; (refine sfieldp rfl rfl rfl ?_); (refine sloadp rfl rfl rfl rfl ?_); (refine slss rfl rfl ?_); (refine smove rfl ?_); (refine sg (gq_vf rfl rfl) (fun he => ap_field_p (rq_p rfl rfl) rfl rfl) ?_); (refine sg (gq_vf rfl rfl) (fun he => ap_load_p (rq_c rfl rfl) rfl rfl rfl) ?_); (refine sg (gq_vf rfl rfl) (fun he => ap_field_p (rq_p rfl rfl) rfl rfl) ?_); (refine sg (gq_vf rfl rfl) (fun he => ap_load_p (rq_c rfl rfl) rfl rfl rfl) ?_); (refine sg (gq_vf rfl rfl) (fun he => ap_len_m rfl (rq_c rfl rfl)) ?_); (refine sg (gq_vf rfl rfl) (fun he => ap_geq (rq_c rfl rfl) (rq_c rfl rfl)) ?_); (refine su (ap_or (rq_p rfl rfl) (rq_c rfl rfl)) ?_); (refine smove rfl ?_); (refine sg (gq_vf rfl rfl) (fun he => ap_field_p (rq_p rfl rfl) rfl rfl) ?_); (refine sg (gq_vf rfl rfl) (fun he => ap_load_p (rq_c rfl rfl) rfl rfl rfl) ?_); (refine sg (gq_vf rfl rfl) (fun he => ap_len_m rfl (rq_c rfl rfl)) ?_); (refine sg (gq_vf rfl rfl) (fun he => ap_gtr (rq_c rfl rfl) (rq_p rfl rfl)) ?_); (refine su (ap_or (rq_p rfl rfl) (rq_c rfl rfl)) ?_); (refine smove rfl ?_); (refine sg (gq_vf rfl rfl) (fun he => ap_field_p (rq_p rfl rfl) rfl rfl) ?_); (refine sg (gq_vf rfl rfl) (fun he => ap_load_p (rq_c rfl rfl) rfl rfl rfl) ?_); (refine sg (gq_vf rfl rfl) (fun he => ap_lss (rq_c rfl rfl) (rq_p rfl rfl)) ?_); (refine su (ap_or (rq_p rfl rfl) (rq_c rfl rfl)) ?_); (refine smove rfl ?_); (refine sg (gq_vf rfl rfl) (fun he => ap_field_p (rq_p rfl rfl) rfl rfl) ?_); (refine sg (gq_vf rfl rfl) (fun he => ap_load_p (rq_c rfl rfl) rfl rfl rfl) ?_); (refine sg (gq_vf rfl rfl) (fun he => ap_gtr (rq_c rfl rfl) (rq_p rfl rfl)) ?_); (refine su (ap_or (rq_p rfl rfl) (rq_c rfl rfl)) ?_); apply jW) | (refine WP.regionC ?_; (refine sassign rfl ?_); apply jW) | refine ret_b rfl ?_))
  · rw [validG_no (i := i) (by omega) (by simp [ruleOk]; omega)]
  · refine wp_loop (fun k => k ≤ (nth g.rules i).body.length ∧ ((nth g.rules i).body.take k).all (symOk g) = true) (fun k => (nth g.rules i).body.length - k)
      (fun k => (S 120 [(1, .ptr 0 4 0 0), (3, intA (i : Nat)), (4, .ptr 1 3 0 0), (5, intA (k : Nat))] 2 [(0, some (.arr 4 [gramA g])), (1, some (.arr 3 [ruleA (nth g.rules i)]))])) 0 ⟨[0, 1], ToR.S rfl (by repeat' (first | exact rt_nil | refine rt_t rfl rfl ?_ | refine rt_e rfl rfl ?_)) (by repeat' (first | exact ro_nil | refine ro_p rfl (by first | exact rfl | fail) (by first | (simp [bdL, bdL_append, AV.bd]; done) | fail) ?_)) rfl (by (rw [hm]; exact rfl)) rfl (by (simp [bdT, AV.bd, bdL, bdL_append]; done)) (by repeat' (first | exact True.intro | refine And.intro ?_ ?_ | (simp [bdOq, bdL, bdL_append, AV.bd]; done))) (by (rw [hm]; exact Nat.le_of_ble_eq_true rfl))⟩ ⟨Nat.zero_le _, rfl⟩ ?_
    rintro k ⟨hk, hb⟩
    (repeat' (first | apply jA | apply jF | apply jH | apply jI | apply jJ | apply jK | apply jL | apply jM | apply jN | apply jO | apply jP | apply jS | (refine wp_cond rfl (fun hc => ?_) (fun hc => ?_) <;> (try simp only [sB, ne_eq, reduceCtorEq] at hc) <;> (try (exfalso; omega))) | (refine WP.regionC (id := 12) ?_; (refine smove rfl ?_); (refine sfieldp rfl rfl rfl ?_); (refine sloadp rfl rfl rfl rfl ?_); (refine slenm rfl rfl ?_); (refine slss rfl rfl ?_); apply jW) | (refine wp_draw (id := 14) 21 mixed (by kernel_rfl) (by kernel_rfl) rfl ?_ <;> (refine rfieldp rfl rfl rfl ?_) <;> (refine rloadp rfl rfl rfl rfl ?_) <;> (refine rmove rfl ?_) <;> (refine rd_u rfl rfl (aidxn rfl rfl (by omega)) ?_) <;> (refine rd_u rfl rfl (aloadw rfl rfl) ?_) <;> (refine rfieldp rfl rfl rfl ?_) <;> (refine rloadp rfl rfl rfl rfl ?_) <;> (refine rd_u rfl rfl (alenm rfl rfl) ?_) <;> (refine rd_u rfl rfl (ageq rfl rfl) ?_) <;> (refine rmove rfl ?_) <;> ((refine rd_split (t := 108) rfl (fun hc => ?_) (fun hc => ?_) <;> (try simp only [sB, ne_eq, reduceCtorEq] at hc) <;> (try (exfalso; omega)) <;> (first | refine rd_skip rfl rfl ?_ | refine gfieldp rfl rfl rfl rfl rfl ?_))) <;> (first | refine rd_skip rfl rfl ?_ | refine gloadp rfl rfl rfl rfl rfl rfl ?_) <;> (first | refine rd_skip rfl rfl ?_ | refine gmove rfl rfl rfl ?_) <;> (first | refine rd_skip rfl rfl ?_ | refine rdg_u rfl rfl rfl rfl (aidxn rfl rfl (by omega)) ?_) <;> (first | refine rd_skip rfl rfl ?_ | refine rdg_u rfl rfl rfl rfl (aloadw rfl rfl) ?_) <;> (first | refine rd_skip rfl rfl ?_ | refine gfieldp rfl rfl rfl rfl rfl ?_) <;> (first | refine rd_skip rfl rfl ?_ | refine gloadp rfl rfl rfl rfl rfl rfl ?_) <;> (first | refine rd_skip rfl rfl ?_ | refine rdg_u rfl rfl rfl rfl (alenm rfl rfl) ?_) <;> (first | refine rd_skip rfl rfl ?_ | refine rdg_u rfl rfl rfl rfl (aneg rfl (by exact inr_i64_of (by omega))) ?_) <;> (first | refine rd_skip rfl rfl ?_ | refine rdg_u rfl rfl rfl rfl (alss rfl rfl) ?_) <;> (first | refine rd_pick_t rfl rfl ?_ | refine rd_pick_f rfl rfl ?_) <;> (refine rd_end (by kernel_rfl) ?_)) | (refine WP.regionC (id := 15) ?_; (refine sassign rfl ?_); apply jW) | (refine WP.regionC ?_; (refine smove rfl ?_); (refine sadd rfl rfl (by exact inr_i64_of (by omega)) ?_); (refine sassign rfl ?_); apply jW) | refine ret_b rfl ?_))
    · rw [validG_no (i := i) (by omega) (ruleOk_no (k := k) (by omega) (by simp [symOk]; omega))]
    · rw [validG_no (i := i) (by omega) (ruleOk_no (k := k) (by omega) (by simp [symOk]; omega))]
    · exact ⟨k + 1, ⟨by omega, by omega, take_all_succ (by omega) hb (by simp [symOk]; omega)⟩, ⟨[0, 1], ToR.S rfl (by repeat' (first | exact rt_nil | refine rt_t rfl rfl ?_ | refine rt_e rfl rfl ?_)) (by repeat' (first | exact ro_nil | refine ro_p rfl (by first | exact rfl | fail) (by first | (simp [bdL, bdL_append, AV.bd]; done) | fail) ?_)) rfl (by (rw [hm]; exact rfl)) rfl (by (simp [bdT, AV.bd, bdL, bdL_append]; done)) (by repeat' (first | exact True.intro | refine And.intro ?_ ?_ | (simp [bdOq, bdL, bdL_append, AV.bd]; done))) (by (rw [hm]; exact Nat.le_of_ble_eq_true rfl))⟩⟩
    · exact ⟨i + 1, ⟨by omega, by omega, take_all_succ (by omega) hall (by simp [ruleOk, all_of_take' (by omega) hb]; omega)⟩, ⟨[0], ToR.S rfl (by repeat' (first | exact rt_nil | refine rt_t rfl rfl ?_ | refine rt_e rfl rfl ?_)) (by repeat' (first | exact ro_nil | refine ro_p rfl (by first | exact rfl | fail) (by first | (simp [bdL, bdL_append, AV.bd]; done) | fail) ?_)) rfl (by (rw [hm]; exact rfl)) rfl (by (simp [bdT, AV.bd, bdL, bdL_append]; done)) (by repeat' (first | exact True.intro | refine And.intro ?_ ?_ | (simp [bdOq, bdL, bdL_append, AV.bd]; done))) (by (rw [hm]; exact Nat.le_of_ble_eq_true rfl))⟩⟩
  simp [validG, hns, all_of_take' (by omega) hall]; omega
theorem Rul.ext' {a b : Rul} (h1 : a.head = b.head) (h2 : a.body = b.body) (h3 : a.price = b.price) : a = b := by
  cases a; cases b; simp_all
theorem Gram.ext' {a b : Gram} (h1 : a.terms = b.terms) (h2 : a.nonterms = b.nonterms) (h3 : a.start = b.start) (h4 : a.rules = b.rules) : a = b := by
  cases a; cases b; simp_all
end Go.Lg

namespace Go.Lg
def kidsN (r : NRul) : List Int := if r.kind = 3 then [r.a] else if r.kind = 4 then [r.a, r.b] else []
def inN (n : Nrm) (x : Int) : Bool := decide (0 ≤ x) && decide (x < n.nonterms)
def kindOk (n : Nrm) (r : NRul) : Bool :=
  if r.kind = 1 then decide (r.a = 0) && decide (r.b = 0)
  else if r.kind = 2 then decide (0 ≤ r.a) && decide (r.a < n.terms) && decide (r.b = 0)
  else if r.kind = 3 then inN n r.a && decide (r.b = 0)
  else if r.kind = 4 then inN n r.a && inN n r.b else false
def nruleOk (n : Nrm) (r : NRul) : Bool := inN n r.head && decide (0 ≤ r.price) && decide (r.price ≤ 1000) && decide (-1 ≤ r.origin) && kindOk n r
def validN (n : Nrm) : Bool :=
  decide (0 ≤ n.terms) && decide (n.terms ≤ 120) && decide (1 ≤ n.nonterms) && decide (n.nonterms ≤ 1000) && decide (0 ≤ n.start) && decide (n.start < n.nonterms) && decide (n.rules.length ≤ 600) && n.rules.all (nruleOk n)
def nruleAt (n : Nrm) (i : Int) : NRul := nth n.rules i.toNat
mutual
def okP (n : Nrm) : Int → Prs → Bool
  | head, .mk r l => decide (0 ≤ r) && decide (r < n.rules.length) && decide ((nruleAt n r).head = head) && decide ((kidsN (nruleAt n r)).length = l.length) && okPL n (kidsN (nruleAt n r)) l
def okPL (n : Nrm) : List Int → List Prs → Bool
  | _, [] => true
  | xs, p :: l => okP n (xs.headD 0) p && okPL n xs.tail l
end
mutual
def yieldP (n : Nrm) : Prs → List Int
  | .mk r l => if (nruleAt n r).kind = 2 then [(nruleAt n r).a] else yieldPL n l
def yieldPL (n : Nrm) : List Prs → List Int
  | [] => []
  | p :: l => yieldP n p ++ yieldPL n l
end
mutual
def priceP (n : Nrm) : Prs → Int
  | .mk r l => (nruleAt n r).price + pricePL n l
def pricePL (n : Nrm) : List Prs → Int
  | [] => 0
  | p :: l => priceP n p + pricePL n l
end
theorem okP_eq (n : Nrm) (h : Int) (p : Prs) : okP n h p = (decide (0 ≤ p.rule) && decide (p.rule < n.rules.length) && decide ((nruleAt n p.rule).head = h) && decide ((kidsN (nruleAt n p.rule)).length = p.kids.length) && okPL n (kidsN (nruleAt n p.rule)) p.kids) := by
  cases p; rw [okP]; rfl
theorem yieldP_eq (n : Nrm) (p : Prs) : yieldP n p = if (nruleAt n p.rule).kind = 2 then [(nruleAt n p.rule).a] else yieldPL n p.kids := by cases p; rw [yieldP]; rfl
theorem priceP_eq (n : Nrm) (p : Prs) : priceP n p = (nruleAt n p.rule).price + pricePL n p.kids := by cases p; rw [priceP]; rfl
theorem okPL_iff (n : Nrm) : ∀ (xs : List Int) (l : List Prs), xs.length = l.length → (okPL n xs l = true ↔ ∀ i, i < l.length → okP n (nth xs i) (nth l i) = true)
  | _, [], _ => by simp [okPL]
  | [], _ :: _, h => by simp at h
  | x :: xs, p :: l, h => by
    rw [okPL, Bool.and_eq_true, List.headD_cons, List.tail_cons, okPL_iff n xs l (by simpa using h)]
    constructor
    · rintro ⟨h1, h2⟩ i hi
      cases i with
      | zero => exact h1
      | succ i => exact h2 i (by simpa using hi)
    · intro h
      exact ⟨h 0 (by simp), fun i hi => h (i + 1) (by simpa using hi)⟩
mutual
def sizeP : Prs → Int
  | .mk _ l => 1 + sizePL l
def sizePL : List Prs → Int
  | [] => 0
  | p :: l => sizeP p + sizePL l
end
mutual
def sizeT : Tre → Int
  | .mk _ _ l => 1 + sizeTL l
def sizeTL : List Tre → Int
  | [] => 0
  | p :: l => sizeT p + sizeTL l
end
mutual
def okT (g : Gram) : Int → Tre → Bool
  | x, .mk r t l => if 0 ≤ x then decide (r = -1) && decide (t = x) && decide (l.length = 0) else
      decide (0 ≤ r) && decide (r < g.rules.length) && decide (t = 0) && decide ((nth g.rules r.toNat).head = -1 - x) && decide (l.length = (nth g.rules r.toNat).body.length) && okTL g (nth g.rules r.toNat).body l
def okTL (g : Gram) : List Int → List Tre → Bool
  | _, [] => true
  | xs, t :: l => okT g (xs.headD 0) t && okTL g xs.tail l
end
mutual
def leavesT : Tre → List Int
  | .mk r t l => if r = -1 then [t] else leavesTL l
def leavesTL : List Tre → List Int
  | [] => []
  | t :: l => leavesT t ++ leavesTL l
end
mutual
def priceT (g : Gram) : Tre → Int
  | .mk r _ l => if r < 0 then 0 else (nth g.rules r.toNat).price + priceTL g l
def priceTL (g : Gram) : List Tre → Int
  | [] => 0
  | t :: l => priceT g t + priceTL g l
end
def needT (g : Gram) (t : Nat) : Bool := g.rules.any fun r => decide (1 < r.body.length) && r.body.any fun x => decide (x = (t : Int))
def tlist (g : Gram) : Nat → List Nat
  | 0 => []
  | k + 1 => tlist g k ++ (if needT g k then [k] else [])
def tnum (g : Gram) (t : Nat) : Int := (g.nonterms.length : Int) + (tlist g t).length
def symN (g : Gram) (x : Int) : Int := if x < 0 then -1 - x else tnum g x.toNat
def chn (g : Gram) : Int → Int → Int → Int → List Int → List NRul
  | h, p, o, nx, x :: y :: z :: l => ⟨4, h, symN g x, nx, p, o⟩ :: chn g nx 0 (-1) (nx + 1) (y :: z :: l)
  | h, p, o, _, [x, y] => [⟨4, h, symN g x, symN g y, p, o⟩]
  | h, p, o, _, [x] => if 0 ≤ x then [⟨2, h, x, 0, p, o⟩] else [⟨3, h, -1 - x, 0, p, o⟩]
  | h, p, o, _, [] => [⟨1, h, 0, 0, p, o⟩]
def extraN (r : Rul) : Nat := r.body.length - 2
def chns (g : Gram) : Nat → Int → List Rul → List NRul
  | _, _, [] => []
  | i, nx, r :: l => chn g r.head r.price i nx r.body ++ chns g (i + 1) (nx + extraN r) l
def nextN (nx : Int) : List Rul → Int
  | [] => nx
  | r :: l => nextN (nx + extraN r) l
def termN (g : Gram) (t : Nat) : NRul := ⟨2, tnum g t, t, 0, 0, -1⟩
def baseN (g : Gram) : Int := g.nonterms.length + (tlist g g.terms.length).length
def nrmOf (g : Gram) : Nrm := ⟨g.terms.length, nextN (baseN g) g.rules, g.start, chns g 0 (baseN g) g.rules ++ (tlist g g.terms.length).map (termN g)⟩
def binG (g : Gram) : Nrm × Int := if validG g then (if 600 < (nrmOf g).rules.length then (⟨0, 0, 0, []⟩, 11) else (nrmOf g, 0)) else (⟨0, 0, 0, []⟩, 1)
end Go.Lg

namespace Go.Lg
theorem chn_len (g : Gram) : ∀ (l : List Int) (h p o nx : Int), (chn g h p o nx l).length = l.length - 2 + 1
  | [], _, _, _, _ => by simp [chn]
  | [x], _, _, _, _ => by simp only [chn]; split <;> rfl
  | [x, y], _, _, _, _ => by simp [chn]
  | x :: y :: z :: l, h, p, o, nx => by
    rw [chn, List.length_cons, chn_len g (y :: z :: l)]
    simp only [List.length_cons]; omega
theorem chn_nth (g : Gram) : ∀ (l : List Int) (h p o nx : Int) (k : Nat), 2 ≤ l.length → k ≤ l.length - 2 →
    nth (chn g h p o nx l) k = ⟨4, if k = 0 then h else nx + k - 1, symN g (nth l k), if k = l.length - 2 then symN g (nth l (k + 1)) else nx + k, if k = 0 then p else 0, if k = 0 then o else -1⟩
  | [], _, _, _, _, _, h2, _ => by simp at h2
  | [x], _, _, _, _, _, h2, _ => by simp at h2
  | [x, y], h, p, o, nx, k, _, hk => by
    obtain rfl : k = 0 := by simp only [List.length_cons, List.length_nil] at hk; omega
    simp [chn, nth]
  | x :: y :: z :: l, h, p, o, nx, k, _, hk => by
    simp only [List.length_cons] at hk
    rw [chn]
    cases k with
    | zero =>
      simp only [nth, List.getD_cons_zero, List.length_cons, if_true]
      have : ¬ 0 = l.length + 1 + 1 + 1 - 2 := by omega
      simp [this]
    | succ k =>
      have ih := chn_nth g (y :: z :: l) nx 0 (-1) (nx + 1) k (by simp) (by simp only [List.length_cons]; omega)
      have e : nth (⟨4, h, symN g x, nx, p, o⟩ :: chn g nx 0 (-1) (nx + 1) (y :: z :: l)) (k + 1) = nth (chn g nx 0 (-1) (nx + 1) (y :: z :: l)) k := by simp [nth]
      rw [e, ih]
      have e1 : nth (x :: y :: z :: l) (k + 1) = nth (y :: z :: l) k := by simp [nth]
      have e2 : nth (x :: y :: z :: l) (k + 1 + 1) = nth (y :: z :: l) (k + 1) := by simp [nth]
      rw [e1, e2]
      simp only [List.length_cons, Nat.add_eq_zero_iff, Nat.one_ne_zero, and_false, if_false]
      have e3 : (k = l.length + 1 + 1 - 2) ↔ (k + 1 = l.length + 1 + 1 + 1 - 2) := by omega
      congr 1
      · split
        · rename_i h0; subst h0; simp
        · push_cast; omega
      · by_cases hh : k = l.length + 1 + 1 - 2
        · rw [if_pos hh, if_pos (e3.1 hh)]
        · rw [if_neg hh, if_neg fun q => hh (e3.2 q)]; push_cast; omega
      · split <;> rfl
      · split <;> rfl
theorem chn_one (g : Gram) {l : List Int} {h p o nx : Int} (hl : l.length < 2) : ∃ kd a, chn g h p o nx l = [⟨kd, h, a, 0, p, o⟩] ∧
    ((l = [] ∧ kd = 1 ∧ a = 0) ∨ (∃ x, l = [x] ∧ 0 ≤ x ∧ kd = 2 ∧ a = x) ∨ (∃ x, l = [x] ∧ x < 0 ∧ kd = 3 ∧ a = -1 - x)) := by
  match l, hl with
  | [], _ => exact ⟨1, 0, by simp [chn], .inl ⟨rfl, rfl, rfl⟩⟩
  | [x], _ =>
    by_cases hx : 0 ≤ x
    · exact ⟨2, x, by simp [chn, hx], .inr (.inl ⟨x, rfl, hx, rfl, rfl⟩)⟩
    · exact ⟨3, -1 - x, by simp [chn, hx], .inr (.inr ⟨x, rfl, by omega, rfl, rfl⟩)⟩
def posN : List Rul → Nat → Nat
  | [], _ => 0
  | _, 0 => 0
  | r :: l, i + 1 => extraN r + 1 + posN l i
def nxN (nx : Int) : List Rul → Nat → Int
  | [], _ => nx
  | _, 0 => nx
  | r :: l, i + 1 => nxN (nx + extraN r) l i
theorem nth_app1 {α : Type} [Inhabited α] {a b : List α} {i : Nat} (h : i < a.length) : nth (a ++ b) i = nth a i := by simp [nth, List.getD, List.getElem?_append_left h]
theorem nth_app2 {α : Type} [Inhabited α] {a b : List α} {i : Nat} (h : a.length ≤ i) : nth (a ++ b) i = nth b (i - a.length) := by simp [nth, List.getD, List.getElem?_append_right h]
theorem chns_nth (g : Gram) : ∀ (l : List Rul) (i0 : Nat) (nx : Int) (i k : Nat), i < l.length → k < extraN (nth l i) + 1 →
    posN l i + k < (chns g i0 nx l).length ∧ nth (chns g i0 nx l) (posN l i + k) = nth (chn g (nth l i).head (nth l i).price ((i0 + i : Nat) : Int) (nxN nx l i) (nth l i).body) k
  | [], _, _, _, _, hi, _ => by simp at hi
  | r :: l, i0, nx, 0, k, _, hk => by
    have e : nth (r :: l) 0 = r := rfl
    rw [e] at hk ⊢
    have hl := chn_len g r.body r.head r.price i0 nx
    have hk' : k < (chn g r.head r.price i0 nx r.body).length := by rw [hl]; exact hk
    simp only [chns, posN, nxN, Nat.zero_add, Nat.add_zero]
    exact ⟨by rw [List.length_append]; omega, nth_app1 hk'⟩
  | r :: l, i0, nx, i + 1, k, hi, hk => by
    have e : nth (r :: l) (i + 1) = nth l i := by simp [nth]
    rw [e] at hk ⊢
    obtain ⟨h1, h2⟩ := chns_nth g l (i0 + 1) (nx + extraN r) i k (by simpa using hi) hk
    have hl := chn_len g r.body r.head r.price i0 nx
    have hle : (chn g r.head r.price i0 nx r.body).length = extraN r + 1 := hl
    simp only [chns, posN, nxN]
    refine ⟨by rw [List.length_append, hle]; omega, ?_⟩
    rw [nth_app2 (by rw [hle]; omega), hle, show extraN r + 1 + posN l i + k - (extraN r + 1) = posN l i + k by omega, h2]
    congr 2
    push_cast; omega
theorem chns_place (g : Gram) : ∀ (l : List Rul) (i0 : Nat) (nx : Int) (j : Nat), j < (chns g i0 nx l).length → ∃ i k, i < l.length ∧ k < extraN (nth l i) + 1 ∧ j = posN l i + k
  | [], _, _, j, h => by simp [chns] at h
  | r :: l, i0, nx, j, h => by
    have hle : (chn g r.head r.price i0 nx r.body).length = extraN r + 1 := chn_len g r.body r.head r.price i0 nx
    simp only [chns, List.length_append, hle] at h
    by_cases hj : j < extraN r + 1
    · exact ⟨0, j, by simp, hj, by simp [posN]⟩
    · obtain ⟨i, k, h1, h2, h3⟩ := chns_place g l (i0 + 1) (nx + extraN r) (j - (extraN r + 1)) (by omega)
      refine ⟨i + 1, k, by simpa using h1, by simpa [nth] using h2, ?_⟩
      simp only [posN]; omega
theorem posN_lt {l : List Rul} : ∀ {i j : Nat} , i < j → j < l.length → posN l i + extraN (nth l i) + 1 ≤ posN l j := by
  induction l with
  | nil => intro i j _ h; simp at h
  | cons r l ih =>
    intro i j hij hj
    cases j with
    | zero => omega
    | succ j =>
      cases i with
      | zero => simp only [posN]; show 0 + extraN r + 1 ≤ _; omega
      | succ i =>
        have := ih (i := i) (j := j) (by omega) (by simpa using hj)
        have e : nth (r :: l) (i + 1) = nth l i := by simp [nth]
        rw [e]
        simp only [posN]; omega
theorem nxN_lt {l : List Rul} : ∀ {nx : Int} {i j : Nat} , i < j → j < l.length → nxN nx l i + extraN (nth l i) ≤ nxN nx l j := by
  induction l with
  | nil => intro nx i j _ h; simp at h
  | cons r l ih =>
    intro nx i j hij hj
    cases j with
    | zero => omega
    | succ j =>
      cases i with
      | zero =>
        simp only [nxN]
        show nx + extraN r ≤ _
        have gen : ∀ (l : List Rul) (nx : Int) (j : Nat), nx ≤ nxN nx l j := by
          intro l
          induction l with
          | nil => intro nx j; simp [nxN]
          | cons r l ih => intro nx j; cases j with
            | zero => simp [nxN]
            | succ j => simp only [nxN]; have := ih (nx + extraN r) j; omega
        exact gen l _ j
      | succ i =>
        have := ih (nx := nx + extraN r) (i := i) (j := j) (by omega) (by simpa using hj)
        have e : nth (r :: l) (i + 1) = nth l i := by simp [nth]
        rw [e]
        simpa only [nxN] using this
theorem nxN_ge (l : List Rul) : ∀ (nx : Int) (j : Nat), nx ≤ nxN nx l j := by
  induction l with
  | nil => intro nx j; simp [nxN]
  | cons r l ih => intro nx j; cases j with
    | zero => simp [nxN]
    | succ j => simp only [nxN]; have := ih (nx + extraN r) j; omega
theorem nxN_next {l : List Rul} : ∀ {nx : Int} {i : Nat}, i < l.length → nxN nx l i + extraN (nth l i) ≤ nextN nx l := by
  induction l with
  | nil => intro nx i h; simp at h
  | cons r l ih =>
    intro nx i hi
    have gen : ∀ (l : List Rul) (nx : Int), nx ≤ nextN nx l := by
      intro l
      induction l with
      | nil => intro nx; simp [nextN]
      | cons r l ih => intro nx; simp only [nextN]; have := ih (nx + extraN r); omega
    cases i with
    | zero => simp only [nxN, nextN]; exact gen l _
    | succ i =>
      have := ih (nx := nx + extraN r) (i := i) (by simpa using hi)
      simpa only [nxN, nextN, nth, List.getD_cons_succ] using this
theorem nextN_len (g : Gram) : ∀ (l : List Rul) (i0 : Nat) (nx : Int), nextN nx l + l.length = nx + (chns g i0 nx l).length
  | [], _, _ => by simp [nextN, chns]
  | r :: l, i0, nx => by
    have hle : (chn g r.head r.price i0 nx r.body).length = extraN r + 1 := chn_len g r.body r.head r.price i0 nx
    have ih := nextN_len g l (i0 + 1) (nx + extraN r)
    simp only [nextN, chns, List.length_append, List.length_cons, hle]
    push_cast; omega
end Go.Lg

namespace Go.Lg
def leB (a b : List Bool) : Prop := a.length = b.length ∧ ∀ i, nth a i = true → nth b i = true
theorem leB.refl (a : List Bool) : leB a a := ⟨rfl, fun _ h => h⟩
theorem leB.trans {a b c : List Bool} (h : leB a b) (k : leB b c) : leB a c := ⟨h.1.trans k.1, fun i hi => k.2 i (h.2 i hi)⟩
def falses : List Bool → Nat
  | [] => 0
  | b :: l => (if b then 0 else 1) + falses l
def iterB (f : List Bool → List Bool) : Nat → List Bool → List Bool
  | 0, l => l
  | k + 1, l => iterB f k (f l)
structure MonoB (n : Nat) (f : List Bool → List Bool) : Prop where
  up : ∀ l, l.length = n → leB l (f l)
  mono : ∀ a b, a.length = n → leB a b → leB (f a) (f b)
section
variable {n : Nat} {f : List Bool → List Bool} (hf : MonoB n f)
include hf
end
def nob (n : Nat) : List Bool := List.replicate n false
@[simp] theorem nob_map (n : Nat) : (nob n).map boolA = List.replicate n (AV.val (.bool false)) := by simp [nob, boolA]
theorem nob_len (n : Nat) : (nob n).length = n := by simp [nob]
end Go.Lg

namespace Go.Lg
structure RulFit (g : Gram) (r : Rul) : Prop where
  h0 : 0 ≤ r.head
  hn : r.head < g.nonterms.length
  len : r.body.length ≤ 12
  p0 : 0 ≤ r.price
  p1 : r.price ≤ 1000
  hi : ∀ x, x ∈ r.body → x < g.terms.length
  lo : ∀ x, x ∈ r.body → -(g.nonterms.length : Int) ≤ x
structure GVal (g : Gram) : Prop where
  terms : g.terms.length ≤ 120
  n1 : 1 ≤ g.nonterms.length
  n2 : g.nonterms.length ≤ 120
  r1 : 1 ≤ g.rules.length
  r2 : g.rules.length ≤ 120
  s0 : 0 ≤ g.start
  sn : g.start < g.nonterms.length
  names : namesOk (g.terms ++ g.nonterms) = true
  rule : ∀ r, r ∈ g.rules → RulFit g r
theorem ruleOk_iff {g : Gram} {r : Rul} : ruleOk g r = true ↔ RulFit g r := by
  constructor
  · intro h
    simp only [ruleOk, Bool.and_eq_true, decide_eq_true_eq, List.all_eq_true, symOk] at h
    obtain ⟨⟨⟨⟨⟨h1, h2⟩, h3⟩, h4⟩, h5⟩, h6⟩ := h
    exact ⟨h1, h2, h3, h4, h5, fun x hx => (h6 x hx).1, fun x hx => (h6 x hx).2⟩
  · intro h
    simp only [ruleOk, Bool.and_eq_true, decide_eq_true_eq, List.all_eq_true, symOk]
    exact ⟨⟨⟨⟨⟨h.h0, h.hn⟩, h.len⟩, h.p0⟩, h.p1⟩, fun x hx => ⟨h.hi x hx, h.lo x hx⟩⟩
theorem validG_iff {g : Gram} : validG g = true ↔ GVal g := by
  constructor
  · intro h
    simp only [validG, Bool.and_eq_true, decide_eq_true_eq, List.all_eq_true] at h
    obtain ⟨⟨⟨⟨⟨⟨⟨⟨h1, h2⟩, h3⟩, h4⟩, h5⟩, h6⟩, h7⟩, h8⟩, h9⟩ := h
    exact ⟨h1, h2, h3, h4, h5, h6, h7, h8, fun r hr => ruleOk_iff.1 (h9 r hr)⟩
  · intro h
    simp only [validG, Bool.and_eq_true, decide_eq_true_eq, List.all_eq_true]
    exact ⟨⟨⟨⟨⟨⟨⟨⟨h.terms, h.n1⟩, h.n2⟩, h.r1⟩, h.r2⟩, h.s0⟩, h.sn⟩, h.names⟩, fun r hr => ruleOk_iff.2 (h.rule r hr)⟩
end Go.Lg

namespace Go.Lg
theorem tlist_len (g : Gram) : ∀ k, (tlist g k).length ≤ k
  | 0 => Nat.le_refl _
  | k + 1 => by
    rw [tlist, List.length_append]
    have := tlist_len g k
    split
    · simp only [List.length_cons, List.length_nil]; omega
    · simp only [List.length_nil]; omega
theorem tlist_at (g : Gram) {t : Nat} (ht : needT g t = true) : ∀ {k : Nat}, t < k → (tlist g t).length < (tlist g k).length ∧ nth (tlist g k) (tlist g t).length = t
  | 0, h => by omega
  | k + 1, h => by
    rcases Nat.lt_or_ge t k with h1 | h1
    · obtain ⟨h2, h3⟩ := tlist_at g ht (k := k) h1
      rw [tlist, List.length_append]
      exact ⟨by omega, by rw [nth_app1 h2]; exact h3⟩
    · obtain rfl : t = k := by omega
      rw [tlist, if_pos ht, List.length_append]
      refine ⟨by simp, ?_⟩
      rw [nth_app2 (Nat.le_refl _), Nat.sub_self]; rfl
theorem tlist_place (g : Gram) : ∀ {k j : Nat}, j < (tlist g k).length → ∃ t, t < k ∧ needT g t = true ∧ (tlist g t).length = j ∧ nth (tlist g k) j = t
  | 0, j, h => by simp [tlist] at h
  | k + 1, j, h => by
    rcases Nat.lt_or_ge j (tlist g k).length with h1 | h1
    · obtain ⟨t, a, b, c, d⟩ := tlist_place g h1
      exact ⟨t, by omega, b, c, by rw [tlist, nth_app1 h1]; exact d⟩
    · rw [tlist, List.length_append] at h
      cases hn : needT g k with
      | false => rw [hn] at h; simp at h; omega
      | true =>
        rw [hn] at h
        simp only [if_true, List.length_cons, List.length_nil] at h
        obtain rfl : j = (tlist g k).length := by omega
        exact ⟨k, by omega, hn, rfl, (tlist_at g hn (Nat.lt_succ_self k)).2⟩
def chainsN (g : Gram) : List NRul := chns g 0 (baseN g) g.rules
def nxG (g : Gram) (i : Nat) : Int := nxN (baseN g) g.rules i
theorem nrm_rules (g : Gram) : (nrmOf g).rules = chainsN g ++ (tlist g g.terms.length).map (termN g) := rfl
theorem chain_at (g : Gram) {i k : Nat} (hi : i < g.rules.length) (hk : k < extraN (nth g.rules i) + 1) : posN g.rules i + k < (chainsN g).length ∧
    nth (nrmOf g).rules (posN g.rules i + k) = nth (chn g (nth g.rules i).head (nth g.rules i).price (i : Int) (nxG g i) (nth g.rules i).body) k := by
  obtain ⟨h1, h2⟩ := chns_nth g g.rules 0 (baseN g) i k hi hk
  refine ⟨h1, ?_⟩
  rw [nrm_rules]
  unfold chainsN
  rw [nth_app1 h1, h2, Nat.zero_add]; rfl
theorem chain_head (g : Gram) {i k : Nat} (hi : i < g.rules.length) (hk : k < extraN (nth g.rules i) + 1) :
    (nth (nrmOf g).rules (posN g.rules i + k)).head = (if k = 0 then (nth g.rules i).head else nxG g i + k - 1) ∧ (nth (nrmOf g).rules (posN g.rules i + k)).origin = if k = 0 then (i : Int) else -1 := by
  rw [(chain_at g hi hk).2]
  by_cases hl : (nth g.rules i).body.length < 2
  · obtain ⟨kd, a, h1, _⟩ := chn_one g (h := (nth g.rules i).head) (p := (nth g.rules i).price) (o := i) (nx := nxG g i) hl
    have hk0 : k = 0 := by unfold extraN at hk; omega
    subst hk0
    rw [h1]
    exact ⟨rfl, rfl⟩
  · rw [chn_nth g _ _ _ _ _ k (by omega) (by unfold extraN at hk; omega)]
    exact ⟨rfl, rfl⟩
theorem term_at (g : Gram) {t : Nat} (ht : t < g.terms.length) (hn : needT g t = true) : (chainsN g).length + (tlist g t).length < (nrmOf g).rules.length ∧
    nth (nrmOf g).rules ((chainsN g).length + (tlist g t).length) = termN g t := by
  obtain ⟨h1, h2⟩ := tlist_at g hn ht
  rw [nrm_rules, List.length_append, List.length_map]
  refine ⟨by omega, ?_⟩
  rw [nth_app2 (Nat.le_add_right _ _), Nat.add_sub_cancel_left]
  have h3 : (tlist g t).length < ((tlist g g.terms.length).map (termN g)).length := by rw [List.length_map]; exact h1
  rw [nth_eq h3, List.getElem_map]
  rw [nth_eq h1] at h2
  rw [h2]
theorem mem_take {α : Type} [Inhabited α] {l : List α} {k : Nat} {x : α} (h : x ∈ l.take k) : ∃ j, j < k ∧ j < l.length ∧ x = nth l j := by
  obtain ⟨j, hj, e⟩ := List.getElem_of_mem h
  rw [List.length_take] at hj
  refine ⟨j, by omega, by omega, ?_⟩
  rw [nth_eq (by omega), ← e, List.getElem_take]
theorem indexP_is {α : Type} [Inhabited α] {p : α → Bool} {l : List α} {k : Nat} (hk : k < l.length) (hp : p (nth l k) = true) (h : ∀ j, j < k → p (nth l j) = false) : indexP p l = k :=
  indexP_at hk (by
    rw [List.any_eq_false]
    intro x hx
    obtain ⟨j, h1, _, rfl⟩ := mem_take hx
    simp [h j h1]) hp
theorem place_lt {g : Gram} {i k j : Nat} (hi : i < g.rules.length) (hk : k < extraN (nth g.rules i) + 1) (hj : j < posN g.rules i + k) :
    ∃ i' k', i' < g.rules.length ∧ k' < extraN (nth g.rules i') + 1 ∧ j = posN g.rules i' + k' ∧ (i' < i ∨ (i' = i ∧ k' < k)) := by
  have hlt := (chain_at g hi hk).1
  obtain ⟨i', k', h1, h2, h3⟩ := chns_place g g.rules 0 (baseN g) j (Nat.lt_trans hj hlt)
  refine ⟨i', k', h1, h2, h3, ?_⟩
  rcases Nat.lt_trichotomy i' i with h | h | h
  · exact .inl h
  · subst h; exact .inr ⟨rfl, by omega⟩
  · have := posN_lt (l := g.rules) h h1
    omega
theorem begin_at (g : Gram) {i : Nat} (hi : i < g.rules.length) : indexP (fun r : NRul => decide (r.origin = (i : Int))) (nrmOf g).rules = posN g.rules i := by
  have h0 := chain_head g hi (k := 0) (by omega)
  have hc := (chain_at g hi (k := 0) (by omega)).1
  rw [Nat.add_zero] at h0 hc
  refine indexP_is (by rw [nrm_rules, List.length_append]; omega) (by rw [h0.2]; simp) fun j hj => ?_
  obtain ⟨i', k', h1, h2, rfl, h3⟩ := place_lt (g := g) hi (k := 0) (by omega) (by simpa using hj)
  rw [(chain_head g h1 h2).2]
  have : i' < i := by omega
  split
  · exact decide_eq_false (by omega)
  · exact decide_eq_false (by omega)
theorem base_ge (g : Gram) : (g.nonterms.length : Int) ≤ baseN g := by unfold baseN; omega
theorem only_chain {g : Gram} (hv : GVal g) {i k : Nat} (hi : i < g.rules.length) (hk : k < extraN (nth g.rules i)) : indexP (fun r : NRul => decide (r.head = nxG g i + k)) (nrmOf g).rules = ((posN g.rules i + k + 1 : Nat) : Int) := by
  have h0 := chain_head g hi (k := k + 1) (by omega)
  have hc := (chain_at g hi (k := k + 1) (by omega)).1
  have hb : baseN g ≤ nxG g i := nxN_ge g.rules (baseN g) i
  have hb2 := base_ge g
  rw [← Nat.add_assoc] at h0 hc
  refine indexP_is (by rw [nrm_rules, List.length_append]; omega) (by rw [h0.1]; simp; omega) fun j hj => ?_
  obtain ⟨i', k', h1, h2, rfl, h3⟩ := place_lt (g := g) hi (k := k + 1) (by omega) (by omega)
  rw [(chain_head g h1 h2).1]
  have hr := hv.rule _ (nth_mem h1)
  split
  · exact decide_eq_false (by have := hr.hn; omega)
  · rcases h3 with h3 | ⟨rfl, h3⟩
    · have := nxN_lt (l := g.rules) (nx := baseN g) h3 hi
      have : nxG g i' + extraN (nth g.rules i') ≤ nxG g i := this
      exact decide_eq_false (by omega)
    · exact decide_eq_false (by omega)
theorem only_term {g : Gram} (hv : GVal g) {t : Nat} (ht : t < g.terms.length) (hn : needT g t = true) : indexP (fun r : NRul => decide (r.head = tnum g t)) (nrmOf g).rules = (((chainsN g).length + (tlist g t).length : Nat) : Int) := by
  obtain ⟨h1, h2⟩ := term_at g ht hn
  refine indexP_is h1 (by rw [h2]; simp [termN]) fun j hj => ?_
  have hlt := (tlist_at g hn ht).1
  rcases Nat.lt_or_ge j (chainsN g).length with h3 | h3
  · obtain ⟨i', k', g1, g2, rfl⟩ := chns_place g g.rules 0 (baseN g) j h3
    rw [(chain_head g g1 g2).1]
    have hr := hv.rule _ (nth_mem g1)
    have hb : baseN g ≤ nxG g i' := nxN_ge g.rules (baseN g) i'
    unfold tnum
    unfold baseN at hb
    split
    · exact decide_eq_false (by have := hr.hn; omega)
    · exact decide_eq_false (by omega)
  · obtain ⟨t', a, b, c, d⟩ := tlist_place g (k := g.terms.length) (j := j - (chainsN g).length) (by omega)
    have := (term_at g a b).2
    rw [c, show (chainsN g).length + (j - (chainsN g).length) = j by omega] at this
    rw [this]
    exact decide_eq_false (by simp only [termN, tnum]; omega)
theorem need_of {g : Gram} {r : Rul} (hr : r ∈ g.rules) (h2 : 2 ≤ r.body.length) {x : Int} (hx : x ∈ r.body) (h0 : 0 ≤ x) : needT g x.toNat = true := by
  unfold needT
  rw [List.any_eq_true]
  refine ⟨r, hr, ?_⟩
  rw [Bool.and_eq_true, decide_eq_true_eq, List.any_eq_true]
  exact ⟨by omega, x, hx, by simp; omega⟩
theorem symN_in {g : Gram} (hv : GVal g) {r : Rul} (hr : r ∈ g.rules) (h2 : 2 ≤ r.body.length) {x : Int} (hx : x ∈ r.body) : 0 ≤ symN g x ∧ symN g x < baseN g := by
  have hf := hv.rule r hr
  have h1 := hf.hi x hx
  have h3 := hf.lo x hx
  unfold symN
  split
  · unfold baseN; omega
  · have := (tlist_at g (need_of hr h2 hx (by omega)) (k := g.terms.length) (t := x.toNat) (by omega)).1
    unfold tnum baseN; omega
theorem nextN_ge (l : List Rul) : ∀ nx : Int, nx ≤ nextN nx l := by
  induction l with
  | nil => intro nx; simp [nextN]
  | cons r l ih => intro nx; simp only [nextN]; have := ih (nx + extraN r); omega
theorem nrm_valid {g : Gram} (hv : GVal g) (hl : (nrmOf g).rules.length ≤ 600) : validN (nrmOf g) = true := by
  have hb := base_ge g
  have hn := nextN_ge g.rules (baseN g)
  have hlen := nextN_len g g.rules 0 (baseN g)
  have hcl : (chainsN g).length + (tlist g g.terms.length).length = (nrmOf g).rules.length := by rw [nrm_rules, List.length_append, List.length_map]
  have htl := tlist_len g g.terms.length
  have h1 := hv.terms
  have h2 := hv.n1
  have h3 := hv.n2
  have h4 := hv.s0
  have h5 := hv.sn
  have hcl2 : (chns g 0 (baseN g) g.rules).length ≤ 600 := by have : (chns g 0 (baseN g) g.rules).length = (chainsN g).length := rfl; omega
  have hbs : baseN g = (g.nonterms.length : Int) + (tlist g g.terms.length).length := rfl
  have hce : (chns g 0 (baseN g) g.rules).length = (chainsN g).length := rfl
  have hnx : nextN (baseN g) g.rules ≤ 1000 := by omega
  have hall : ∀ r, r ∈ (nrmOf g).rules → nruleOk (nrmOf g) r = true := by
    intro r hr
    rw [nrm_rules] at hr
    have hN : (nrmOf g).nonterms = nextN (baseN g) g.rules := rfl
    have hT : (nrmOf g).terms = g.terms.length := rfl
    rcases List.mem_append.1 hr with hr | hr
    · obtain ⟨j, hj, e⟩ := List.getElem_of_mem hr
      obtain ⟨i, k, g1, g2, g3⟩ := chns_place g g.rules 0 (baseN g) j hj
      have g4 := (chain_at g g1 g2)
      have e2 : r = nth (nrmOf g).rules j := by rw [nrm_rules, nth_app1 hj, nth_eq hj]; exact e.symm
      rw [← g3] at g4
      rw [g4.2] at e2
      have hrm := nth_mem g1
      have hf := hv.rule _ hrm
      have hx1 := nxN_ge g.rules (baseN g) i
      have hx2 := nxN_next (nx := baseN g) g1
      have hx1 : baseN g ≤ nxG g i := hx1
      have hx2 : nxG g i + extraN (nth g.rules i) ≤ nextN (baseN g) g.rules := hx2
      by_cases hl2 : (nth g.rules i).body.length < 2
      · have hk0 : k = 0 := by unfold extraN at g2; omega
        subst hk0
        obtain ⟨kd, a, q1, q2⟩ := chn_one g (h := (nth g.rules i).head) (p := (nth g.rules i).price) (o := i) (nx := nxG g i) hl2
        rw [q1] at e2
        have e3 : r = ⟨kd, (nth g.rules i).head, a, 0, (nth g.rules i).price, i⟩ := e2
        subst e3
        have a1 := hf.h0
        have a2 := hf.hn
        have a3 := hf.p0
        have a4 := hf.p1
        simp only [nruleOk, inN, kindOk, hN, hT, Bool.and_eq_true, decide_eq_true_eq]
        refine ⟨⟨⟨⟨⟨by omega, by omega⟩, a3⟩, a4⟩, by omega⟩, ?_⟩
        rcases q2 with ⟨_, ek, ea⟩ | ⟨x, hb1, hx, ek, ea⟩ | ⟨x, hb1, hx, ek, ea⟩
        · simp [ek, ea]
        · have := hf.hi x (by rw [hb1]; simp)
          simp [ek, ea]; omega
        · have := hf.lo x (by rw [hb1]; simp)
          simp [ek, ea]; omega
      · have hm : k ≤ (nth g.rules i).body.length - 2 := by unfold extraN at g2; omega
        rw [chn_nth g _ _ _ _ _ k (by omega) hm] at e2
        subst e2
        have b1 := symN_in hv hrm (by omega) (nth_mem (l := (nth g.rules i).body) (k := k) (by omega))
        have b2 := symN_in hv hrm (by omega) (nth_mem (l := (nth g.rules i).body) (k := k + 1) (by omega))
        have a1 := hf.h0
        have a2 := hf.hn
        have a3 := hf.p0
        have a4 := hf.p1
        have hex : extraN (nth g.rules i) = (nth g.rules i).body.length - 2 := rfl
        simp only [nruleOk, inN, kindOk, hN, hT, Bool.and_eq_true, decide_eq_true_eq]
        refine ⟨⟨⟨⟨⟨?_, ?_⟩, ?_⟩, ?_⟩, ?_⟩, ?_⟩
        · split <;> omega
        · split <;> omega
        · split <;> omega
        · split <;> omega
        · split <;> omega
        · simp only [show (4 : Int) ≠ 1 by decide, show (4 : Int) ≠ 2 by decide, show (4 : Int) ≠ 3 by decide, if_false, if_true, Bool.and_eq_true, decide_eq_true_eq]
          refine ⟨⟨b1.1, by omega⟩, ?_, ?_⟩
          · split <;> omega
          · split <;> omega
    · obtain ⟨t, ht, rfl⟩ := List.mem_map.1 hr
      obtain ⟨j, hj, e⟩ := List.getElem_of_mem ht
      obtain ⟨t', c1, c2, c3, c4⟩ := tlist_place g hj
      rw [nth_eq hj, e] at c4
      subst c4
      have := (tlist_at g c2 c1).1
      simp [nruleOk, inN, kindOk, hN, hT, termN, tnum]
      exact ⟨⟨decide_eq_true (by omega), by omega⟩, by omega⟩
  simp only [validN, Bool.and_eq_true, decide_eq_true_eq, List.all_eq_true]
  have q1 : (nrmOf g).terms = g.terms.length := rfl
  have q2 : (nrmOf g).nonterms = nextN (baseN g) g.rules := rfl
  have q3 : (nrmOf g).start = g.start := rfl
  rw [q1, q2, q3]
  exact ⟨⟨⟨⟨⟨⟨⟨by omega, by omega⟩, by omega⟩, hnx⟩, h4⟩, by omega⟩, hl⟩, hall⟩
end Go.Lg

namespace Go.Lg
mutual
def szT : Tre → Nat
  | .mk _ _ l => 1 + szTL l
def szTL : List Tre → Nat
  | [] => 0
  | t :: l => szT t + szTL l
end
mutual
def szP : Prs → Nat
  | .mk _ l => 1 + szPL l
def szPL : List Prs → Nat
  | [] => 0
  | t :: l => szP t + szPL l
end
theorem szTL_mem : ∀ {l : List Tre} {t : Tre}, t ∈ l → szT t ≤ szTL l
  | a :: l, t, h => by
    rw [szTL]
    rcases List.mem_cons.1 h with rfl | h
    · omega
    · have := szTL_mem h; omega
theorem szPL_mem : ∀ {l : List Prs} {t : Prs}, t ∈ l → szP t ≤ szPL l
  | a :: l, t, h => by
    rw [szPL]
    rcases List.mem_cons.1 h with rfl | h
    · omega
    · have := szPL_mem h; omega
theorem szT_eq (t : Tre) : szT t = 1 + szTL t.kids := by cases t; rw [szT]; rfl
theorem szP_eq (t : Prs) : szP t = 1 + szPL t.kids := by cases t; rw [szP]; rfl
theorem szT_kid {t k : Tre} (h : k ∈ t.kids) : szT k < szT t := by rw [szT_eq t]; have := szTL_mem h; omega
theorem szP_kid {t k : Prs} (h : k ∈ t.kids) : szP k < szP t := by rw [szP_eq t]; have := szPL_mem h; omega
theorem okT_eq (g : Gram) (x : Int) (t : Tre) : okT g x t = if 0 ≤ x then decide (t.rule = -1) && decide (t.term = x) && decide (t.kids.length = 0) else
    decide (0 ≤ t.rule) && decide (t.rule < g.rules.length) && decide (t.term = 0) && decide ((nth g.rules t.rule.toNat).head = -1 - x) && decide (t.kids.length = (nth g.rules t.rule.toNat).body.length) && okTL g (nth g.rules t.rule.toNat).body t.kids := by
  cases t; rw [okT]; rfl
theorem okTL_iff (g : Gram) : ∀ (xs : List Int) (l : List Tre), xs.length = l.length → (okTL g xs l = true ↔ ∀ i, i < l.length → okT g (nth xs i) (nth l i) = true)
  | _, [], _ => by simp [okTL]
  | [], _ :: _, h => by simp at h
  | x :: xs, p :: l, h => by
    rw [okTL, Bool.and_eq_true, List.headD_cons, List.tail_cons, okTL_iff g xs l (by simpa using h)]
    constructor
    · rintro ⟨h1, h2⟩ i hi
      cases i with
      | zero => exact h1
      | succ i => exact h2 i (by simpa using hi)
    · intro h
      exact ⟨h 0 (by simp), fun i hi => h (i + 1) (by simpa using hi)⟩
structure TIn (g : Gram) (x : Int) (t : Tre) : Prop where
  r0 : 0 ≤ t.rule
  rn : t.rule.toNat < g.rules.length
  tm : t.term = 0
  hd : (nth g.rules t.rule.toNat).head = -1 - x
  len : t.kids.length = (nth g.rules t.rule.toNat).body.length
  kid : ∀ i, i < t.kids.length → okT g (nth (nth g.rules t.rule.toNat).body i) (nth t.kids i) = true
theorem okT_in {g : Gram} {x : Int} {t : Tre} (hx : x < 0) : okT g x t = true ↔ TIn g x t := by
  rw [okT_eq, if_neg (by omega)]
  simp only [Bool.and_eq_true, decide_eq_true_eq]
  constructor
  · rintro ⟨⟨⟨⟨⟨h1, h2⟩, h3⟩, h4⟩, h5⟩, h6⟩
    exact ⟨h1, by omega, h3, h4, h5, (okTL_iff g _ _ h5.symm).1 h6⟩
  · intro h
    have := h.rn
    have := h.r0
    exact ⟨⟨⟨⟨⟨h.r0, by omega⟩, h.tm⟩, h.hd⟩, h.len⟩, (okTL_iff g _ _ h.len.symm).2 h.kid⟩
def leafT (x : Int) : Tre := .mk (-1) x []
theorem okT_leaf {g : Gram} {x : Int} {t : Tre} (hx : 0 ≤ x) : okT g x t = true ↔ t = leafT x := by
  rw [okT_eq, if_pos hx]
  simp only [Bool.and_eq_true, decide_eq_true_eq]
  constructor
  · rintro ⟨⟨h1, h2⟩, h3⟩
    exact Tre.ext' h1 h2 (List.eq_nil_of_length_eq_zero h3)
  · rintro rfl; exact ⟨⟨rfl, rfl⟩, rfl⟩
structure PIn (n : Nrm) (h : Int) (p : Prs) : Prop where
  r0 : 0 ≤ p.rule
  rn : p.rule.toNat < n.rules.length
  hd : (nth n.rules p.rule.toNat).head = h
  len : (kidsN (nth n.rules p.rule.toNat)).length = p.kids.length
  kid : ∀ i, i < p.kids.length → okP n (nth (kidsN (nth n.rules p.rule.toNat)) i) (nth p.kids i) = true
theorem okP_in {n : Nrm} {h : Int} {p : Prs} : okP n h p = true ↔ PIn n h p := by
  rw [okP_eq]
  unfold nruleAt
  simp only [Bool.and_eq_true, decide_eq_true_eq]
  constructor
  · rintro ⟨⟨⟨⟨h1, h2⟩, h3⟩, h4⟩, h5⟩
    exact ⟨h1, by omega, h3, h4, (okPL_iff n _ _ h4).1 h5⟩
  · intro h
    have := h.rn
    have := h.r0
    exact ⟨⟨⟨⟨h.r0, by omega⟩, h.hd⟩, h.len⟩, (okPL_iff n _ _ h.len).2 h.kid⟩
def unroll : Nat → Prs → List Prs
  | m + 3, p => match p.kids with
    | [a, b] => a :: unroll (m + 2) b
    | l => l
  | _, p => p.kids
def bodyAt (g : Gram) (i : Int) : List Int := (nth g.rules i.toNat).body
def toTF (g : Gram) : Nat → Prs → Tre
  | 0, _ => default
  | k + 1, p => .mk (nruleAt (nrmOf g) p.rule).origin 0 ((List.range (bodyAt g (nruleAt (nrmOf g) p.rule).origin).length).map fun i =>
      if 0 ≤ nth (bodyAt g (nruleAt (nrmOf g) p.rule).origin) i then leafT (nth (bodyAt g (nruleAt (nrmOf g) p.rule).origin) i)
      else toTF g k (nth (unroll (bodyAt g (nruleAt (nrmOf g) p.rule).origin).length p) i))
def termP (g : Gram) (x : Int) : Prs := .mk (((chainsN g).length + (tlist g x.toNat).length : Nat) : Int) []
def chainP : Int → List Prs → Prs
  | at_, a :: b :: c :: l => .mk at_ [a, chainP (at_ + 1) (b :: c :: l)]
  | at_, l => .mk at_ l
def fromTF (g : Gram) : Nat → Tre → Prs
  | 0, _ => default
  | k + 1, t => match bodyAt g t.rule with
    | [x] => if 0 ≤ x then .mk (posN g.rules t.rule.toNat) [] else .mk (posN g.rules t.rule.toNat) [fromTF g k (nth t.kids 0)]
    | b => chainP (posN g.rules t.rule.toNat) ((List.range b.length).map fun i => if 0 ≤ nth b i then termP g (nth b i) else fromTF g k (nth t.kids i))
section
variable {g : Gram}
theorem place_of {j : Nat} (hj : j < (nrmOf g).rules.length) : (∃ i k, i < g.rules.length ∧ k < extraN (nth g.rules i) + 1 ∧ j = posN g.rules i + k) ∨
    (∃ t, t < g.terms.length ∧ needT g t = true ∧ j = (chainsN g).length + (tlist g t).length) := by
  rw [nrm_rules, List.length_append, List.length_map] at hj
  rcases Nat.lt_or_ge j (chainsN g).length with h | h
  · exact .inl (chns_place g g.rules 0 (baseN g) j h)
  · obtain ⟨t, a, b, c, d⟩ := tlist_place g (k := g.terms.length) (j := j - (chainsN g).length) (by omega)
    exact .inr ⟨t, a, b, by omega⟩
theorem uniq_low (hv : GVal g) {j : Nat} (hj : j < (nrmOf g).rules.length) (h : (nth (nrmOf g).rules j).head < g.nonterms.length) : ∃ i, i < g.rules.length ∧ j = posN g.rules i := by
  rcases place_of hj with ⟨i, k, h1, h2, rfl⟩ | ⟨t, h1, h2, rfl⟩
  · rw [(chain_head g h1 h2).1] at h
    have hb : baseN g ≤ nxG g i := nxN_ge g.rules (baseN g) i
    have := base_ge g
    split at h
    · rename_i h0; subst h0; exact ⟨i, h1, rfl⟩
    · omega
  · rw [(term_at g h1 h2).2] at h
    simp only [termN, tnum] at h
    omega
theorem uniq_chain (hv : GVal g) {j i k : Nat} (hj : j < (nrmOf g).rules.length) (hi : i < g.rules.length) (hk : k < extraN (nth g.rules i)) (h : (nth (nrmOf g).rules j).head = nxG g i + k) : j = posN g.rules i + k + 1 := by
  have hb : baseN g ≤ nxG g i := nxN_ge g.rules (baseN g) i
  have hb2 := base_ge g
  rcases place_of hj with ⟨i', k', h1, h2, rfl⟩ | ⟨t, h1, h2, rfl⟩
  · rw [(chain_head g h1 h2).1] at h
    split at h
    · have := (hv.rule _ (nth_mem h1)).hn; omega
    · rcases Nat.lt_trichotomy i' i with q | q | q
      · have := nxN_lt (l := g.rules) (nx := baseN g) q hi
        have : nxG g i' + extraN (nth g.rules i') ≤ nxG g i := this
        omega
      · subst q; omega
      · have := nxN_lt (l := g.rules) (nx := baseN g) q h1
        have : nxG g i + extraN (nth g.rules i) ≤ nxG g i' := this
        omega
  · rw [(term_at g h1 h2).2] at h
    simp only [termN, tnum] at h
    have := (tlist_at g h2 h1).1
    unfold baseN at hb
    omega
theorem uniq_term (hv : GVal g) {j t : Nat} (hj : j < (nrmOf g).rules.length) (ht : t < g.terms.length) (hn : needT g t = true) (h : (nth (nrmOf g).rules j).head = tnum g t) : j = (chainsN g).length + (tlist g t).length := by
  have h3 := (tlist_at g hn ht).1
  rcases place_of hj with ⟨i', k', h1, h2, rfl⟩ | ⟨t', h1, h2, rfl⟩
  · rw [(chain_head g h1 h2).1] at h
    have hb : baseN g ≤ nxG g i' := nxN_ge g.rules (baseN g) i'
    unfold tnum at h
    unfold baseN at hb
    split at h
    · have := (hv.rule _ (nth_mem h1)).hn; omega
    · omega
  · rw [(term_at g h1 h2).2] at h
    simp only [termN, tnum] at h
    omega
end
end Go.Lg

namespace Go.Lg
open Go.Proofs Go.RowKit Go.ChangeShapes Go.WideShapes
open Go.Proofs.Ytdgibngbooghfaa (Rows.uptoBulk Rows.uptoBulkAll Rows.uptoSmall)
set_option maxRecDepth 20000
structure DatZ (P : Program) (t : TypeId) {α : Type} (f : α → AV) (sz : α → Nat) (m : Nat) : Prop where
  dat : ∀ {H : Type} {enc : TypeId × Value → H} {w : World} {fuel : Nat} {cs : List Value} {x : DataW H × List MemPlace}, fuel < m →
    DataW.trod enc P w 0 (fun _ => true) true fuel t cs = some x → ∃ a : α, CW0 w (f a).cells cs ∧ sz a ≤ Rows.uptoBulk x.1
theorem DatZ.zero {P : Program} {t : TypeId} {α : Type} {f : α → AV} {sz : α → Nat} : DatZ P t f sz 0 := ⟨fun h => absurd h (Nat.not_lt_zero _)⟩
def sumZ {α : Type} (sz : α → Nat) : List α → Nat
  | [] => 0
  | a :: l => sz a + sumZ sz l
theorem sumZ_le {H : Type} {α : Type} {sz : α → Nat} : ∀ {zs : List α} {xs : List (DataW H × List MemPlace)}, zs.length = xs.length → (∀ (i : Nat) (a : α) (x : DataW H × List MemPlace), zs[i]? = some a → xs[i]? = some x → sz a ≤ Rows.uptoBulk x.1) → sumZ sz zs ≤ Rows.uptoBulkAll (xs.map (·.1))
  | [], [], _, _ => Nat.le_refl _
  | [], _ :: _, h, _ => by simp at h
  | _ :: _, [], h, _ => by simp at h
  | a :: zs, x :: xs, h, hb => by
    have h1 := hb 0 a x rfl rfl
    have h2 := sumZ_le (sz := sz) (zs := zs) (xs := xs) (by simpa using h) fun i b y hi hj => hb (i + 1) b y hi hj
    simp only [sumZ, List.map_cons, Rows.uptoBulkAll]
    omega
section
variable {P : Program} {w : World}
theorem datz_slice {t e : TypeId} {α : Type} {f : α → AV} {sz : α → Nat} {k m : Nat} (ht : P.underlying t = some (.slice e)) (hk : P.cellsOf e = k) (hk0 : 0 < k) (hf : ∀ a, (f a).cells.length = k) (he : DatZ P e f sz m) : DatZ P t (fun l : List α => AV.sl k (l.map f)) (fun l => sumZ sz l) (m + 1) := ⟨fun {H} {enc} {w} {fuel} {cs} {x} hfu h => by
  rcases DataW.trod_slice ht h with ⟨rfl, _⟩ | ⟨a, len, cap, elems, rest, n, hn, rfl, rfl, hb, hl, hm, hlen, hel, _⟩
  · exact ⟨[], CR.one .nils rfl, Nat.zero_le _⟩
  · have each : ∀ i, i < elems.length → ∃ y : α, (∃ cs : List Value, CW0 w (f y).cells cs ∧ ∀ j, j < k → w.cell? ((a.add (i * k)).add j) = cs[j]?) ∧ ∀ x, elems[i]? = some x → sz y ≤ Rows.uptoBulk x.1 := fun i hi => by
      have := hel i (by omega)
      rw [List.getElem?_eq_getElem hi, Option.bind_eq_some_iff, hk] at this
      obtain ⟨cs, h1, h2⟩ := this
      obtain ⟨y, hy, hz⟩ := he.dat (by omega) h2
      refine ⟨y, ⟨cs, hy, (World.cells?_some h1).2.2⟩, fun x hx => ?_⟩
      rw [List.getElem?_eq_getElem hi] at hx
      cases hx
      exact hz
    obtain ⟨zs, h1, h2'⟩ := list_of_each each
    have hsz : sumZ sz zs ≤ Rows.uptoBulkAll (elems.map (·.1)) := sumZ_le h1 fun i b y hi hj => (h2' i b hi).2 y hj
    refine ⟨zs, ?_, by simp only [Rows.uptoBulk]; omega⟩
    have h2 : ∀ i y, zs[i]? = some y → ∃ cs : List Value, CW0 w (f y).cells cs ∧ ∀ j, j < k → w.cell? ((a.add (i * k)).add j) = cs[j]? := fun i y hi => (h2' i y hi).1
    clear h2' hsz
    cases zs with
    | nil =>
      have : len = 0 := by simp at h1; omega
      subst this
      exact CR.one .nils rfl
    | cons y zs =>
      obtain ⟨cs0, c1, c2⟩ := h2 0 y rfl
      have hcs0 : cs0.length = k := by rw [c1.len, hf]
      have hcell0 : w.cell? ((a.add (0 * k)).add 0) = some (cs0[0]'(by omega)) := by rw [c2 0 hk0, List.getElem?_eq_getElem (by omega)]
      have hsp : a.spot = none := by
        have := World.cell?_spot hcell0
        simpa [Addr.add] using this
      obtain ⟨b, o, sp⟩ := a
      simp only at hsp; subst hsp
      have hlt : b < w.heap.size := by
        have : w.cell? ⟨b, o, none⟩ ≠ none := by
          have := hcell0
          simp [Addr.add] at this
          rw [this]; simp
        by_cases hb : b < w.heap.size
        · exact hb
        · exfalso; apply this; unfold World.cell?; simp [Array.getElem?_eq_none (Nat.le_of_not_lt hb)]
      obtain ⟨g, hg⟩ := cr_flat (k := k) (cell := fun j => w.cell? ⟨b, j, none⟩) ((y :: zs).map f) o (fun e he => by obtain ⟨z, _, rfl⟩ := List.mem_map.1 he; exact hf z) (fun i e hi => by
        rw [List.getElem?_map, Option.map_eq_some_iff] at hi
        obtain ⟨z, hz, rfl⟩ := hi
        obtain ⟨cs, q1, q2⟩ := h2 i z hz
        refine ⟨cs, q1, fun j hj => ?_⟩
        have := q2 j hj
        rwa [add_lit, add_lit] at this)
      have hlen' : ((y :: zs).map f).length = len := by simp only [List.length_map]; omega
      have key : RW0 w (.sl k ((y :: zs).map f)) (.slice (some ⟨b, o, none⟩) ((y :: zs).map f).length cap) :=
        .sl g ⟨by omega, hm⟩ hlt (fun e he => by obtain ⟨z, _, rfl⟩ := List.mem_map.1 he; exact hf z) (fun j hj => (hg j hj).1) (fun j hj => (hg j hj).2.1) (fun j x hx => (hg j ((List.getElem?_eq_some_iff.1 hx).1)).2.2 x hx)
      rw [hlen'] at key
      exact CR.one key rfl⟩
def eachFieldZ {H : Type} (enc : TypeId × Value → H) (P : Program) (w : World) (n : Nat) (cs : List Value) : List (TypeId × Nat) → List (DataW H × List MemPlace) → Prop
  | [], _ => True
  | _ :: _, [] => False
  | (t, o) :: r, x :: xs => DataW.trod enc P w 0 (fun _ => true) true n t ((cs.drop o).take (P.cellsOf t)) = some x ∧ eachFieldZ enc P w n cs r xs
theorem datz_fields {t : TypeId} {l : List (TypeId × Nat)} {α : Type} {f : α → AV} {sz : α → Nat} {mm m : Nat} (hl : fieldTO P t = some l) (hm : P.cellsOf t = mm)
    (h : ∀ {H : Type} {enc : TypeId × Value → H} {w : World} {n : Nat} {cs : List Value} (xs : List (DataW H × List MemPlace)), n < m → cs.length = mm → eachFieldZ enc P w n cs l xs → ∃ a : α, CW0 w (f a).cells (cs.drop 0) ∧ sz a ≤ Rows.uptoBulkAll (xs.map (·.1)) + 1) : DatZ P t f sz (m + 1) := ⟨fun {H} {enc} {w} {fuel} {cs} {x} hfu hx => by
  unfold fieldTO at hl
  split at hl
  · rename_i fs ht
    injection hl with hl
    obtain ⟨xs, n, hn, rfl, hlc, hlen, hf⟩ := DataW.trod_struct ht hx
    rw [hm] at hlc
    have gen : ∀ (gs : List Field) (ys : List (DataW H × List MemPlace)), ys.length = gs.length → (∀ (i : Nat) (g : Field), gs[i]? = some g → DataW.trod enc P w 0 (fun _ => true) true n g.type ((cs.drop g.offset).take (P.cellsOf g.type)) = ys[i]?) → eachFieldZ enc P w n cs (gs.map fun g => (g.type, g.offset)) ys := by
      intro gs
      induction gs with
      | nil => intro ys _ _; cases ys <;> trivial
      | cons g gs ih =>
        intro ys hy hg
        cases ys with
        | nil => simp at hy
        | cons y ys => exact ⟨hg 0 g rfl, ih ys (by simpa using hy) fun i g' hi => hg (i + 1) g' hi⟩
    have := h (enc := enc) (w := w) (n := n) xs (by omega) hlc (by rw [← hl]; exact gen fs.toList xs (by simpa using hlen) fun i g hi => hf i g (by rw [← Array.getElem?_toList]; exact hi))
    simpa [Rows.uptoBulk] using this
  · cases hl⟩
theorem fieldz_dat {H : Type} {enc : TypeId × Value → H} {t : TypeId} {o n k m : Nat} {α : Type} {f : α → AV} {sz : α → Nat} {cs : List Value} {x : DataW H × List MemPlace} (hd : DatZ P t f sz m) (hlt : n < m) (h : DataW.trod enc P w 0 (fun _ => true) true n t ((cs.drop o).take (P.cellsOf t)) = some x) (hn : P.cellsOf t = k) : ∃ a : α, CW0 w (f a).cells ((cs.drop o).take k) ∧ sz a ≤ Rows.uptoBulk x.1 := by
  rw [hn] at h
  exact hd.dat hlt h
theorem argz_dat {H : Type} {enc : TypeId × Value → H} {t : TypeId} {α : Type} {f : α → AV} {sz : α → Nat} (hd : ∀ m, DatZ P t f sz m) {v : Value} {d : DataW H} {ps : List MemPlace} (h : DataW.Trod enc P w 0 (fun _ => true) true t v d ps) {r : Reach} {b0 : Nat} (hval : Value.okWide P w r b0 t v)
    (hs : ∀ a, ∃ cs, f a = .agg cs) (ht : ∃ fs, P.underlying t = some (.struct fs)) : ∃ a : α, RW0 w (f a) v ∧ sz a ≤ Rows.uptoBulk d := by
  obtain ⟨fuel, h⟩ := h
  obtain ⟨a, ha, hz⟩ := (hd (fuel + 1)).dat (Nat.lt_succ_self _) h
  refine ⟨a, ?_, hz⟩
  obtain ⟨cs, h1⟩ := hs a
  obtain ⟨fs, h2⟩ := ht
  obtain ⟨vs, rfl, _⟩ := okWide_struct h2 hval
  rw [h1] at ha ⊢
  exact CR.agg ha
end
theorem sumZ_szP : ∀ l : List Prs, sumZ szP l = szPL l
  | [] => by rw [sumZ, szPL]
  | p :: l => by rw [sumZ, szPL, sumZ_szP l]
theorem sumZ_szT : ∀ l : List Tre, sumZ szT l = szTL l
  | [] => by rw [sumZ, szTL]
  | p :: l => by rw [sumZ, szTL, sumZ_szT l]
theorem datz_prs : ∀ m, DatZ Try.prog 38 prsA szP m := by
  intro m
  induction m using Nat.strongRecOn with
  | _ m ih =>
    match m with
    | 0 => exact .zero
    | m + 1 =>
      refine datz_fields (l := [(3, 0), (36, 1)]) (mm := 2) (by kernel_rfl) (by kernel_rfl) fun {H} {enc} {w} {n} {cs} xs hn hc hx => ?_
      match xs, hx with
      | x0 :: x1 :: xs, ⟨h0, h1, _⟩ =>
        have hsl : DatZ Try.prog 36 (fun l : List Prs => AV.sl 2 (l.map prsA)) (fun l => sumZ szP l) (n + 1) :=
          datz_slice (e := 38) (k := 2) (by kernel_rfl) (by kernel_rfl) (by decide) (fun _ => rfl) (ih n (by omega))
        obtain ⟨a0, h0⟩ := fieldn_dat ⟨_, h0⟩ (k := 1) (by kernel_rfl)
        obtain ⟨a1, h1, z1⟩ := fieldz_dat hsl (Nat.lt_succ_self _) h1 (k := 1) (by kernel_rfl)
        refine ⟨.mk a0 a1, ?_, ?_⟩
        · rw [prsA_eq]
          exact CR.seg h0 (CR.seg h1 (CR.fin (by omega)))
        · rw [szP, ← sumZ_szP]
          simp only [List.map_cons, Rows.uptoBulkAll]
          omega
theorem datz_tre : ∀ m, DatZ Try.prog 47 treA szT m := by
  intro m
  induction m using Nat.strongRecOn with
  | _ m ih =>
    match m with
    | 0 => exact .zero
    | m + 1 =>
      refine datz_fields (l := [(3, 0), (3, 1), (45, 2)]) (mm := 3) (by kernel_rfl) (by kernel_rfl) fun {H} {enc} {w} {n} {cs} xs hn hc hx => ?_
      match xs, hx with
      | x0 :: x1 :: x2 :: xs, ⟨h0, h1, h2, _⟩ =>
        have hsl : DatZ Try.prog 45 (fun l : List Tre => AV.sl 3 (l.map treA)) (fun l => sumZ szT l) (n + 1) :=
          datz_slice (e := 47) (k := 3) (by kernel_rfl) (by kernel_rfl) (by decide) (fun _ => rfl) (ih n (by omega))
        obtain ⟨a0, h0⟩ := fieldn_dat ⟨_, h0⟩ (k := 1) (by kernel_rfl)
        obtain ⟨a1, h1⟩ := fieldn_dat ⟨_, h1⟩ (k := 1) (by kernel_rfl)
        obtain ⟨a2, h2, z2⟩ := fieldz_dat hsl (Nat.lt_succ_self _) h2 (k := 1) (by kernel_rfl)
        refine ⟨.mk a0 a1 a2, ?_, ?_⟩
        · rw [treA_eq]
          exact CR.seg h0 (CR.seg h1 (CR.seg h2 (CR.fin (by omega))))
        · rw [szT, ← sumZ_szT]
          simp only [List.map_cons, Rows.uptoBulkAll]
          omega
def szC (x : Cas) : Nat := szT x.t + szP x.p
theorem datz_case : ∀ m, DatZ Try.prog 49 casA szC m
  | 0 => .zero
  | m + 1 => datz_fields (l := [(30, 0), (47, 4), (38, 7)]) (mm := 9) (by kernel_rfl) (by kernel_rfl) fun {H} {enc} {w} {n} {cs} xs hn hc hx => by
      match xs, hx with
      | x0 :: x1 :: x2 :: xs, ⟨h0, h1, h2, _⟩ =>
        obtain ⟨a0, h0⟩ := fieldn_dat ⟨_, h0⟩ (k := 4) (by kernel_rfl)
        obtain ⟨a1, h1, z1⟩ := fieldz_dat (datz_tre (n + 1)) (Nat.lt_succ_self _) h1 (k := 3) (by kernel_rfl)
        obtain ⟨a2, h2, z2⟩ := fieldz_dat (datz_prs (n + 1)) (Nat.lt_succ_self _) h2 (k := 2) (by kernel_rfl)
        refine ⟨⟨a0, a1, a2⟩, CR.seg h0 (CR.seg h1 (CR.seg h2 (CR.fin (by omega)))), ?_⟩
        simp only [List.map_cons, Rows.uptoBulkAll, szC]
        omega
theorem argz_case {H : Type} {enc : TypeId × Value → H} {w : World} {v : Value} {d : DataW H} {ps : List MemPlace} (h : DataW.Trod enc Try.prog w 0 (fun _ => true) true 49 v d ps) {r : Reach} {b0 : Nat} (hval : Value.okWide Try.prog w r b0 49 v) : ∃ g : Cas, RW0 w (casA g) v ∧ szC g ≤ Rows.uptoBulk d :=
  argz_dat (f := casA) datz_case h hval (fun a => ⟨_, rfl⟩) (agg_ty (t := 49) (by kernel_rfl))
theorem bulk_bound {H : Type} {l : List (DataW H)} (hk : Rows.uptoSmall H l = true) : Rows.uptoBulkAll l ≤ 1048576 := of_decide_eq_true hk
theorem handed_cond {H : Type} {enc : TypeId × Value → H} {a : Assume} {C : Checked} {os : Os} {f : FuncId} {fn : Func} {s : OpenSpec} {k : (H : Type) → List (DataW H) → Bool} (hk : s.cond = some k) {F : Stop.Interp} {conds : List PathCond} {apart fresh handsOn again : Bool}
    (own : ownKnob C.prog.godebug = none) (started : os.Started) (noInit : C.prog.inits.idxOf? f = none) (hfn : C.prog.funcs[f]? = some fn)
    (witness : ∃ (w : World) (tape : Tape) (i : Input), w.os = os ∧ (w.forCall tape i).Shaped C.prog ∧ i.vars = [] ∧ Input.okWide C.prog (w.forCall tape i) .any w.heap.size f i ∧
      s.pre6 enc C.prog fn conds apart (w.forCall tape i).memory i.args ∧ a.holds C.prog (lone (Frame.enter C.prog f i.args .normal) [] (w.forCall tape i)))
    (contract : ∀ (W : World) (base : Nat) (args : Array Value) (ds gs : List (DataW H)) (before : List MemPlace),
      (∀ (j : Nat) t v, fn.params[j]? = some t → args[j]? = some v → Value.okWide C.prog W .any base t v) →
      DataW.Whole enc C.prog fn.params.toList s.vars apart W args.toList ds gs before → k H (ds ++ gs) = true → W.ShapedOpen C.prog →
      Calls C.prog f args W fun e W' => ∃ v, e = .returned v ∧ (s.at F).post enc C.prog fn apart fresh handsOn again W args v W') :
    ReturnsInHanded a C os f .any (s.pre6 enc C.prog fn conds apart) ((s.at F).post enc C.prog fn apart fresh handsOn again) := by
  refine returnsInHanded_of_calls own started noInit witness ?_
  intro w tape i _ hsh _ hok hpre _
  obtain ⟨_, _, _, fn', hfn', _, _, _, _, hval⟩ := hok
  have e : fn' = fn := Option.some.inj (hfn'.symm.trans hfn)
  subst e
  obtain ⟨ds, gs, before, hw, _, hkk⟩ := (OpenSpec.pre_some hk conds apart _ _).1 hpre.1
  refine (contract (w.forCall tape i) w.heap.size i.args ds gs before hval (DataW.Whole.of_heap (w' := w.forCall tape i) (by rfl) hw) hkk hsh).mono fun e W' ⟨v, he, hp⟩ => ?_
  subst he
  exact ChangeSpec.post_blind hp
end Go.Lg
