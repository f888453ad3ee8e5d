/-
  Part 14 of the proof of BinarizeTreesMatchReference: the logic over the model, the functions' contracts and the plain laws.
-/
import Derived.Test.YtdgibngbooghfaaNt13
import Derived.Lib.Join
import Derived.Lib.ItoaLen

set_option linter.unusedSimpArgs false
set_option linter.unusedVariables false
set_option linter.unusedSectionVars false
set_option linter.defProp false

namespace Go.Lg
open Go.Proofs
def letB (c : Int) : Bool := decide (97 ≤ c) && decide (c ≤ 122) || decide (65 ≤ c) && decide (c ≤ 90)
def digB (c : Int) : Bool := decide (48 ≤ c) && decide (c ≤ 57)
theorem range_all_succ {f : Nat → Bool} {k : Nat} (h : (List.range k).all f = true) (hf : f k = true) : (List.range (k + 1)).all f = true := by
  rw [List.range_succ, List.all_append, h]; simp [hf]
theorem range_all_no {f : Nat → Bool} {k n : Nat} (hk : k < n) (hf : f k = false) : (List.range n).all f = false := by
  rw [List.all_eq_false]; exact ⟨k, by simpa using hk, by simp [hf]⟩
def indexP {α : Type} (p : α → Bool) (l : List α) : Int := match l.findIdx? p with
  | some i => i
  | none => -1
theorem indexP_at {α : Type} [Inhabited α] {p : α → Bool} {l : List α} {k : Nat} (hk : k < l.length) (h : (l.take k).any p = false) (hp : p (nth l k) = true) : indexP p l = k := by
  have : l.findIdx? p = some k := by
    rw [List.findIdx?_eq_some_iff_getElem]
    refine ⟨hk, by rwa [nth_eq hk] at hp, fun j hj => ?_⟩
    rw [List.any_eq_false] at h
    have := h l[j] (by rw [List.mem_take_iff_getElem]; exact ⟨j, by omega, rfl⟩)
    simpa using this
  simp [indexP, this]
theorem indexP_no {α : Type} {p : α → Bool} {l : List α} {k : Nat} (hk : l.length ≤ k) (h : (l.take k).any p = false) : indexP p l = -1 := by
  rw [List.take_of_length_le hk] at h
  have : l.findIdx? p = none := by rw [List.findIdx?_eq_none_iff]; intro x hx; rw [List.any_eq_false] at h; simpa using h x hx
  simp [indexP, this]
theorem indexP_any {α : Type} {p : α → Bool} {l : List α} : decide (0 ≤ indexP p l) = l.any p := by
  unfold indexP
  cases h : l.findIdx? p with
  | none => rw [List.findIdx?_eq_none_iff] at h; rw [show l.any p = false by rw [List.any_eq_false]; intro x hx; simp [h x hx]]; rfl
  | some i =>
    rw [List.findIdx?_eq_some_iff_getElem] at h
    obtain ⟨hi, hp, _⟩ := h
    rw [show l.any p = true by rw [List.any_eq_true]; exact ⟨_, List.getElem_mem hi, hp⟩]
    simp
theorem take_any_succ {α : Type} [Inhabited α] {l : List α} {f : α → Bool} {k : Nat} (hk : k < l.length) (h : (l.take k).any f = false) (hf : f (nth l k) = false) : (l.take (k + 1)).any f = false := by
  rw [take_succ_nth hk, List.any_append, h]; simp [hf]
theorem take_eq_succ {α : Type} [Inhabited α] {a b : List α} {k : Nat} (ha : k < a.length) (hb : k < b.length) (h : a.take k = b.take k) (he : nth a k = nth b k) : a.take (k + 1) = b.take (k + 1) := by
  rw [take_succ_nth ha, take_succ_nth hb, h, he]
theorem eq_of_takes {α : Type} {a b : List α} {k : Nat} (hl : a.length = b.length) (hk : a.length ≤ k) (h : a.take k = b.take k) : a = b := by
  rwa [List.take_of_length_le hk, List.take_of_length_le (by omega)] at h
theorem nodup_nth {α : Type} [Inhabited α] {l : List α} (h : ∀ j, j < l.length → ∀ k, k < j → nth l k ≠ nth l j) : l.Nodup := by
  rw [List.nodup_iff_pairwise_ne, List.pairwise_iff_getElem]
  intro i j hi hj hij
  have := h j hj i hij
  rwa [nth_eq hi, nth_eq hj] at this
theorem not_nodup {α : Type} [Inhabited α] {l : List α} {k j : Nat} (hj : j < l.length) (hk : k < j) (h : nth l k = nth l j) : ¬ l.Nodup := by
  rw [List.nodup_iff_pairwise_ne, List.pairwise_iff_getElem]
  intro hp
  have := hp k j (by omega) hj hk
  rw [nth_eq (by omega), nth_eq hj] at h
  exact this h
theorem all_of_nth {α : Type} [Inhabited α] {l : List α} {f : α → Bool} (h : ∀ j, j < l.length → f (nth l j) = true) : l.all f = true := by
  rw [List.all_eq_true]; intro x hx
  obtain ⟨i, hi, rfl⟩ := List.getElem_of_mem hx
  have := h i hi
  rwa [nth_eq hi] at this
def bl (s : ByteArray) : List UInt8 := s.data.toList
def tx (l : List UInt8) : ByteArray := ⟨l.toArray⟩
@[simp] theorem bl_tx (l : List UInt8) : bl (tx l) = l := rfl
theorem tx_bl (s : ByteArray) : tx (bl s) = s := by obtain ⟨⟨l⟩⟩ := s; rfl
end Go.Lg

namespace Go.Lg
theorem sB : (∀ {p : Prop} [Decidable p], (decide p = true) = p) ∧
  (∀ {p : Prop} [Decidable p], decide p = false ↔ ¬p) ∧
  (∀ {p : Prop} [Decidable p], ¬¬p ↔ p) ∧
  (∀ a b : Bool, ((a && b) = true) = (a = true ∧ b = true)) ∧
  (∀ a b : Bool, ((a || b) = true) = (a = true ∨ b = true)) ∧
  (∀ {b : Bool}, ((!b) = true) = (b = false)) ∧
  (∀ {b : Bool}, ((!b) = false) = (b = true)) ∧
  (∀ {x y : Bool}, (x || y) = false ↔ x = false ∧ y = false) ∧
  (∀ {x y : Bool}, (x && y) = false ↔ x = false ∨ y = false) ∧
  (∀ {a b : Int}, ¬a < b ↔ b ≤ a) ∧
  (∀ {a b : Int}, ¬a ≤ b ↔ b < a) ∧
  ((!true) = false) ∧
  ((!false) = true) ∧
  (∀ {b : Bool}, (¬b = true) = (b = false)) ∧
  (∀ {b : Bool}, (¬b = false) = (b = true)) := ⟨@decide_eq_true_eq, @decide_eq_false_iff_not, @Decidable.not_not, Bool.and_eq_true, Bool.or_eq_true, @Bool.not_eq_true', @Bool.not_eq_false', @Bool.or_eq_false_iff, @Bool.and_eq_false_iff, @Int.not_lt, @Int.not_le, Bool.not_true, Bool.not_false, @Bool.not_eq_true, @Bool.not_eq_false⟩
theorem sH : (∀ {α : Type} {a : α} {l : List α} {p : α → Bool}, (a :: l).all p = (p a && l.all p)) ∧
  (∀ {α : Type} {p : α → Bool} {xs ys : List α}, (xs ++ ys).all p = (xs.all p && ys.all p)) ∧
  (∀ {α : Type} {p : α → Bool}, ([] : List α).all p = true) ∧
  (∀ b : Bool, (b && true) = b) := ⟨@List.all_cons, @List.all_append, @List.all_nil, Bool.and_true⟩
theorem sL : (∀ {α : Type} {n : Nat} {a : α}, (List.replicate n a).length = n) ∧
  (∀ {α : Type} {us : List α} {i : Nat} {a : α}, (us.set i a).length = us.length) ∧
  (∀ {α : Type} {us bs : List α}, (us ++ bs).length = us.length + bs.length) ∧
  (∀ {α : Type} {β : Type} {us : List α} (f : α → β), (us.map f).length = us.length) ∧
  (∀ {α : Type} {a : α} {us : List α}, (a :: us).length = us.length + 1) ∧
  (∀ {α : Type}, ([] : List α).length = 0) ∧
  (∀ {α : Type} {i : Nat} {l : List α}, (l.take i).length = min i l.length) ∧
  (∀ {α : Type} {i : Nat} {l : List α}, (l.drop i).length = l.length - i) := ⟨@List.length_replicate, @List.length_set, @List.length_append, @List.length_map, @List.length_cons, @List.length_nil, @List.length_take, @List.length_drop⟩
theorem sZ : (∀ {α : Type} (us : List α), us.toArray.size = us.length) ∧
  (∀ {a b : ByteArray}, (a ++ b).size = a.size + b.size) ∧
  (∀ {α : Type} {us bs : List α}, (us ++ bs).length = us.length + bs.length) ∧
  (∀ {α : Type} {a : α} {us : List α}, (a :: us).length = us.length + 1) ∧
  (∀ {α : Type}, ([] : List α).length = 0) := ⟨@List.size_toArray, @ByteArray.size_append, @List.length_append, @List.length_cons, @List.length_nil⟩
end Go.Lg

namespace Go.Lg
open Go.RowKit
def opp (n : Nat) (l : List (Nat × AV)) (a : Operand) : Option AV := match opq n l a with
  | some x => bif x.plain then some x else none
  | none => none
section
variable {P : Program} {n M N i0 : Nat} {l : List (Nat × AV)} {os : List (Nat × Option AObj)} {e l' t : List Bool} {a b c d : Operand} {x y : AV} {dd tg : Tmp} {tyo : TypeId} {pos : String} {af : Array Edge} {ops : Array Oper} {rest : List Oper} {KD : List Rec → St → Prop} {K : St → Prop} {rs : List Rec} {jg : Nat} {want : Bool}
theorem opp_b (h : opp n l a = some x) : opq n l a = some x ∧ x.plain = true := by
  unfold opp at h
  cases hq : opq n l a with
  | none => rw [hq] at h; cases h
  | some y =>
    rw [hq] at h
    simp only at h
    cases hp : y.plain with
    | false => rw [hp] at h; cases h
    | true => rw [hp] at h; injection h with h; subst h; exact ⟨rfl, hp⟩
theorem opp_o (h : opp n l a = some x) : opq n l a = some x := (opp_b h).1
theorem opp_p (h : opp n l a = some x) : x.plain = true := (opp_b h).2
theorem opp_q (h : opp n l a = some x) : Rq n l e a x := rq_p (opp_b h).1 (opp_b h).2
section
variable {k kk : IntKind} {p q : Int} {ty ty2 : TypeId} {s u : ByteArray} {ti tj te : TI} {el : TypeId} {cs es : List AV} {i j id off sz len : Nat} {ed : AV} {b' : Bool}
theorem smove (h : opp n l a = some x) (hk : asemC P ops rest (S n ((dd, x) :: l) M os) K) : asemC P ops (⟨some dd, (.move a), tyo, pos, af, none⟩ :: rest) (S n l M os) K := su (ap_move (opp_q h)) hk
theorem rmove (h : opp n l a = some x) (hk : RunD P ops N (i0 + 1) rest (S n ((dd, x) :: l) M os) (rs ++ [⟨some dd, [], topq n l (Op.operands (.move a)).toList⟩]) KD) : RunD P ops N i0 (⟨some dd, (.move a), tyo, pos, af, none⟩ :: rest) (S n l M os) rs KD := rd_u (by first | (simp [Op.operands, plainq, opp_o h, opp_p h]; done) | simp [Op.operands, plainq, AV.plain, opp_o h]) rfl (ap_move (opp_q h)) hk
theorem gmove (ht : (ops[jg]?).bind (·.dst) = some tg) (hg : opq n l (.tmp tg) = some (.val (.bool want))) (h : opp n l a = some x) (hk : RunD P ops N (i0 + 1) rest (S n ((dd, x) :: l) M os) (rs ++ [⟨some dd, [], topq n l (Op.operands (.move a)).toList⟩]) KD) : RunD P ops N i0 (⟨some dd, (.move a), tyo, pos, af, some (jg, want)⟩ :: rest) (S n l M os) rs KD := rdg_u ht hg (by first | (simp [Op.operands, plainq, opp_o h, opp_p h]; done) | simp [Op.operands, plainq, AV.plain, opp_o h]) rfl (ap_move (opp_q h)) hk
theorem snilc {id k i j : Nat} (h : opp n l a = some (.ptr id k i j)) (hk : asemC P ops rest (S n ((dd, (.ptr id k i j)) :: l) M os) K) : asemC P ops (⟨some dd, (.nilCheck a), tyo, pos, af, none⟩ :: rest) (S n l M os) K := su (ap_nilc (opp_q h)) hk
theorem sassign (h : opp n l a = some x) (hk : asemC P ops rest (S n ((dd, x) :: l) M os) K) : asemC P ops (⟨some dd, (.assign a), tyo, pos, af, none⟩ :: rest) (S n l M os) K := su (ap_assign (opp_q h)) hk
theorem aassign (h : opp n l a = some x) : Ap P n l M os e (.assign a) x := ap_assign (opp_q h)
theorem sadd (ha : opp n l a = some (.val (.int k p))) (hb : opp n l b = some (.val (.int k q))) (h : inr k (p + q)) (hk : asemC P ops rest (S n ((dd, (.val (.int k (p + q)))) :: l) M os) K) : asemC P ops (⟨some dd, (.binOp .add ty a b ty2), tyo, pos, af, none⟩ :: rest) (S n l M os) K := su (ap_add (opp_q ha) (opp_q hb) h) hk
theorem aadd (ha : opp n l a = some (.val (.int k p))) (hb : opp n l b = some (.val (.int k q))) (h : inr k (p + q)) : Ap P n l M os e (.binOp .add ty a b ty2) (.val (.int k (p + q))) := ap_add (opp_q ha) (opp_q hb) h
theorem asub (ha : opp n l a = some (.val (.int k p))) (hb : opp n l b = some (.val (.int k q))) (h : inr k (p - q)) : Ap P n l M os e (.binOp .sub ty a b ty2) (.val (.int k (p - q))) := ap_sub (opp_q ha) (opp_q hb) h
theorem seql (ha : opp n l a = some (.val (.int k p))) (hb : opp n l b = some (.val (.int k q))) (hk : asemC P ops rest (S n ((dd, (.val (.bool (decide (p = q))))) :: l) M os) K) : asemC P ops (⟨some dd, (.binOp .eql ty a b ty2), tyo, pos, af, none⟩ :: rest) (S n l M os) K := su (ap_eql (opp_q ha) (opp_q hb)) hk
theorem aneq (ha : opp n l a = some (.val (.int k p))) (hb : opp n l b = some (.val (.int k q))) : Ap P n l M os e (.binOp .neq ty a b ty2) (.val (.bool (!decide (p = q)))) := ap_neq (opp_q ha) (opp_q hb)
theorem slss (ha : opp n l a = some (.val (.int k p))) (hb : opp n l b = some (.val (.int k q))) (hk : asemC P ops rest (S n ((dd, (.val (.bool (decide (p < q))))) :: l) M os) K) : asemC P ops (⟨some dd, (.binOp .lss ty a b ty2), tyo, pos, af, none⟩ :: rest) (S n l M os) K := su (ap_lss (opp_q ha) (opp_q hb)) hk
theorem alss (ha : opp n l a = some (.val (.int k p))) (hb : opp n l b = some (.val (.int k q))) : Ap P n l M os e (.binOp .lss ty a b ty2) (.val (.bool (decide (p < q)))) := ap_lss (opp_q ha) (opp_q hb)
theorem aleq (ha : opp n l a = some (.val (.int k p))) (hb : opp n l b = some (.val (.int k q))) : Ap P n l M os e (.binOp .leq ty a b ty2) (.val (.bool (decide (p ≤ q)))) := ap_leq (opp_q ha) (opp_q hb)
theorem agtr (ha : opp n l a = some (.val (.int k p))) (hb : opp n l b = some (.val (.int k q))) : Ap P n l M os e (.binOp .gtr ty a b ty2) (.val (.bool (decide (q < p)))) := ap_gtr (opp_q ha) (opp_q hb)
theorem ageq (ha : opp n l a = some (.val (.int k p))) (hb : opp n l b = some (.val (.int k q))) : Ap P n l M os e (.binOp .geq ty a b ty2) (.val (.bool (decide (q ≤ p)))) := ap_geq (opp_q ha) (opp_q hb)
theorem seqs (ha : opp n l a = some (.val (.string s))) (hb : opp n l b = some (.val (.string u))) (hk : asemC P ops rest (S n ((dd, (.val (.bool (decide (s = u))))) :: l) M os) K) : asemC P ops (⟨some dd, (.binOp .eql ty a b ty2), tyo, pos, af, none⟩ :: rest) (S n l M os) K := su (ap_eqs (opp_q ha) (opp_q hb)) hk
theorem aeqs (ha : opp n l a = some (.val (.string s))) (hb : opp n l b = some (.val (.string u))) : Ap P n l M os e (.binOp .eql ty a b ty2) (.val (.bool (decide (s = u)))) := ap_eqs (opp_q ha) (opp_q hb)
theorem anot {p : Bool} (ha : opp n l a = some (.val (.bool p))) : Ap P n l M os e (.unOp .not ty a) (.val (.bool !p)) := ap_not (opp_q ha)
theorem aneg (ha : opp n l a = some (.val (.int k p))) (h : inr k (0 - p)) : Ap P n l M os e (.unOp .neg ty a) (.val (.int k (0 - p))) := ap_neg (opp_q ha) h
theorem sloadw [h : TIc P ty ti] (ha : opp n l a = some (.iptr (AV.cells x) 0)) (hp : part ti x.cells 0 = some x) (hk : asemC P ops rest (S n ((dd, x) :: l) M os) K) : asemC P ops (⟨some dd, (.load ty a), tyo, pos, af, none⟩ :: rest) (S n l M os) K := su (ap_load_w (opp_q ha) hp) hk
theorem aloadw [h : TIc P ty ti] (ha : opp n l a = some (.iptr (AV.cells x) 0)) (hp : part ti x.cells 0 = some x) : Ap P n l M os e (.load ty a) x := ap_load_w (opp_q ha) hp
theorem aloadi [h : TIc P ty ti] (ha : opp n l a = some (.iptr cs j)) (hp : part ti cs j = some x) : Ap P n l M os e (.load ty a) x := ap_load_i (opp_q ha) hp
theorem sloadpw {k : Nat} [h : TIc P ty ti] (ha : opp n l a = some (.ptr id k i 0)) (ho : lookq M os id = some (.arr k es)) (hi : es[i]? = some x) (hp : part ti x.cells 0 = some x) (hk : asemC P ops rest (S n ((dd, x) :: l) M os) K) : asemC P ops (⟨some dd, (.load ty a), tyo, pos, af, none⟩ :: rest) (S n l M os) K := su (ap_load_pw (opp_q ha) ho hi hp) hk
theorem aloadpw {k : Nat} [h : TIc P ty ti] (ha : opp n l a = some (.ptr id k i 0)) (ho : lookq M os id = some (.arr k es)) (hi : es[i]? = some x) (hp : part ti x.cells 0 = some x) : Ap P n l M os e (.load ty a) x := ap_load_pw (opp_q ha) ho hi hp
theorem sloadp {k : Nat} [h : TIc P ty ti] (ha : opp n l a = some (.ptr id k i j)) (ho : lookq M os id = some (.arr k es)) (hi : es[i]? = some y) (hp : part ti y.cells j = some x) (hk : asemC P ops rest (S n ((dd, x) :: l) M os) K) : asemC P ops (⟨some dd, (.load ty a), tyo, pos, af, none⟩ :: rest) (S n l M os) K := su (ap_load_p (opp_q ha) ho hi hp) hk
theorem rloadp {k : Nat} [h : TIc P ty ti] (ha : opp n l a = some (.ptr id k i j)) (ho : lookq M os id = some (.arr k es)) (hi : es[i]? = some y) (hp : part ti y.cells j = some x) (hk : RunD P ops N (i0 + 1) rest (S n ((dd, x) :: l) M os) (rs ++ [⟨some dd, [], topq n l (Op.operands (.load ty a)).toList⟩]) KD) : RunD P ops N i0 (⟨some dd, (.load ty a), tyo, pos, af, none⟩ :: rest) (S n l M os) rs KD := rd_u (by first | (simp [Op.operands, plainq, opp_o ha, opp_p ha]; done) | simp [Op.operands, plainq, AV.plain, opp_o ha]) rfl (ap_load_p (opp_q ha) ho hi hp) hk
theorem gloadp {k : Nat} (ht : (ops[jg]?).bind (·.dst) = some tg) (hg : opq n l (.tmp tg) = some (.val (.bool want))) [h : TIc P ty ti] (ha : opp n l a = some (.ptr id k i j)) (ho : lookq M os id = some (.arr k es)) (hi : es[i]? = some y) (hp : part ti y.cells j = some x) (hk : RunD P ops N (i0 + 1) rest (S n ((dd, x) :: l) M os) (rs ++ [⟨some dd, [], topq n l (Op.operands (.load ty a)).toList⟩]) KD) : RunD P ops N i0 (⟨some dd, (.load ty a), tyo, pos, af, some (jg, want)⟩ :: rest) (S n l M os) rs KD := rdg_u ht hg (by first | (simp [Op.operands, plainq, opp_o ha, opp_p ha]; done) | simp [Op.operands, plainq, AV.plain, opp_o ha]) rfl (ap_load_p (opp_q ha) ho hi hp) hk
theorem aloadpt {k : Nat} {α : Type} [Inhabited α] {f : α → AV} {L : List α} [h : TIc P ty ti] (ha : opp n l a = some (.ptr id k i 0)) (ho : lookq M os id = some (.arr k (L.map f))) (hi : i < L.length) (hp : part ti (f (nth L i)).cells 0 = some (f (nth L i))) : Ap P n l M os e (.load ty a) (f (nth L i)) := ap_load_pt (opp_q ha) ho hi hp
theorem sfieldp {k : Nat} [h : TIc P ty ti] {f : Nat} (ha : opp n l a = some (.ptr id k i j)) (hf : ti.fields[f]? = some (off, sz)) (hs : Nat.beq sz 0 = false) (hk : asemC P ops rest (S n ((dd, (.ptr id k i (j + off))) :: l) M os) K) : asemC P ops (⟨some dd, (.fieldAddr ty a f), tyo, pos, af, none⟩ :: rest) (S n l M os) K := su (ap_field_p (opp_q ha) hf hs) hk
theorem rfieldp {k : Nat} [h : TIc P ty ti] {f : Nat} (ha : opp n l a = some (.ptr id k i j)) (hf : ti.fields[f]? = some (off, sz)) (hs : Nat.beq sz 0 = false) (hk : RunD P ops N (i0 + 1) rest (S n ((dd, (.ptr id k i (j + off))) :: l) M os) (rs ++ [⟨some dd, [], topq n l (Op.operands (.fieldAddr ty a f)).toList⟩]) KD) : RunD P ops N i0 (⟨some dd, (.fieldAddr ty a f), tyo, pos, af, none⟩ :: rest) (S n l M os) rs KD := rd_u (by first | (simp [Op.operands, plainq, opp_o ha, opp_p ha]; done) | simp [Op.operands, plainq, AV.plain, opp_o ha]) rfl (ap_field_p (opp_q ha) hf hs) hk
theorem gfieldp {k : Nat} (ht : (ops[jg]?).bind (·.dst) = some tg) (hg : opq n l (.tmp tg) = some (.val (.bool want))) [h : TIc P ty ti] {f : Nat} (ha : opp n l a = some (.ptr id k i j)) (hf : ti.fields[f]? = some (off, sz)) (hs : Nat.beq sz 0 = false) (hk : RunD P ops N (i0 + 1) rest (S n ((dd, (.ptr id k i (j + off))) :: l) M os) (rs ++ [⟨some dd, [], topq n l (Op.operands (.fieldAddr ty a f)).toList⟩]) KD) : RunD P ops N i0 (⟨some dd, (.fieldAddr ty a f), tyo, pos, af, some (jg, want)⟩ :: rest) (S n l M os) rs KD := rdg_u ht hg (by first | (simp [Op.operands, plainq, opp_o ha, opp_p ha]; done) | simp [Op.operands, plainq, AV.plain, opp_o ha]) rfl (ap_field_p (opp_q ha) hf hs) hk
theorem afieldi [h : TIc P ty ti] {f : Nat} (ha : opp n l a = some (.iptr cs j)) (hf : ti.fields[f]? = some (off, sz)) (hs : Nat.beq sz 0 = false) : Ap P n l M os e (.fieldAddr ty a f) (.iptr cs (j + off)) := ap_field_i (opp_q ha) hf hs
theorem sidxn {k : Nat} {α : Type} [Inhabited α] {f : α → AV} {L : List α} {kk : IntKind} {i : Nat} {bt : Nat} [h : TEl P ty te k bt] (ha : opp n l a = some (.sl k (L.map f))) (hb : opp n l b = some (.val (.int kk (i : Int)))) (hi : i < L.length) (hk : asemC P ops rest (S n ((dd, (.iptr (AV.cells (f (nth L i))) 0)) :: l) M os) K) : asemC P ops (⟨some dd, (.indexAddr ty a b), tyo, pos, af, none⟩ :: rest) (S n l M os) K := su (ap_idx_n (opp_q ha) (opp_q hb) hi) hk
theorem aidxn {k : Nat} {α : Type} [Inhabited α] {f : α → AV} {L : List α} {kk : IntKind} {i : Nat} {bt : Nat} [h : TEl P ty te k bt] (ha : opp n l a = some (.sl k (L.map f))) (hb : opp n l b = some (.val (.int kk (i : Int)))) (hi : i < L.length) : Ap P n l M os e (.indexAddr ty a b) (.iptr (AV.cells (f (nth L i))) 0) := ap_idx_n (opp_q ha) (opp_q hb) hi
theorem aidxz {k : Nat} {α : Type} [Inhabited α] {f : α → AV} {L : List α} {kk : IntKind} {i : Int} {bt : Nat} [h : TEl P ty te k bt] (ha : opp n l a = some (.sl k (L.map f))) (hb : opp n l b = some (.val (.int kk i))) (hi : 0 ≤ i ∧ i < L.length) : Ap P n l M os e (.indexAddr ty a b) (.iptr (AV.cells (f (nth L i.toNat))) 0) := ap_idx_z (opp_q ha) (opp_q hb) hi
theorem aidxrn {k : Nat} {kk : IntKind} {i : Nat} {bt : Nat} [h : TEl P ty te k bt] (ha : opp n l a = some (.ref id k 0 len)) (hb : opp n l b = some (.val (.int kk (i : Int)))) (hi : i < len) : Ap P n l M os e (.indexAddr ty a b) (.ptr id k i 0) := ap_idxr_n (opp_q ha) (opp_q hb) hi
theorem aidxrz {k : Nat} {kk : IntKind} {i : Int} {bt : Nat} [h : TEl P ty te k bt] (ha : opp n l a = some (.ref id k 0 len)) (hb : opp n l b = some (.val (.int kk i))) (hi : 0 ≤ i ∧ i < len) : Ap P n l M os e (.indexAddr ty a b) (.ptr id k i.toNat 0) := ap_idxr_z (opp_q ha) (opp_q hb) hi
theorem asidxn {s : ByteArray} {kk : IntKind} {i : Nat} [h : TIc P ty ti] (ha : opp n l a = some (.val (.string s))) (hb : opp n l b = some (.val (.int kk (i : Int)))) (hs : ti.sh = .string) (hi : i < s.size) : Ap P n l M os e (.index ty a b) (.val (.int .u8 (bAt s i))) := ap_sidx_n (opp_q ha) (opp_q hb) hs hi
theorem slenm {k : Nat} {α : Type} {f : α → AV} {L : List α} [h : TIc P ty ti] (hs : ti.sh = .slice) (ha : opp n l a = some (.sl k (L.map f))) (hk : asemC P ops rest (S n ((dd, (.val (.int .i64 (L.length : Int)))) :: l) M os) K) : asemC P ops (⟨some dd, (.call ⟨.builtin .len, #[a], #[ty]⟩), tyo, pos, af, none⟩ :: rest) (S n l M os) K := su (ap_len_m hs (opp_q ha)) hk
theorem alenm {k : Nat} {α : Type} {f : α → AV} {L : List α} [h : TIc P ty ti] (hs : ti.sh = .slice) (ha : opp n l a = some (.sl k (L.map f))) : Ap P n l M os e (.call ⟨.builtin .len, #[a], #[ty]⟩) (.val (.int .i64 (L.length : Int))) := ap_len_m hs (opp_q ha)
theorem alenr {k : Nat} [h : TIc P ty ti] (hs : ti.sh = .slice) (ha : opp n l a = some (.ref id k off len)) : Ap P n l M os e (.call ⟨.builtin .len, #[a], #[ty]⟩) (.val (.int .i64 (len : Int))) := ap_len_r hs (opp_q ha)
theorem alenstr {s : ByteArray} [h : TIc P ty ti] (hs : ti.sh = .string) (ha : opp n l a = some (.val (.string s))) : Ap P n l M os e (.call ⟨.builtin .len, #[a], #[ty]⟩) (.val (.int .i64 (s.size : Int))) := ap_len_str hs (opp_q ha)
theorem aextract {vs : List AV} (ha : opp n l a = some (.tup vs)) (hi : vs[i]? = some x) : Ap P n l M os e (.extract a i) x := ap_extract (opp_q ha) hi
end
end
section
variable {P : Program} {n M : Nat} {l : List (Nat × AV)} {os : List (Nat × Option AObj)} {e : List Bool} {op : Op} {d : Tmp} {ty : TypeId} {pos : String} {af : Array Edge} {ops : Array Oper} {rest : List Oper} {K : St → Prop} {j : Nat} {want : Bool}
end
end Go.Lg

namespace Go.Lg
def jA := @WP.seq
end Go.Lg

namespace Go.Lg
def jF := @WP.block
end Go.Lg

namespace Go.Lg
def jH := @go_n
end Go.Lg

namespace Go.Lg
def jI := @WP.skip
end Go.Lg

namespace Go.Lg
def jJ := @WP.exit
end Go.Lg

namespace Go.Lg
def jK := @WP.ret
end Go.Lg

namespace Go.Lg
def jL := @go_x
end Go.Lg

namespace Go.Lg
def jM := @go_r
end Go.Lg

namespace Go.Lg
def jN := @bl_n
end Go.Lg

namespace Go.Lg
def jO := @bl_r
end Go.Lg

namespace Go.Lg
def jP := @bl_x
end Go.Lg

namespace Go.Lg
def jS := @bo_r
end Go.Lg

namespace Go.Lg
def jW := @asemC_end
end Go.Lg

namespace Go.Lg
open Go.Proofs
set_option linter.unusedSimpArgs false
set_option linter.unusedVariables false
attribute [local irreducible] Ap Rq asemC WP RunD Ret Gq thenA inBlockA bodyQ noGotoA RqL RqP OpP
set_option maxHeartbeats 1000000
def nameCh (s : ByteArray) (i : Nat) : Bool := letB (bAt s i) || (!decide (i = 0) && (digB (bAt s i) || decide (bAt s i = 95) || decide (bAt s i = 46) || decide (bAt s i = 64)))
def nameOk (s : ByteArray) : Bool := decide (1 ≤ s.size) && decide (s.size ≤ 48) && (List.range s.size).all (nameCh s)
theorem name18_fn (x : ByteArray) : Fn Try.prog 79 [strA x] (boolA (nameOk x)) := by
  refine Fn.intro rfl (by kernel_rfl) Try.func79 rfl rfl Try.ntmps79 (by exact Nat.le_of_ble_eq_true rfl) ?_; intro Γ hm
  (repeat' (first | apply jA | apply jF | apply jH | apply jI | apply jK | apply jM | apply jS | (refine wp_cond rfl (fun hc => ?_) (fun hc => ?_) <;> (try simp only [sB, ne_eq, reduceCtorEq] at hc) <;> (try (exfalso; omega))) | (refine WP.regionC ?_; (refine sassign rfl ?_); apply jW) | (refine WP.regionC (id := 1) ?_; (refine smove rfl ?_); (refine su (alenstr rfl rfl) ?_); (refine slss rfl rfl ?_); (refine smove rfl ?_); (refine sg (gq_vf rfl rfl) (fun he => ap_move (rq_p rfl rfl)) ?_); (refine sg (gq_vf rfl rfl) (fun he => ap_len_str rfl (rq_c rfl rfl)) ?_); (refine sg (gq_vf rfl rfl) (fun he => ap_gtr (rq_c rfl rfl) (rq_p rfl rfl)) ?_); (refine su (ap_or (rq_p rfl rfl) (rq_c rfl rfl)) ?_); apply jW) | refine ret_b rfl ?_))
  · simp [nameOk]; omega
  refine wp_loop (fun k => k ≤ x.size ∧ (List.range k).all (nameCh x) = true) (fun k => x.size - k) (fun k => (S 64 [(0, strA x), (3, intA (k : Nat))] 0 [])) 0 ⟨[], ToR.S rfl (by repeat' (first | exact rt_nil | refine rt_e rfl rfl ?_)) (by repeat' (exact ro_nil)) rfl (by (rw [hm]; exact rfl)) rfl (by (simp [bdT, AV.bd, bdL, bdL_append]; done)) (by repeat' (exact True.intro)) (by (rw [hm]; exact Nat.le_of_ble_eq_true rfl))⟩ ⟨Nat.zero_le _, rfl⟩ ?_
  rintro k ⟨hk, hall⟩
  have hb := bAt_bd x k
  (repeat' (first | apply jA | apply jF | apply jH | apply jI | apply jJ | apply jK | apply jL | apply jM | apply jN | apply jO | apply jP | apply jS | (refine wp_cond rfl (fun hc => ?_) (fun hc => ?_) <;> (try simp only [sB, ne_eq, reduceCtorEq] at hc) <;> (try (exfalso; omega))) | (refine WP.regionC (id := 4) ?_; (refine smove rfl ?_); (refine smove rfl ?_); (refine su (alenstr rfl rfl) ?_); (refine slss rfl rfl ?_); apply jW) | (refine WP.regionC (id := 6) ?_; (refine smove rfl ?_); (refine smove rfl ?_); (refine su (asidxn rfl rfl rfl (by omega)) ?_); (refine sassign rfl ?_); apply jW) | (refine WP.regionC (id := 7) ?_; (refine smove rfl ?_); (refine su (ageq rfl rfl) ?_); (refine smove rfl ?_); (refine sg (gq_vt rfl rfl) (fun he => ap_move (rq_p rfl rfl)) ?_); (refine sg (gq_vt rfl rfl) (fun he => ap_leq (rq_c rfl rfl) (rq_p rfl rfl)) ?_); (refine su (ap_and (rq_p rfl rfl) (rq_c rfl rfl)) ?_); (refine smove rfl ?_); (refine sg (gq_vf rfl rfl) (fun he => ap_move (rq_p rfl rfl)) ?_); (refine sg (gq_vf rfl rfl) (fun he => ap_geq (rq_c rfl rfl) (rq_p rfl rfl)) ?_); (refine sg (gq_vf rfl rfl) (fun he => ap_move (rq_c rfl rfl)) ?_); (refine sg (gq_ct rfl rfl) (fun he => ap_move (rq_p rfl rfl)) ?_); (refine sg (gq_ct rfl rfl) (fun he => ap_leq (rq_c rfl rfl) (rq_p rfl rfl)) ?_); (refine sg (gq_vf rfl rfl) (fun he => ap_and (rq_c rfl rfl) (rq_c rfl rfl)) ?_); (refine su (ap_or (rq_p rfl rfl) (rq_c rfl rfl)) ?_); (refine sassign rfl ?_); apply jW) | (refine WP.regionC (id := 8) ?_; (refine smove rfl ?_); (refine su (anot rfl) ?_); (refine smove rfl ?_); (refine sg (gq_vt rfl rfl) (fun he => ap_move (rq_p rfl rfl)) ?_); (refine sg (gq_vt rfl rfl) (fun he => ap_eql (rq_c rfl rfl) (rq_p rfl rfl)) ?_); (refine sg (gq_vt rfl rfl) (fun he => ap_move (rq_c rfl rfl)) ?_); (refine sg (gq_cf rfl rfl) (fun he => ap_move (rq_p rfl rfl)) ?_); (refine sg (gq_cf rfl rfl) (fun he => ap_geq (rq_c rfl rfl) (rq_p rfl rfl)) ?_); (refine sg (gq_cf rfl rfl) (fun he => ap_move (rq_c rfl rfl)) ?_); (refine sg (gq_ct rfl rfl) (fun he => ap_move (rq_p rfl rfl)) ?_); (refine sg (gq_ct rfl rfl) (fun he => ap_leq (rq_c rfl rfl) (rq_p rfl rfl)) ?_); (refine sg (gq_cf rfl rfl) (fun he => ap_and (rq_c rfl rfl) (rq_c rfl rfl)) ?_); (refine sg (gq_cf rfl rfl) (fun he => ap_move (rq_c rfl rfl)) ?_); (refine sg (gq_cf rfl rfl) (fun he => ap_move (rq_p rfl rfl)) ?_); (refine sg (gq_cf rfl rfl) (fun he => ap_eql (rq_c rfl rfl) (rq_p rfl rfl)) ?_); (refine sg (gq_cf rfl rfl) (fun he => ap_or (rq_c rfl rfl) (rq_c rfl rfl)) ?_); (refine sg (gq_cf rfl rfl) (fun he => ap_move (rq_c rfl rfl)) ?_); (refine sg (gq_cf rfl rfl) (fun he => ap_move (rq_p rfl rfl)) ?_); (refine sg (gq_cf rfl rfl) (fun he => ap_eql (rq_c rfl rfl) (rq_p rfl rfl)) ?_); (refine sg (gq_cf rfl rfl) (fun he => ap_or (rq_c rfl rfl) (rq_c rfl rfl)) ?_); (refine sg (gq_cf rfl rfl) (fun he => ap_move (rq_c rfl rfl)) ?_); (refine sg (gq_cf rfl rfl) (fun he => ap_move (rq_p rfl rfl)) ?_); (refine sg (gq_cf rfl rfl) (fun he => ap_eql (rq_c rfl rfl) (rq_p rfl rfl)) ?_); (refine sg (gq_cf rfl rfl) (fun he => ap_or (rq_c rfl rfl) (rq_c rfl rfl)) ?_); (refine sg (gq_cf rfl rfl) (fun he => ap_not (rq_c rfl rfl)) ?_); (refine sg (gq_vt rfl rfl) (fun he => ap_or (rq_c rfl rfl) (rq_c rfl rfl)) ?_); (refine su (ap_and (rq_p rfl rfl) (rq_c rfl rfl)) ?_); apply jW) | (refine WP.regionC ?_; (refine sassign rfl ?_); apply jW) | (refine WP.regionC (id := 5) ?_; (refine smove rfl ?_); (refine sadd rfl rfl (by exact inr_i64_of (by omega)) ?_); (refine sassign rfl ?_); apply jW) | refine ret_b rfl ?_))
  · rw [show nameOk x = false by simp only [nameOk]; rw [range_all_no (k := k) (by omega), Bool.and_false]; simp [nameCh, letB, digB]; omega]
  · refine ⟨k + 1, ⟨by omega, by omega, range_all_succ hall ?_⟩, ⟨[], ToR.S rfl (by repeat' (first | exact rt_nil | refine rt_e rfl rfl ?_)) (by repeat' (exact ro_nil)) rfl (by (rw [hm]; exact rfl)) rfl (by (simp [bdT, AV.bd, bdL, bdL_append]; done)) (by repeat' (exact True.intro)) (by (rw [hm]; exact Nat.le_of_ble_eq_true rfl))⟩⟩
    simp [nameCh, letB, digB]; omega
  have : k = x.size := by omega
  subst this
  simp only [nameOk, hall]; simp; omega
end Go.Lg

namespace Go.Lg
open Go.Proofs
set_option linter.unusedSimpArgs false
set_option linter.unusedVariables false
attribute [local irreducible] Ap Rq asemC WP RunD Ret Gq thenA inBlockA bodyQ noGotoA RqL RqP OpP
set_option maxHeartbeats 1000000
def namesOk (l : List ByteArray) : Bool := l.all nameOk && decide l.Nodup
theorem names_fn (a b : List ByteArray) (ha : a.length ≤ 1048576) (hb : b.length ≤ 1048576) : Fn Try.prog 67 [strsA a, strsA b] (boolA (namesOk (a ++ b))) := by
  refine Fn.intro rfl (by kernel_rfl) Try.func67 rfl rfl Try.ntmps67 (by exact Nat.le_of_ble_eq_true rfl) ?_; intro Γ hm
  have hab : (a ++ b).length = a.length + b.length := List.length_append
  (repeat' (first | apply jA | apply jF | apply jH | (refine WP.regionC ?_; (refine sassign rfl ?_); apply jW) | (refine WP.regionC (id := 2) ?_; (refine smove rfl ?_); (refine smove rfl ?_); (refine se_appNL rfl rfl rfl rfl rfl (by omega) ?_); (refine sassign rfl ?_); apply jW) | (refine WP.regionC (id := 3) ?_; (refine smove rfl ?_); (refine smove rfl ?_); (refine se_appL rfl rfl rfl rfl rfl rfl rfl (by omega) ?_); (refine sassign rfl ?_); apply jW)))
  refine wp_loop (fun i => i ≤ (a ++ b).length ∧ ∀ j, j < i → nameOk (nth (a ++ b) j) = true ∧ ∀ k, k < j → nth (a ++ b) k ≠ nth (a ++ b) j) (fun i => (a ++ b).length - i)
    (fun i => (S 40 [(5, .ref 0 1 0 (a ++ b).length), (6, intA (i : Nat))] 1 [(0, some (.arr 1 ((a ++ b).map strA)))])) 0 ⟨[1], ToR.S rfl (by repeat' (first | exact rt_nil | refine rt_r rfl rfl ?_ | refine rt_e rfl rfl ?_)) (by repeat' (first | exact ro_nil | refine ro_p rfl (by first | exact rfl | fail) (by first | exact bdL_map (fun _ => by exact rfl) _ | fail) ?_)) rfl (by (rw [hm]; exact rfl)) rfl (by (simp [bdT, AV.bd, bdL, bdL_append]; done)) (by repeat' (first | exact True.intro | refine And.intro ?_ ?_ | exact bdL_map (fun _ => by exact rfl) _)) (by (rw [hm]; exact Nat.le_of_ble_eq_true rfl))⟩ ⟨Nat.zero_le _, by simp⟩ ?_
  rintro i ⟨hi, hall⟩
  (repeat' (first | apply jA | apply jF | apply jH | apply jI | apply jJ | apply jK | apply jL | apply jM | apply jO | apply jP | apply jS | (refine wp_cond rfl (fun hc => ?_) (fun hc => ?_) <;> (try simp only [sB, ne_eq, reduceCtorEq] at hc) <;> (try (exfalso; omega))) | (refine WP.regionC (id := 5) ?_; (refine smove rfl ?_); (refine smove rfl ?_); (refine su (alenr rfl rfl) ?_); (refine slss rfl rfl ?_); apply jW) | (refine WP.regionC (id := 7) ?_; (refine smove rfl ?_); (refine smove rfl ?_); (refine su (aidxrn rfl rfl (by omega)) ?_); (refine su (aloadpt rfl rfl (by omega) rfl) ?_); (refine sc_p rfl rfl (by first | ((repeat' first | exact SubL.nil | refine SubL.cons ?_ ?_ | exact Sub.refl); done) | fail) (by first | (simp [bdL, bdL_append, AV.bd]; done) | fail) (name18_fn _) ?_); (refine su (anot rfl) ?_); apply jW) | (refine WP.regionC ?_; (refine sassign rfl ?_); apply jW) | refine ret_b rfl ?_))
  · simp only [namesOk, all_nth_no (l := a ++ b) (k := i) (by omega) hc, Bool.false_and]
  · have hn : nameOk (nth (a ++ b) i) = true := by assumption
    refine wp_loop (fun k => k ≤ i ∧ ∀ j, j < k → nth (a ++ b) j ≠ nth (a ++ b) i) (fun k => i - k)
      (fun k => (S 40 [(5, .ref 0 1 0 (a ++ b).length), (6, intA (i : Nat)), (7, intA (k : Nat))] 1 [(0, some (.arr 1 ((a ++ b).map strA)))])) 0 ⟨[0], ToR.S rfl (by repeat' (first | exact rt_nil | refine rt_r rfl rfl ?_ | refine rt_e rfl rfl ?_)) (by repeat' (first | exact ro_nil | refine ro_p rfl (by first | exact rfl | fail) (by first | exact bdL_map (fun _ => by exact rfl) _ | fail) ?_)) rfl (by (rw [hm]; exact rfl)) rfl (by (simp [bdT, AV.bd, bdL, bdL_append]; done)) (by repeat' (first | exact True.intro | refine And.intro ?_ ?_ | exact bdL_map (fun _ => by exact rfl) _)) (by (rw [hm]; exact Nat.le_of_ble_eq_true rfl))⟩ ⟨Nat.zero_le _, by simp⟩ ?_
    rintro k ⟨hk, hne⟩
    (repeat' (first | apply jA | apply jF | apply jH | apply jI | apply jJ | apply jK | apply jL | apply jM | apply jN | apply jO | apply jP | apply jS | (refine wp_cond rfl (fun hc => ?_) (fun hc => ?_) <;> (try simp only [sB, ne_eq, reduceCtorEq] at hc) <;> (try (exfalso; omega))) | (refine WP.regionC (id := 10) ?_; (refine smove rfl ?_); (refine smove rfl ?_); (refine slss rfl rfl ?_); apply jW) | (refine wp_draw (id := 12) 9 mixed (by kernel_rfl) (by kernel_rfl) rfl ?_ <;> (refine rmove rfl ?_) <;> (refine rmove rfl ?_) <;> (refine rd_u rfl rfl (aidxrn rfl rfl (by omega)) ?_) <;> (refine rd_u rfl rfl (aloadpt rfl rfl (by omega) rfl) ?_) <;> (refine rmove rfl ?_) <;> (refine rmove rfl ?_) <;> (refine rd_u rfl rfl (aidxrn rfl rfl (by omega)) ?_) <;> (refine rd_u rfl rfl (aloadpt rfl rfl (by omega) rfl) ?_) <;> (refine rd_u rfl rfl (aeqs rfl rfl) ?_) <;> (refine rd_end (by kernel_rfl) ?_)) | (refine WP.regionC (id := 13) ?_; (refine sassign rfl ?_); apply jW) | (refine WP.regionC ?_; (refine smove rfl ?_); (refine sadd rfl rfl (by exact inr_i64_of (by omega)) ?_); (refine sassign rfl ?_); apply jW) | refine ret_b rfl ?_))
    · simp only [namesOk, decide_eq_false (not_nodup (l := a ++ b) (j := i) (k := k) (by omega) (by omega) hc), Bool.and_false]
    · refine ⟨k + 1, ⟨by omega, by omega, fun j hj => ?_⟩, ⟨[0], ToR.S rfl (by repeat' (first | exact rt_nil | refine rt_r rfl rfl ?_ | refine rt_e rfl rfl ?_)) (by repeat' (first | exact ro_nil | refine ro_p rfl (by first | exact rfl | fail) (by first | exact bdL_map (fun _ => by exact rfl) _ | fail) ?_)) rfl (by (rw [hm]; exact rfl)) rfl (by (simp [bdT, AV.bd, bdL, bdL_append]; done)) (by repeat' (first | exact True.intro | refine And.intro ?_ ?_ | exact bdL_map (fun _ => by exact rfl) _)) (by (rw [hm]; exact Nat.le_of_ble_eq_true rfl))⟩⟩
      by_cases h : j = k
      · subst h; exact hc
      · exact hne j (by omega)
    · refine ⟨i + 1, ⟨by omega, by omega, fun j hj => ?_⟩, ⟨[0], ToR.S rfl (by repeat' (first | exact rt_nil | refine rt_r rfl rfl ?_ | refine rt_e rfl rfl ?_)) (by repeat' (first | exact ro_nil | refine ro_p rfl (by first | exact rfl | fail) (by first | exact bdL_map (fun _ => by exact rfl) _ | fail) ?_)) rfl (by (rw [hm]; exact rfl)) rfl (by (simp [bdT, AV.bd, bdL, bdL_append]; done)) (by repeat' (first | exact True.intro | refine And.intro ?_ ?_ | exact bdL_map (fun _ => by exact rfl) _)) (by (rw [hm]; exact Nat.le_of_ble_eq_true rfl))⟩⟩
      by_cases h : j = i
      · subst h; exact ⟨hn, fun k' hk' => hne k' (by omega)⟩
      · exact hall j (by omega)
  have : i = (a ++ b).length := by omega
  subst this
  simp only [namesOk, all_of_nth fun j hj => (hall j hj).1, decide_eq_true (nodup_nth fun j hj => (hall j hj).2), Bool.and_true]
end Go.Lg

namespace Go.Lg
open Go.Proofs
set_option linter.unusedSimpArgs false
set_option linter.unusedVariables false
attribute [local irreducible] Ap Rq asemC WP RunD Ret Gq thenA inBlockA bodyQ noGotoA RqL RqP OpP
set_option maxHeartbeats 1000000
end Go.Lg

namespace Go.Lg
open Go.Proofs
set_option linter.unusedSimpArgs false
set_option linter.unusedVariables false
attribute [local irreducible] Ap Rq asemC WP RunD Ret Gq thenA inBlockA bodyQ noGotoA RqL RqP OpP
set_option maxHeartbeats 4000000
def symOk (g : Gram) (x : Int) : Bool := decide (x < g.terms.length) && decide (-(g.nonterms.length : Int) ≤ x)
def ruleOk (g : Gram) (r : Rul) : Bool := decide (0 ≤ r.head) && decide (r.head < g.nonterms.length) && decide (r.body.length ≤ 12) && decide (0 ≤ r.price) && decide (r.price ≤ 1000) && r.body.all (symOk g)
def validG (g : Gram) : Bool := decide (g.terms.length ≤ 120) && decide (1 ≤ g.nonterms.length) && decide (g.nonterms.length ≤ 120) && decide (1 ≤ g.rules.length) && decide (g.rules.length ≤ 120) && decide (0 ≤ g.start) && decide (g.start < g.nonterms.length) && namesOk (g.terms ++ g.nonterms) && g.rules.all (ruleOk g)
theorem validG_no {g : Gram} {i : Nat} (hi : i < g.rules.length) (h : ruleOk g (nth g.rules i) = false) : validG g = false := by
  simp only [validG, all_nth_no (l := g.rules) (f := ruleOk g) hi h, Bool.and_false]
theorem ruleOk_no {g : Gram} {r : Rul} {k : Nat} (hk : k < r.body.length) (h : symOk g (nth r.body k) = false) : ruleOk g r = false := by
  simp only [ruleOk, all_nth_no (l := r.body) (f := symOk g) hk h, Bool.and_false]
theorem rvalid18_fn (g : Gram) : Fn Try.prog 42 [gramA g] (boolA (validG g)) := by
  refine Fn.intro rfl (by kernel_rfl) Try.func42 rfl rfl Try.ntmps42 (by exact Nat.le_of_ble_eq_true rfl) ?_; intro Γ hm
  refine wp_lens 0 rfl fun hl => ?_
  obtain ⟨hl1, hl2, hl3, hl4⟩ := (lens_gramA g).1 hl
  (repeat' (first | apply jA | apply jF | apply jH | apply jI | apply jK | apply jM | apply jS | (refine wp_cond rfl (fun hc => ?_) (fun hc => ?_) <;> (try simp only [sB, ne_eq, reduceCtorEq] at hc) <;> (try (exfalso; omega))) | (refine WP.regionC (id := 0) ?_; (refine se_box rfl (by exact ⟨rfl, rfl⟩) ?_); (refine sassign rfl ?_); apply jW) | (refine WP.regionC (id := 1) ?_; (refine sfieldp rfl rfl rfl ?_); (refine sloadp rfl rfl rfl rfl ?_); (refine slenm rfl rfl ?_); (refine su (agtr rfl rfl) ?_); (refine smove rfl ?_); (refine sg (gq_vf rfl rfl) (fun he => ap_field_p (rq_p rfl rfl) rfl rfl) ?_); (refine sg (gq_vf rfl rfl) (fun he => ap_load_p (rq_c rfl rfl) rfl rfl rfl) ?_); (refine sg (gq_vf rfl rfl) (fun he => ap_len_m rfl (rq_c rfl rfl)) ?_); (refine sg (gq_vf rfl rfl) (fun he => ap_lss (rq_c rfl rfl) (rq_p rfl rfl)) ?_); (refine su (ap_or (rq_p rfl rfl) (rq_c rfl rfl)) ?_); (refine smove rfl ?_); (refine sg (gq_vf rfl rfl) (fun he => ap_field_p (rq_p rfl rfl) rfl rfl) ?_); (refine sg (gq_vf rfl rfl) (fun he => ap_load_p (rq_c rfl rfl) rfl rfl rfl) ?_); (refine sg (gq_vf rfl rfl) (fun he => ap_len_m rfl (rq_c rfl rfl)) ?_); (refine sg (gq_vf rfl rfl) (fun he => ap_gtr (rq_c rfl rfl) (rq_p rfl rfl)) ?_); (refine su (ap_or (rq_p rfl rfl) (rq_c rfl rfl)) ?_); (refine smove rfl ?_); (refine sg (gq_vf rfl rfl) (fun he => ap_field_p (rq_p rfl rfl) rfl rfl) ?_); (refine sg (gq_vf rfl rfl) (fun he => ap_load_p (rq_c rfl rfl) rfl rfl rfl) ?_); (refine sg (gq_vf rfl rfl) (fun he => ap_len_m rfl (rq_c rfl rfl)) ?_); (refine sg (gq_vf rfl rfl) (fun he => ap_lss (rq_c rfl rfl) (rq_p rfl rfl)) ?_); (refine su (ap_or (rq_p rfl rfl) (rq_c rfl rfl)) ?_); (refine smove rfl ?_); (refine sg (gq_vf rfl rfl) (fun he => ap_field_p (rq_p rfl rfl) rfl rfl) ?_); (refine sg (gq_vf rfl rfl) (fun he => ap_load_p (rq_c rfl rfl) rfl rfl rfl) ?_); (refine sg (gq_vf rfl rfl) (fun he => ap_len_m rfl (rq_c rfl rfl)) ?_); (refine sg (gq_vf rfl rfl) (fun he => ap_gtr (rq_c rfl rfl) (rq_p rfl rfl)) ?_); (refine su (ap_or (rq_p rfl rfl) (rq_c rfl rfl)) ?_); apply jW) | (refine WP.regionC ?_; (refine sassign rfl ?_); apply jW) | (refine WP.regionC (id := 3) ?_; (refine sfieldp rfl rfl rfl ?_); (refine sloadp rfl rfl rfl rfl ?_); (refine slss rfl rfl ?_); (refine smove rfl ?_); (refine sg (gq_vf rfl rfl) (fun he => ap_field_p (rq_p rfl rfl) rfl rfl) ?_); (refine sg (gq_vf rfl rfl) (fun he => ap_load_p (rq_c rfl rfl) rfl rfl rfl) ?_); (refine sg (gq_vf rfl rfl) (fun he => ap_field_p (rq_p rfl rfl) rfl rfl) ?_); (refine sg (gq_vf rfl rfl) (fun he => ap_load_p (rq_c rfl rfl) rfl rfl rfl) ?_); (refine sg (gq_vf rfl rfl) (fun he => ap_len_m rfl (rq_c rfl rfl)) ?_); (refine sg (gq_vf rfl rfl) (fun he => ap_geq (rq_c rfl rfl) (rq_c rfl rfl)) ?_); (refine su (ap_or (rq_p rfl rfl) (rq_c rfl rfl)) ?_); (refine smove rfl ?_); (refine sg (gq_vf rfl rfl) (fun he => ap_field_p (rq_p rfl rfl) rfl rfl) ?_); (refine sg (gq_vf rfl rfl) (fun he => ap_load_p (rq_c rfl rfl) rfl rfl rfl) ?_); (refine sg (gq_vf rfl rfl) (fun he => ap_field_p (rq_p rfl rfl) rfl rfl) ?_); (refine sg (gq_vf rfl rfl) (fun he => ap_load_p (rq_c rfl rfl) rfl rfl rfl) ?_); (refine sg_b (gq_vf rfl rfl) (fun he => ⟨(rq_p rfl rfl), (RqL.cons (rq_c rfl rfl) (RqL.cons (rq_c rfl rfl) (RqL.nil))), (by first | ((repeat' first | exact FzL.nil | refine FzL.cons ?_ ?_ | (exact Fz.reflp (by simp [AV.bd, bdL, bdL_append]))); done) | fail), names_fn _ _ (by (try simp only [sH, id, sB, ne_eq, reduceCtorEq] at he); omega) (by (try simp only [sH, id, sB, ne_eq, reduceCtorEq] at he); omega), rfl⟩) ?_); (refine sg (gq_vf rfl rfl) (fun he => ap_not (rq_c rfl rfl)) ?_); (refine su (ap_or (rq_p rfl rfl) (rq_c rfl rfl)) ?_); apply jW) | refine ret_b rfl ?_))
  · simp [validG]; omega
  · rcases hc with hc | hc
    · simp [validG]; omega
    · simp [validG, hc]
  have hns : namesOk (g.terms ++ g.nonterms) = true := hc.2
  refine wp_loop (fun i => i ≤ g.rules.length ∧ (g.rules.take i).all (ruleOk g) = true) (fun i => g.rules.length - i)
    (fun i => (S 120 [(1, .ptr 0 4 0 0), (3, intA (i : Nat))] 1 [(0, some (.arr 4 [gramA g]))])) 0 ⟨[0], ToR.S rfl (by repeat' (first | exact rt_nil | refine rt_t rfl rfl ?_ | refine rt_e rfl rfl ?_)) (by repeat' (first | exact ro_nil | refine ro_p rfl (by first | exact rfl | fail) (by first | (simp [bdL, bdL_append, AV.bd]; done) | fail) ?_)) rfl (by (rw [hm]; exact rfl)) rfl (by (simp [bdT, AV.bd, bdL, bdL_append]; done)) (by repeat' (first | exact True.intro | refine And.intro ?_ ?_ | (simp [bdOq, bdL, bdL_append, AV.bd]; done))) (by (rw [hm]; exact Nat.le_of_ble_eq_true rfl))⟩ ⟨Nat.zero_le _, rfl⟩ ?_
  rintro i ⟨hi, hall⟩
  (repeat' (first | apply jA | apply jF | apply jH | apply jI | apply jJ | apply jK | apply jL | apply jM | apply jO | apply jP | apply jS | (refine wp_cond rfl (fun hc => ?_) (fun hc => ?_) <;> (try simp only [sB, ne_eq, reduceCtorEq] at hc) <;> (try (exfalso; omega))) | (refine WP.regionC (id := 6) ?_; (refine smove rfl ?_); (refine sfieldp rfl rfl rfl ?_); (refine sloadp rfl rfl rfl rfl ?_); (refine slenm rfl rfl ?_); (refine slss rfl rfl ?_); apply jW) | (refine WP.regionC (id := 8) ?_; (refine sfieldp rfl rfl rfl ?_); (refine sloadp rfl rfl rfl rfl ?_); (refine smove rfl ?_); (refine sidxn rfl rfl (by omega) ?_); (refine sloadw rfl rfl ?_); (refine se_alloc rfl ?_); (refine se_store_b rfl rfl rfl rfl ?_); apply jW) | (refine WP.regionC (id := 9) ?_; (refine sfieldp rfl rfl rfl ?_); (refine sloadp rfl rfl rfl rfl ?_); (refine slss rfl rfl ?_); (refine smove rfl ?_); (refine sg (gq_vf rfl rfl) (fun he => ap_field_p (rq_p rfl rfl) rfl rfl) ?_); (refine sg (gq_vf rfl rfl) (fun he => ap_load_p (rq_c rfl rfl) rfl rfl rfl) ?_); (refine sg (gq_vf rfl rfl) (fun he => ap_field_p (rq_p rfl rfl) rfl rfl) ?_); (refine sg (gq_vf rfl rfl) (fun he => ap_load_p (rq_c rfl rfl) rfl rfl rfl) ?_); (refine sg (gq_vf rfl rfl) (fun he => ap_len_m rfl (rq_c rfl rfl)) ?_); (refine sg (gq_vf rfl rfl) (fun he => ap_geq (rq_c rfl rfl) (rq_c rfl rfl)) ?_); (refine su (ap_or (rq_p rfl rfl) (rq_c rfl rfl)) ?_); (refine smove rfl ?_); (refine sg (gq_vf rfl rfl) (fun he => ap_field_p (rq_p rfl rfl) rfl rfl) ?_); (refine sg (gq_vf rfl rfl) (fun he => ap_load_p (rq_c rfl rfl) rfl rfl rfl) ?_); (refine sg (gq_vf rfl rfl) (fun he => ap_len_m rfl (rq_c rfl rfl)) ?_); (refine sg (gq_vf rfl rfl) (fun he => ap_gtr (rq_c rfl rfl) (rq_p rfl rfl)) ?_); (refine su (ap_or (rq_p rfl rfl) (rq_c rfl rfl)) ?_); (refine smove rfl ?_); (refine sg (gq_vf rfl rfl) (fun he => ap_field_p (rq_p rfl rfl) rfl rfl) ?_); (refine sg (gq_vf rfl rfl) (fun he => ap_load_p (rq_c rfl rfl) rfl rfl rfl) ?_); (refine sg (gq_vf rfl rfl) (fun he => ap_lss (rq_c rfl rfl) (rq_p rfl rfl)) ?_); (refine su (ap_or (rq_p rfl rfl) (rq_c rfl rfl)) ?_); (refine smove rfl ?_); (refine sg (gq_vf rfl rfl) (fun he => ap_field_p (rq_p rfl rfl) rfl rfl) ?_); (refine sg (gq_vf rfl rfl) (fun he => ap_load_p (rq_c rfl rfl) rfl rfl rfl) ?_); (refine sg (gq_vf rfl rfl) (fun he => ap_gtr (rq_c rfl rfl) (rq_p rfl rfl)) ?_); (refine su (ap_or (rq_p rfl rfl) (rq_c rfl rfl)) ?_); apply jW) | (refine WP.regionC ?_; (refine sassign rfl ?_); apply jW) | refine ret_b rfl ?_))
  · rw [validG_no (i := i) (by omega) (by simp [ruleOk]; omega)]
  · refine wp_loop (fun k => k ≤ (nth g.rules i).body.length ∧ ((nth g.rules i).body.take k).all (symOk g) = true) (fun k => (nth g.rules i).body.length - k)
      (fun k => (S 120 [(1, .ptr 0 4 0 0), (3, intA (i : Nat)), (4, .ptr 1 3 0 0), (5, intA (k : Nat))] 2 [(0, some (.arr 4 [gramA g])), (1, some (.arr 3 [ruleA (nth g.rules i)]))])) 0 ⟨[0, 1], ToR.S rfl (by repeat' (first | exact rt_nil | refine rt_t rfl rfl ?_ | refine rt_e rfl rfl ?_)) (by repeat' (first | exact ro_nil | refine ro_p rfl (by first | exact rfl | fail) (by first | (simp [bdL, bdL_append, AV.bd]; done) | fail) ?_)) rfl (by (rw [hm]; exact rfl)) rfl (by (simp [bdT, AV.bd, bdL, bdL_append]; done)) (by repeat' (first | exact True.intro | refine And.intro ?_ ?_ | (simp [bdOq, bdL, bdL_append, AV.bd]; done))) (by (rw [hm]; exact Nat.le_of_ble_eq_true rfl))⟩ ⟨Nat.zero_le _, rfl⟩ ?_
    rintro k ⟨hk, hb⟩
    (repeat' (first | apply jA | apply jF | apply jH | apply jI | apply jJ | apply jK | apply jL | apply jM | apply jN | apply jO | apply jP | apply jS | (refine wp_cond rfl (fun hc => ?_) (fun hc => ?_) <;> (try simp only [sB, ne_eq, reduceCtorEq] at hc) <;> (try (exfalso; omega))) | (refine WP.regionC (id := 12) ?_; (refine smove rfl ?_); (refine sfieldp rfl rfl rfl ?_); (refine sloadp rfl rfl rfl rfl ?_); (refine slenm rfl rfl ?_); (refine slss rfl rfl ?_); apply jW) | (refine wp_draw (id := 14) 21 mixed (by kernel_rfl) (by kernel_rfl) rfl ?_ <;> (refine rfieldp rfl rfl rfl ?_) <;> (refine rloadp rfl rfl rfl rfl ?_) <;> (refine rmove rfl ?_) <;> (refine rd_u rfl rfl (aidxn rfl rfl (by omega)) ?_) <;> (refine rd_u rfl rfl (aloadw rfl rfl) ?_) <;> (refine rfieldp rfl rfl rfl ?_) <;> (refine rloadp rfl rfl rfl rfl ?_) <;> (refine rd_u rfl rfl (alenm rfl rfl) ?_) <;> (refine rd_u rfl rfl (ageq rfl rfl) ?_) <;> (refine rmove rfl ?_) <;> ((refine rd_split (t := 108) rfl (fun hc => ?_) (fun hc => ?_) <;> (try simp only [sB, ne_eq, reduceCtorEq] at hc) <;> (try (exfalso; omega)) <;> (first | refine rd_skip rfl rfl ?_ | refine gfieldp rfl rfl rfl rfl rfl ?_))) <;> (first | refine rd_skip rfl rfl ?_ | refine gloadp rfl rfl rfl rfl rfl rfl ?_) <;> (first | refine rd_skip rfl rfl ?_ | refine gmove rfl rfl rfl ?_) <;> (first | refine rd_skip rfl rfl ?_ | refine rdg_u rfl rfl rfl rfl (aidxn rfl rfl (by omega)) ?_) <;> (first | refine rd_skip rfl rfl ?_ | refine rdg_u rfl rfl rfl rfl (aloadw rfl rfl) ?_) <;> (first | refine rd_skip rfl rfl ?_ | refine gfieldp rfl rfl rfl rfl rfl ?_) <;> (first | refine rd_skip rfl rfl ?_ | refine gloadp rfl rfl rfl rfl rfl rfl ?_) <;> (first | refine rd_skip rfl rfl ?_ | refine rdg_u rfl rfl rfl rfl (alenm rfl rfl) ?_) <;> (first | refine rd_skip rfl rfl ?_ | refine rdg_u rfl rfl rfl rfl (aneg rfl (by exact inr_i64_of (by omega))) ?_) <;> (first | refine rd_skip rfl rfl ?_ | refine rdg_u rfl rfl rfl rfl (alss rfl rfl) ?_) <;> (first | refine rd_pick_t rfl rfl ?_ | refine rd_pick_f rfl rfl ?_) <;> (refine rd_end (by kernel_rfl) ?_)) | (refine WP.regionC (id := 15) ?_; (refine sassign rfl ?_); apply jW) | (refine WP.regionC ?_; (refine smove rfl ?_); (refine sadd rfl rfl (by exact inr_i64_of (by omega)) ?_); (refine sassign rfl ?_); apply jW) | refine ret_b rfl ?_))
    · rw [validG_no (i := i) (by omega) (ruleOk_no (k := k) (by omega) (by simp [symOk]; omega))]
    · rw [validG_no (i := i) (by omega) (ruleOk_no (k := k) (by omega) (by simp [symOk]; omega))]
    · exact ⟨k + 1, ⟨by omega, by omega, take_all_succ (by omega) hb (by simp [symOk]; omega)⟩, ⟨[0, 1], ToR.S rfl (by repeat' (first | exact rt_nil | refine rt_t rfl rfl ?_ | refine rt_e rfl rfl ?_)) (by repeat' (first | exact ro_nil | refine ro_p rfl (by first | exact rfl | fail) (by first | (simp [bdL, bdL_append, AV.bd]; done) | fail) ?_)) rfl (by (rw [hm]; exact rfl)) rfl (by (simp [bdT, AV.bd, bdL, bdL_append]; done)) (by repeat' (first | exact True.intro | refine And.intro ?_ ?_ | (simp [bdOq, bdL, bdL_append, AV.bd]; done))) (by (rw [hm]; exact Nat.le_of_ble_eq_true rfl))⟩⟩
    · exact ⟨i + 1, ⟨by omega, by omega, take_all_succ (by omega) hall (by simp [ruleOk, all_of_take' (by omega) hb]; omega)⟩, ⟨[0], ToR.S rfl (by repeat' (first | exact rt_nil | refine rt_t rfl rfl ?_ | refine rt_e rfl rfl ?_)) (by repeat' (first | exact ro_nil | refine ro_p rfl (by first | exact rfl | fail) (by first | (simp [bdL, bdL_append, AV.bd]; done) | fail) ?_)) rfl (by (rw [hm]; exact rfl)) rfl (by (simp [bdT, AV.bd, bdL, bdL_append]; done)) (by repeat' (first | exact True.intro | refine And.intro ?_ ?_ | (simp [bdOq, bdL, bdL_append, AV.bd]; done))) (by (rw [hm]; exact Nat.le_of_ble_eq_true rfl))⟩⟩
  simp [validG, hns, all_of_take' (by omega) hall]; omega
theorem Rul.ext' {a b : Rul} (h1 : a.head = b.head) (h2 : a.body = b.body) (h3 : a.price = b.price) : a = b := by
  cases a; cases b; simp_all
theorem Gram.ext' {a b : Gram} (h1 : a.terms = b.terms) (h2 : a.nonterms = b.nonterms) (h3 : a.start = b.start) (h4 : a.rules = b.rules) : a = b := by
  cases a; cases b; simp_all
end Go.Lg

namespace Go.Lg
def kidsN (r : NRul) : List Int := if r.kind = 3 then [r.a] else if r.kind = 4 then [r.a, r.b] else []
def inN (n : Nrm) (x : Int) : Bool := decide (0 ≤ x) && decide (x < n.nonterms)
def kindOk (n : Nrm) (r : NRul) : Bool :=
  if r.kind = 1 then decide (r.a = 0) && decide (r.b = 0)
  else if r.kind = 2 then decide (0 ≤ r.a) && decide (r.a < n.terms) && decide (r.b = 0)
  else if r.kind = 3 then inN n r.a && decide (r.b = 0)
  else if r.kind = 4 then inN n r.a && inN n r.b else false
def nruleOk (n : Nrm) (r : NRul) : Bool := inN n r.head && decide (0 ≤ r.price) && decide (r.price ≤ 1000) && decide (-1 ≤ r.origin) && kindOk n r
def validN (n : Nrm) : Bool :=
  decide (0 ≤ n.terms) && decide (n.terms ≤ 120) && decide (1 ≤ n.nonterms) && decide (n.nonterms ≤ 1000) && decide (0 ≤ n.start) && decide (n.start < n.nonterms) && decide (n.rules.length ≤ 600) && n.rules.all (nruleOk n)
def nruleAt (n : Nrm) (i : Int) : NRul := nth n.rules i.toNat
mutual
def okP (n : Nrm) : Int → Prs → Bool
  | head, .mk r l => decide (0 ≤ r) && decide (r < n.rules.length) && decide ((nruleAt n r).head = head) && decide ((kidsN (nruleAt n r)).length = l.length) && okPL n (kidsN (nruleAt n r)) l
def okPL (n : Nrm) : List Int → List Prs → Bool
  | _, [] => true
  | xs, p :: l => okP n (xs.headD 0) p && okPL n xs.tail l
end
mutual
def yieldP (n : Nrm) : Prs → List Int
  | .mk r l => if (nruleAt n r).kind = 2 then [(nruleAt n r).a] else yieldPL n l
def yieldPL (n : Nrm) : List Prs → List Int
  | [] => []
  | p :: l => yieldP n p ++ yieldPL n l
end
mutual
def priceP (n : Nrm) : Prs → Int
  | .mk r l => (nruleAt n r).price + pricePL n l
def pricePL (n : Nrm) : List Prs → Int
  | [] => 0
  | p :: l => priceP n p + pricePL n l
end
theorem okP_eq (n : Nrm) (h : Int) (p : Prs) : okP n h p = (decide (0 ≤ p.rule) && decide (p.rule < n.rules.length) && decide ((nruleAt n p.rule).head = h) && decide ((kidsN (nruleAt n p.rule)).length = p.kids.length) && okPL n (kidsN (nruleAt n p.rule)) p.kids) := by
  cases p; rw [okP]; rfl
theorem yieldP_eq (n : Nrm) (p : Prs) : yieldP n p = if (nruleAt n p.rule).kind = 2 then [(nruleAt n p.rule).a] else yieldPL n p.kids := by cases p; rw [yieldP]; rfl
theorem priceP_eq (n : Nrm) (p : Prs) : priceP n p = (nruleAt n p.rule).price + pricePL n p.kids := by cases p; rw [priceP]; rfl
theorem okPL_iff (n : Nrm) : ∀ (xs : List Int) (l : List Prs), xs.length = l.length → (okPL n xs l = true ↔ ∀ i, i < l.length → okP n (nth xs i) (nth l i) = true)
  | _, [], _ => by simp [okPL]
  | [], _ :: _, h => by simp at h
  | x :: xs, p :: l, h => by
    rw [okPL, Bool.and_eq_true, List.headD_cons, List.tail_cons, okPL_iff n xs l (by simpa using h)]
    constructor
    · rintro ⟨h1, h2⟩ i hi
      cases i with
      | zero => exact h1
      | succ i => exact h2 i (by simpa using hi)
    · intro h
      exact ⟨h 0 (by simp), fun i hi => h (i + 1) (by simpa using hi)⟩
mutual
def sizeP : Prs → Int
  | .mk _ l => 1 + sizePL l
def sizePL : List Prs → Int
  | [] => 0
  | p :: l => sizeP p + sizePL l
end
mutual
def sizeT : Tre → Int
  | .mk _ _ l => 1 + sizeTL l
def sizeTL : List Tre → Int
  | [] => 0
  | p :: l => sizeT p + sizeTL l
end
mutual
def okT (g : Gram) : Int → Tre → Bool
  | x, .mk r t l => if 0 ≤ x then decide (r = -1) && decide (t = x) && decide (l.length = 0) else
      decide (0 ≤ r) && decide (r < g.rules.length) && decide (t = 0) && decide ((nth g.rules r.toNat).head = -1 - x) && decide (l.length = (nth g.rules r.toNat).body.length) && okTL g (nth g.rules r.toNat).body l
def okTL (g : Gram) : List Int → List Tre → Bool
  | _, [] => true
  | xs, t :: l => okT g (xs.headD 0) t && okTL g xs.tail l
end
mutual
def leavesT : Tre → List Int
  | .mk r t l => if r = -1 then [t] else leavesTL l
def leavesTL : List Tre → List Int
  | [] => []
  | t :: l => leavesT t ++ leavesTL l
end
mutual
def priceT (g : Gram) : Tre → Int
  | .mk r _ l => if r < 0 then 0 else (nth g.rules r.toNat).price + priceTL g l
def priceTL (g : Gram) : List Tre → Int
  | [] => 0
  | t :: l => priceT g t + priceTL g l
end
def needT (g : Gram) (t : Nat) : Bool := g.rules.any fun r => decide (1 < r.body.length) && r.body.any fun x => decide (x = (t : Int))
def tlist (g : Gram) : Nat → List Nat
  | 0 => []
  | k + 1 => tlist g k ++ (if needT g k then [k] else [])
def tnum (g : Gram) (t : Nat) : Int := (g.nonterms.length : Int) + (tlist g t).length
def symN (g : Gram) (x : Int) : Int := if x < 0 then -1 - x else tnum g x.toNat
def chn (g : Gram) : Int → Int → Int → Int → List Int → List NRul
  | h, p, o, nx, x :: y :: z :: l => ⟨4, h, symN g x, nx, p, o⟩ :: chn g nx 0 (-1) (nx + 1) (y :: z :: l)
  | h, p, o, _, [x, y] => [⟨4, h, symN g x, symN g y, p, o⟩]
  | h, p, o, _, [x] => if 0 ≤ x then [⟨2, h, x, 0, p, o⟩] else [⟨3, h, -1 - x, 0, p, o⟩]
  | h, p, o, _, [] => [⟨1, h, 0, 0, p, o⟩]
def extraN (r : Rul) : Nat := r.body.length - 2
def chns (g : Gram) : Nat → Int → List Rul → List NRul
  | _, _, [] => []
  | i, nx, r :: l => chn g r.head r.price i nx r.body ++ chns g (i + 1) (nx + extraN r) l
def nextN (nx : Int) : List Rul → Int
  | [] => nx
  | r :: l => nextN (nx + extraN r) l
def termN (g : Gram) (t : Nat) : NRul := ⟨2, tnum g t, t, 0, 0, -1⟩
def baseN (g : Gram) : Int := g.nonterms.length + (tlist g g.terms.length).length
def nrmOf (g : Gram) : Nrm := ⟨g.terms.length, nextN (baseN g) g.rules, g.start, chns g 0 (baseN g) g.rules ++ (tlist g g.terms.length).map (termN g)⟩
def binG (g : Gram) : Nrm × Int := if validG g then (if 600 < (nrmOf g).rules.length then (⟨0, 0, 0, []⟩, 11) else (nrmOf g, 0)) else (⟨0, 0, 0, []⟩, 1)
end Go.Lg

namespace Go.Lg
theorem chn_len (g : Gram) : ∀ (l : List Int) (h p o nx : Int), (chn g h p o nx l).length = l.length - 2 + 1
  | [], _, _, _, _ => by simp [chn]
  | [x], _, _, _, _ => by simp only [chn]; split <;> rfl
  | [x, y], _, _, _, _ => by simp [chn]
  | x :: y :: z :: l, h, p, o, nx => by
    rw [chn, List.length_cons, chn_len g (y :: z :: l)]
    simp only [List.length_cons]; omega
theorem chn_nth (g : Gram) : ∀ (l : List Int) (h p o nx : Int) (k : Nat), 2 ≤ l.length → k ≤ l.length - 2 →
    nth (chn g h p o nx l) k = ⟨4, if k = 0 then h else nx + k - 1, symN g (nth l k), if k = l.length - 2 then symN g (nth l (k + 1)) else nx + k, if k = 0 then p else 0, if k = 0 then o else -1⟩
  | [], _, _, _, _, _, h2, _ => by simp at h2
  | [x], _, _, _, _, _, h2, _ => by simp at h2
  | [x, y], h, p, o, nx, k, _, hk => by
    obtain rfl : k = 0 := by simp only [List.length_cons, List.length_nil] at hk; omega
    simp [chn, nth]
  | x :: y :: z :: l, h, p, o, nx, k, _, hk => by
    simp only [List.length_cons] at hk
    rw [chn]
    cases k with
    | zero =>
      simp only [nth, List.getD_cons_zero, List.length_cons, if_true]
      have : ¬ 0 = l.length + 1 + 1 + 1 - 2 := by omega
      simp [this]
    | succ k =>
      have ih := chn_nth g (y :: z :: l) nx 0 (-1) (nx + 1) k (by simp) (by simp only [List.length_cons]; omega)
      have e : nth (⟨4, h, symN g x, nx, p, o⟩ :: chn g nx 0 (-1) (nx + 1) (y :: z :: l)) (k + 1) = nth (chn g nx 0 (-1) (nx + 1) (y :: z :: l)) k := by simp [nth]
      rw [e, ih]
      have e1 : nth (x :: y :: z :: l) (k + 1) = nth (y :: z :: l) k := by simp [nth]
      have e2 : nth (x :: y :: z :: l) (k + 1 + 1) = nth (y :: z :: l) (k + 1) := by simp [nth]
      rw [e1, e2]
      simp only [List.length_cons, Nat.add_eq_zero_iff, Nat.one_ne_zero, and_false, if_false]
      have e3 : (k = l.length + 1 + 1 - 2) ↔ (k + 1 = l.length + 1 + 1 + 1 - 2) := by omega
      congr 1
      · split
        · rename_i h0; subst h0; simp
        · push_cast; omega
      · by_cases hh : k = l.length + 1 + 1 - 2
        · rw [if_pos hh, if_pos (e3.1 hh)]
        · rw [if_neg hh, if_neg fun q => hh (e3.2 q)]; push_cast; omega
      · split <;> rfl
      · split <;> rfl
theorem chn_one (g : Gram) {l : List Int} {h p o nx : Int} (hl : l.length < 2) : ∃ kd a, chn g h p o nx l = [⟨kd, h, a, 0, p, o⟩] ∧
    ((l = [] ∧ kd = 1 ∧ a = 0) ∨ (∃ x, l = [x] ∧ 0 ≤ x ∧ kd = 2 ∧ a = x) ∨ (∃ x, l = [x] ∧ x < 0 ∧ kd = 3 ∧ a = -1 - x)) := by
  match l, hl with
  | [], _ => exact ⟨1, 0, by simp [chn], .inl ⟨rfl, rfl, rfl⟩⟩
  | [x], _ =>
    by_cases hx : 0 ≤ x
    · exact ⟨2, x, by simp [chn, hx], .inr (.inl ⟨x, rfl, hx, rfl, rfl⟩)⟩
    · exact ⟨3, -1 - x, by simp [chn, hx], .inr (.inr ⟨x, rfl, by omega, rfl, rfl⟩)⟩
def posN : List Rul → Nat → Nat
  | [], _ => 0
  | _, 0 => 0
  | r :: l, i + 1 => extraN r + 1 + posN l i
def nxN (nx : Int) : List Rul → Nat → Int
  | [], _ => nx
  | _, 0 => nx
  | r :: l, i + 1 => nxN (nx + extraN r) l i
theorem nth_app1 {α : Type} [Inhabited α] {a b : List α} {i : Nat} (h : i < a.length) : nth (a ++ b) i = nth a i := by simp [nth, List.getD, List.getElem?_append_left h]
theorem nth_app2 {α : Type} [Inhabited α] {a b : List α} {i : Nat} (h : a.length ≤ i) : nth (a ++ b) i = nth b (i - a.length) := by simp [nth, List.getD, List.getElem?_append_right h]
theorem chns_nth (g : Gram) : ∀ (l : List Rul) (i0 : Nat) (nx : Int) (i k : Nat), i < l.length → k < extraN (nth l i) + 1 →
    posN l i + k < (chns g i0 nx l).length ∧ nth (chns g i0 nx l) (posN l i + k) = nth (chn g (nth l i).head (nth l i).price ((i0 + i : Nat) : Int) (nxN nx l i) (nth l i).body) k
  | [], _, _, _, _, hi, _ => by simp at hi
  | r :: l, i0, nx, 0, k, _, hk => by
    have e : nth (r :: l) 0 = r := rfl
    rw [e] at hk ⊢
    have hl := chn_len g r.body r.head r.price i0 nx
    have hk' : k < (chn g r.head r.price i0 nx r.body).length := by rw [hl]; exact hk
    simp only [chns, posN, nxN, Nat.zero_add, Nat.add_zero]
    exact ⟨by rw [List.length_append]; omega, nth_app1 hk'⟩
  | r :: l, i0, nx, i + 1, k, hi, hk => by
    have e : nth (r :: l) (i + 1) = nth l i := by simp [nth]
    rw [e] at hk ⊢
    obtain ⟨h1, h2⟩ := chns_nth g l (i0 + 1) (nx + extraN r) i k (by simpa using hi) hk
    have hl := chn_len g r.body r.head r.price i0 nx
    have hle : (chn g r.head r.price i0 nx r.body).length = extraN r + 1 := hl
    simp only [chns, posN, nxN]
    refine ⟨by rw [List.length_append, hle]; omega, ?_⟩
    rw [nth_app2 (by rw [hle]; omega), hle, show extraN r + 1 + posN l i + k - (extraN r + 1) = posN l i + k by omega, h2]
    congr 2
    push_cast; omega
theorem chns_place (g : Gram) : ∀ (l : List Rul) (i0 : Nat) (nx : Int) (j : Nat), j < (chns g i0 nx l).length → ∃ i k, i < l.length ∧ k < extraN (nth l i) + 1 ∧ j = posN l i + k
  | [], _, _, j, h => by simp [chns] at h
  | r :: l, i0, nx, j, h => by
    have hle : (chn g r.head r.price i0 nx r.body).length = extraN r + 1 := chn_len g r.body r.head r.price i0 nx
    simp only [chns, List.length_append, hle] at h
    by_cases hj : j < extraN r + 1
    · exact ⟨0, j, by simp, hj, by simp [posN]⟩
    · obtain ⟨i, k, h1, h2, h3⟩ := chns_place g l (i0 + 1) (nx + extraN r) (j - (extraN r + 1)) (by omega)
      refine ⟨i + 1, k, by simpa using h1, by simpa [nth] using h2, ?_⟩
      simp only [posN]; omega
theorem posN_lt {l : List Rul} : ∀ {i j : Nat} , i < j → j < l.length → posN l i + extraN (nth l i) + 1 ≤ posN l j := by
  induction l with
  | nil => intro i j _ h; simp at h
  | cons r l ih =>
    intro i j hij hj
    cases j with
    | zero => omega
    | succ j =>
      cases i with
      | zero => simp only [posN]; show 0 + extraN r + 1 ≤ _; omega
      | succ i =>
        have := ih (i := i) (j := j) (by omega) (by simpa using hj)
        have e : nth (r :: l) (i + 1) = nth l i := by simp [nth]
        rw [e]
        simp only [posN]; omega
theorem nxN_lt {l : List Rul} : ∀ {nx : Int} {i j : Nat} , i < j → j < l.length → nxN nx l i + extraN (nth l i) ≤ nxN nx l j := by
  induction l with
  | nil => intro nx i j _ h; simp at h
  | cons r l ih =>
    intro nx i j hij hj
    cases j with
    | zero => omega
    | succ j =>
      cases i with
      | zero =>
        simp only [nxN]
        show nx + extraN r ≤ _
        have gen : ∀ (l : List Rul) (nx : Int) (j : Nat), nx ≤ nxN nx l j := by
          intro l
          induction l with
          | nil => intro nx j; simp [nxN]
          | cons r l ih => intro nx j; cases j with
            | zero => simp [nxN]
            | succ j => simp only [nxN]; have := ih (nx + extraN r) j; omega
        exact gen l _ j
      | succ i =>
        have := ih (nx := nx + extraN r) (i := i) (j := j) (by omega) (by simpa using hj)
        have e : nth (r :: l) (i + 1) = nth l i := by simp [nth]
        rw [e]
        simpa only [nxN] using this
theorem nxN_ge (l : List Rul) : ∀ (nx : Int) (j : Nat), nx ≤ nxN nx l j := by
  induction l with
  | nil => intro nx j; simp [nxN]
  | cons r l ih => intro nx j; cases j with
    | zero => simp [nxN]
    | succ j => simp only [nxN]; have := ih (nx + extraN r) j; omega
theorem nextN_len (g : Gram) : ∀ (l : List Rul) (i0 : Nat) (nx : Int), nextN nx l + l.length = nx + (chns g i0 nx l).length
  | [], _, _ => by simp [nextN, chns]
  | r :: l, i0, nx => by
    have hle : (chn g r.head r.price i0 nx r.body).length = extraN r + 1 := chn_len g r.body r.head r.price i0 nx
    have ih := nextN_len g l (i0 + 1) (nx + extraN r)
    simp only [nextN, chns, List.length_append, List.length_cons, hle]
    push_cast; omega
end Go.Lg

namespace Go.Lg
def leB (a b : List Bool) : Prop := a.length = b.length ∧ ∀ i, nth a i = true → nth b i = true
theorem leB.refl (a : List Bool) : leB a a := ⟨rfl, fun _ h => h⟩
theorem leB.trans {a b c : List Bool} (h : leB a b) (k : leB b c) : leB a c := ⟨h.1.trans k.1, fun i hi => k.2 i (h.2 i hi)⟩
def falses : List Bool → Nat
  | [] => 0
  | b :: l => (if b then 0 else 1) + falses l
def iterB (f : List Bool → List Bool) : Nat → List Bool → List Bool
  | 0, l => l
  | k + 1, l => iterB f k (f l)
structure MonoB (n : Nat) (f : List Bool → List Bool) : Prop where
  up : ∀ l, l.length = n → leB l (f l)
  mono : ∀ a b, a.length = n → leB a b → leB (f a) (f b)
section
variable {n : Nat} {f : List Bool → List Bool} (hf : MonoB n f)
include hf
end
def nob (n : Nat) : List Bool := List.replicate n false
@[simp] theorem nob_map (n : Nat) : (nob n).map boolA = List.replicate n (AV.val (.bool false)) := by simp [nob, boolA]
theorem nob_len (n : Nat) : (nob n).length = n := by simp [nob]
end Go.Lg

namespace Go.Lg
structure RulFit (g : Gram) (r : Rul) : Prop where
  h0 : 0 ≤ r.head
  hn : r.head < g.nonterms.length
  len : r.body.length ≤ 12
  p0 : 0 ≤ r.price
  p1 : r.price ≤ 1000
  hi : ∀ x, x ∈ r.body → x < g.terms.length
  lo : ∀ x, x ∈ r.body → -(g.nonterms.length : Int) ≤ x
structure GVal (g : Gram) : Prop where
  terms : g.terms.length ≤ 120
  n1 : 1 ≤ g.nonterms.length
  n2 : g.nonterms.length ≤ 120
  r1 : 1 ≤ g.rules.length
  r2 : g.rules.length ≤ 120
  s0 : 0 ≤ g.start
  sn : g.start < g.nonterms.length
  names : namesOk (g.terms ++ g.nonterms) = true
  rule : ∀ r, r ∈ g.rules → RulFit g r
theorem ruleOk_iff {g : Gram} {r : Rul} : ruleOk g r = true ↔ RulFit g r := by
  constructor
  · intro h
    simp only [ruleOk, Bool.and_eq_true, decide_eq_true_eq, List.all_eq_true, symOk] at h
    obtain ⟨⟨⟨⟨⟨h1, h2⟩, h3⟩, h4⟩, h5⟩, h6⟩ := h
    exact ⟨h1, h2, h3, h4, h5, fun x hx => (h6 x hx).1, fun x hx => (h6 x hx).2⟩
  · intro h
    simp only [ruleOk, Bool.and_eq_true, decide_eq_true_eq, List.all_eq_true, symOk]
    exact ⟨⟨⟨⟨⟨h.h0, h.hn⟩, h.len⟩, h.p0⟩, h.p1⟩, fun x hx => ⟨h.hi x hx, h.lo x hx⟩⟩
theorem validG_iff {g : Gram} : validG g = true ↔ GVal g := by
  constructor
  · intro h
    simp only [validG, Bool.and_eq_true, decide_eq_true_eq, List.all_eq_true] at h
    obtain ⟨⟨⟨⟨⟨⟨⟨⟨h1, h2⟩, h3⟩, h4⟩, h5⟩, h6⟩, h7⟩, h8⟩, h9⟩ := h
    exact ⟨h1, h2, h3, h4, h5, h6, h7, h8, fun r hr => ruleOk_iff.1 (h9 r hr)⟩
  · intro h
    simp only [validG, Bool.and_eq_true, decide_eq_true_eq, List.all_eq_true]
    exact ⟨⟨⟨⟨⟨⟨⟨⟨h.terms, h.n1⟩, h.n2⟩, h.r1⟩, h.r2⟩, h.s0⟩, h.sn⟩, h.names⟩, fun r hr => ruleOk_iff.2 (h.rule r hr)⟩
end Go.Lg

namespace Go.Lg
theorem tlist_len (g : Gram) : ∀ k, (tlist g k).length ≤ k
  | 0 => Nat.le_refl _
  | k + 1 => by
    rw [tlist, List.length_append]
    have := tlist_len g k
    split
    · simp only [List.length_cons, List.length_nil]; omega
    · simp only [List.length_nil]; omega
theorem tlist_at (g : Gram) {t : Nat} (ht : needT g t = true) : ∀ {k : Nat}, t < k → (tlist g t).length < (tlist g k).length ∧ nth (tlist g k) (tlist g t).length = t
  | 0, h => by omega
  | k + 1, h => by
    rcases Nat.lt_or_ge t k with h1 | h1
    · obtain ⟨h2, h3⟩ := tlist_at g ht (k := k) h1
      rw [tlist, List.length_append]
      exact ⟨by omega, by rw [nth_app1 h2]; exact h3⟩
    · obtain rfl : t = k := by omega
      rw [tlist, if_pos ht, List.length_append]
      refine ⟨by simp, ?_⟩
      rw [nth_app2 (Nat.le_refl _), Nat.sub_self]; rfl
theorem tlist_place (g : Gram) : ∀ {k j : Nat}, j < (tlist g k).length → ∃ t, t < k ∧ needT g t = true ∧ (tlist g t).length = j ∧ nth (tlist g k) j = t
  | 0, j, h => by simp [tlist] at h
  | k + 1, j, h => by
    rcases Nat.lt_or_ge j (tlist g k).length with h1 | h1
    · obtain ⟨t, a, b, c, d⟩ := tlist_place g h1
      exact ⟨t, by omega, b, c, by rw [tlist, nth_app1 h1]; exact d⟩
    · rw [tlist, List.length_append] at h
      cases hn : needT g k with
      | false => rw [hn] at h; simp at h; omega
      | true =>
        rw [hn] at h
        simp only [if_true, List.length_cons, List.length_nil] at h
        obtain rfl : j = (tlist g k).length := by omega
        exact ⟨k, by omega, hn, rfl, (tlist_at g hn (Nat.lt_succ_self k)).2⟩
def chainsN (g : Gram) : List NRul := chns g 0 (baseN g) g.rules
def nxG (g : Gram) (i : Nat) : Int := nxN (baseN g) g.rules i
theorem nrm_rules (g : Gram) : (nrmOf g).rules = chainsN g ++ (tlist g g.terms.length).map (termN g) := rfl
theorem chain_at (g : Gram) {i k : Nat} (hi : i < g.rules.length) (hk : k < extraN (nth g.rules i) + 1) : posN g.rules i + k < (chainsN g).length ∧
    nth (nrmOf g).rules (posN g.rules i + k) = nth (chn g (nth g.rules i).head (nth g.rules i).price (i : Int) (nxG g i) (nth g.rules i).body) k := by
  obtain ⟨h1, h2⟩ := chns_nth g g.rules 0 (baseN g) i k hi hk
  refine ⟨h1, ?_⟩
  rw [nrm_rules]
  unfold chainsN
  rw [nth_app1 h1, h2, Nat.zero_add]; rfl
theorem chain_head (g : Gram) {i k : Nat} (hi : i < g.rules.length) (hk : k < extraN (nth g.rules i) + 1) :
    (nth (nrmOf g).rules (posN g.rules i + k)).head = (if k = 0 then (nth g.rules i).head else nxG g i + k - 1) ∧ (nth (nrmOf g).rules (posN g.rules i + k)).origin = if k = 0 then (i : Int) else -1 := by
  rw [(chain_at g hi hk).2]
  by_cases hl : (nth g.rules i).body.length < 2
  · obtain ⟨kd, a, h1, _⟩ := chn_one g (h := (nth g.rules i).head) (p := (nth g.rules i).price) (o := i) (nx := nxG g i) hl
    have hk0 : k = 0 := by unfold extraN at hk; omega
    subst hk0
    rw [h1]
    exact ⟨rfl, rfl⟩
  · rw [chn_nth g _ _ _ _ _ k (by omega) (by unfold extraN at hk; omega)]
    exact ⟨rfl, rfl⟩
theorem term_at (g : Gram) {t : Nat} (ht : t < g.terms.length) (hn : needT g t = true) : (chainsN g).length + (tlist g t).length < (nrmOf g).rules.length ∧
    nth (nrmOf g).rules ((chainsN g).length + (tlist g t).length) = termN g t := by
  obtain ⟨h1, h2⟩ := tlist_at g hn ht
  rw [nrm_rules, List.length_append, List.length_map]
  refine ⟨by omega, ?_⟩
  rw [nth_app2 (Nat.le_add_right _ _), Nat.add_sub_cancel_left]
  have h3 : (tlist g t).length < ((tlist g g.terms.length).map (termN g)).length := by rw [List.length_map]; exact h1
  rw [nth_eq h3, List.getElem_map]
  rw [nth_eq h1] at h2
  rw [h2]
theorem mem_take {α : Type} [Inhabited α] {l : List α} {k : Nat} {x : α} (h : x ∈ l.take k) : ∃ j, j < k ∧ j < l.length ∧ x = nth l j := by
  obtain ⟨j, hj, e⟩ := List.getElem_of_mem h
  rw [List.length_take] at hj
  refine ⟨j, by omega, by omega, ?_⟩
  rw [nth_eq (by omega), ← e, List.getElem_take]
theorem indexP_is {α : Type} [Inhabited α] {p : α → Bool} {l : List α} {k : Nat} (hk : k < l.length) (hp : p (nth l k) = true) (h : ∀ j, j < k → p (nth l j) = false) : indexP p l = k :=
  indexP_at hk (by
    rw [List.any_eq_false]
    intro x hx
    obtain ⟨j, h1, _, rfl⟩ := mem_take hx
    simp [h j h1]) hp
theorem place_lt {g : Gram} {i k j : Nat} (hi : i < g.rules.length) (hk : k < extraN (nth g.rules i) + 1) (hj : j < posN g.rules i + k) :
    ∃ i' k', i' < g.rules.length ∧ k' < extraN (nth g.rules i') + 1 ∧ j = posN g.rules i' + k' ∧ (i' < i ∨ (i' = i ∧ k' < k)) := by
  have hlt := (chain_at g hi hk).1
  obtain ⟨i', k', h1, h2, h3⟩ := chns_place g g.rules 0 (baseN g) j (Nat.lt_trans hj hlt)
  refine ⟨i', k', h1, h2, h3, ?_⟩
  rcases Nat.lt_trichotomy i' i with h | h | h
  · exact .inl h
  · subst h; exact .inr ⟨rfl, by omega⟩
  · have := posN_lt (l := g.rules) h h1
    omega
theorem begin_at (g : Gram) {i : Nat} (hi : i < g.rules.length) : indexP (fun r : NRul => decide (r.origin = (i : Int))) (nrmOf g).rules = posN g.rules i := by
  have h0 := chain_head g hi (k := 0) (by omega)
  have hc := (chain_at g hi (k := 0) (by omega)).1
  rw [Nat.add_zero] at h0 hc
  refine indexP_is (by rw [nrm_rules, List.length_append]; omega) (by rw [h0.2]; simp) fun j hj => ?_
  obtain ⟨i', k', h1, h2, rfl, h3⟩ := place_lt (g := g) hi (k := 0) (by omega) (by simpa using hj)
  rw [(chain_head g h1 h2).2]
  have : i' < i := by omega
  split
  · exact decide_eq_false (by omega)
  · exact decide_eq_false (by omega)
theorem base_ge (g : Gram) : (g.nonterms.length : Int) ≤ baseN g := by unfold baseN; omega
theorem only_chain {g : Gram} (hv : GVal g) {i k : Nat} (hi : i < g.rules.length) (hk : k < extraN (nth g.rules i)) : indexP (fun r : NRul => decide (r.head = nxG g i + k)) (nrmOf g).rules = ((posN g.rules i + k + 1 : Nat) : Int) := by
  have h0 := chain_head g hi (k := k + 1) (by omega)
  have hc := (chain_at g hi (k := k + 1) (by omega)).1
  have hb : baseN g ≤ nxG g i := nxN_ge g.rules (baseN g) i
  have hb2 := base_ge g
  rw [← Nat.add_assoc] at h0 hc
  refine indexP_is (by rw [nrm_rules, List.length_append]; omega) (by rw [h0.1]; simp; omega) fun j hj => ?_
  obtain ⟨i', k', h1, h2, rfl, h3⟩ := place_lt (g := g) hi (k := k + 1) (by omega) (by omega)
  rw [(chain_head g h1 h2).1]
  have hr := hv.rule _ (nth_mem h1)
  split
  · exact decide_eq_false (by have := hr.hn; omega)
  · rcases h3 with h3 | ⟨rfl, h3⟩
    · have := nxN_lt (l := g.rules) (nx := baseN g) h3 hi
      have : nxG g i' + extraN (nth g.rules i') ≤ nxG g i := this
      exact decide_eq_false (by omega)
    · exact decide_eq_false (by omega)
theorem only_term {g : Gram} (hv : GVal g) {t : Nat} (ht : t < g.terms.length) (hn : needT g t = true) : indexP (fun r : NRul => decide (r.head = tnum g t)) (nrmOf g).rules = (((chainsN g).length + (tlist g t).length : Nat) : Int) := by
  obtain ⟨h1, h2⟩ := term_at g ht hn
  refine indexP_is h1 (by rw [h2]; simp [termN]) fun j hj => ?_
  have hlt := (tlist_at g hn ht).1
  rcases Nat.lt_or_ge j (chainsN g).length with h3 | h3
  · obtain ⟨i', k', g1, g2, rfl⟩ := chns_place g g.rules 0 (baseN g) j h3
    rw [(chain_head g g1 g2).1]
    have hr := hv.rule _ (nth_mem g1)
    have hb : baseN g ≤ nxG g i' := nxN_ge g.rules (baseN g) i'
    unfold tnum
    unfold baseN at hb
    split
    · exact decide_eq_false (by have := hr.hn; omega)
    · exact decide_eq_false (by omega)
  · obtain ⟨t', a, b, c, d⟩ := tlist_place g (k := g.terms.length) (j := j - (chainsN g).length) (by omega)
    have := (term_at g a b).2
    rw [c, show (chainsN g).length + (j - (chainsN g).length) = j by omega] at this
    rw [this]
    exact decide_eq_false (by simp only [termN, tnum]; omega)
theorem need_of {g : Gram} {r : Rul} (hr : r ∈ g.rules) (h2 : 2 ≤ r.body.length) {x : Int} (hx : x ∈ r.body) (h0 : 0 ≤ x) : needT g x.toNat = true := by
  unfold needT
  rw [List.any_eq_true]
  refine ⟨r, hr, ?_⟩
  rw [Bool.and_eq_true, decide_eq_true_eq, List.any_eq_true]
  exact ⟨by omega, x, hx, by simp; omega⟩
theorem nextN_ge (l : List Rul) : ∀ nx : Int, nx ≤ nextN nx l := by
  induction l with
  | nil => intro nx; simp [nextN]
  | cons r l ih => intro nx; simp only [nextN]; have := ih (nx + extraN r); omega
end Go.Lg

namespace Go.Lg
mutual
def szT : Tre → Nat
  | .mk _ _ l => 1 + szTL l
def szTL : List Tre → Nat
  | [] => 0
  | t :: l => szT t + szTL l
end
mutual
def szP : Prs → Nat
  | .mk _ l => 1 + szPL l
def szPL : List Prs → Nat
  | [] => 0
  | t :: l => szP t + szPL l
end
theorem szTL_mem : ∀ {l : List Tre} {t : Tre}, t ∈ l → szT t ≤ szTL l
  | a :: l, t, h => by
    rw [szTL]
    rcases List.mem_cons.1 h with rfl | h
    · omega
    · have := szTL_mem h; omega
theorem szPL_mem : ∀ {l : List Prs} {t : Prs}, t ∈ l → szP t ≤ szPL l
  | a :: l, t, h => by
    rw [szPL]
    rcases List.mem_cons.1 h with rfl | h
    · omega
    · have := szPL_mem h; omega
theorem szT_eq (t : Tre) : szT t = 1 + szTL t.kids := by cases t; rw [szT]; rfl
theorem szP_eq (t : Prs) : szP t = 1 + szPL t.kids := by cases t; rw [szP]; rfl
theorem szT_kid {t k : Tre} (h : k ∈ t.kids) : szT k < szT t := by rw [szT_eq t]; have := szTL_mem h; omega
theorem szP_kid {t k : Prs} (h : k ∈ t.kids) : szP k < szP t := by rw [szP_eq t]; have := szPL_mem h; omega
theorem okT_eq (g : Gram) (x : Int) (t : Tre) : okT g x t = if 0 ≤ x then decide (t.rule = -1) && decide (t.term = x) && decide (t.kids.length = 0) else
    decide (0 ≤ t.rule) && decide (t.rule < g.rules.length) && decide (t.term = 0) && decide ((nth g.rules t.rule.toNat).head = -1 - x) && decide (t.kids.length = (nth g.rules t.rule.toNat).body.length) && okTL g (nth g.rules t.rule.toNat).body t.kids := by
  cases t; rw [okT]; rfl
theorem okTL_iff (g : Gram) : ∀ (xs : List Int) (l : List Tre), xs.length = l.length → (okTL g xs l = true ↔ ∀ i, i < l.length → okT g (nth xs i) (nth l i) = true)
  | _, [], _ => by simp [okTL]
  | [], _ :: _, h => by simp at h
  | x :: xs, p :: l, h => by
    rw [okTL, Bool.and_eq_true, List.headD_cons, List.tail_cons, okTL_iff g xs l (by simpa using h)]
    constructor
    · rintro ⟨h1, h2⟩ i hi
      cases i with
      | zero => exact h1
      | succ i => exact h2 i (by simpa using hi)
    · intro h
      exact ⟨h 0 (by simp), fun i hi => h (i + 1) (by simpa using hi)⟩
structure TIn (g : Gram) (x : Int) (t : Tre) : Prop where
  r0 : 0 ≤ t.rule
  rn : t.rule.toNat < g.rules.length
  tm : t.term = 0
  hd : (nth g.rules t.rule.toNat).head = -1 - x
  len : t.kids.length = (nth g.rules t.rule.toNat).body.length
  kid : ∀ i, i < t.kids.length → okT g (nth (nth g.rules t.rule.toNat).body i) (nth t.kids i) = true
theorem okT_in {g : Gram} {x : Int} {t : Tre} (hx : x < 0) : okT g x t = true ↔ TIn g x t := by
  rw [okT_eq, if_neg (by omega)]
  simp only [Bool.and_eq_true, decide_eq_true_eq]
  constructor
  · rintro ⟨⟨⟨⟨⟨h1, h2⟩, h3⟩, h4⟩, h5⟩, h6⟩
    exact ⟨h1, by omega, h3, h4, h5, (okTL_iff g _ _ h5.symm).1 h6⟩
  · intro h
    have := h.rn
    have := h.r0
    exact ⟨⟨⟨⟨⟨h.r0, by omega⟩, h.tm⟩, h.hd⟩, h.len⟩, (okTL_iff g _ _ h.len.symm).2 h.kid⟩
def leafT (x : Int) : Tre := .mk (-1) x []
theorem okT_leaf {g : Gram} {x : Int} {t : Tre} (hx : 0 ≤ x) : okT g x t = true ↔ t = leafT x := by
  rw [okT_eq, if_pos hx]
  simp only [Bool.and_eq_true, decide_eq_true_eq]
  constructor
  · rintro ⟨⟨h1, h2⟩, h3⟩
    exact Tre.ext' h1 h2 (List.eq_nil_of_length_eq_zero h3)
  · rintro rfl; exact ⟨⟨rfl, rfl⟩, rfl⟩
structure PIn (n : Nrm) (h : Int) (p : Prs) : Prop where
  r0 : 0 ≤ p.rule
  rn : p.rule.toNat < n.rules.length
  hd : (nth n.rules p.rule.toNat).head = h
  len : (kidsN (nth n.rules p.rule.toNat)).length = p.kids.length
  kid : ∀ i, i < p.kids.length → okP n (nth (kidsN (nth n.rules p.rule.toNat)) i) (nth p.kids i) = true
theorem okP_in {n : Nrm} {h : Int} {p : Prs} : okP n h p = true ↔ PIn n h p := by
  rw [okP_eq]
  unfold nruleAt
  simp only [Bool.and_eq_true, decide_eq_true_eq]
  constructor
  · rintro ⟨⟨⟨⟨h1, h2⟩, h3⟩, h4⟩, h5⟩
    exact ⟨h1, by omega, h3, h4, (okPL_iff n _ _ h4).1 h5⟩
  · intro h
    have := h.rn
    have := h.r0
    exact ⟨⟨⟨⟨h.r0, by omega⟩, h.hd⟩, h.len⟩, (okPL_iff n _ _ h.len).2 h.kid⟩
def unroll : Nat → Prs → List Prs
  | m + 3, p => match p.kids with
    | [a, b] => a :: unroll (m + 2) b
    | l => l
  | _, p => p.kids
def bodyAt (g : Gram) (i : Int) : List Int := (nth g.rules i.toNat).body
def toTF (g : Gram) : Nat → Prs → Tre
  | 0, _ => default
  | k + 1, p => .mk (nruleAt (nrmOf g) p.rule).origin 0 ((List.range (bodyAt g (nruleAt (nrmOf g) p.rule).origin).length).map fun i =>
      if 0 ≤ nth (bodyAt g (nruleAt (nrmOf g) p.rule).origin) i then leafT (nth (bodyAt g (nruleAt (nrmOf g) p.rule).origin) i)
      else toTF g k (nth (unroll (bodyAt g (nruleAt (nrmOf g) p.rule).origin).length p) i))
def termP (g : Gram) (x : Int) : Prs := .mk (((chainsN g).length + (tlist g x.toNat).length : Nat) : Int) []
def chainP : Int → List Prs → Prs
  | at_, a :: b :: c :: l => .mk at_ [a, chainP (at_ + 1) (b :: c :: l)]
  | at_, l => .mk at_ l
def fromTF (g : Gram) : Nat → Tre → Prs
  | 0, _ => default
  | k + 1, t => match bodyAt g t.rule with
    | [x] => if 0 ≤ x then .mk (posN g.rules t.rule.toNat) [] else .mk (posN g.rules t.rule.toNat) [fromTF g k (nth t.kids 0)]
    | b => chainP (posN g.rules t.rule.toNat) ((List.range b.length).map fun i => if 0 ≤ nth b i then termP g (nth b i) else fromTF g k (nth t.kids i))
section
variable {g : Gram}
theorem place_of {j : Nat} (hj : j < (nrmOf g).rules.length) : (∃ i k, i < g.rules.length ∧ k < extraN (nth g.rules i) + 1 ∧ j = posN g.rules i + k) ∨
    (∃ t, t < g.terms.length ∧ needT g t = true ∧ j = (chainsN g).length + (tlist g t).length) := by
  rw [nrm_rules, List.length_append, List.length_map] at hj
  rcases Nat.lt_or_ge j (chainsN g).length with h | h
  · exact .inl (chns_place g g.rules 0 (baseN g) j h)
  · obtain ⟨t, a, b, c, d⟩ := tlist_place g (k := g.terms.length) (j := j - (chainsN g).length) (by omega)
    exact .inr ⟨t, a, b, by omega⟩
theorem uniq_low (hv : GVal g) {j : Nat} (hj : j < (nrmOf g).rules.length) (h : (nth (nrmOf g).rules j).head < g.nonterms.length) : ∃ i, i < g.rules.length ∧ j = posN g.rules i := by
  rcases place_of hj with ⟨i, k, h1, h2, rfl⟩ | ⟨t, h1, h2, rfl⟩
  · rw [(chain_head g h1 h2).1] at h
    have hb : baseN g ≤ nxG g i := nxN_ge g.rules (baseN g) i
    have := base_ge g
    split at h
    · rename_i h0; subst h0; exact ⟨i, h1, rfl⟩
    · omega
  · rw [(term_at g h1 h2).2] at h
    simp only [termN, tnum] at h
    omega
theorem uniq_chain (hv : GVal g) {j i k : Nat} (hj : j < (nrmOf g).rules.length) (hi : i < g.rules.length) (hk : k < extraN (nth g.rules i)) (h : (nth (nrmOf g).rules j).head = nxG g i + k) : j = posN g.rules i + k + 1 := by
  have hb : baseN g ≤ nxG g i := nxN_ge g.rules (baseN g) i
  have hb2 := base_ge g
  rcases place_of hj with ⟨i', k', h1, h2, rfl⟩ | ⟨t, h1, h2, rfl⟩
  · rw [(chain_head g h1 h2).1] at h
    split at h
    · have := (hv.rule _ (nth_mem h1)).hn; omega
    · rcases Nat.lt_trichotomy i' i with q | q | q
      · have := nxN_lt (l := g.rules) (nx := baseN g) q hi
        have : nxG g i' + extraN (nth g.rules i') ≤ nxG g i := this
        omega
      · subst q; omega
      · have := nxN_lt (l := g.rules) (nx := baseN g) q h1
        have : nxG g i + extraN (nth g.rules i) ≤ nxG g i' := this
        omega
  · rw [(term_at g h1 h2).2] at h
    simp only [termN, tnum] at h
    have := (tlist_at g h2 h1).1
    unfold baseN at hb
    omega
theorem uniq_term (hv : GVal g) {j t : Nat} (hj : j < (nrmOf g).rules.length) (ht : t < g.terms.length) (hn : needT g t = true) (h : (nth (nrmOf g).rules j).head = tnum g t) : j = (chainsN g).length + (tlist g t).length := by
  have h3 := (tlist_at g hn ht).1
  rcases place_of hj with ⟨i', k', h1, h2, rfl⟩ | ⟨t', h1, h2, rfl⟩
  · rw [(chain_head g h1 h2).1] at h
    have hb : baseN g ≤ nxG g i' := nxN_ge g.rules (baseN g) i'
    unfold tnum at h
    unfold baseN at hb
    split at h
    · have := (hv.rule _ (nth_mem h1)).hn; omega
    · omega
  · rw [(term_at g h1 h2).2] at h
    simp only [termN, tnum] at h
    omega
end
end Go.Lg

namespace Go.Lg
section
variable {g : Gram}
theorem len2 {α : Type} {l : List α} (h : l.length = 2) : ∃ a b, l = [a, b] := by
  match l, h with
  | [a, b], _ => exact ⟨a, b, rfl⟩
theorem chain_rule {i k : Nat} (hi : i < g.rules.length) (h2 : 2 ≤ (nth g.rules i).body.length) (hk : k ≤ (nth g.rules i).body.length - 2) :
    nth (nrmOf g).rules (posN g.rules i + k) = ⟨4, if k = 0 then (nth g.rules i).head else nxG g i + k - 1, symN g (nth (nth g.rules i).body k),
      if k = (nth g.rules i).body.length - 2 then symN g (nth (nth g.rules i).body (k + 1)) else nxG g i + k, if k = 0 then (nth g.rules i).price else 0, if k = 0 then (i : Int) else -1⟩ := by
  rw [(chain_at g hi (k := k) (by unfold extraN; omega)).2, chn_nth g _ _ _ _ _ k h2 hk]
theorem chain_lt {i k : Nat} (hi : i < g.rules.length) (hk : k < extraN (nth g.rules i) + 1) : posN g.rules i + k < (nrmOf g).rules.length := by
  have := (chain_at g hi hk).1
  rw [nrm_rules, List.length_append]; omega
structure Unr (g : Gram) (i k : Nat) (p : Prs) (l : List Prs) : Prop where
  len : l.length = (nth g.rules i).body.length - k
  ok : ∀ j, j < l.length → okP (nrmOf g) (symN g (nth (nth g.rules i).body (k + j))) (nth l j) = true
  back : chainP ((posN g.rules i + k : Nat) : Int) l = p
  sz : ∀ x, x ∈ l → szP x < szP p
theorem unr_of (hv : GVal g) {i : Nat} (hi : i < g.rules.length) (h2 : 2 ≤ (nth g.rules i).body.length) : ∀ (d k : Nat) (p : Prs) (h : Int), d = (nth g.rules i).body.length - 2 - k → k ≤ (nth g.rules i).body.length - 2 →
    p.rule = ((posN g.rules i + k : Nat) : Int) → PIn (nrmOf g) h p → Unr g i k p (unroll ((nth g.rules i).body.length - k) p) := by
  intro d
  induction d with
  | zero =>
    intro k p h hd hk hr hp
    have hk2 : k = (nth g.rules i).body.length - 2 := by omega
    have hR := chain_rule hi h2 hk
    rw [if_pos hk2] at hR
    have hn : p.rule.toNat = posN g.rules i + k := by omega
    have h3 := hp.len
    have h4 := hp.kid
    rw [hn, hR] at h3 h4
    simp only [kidsN, show (4 : Int) ≠ 3 by decide, if_false, if_true] at h3 h4
    obtain ⟨a, b, hab⟩ := len2 (l := p.kids) (by rw [← h3]; rfl)
    have hu : unroll ((nth g.rules i).body.length - k) p = [a, b] := by
      rw [show (nth g.rules i).body.length - k = 2 by omega]
      show p.kids = _
      exact hab
    rw [hu]
    rw [hab] at h4
    refine ⟨by simp only [List.length_cons, List.length_nil]; omega, fun j hj => ?_, ?_, fun x hx => szP_kid (by rw [hab]; exact hx)⟩
    · match j, hj with
      | 0, _ => exact h4 0 (by simp)
      | 1, _ => exact h4 1 (by simp)
    · exact Prs.ext' hr.symm hab.symm
  | succ d ih =>
    intro k p h hd hk hr hp
    have hk2 : ¬ k = (nth g.rules i).body.length - 2 := by omega
    have hR := chain_rule hi h2 hk
    rw [if_neg hk2] at hR
    have hn : p.rule.toNat = posN g.rules i + k := by omega
    have h3 := hp.len
    have h4 := hp.kid
    rw [hn, hR] at h3 h4
    simp only [kidsN, show (4 : Int) ≠ 3 by decide, if_false, if_true] at h3 h4
    obtain ⟨a, b, hab⟩ := len2 (l := p.kids) (by rw [← h3]; rfl)
    rw [hab] at h4
    have ha : okP (nrmOf g) (symN g (nth (nth g.rules i).body k)) a = true := h4 0 (by simp)
    have hb : okP (nrmOf g) (nxG g i + k) b = true := h4 1 (by simp)
    have hb' := okP_in.1 hb
    have hbr := uniq_chain hv hb'.rn hi (by unfold extraN; omega) hb'.hd
    have hu := ih (k + 1) b _ (by omega) (by omega) (by have := hb'.r0; omega) hb'
    obtain ⟨m, hm⟩ : ∃ m, (nth g.rules i).body.length - k = m + 3 := ⟨(nth g.rules i).body.length - k - 3, by omega⟩
    have e1 : (nth g.rules i).body.length - (k + 1) = m + 2 := by omega
    rw [e1] at hu
    have e2 : unroll ((nth g.rules i).body.length - k) p = a :: unroll (m + 2) b := by
      rw [hm, unroll, hab]
    rw [e2]
    have hul := hu.len
    refine ⟨by rw [List.length_cons, hul]; omega, fun j hj => ?_, ?_, fun x hx => ?_⟩
    · cases j with
      | zero => exact ha
      | succ j =>
        have := hu.ok j (by simpa using hj)
        have e : nth (a :: unroll (m + 2) b) (j + 1) = nth (unroll (m + 2) b) j := by simp [nth]
        rw [e, show k + (j + 1) = k + 1 + j by omega]
        exact this
    · obtain ⟨c, c2, l', hl'⟩ : ∃ c c2 l', unroll (m + 2) b = c :: c2 :: l' := by
        match hq : unroll (m + 2) b with
        | [] => rw [hq] at hul; simp at hul; omega
        | [c] => rw [hq] at hul; simp at hul; omega
        | c :: c2 :: l' => exact ⟨c, c2, l', rfl⟩
      have hbk := hu.back
      rw [hl'] at hbk ⊢
      rw [chainP, show ((posN g.rules i + k : Nat) : Int) + 1 = ((posN g.rules i + (k + 1) : Nat) : Int) by push_cast; omega, hbk]
      exact Prs.ext' hr.symm hab.symm
    · rcases List.mem_cons.1 hx with rfl | hx
      · exact szP_kid (by rw [hab]; simp)
      · exact Nat.lt_trans (hu.sz x hx) (szP_kid (by rw [hab]; simp))
theorem termP_rule {x : Int} (h0 : 0 ≤ x) (ht : x.toNat < g.terms.length) (hn : needT g x.toNat = true) : (termP g x).rule.toNat < (nrmOf g).rules.length ∧ nth (nrmOf g).rules (termP g x).rule.toNat = termN g x.toNat := by
  have h1 := term_at g ht hn
  simp only [termP, Prs.rule, Int.toNat_natCast]
  exact h1
theorem termP_only (hv : GVal g) {x : Int} (h0 : 0 ≤ x) (ht : x.toNat < g.terms.length) (hn : needT g x.toNat = true) {p : Prs} (h : okP (nrmOf g) (symN g x) p = true) : p = termP g x := by
  have hp := okP_in.1 h
  have h1 := hp.hd
  rw [symN, if_neg (by omega)] at h1
  have h2 := uniq_term hv hp.rn ht hn h1
  have h3 := hp.len
  rw [h2, (term_at g ht hn).2] at h3
  have h4 : p.kids = [] := List.eq_nil_of_length_eq_zero h3.symm
  exact Prs.ext' (show p.rule = (((chainsN g).length + (tlist g x.toNat).length : Nat) : Int) by have := hp.r0; omega) h4
end
end Go.Lg

namespace Go.Lg
theorem nth_map_range {α : Type} [Inhabited α] (f : Nat → α) {m i : Nat} (h : i < m) : nth ((List.range m).map f) i = f i := by
  have h2 : i < ((List.range m).map f).length := by simpa using h
  rw [nth_eq h2]; simp
section
variable {g : Gram}
theorem sym_need (hv : GVal g) {i j : Nat} (hi : i < g.rules.length) (h2 : 2 ≤ (nth g.rules i).body.length) (hj : j < (nth g.rules i).body.length) (h0 : 0 ≤ nth (nth g.rules i).body j) :
    (nth (nth g.rules i).body j).toNat < g.terms.length ∧ needT g (nth (nth g.rules i).body j).toNat = true := by
  have hm := nth_mem hi
  have hx := nth_mem hj
  have := (hv.rule _ hm).hi _ hx
  exact ⟨by omega, need_of hm h2 hx h0⟩
theorem origin_pos {i : Nat} (hi : i < g.rules.length) : (nth (nrmOf g).rules (posN g.rules i)).origin = i := by
  have := (chain_head g hi (k := 0) (by omega)).2
  simpa using this
theorem head_pos {i : Nat} (hi : i < g.rules.length) : (nth (nrmOf g).rules (posN g.rules i)).head = (nth g.rules i).head := by
  have := (chain_head g hi (k := 0) (by omega)).1
  simpa using this
theorem one_pos {i : Nat} (hi : i < g.rules.length) (h2 : (nth g.rules i).body.length < 2) : ∃ kd a, nth (nrmOf g).rules (posN g.rules i) = ⟨kd, (nth g.rules i).head, a, 0, (nth g.rules i).price, i⟩ ∧
    (((nth g.rules i).body = [] ∧ kd = 1 ∧ a = 0) ∨ (∃ x, (nth g.rules i).body = [x] ∧ 0 ≤ x ∧ kd = 2 ∧ a = x) ∨ (∃ x, (nth g.rules i).body = [x] ∧ x < 0 ∧ kd = 3 ∧ a = -1 - x)) := by
  obtain ⟨kd, a, q1, q2⟩ := chn_one g (h := (nth g.rules i).head) (p := (nth g.rules i).price) (o := i) (nx := nxG g i) h2
  have := (chain_at g hi (k := 0) (by omega)).2
  rw [Nat.add_zero, q1] at this
  exact ⟨kd, a, this, q2⟩
theorem toTF_at {i k : Nat} {p : Prs} (hi : i < g.rules.length) (hp : p.rule = posN g.rules i) : toTF g (k + 1) p = .mk i 0 ((List.range (nth g.rules i).body.length).map fun j =>
    if 0 ≤ nth (nth g.rules i).body j then leafT (nth (nth g.rules i).body j) else toTF g k (nth (unroll (nth g.rules i).body.length p) j)) := by
  have ho : (nruleAt (nrmOf g) p.rule).origin = i := by rw [hp]; simp only [nruleAt, Int.toNat_natCast]; exact origin_pos hi
  have hb : bodyAt g (i : Int) = (nth g.rules i).body := by simp only [bodyAt, Int.toNat_natCast]
  rw [toTF, ho, hb]
theorem fromTF_chain {k : Nat} {t : Tre} (h2 : 2 ≤ (nth g.rules t.rule.toNat).body.length) : fromTF g (k + 1) t = chainP (posN g.rules t.rule.toNat) ((List.range (nth g.rules t.rule.toNat).body.length).map fun i =>
    if 0 ≤ nth (nth g.rules t.rule.toNat).body i then termP g (nth (nth g.rules t.rule.toNat).body i) else fromTF g k (nth t.kids i)) := by
  rw [fromTF]
  unfold bodyAt
  generalize (nth g.rules t.rule.toNat).body = b at *
  match b, h2 with
  | x :: y :: l, _ => rfl
structure From (g : Gram) (x : Int) (k : Nat) (t : Tre) : Prop where
  ok : okP (nrmOf g) (-1 - x) (fromTF g k t) = true
  yl : yieldP (nrmOf g) (fromTF g k t) = leavesT t
  pr : priceP (nrmOf g) (fromTF g k t) = priceT g t
  back : toTF g k (fromTF g k t) = t
end
end Go.Lg

namespace Go.Lg
section
variable {g : Gram}
theorem low_pos (hv : GVal g) {h : Int} (hl : h < g.nonterms.length) {p : Prs} (hp : PIn (nrmOf g) h p) : ∃ i, i < g.rules.length ∧ p.rule = posN g.rules i ∧ (nth g.rules i).head = h := by
  obtain ⟨i, h1, h2⟩ := uniq_low hv hp.rn (by rw [hp.hd]; exact hl)
  have h3 := hp.hd
  rw [h2, head_pos h1] at h3
  exact ⟨i, h1, by have := hp.r0; omega, h3⟩
end
end Go.Lg

namespace Go.Lg
section
variable {g : Gram}
structure Stp (g : Gram) (i m : Nat) (q a b : Prs) : Prop where
  kids : q.kids = [a, b]
  ok : okP (nrmOf g) (symN g (nth (nth g.rules i).body m)) a = true
  last : m = (nth g.rules i).body.length - 2 → okP (nrmOf g) (symN g (nth (nth g.rules i).body (m + 1))) b = true ∧ unroll ((nth g.rules i).body.length - m) q = [a, b]
  next : m ≠ (nth g.rules i).body.length - 2 → b.rule = ((posN g.rules i + (m + 1) : Nat) : Int) ∧ PIn (nrmOf g) (nxG g i + m) b ∧ unroll ((nth g.rules i).body.length - m) q = a :: unroll ((nth g.rules i).body.length - (m + 1)) b
theorem stp_of (hv : GVal g) {i : Nat} (hi : i < g.rules.length) (h2 : 2 ≤ (nth g.rules i).body.length) {m : Nat} {q : Prs} {h : Int} (hm : m ≤ (nth g.rules i).body.length - 2) (hr : q.rule = ((posN g.rules i + m : Nat) : Int)) (hp : PIn (nrmOf g) h q) : ∃ a b, Stp g i m q a b := by
  have hR := chain_rule hi h2 hm
  have hn : q.rule.toNat = posN g.rules i + m := by omega
  have h3 := hp.len
  have h4 := hp.kid
  rw [hn, hR] at h3 h4
  simp only [kidsN, show (4 : Int) ≠ 3 by decide, if_false, if_true] at h3 h4
  obtain ⟨a, b, hab⟩ := len2 (l := q.kids) (by rw [← h3]; rfl)
  rw [hab] at h4
  refine ⟨a, b, hab, h4 0 (by simp), fun he => ?_, fun hne => ?_⟩
  · rw [if_pos he] at h4
    refine ⟨h4 1 (by simp), ?_⟩
    rw [show (nth g.rules i).body.length - m = 2 by omega]
    show q.kids = _
    exact hab
  · rw [if_neg hne] at h4
    have hb : okP (nrmOf g) (nxG g i + m) b = true := h4 1 (by simp)
    have hb' := okP_in.1 hb
    have hbr := uniq_chain hv hb'.rn hi (by unfold extraN; omega) hb'.hd
    refine ⟨by have := hb'.r0; omega, hb', ?_⟩
    obtain ⟨d, hd⟩ : ∃ d, (nth g.rules i).body.length - m = d + 3 := ⟨(nth g.rules i).body.length - m - 3, by omega⟩
    rw [hd, show (nth g.rules i).body.length - (m + 1) = d + 2 by omega, unroll, hab]
def kidT (g : Gram) (k : Nat) (body : List Int) (U : List Prs) (j : Nat) : Tre := if 0 ≤ nth body j then leafT (nth body j) else toTF g k (nth U j)
theorem toTF_kid {i k : Nat} {p : Prs} (hi : i < g.rules.length) (hp : p.rule = posN g.rules i) : toTF g (k + 1) p = .mk i 0 ((List.range (nth g.rules i).body.length).map (kidT g k (nth g.rules i).body (unroll (nth g.rules i).body.length p))) := toTF_at hi hp
theorem range_succ_map {α : Type} (f : Nat → α) (j : Nat) : (List.range (j + 1)).map f = (List.range j).map f ++ [f j] := by rw [List.range_succ, List.map_append]; rfl
theorem nth_mid {α : Type} [Inhabited α] {U L V : List α} {m : Nat} (h : L ++ V = U) (hl : L.length = m) (j : Nat) : nth U (m + j) = nth V j := by
  subst h hl; rw [nth_app2 (by omega), Nat.add_sub_cancel_left]
theorem unr_kids (hv : GVal g) {i : Nat} (hi : i < g.rules.length) {p : Prs} {h : Int} (hpr : p.rule = posN g.rules i) (hp : PIn (nrmOf g) h p) (h1 : ¬ ((nth g.rules i).body.length = 1 ∧ 0 ≤ nth (nth g.rules i).body 0)) :
    (unroll (nth g.rules i).body.length p).length = (nth g.rules i).body.length ∧ (∀ j, j < (nth g.rules i).body.length → okP (nrmOf g) (symN g (nth (nth g.rules i).body j)) (nth (unroll (nth g.rules i).body.length p) j) = true) ∧
    (∀ x, x ∈ unroll (nth g.rules i).body.length p → szP x < szP p) ∧ (2 ≤ (nth g.rules i).body.length ∨ unroll (nth g.rules i).body.length p = p.kids) := by
  by_cases h2 : 2 ≤ (nth g.rules i).body.length
  · have := unr_of hv hi h2 _ 0 p h rfl (by omega) hpr hp
    rw [Nat.sub_zero] at this
    have hl := this.len
    refine ⟨hl, fun j hj => ?_, this.sz, .inl h2⟩
    have := this.ok j (by omega)
    rwa [Nat.zero_add] at this
  · have hu : unroll (nth g.rules i).body.length p = p.kids := by
      have hm : ∀ m, ¬ 2 ≤ m → unroll m p = p.kids := fun m hm => by
        match m, hm with
        | 0, _ => rfl
        | 1, _ => rfl
        | m + 2, hm => omega
      exact hm _ h2
    obtain ⟨kd, a, q1, q2⟩ := one_pos hi (by omega)
    have hn : p.rule.toNat = posN g.rules i := by omega
    have h3 := hp.len
    have h4 := hp.kid
    rw [hn, q1] at h3 h4
    rw [hu]
    refine ⟨?_, ?_, fun x hx => szP_kid hx, .inr rfl⟩
    · rcases q2 with ⟨hb, rfl, rfl⟩ | ⟨x, hb, hx, rfl, rfl⟩ | ⟨x, hb, hx, rfl, rfl⟩
      · rw [← h3, hb]; rfl
      · exact absurd ⟨by rw [hb]; rfl, by rw [hb]; exact hx⟩ h1
      · rw [← h3, hb]; rfl
    · intro j hj
      rcases q2 with ⟨hb, rfl, rfl⟩ | ⟨x, hb, hx, rfl, rfl⟩ | ⟨x, hb, hx, rfl, ha⟩
      · rw [hb] at hj; simp at hj
      · exact absurd ⟨by rw [hb]; rfl, by rw [hb]; exact hx⟩ h1
      · rw [hb] at hj ⊢
        simp only [List.length_cons, List.length_nil] at hj
        obtain rfl : j = 0 := by omega
        have := h4 0 (by rw [← h3]; simp [kidsN])
        simp only [kidsN, if_true] at this
        have e : symN g (nth [x] 0) = a := by rw [ha]; show symN g x = _; rw [symN, if_pos hx]
        rw [e]; exact this
theorem chain_round (hv : GVal g) {i : Nat} (hi : i < g.rules.length) {p q : Prs} {L U : List Prs} {m : Nat} (hU : unroll (nth g.rules i).body.length p = U) (hk : 2 ≤ (nth g.rules i).body.length ∨ U = p.kids) (hUl : U.length = (nth g.rules i).body.length) (hpr : p.rule = posN g.rules i) {h : Int} (hp : PIn (nrmOf g) h p)
    (hq1 : L ++ unroll ((nth g.rules i).body.length - m) q = U) (hq2 : L.length = m) (hq3 : (m = 0 ∧ q = p) ∨ (2 ≤ (nth g.rules i).body.length ∧ m ≤ (nth g.rules i).body.length - 2 ∧ q.rule = ((posN g.rules i + m : Nat) : Int) ∧ ∃ h', PIn (nrmOf g) h' q)) :
    (q.kids.length = 2 ∧ m + 2 < (nth g.rules i).body.length ∧ (L ++ [nth q.kids 0]) ++ unroll ((nth g.rules i).body.length - (m + 1)) (nth q.kids 1) = U ∧ (nth q.kids 1).rule = ((posN g.rules i + (m + 1) : Nat) : Int) ∧ ∃ h', PIn (nrmOf g) h' (nth q.kids 1)) ∨
    (L ++ q.kids = U ∧ ¬ (q.kids.length = 2 ∧ m + 2 < (nth g.rules i).body.length) ∧ (2 ≤ (nth g.rules i).body.length → m + 2 = (nth g.rules i).body.length)) := by
  by_cases h2 : 2 ≤ (nth g.rules i).body.length
  · obtain ⟨q4, q5, h', q6⟩ : m ≤ (nth g.rules i).body.length - 2 ∧ q.rule = ((posN g.rules i + m : Nat) : Int) ∧ ∃ h', PIn (nrmOf g) h' q := by
      rcases hq3 with ⟨rfl, rfl⟩ | ⟨_, a, b, c⟩
      · exact ⟨by omega, by rw [hpr]; simp, h, hp⟩
      · exact ⟨a, b, c⟩
    obtain ⟨a, b, hs⟩ := stp_of hv hi h2 q4 q5 q6
    have hkl : q.kids.length = 2 := by rw [hs.kids]; rfl
    have e0 : nth q.kids 0 = a := by rw [hs.kids]; rfl
    have e1 : nth q.kids 1 = b := by rw [hs.kids]; rfl
    by_cases hm : m = (nth g.rules i).body.length - 2
    · refine .inr ⟨?_, by omega, fun _ => by omega⟩
      rw [hs.kids, ← (hs.last hm).2]; exact hq1
    · obtain ⟨c1, c2, c3⟩ := hs.next hm
      refine .inl ⟨hkl, by omega, ?_, by rw [e1]; exact c1, _, by rw [e1]; exact c2⟩
      rw [e0, e1, List.append_assoc, ← hq1, c3]; rfl
  · rcases hq3 with ⟨rfl, rfl⟩ | ⟨q, _⟩
    · have hL : L = [] := List.eq_nil_of_length_eq_zero hq2
      subst hL
      have := hk.resolve_left h2
      exact .inr ⟨by rw [this]; rfl, by rw [← this]; omega, fun h => absurd h h2⟩
    · exact absurd q h2
end
end Go.Lg

namespace Go.Lg
open Go.Proofs
set_option linter.unusedSimpArgs false
set_option linter.unusedVariables false
attribute [local irreducible] Ap Rq asemC WP RunD Ret Gq thenA inBlockA bodyQ noGotoA RqL RqP OpP
set_option maxHeartbeats 1000000
theorem letter18_fn (c : Int) : Fn Try.prog 83 [.val (.int .u8 c)] (boolA (letB c)) := by
  refine Fn.intro rfl (by kernel_rfl) Try.func83 rfl rfl Try.ntmps83 (by exact Nat.le_of_ble_eq_true rfl) ?_; intro Γ hm
  (repeat' (first | apply jA | apply jH | apply jK | apply jS | (refine WP.regionC (id := 0) ?_; (refine sassign rfl ?_); apply jW) | (refine WP.regionC (id := 1) ?_; (refine smove rfl ?_); (refine su (ageq rfl rfl) ?_); (refine smove rfl ?_); (refine sg (gq_vt rfl rfl) (fun he => ap_move (rq_p rfl rfl)) ?_); (refine sg (gq_vt rfl rfl) (fun he => ap_leq (rq_c rfl rfl) (rq_p rfl rfl)) ?_); (refine su (ap_and (rq_p rfl rfl) (rq_c rfl rfl)) ?_); (refine smove rfl ?_); (refine sg (gq_vf rfl rfl) (fun he => ap_move (rq_p rfl rfl)) ?_); (refine sg (gq_vf rfl rfl) (fun he => ap_geq (rq_c rfl rfl) (rq_p rfl rfl)) ?_); (refine sg (gq_vf rfl rfl) (fun he => ap_move (rq_c rfl rfl)) ?_); (refine sg (gq_ct rfl rfl) (fun he => ap_move (rq_p rfl rfl)) ?_); (refine sg (gq_ct rfl rfl) (fun he => ap_leq (rq_c rfl rfl) (rq_p rfl rfl)) ?_); (refine sg (gq_vf rfl rfl) (fun he => ap_and (rq_c rfl rfl) (rq_c rfl rfl)) ?_); (refine su (ap_or (rq_p rfl rfl) (rq_c rfl rfl)) ?_); (refine sassign rfl ?_); apply jW) | exact ret_eq rfl rfl rfl))
theorem indexFunc_fn (l : List Int) (g : FuncId) (cap : List AV) (p : Int → Bool) (hcap : ∀ n, bdL n cap = true) (h : ∀ x, x ∈ l → Fn Try.prog g (intA x :: cap) (boolA (p x))) :
    Fn Try.prog 76 [intsA l, .clo (.func g) [] cap] (intA (indexP p l)) := by
  refine Fn.intro rfl (by kernel_rfl) Try.func76 rfl rfl Try.ntmps76 (by exact Nat.le_of_ble_eq_true rfl) ?_; intro Γ hm
  refine wp_lens 0 rfl fun h0 => ?_
  rw [lens_intsA] at h0
  (repeat' (first | apply jA | apply jF | apply jH | (refine WP.regionC (id := 0) ?_; (refine sassign rfl ?_); apply jW) | (refine WP.regionC (id := 1) ?_; (refine smove rfl ?_); (refine slenm rfl rfl ?_); (refine smove rfl ?_); apply jW)))
  refine wp_loop (fun k => k ≤ l.length ∧ (l.take k).any p = false) (fun k => l.length - k) (fun k => (S 19 [(0, intsA l), (1, .clo (.func g) [] cap), (7, intA (l.length : Nat)), (8, intA (k : Nat))] 0 [])) 0 ⟨[], ToR.S rfl (by repeat' (first | exact rt_nil | refine rt_e rfl rfl ?_ | refine rt_p rfl rfl (by first | (simp [AV.bd, bdL, bdL_append]; done) | (simp [AV.bd, bdL, bdL_append, *]; done) | fail) ?_)) (by repeat' (exact ro_nil)) rfl (by (rw [hm]; exact rfl)) rfl (by simp [bdT, AV.bd, bdL, bdL_append, *]) (by repeat' (exact True.intro)) (by (rw [hm]; exact Nat.le_of_ble_eq_true rfl))⟩ ⟨Nat.zero_le _, rfl⟩ ?_
  rintro k ⟨hk, hall⟩
  (repeat' (first | apply jA | apply jF | apply jH | apply jI | apply jJ | apply jK | apply jL | apply jM | apply jN | apply jO | apply jP | apply jS | (refine wp_cond rfl (fun hc => ?_) (fun hc => ?_) <;> (try simp only [sB, ne_eq, reduceCtorEq] at hc) <;> (try (exfalso; omega))) | (refine WP.regionC (id := 2) ?_; (refine slss rfl rfl ?_); apply jW) | (refine WP.regionC ?_; (refine smove rfl ?_); (refine sassign rfl ?_); apply jW) | (refine WP.regionC (id := 4) ?_; (refine smove rfl ?_); (refine smove rfl ?_); (refine smove rfl ?_); (refine sidxn rfl rfl (by omega) ?_); (refine sloadw rfl rfl ?_); (refine sc_p rfl rfl (by first | ((repeat' first | refine SubL.cons ?_ ?_ | exact SubL.rfl | exact Sub.refl); done) | fail) (by first | (simp [bdL, bdL_append, AV.bd, *]; done) | fail) (h _ (nth_mem (by omega))) ?_); apply jW) | (refine WP.regionC (id := 6) ?_; (refine sadd rfl rfl (by exact inr_i64_of (by omega)) ?_); (refine smove rfl ?_); apply jW) | (refine WP.regionC (id := 7) ?_; (refine sassign rfl ?_); apply jW) | refine ret_i rfl ?_))
  · exact (indexP_at (by omega) hall hc).symm
  · exact ⟨k + 1, ⟨by omega, by omega, take_any_succ (by omega) hall hc⟩, ⟨[], ToR.S rfl (by repeat' (first | exact rt_nil | refine rt_e rfl rfl ?_ | refine rt_p rfl rfl (by first | (simp [AV.bd, bdL, bdL_append]; done) | (simp [AV.bd, bdL, bdL_append, *]; done) | fail) ?_)) (by repeat' (exact ro_nil)) rfl (by (rw [hm]; exact rfl)) rfl (by simp [bdT, AV.bd, bdL, bdL_append, *]) (by repeat' (exact True.intro)) (by (rw [hm]; exact Nat.le_of_ble_eq_true rfl))⟩⟩
  · exact (indexP_no (by omega) hall).symm
theorem containsFunc_fn (l : List Int) (g : FuncId) (cap : List AV) (p : Int → Bool) (hcap : ∀ n, bdL n cap = true) (h : ∀ x, x ∈ l → Fn Try.prog g (intA x :: cap) (boolA (p x))) :
    Fn Try.prog 59 [intsA l, .clo (.func g) [] cap] (boolA (l.any p)) := by
  refine Fn.intro rfl (by kernel_rfl) Try.func59 rfl rfl Try.ntmps59 (by exact Nat.le_of_ble_eq_true rfl) ?_; intro Γ hm
  (repeat' (first | apply jA | apply jH | apply jK | apply jS | (refine WP.regionC (id := 0) ?_; (refine sassign rfl ?_); apply jW) | (refine WP.regionC (id := 1) ?_; (refine smove rfl ?_); (refine smove rfl ?_); (refine sc_p rfl rfl (by first | ((repeat' first | exact SubL.nil | refine SubL.cons ?_ ?_ | exact Sub.refl); done) | fail) (by first | (simp [bdL, bdL_append, AV.bd, *]; done) | fail) (indexFunc_fn _ _ _ p hcap h) ?_); (refine su (ageq rfl rfl) ?_); (refine sassign rfl ?_); apply jW) | refine ret_b rfl ?_))
  exact indexP_any
end Go.Lg

namespace Go.Lg
open Go.RowKit
structure FnO (P : Program) (g : FuncId) (ys : List AV) (os : List AObj) (X : AV) (os' : List (Option AObj)) : Prop where
  spec : Spec P g ys (os.map some) fun r o' => r = X ∧ o' = os'
  len : os.length ≤ os'.length
  bd : X.bd os'.length = true
def newO (π : Nat → Nat) (M : Nat) : List (Option AObj) → List (Nat × Option AObj) → List (Nat × Option AObj)
  | [], os => os
  | o :: r, os => newO π (M + 1) r ((M, o.map (AObj.ren π)) :: os)
def updN (π : Nat → Nat) (M : Nat) : List Nat → List (Option AObj) → List (Nat × Option AObj) → List (Nat × Option AObj)
  | i :: is, o :: os', os => updN π M is os' ((i, o.map (AObj.ren π)) :: os)
  | _, os', os => newO π M os' os
theorem ol_newO {π : Nat → Nat} : ∀ (os' : List (Option AObj)) (M : Nat) (os : List (Nat × Option AObj)), ol M os ++ os'.map (Option.map (AObj.ren π)) = ol (M + os'.length) (newO π M os' os)
  | [], M, os => by simp [newO]
  | o :: r, M, os => by
    rw [List.map_cons, ← List.singleton_append, ← List.append_assoc, ol_push, ol_newO r (M + 1), newO]
    congr 1; simp; omega
theorem updN_ol {π : Nat → Nat} {M : Nat} : ∀ (is : List Nat) (os' : List (Option AObj)) (os : List (Nat × Option AObj)), is.length ≤ os'.length → updO π (ol M os) is os' = ol (M + (os'.length - is.length)) (updN π M is os' os)
  | [], os', os, _ => by
    have e : updN π M [] os' os = newO π M os' os := by unfold updN; rfl
    have e2 : updO π (ol M os) [] os' = ol M os ++ os'.map (Option.map (AObj.ren π)) := by unfold updO; rfl
    rw [e, e2, ol_newO]; simp
  | i :: is, o :: os', os, h => by
    simp only [updO, ol_set, updN]
    rw [updN_ol is os' _ (by simpa using h)]
    simp
  | _ :: _, [], _, h => by simp at h
section
variable {P : Program} {Γ : Cx} {n M : Nat} {l : List (Nat × AV)} {os : List (Nat × Option AObj)} {x X : AV} {d t : Tmp} {ty : TypeId} {pos : String} {af : Array Edge} {ops : Array Oper} {rest : List Oper} {K : St → Prop} {g : FuncId} {first cap xa ys : List AV} {f : Operand} {args : Array Operand} {tys : Array TypeId}
theorem sc_o {aos : List AObj} {os' : List (Option AObj)} (is : List Nat) (hf : opq n l f = some (.clo (.func g) first cap)) (has : opqL n l args.toList = some xa) (hspec : FnO P g ys aos X os')
    (hL : Lend is (S n l M os) (first ++ xa ++ cap) ys aos)
    (hk : asemC P ops rest (S n ((d, X.ren (apx M is)) :: l) (M + (os'.length - is.length)) (updN (apx M is) M is os' os)) K) :
    asemC P ops (⟨some d, .call ⟨.value f, args, tys⟩, ty, pos, af, none⟩ :: rest) (S n l M os) K := by
  simp only [asemC]
  refine .inl ?_
  have hM : (S n l M os).objs.length = M := ol_length M os
  simp only [execA, opq_op hf, opqL_op has]
  refine Call.via is hspec.spec hL ?_
  rintro r o' ⟨rfl, rfl⟩
  have hil : is.length = aos.length := by have := wkRO_len hL.2.1; simpa using this.symm
  have := hspec.len
  refine ⟨hspec.len, hspec.bd, ?_⟩
  rw [hM]
  have e : (⟨(S n l M os).tmps, updO (apx M is) (S n l M os).objs is o'⟩ : St) = S n l (M + (o'.length - is.length)) (updN (apx M is) M is o' os) := by
    simp only [S]; rw [updN_ol is o' os (by omega)]
  rw [e, S_put]
  exact hk
def RetO (P : Program) (rs : List ResultVar) (m : Nat) (X : AV) (os' : List (Option AObj)) (s : St) : Prop :=
  ∃ x is, resN P s rs = some x ∧ ToR m is ⟨[x], s.objs⟩ ⟨[X], os'⟩
theorem FnO.intro {fn : Func} {c : Code} {aos : List AObj} {os' : List (Option AObj)} {rs : List ResultVar} (hlen : aos.length ≤ os'.length) (hbd : X.bd os'.length = true) (he : enterable P g = true) (hf : P.funcs[g]? = some fn) (hb : fn.body = some c) (hrs : fn.results = rs.toArray) (hn : fn.ntmps = n) (hl : ys.length ≤ n)
    (h : ∀ Γ : Cx, Γ.m = aos.length → WP P Γ c (bodyQ (RetO P rs aos.length X os')) (S n (enumA 0 ys) aos.length (enumO 0 aos))) : FnO P g ys aos X os' := by
  refine ⟨Spec.introR he hf hb (rs := rs) (by rw [hrs]) fun Γ hm => ?_, hlen, hbd⟩
  subst hn
  rw [List.length_map] at hm
  rw [tl_start _ _ hl]
  have hw := h Γ hm
  simp only [S, ← ol_enum] at hw
  refine WP.mono hw ?_
  have key : ∀ s, RetO P rs aos.length X os' s → ∃ x y l t, resN P s rs = some x ∧ ToR (aos.map some).length l ⟨[x], s.objs⟩ ⟨[y], t⟩ ∧ (y = X ∧ t = os') := by
    rintro s ⟨x, is, h1, h2⟩
    exact ⟨x, X, is, os', h1, by rw [List.length_map]; exact h2, rfl, rfl⟩
  intro e s hq
  cases e with
  | normal => exact key s hq
  | ret => exact key s hq
  | _ => exact hq
theorem retO_L {m : Nat} {rs : List ResultVar} {xs : List AV} {os' : List (Option AObj)} {os1 : List (Nat × Option AObj)} {k : Nat} (hr : ResL P n l M os rs xs) (hx : tupA xs = x) (hT : ∃ is, ToR m is (S 1 [(0, x)] M os) (S 1 [(0, X)] k os1)) (he : ol k os1 = os') : RetO P rs m X os' (S n l M os) := by
  obtain ⟨is, hT⟩ := hT
  refine ⟨x, is, ?_, ?_⟩
  · simp only [resN, hr.ok, Option.map_some, hx]
  · subst he
    have e1 : ∀ y : AV, tl 1 [(0, y)] = [y] := fun y => rfl
    simp only [S, e1] at hT
    exact hT
end
end Go.Lg

namespace Go.Lg
open Go.RowKit
section
variable {P : Program} {Γ : Cx} {a : Act} {w : World}
theorem asemC_one {ops : Array Oper} {s : St} {o : Oper} {K : St → Prop} {QQ : Exit → Act → World → Prop} (hg : o.guard = none) (h : SR Γ s a w) (hk : asemC P ops [o] s K) : o.wp P a w (fun a' w' => ∃ s', K s' ∧ SR Γ s' a' w') QQ := by
  simp only [asemC, hg] at hk
  rcases hk with hk | ⟨x, hx, hk⟩ | ⟨s1, hk, hs1⟩
  · exact exec_sound h hk fun s' a' w' hk' hs' => ⟨s', hk', hs'⟩
  · obtain ⟨ρ, hρ⟩ := h
    obtain ⟨v, hrun, hrv⟩ := pure_sound (P := P) hρ (e := []) rfl hx
    unfold Oper.wp
    rw [hrun]
    exact ⟨_, hk, ρ, by simpa using hρ.put o.dst hrv⟩
  · obtain ⟨v, w', hrun, hsr⟩ := hs1 Γ a w h
    unfold Oper.wp
    rw [hrun]
    exact ⟨_, hk, hsr⟩
end
section
variable {P : Program} {Γ : Cx} {ops : Array Oper}
end
end Go.Lg

namespace Go.Lg
section
variable {P : Program} {n M N i : Nat} {l : List (Nat × AV)} {os : List (Nat × Option AObj)} {a b : Operand} {d : Tmp} {ty : TypeId} {pos : String} {af : Array Edge} {ops : Array Oper} {rest : List Oper} {KK : List Rec → St → Prop} {K : St → Prop} {rs : List Rec}
end
section
variable {P : Program} {Γ : Cx} {c : Code} {Q : Exit → St → Prop} {n M : Nat} {l : List (Nat × AV)} {os : List (Nat × Option AObj)}
theorem wp_st (t : St) {s : St} (h0 : ∃ is, ToR Γ.m is s t) (h : WP P Γ c Q t) : WP P Γ c Q s := by
  obtain ⟨is, h0⟩ := h0; exact .toR is t h0 h
end
section
variable {P : Program} {n M : Nat} {l : List (Nat × AV)} {os : List (Nat × Option AObj)} {d t : Tmp} {ty : TypeId} {pos : String} {af : Array Edge} {ops : Array Oper} {rest : List Oper} {K : St → Prop} {j : Nat} {want b : Bool} {x : AV} {op : Op}
end
theorem ret_c {P : Program} {n : Nat} {l : List (Nat × AV)} {M : Nat} {os : List (Nat × Option AObj)} {a : Tmp} {ty : TypeId} {ti : TI} [hti : TIc P ty ti] {id k i j : Nat} {es : List AV} {y x X : AV} (h : opq n l (.tmp a) = some (.ptr id k i j)) (ho : lookq M os id = some (.arr k es)) (hi : es[i]? = some y) (hp : part ti y.cells j = some x)
    (hz : Fz (lookq M os) x X) : Ret P [.cell a ty] X (S n l M os) := by
  refine ⟨x, ?_, by rw [S_look']; exact hz⟩
  have := (ResL.cellT h ho hi hp .nil : ResL P n l M os [.cell a ty] [x]).ok
  simp only [resN, this, Option.map_some, tupA]
theorem Fz.rowL {look : Nat → Option AObj} {id k n : Nat} {es ys : List AV} (hlook : look id = some (.arr k es)) (hn : es.length = n) (hk : (ys.all fun e => Nat.beq e.cells.length k) = true) (h : FzL look es ys) : Fz look (.ref id k 0 n) (.sl k ys) := by
  have hz := h.fzs
  have hl := Fzs_len hz
  have e : (es.drop 0).take n = es := by rw [List.drop_zero, List.take_of_length_le (by omega)]
  refine Fz.ref' hlook (by omega) (by omega) (fun y hy => Nat.eq_of_beq_eq_true (List.all_eq_true.1 hk y hy)) fun i x y hx hy => ?_
  rw [e] at hx
  exact Fzs_get hz i x y hx hy
end Go.Lg

namespace Go.Lg
open Go.RowKit
section
variable {P : Program} {Γ : Cx} {n M : Nat} {l : List (Nat × AV)} {os : List (Nat × Option AObj)} {Q : Exit → St → Prop}
end
section
variable {P : Program} {n M : Nat} {l : List (Nat × AV)} {os : List (Nat × Option AObj)} {d t : Tmp} {ty : TypeId} {pos : String} {af : Array Edge} {ops : Array Oper} {rest : List Oper} {K : St → Prop} {j : Nat} {want p : Bool} {x : AV} {op : Op} {a b c : Operand}
end
end Go.Lg

namespace Go.Lg
open Go.RowKit
def WPL (P : Program) (Γ : Cx) (ops : Array Oper) (l : List Oper) (Q : Exit → St → Prop) (s : St) : Prop :=
  ∀ a w, SR Γ s a w → wpList P ops (fun e a' w' => ∃ s', Q e s' ∧ SR Γ s' a' w') l a w
section
variable {P : Program} {Γ : Cx} {ops : Array Oper} {Q : Exit → St → Prop} {s : St} {rest : List Oper} {o : Oper}
variable {n M : Nat} {l : List (Nat × AV)} {os : List (Nat × Option AObj)}
end
end Go.Lg

namespace Go.Lg
open Go.RowKit
def CallX (P : Program) (fv : AV) (args : List AV) (s : St) (v : Value) (s' : St) : Prop :=
  ∀ (Γ : Cx) (a : Act) (w : World) (f : Value) (vs : List Value), SR Γ s a w → (∀ ρ, SRa Γ (fun id => id < s.objs.length) ρ s a w → RV (fun id => id < s.objs.length) ρ (Im Γ ρ s w) w fv f ∧ vs.length = args.length ∧
      ∀ (i : Nat) x v, args[i]? = some x → vs[i]? = some v → RV (fun id => id < s.objs.length) ρ (Im Γ ρ s w) w x v) →
    ∃ g us, (∀ w : World, (do let d ← Deferred.ofValue f vs.toArray; invoke d.target d.args : Sem Next).run P w = .ok (.enter g us) w) ∧
      Calls P g us w fun e w' => e = .panicked [{ v, recovered := false }] ∧ SR Γ s' a w'
structure FnX (P : Program) (g : FuncId) (ys : List AV) (os : List AObj) (v : Value) : Prop where
  en : enterable P g = true
  spec : ∀ (Γ : Cx) (vs : Array Value), Γ.m = (os.map some).length ∧ Γ.mrk = false → SR Γ ⟨ys, os.map some⟩ ⟨vs, []⟩ Γ.w0 →
    Calls P g vs Γ.w0 fun e w' => e = .panicked [{ v, recovered := false }] ∧ SR Γ ⟨[.any], os.map fun _ => none⟩ ⟨#[undef], []⟩ w'
section
variable {P : Program} {Γ : Cx} {A : Nat → Prop} {ρ : Nat → Option Nat} {s : St} {a : Act} {w : World}
theorem SRa.view {g : FuncId} {first cap args ys : List AV} {os : List AObj} (l : List Nat) {f : Value} {vs : List Value} (he : enterable P g = true) (h : SRa Γ (fun id => id < s.objs.length) ρ s a w)
    (hf : RV (fun id => id < s.objs.length) ρ (Im Γ ρ s w) w (.clo (.func g) first cap) f) (hl : vs.length = args.length) (hv : ∀ (i : Nat) x v, args[i]? = some x → vs[i]? = some v → RV (fun id => id < s.objs.length) ρ (Im Γ ρ s w) w x v) (hL : Lend l s (first ++ args ++ cap) ys os) :
    ∃ us, (∀ w : World, (do let d ← Deferred.ofValue f vs.toArray; invoke d.target d.args : Sem Next).run P w = .ok (.enter g us) w) ∧ ∃ Γ' : Cx, Γ'.m = os.length ∧ Γ'.w0 = w ∧ Γ'.ds = [] ∧ Γ'.mrk = false ∧ SR Γ' ⟨ys, os.map some⟩ ⟨us, []⟩ w ∧
      ∀ (objs' : List (Option AObj)) w' (r : AV) (v : Value), os.length ≤ objs'.length → SR Γ' ⟨[r], objs'⟩ ⟨#[v], []⟩ w' → SR Γ ⟨s.tmps, updO (apx s.objs.length l) s.objs l objs'⟩ a w' := by
  obtain ⟨us, hrun, hsz, hrv⟩ := call_args he hf hl hv
  obtain ⟨h1, h2, h3, h5, h6⟩ := hL
  have hm : os.length = l.length := by simpa using wkRO_len h2
  have hlive : ∀ j o, os[j]? = some o → s.live (ap l j) (o.ren (ap l)) := fun j o ho => wkRO_get h2 j o (by simp [ho])
  have hlive' : ∀ j, j < l.length → ∃ o, s.live (ap l j) o := fun j hj => ⟨_, hlive j _ (List.getElem?_eq_getElem (by omega))⟩
  have hlt : ∀ j, j < l.length → ap l j < s.objs.length := fun j hj => wkRO_lt h2 j hj
  have happ : ∀ j, j < l.length → ap l j ∈ l := fun j hj => by simp [ap, List.getD, List.getElem?_eq_getElem hj]
  let Γ' : Cx := ⟨w, fun b => Im Γ ρ s w b ∨ ∃ j, j < l.length ∧ ρ (ap l j) = some b, os.length, fun j => ρ (ap l j), h.fr.next.1, h.fr.next.2, fun j hj b hb => by
    obtain ⟨o, ho⟩ := hlive' j (by omega)
    rcases h.own _ o b ho hb with q | ⟨i, hi, q⟩
    · exact Nat.le_trans Γ.hgl q
    · exact Γ.hext i hi b q, [], fun j hj b hb => .inl (.inr ⟨j, by omega, hb⟩), false⟩
  have hst : ∀ id o, St.live ⟨ys, os.map some⟩ id o → os[id]? = some o := fun id o hl => by
    unfold St.live at hl
    simp only [List.getElem?_map, Option.map_eq_some_iff] at hl
    obtain ⟨x, hx, hxo⟩ := hl
    injection hxo with hxo; subst hxo; exact hx
  have hI0 : ∀ b, Im Γ ρ s w b → Im Γ' (fun j => ρ (ap l j)) ⟨ys, os.map some⟩ w b ∧ w.heap[b]? = w.heap[b]? := fun b hb => ⟨⟨.inl (.inl hb), hb.2.1, fun id o hl => hb.2.2 _ _ (hlive id o (hst id o hl))⟩, rfl⟩
  have h0 : SR Γ' ⟨ys, os.map some⟩ ⟨us, []⟩ w := by
    refine ⟨fun j => ρ (ap l j), fun i hi => ⟨by simpa using hi, rfl⟩, by simp only; rw [hsz, wkR_len h1], ?_, fun id o hl => ?_, fun id o hl => (List.getElem?_eq_some_iff.1 hl).1, fun _ hid => hid, fun id o b hl hb => .inr ⟨id, (List.getElem?_eq_some_iff.1 (hst id o hl)).1, hb⟩, fun i j o o' b g1 g2 g3 g4 => ?_, .nil rfl, ⟨Nat.le_refl _, rfl, rfl, rfl, fun _ _ _ => rfl, fun _ _ hn => hn⟩⟩
    · intro i y v hy hu
      simp only at hy hu
      have hi : i < (first ++ args ++ cap).length := by rw [← wkR_len h1]; exact (List.getElem?_eq_some_iff.1 hy).1
      have hx := List.getElem?_eq_getElem hi
      rcases wkR_get h1 i _ y hx hy with rfl | hxy
      · exact .any
      · have := (hrv i _ v hx hu).unren (π := ap l) (n := os.length) (ρ' := fun j => ρ (ap l j)) (fun _ _ => rfl) hI0 (fun _ _ hn => hn) hxy (bdL_iff.1 h5 _ (List.mem_of_getElem? hy))
        simpa using this
    · have := (h.obj _ _ (hlive id o (hst id o hl))).unren (π := ap l) (n := os.length) (ρ' := fun j => ρ (ap l j)) (fun _ _ => rfl) hI0 (fun _ _ hn => hn) (fun _ _ => rfl) (by have := bdO_get h6 id o (by simp [hst id o hl]); cases o <;> exact this)
      simpa using this
    · have e := h.inj _ _ _ _ b (hlive i o (hst i o g1)) (hlive j o' (hst j o' g2)) g3 g4
      have hi := (List.getElem?_eq_some_iff.1 (hst i o g1)).1
      have hj := (List.getElem?_eq_some_iff.1 (hst j o' g2)).1
      rw [hm] at hi hj
      simp only [ap, List.getD, List.getElem?_eq_getElem hi, List.getElem?_eq_getElem hj, Option.getD_some] at e
      exact (List.getElem_inj h3).1 e
  refine ⟨us, hrun, Γ', rfl, rfl, rfl, rfl, h0, ?_⟩
  rintro objs' w' r rv hle ⟨ρ'', hs'⟩
  have hfr := hs'.fr
  have hext : ∀ j, j < l.length → ρ'' j = ρ (ap l j) := fun j hj => (hs'.ext j (by simp only [Γ']; omega)).2
  generalize hs2 : (⟨s.tmps, updO (apx s.objs.length l) s.objs l objs'⟩ : St) = s2
  let ρn : Nat → Option Nat := fun id => if id < s.objs.length then ρ id else ρ'' (id - s.objs.length + l.length)
  have hρold : ∀ id, id < s.objs.length → ρn id = ρ id := fun id hid => if_pos hid
  have hρnew : ∀ j, ρn (apx s.objs.length l j) = ρ'' j := fun j => by
    unfold apx
    split
    · rename_i hj; rw [hρold _ (hlt j hj)]; exact (hext j hj).symm
    · rename_i hj
      simp only [ρn]
      rw [if_neg (by omega)]
      congr 1; omega
  have hn2 : s2.objs.length = s.objs.length + (objs'.length - l.length) := by rw [← hs2]; exact updO_len (by omega)
  have hapx : ∀ j, j < objs'.length → apx s.objs.length l j < s2.objs.length := fun j hj => by
    rw [hn2]; unfold apx
    split
    · rename_i h; have := hlt j h; omega
    · omega
  have cases2 : ∀ id o, s2.live id o → (id < s.objs.length ∧ s.live id o ∧ id ∉ l) ∨ ∃ j o0, St.live ⟨[r], objs'⟩ j o0 ∧ o = o0.ren (apx s.objs.length l) ∧ id = apx s.objs.length l j := by
    intro id o ho
    rw [← hs2] at ho
    exact updO_get (os := objs') (show l.length ≤ objs'.length by omega) (fun j i hi => by
      have hj := (List.getElem?_eq_some_iff.1 hi).1
      have := hlt j hj
      simpa [ap, List.getD, hi] using this) h3 ho
  have hblk : ∀ b, b < w.heap.size → (∀ j, j < l.length → ρ (ap l j) ≠ some b) → w'.heap[b]? = w.heap[b]? := fun b hb hne => hfr.block b hb (fun i hi => hne i (by simp only [Γ'] at hi; omega))
  have hIold : ∀ b, Im Γ ρ s w b → Im Γ ρn s2 w' b ∧ w'.heap[b]? = w.heap[b]? := by
    rintro b ⟨g1, g2, g3⟩
    refine ⟨⟨g1, Nat.lt_of_lt_of_le g2 hfr.size, fun id o ho => ?_⟩, hblk b g2 fun j hj => ?_⟩
    · rcases cases2 id o ho with ⟨c1, c2, _⟩ | ⟨j, o0, c1, _, rfl⟩
      · rw [hρold id c1]; exact g3 id o c2
      · rw [hρnew]
        intro hb
        rcases hs'.own j o0 b c1 hb with q | ⟨i, hi, q⟩
        · simp only [Γ'] at q; omega
        · simp only [Γ'] at hi q
          obtain ⟨o', ho'⟩ := hlive' i (by omega)
          exact g3 _ _ ho' q
    · obtain ⟨o', ho'⟩ := hlive' j hj
      exact g3 _ _ ho'
  have hInew : ∀ b, Im Γ' ρ'' ⟨[r], objs'⟩ w' b → Im Γ ρn s2 w' b ∧ w'.heap[b]? = w'.heap[b]? := by
    rintro b ⟨g1, g2, g3⟩
    refine ⟨⟨?_, g2, fun id o ho => ?_⟩, rfl⟩
    · rcases g1 with (g1 | ⟨j1, q1, q2⟩) | g1
      · exact g1.1
      · obtain ⟨o', ho'⟩ := hlive' j1 q1
        rcases h.own _ o' b ho' q2 with q | ⟨i, hi, q⟩
        · exact .inr q
        · exact Γ.hin i hi b q
      · exact .inr (Nat.le_trans h.fr.size g1)
    · rcases cases2 id o ho with ⟨c1, c2, c3⟩ | ⟨j, o0, c1, _, rfl⟩
      · rw [hρold id c1]
        intro hb
        have := live_block h c2 hb
        rcases g1 with (g1 | ⟨j1, q1, q2⟩) | g1
        · exact g1.2.2 id o c2 hb
        · obtain ⟨o', ho'⟩ := hlive' j1 q1
          have := h.inj _ _ _ _ b c2 ho' hb q2
          exact c3 (this ▸ happ j1 q1)
        · simp only [Γ'] at g1; omega
      · rw [hρnew]; exact g3 j o0 c1
  have hown : ∀ j o0 b, St.live ⟨[r], objs'⟩ j o0 → ρ'' j = some b → w.heap.size ≤ b ∨ ∃ i, i < l.length ∧ ρ (ap l i) = some b := fun j o0 b c1 hb => by
    rcases hs'.own j o0 b c1 hb with q | ⟨i, hi, q⟩
    · exact .inl q
    · exact .inr ⟨i, by simp only [Γ'] at hi; omega, q⟩
  have hw' : SRa Γ (fun id => id < s2.objs.length) ρn s2 a w' := by
    refine ⟨fun i hi => ?_, by rw [← hs2]; exact h.len, ?_, ?_, fun id o ho => (List.getElem?_eq_some_iff.1 ho).1, fun _ hid => hid, ?_, ?_, h.defers.mono hIold, h.fr.turn hfr.size hfr.os hfr.tape hfr.output ?_ hfr.csize⟩
    · have g := h.ext i hi
      exact ⟨by have := g.1; omega, (hρold i g.1).trans g.2⟩
    · intro i x u hx hu
      exact (h.tmp i x u (by rw [← hs2] at hx; exact hx) hu).mono (fun id hid => ⟨by omega, hρold id hid⟩) hIold hfr.csize
    · intro id o ho
      rcases cases2 id o ho with ⟨c1, c2, c3⟩ | ⟨j, o0, c1, rfl, rfl⟩
      · rw [hρold id c1]
        refine (h.obj id o c2).mono (fun id hid => ⟨by omega, hρold id hid⟩) hIold hfr.csize fun c hc => hblk c (live_block h c2 hc) fun j hj hj' => ?_
        obtain ⟨o', ho'⟩ := hlive' j hj
        have := h.inj _ _ _ _ c c2 ho' hc hj'
        exact c3 (this ▸ happ j hj)
      · rw [hρnew]
        exact (hs'.obj j o0 c1).reren (fun id hid => ⟨hapx id hid, hρnew id⟩) hInew (fun _ _ hn => hn) (fun _ _ => rfl)
    · intro id o b ho hb
      rcases cases2 id o ho with ⟨c1, c2, c3⟩ | ⟨j, o0, c1, rfl, rfl⟩
      · rw [hρold id c1] at hb; exact h.own id o b c2 hb
      · rw [hρnew] at hb
        rcases hown j o0 b c1 hb with q | ⟨i, hi, q⟩
        · exact .inl (Nat.le_trans h.fr.size q)
        · obtain ⟨o', ho'⟩ := hlive' i hi
          exact h.own _ _ b ho' q
    · have mix : ∀ id o b j o0, s.live id o → id ∉ l → ρ id = some b → St.live ⟨[r], objs'⟩ j o0 → ρ'' j = some b → False := by
        intro id o b j o0 c2 c3 hb c1 hb'
        rcases hown j o0 b c1 hb' with q | ⟨i, hi, q⟩
        · have := live_block h c2 hb; omega
        · obtain ⟨o', ho'⟩ := hlive' i hi
          have := h.inj _ _ _ _ b c2 ho' hb q
          exact c3 (this ▸ happ i hi)
      intro id id' o o' b ho ho' hb hb'
      rcases cases2 id o ho with ⟨c1, c2, c3⟩ | ⟨j, o0, c1, rfl, rfl⟩ <;> rcases cases2 id' o' ho' with ⟨d1, d2, d3⟩ | ⟨j', o0', d1, rfl, rfl⟩
      · rw [hρold id c1] at hb; rw [hρold id' d1] at hb'
        exact h.inj _ _ _ _ b c2 d2 hb hb'
      · rw [hρold id c1] at hb; rw [hρnew] at hb'
        exact (mix _ _ _ _ _ c2 c3 hb d1 hb').elim
      · rw [hρnew] at hb; rw [hρold id' d1] at hb'
        exact (mix _ _ _ _ _ d2 d3 hb' c1 hb).elim
      · rw [hρnew] at hb hb'
        rw [hs'.inj _ _ _ _ b c1 d1 hb hb']
    · intro b hb
      by_cases hj : ∃ j, j < l.length ∧ ρ (ap l j) = some b
      · obtain ⟨j, hj, hjb⟩ := hj
        obtain ⟨o', ho'⟩ := hlive' j hj
        exact .inr (h.own _ _ b ho' hjb)
      · exact .inl (hblk b hb fun j hj' he => hj ⟨j, hj', he⟩)
  exact ⟨ρn, hw'⟩
theorem CallX.via {g : FuncId} {first cap args ys : List AV} {os : List AObj} (l : List Nat) {pv : Value} (hspec : FnX P g ys os pv) (hL : Lend l s (first ++ args ++ cap) ys os) :
    CallX P (.clo (.func g) first cap) args s pv ⟨s.tmps, updO (apx s.objs.length l) s.objs l (os.map fun _ => none)⟩ := by
  intro Γ a w f vs hs hfv
  obtain ⟨ρ, h⟩ := hs
  obtain ⟨hf, hl, hv⟩ := hfv ρ h
  obtain ⟨us, hrun, Γ', hm, hw, hd, hk, h0, hback⟩ := h.view l hspec.en hf hl hv hL
  refine ⟨g, us, hrun, ?_⟩
  subst hw
  refine (hspec.spec Γ' us ⟨by simp [hm], hk⟩ h0).mono ?_
  rintro e w' ⟨rfl, hs'⟩
  exact ⟨rfl, hback _ _ _ _ (by simp) hs'⟩
theorem SR.dead (h : SR Γ s a w) (hd : Γ.ds = []) {m : Nat} (hm : Γ.m = m) : SR Γ ⟨[.any], List.replicate m none⟩ ⟨#[undef], []⟩ w := by
  obtain ⟨ρ, h⟩ := h
  have hl : ∀ id o, ¬ St.live ⟨[.any], List.replicate m none⟩ id o := fun id o hl => by
    unfold St.live at hl
    simp only [List.getElem?_replicate] at hl
    split at hl <;> simp at hl
  refine ⟨ρ, fun i hi => ⟨by simp; omega, (h.ext i hi).2⟩, rfl, fun i x v hx hv => ?_, fun id o h => absurd h (hl id o), fun id o h => absurd h (hl id o), fun _ hid => hid, fun id o b h => absurd h (hl id o), fun i j o o' b h => absurd h (hl i o), .nil hd.symm, h.fr⟩
  cases i with
  | zero => simp at hx; subst hx; exact .any
  | succ i => simp at hx
end
def bodyX (v : Value) : Exit → St → Prop
  | .panic ch, _ => ch = [{ v, recovered := false }]
  | _, _ => False
section
variable {P : Program} {Γ : Cx} {n M : Nat} {l : List (Nat × AV)} {os : List (Nat × Option AObj)} {x X : AV} {d t : Tmp} {ty : TypeId} {pos : String} {af : Array Edge} {ops : Array Oper} {rest : List Oper} {K : St → Prop} {g : FuncId} {first cap xa ys : List AV} {f : Operand} {args : Array Operand} {tys : Array TypeId} {Q : Exit → St → Prop} {s : St} {next : St → Prop}
theorem FnX.intro {fn : Func} {c : Code} {aos : List AObj} {v : Value} (he : enterable P g = true) (hf : P.funcs[g]? = some fn) (hb : fn.body = some c) (hn : fn.ntmps = n) (hl : ys.length ≤ n)
    (h : ∀ Γ : Cx, Γ.m = aos.length → WP P Γ c (bodyX v) (S n (enumA 0 ys) aos.length (enumO 0 aos))) : FnX P g ys aos v := by
  refine ⟨he, fun Γ vs hm hs => calls_of_wp hf hb ?_⟩
  obtain ⟨ρ, hs⟩ := hs
  have hlen : vs.size = ys.length := hs.len
  have h0 : SR Γ ⟨ys ++ List.replicate (fn.ntmps - ys.length) .any, aos.map some⟩ ⟨vs ++ Array.replicate (fn.ntmps - vs.size) undef, []⟩ Γ.w0 := by
    refine ⟨ρ, hs.ext, by simp [hlen], ?_, hs.obj, hs.made, hs.bound, hs.own, hs.inj, hs.defers, hs.fr⟩
    intro i x v hx hv
    simp only at hx hv
    by_cases hi : i < ys.length
    · rw [List.getElem?_append_left hi] at hx
      rw [Array.getElem?_append_left (by omega)] at hv
      exact hs.tmp i x v hx hv
    · rw [List.getElem?_append_right (by omega)] at hx
      have hm := List.mem_of_getElem? hx
      rw [(List.mem_replicate.1 hm).2]
      exact .any
  subst hn
  rw [tl_start _ _ hl] at h0
  rw [List.length_map] at hm
  have hw := h Γ hm.1
  simp only [S, ← ol_enum] at hw
  refine wp_mono (hw _ _ h0) ?_
  rintro e a' w' ⟨s', hq, hs'⟩
  cases e with
  | panic ch =>
    have hd : Γ.ds = [] := (hs.defers.eq hm.2).symm
    have e1 : (aos.map fun _ => (none : Option AObj)) = List.replicate aos.length none := by
      rw [List.map_const']
    obtain ⟨ρ', hs''⟩ := hs'
    refine ⟨(hs''.defers.eq hm.2).trans hd, ?_⟩
    simp only [bodyX] at hq
    exact ⟨by rw [hq], by rw [e1]; exact SR.dead ⟨ρ', hs''⟩ hd hm.1⟩
  | _ => exact hq.elim
def kill : List Nat → List (Nat × Option AObj) → List (Nat × Option AObj)
  | [], os => os
  | i :: is, os => kill is ((i, none) :: os)
end
end Go.Lg

namespace Go.Lg
open Go.RowKit
set_option linter.unusedVariables false
inductive Res where
  | ok (X : AV) (os : List (Option AObj))
  | die (v : Value)
def FnP (P : Program) (g : FuncId) (ys : List AV) (os : List AObj) : Res → Prop
  | .ok X os' => FnO P g ys os X os'
  | .die v => FnX P g ys os v
def bodyP (P : Program) (rs : List ResultVar) (m : Nat) (r : Res) : Exit → St → Prop
  | .normal, s | .ret, s => ∃ X os', r = .ok X os' ∧ RetO P rs m X os' s
  | .panic ch, _ => ∃ v, r = .die v ∧ ch = [{ v, recovered := false }]
  | _, _ => False
def Res.fine (m : Nat) : Res → Prop
  | .ok X os' => m ≤ os'.length ∧ X.bd os'.length = true
  | .die _ => True
section
variable {P : Program} {Γ : Cx} {n M : Nat} {l : List (Nat × AV)} {os : List (Nat × Option AObj)} {x X : AV} {d t : Tmp} {ty : TypeId} {pos : String} {af : Array Edge} {ops : Array Oper} {rest : List Oper} {K : St → Prop} {g : FuncId} {first cap xa ys : List AV} {f : Operand} {args : Array Operand} {tys : Array TypeId} {Q : Exit → St → Prop} {s : St} {next : St → Prop}
theorem FnP.intro {fn : Func} {c : Code} {aos : List AObj} {rs : List ResultVar} {r : Res} (hr : r.fine aos.length) (he : enterable P g = true) (hf : P.funcs[g]? = some fn) (hb : fn.body = some c) (hrs : fn.results = rs.toArray) (hn : fn.ntmps = n) (hl : ys.length ≤ n)
    (h : ∀ Γ : Cx, Γ.m = aos.length → WP P Γ c (bodyP P rs aos.length r) (S n (enumA 0 ys) aos.length (enumO 0 aos))) : FnP P g ys aos r := by
  cases r with
  | ok X os' =>
    refine FnO.intro hr.1 hr.2 he hf hb hrs hn hl fun Γ hm => WP.mono (h Γ hm) ?_
    intro e s hq
    cases e with
    | normal => obtain ⟨X', o', e, h⟩ := hq; injection e with e1 e2; subst e1 e2; exact h
    | ret => obtain ⟨X', o', e, h⟩ := hq; injection e with e1 e2; subst e1 e2; exact h
    | panic ch => obtain ⟨v, e, _⟩ := hq; cases e
    | _ => exact hq
  | die v =>
    refine FnX.intro he hf hb hn hl fun Γ hm => WP.mono (h Γ hm) ?_
    intro e s hq
    cases e with
    | normal => obtain ⟨X', o', e, h⟩ := hq; cases e
    | ret => obtain ⟨X', o', e, h⟩ := hq; cases e
    | panic ch => obtain ⟨v', e, h⟩ := hq; injection e with e; subst e; exact h
    | _ => exact hq
def PInd (Q : Exit → St → Prop) : Prop := ∀ ch s t x, Q (.panic ch) s → Q (.panic ch) (s.put t x)
theorem pind_then (h : PInd Q) : PInd (thenA next Q) := fun ch s t x hq => h ch s t x hq
theorem pind_block {id : Nat} (h : PInd Q) : PInd (inBlockA id Q) := fun ch s t x hq => h ch s t x hq
theorem pind_q {R : St → Prop} : PInd (bodyQ R) := fun ch s t x hq => hq
def liftQ (Γ : Cx) (Q : Exit → St → Prop) : Exit → Act → World → Prop := fun e a' w' => ∃ s', Q e s' ∧ SR Γ s' a' w'
def WPT (P : Program) (Γ : Cx) (ops : Array Oper) (Q : Exit → St → Prop) (fuel : Nat) (listed : Array Bool) (s : St) : Prop :=
  ∀ a w, SR Γ s a w → wpAny P .any ops (liftQ Γ Q) fuel listed a w
def WPO (P : Program) (Γ : Cx) (ops : Array Oper) (Q : Exit → St → Prop) (i : Nat) (K : St → Prop) (s : St) : Prop :=
  ∀ a w, SR Γ s a w → wpOp P ops (liftQ Γ Q) i (fun a' w' => ∃ s', K s' ∧ SR Γ s' a' w') a w
def AllO (P : Program) (Γ : Cx) (ops : Array Oper) (Q : Exit → St → Prop) (fuel : Nat) (listed : Array Bool) (s : St) : List Nat → Prop
  | [] => True
  | i :: r => WPO P Γ ops Q i (WPT P Γ ops Q fuel (listed.setIfInBounds i true)) s ∧ AllO P Γ ops Q fuel listed s r
theorem wp_tree {id : Nat} {L : List Oper} (k : Nat) (hm : P.follows .mixedOrders = true) (hk : L.length = k) (h : WPT P Γ L.toArray Q k (Array.replicate k false) s) : WP P Γ (.region id L.toArray true) Q s := by
  intro a w hs
  have hsz : L.toArray.size = k := by simpa using hk
  refine wp_region_any hm ?_
  rw [hsz]
  exact h a _ (hs.drawn _)
variable {fuel i : Nat} {listed : Array Bool}
theorem wpt_all {rs : List Nat} (hr : Region.ready .any ops listed = rs) (hne : rs.isEmpty = false) (h : AllO P Γ ops Q fuel listed s rs) : WPT P Γ ops Q (fuel + 1) listed s := by
  intro a w hs
  refine wpAny_all hr (by cases rs <;> simp_all) fun i hi => ?_
  have key : ∀ rs, AllO P Γ ops Q fuel listed s rs → ∀ i, i ∈ rs → WPO P Γ ops Q i (WPT P Γ ops Q fuel (listed.setIfInBounds i true)) s := by
    intro rs
    induction rs with
    | nil => intro _ i hi; cases hi
    | cons j r ih =>
      intro h i hi
      rcases List.mem_cons.1 hi with rfl | hi
      · exact h.1
      · exact ih h.2 i hi
  exact wpOp_mono (fun a' w' ⟨s', h1, h2⟩ => h1 a' w' h2) (key rs h i hi a w hs)
theorem wpt_end (hr : Region.ready .any ops listed = []) (h : Q .normal s) : WPT P Γ ops Q fuel listed s := fun a w hs => wpAny_done hr ⟨s, h, hs⟩ fuel
theorem wpo_do {o : Oper} (ho : ops[i]? = some o) (hg : o.guard = none) (h : asemC P ops [o] s K) : WPO P Γ ops Q i K s := by
  intro a w hs
  unfold wpOp
  rw [ho]
  simp only
  rw [if_pos (by simp [Region.wanted, hg])]
  exact .inl (asemC_one hg hs h)
def Still (P : Program) (op : Op) : Prop := ∀ (ρ : Operand → Value) (dst : Option Tmp) (ty : TypeId) (pos : String) (af : Array Edge) (v : Value) (w w' w1 : World), (execOp ρ ⟨dst, op, ty, pos, af, none⟩).run P w = .ok (.value v) w1 → (execOp ρ ⟨dst, op, ty, pos, af, none⟩).run P w' = .ok (.value v) w'
theorem still_move {a : Operand} : Still P (.move a) := by
  intro ρ dst ty pos af v w w' w1 h
  simp only [execOp, Sem.run_pure] at h ⊢
  injection h with h1 h2
  rw [h1]
theorem wpt_take {op : Op} (i : Nat) (ho : ops[i]? = some ⟨some d, op, ty, pos, af, none⟩) (hst : Still P op) (hap : Ap P n l M os [] op x) (hs : Region.noSelect ops = true) (hf : Region.free .any ops listed i = true) (hr : (Region.ready .any ops listed).contains i = true) (hQ : PInd Q)
    (hk : WPT P Γ ops Q fuel (listed.setIfInBounds i true) (S n ((d, x) :: l) M os)) : WPT P Γ ops Q (fuel + 1) listed (S n l M os) := by
  intro a w hs'
  obtain ⟨ρ, hρ⟩ := hs'
  obtain ⟨v, hrun, hrv⟩ := pure_sound (P := P) hρ (o := ⟨some d, op, ty, pos, af, none⟩) (e := []) rfl hap
  refine wpAny_take (v := v) ho hs hf hr ?_ (.inl ⟨by simp [Region.wanted], fun w' => hst _ _ _ _ _ _ _ _ _ hrun⟩) ?_
  · rintro c a1 w1 ⟨s', hq, ρ', h'⟩
    by_cases hd : d < a1.tmps.size
    · have hv : a1.tmps[d]? = some a1.tmps[d] := Array.getElem?_eq_getElem hd
      refine ⟨s'.put (some d) .any, hQ _ _ _ _ hq, ρ', ?_⟩
      have h2 := h'.put (some d) (x := .any) (v := a1.tmps[d]) .any
      have e : (a1.put (some d) v).put (some d) a1.tmps[d] = a1 := by
        have e1 : (a1.put (some d) v).put (some d) a1.tmps[d] = a1.put (some d) a1.tmps[d] := by simp [Act.put]
        rw [e1]; exact act_same hv
      rw [e] at h2
      simpa [St.put] using h2
    · refine ⟨s', hq, ρ', ?_⟩
      have e : a1.put (some d) v = a1 := by
        cases a1 with | mk tm df => simp only [Act.put, Act.mk.injEq, and_true]; exact Array.setIfInBounds_eq_of_size_le (by simpa using hd)
      rwa [e] at h'
  · refine hk _ _ ⟨ρ, ?_⟩
    have h2 := hρ.put (some d) hrv
    rw [S_put] at h2
    simpa [S, ol_length] using h2
end
end Go.Lg

namespace Go.Lg
open Go.RowKit
set_option linter.unusedVariables false
section
variable {P : Program} {Γ : Cx} {A : Nat → Prop} {ρ : Nat → Option Nat} {s : St} {a : Act} {w : World}
end
section
variable {P : Program} {Γ : Cx} {n M : Nat} {l : List (Nat × AV)} {os : List (Nat × Option AObj)} {c : Code} {Q : Exit → St → Prop} {ops : Array Oper} {rest : List Oper}
theorem still_fieldAddr {a : Operand} {ty : TypeId} {f off sz : Nat} {ti : TI} [h : TIc P ty ti] (hf : ti.fields[f]? = some (off, sz)) (hz : Nat.beq sz 0 = false) : Still P (.fieldAddr ty a f) := by
  obtain ⟨fs, fd, i, h1, h2, h3, h4, h5⟩ := fields_spec h.h hf (Nat.ne_of_beq_eq_false hz)
  have hz' : ¬ sz = 0 := Nat.ne_of_beq_eq_false hz
  subst h5
  intro ρ dst ty' pos af v w w' w1 h
  have hs : ∀ x : Value, (∃ ad, x = .pointer (some ad)) ∨ (∀ w : World, (Instr.fieldAt ty x f).run P w = (stuck "an address expected (no nilCheck in front?)" : Sem Value).run P w) := by
    intro x
    cases x with
    | pointer o => cases o with
      | some ad => exact .inl ⟨ad, rfl⟩
      | none => exact .inr fun w => by simp [Instr.fieldAt, run_underlying h1, h2, Instr.sureAddr]
    | _ => exact .inr fun w => by simp [Instr.fieldAt, run_underlying h1, h2, Instr.sureAddr]
  rcases hs (ρ a) with ⟨ad, had⟩ | hst
  · simp [execOp, had, Instr.fieldAt, run_underlying h1, h2, Instr.sureAddr, fieldPlace, sizeOf, typeInfo, h4, hz'] at h ⊢
    exact h.1
  · simp only [execOp, Sem.run_bind, hst w] at h
    simp [stuck] at h
end
end Go.Lg

namespace Go.Lg
open Go.Proofs
set_option linter.unusedSimpArgs false
set_option linter.unusedVariables false
attribute [local irreducible] Ap Rq asemC WP RunD Ret Gq thenA inBlockA bodyQ noGotoA RqL RqP OpP
set_option maxHeartbeats 4000000
set_option maxRecDepth 20000
theorem eqT_nrule (a b c d e f a' b' c' d' e' f' : Int) : eqT Try.prog 65 [intA a, intA b, intA c, intA d, intA e, intA f] [intA a', intA b', intA c', intA d', intA e', intA f'] =
    some (decide (a = a') && (decide (b = b') && (decide (c = c') && (decide (d = d') && (decide (e = e') && (decide (f = f') && true)))))) := by
  kernel_rfl
theorem nrul_ext {r s : NRul} (h1 : r.kind = s.kind) (h2 : r.head = s.head) (h3 : r.a = s.a) (h4 : r.b = s.b) (h5 : r.price = s.price) (h6 : r.origin = s.origin) : r = s := by
  cases r; cases s; simp only at h1 h2 h3 h4 h5 h6; subst h1 h2 h3 h4 h5 h6; rfl
theorem eqT_nrul (r s : NRul) : eqT Try.prog 65 [intA r.kind, intA r.head, intA r.a, intA r.b, intA r.price, intA r.origin] [intA s.kind, intA s.head, intA s.a, intA s.b, intA s.price, intA s.origin] = some (decide (r = s)) := by
  rw [eqT_nrule]
  congr 1
  rw [Bool.eq_iff_iff]
  simp only [Bool.and_eq_true, decide_eq_true_eq, and_true]
  exact ⟨fun ⟨h1, h2, h3, h4, h5, h6⟩ => nrul_ext h1 h2 h3 h4 h5 h6, by rintro rfl; simp⟩
section
variable {n M : Nat} {l : List (Nat × AV)} {os : List (Nat × Option AObj)} {e : List (Bool × Nat)} {a b : Operand} {ty2 : TypeId} {r s : NRul}
theorem ap_neqN {e} (ha : Rq n l e a (nruleA r)) (hb : Rq n l e b (nruleA s)) : Ap Try.prog n l M os e (.binOp .neq 65 a b ty2) (boolA (!decide (r = s))) := ap_agg_neq (eqT_nrul r s) ha hb
end
theorem lens_nrm {n : Nrm} (h : (nrmA n).lens) : n.rules.length ≤ 9223372036854775807 := by simp [AV.lens, lensL, nrmA, nrulesA] at h; omega
theorem lens_nruls {l : List NRul} (h : (nrulesA l).lens) : l.length ≤ 9223372036854775807 := by simp [AV.lens, nrulesA] at h; omega
theorem equalN_fn (a b : List NRul) : Fn Try.prog 80 [nrulesA a, nrulesA b] (boolA (decide (a = b))) := by
  refine Fn.intro rfl (by kernel_rfl) Try.func80 rfl rfl Try.ntmps80 (by exact Nat.le_of_ble_eq_true rfl) ?_; intro Γ hm
  refine wp_lens 0 rfl fun h0 => wp_lens 1 rfl fun h1 => ?_
  have h0 := lens_nruls h0
  have h1 := lens_nruls h1
  (repeat' (first | apply jA | apply jF | apply jH | apply jI | apply jK | apply jM | apply jS | (refine wp_cond rfl (fun hc => ?_) (fun hc => ?_) <;> (try simp only [sB, ne_eq, reduceCtorEq] at hc) <;> (try (exfalso; omega))) | (refine WP.regionC ?_; (refine sassign rfl ?_); apply jW) | (refine WP.regionC (id := 1) ?_; (refine smove rfl ?_); (refine slenm rfl rfl ?_); (refine smove rfl ?_); (refine slenm rfl rfl ?_); (refine su (aneq rfl rfl) ?_); apply jW) | (refine WP.regionC (id := 3) ?_; (refine smove rfl ?_); (refine slenm rfl rfl ?_); (refine smove rfl ?_); apply jW) | refine ret_b rfl ?_))
  · have : a ≠ b := by rintro rfl; exact hc rfl
    simp [this]
  refine wp_loop (fun k => k ≤ a.length ∧ a.take k = b.take k) (fun k => a.length - k) (fun k => (S 26 [(0, nrulesA a), (1, nrulesA b), (12, intA (a.length : Nat)), (13, intA (k : Nat))] 0 [])) 0 ⟨[], ToR.S rfl (by repeat' (first | exact rt_nil | refine rt_e rfl rfl ?_ | refine rt_p rfl rfl (by first | (simp [AV.bd, bdL, bdL_append]; done) | fail) ?_)) (by repeat' (exact ro_nil)) rfl (by (rw [hm]; exact rfl)) rfl (by (simp [bdT, AV.bd, bdL, bdL_append]; done)) (by repeat' (exact True.intro)) (by (rw [hm]; exact Nat.le_of_ble_eq_true rfl))⟩ ⟨Nat.zero_le _, rfl⟩ ?_
  rintro k ⟨hk, hall⟩
  have hab : a.length = b.length := by omega
  (repeat' (first | apply jA | apply jF | apply jH | apply jI | apply jJ | apply jK | apply jL | apply jM | apply jN | apply jO | apply jP | apply jS | (refine wp_cond rfl (fun hc => ?_) (fun hc => ?_) <;> (try simp only [sB, ne_eq, reduceCtorEq] at hc) <;> (try (exfalso; omega))) | (refine WP.regionC (id := 4) ?_; (refine slss rfl rfl ?_); apply jW) | (refine WP.regionC (id := 5) ?_; (refine smove rfl ?_); (refine sassign rfl ?_); apply jW) | (refine wp_draw (id := 6) 9 mixed (by kernel_rfl) (by kernel_rfl) rfl ?_ <;> (refine rmove rfl ?_) <;> (refine rmove rfl ?_) <;> (refine rd_u rfl rfl (aidxn rfl rfl (by omega)) ?_) <;> (refine rd_u rfl rfl (aloadw rfl rfl) ?_) <;> (refine rmove rfl ?_) <;> (refine rmove rfl ?_) <;> (refine rd_u rfl rfl (aidxn rfl rfl (by omega)) ?_) <;> (refine rd_u rfl rfl (aloadw rfl rfl) ?_) <;> (refine rd_u rfl rfl (ap_neqN (rq_p rfl rfl) (rq_p rfl rfl)) ?_) <;> (refine rd_end (by kernel_rfl) ?_)) | (refine WP.regionC ?_; (refine sassign rfl ?_); apply jW) | (refine WP.regionC (id := 8) ?_; (refine sadd rfl rfl (by exact inr_i64_of (by omega)) ?_); (refine smove rfl ?_); apply jW) | refine ret_b rfl ?_))
  · have : a ≠ b := by rintro rfl; exact hc rfl
    simp [this]
  · exact ⟨k + 1, ⟨by omega, by omega, take_eq_succ (by omega) (by omega) hall hc⟩, ⟨[], ToR.S rfl (by repeat' (first | exact rt_nil | refine rt_e rfl rfl ?_ | refine rt_p rfl rfl (by first | (simp [AV.bd, bdL, bdL_append]; done) | fail) ?_)) (by repeat' (exact ro_nil)) rfl (by (rw [hm]; exact rfl)) rfl (by (simp [bdT, AV.bd, bdL, bdL_append]; done)) (by repeat' (exact True.intro)) (by (rw [hm]; exact Nat.le_of_ble_eq_true rfl))⟩⟩
  simp [eq_of_takes hab (by omega) hall]
theorem nrm_iff {a b : Nrm} : a = b ↔ (a.terms = b.terms ∧ a.nonterms = b.nonterms) ∧ a.start = b.start ∧ a.rules = b.rules := by
  cases a; cases b; simp only [Nrm.mk.injEq]; constructor
  · rintro ⟨h1, h2, h3, h4⟩; exact ⟨⟨h1, h2⟩, h3, h4⟩
  · rintro ⟨⟨h1, h2⟩, h3, h4⟩; exact ⟨h1, h2, h3, h4⟩
theorem bequal_fn (a b : Nrm) : Fn Try.prog 69 [nrmA a, nrmA b] (boolA (decide (a = b))) := by
  refine Fn.intro rfl (by kernel_rfl) Try.func69 rfl rfl Try.ntmps69 (by exact Nat.le_of_ble_eq_true rfl) ?_; intro Γ hm
  (repeat' (first | apply jA | apply jH | apply jK | apply jS | (refine WP.regionC (id := 0) ?_; (refine se_box rfl (by exact ⟨rfl, rfl⟩) ?_); (refine se_box rfl (by exact ⟨rfl, rfl⟩) ?_); (refine sassign rfl ?_); apply jW) | (refine WP.regionC (id := 1) ?_; (refine sfieldp rfl rfl rfl ?_); (refine sloadp rfl rfl rfl rfl ?_); (refine sfieldp rfl rfl rfl ?_); (refine sloadp rfl rfl rfl rfl ?_); (refine seql rfl rfl ?_); (refine smove rfl ?_); (refine sg (gq_vt rfl rfl) (fun he => ap_field_p (rq_p rfl rfl) rfl rfl) ?_); (refine sg (gq_vt rfl rfl) (fun he => ap_load_p (rq_c rfl rfl) rfl rfl rfl) ?_); (refine sg (gq_vt rfl rfl) (fun he => ap_field_p (rq_p rfl rfl) rfl rfl) ?_); (refine sg (gq_vt rfl rfl) (fun he => ap_load_p (rq_c rfl rfl) rfl rfl rfl) ?_); (refine sg (gq_vt rfl rfl) (fun he => ap_eql (rq_c rfl rfl) (rq_c rfl rfl)) ?_); (refine su (ap_and (rq_p rfl rfl) (rq_c rfl rfl)) ?_); (refine smove rfl ?_); (refine sg (gq_vt rfl rfl) (fun he => ap_field_p (rq_p rfl rfl) rfl rfl) ?_); (refine sg (gq_vt rfl rfl) (fun he => ap_load_p (rq_c rfl rfl) rfl rfl rfl) ?_); (refine sg (gq_vt rfl rfl) (fun he => ap_field_p (rq_p rfl rfl) rfl rfl) ?_); (refine sg (gq_vt rfl rfl) (fun he => ap_load_p (rq_c rfl rfl) rfl rfl rfl) ?_); (refine sg (gq_vt rfl rfl) (fun he => ap_eql (rq_c rfl rfl) (rq_c rfl rfl)) ?_); (refine su (ap_and (rq_p rfl rfl) (rq_c rfl rfl)) ?_); (refine smove rfl ?_); (refine sg (gq_vt rfl rfl) (fun he => ap_field_p (rq_p rfl rfl) rfl rfl) ?_); (refine sg (gq_vt rfl rfl) (fun he => ap_load_p (rq_c rfl rfl) rfl rfl rfl) ?_); (refine sg (gq_vt rfl rfl) (fun he => ap_field_p (rq_p rfl rfl) rfl rfl) ?_); (refine sg (gq_vt rfl rfl) (fun he => ap_load_p (rq_c rfl rfl) rfl rfl rfl) ?_); (refine sg_p (gq_vt rfl rfl) (fun he => ⟨(rq_p rfl rfl), (RqL.cons (rq_c rfl rfl) (RqL.cons (rq_c rfl rfl) (RqL.nil))), (by first | ((repeat' first | exact SubL.nil | refine SubL.cons ?_ ?_ | exact Sub.refl); done) | fail), (by first | (simp [bdL, bdL_append, AV.bd]; done) | fail), equalN_fn a.rules b.rules⟩) ?_); (refine su (ap_and (rq_p rfl rfl) (rq_c rfl rfl)) ?_); (refine sassign rfl ?_); apply jW) | refine ret_b rfl ?_))
  all_goals
    rw [Bool.eq_iff_iff]
    simp only [Bool.and_eq_true, decide_eq_true_eq, nrm_iff, and_assoc]
theorem requal24_fn (a b : Nrm) : Fn Try.prog 15 [nrmA a, nrmA b] (boolA (decide (a = b))) := by
  refine Fn.intro rfl (by kernel_rfl) Try.func15 rfl rfl Try.ntmps15 (by exact Nat.le_of_ble_eq_true rfl) ?_; intro Γ hm
  refine wp_lens 0 rfl fun h0 => wp_lens 1 rfl fun h1 => ?_
  have h0 := lens_nrm h0
  have h1 := lens_nrm h1
  (repeat' (first | apply jA | apply jF | apply jH | apply jI | apply jK | apply jM | apply jS | (refine wp_cond rfl (fun hc => ?_) (fun hc => ?_) <;> (try simp only [sB, ne_eq, reduceCtorEq] at hc) <;> (try (exfalso; omega))) | (refine WP.regionC (id := 0) ?_; (refine se_box rfl (by exact ⟨rfl, rfl⟩) ?_); (refine se_box rfl (by exact ⟨rfl, rfl⟩) ?_); (refine sassign rfl ?_); apply jW) | (refine WP.regionC (id := 1) ?_; (refine sfieldp rfl rfl rfl ?_); (refine sloadp rfl rfl rfl rfl ?_); (refine sfieldp rfl rfl rfl ?_); (refine sloadp rfl rfl rfl rfl ?_); (refine su (aneq rfl rfl) ?_); (refine smove rfl ?_); (refine sg (gq_vf rfl rfl) (fun he => ap_field_p (rq_p rfl rfl) rfl rfl) ?_); (refine sg (gq_vf rfl rfl) (fun he => ap_load_p (rq_c rfl rfl) rfl rfl rfl) ?_); (refine sg (gq_vf rfl rfl) (fun he => ap_field_p (rq_p rfl rfl) rfl rfl) ?_); (refine sg (gq_vf rfl rfl) (fun he => ap_load_p (rq_c rfl rfl) rfl rfl rfl) ?_); (refine sg (gq_vf rfl rfl) (fun he => ap_neq (rq_c rfl rfl) (rq_c rfl rfl)) ?_); (refine su (ap_or (rq_p rfl rfl) (rq_c rfl rfl)) ?_); (refine smove rfl ?_); (refine sg (gq_vf rfl rfl) (fun he => ap_field_p (rq_p rfl rfl) rfl rfl) ?_); (refine sg (gq_vf rfl rfl) (fun he => ap_load_p (rq_c rfl rfl) rfl rfl rfl) ?_); (refine sg (gq_vf rfl rfl) (fun he => ap_field_p (rq_p rfl rfl) rfl rfl) ?_); (refine sg (gq_vf rfl rfl) (fun he => ap_load_p (rq_c rfl rfl) rfl rfl rfl) ?_); (refine sg (gq_vf rfl rfl) (fun he => ap_neq (rq_c rfl rfl) (rq_c rfl rfl)) ?_); (refine su (ap_or (rq_p rfl rfl) (rq_c rfl rfl)) ?_); (refine smove rfl ?_); (refine sg (gq_vf rfl rfl) (fun he => ap_field_p (rq_p rfl rfl) rfl rfl) ?_); (refine sg (gq_vf rfl rfl) (fun he => ap_load_p (rq_c rfl rfl) rfl rfl rfl) ?_); (refine sg (gq_vf rfl rfl) (fun he => ap_len_m rfl (rq_c rfl rfl)) ?_); (refine sg (gq_vf rfl rfl) (fun he => ap_field_p (rq_p rfl rfl) rfl rfl) ?_); (refine sg (gq_vf rfl rfl) (fun he => ap_load_p (rq_c rfl rfl) rfl rfl rfl) ?_); (refine sg (gq_vf rfl rfl) (fun he => ap_len_m rfl (rq_c rfl rfl)) ?_); (refine sg (gq_vf rfl rfl) (fun he => ap_neq (rq_c rfl rfl) (rq_c rfl rfl)) ?_); (refine su (ap_or (rq_p rfl rfl) (rq_c rfl rfl)) ?_); apply jW) | (refine WP.regionC ?_; (refine sassign rfl ?_); apply jW) | refine ret_b rfl ?_))
  · rw [decide_eq_false]
    rintro rfl
    simp at hc
  have hc0 := hc
  refine wp_loop (fun k => k ≤ a.rules.length ∧ a.rules.take k = b.rules.take k) (fun k => a.rules.length - k) (fun k => (S 52 [(2, .ptr 0 4 0 0), (3, .ptr 1 4 0 0), (5, intA (k : Nat))] 2 [(0, some (.arr 4 [nrmA a])), (1, some (.arr 4 [nrmA b]))])) 0 ⟨[0, 1], ToR.S rfl (by repeat' (first | exact rt_nil | refine rt_t rfl rfl ?_ | refine rt_e rfl rfl ?_)) (by repeat' (first | exact ro_nil | refine ro_p rfl (by first | exact rfl | fail) (by first | (simp [bdL, bdL_append, AV.bd]; done) | fail) ?_)) rfl (by (rw [hm]; exact rfl)) rfl (by (simp [bdT, AV.bd, bdL, bdL_append]; done)) (by repeat' (first | exact True.intro | refine And.intro ?_ ?_ | (simp [bdOq, bdL, bdL_append, AV.bd]; done))) (by (rw [hm]; exact Nat.le_of_ble_eq_true rfl))⟩ ⟨Nat.zero_le _, rfl⟩ ?_
  rintro k ⟨hk, hall⟩
  have hab : a.rules.length = b.rules.length := by omega
  (repeat' (first | apply jA | apply jF | apply jH | apply jI | apply jJ | apply jK | apply jL | apply jM | apply jN | apply jO | apply jP | apply jS | (refine wp_cond rfl (fun hc => ?_) (fun hc => ?_) <;> (try simp only [sB, ne_eq, reduceCtorEq] at hc) <;> (try (exfalso; omega))) | (refine WP.regionC (id := 4) ?_; (refine smove rfl ?_); (refine sfieldp rfl rfl rfl ?_); (refine sloadp rfl rfl rfl rfl ?_); (refine slenm rfl rfl ?_); (refine slss rfl rfl ?_); apply jW) | (refine wp_draw (id := 6) 11 mixed (by kernel_rfl) (by kernel_rfl) rfl ?_ <;> (refine rfieldp rfl rfl rfl ?_) <;> (refine rloadp rfl rfl rfl rfl ?_) <;> (refine rmove rfl ?_) <;> (refine rd_u rfl rfl (aidxn rfl rfl (by omega)) ?_) <;> (refine rd_u rfl rfl (aloadw rfl rfl) ?_) <;> (refine rfieldp rfl rfl rfl ?_) <;> (refine rloadp rfl rfl rfl rfl ?_) <;> (refine rmove rfl ?_) <;> (refine rd_u rfl rfl (aidxn rfl rfl (by omega)) ?_) <;> (refine rd_u rfl rfl (aloadw rfl rfl) ?_) <;> (refine rd_u rfl rfl (ap_neqN (rq_p rfl rfl) (rq_p rfl rfl)) ?_) <;> (refine rd_end (by kernel_rfl) ?_)) | (refine WP.regionC ?_; (refine sassign rfl ?_); apply jW) | (refine WP.regionC (id := 5) ?_; (refine smove rfl ?_); (refine sadd rfl rfl (by exact inr_i64_of (by omega)) ?_); (refine sassign rfl ?_); apply jW) | refine ret_b rfl ?_))
  · rw [decide_eq_false]
    rintro rfl
    exact hc rfl
  · exact ⟨k + 1, ⟨by omega, by omega, take_eq_succ (by omega) (by omega) hall hc⟩, ⟨[0, 1], ToR.S rfl (by repeat' (first | exact rt_nil | refine rt_t rfl rfl ?_ | refine rt_e rfl rfl ?_)) (by repeat' (first | exact ro_nil | refine ro_p rfl (by first | exact rfl | fail) (by first | (simp [bdL, bdL_append, AV.bd]; done) | fail) ?_)) rfl (by (rw [hm]; exact rfl)) rfl (by (simp [bdT, AV.bd, bdL, bdL_append]; done)) (by repeat' (first | exact True.intro | refine And.intro ?_ ?_ | (simp [bdOq, bdL, bdL_append, AV.bd]; done))) (by (rw [hm]; exact Nat.le_of_ble_eq_true rfl))⟩⟩
  rw [decide_eq_true]
  exact nrm_iff.2 ⟨⟨by omega, by omega⟩, by omega, eq_of_takes hab (by omega) hall⟩
theorem indexFuncN_fn (l : List NRul) (g : FuncId) (cap : List AV) (p : NRul → Bool) (hcap : ∀ n, bdL n cap = true) (h : ∀ x, x ∈ l → Fn Try.prog g (nruleA x :: cap) (boolA (p x))) :
    Fn Try.prog 56 [nrulesA l, .clo (.func g) [] cap] (intA (indexP p l)) := by
  refine Fn.intro rfl (by kernel_rfl) Try.func56 rfl rfl Try.ntmps56 (by exact Nat.le_of_ble_eq_true rfl) ?_; intro Γ hm
  refine wp_lens 0 rfl fun h0 => ?_
  have hl := lens_nruls h0
  (repeat' (first | apply jA | apply jF | apply jH | (refine WP.regionC (id := 0) ?_; (refine sassign rfl ?_); apply jW) | (refine WP.regionC (id := 1) ?_; (refine smove rfl ?_); (refine slenm rfl rfl ?_); (refine smove rfl ?_); apply jW)))
  refine wp_loop (fun k => k ≤ l.length ∧ (l.take k).any p = false) (fun k => l.length - k) (fun k => (S 19 [(0, nrulesA l), (1, .clo (.func g) [] cap), (7, intA (l.length : Nat)), (8, intA (k : Nat))] 0 [])) 0 ⟨[], ToR.S rfl (by repeat' (first | exact rt_nil | refine rt_e rfl rfl ?_ | refine rt_p rfl rfl (by first | (simp [AV.bd, bdL, bdL_append]; done) | (simp [AV.bd, bdL, bdL_append, *]; done) | fail) ?_)) (by repeat' (exact ro_nil)) rfl (by (rw [hm]; exact rfl)) rfl (by simp [bdT, AV.bd, bdL, bdL_append, *]) (by repeat' (exact True.intro)) (by (rw [hm]; exact Nat.le_of_ble_eq_true rfl))⟩ ⟨Nat.zero_le _, rfl⟩ ?_
  rintro k ⟨hk, hall⟩
  (repeat' (first | apply jA | apply jF | apply jH | apply jI | apply jJ | apply jK | apply jL | apply jM | apply jN | apply jO | apply jP | apply jS | (refine wp_cond rfl (fun hc => ?_) (fun hc => ?_) <;> (try simp only [sB, ne_eq, reduceCtorEq] at hc) <;> (try (exfalso; omega))) | (refine WP.regionC (id := 2) ?_; (refine slss rfl rfl ?_); apply jW) | (refine WP.regionC ?_; (refine smove rfl ?_); (refine sassign rfl ?_); apply jW) | (refine WP.regionC (id := 4) ?_; (refine smove rfl ?_); (refine smove rfl ?_); (refine smove rfl ?_); (refine sidxn rfl rfl (by omega) ?_); (refine sloadw rfl rfl ?_); (refine sc_p rfl rfl (by first | ((repeat' first | refine SubL.cons ?_ ?_ | exact SubL.rfl | exact Sub.refl); done) | fail) (by first | (simp [bdL, bdL_append, AV.bd, *]; done) | fail) (h _ (nth_mem (by omega))) ?_); apply jW) | (refine WP.regionC (id := 6) ?_; (refine sadd rfl rfl (by exact inr_i64_of (by omega)) ?_); (refine smove rfl ?_); apply jW) | (refine WP.regionC (id := 7) ?_; (refine sassign rfl ?_); apply jW) | refine ret_i rfl ?_))
  · exact (indexP_at (by omega) hall hc).symm
  · exact ⟨k + 1, ⟨by omega, by omega, take_any_succ (by omega) hall hc⟩, ⟨[], ToR.S rfl (by repeat' (first | exact rt_nil | refine rt_e rfl rfl ?_ | refine rt_p rfl rfl (by first | (simp [AV.bd, bdL, bdL_append]; done) | (simp [AV.bd, bdL, bdL_append, *]; done) | fail) ?_)) (by repeat' (exact ro_nil)) rfl (by (rw [hm]; exact rfl)) rfl (by simp [bdT, AV.bd, bdL, bdL_append, *]) (by repeat' (exact True.intro)) (by (rw [hm]; exact Nat.le_of_ble_eq_true rfl))⟩⟩
  · exact (indexP_no (by omega) hall).symm
theorem containsFuncN_fn (l : List NRul) (g : FuncId) (cap : List AV) (p : NRul → Bool) (hcap : ∀ n, bdL n cap = true) (h : ∀ x, x ∈ l → Fn Try.prog g (nruleA x :: cap) (boolA (p x))) :
    Fn Try.prog 36 [nrulesA l, .clo (.func g) [] cap] (boolA (l.any p)) := by
  refine Fn.intro rfl (by kernel_rfl) Try.func36 rfl rfl Try.ntmps36 (by exact Nat.le_of_ble_eq_true rfl) ?_; intro Γ hm
  (repeat' (first | apply jA | apply jH | apply jK | apply jS | (refine WP.regionC (id := 0) ?_; (refine sassign rfl ?_); apply jW) | (refine WP.regionC (id := 1) ?_; (refine smove rfl ?_); (refine smove rfl ?_); (refine sc_p rfl rfl (by first | ((repeat' first | exact SubL.nil | refine SubL.cons ?_ ?_ | exact Sub.refl); done) | fail) (by first | (simp [bdL, bdL_append, AV.bd, *]; done) | fail) (indexFuncN_fn _ _ _ p hcap h) ?_); (refine su (ageq rfl rfl) ?_); (refine sassign rfl ?_); apply jW) | refine ret_b rfl ?_))
  exact indexP_any
theorem valid1_fn (n : Nrm) (x : Int) : Fn Try.prog 57 [intA x, .iptr (nrmA n).cells 0] (boolA (inN n x)) := by
  refine Fn.intro rfl (by kernel_rfl) Try.func57 rfl rfl Try.ntmps57 (by exact Nat.le_of_ble_eq_true rfl) ?_; intro Γ hm
  (repeat' (first | apply jA | apply jH | apply jK | apply jS | (refine WP.regionC (id := 0) ?_; (refine sassign rfl ?_); apply jW) | (refine WP.regionC (id := 1) ?_; (refine smove rfl ?_); (refine su (ageq rfl rfl) ?_); (refine smove rfl ?_); (refine sg (gq_vt rfl rfl) (fun he => ap_move (rq_p rfl rfl)) ?_); (refine sg (gq_vt rfl rfl) (fun he => ap_field_i (rq_p rfl rfl) rfl rfl) ?_); (refine sg (gq_vt rfl rfl) (fun he => ap_load_i (rq_c rfl rfl) rfl) ?_); (refine sg (gq_vt rfl rfl) (fun he => ap_lss (rq_c rfl rfl) (rq_c rfl rfl)) ?_); (refine su (ap_and (rq_p rfl rfl) (rq_c rfl rfl)) ?_); (refine sassign rfl ?_); apply jW) | exact ret_eq rfl rfl rfl))
theorem valid_fn (n : Nrm) (r : NRul) : Fn Try.prog 38 [nrmA n, nruleA r] (boolA (nruleOk n r)) := by
  refine Fn.intro rfl (by kernel_rfl) Try.func38 rfl rfl Try.ntmps38 (by exact Nat.le_of_ble_eq_true rfl) ?_; intro Γ hm
  (repeat' (first | apply jA | apply jF | apply jH | apply jI | apply jK | apply jM | apply jN | apply jO | apply jS | (refine wp_cond rfl (fun hc => ?_) (fun hc => ?_) <;> (try simp only [sB, ne_eq, reduceCtorEq] at hc) <;> (try (exfalso; omega))) | (refine WP.regionC (id := 0) ?_; (refine se_box rfl (by exact ⟨rfl, rfl⟩) ?_); (refine se_box rfl (by exact ⟨rfl, rfl⟩) ?_); (refine sassign rfl ?_); apply jW) | (refine WP.regionC (id := 1) ?_; (refine su (ap_clo (RqL.nil) (RqL.cons (rq_p rfl rfl) (RqL.nil))) ?_); (refine sassign rfl ?_); apply jW) | (refine WP.regionC (id := 2) ?_; (refine smove rfl ?_); (refine sfieldp rfl rfl rfl ?_); (refine sloadp rfl rfl rfl rfl ?_); (refine sc_b rfl rfl (by first | ((repeat' first | exact FzL.nil | refine FzL.cons ?_ ?_ | (exact Fz.reflp (by simp [AV.bd, bdL, bdL_append])) | refine Fz.ptrL rfl rfl ?_); done) | fail) (valid1_fn n _) rfl ?_); (refine su (anot rfl) ?_); (refine smove rfl ?_); (refine sg (gq_vf rfl rfl) (fun he => ap_field_p (rq_p rfl rfl) rfl rfl) ?_); (refine sg (gq_vf rfl rfl) (fun he => ap_load_p (rq_c rfl rfl) rfl rfl rfl) ?_); (refine sg (gq_vf rfl rfl) (fun he => ap_lss (rq_c rfl rfl) (rq_p rfl rfl)) ?_); (refine su (ap_or (rq_p rfl rfl) (rq_c rfl rfl)) ?_); (refine smove rfl ?_); (refine sg (gq_vf rfl rfl) (fun he => ap_field_p (rq_p rfl rfl) rfl rfl) ?_); (refine sg (gq_vf rfl rfl) (fun he => ap_load_p (rq_c rfl rfl) rfl rfl rfl) ?_); (refine sg (gq_vf rfl rfl) (fun he => ap_gtr (rq_c rfl rfl) (rq_p rfl rfl)) ?_); (refine su (ap_or (rq_p rfl rfl) (rq_c rfl rfl)) ?_); (refine smove rfl ?_); (refine sg (gq_vf rfl rfl) (fun he => ap_field_p (rq_p rfl rfl) rfl rfl) ?_); (refine sg (gq_vf rfl rfl) (fun he => ap_load_p (rq_c rfl rfl) rfl rfl rfl) ?_); (refine sg (gq_vf rfl rfl) (fun he => ap_lss (rq_c rfl rfl) (rq_p rfl rfl)) ?_); (refine su (ap_or (rq_p rfl rfl) (rq_c rfl rfl)) ?_); apply jW) | (refine WP.regionC ?_; (refine sassign rfl ?_); apply jW) | (refine WP.regionC (id := 4) ?_; (refine sfieldp rfl rfl rfl ?_); (refine sloadp rfl rfl rfl rfl ?_); apply jW) | (refine WP.regionC ?_; (refine seql rfl rfl ?_); (refine sassign rfl ?_); apply jW) | (refine WP.regionC (id := 6) ?_; (refine sfieldp rfl rfl rfl ?_); (refine sloadp rfl rfl rfl rfl ?_); (refine seql rfl rfl ?_); (refine smove rfl ?_); (refine sg (gq_vt rfl rfl) (fun he => ap_field_p (rq_p rfl rfl) rfl rfl) ?_); (refine sg (gq_vt rfl rfl) (fun he => ap_load_p (rq_c rfl rfl) rfl rfl rfl) ?_); (refine sg (gq_vt rfl rfl) (fun he => ap_eql (rq_c rfl rfl) (rq_p rfl rfl)) ?_); (refine su (ap_and (rq_p rfl rfl) (rq_c rfl rfl)) ?_); (refine sassign rfl ?_); apply jW) | (refine WP.regionC (id := 8) ?_; (refine sfieldp rfl rfl rfl ?_); (refine sloadp rfl rfl rfl rfl ?_); (refine su (ageq rfl rfl) ?_); (refine smove rfl ?_); (refine sg (gq_vt rfl rfl) (fun he => ap_field_p (rq_p rfl rfl) rfl rfl) ?_); (refine sg (gq_vt rfl rfl) (fun he => ap_load_p (rq_c rfl rfl) rfl rfl rfl) ?_); (refine sg (gq_vt rfl rfl) (fun he => ap_field_p (rq_p rfl rfl) rfl rfl) ?_); (refine sg (gq_vt rfl rfl) (fun he => ap_load_p (rq_c rfl rfl) rfl rfl rfl) ?_); (refine sg (gq_vt rfl rfl) (fun he => ap_lss (rq_c rfl rfl) (rq_c rfl rfl)) ?_); (refine su (ap_and (rq_p rfl rfl) (rq_c rfl rfl)) ?_); (refine smove rfl ?_); (refine sg (gq_vt rfl rfl) (fun he => ap_field_p (rq_p rfl rfl) rfl rfl) ?_); (refine sg (gq_vt rfl rfl) (fun he => ap_load_p (rq_c rfl rfl) rfl rfl rfl) ?_); (refine sg (gq_vt rfl rfl) (fun he => ap_eql (rq_c rfl rfl) (rq_p rfl rfl)) ?_); (refine su (ap_and (rq_p rfl rfl) (rq_c rfl rfl)) ?_); (refine sassign rfl ?_); apply jW) | (refine WP.regionC (id := 10) ?_; (refine smove rfl ?_); (refine sfieldp rfl rfl rfl ?_); (refine sloadp rfl rfl rfl rfl ?_); (refine sc_b rfl rfl (by first | ((repeat' first | exact FzL.nil | refine FzL.cons ?_ ?_ | (exact Fz.reflp (by simp [AV.bd, bdL, bdL_append])) | refine Fz.ptrL rfl rfl ?_); done) | fail) (valid1_fn n _) rfl ?_); (refine smove rfl ?_); (refine sg (gq_vt rfl rfl) (fun he => ap_field_p (rq_p rfl rfl) rfl rfl) ?_); (refine sg (gq_vt rfl rfl) (fun he => ap_load_p (rq_c rfl rfl) rfl rfl rfl) ?_); (refine sg (gq_vt rfl rfl) (fun he => ap_eql (rq_c rfl rfl) (rq_p rfl rfl)) ?_); (refine su (ap_and (rq_p rfl rfl) (rq_c rfl rfl)) ?_); (refine sassign rfl ?_); apply jW) | (refine WP.regionC (id := 12) ?_; (refine smove rfl ?_); (refine sfieldp rfl rfl rfl ?_); (refine sloadp rfl rfl rfl rfl ?_); (refine sc_b rfl rfl (by first | ((repeat' first | exact FzL.nil | refine FzL.cons ?_ ?_ | (exact Fz.reflp (by simp [AV.bd, bdL, bdL_append])) | refine Fz.ptrL rfl rfl ?_); done) | fail) (valid1_fn n _) rfl ?_); (refine smove rfl ?_); (refine sg (gq_vt rfl rfl) (fun he => ap_move (rq_p rfl rfl)) ?_); (refine sg (gq_vt rfl rfl) (fun he => ap_field_p (rq_p rfl rfl) rfl rfl) ?_); (refine sg (gq_vt rfl rfl) (fun he => ap_load_p (rq_c rfl rfl) rfl rfl rfl) ?_); (refine sg_b (gq_vt rfl rfl) (fun he => ⟨(rq_c rfl rfl), (RqL.cons (rq_c rfl rfl) (RqL.nil)), (by first | ((repeat' first | exact FzL.nil | refine FzL.cons ?_ ?_ | (exact Fz.reflp (by simp [AV.bd, bdL, bdL_append])) | refine Fz.ptrL rfl rfl ?_); done) | fail), valid1_fn n _, rfl⟩) ?_); (refine su (ap_and (rq_p rfl rfl) (rq_c rfl rfl)) ?_); (refine sassign rfl ?_); apply jW) | refine ret_b rfl ?_))
  all_goals unfold nruleOk kindOk
  all_goals grind
theorem bvalid1_fn (n : Nrm) (r : NRul) : Fn Try.prog 37 [nruleA r, .iptr (nrmA n).cells 0] (boolA (!nruleOk n r)) := by
  refine Fn.intro rfl (by kernel_rfl) Try.func37 rfl rfl Try.ntmps37 (by exact Nat.le_of_ble_eq_true rfl) ?_; intro Γ hm
  (repeat' (first | apply jA | apply jH | apply jK | apply jS | (refine WP.regionC (id := 0) ?_; (refine se_box rfl (by exact ⟨rfl, rfl⟩) ?_); (refine sassign rfl ?_); apply jW) | (refine WP.regionC (id := 1) ?_; (refine sloadw rfl rfl ?_); (refine sloadpw rfl rfl rfl rfl ?_); (refine sc_p rfl rfl (by first | ((repeat' first | exact SubL.nil | refine SubL.cons ?_ ?_ | exact Sub.refl); done) | fail) (by first | (simp [bdL, bdL_append, AV.bd]; done) | fail) (valid_fn n r) ?_); (refine su (anot rfl) ?_); (refine sassign rfl ?_); apply jW) | exact ret_eq rfl rfl rfl))
theorem bvalid_fn (n : Nrm) : Fn Try.prog 11 [nrmA n] (boolA (validN n)) := by
  refine Fn.intro rfl (by kernel_rfl) Try.func11 rfl rfl Try.ntmps11 (by exact Nat.le_of_ble_eq_true rfl) ?_; intro Γ hm
  refine wp_lens 0 rfl fun h0 => ?_
  have h0 := lens_nrm h0
  (repeat' (first | apply jA | apply jH | apply jI | apply jK | apply jM | apply jS | (refine wp_cond rfl (fun hc => ?_) (fun hc => ?_) <;> (try simp only [sB, ne_eq, reduceCtorEq] at hc) <;> (try (exfalso; omega))) | (refine WP.regionC (id := 0) ?_; (refine se_box rfl (by exact ⟨rfl, rfl⟩) ?_); (refine sassign rfl ?_); apply jW) | (refine WP.regionC (id := 1) ?_; (refine sfieldp rfl rfl rfl ?_); (refine sloadp rfl rfl rfl rfl ?_); (refine slss rfl rfl ?_); (refine smove rfl ?_); (refine sg (gq_vf rfl rfl) (fun he => ap_field_p (rq_p rfl rfl) rfl rfl) ?_); (refine sg (gq_vf rfl rfl) (fun he => ap_load_p (rq_c rfl rfl) rfl rfl rfl) ?_); (refine sg (gq_vf rfl rfl) (fun he => ap_gtr (rq_c rfl rfl) (rq_p rfl rfl)) ?_); (refine su (ap_or (rq_p rfl rfl) (rq_c rfl rfl)) ?_); (refine smove rfl ?_); (refine sg (gq_vf rfl rfl) (fun he => ap_field_p (rq_p rfl rfl) rfl rfl) ?_); (refine sg (gq_vf rfl rfl) (fun he => ap_load_p (rq_c rfl rfl) rfl rfl rfl) ?_); (refine sg (gq_vf rfl rfl) (fun he => ap_lss (rq_c rfl rfl) (rq_p rfl rfl)) ?_); (refine su (ap_or (rq_p rfl rfl) (rq_c rfl rfl)) ?_); (refine smove rfl ?_); (refine sg (gq_vf rfl rfl) (fun he => ap_field_p (rq_p rfl rfl) rfl rfl) ?_); (refine sg (gq_vf rfl rfl) (fun he => ap_load_p (rq_c rfl rfl) rfl rfl rfl) ?_); (refine sg (gq_vf rfl rfl) (fun he => ap_gtr (rq_c rfl rfl) (rq_p rfl rfl)) ?_); (refine su (ap_or (rq_p rfl rfl) (rq_c rfl rfl)) ?_); (refine smove rfl ?_); (refine sg (gq_vf rfl rfl) (fun he => ap_field_p (rq_p rfl rfl) rfl rfl) ?_); (refine sg (gq_vf rfl rfl) (fun he => ap_load_p (rq_c rfl rfl) rfl rfl rfl) ?_); (refine sg (gq_vf rfl rfl) (fun he => ap_lss (rq_c rfl rfl) (rq_p rfl rfl)) ?_); (refine su (ap_or (rq_p rfl rfl) (rq_c rfl rfl)) ?_); (refine smove rfl ?_); (refine sg (gq_vf rfl rfl) (fun he => ap_field_p (rq_p rfl rfl) rfl rfl) ?_); (refine sg (gq_vf rfl rfl) (fun he => ap_load_p (rq_c rfl rfl) rfl rfl rfl) ?_); (refine sg (gq_vf rfl rfl) (fun he => ap_field_p (rq_p rfl rfl) rfl rfl) ?_); (refine sg (gq_vf rfl rfl) (fun he => ap_load_p (rq_c rfl rfl) rfl rfl rfl) ?_); (refine sg (gq_vf rfl rfl) (fun he => ap_geq (rq_c rfl rfl) (rq_c rfl rfl)) ?_); (refine su (ap_or (rq_p rfl rfl) (rq_c rfl rfl)) ?_); (refine smove rfl ?_); (refine sg (gq_vf rfl rfl) (fun he => ap_field_p (rq_p rfl rfl) rfl rfl) ?_); (refine sg (gq_vf rfl rfl) (fun he => ap_load_p (rq_c rfl rfl) rfl rfl rfl) ?_); (refine sg (gq_vf rfl rfl) (fun he => ap_len_m rfl (rq_c rfl rfl)) ?_); (refine sg (gq_vf rfl rfl) (fun he => ap_gtr (rq_c rfl rfl) (rq_p rfl rfl)) ?_); (refine su (ap_or (rq_p rfl rfl) (rq_c rfl rfl)) ?_); apply jW) | (refine WP.regionC (id := 2) ?_; (refine sassign rfl ?_); apply jW) | (refine WP.regionC (id := 3) ?_; (refine sfieldp rfl rfl rfl ?_); (refine sloadp rfl rfl rfl rfl ?_); (refine su (ap_clo (RqL.nil) (RqL.cons (rq_p rfl rfl) (RqL.nil))) ?_); (refine sc_b rfl rfl (by first | ((repeat' first | exact FzL.nil | refine FzL.cons ?_ ?_ | (exact Fz.reflp (by simp [AV.bd, bdL, bdL_append])) | refine Fz.ptrL rfl rfl ?_ | refine Fz.cloL ?_ ?_); done) | fail) (containsFuncN_fn n.rules _ _ (fun r => !nruleOk n r) (fun n => by simp [bdL, AV.bd, AV.cells, nrmA]) (fun x _ => bvalid1_fn n x)) rfl ?_); (refine su (anot rfl) ?_); (refine sassign rfl ?_); apply jW) | refine ret_b rfl ?_))
  · unfold validN; grind
  · rw [List.not_any_eq_all_not]
    simp only [Bool.not_not]
    unfold validN
    have d1 : decide (n.rules.length ≤ 600) = true := decide_eq_true (by omega)
    simp [hc, d1]
theorem kids24_fn (r : NRul) : Fn Try.prog 45 [nruleA r] (intsA (kidsN r)) := by
  refine Fn.intro (by simp [AV.bd, bdL, bdL_append]) (by kernel_rfl) Try.func45 rfl rfl Try.ntmps45 (by exact Nat.le_of_ble_eq_true rfl) ?_; intro Γ hm
  (repeat' (first | apply jA | apply jF | apply jH | apply jI | apply jK | apply jM | apply jN | apply jO | apply jS | (refine wp_cond rfl (fun hc => ?_) (fun hc => ?_) <;> (try simp only [sB, ne_eq, reduceCtorEq] at hc) <;> (try (exfalso; omega))) | (refine WP.regionC (id := 0) ?_; (refine se_box rfl (by exact ⟨rfl, rfl⟩) ?_); (refine sassign rfl ?_); apply jW) | (refine WP.regionC (id := 1) ?_; (refine sfieldp rfl rfl rfl ?_); (refine sloadp rfl rfl rfl rfl ?_); apply jW) | (refine WP.regionC ?_; (refine seql rfl rfl ?_); (refine sassign rfl ?_); apply jW) | (refine WP.regionC (id := 3) ?_; (refine sfieldp rfl rfl rfl ?_); (refine sloadp rfl rfl rfl rfl ?_); (refine se_lit (OpP.cons rfl (OpP.nil)) rfl rfl rfl rfl rfl rfl ?_); (refine sassign rfl ?_); apply jW) | (refine WP.regionC (id := 5) ?_; (refine sfieldp rfl rfl rfl ?_); (refine sloadp rfl rfl rfl rfl ?_); (refine sfieldp rfl rfl rfl ?_); (refine sloadp rfl rfl rfl rfl ?_); (refine se_lit (OpP.cons rfl (OpP.cons rfl (OpP.nil))) rfl rfl rfl rfl rfl rfl ?_); (refine sassign rfl ?_); apply jW) | (refine WP.regionC (id := 6) ?_; (refine sassign rfl ?_); apply jW)))
  · rw [kidsN, if_pos hc]; exact ret_sl (f := intA) (L := [r.a]) rfl rfl rfl (fun _ => rfl) (fun _ => rfl) rfl
  · rename_i h3
    rw [kidsN, if_neg h3, if_pos hc]; exact ret_sl (f := intA) (L := [r.a, r.b]) rfl rfl rfl (fun _ => rfl) (fun _ => rfl) rfl
  · rename_i h3
    rw [kidsN, if_neg h3, if_neg hc]; exact ret_1 rfl Fz.nil
theorem rkids24_fn (r : NRul) : Fn Try.prog 44 [nruleA r] (intsA (kidsN r)) := by
  refine Fn.intro (by simp [AV.bd, bdL, bdL_append]) (by kernel_rfl) Try.func44 rfl rfl Try.ntmps44 (by exact Nat.le_of_ble_eq_true rfl) ?_; intro Γ hm
  (repeat' (first | apply jA | apply jF | apply jH | apply jI | apply jK | apply jM | apply jN | apply jO | apply jS | (refine wp_cond rfl (fun hc => ?_) (fun hc => ?_) <;> (try simp only [sB, ne_eq, reduceCtorEq] at hc) <;> (try (exfalso; omega))) | (refine WP.regionC (id := 0) ?_; (refine se_box rfl (by exact ⟨rfl, rfl⟩) ?_); (refine sassign rfl ?_); apply jW) | (refine WP.regionC (id := 1) ?_; (refine sfieldp rfl rfl rfl ?_); (refine sloadp rfl rfl rfl rfl ?_); apply jW) | (refine WP.regionC ?_; (refine seql rfl rfl ?_); (refine sassign rfl ?_); apply jW) | (refine WP.regionC (id := 3) ?_; (refine sfieldp rfl rfl rfl ?_); (refine sloadp rfl rfl rfl rfl ?_); (refine se_lit (OpP.cons rfl (OpP.nil)) rfl rfl rfl rfl rfl rfl ?_); (refine sassign rfl ?_); apply jW) | (refine WP.regionC (id := 5) ?_; (refine sfieldp rfl rfl rfl ?_); (refine sloadp rfl rfl rfl rfl ?_); (refine sfieldp rfl rfl rfl ?_); (refine sloadp rfl rfl rfl rfl ?_); (refine se_lit (OpP.cons rfl (OpP.cons rfl (OpP.nil))) rfl rfl rfl rfl rfl rfl ?_); (refine sassign rfl ?_); apply jW) | (refine WP.regionC (id := 6) ?_; (refine sassign rfl ?_); apply jW)))
  · rw [kidsN, if_pos hc]; exact ret_sl (f := intA) (L := [r.a]) rfl rfl rfl (fun _ => rfl) (fun _ => rfl) rfl
  · rename_i h3
    rw [kidsN, if_neg h3, if_pos hc]; exact ret_sl (f := intA) (L := [r.a, r.b]) rfl rfl rfl (fun _ => rfl) (fun _ => rfl) rfl
  · rename_i h3
    rw [kidsN, if_neg h3, if_neg hc]; exact ret_1 rfl Fz.nil
end Go.Lg

namespace Go.Lg
open Go.Proofs
noncomputable instance : DecidableEq Prs := fun _ _ => Classical.propDecidable _
set_option linter.unusedSimpArgs false
set_option linter.unusedVariables false
attribute [local irreducible] Ap Rq asemC WP RunD Ret Gq thenA inBlockA bodyQ noGotoA RqL RqP OpP
set_option maxHeartbeats 8000000
set_option maxRecDepth 20000
attribute [local simp] AV.cells
mutual
def sizeW : Prs → Int
  | .mk _ l => sizeWL l 1
def sizeWL : List Prs → Int → Int
  | [], n => n
  | p :: l, n => sizeWL l (IntKind.wrap .i64 (n + sizeW p))
end
theorem sizeW_eq (p : Prs) : sizeW p = sizeWL p.kids 1 := by cases p; rw [sizeW]; rfl
theorem sizeWL_snoc (p : Prs) : ∀ (l : List Prs) (n : Int), sizeWL (l ++ [p]) n = IntKind.wrap .i64 (sizeWL l n + sizeW p)
  | [], n => by simp only [List.nil_append, sizeWL]
  | q :: l, n => by simp only [List.cons_append, sizeWL]; exact sizeWL_snoc p l _
theorem size24_fn (p : Prs) : Fn Try.prog 17 [prsA p] (intA (sizeW p)) := by
  induction p using Prs.ind with
  | h p ih =>
    rw [sizeW_eq, prsA_kids]
    generalize p.kids = kids at *
    generalize p.rule = rule
    clear p
    refine Fn.intro rfl (by kernel_rfl) Try.func17 rfl rfl Try.ntmps17 (by exact Nat.le_of_ble_eq_true rfl) ?_; intro Γ hm
    refine wp_lens 0 rfl fun hl => ?_
    have hl : kids.length ≤ 9223372036854775807 := by have := hl; simp [AV.lens, lensL, prssA] at this; omega
    (repeat' (first | apply jA | apply jF | apply jH | (refine WP.regionC (id := 0) ?_; (refine se_box rfl (by exact ⟨rfl, rfl⟩) ?_); (refine sassign rfl ?_); apply jW) | (refine WP.regionC ?_; (refine sassign rfl ?_); apply jW)))
    refine wp_loop (fun (i : Nat) => i ≤ kids.length) (fun i => kids.length - i)
      (fun i => (S 21 [(1, .ptr 0 2 0 0), (3, intA (sizeWL (kids.take i) 1)), (4, intA (i : Nat))] 1 [(0, some (.arr 2 [.agg [intA rule, prssA kids]]))])) 0 ?_ (Nat.zero_le _) ?_
    · rw [show sizeWL (kids.take 0) 1 = 1 by simp [sizeWL]]
      exact ⟨[0], ToR.S rfl (by repeat' (first | exact rt_nil | refine rt_t rfl rfl ?_ | refine rt_e rfl rfl ?_)) (by repeat' (first | exact ro_nil | refine ro_p rfl (by first | exact rfl | fail) (by first | (simp [bdL, bdL_append, AV.bd]; done) | fail) ?_)) rfl (by (rw [hm]; exact rfl)) rfl (by (simp [bdT, AV.bd, bdL, bdL_append]; done)) (by repeat' (first | exact True.intro | refine And.intro ?_ ?_ | (simp [bdOq, bdL, bdL_append, AV.bd]; done))) (by (rw [hm]; exact Nat.le_of_ble_eq_true rfl))⟩
    intro i hi
    by_cases hlt : i < kids.length
    · have hx := ih _ (nth_mem hlt)
      (repeat' (first | apply jA | apply jF | apply jH | apply jI | apply jN | (refine wp_cond rfl (fun hc => ?_) (fun hc => ?_) <;> (try simp only [sB, ne_eq, reduceCtorEq] at hc) <;> (try (exfalso; omega))) | (refine WP.regionC (id := 3) ?_; (refine smove rfl ?_); (refine sfieldp rfl rfl rfl ?_); (refine sloadp rfl rfl rfl rfl ?_); (refine slenm rfl rfl ?_); (refine slss rfl rfl ?_); apply jW) | (refine WP.regionC (id := 5) ?_; (refine smove rfl ?_); (refine sfieldp rfl rfl rfl ?_); (refine sloadp rfl rfl rfl rfl ?_); (refine smove rfl ?_); (refine sidxn rfl rfl (by omega) ?_); (refine sloadw rfl rfl ?_); (refine sc_p rfl rfl (by first | ((repeat' first | exact SubL.nil | refine SubL.cons ?_ ?_ | exact Sub.refl); done) | fail) (by first | (simp [bdL, bdL_append, AV.bd]; done) | fail) (hx) ?_); (refine su (ap_addw (rq_p rfl rfl) (rq_p rfl rfl)) ?_); (refine sassign rfl ?_); apply jW) | (refine WP.regionC (id := 4) ?_; (refine smove rfl ?_); (refine sadd rfl rfl (by exact inr_i64_of (by omega)) ?_); (refine sassign rfl ?_); apply jW)))
      refine ⟨i + 1, ⟨by omega, by omega⟩, ?_⟩
      rw [take_succ_nth hlt, sizeWL_snoc]
      exact ⟨[0], ToR.S rfl (by repeat' (first | exact rt_nil | refine rt_t rfl rfl ?_ | refine rt_e rfl rfl ?_)) (by repeat' (first | exact ro_nil | refine ro_p rfl (by first | exact rfl | fail) (by first | (simp [bdL, bdL_append, AV.bd]; done) | fail) ?_)) rfl (by (rw [hm]; exact rfl)) rfl (by (simp [bdT, AV.bd, bdL, bdL_append]; done)) (by repeat' (first | exact True.intro | refine And.intro ?_ ?_ | (simp [bdOq, bdL, bdL_append, AV.bd]; done))) (by (rw [hm]; exact Nat.le_of_ble_eq_true rfl))⟩
    · have e1 : sizeWL kids 1 = sizeWL (kids.take i) 1 := by rw [List.take_of_length_le (by omega)]
      rw [e1]
      (repeat' (first | apply jA | apply jH | apply jJ | apply jK | apply jL | apply jP | apply jS | (refine wp_cond rfl (fun hc => ?_) (fun hc => ?_) <;> (try simp only [sB, ne_eq, reduceCtorEq] at hc) <;> (try (exfalso; omega))) | (refine WP.regionC (id := 3) ?_; (refine smove rfl ?_); (refine sfieldp rfl rfl rfl ?_); (refine sloadp rfl rfl rfl rfl ?_); (refine slenm rfl rfl ?_); (refine slss rfl rfl ?_); apply jW) | (refine WP.regionC (id := 6) ?_; (refine smove rfl ?_); (refine sassign rfl ?_); apply jW) | exact ret_eq rfl rfl rfl))
theorem okPL_no (n : Nrm) {xs : List Int} {l : List Prs} (hl : xs.length = l.length) {i : Nat} (hi : i < l.length) (h : okP n (nth xs i) (nth l i) = false) : okPL n xs l = false := by
  cases hc : okPL n xs l with
  | false => rfl
  | true => have := (okPL_iff n xs l hl).1 hc i hi; rw [h] at this; cases this
theorem validParse_fn (n : Nrm) (p : Prs) : ∀ head : Int, Fn Try.prog 19 [nrmA n, intA head, prsA p] (boolA (okP n head p)) := by
  induction p using Prs.ind with
  | h p ih =>
    intro head
    rw [okP_eq, prsA_kids]
    generalize p.kids = kids at *
    generalize p.rule = rule
    clear p
    unfold nruleAt
    refine Fn.intro rfl (by kernel_rfl) Try.func19 rfl rfl Try.ntmps19 (by exact Nat.le_of_ble_eq_true rfl) ?_; intro Γ hm
    refine wp_lens 0 rfl fun h0 => wp_lens 2 rfl fun hl => ?_
    have h0 := lens_nrm h0
    have hl : kids.length ≤ 9223372036854775807 := by have := hl; simp [AV.lens, lensL, prssA] at this; omega
    (repeat' (first | apply jA | apply jF | apply jH | apply jI | apply jK | apply jM | apply jS | (refine wp_cond rfl (fun hc => ?_) (fun hc => ?_) <;> (try simp only [sB, ne_eq, reduceCtorEq] at hc) <;> (try (exfalso; omega))) | (refine WP.regionC (id := 0) ?_; (refine se_box rfl (by exact ⟨rfl, rfl⟩) ?_); (refine se_box rfl (by exact ⟨rfl, rfl⟩) ?_); (refine sassign rfl ?_); apply jW) | (refine WP.regionC (id := 1) ?_; (refine sfieldp rfl rfl rfl ?_); (refine sloadp rfl rfl rfl rfl ?_); (refine slss rfl rfl ?_); (refine smove rfl ?_); (refine sg (gq_vf rfl rfl) (fun he => ap_field_p (rq_p rfl rfl) rfl rfl) ?_); (refine sg (gq_vf rfl rfl) (fun he => ap_load_p (rq_c rfl rfl) rfl rfl rfl) ?_); (refine sg (gq_vf rfl rfl) (fun he => ap_field_p (rq_p rfl rfl) rfl rfl) ?_); (refine sg (gq_vf rfl rfl) (fun he => ap_load_p (rq_c rfl rfl) rfl rfl rfl) ?_); (refine sg (gq_vf rfl rfl) (fun he => ap_len_m rfl (rq_c rfl rfl)) ?_); (refine sg (gq_vf rfl rfl) (fun he => ap_geq (rq_c rfl rfl) (rq_c rfl rfl)) ?_); (refine su (ap_or (rq_p rfl rfl) (rq_c rfl rfl)) ?_); (refine smove rfl ?_); (refine sg (gq_vf rfl rfl) (fun he => ap_field_p (rq_p rfl rfl) rfl rfl) ?_); (refine sg (gq_vf rfl rfl) (fun he => ap_load_p (rq_c rfl rfl) rfl rfl rfl) ?_); (refine sg (gq_vf rfl rfl) (fun he => ap_field_p (rq_p rfl rfl) rfl rfl) ?_); (refine sg (gq_vf rfl rfl) (fun he => ap_load_p (rq_c rfl rfl) rfl rfl rfl) ?_); (refine sg (gq_vf rfl rfl) (fun he => ap_idx_z (rq_c rfl rfl) (rq_c rfl rfl) (by (try simp only [sH, id, sB, ne_eq, reduceCtorEq] at he); omega)) ?_); (refine sg (gq_vf rfl rfl) (fun he => ap_field_i (rq_c rfl rfl) rfl rfl) ?_); (refine sg (gq_vf rfl rfl) (fun he => ap_load_i (rq_c rfl rfl) rfl) ?_); (refine sg (gq_vf rfl rfl) (fun he => ap_move (rq_p rfl rfl)) ?_); (refine sg (gq_vf rfl rfl) (fun he => ap_neq (rq_c rfl rfl) (rq_c rfl rfl)) ?_); (refine su (ap_or (rq_p rfl rfl) (rq_c rfl rfl)) ?_); apply jW) | (refine WP.regionC ?_; (refine sassign rfl ?_); apply jW) | (refine WP.regionC (id := 3) ?_; (refine sfieldp rfl rfl rfl ?_); (refine sloadp rfl rfl rfl rfl ?_); (refine sfieldp rfl rfl rfl ?_); (refine sloadp rfl rfl rfl rfl ?_); (refine su (aidxz rfl rfl (by omega)) ?_); (refine sloadw rfl rfl ?_); (refine sc_p rfl rfl (by first | ((repeat' first | exact SubL.nil | refine SubL.cons ?_ ?_ | exact Sub.refl); done) | fail) (by first | (simp [bdL, bdL_append, AV.bd]; done) | fail) (kids24_fn _) ?_); (refine sassign rfl ?_); apply jW) | (refine WP.regionC (id := 4) ?_; (refine smove rfl ?_); (refine slenm rfl rfl ?_); (refine sfieldp rfl rfl rfl ?_); (refine sloadp rfl rfl rfl rfl ?_); (refine slenm rfl rfl ?_); (refine su (aneq rfl rfl) ?_); apply jW) | (refine WP.regionC (id := 6) ?_; (refine sfieldp rfl rfl rfl ?_); (refine sloadp rfl rfl rfl rfl ?_); (refine slenm rfl rfl ?_); (refine smove rfl ?_); apply jW) | refine ret_b rfl ?_))
    · grind
    · grind
    have hrule := hc
    rename_i hru
    have d1 : decide (0 ≤ rule) = true := decide_eq_true hru.1.1
    have d2 : decide (rule < n.rules.length) = true := decide_eq_true hru.1.2
    have d3 : decide ((nth n.rules rule.toNat).head = head) = true := decide_eq_true hru.2
    have hkl : (kidsN (nth n.rules rule.toNat)).length = kids.length := by omega
    have d4 : decide ((kidsN (nth n.rules rule.toNat)).length = kids.length) = true := decide_eq_true hkl
    rw [d1, d2, d3, d4]
    simp only [Bool.true_and]
    generalize hxs : kidsN (nth n.rules rule.toNat) = xs at *
    refine wp_loop (fun (i : Nat) => i ≤ kids.length ∧ ∀ j, j < i → okP n (nth xs j) (nth kids j) = true) (fun i => kids.length - i)
      (fun i => (S 62 [(3, .ptr 0 4 0 0), (7, intsA xs), (46, prssA kids), (47, intA (kids.length : Nat)), (48, intA (i : Nat))] 1 [(0, some (.arr 4 [nrmA n]))])) 0 ⟨[0], ToR.S rfl (by repeat' (first | exact rt_nil | refine rt_t rfl rfl ?_ | refine rt_e rfl rfl ?_ | refine rt_p rfl rfl (by first | (simp [AV.bd, bdL, bdL_append]; done) | fail) ?_)) (by repeat' (first | exact ro_nil | refine ro_p rfl (by first | exact rfl | fail) (by first | (simp [bdL, bdL_append, AV.bd]; done) | fail) ?_)) rfl (by (rw [hm]; exact rfl)) rfl (by (simp [bdT, AV.bd, bdL, bdL_append]; done)) (by repeat' (first | exact True.intro | refine And.intro ?_ ?_ | (simp [bdOq, bdL, bdL_append, AV.bd]; done))) (by (rw [hm]; exact Nat.le_of_ble_eq_true rfl))⟩ ⟨Nat.zero_le _, fun j hj => by omega⟩ ?_
    rintro i ⟨hi, hall⟩
    by_cases hlt : i < kids.length
    · have hx := ih _ (nth_mem hlt) (nth xs i)
      (repeat' (first | apply jA | apply jF | apply jH | apply jI | apply jK | apply jM | apply jN | apply jO | apply jS | (refine wp_cond rfl (fun hc => ?_) (fun hc => ?_) <;> (try simp only [sB, ne_eq, reduceCtorEq] at hc) <;> (try (exfalso; omega))) | (refine WP.regionC (id := 7) ?_; (refine slss rfl rfl ?_); apply jW) | (refine WP.regionC (id := 8) ?_; (refine smove rfl ?_); (refine sidxn rfl rfl (by omega) ?_); (refine sloadw rfl rfl ?_); (refine se_alloc rfl ?_); (refine sassign rfl ?_); (refine se_store_b rfl rfl rfl rfl ?_); apply jW) | (refine wp_draw (id := 9) 8 mixed (by kernel_rfl) (by kernel_rfl) rfl ?_ <;> (refine rd_u rfl rfl (aloadpw rfl rfl rfl rfl) ?_) <;> (refine rmove rfl ?_) <;> (refine rmove rfl ?_) <;> (refine rd_u rfl rfl (aidxn rfl rfl (by omega)) ?_) <;> (refine rd_u rfl rfl (aloadw rfl rfl) ?_) <;> (refine rd_u rfl rfl (aloadpw rfl rfl rfl rfl) ?_) <;> (refine rd_call rfl rfl (by first | ((repeat' first | exact SubL.nil | refine SubL.cons ?_ ?_ | exact Sub.refl); done) | fail) (by first | (simp [bdL, bdL_append, AV.bd]; done) | fail) (hx) ?_) <;> (refine rd_u rfl rfl (anot rfl) ?_) <;> (refine rd_end (by kernel_rfl) ?_)) | (refine WP.regionC (id := 10) ?_; (refine sassign rfl ?_); apply jW) | (refine WP.regionC (id := 11) ?_; (refine sadd rfl rfl (by exact inr_i64_of (by omega)) ?_); (refine smove rfl ?_); apply jW) | refine ret_b rfl ?_))
      · rw [okPL_no n hkl hlt hc]
      · exact ⟨i + 1, ⟨by omega, by omega, fun j hj => by
          by_cases e : j = i
          · subst e; exact hc
          · exact hall j (by omega)⟩, ⟨[0], ToR.S rfl (by repeat' (first | exact rt_nil | refine rt_t rfl rfl ?_ | refine rt_e rfl rfl ?_ | refine rt_p rfl rfl (by first | (simp [AV.bd, bdL, bdL_append]; done) | fail) ?_)) (by repeat' (first | exact ro_nil | refine ro_p rfl (by first | exact rfl | fail) (by first | (simp [bdL, bdL_append, AV.bd]; done) | fail) ?_)) rfl (by (rw [hm]; exact rfl)) rfl (by (simp [bdT, AV.bd, bdL, bdL_append]; done)) (by repeat' (first | exact True.intro | refine And.intro ?_ ?_ | (simp [bdOq, bdL, bdL_append, AV.bd]; done))) (by (rw [hm]; exact Nat.le_of_ble_eq_true rfl))⟩⟩
    · have e1 : okPL n xs kids = true := (okPL_iff n xs kids hkl).2 fun j hj => hall j (by omega)
      rw [e1]
      (repeat' (first | apply jA | apply jH | apply jJ | apply jK | apply jL | apply jP | apply jS | (refine wp_cond rfl (fun hc => ?_) (fun hc => ?_) <;> (try simp only [sB, ne_eq, reduceCtorEq] at hc) <;> (try (exfalso; omega))) | (refine WP.regionC (id := 7) ?_; (refine slss rfl rfl ?_); apply jW) | (refine WP.regionC (id := 12) ?_; (refine sassign rfl ?_); apply jW) | exact ret_eq rfl rfl rfl))
theorem rvalidParse_fn (n : Nrm) (p : Prs) : ∀ head : Int, Fn Try.prog 18 [nrmA n, intA head, prsA p] (boolA (okP n head p)) := by
  induction p using Prs.ind with
  | h p ih =>
    intro head
    rw [okP_eq, prsA_kids]
    generalize p.kids = kids at *
    generalize p.rule = rule
    clear p
    unfold nruleAt
    refine Fn.intro rfl (by kernel_rfl) Try.func18 rfl rfl Try.ntmps18 (by exact Nat.le_of_ble_eq_true rfl) ?_; intro Γ hm
    refine wp_lens 0 rfl fun h0 => wp_lens 2 rfl fun hl => ?_
    have h0 := lens_nrm h0
    have hl : kids.length ≤ 9223372036854775807 := by have := hl; simp [AV.lens, lensL, prssA] at this; omega
    (repeat' (first | apply jA | apply jF | apply jH | apply jI | apply jK | apply jM | apply jS | (refine wp_cond rfl (fun hc => ?_) (fun hc => ?_) <;> (try simp only [sB, ne_eq, reduceCtorEq] at hc) <;> (try (exfalso; omega))) | (refine WP.regionC (id := 0) ?_; (refine se_box rfl (by exact ⟨rfl, rfl⟩) ?_); (refine se_box rfl (by exact ⟨rfl, rfl⟩) ?_); (refine sassign rfl ?_); apply jW) | (refine WP.regionC (id := 1) ?_; (refine sfieldp rfl rfl rfl ?_); (refine sloadp rfl rfl rfl rfl ?_); (refine slss rfl rfl ?_); (refine smove rfl ?_); (refine sg (gq_vf rfl rfl) (fun he => ap_field_p (rq_p rfl rfl) rfl rfl) ?_); (refine sg (gq_vf rfl rfl) (fun he => ap_load_p (rq_c rfl rfl) rfl rfl rfl) ?_); (refine sg (gq_vf rfl rfl) (fun he => ap_field_p (rq_p rfl rfl) rfl rfl) ?_); (refine sg (gq_vf rfl rfl) (fun he => ap_load_p (rq_c rfl rfl) rfl rfl rfl) ?_); (refine sg (gq_vf rfl rfl) (fun he => ap_len_m rfl (rq_c rfl rfl)) ?_); (refine sg (gq_vf rfl rfl) (fun he => ap_geq (rq_c rfl rfl) (rq_c rfl rfl)) ?_); (refine su (ap_or (rq_p rfl rfl) (rq_c rfl rfl)) ?_); (refine smove rfl ?_); (refine sg (gq_vf rfl rfl) (fun he => ap_field_p (rq_p rfl rfl) rfl rfl) ?_); (refine sg (gq_vf rfl rfl) (fun he => ap_load_p (rq_c rfl rfl) rfl rfl rfl) ?_); (refine sg (gq_vf rfl rfl) (fun he => ap_field_p (rq_p rfl rfl) rfl rfl) ?_); (refine sg (gq_vf rfl rfl) (fun he => ap_load_p (rq_c rfl rfl) rfl rfl rfl) ?_); (refine sg (gq_vf rfl rfl) (fun he => ap_idx_z (rq_c rfl rfl) (rq_c rfl rfl) (by (try simp only [sH, id, sB, ne_eq, reduceCtorEq] at he); omega)) ?_); (refine sg (gq_vf rfl rfl) (fun he => ap_field_i (rq_c rfl rfl) rfl rfl) ?_); (refine sg (gq_vf rfl rfl) (fun he => ap_load_i (rq_c rfl rfl) rfl) ?_); (refine sg (gq_vf rfl rfl) (fun he => ap_move (rq_p rfl rfl)) ?_); (refine sg (gq_vf rfl rfl) (fun he => ap_neq (rq_c rfl rfl) (rq_c rfl rfl)) ?_); (refine su (ap_or (rq_p rfl rfl) (rq_c rfl rfl)) ?_); apply jW) | (refine WP.regionC ?_; (refine sassign rfl ?_); apply jW) | (refine WP.regionC (id := 3) ?_; (refine sfieldp rfl rfl rfl ?_); (refine sloadp rfl rfl rfl rfl ?_); (refine sfieldp rfl rfl rfl ?_); (refine sloadp rfl rfl rfl rfl ?_); (refine su (aidxz rfl rfl (by omega)) ?_); (refine sloadw rfl rfl ?_); (refine sc_p rfl rfl (by first | ((repeat' first | exact SubL.nil | refine SubL.cons ?_ ?_ | exact Sub.refl); done) | fail) (by first | (simp [bdL, bdL_append, AV.bd]; done) | fail) (rkids24_fn _) ?_); (refine sassign rfl ?_); apply jW) | (refine WP.regionC (id := 4) ?_; (refine sfieldp rfl rfl rfl ?_); (refine sloadp rfl rfl rfl rfl ?_); (refine slenm rfl rfl ?_); (refine smove rfl ?_); (refine slenm rfl rfl ?_); (refine su (aneq rfl rfl) ?_); apply jW) | refine ret_b rfl ?_))
    · grind
    · grind
    have hrule := hc
    rename_i hru
    have d1 : decide (0 ≤ rule) = true := decide_eq_true hru.1.1
    have d2 : decide (rule < n.rules.length) = true := decide_eq_true hru.1.2
    have d3 : decide ((nth n.rules rule.toNat).head = head) = true := decide_eq_true hru.2
    have hkl : (kidsN (nth n.rules rule.toNat)).length = kids.length := by omega
    have d4 : decide ((kidsN (nth n.rules rule.toNat)).length = kids.length) = true := decide_eq_true hkl
    rw [d1, d2, d3, d4]
    simp only [Bool.true_and]
    generalize hxs : kidsN (nth n.rules rule.toNat) = xs at *
    refine wp_loop (fun (i : Nat) => i ≤ kids.length ∧ ∀ j, j < i → okP n (nth xs j) (nth kids j) = true) (fun i => kids.length - i)
      (fun i => (S 62 [(3, .ptr 0 4 0 0), (5, .ptr 1 2 0 0), (7, intsA xs), (8, intA (i : Nat))] 2 [(0, some (.arr 4 [nrmA n])), (1, some (.arr 2 [.agg [intA rule, prssA kids]]))])) 0 ⟨[0, 1], ToR.S rfl (by repeat' (first | exact rt_nil | refine rt_t rfl rfl ?_ | refine rt_e rfl rfl ?_ | refine rt_p rfl rfl (by first | (simp [AV.bd, bdL, bdL_append]; done) | fail) ?_)) (by repeat' (first | exact ro_nil | refine ro_p rfl (by first | exact rfl | fail) (by first | (simp [bdL, bdL_append, AV.bd]; done) | fail) ?_)) rfl (by (rw [hm]; exact rfl)) rfl (by (simp [bdT, AV.bd, bdL, bdL_append]; done)) (by repeat' (first | exact True.intro | refine And.intro ?_ ?_ | (simp [bdOq, bdL, bdL_append, AV.bd]; done))) (by (rw [hm]; exact Nat.le_of_ble_eq_true rfl))⟩ ⟨Nat.zero_le _, fun j hj => by omega⟩ ?_
    rintro i ⟨hi, hall⟩
    by_cases hlt : i < kids.length
    · have hx := ih _ (nth_mem hlt) (nth xs i)
      (repeat' (first | apply jA | apply jF | apply jH | apply jI | apply jK | apply jM | apply jN | apply jO | apply jS | (refine wp_cond rfl (fun hc => ?_) (fun hc => ?_) <;> (try simp only [sB, ne_eq, reduceCtorEq] at hc) <;> (try (exfalso; omega))) | (refine WP.regionC (id := 7) ?_; (refine smove rfl ?_); (refine smove rfl ?_); (refine slenm rfl rfl ?_); (refine slss rfl rfl ?_); apply jW) | (refine wp_draw (id := 9) 12 mixed (by kernel_rfl) (by kernel_rfl) rfl ?_ <;> (refine rd_u rfl rfl (aloadpw rfl rfl rfl rfl) ?_) <;> (refine rmove rfl ?_) <;> (refine rmove rfl ?_) <;> (refine rd_u rfl rfl (aidxn rfl rfl (by omega)) ?_) <;> (refine rd_u rfl rfl (aloadw rfl rfl) ?_) <;> (refine rfieldp rfl rfl rfl ?_) <;> (refine rloadp rfl rfl rfl rfl ?_) <;> (refine rmove rfl ?_) <;> (refine rd_u rfl rfl (aidxn rfl rfl (by omega)) ?_) <;> (refine rd_u rfl rfl (aloadw rfl rfl) ?_) <;> (refine rd_call rfl rfl (by first | ((repeat' first | exact SubL.nil | refine SubL.cons ?_ ?_ | exact Sub.refl); done) | fail) (by first | (simp [bdL, bdL_append, AV.bd]; done) | fail) (hx) ?_) <;> (refine rd_u rfl rfl (anot rfl) ?_) <;> (refine rd_end (by kernel_rfl) ?_)) | (refine WP.regionC (id := 10) ?_; (refine sassign rfl ?_); apply jW) | (refine WP.regionC (id := 8) ?_; (refine smove rfl ?_); (refine sadd rfl rfl (by exact inr_i64_of (by omega)) ?_); (refine sassign rfl ?_); apply jW) | refine ret_b rfl ?_))
      · rw [okPL_no n hkl hlt hc]
      · exact ⟨i + 1, ⟨by omega, by omega, fun j hj => by
          by_cases e : j = i
          · subst e; exact hc
          · exact hall j (by omega)⟩, ⟨[0, 1], ToR.S rfl (by repeat' (first | exact rt_nil | refine rt_t rfl rfl ?_ | refine rt_e rfl rfl ?_ | refine rt_p rfl rfl (by first | (simp [AV.bd, bdL, bdL_append]; done) | fail) ?_)) (by repeat' (first | exact ro_nil | refine ro_p rfl (by first | exact rfl | fail) (by first | (simp [bdL, bdL_append, AV.bd]; done) | fail) ?_)) rfl (by (rw [hm]; exact rfl)) rfl (by (simp [bdT, AV.bd, bdL, bdL_append]; done)) (by repeat' (first | exact True.intro | refine And.intro ?_ ?_ | (simp [bdOq, bdL, bdL_append, AV.bd]; done))) (by (rw [hm]; exact Nat.le_of_ble_eq_true rfl))⟩⟩
    · have e1 : okPL n xs kids = true := (okPL_iff n xs kids hkl).2 fun j hj => hall j (by omega)
      rw [e1]
      (repeat' (first | apply jA | apply jH | apply jJ | apply jK | apply jL | apply jP | apply jS | (refine wp_cond rfl (fun hc => ?_) (fun hc => ?_) <;> (try simp only [sB, ne_eq, reduceCtorEq] at hc) <;> (try (exfalso; omega))) | (refine WP.regionC (id := 7) ?_; (refine smove rfl ?_); (refine smove rfl ?_); (refine slenm rfl rfl ?_); (refine slss rfl rfl ?_); apply jW) | (refine WP.regionC (id := 11) ?_; (refine sassign rfl ?_); apply jW) | exact ret_eq rfl rfl rfl))
theorem prs_iff {a b : Prs} : a = b ↔ a.rule = b.rule ∧ a.kids = b.kids := ⟨by rintro rfl; exact ⟨rfl, rfl⟩, fun h => Prs.ext' h.1 h.2⟩
theorem equalParse_fn (a : Prs) : ∀ b : Prs, Fn Try.prog 31 [prsA a, prsA b] (boolA (decide (a = b))) := by
  induction a using Prs.ind with
  | h a ih =>
    intro b
    have e1 : decide (a = b) = (decide (a.rule = b.rule) && decide (a.kids = b.kids)) := by
      rw [Bool.eq_iff_iff]; simp only [Bool.and_eq_true, decide_eq_true_eq]; exact prs_iff
    rw [e1, prsA_kids, prsA_kids]
    refine Fn.intro rfl (by kernel_rfl) Try.func31 rfl rfl Try.ntmps31 (by exact Nat.le_of_ble_eq_true rfl) ?_; intro Γ hm
    refine wp_lens 0 rfl fun hl => ?_
    have hl : a.kids.length ≤ 9223372036854775807 := by have := hl; simp [AV.lens, lensL, prssA] at this; omega
    (repeat' (first | apply jA | apply jF | apply jH | apply jI | apply jK | apply jM | apply jS | (refine wp_cond rfl (fun hc => ?_) (fun hc => ?_) <;> (try simp only [sB, ne_eq, reduceCtorEq] at hc) <;> (try (exfalso; omega))) | (refine WP.regionC (id := 0) ?_; (refine se_box rfl (by exact ⟨rfl, rfl⟩) ?_); (refine se_box rfl (by exact ⟨rfl, rfl⟩) ?_); (refine sassign rfl ?_); apply jW) | (refine WP.regionC (id := 1) ?_; (refine sfieldp rfl rfl rfl ?_); (refine sloadp rfl rfl rfl rfl ?_); (refine sfieldp rfl rfl rfl ?_); (refine sloadp rfl rfl rfl rfl ?_); (refine su (aneq rfl rfl) ?_); (refine smove rfl ?_); (refine sg (gq_vf rfl rfl) (fun he => ap_field_p (rq_p rfl rfl) rfl rfl) ?_); (refine sg (gq_vf rfl rfl) (fun he => ap_load_p (rq_c rfl rfl) rfl rfl rfl) ?_); (refine sg (gq_vf rfl rfl) (fun he => ap_len_m rfl (rq_c rfl rfl)) ?_); (refine sg (gq_vf rfl rfl) (fun he => ap_field_p (rq_p rfl rfl) rfl rfl) ?_); (refine sg (gq_vf rfl rfl) (fun he => ap_load_p (rq_c rfl rfl) rfl rfl rfl) ?_); (refine sg (gq_vf rfl rfl) (fun he => ap_len_m rfl (rq_c rfl rfl)) ?_); (refine sg (gq_vf rfl rfl) (fun he => ap_neq (rq_c rfl rfl) (rq_c rfl rfl)) ?_); (refine su (ap_or (rq_p rfl rfl) (rq_c rfl rfl)) ?_); apply jW) | (refine WP.regionC ?_; (refine sassign rfl ?_); apply jW) | refine ret_b rfl ?_))
    · rw [← e1, decide_eq_false]
      rintro rfl
      simp at hc
    have hc0 := hc
    refine wp_loop (fun (i : Nat) => i ≤ a.kids.length ∧ a.kids.take i = b.kids.take i) (fun i => a.kids.length - i)
      (fun i => (S 39 [(2, .ptr 0 2 0 0), (3, .ptr 1 2 0 0), (5, intA (i : Nat))] 2 [(0, some (.arr 2 [.agg [intA a.rule, prssA a.kids]])), (1, some (.arr 2 [.agg [intA b.rule, prssA b.kids]]))])) 0 ⟨[0, 1], ToR.S rfl (by repeat' (first | exact rt_nil | refine rt_t rfl rfl ?_ | refine rt_e rfl rfl ?_)) (by repeat' (first | exact ro_nil | refine ro_p rfl (by first | exact rfl | fail) (by first | (simp [bdL, bdL_append, AV.bd]; done) | fail) ?_)) rfl (by (rw [hm]; exact rfl)) rfl (by (simp [bdT, AV.bd, bdL, bdL_append]; done)) (by repeat' (first | exact True.intro | refine And.intro ?_ ?_ | (simp [bdOq, bdL, bdL_append, AV.bd]; done))) (by (rw [hm]; exact Nat.le_of_ble_eq_true rfl))⟩ ⟨Nat.zero_le _, rfl⟩ ?_
    rintro i ⟨hi, hall⟩
    have hab : a.kids.length = b.kids.length := by omega
    by_cases hlt : i < a.kids.length
    · have hx := ih _ (nth_mem hlt) (nth b.kids i)
      (repeat' (first | apply jA | apply jF | apply jH | apply jI | apply jK | apply jM | apply jN | apply jO | apply jS | (refine wp_cond rfl (fun hc => ?_) (fun hc => ?_) <;> (try simp only [sB, ne_eq, reduceCtorEq] at hc) <;> (try (exfalso; omega))) | (refine WP.regionC (id := 4) ?_; (refine smove rfl ?_); (refine sfieldp rfl rfl rfl ?_); (refine sloadp rfl rfl rfl rfl ?_); (refine slenm rfl rfl ?_); (refine slss rfl rfl ?_); apply jW) | (refine wp_draw (id := 6) 12 mixed (by kernel_rfl) (by kernel_rfl) rfl ?_ <;> (refine rfieldp rfl rfl rfl ?_) <;> (refine rloadp rfl rfl rfl rfl ?_) <;> (refine rmove rfl ?_) <;> (refine rd_u rfl rfl (aidxn rfl rfl (by omega)) ?_) <;> (refine rd_u rfl rfl (aloadw rfl rfl) ?_) <;> (refine rfieldp rfl rfl rfl ?_) <;> (refine rloadp rfl rfl rfl rfl ?_) <;> (refine rmove rfl ?_) <;> (refine rd_u rfl rfl (aidxn rfl rfl (by omega)) ?_) <;> (refine rd_u rfl rfl (aloadw rfl rfl) ?_) <;> (refine rd_call rfl rfl (by first | ((repeat' first | exact SubL.nil | refine SubL.cons ?_ ?_ | exact Sub.refl); done) | fail) (by first | (simp [bdL, bdL_append, AV.bd]; done) | fail) (hx) ?_) <;> (refine rd_u rfl rfl (anot rfl) ?_) <;> (refine rd_end (by kernel_rfl) ?_)) | (refine WP.regionC (id := 7) ?_; (refine sassign rfl ?_); apply jW) | (refine WP.regionC (id := 5) ?_; (refine smove rfl ?_); (refine sadd rfl rfl (by exact inr_i64_of (by omega)) ?_); (refine sassign rfl ?_); apply jW) | refine ret_b rfl ?_))
      · have : a.kids ≠ b.kids := by intro h; rw [h] at hc; exact hc rfl
        simp [this]
      · exact ⟨i + 1, ⟨by omega, by omega, take_eq_succ (by omega) (by omega) hall hc⟩, ⟨[0, 1], ToR.S rfl (by repeat' (first | exact rt_nil | refine rt_t rfl rfl ?_ | refine rt_e rfl rfl ?_)) (by repeat' (first | exact ro_nil | refine ro_p rfl (by first | exact rfl | fail) (by first | (simp [bdL, bdL_append, AV.bd]; done) | fail) ?_)) rfl (by (rw [hm]; exact rfl)) rfl (by (simp [bdT, AV.bd, bdL, bdL_append]; done)) (by repeat' (first | exact True.intro | refine And.intro ?_ ?_ | (simp [bdOq, bdL, bdL_append, AV.bd]; done))) (by (rw [hm]; exact Nat.le_of_ble_eq_true rfl))⟩⟩
    (repeat' (first | apply jA | apply jH | apply jJ | apply jK | apply jL | apply jP | apply jS | (refine wp_cond rfl (fun hc => ?_) (fun hc => ?_) <;> (try simp only [sB, ne_eq, reduceCtorEq] at hc) <;> (try (exfalso; omega))) | (refine WP.regionC (id := 4) ?_; (refine smove rfl ?_); (refine sfieldp rfl rfl rfl ?_); (refine sloadp rfl rfl rfl rfl ?_); (refine slenm rfl rfl ?_); (refine slss rfl rfl ?_); apply jW) | (refine WP.regionC (id := 8) ?_; (refine sassign rfl ?_); apply jW) | refine ret_b rfl ?_))
    simp [eq_of_takes hab (by omega) hall, hc0.1]
end Go.Lg
