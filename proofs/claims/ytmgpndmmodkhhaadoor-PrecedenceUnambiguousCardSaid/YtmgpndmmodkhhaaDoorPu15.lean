/-
  Part 15 of the proof of PrecedenceUnambiguousCard: the logic over the model, the functions' contracts and the plain laws.
-/
import Derived.Test.YtmgpndmmodkhhaaDoorPu14
import Derived.Lib.Join
import Derived.Lib.ItoaLen

set_option linter.unusedSimpArgs false
set_option linter.unusedVariables false
set_option linter.unusedSectionVars false
set_option linter.defProp false
set_option maxHeartbeats 4000000

namespace Go.Lg
open Go.Proofs
def letB (c : Int) : Bool := decide (97 <= c) && decide (c <= 122) || decide (65 <= c) && decide (c <= 90)
def digB (c : Int) : Bool := decide (48 <= c) && decide (c <= 57)
theorem range_all_succ {f : Nat -> Bool} {k : Nat} (h : (List.range k).all f = true) (hf : f k = true) : (List.range (k + 1)).all f = true := by
 rw [List.range_succ, List.all_append, h]; simp [hf]
theorem range_all_no {f : Nat -> Bool} {k n : Nat} (hk : k < n) (hf : f k = false) : (List.range n).all f = false := by
 rw [List.all_eq_false]; exact ⟨k, by simpa using hk, by simp [hf]⟩
def indexP {α : Type} (p : α -> Bool) (l : List α) : Int := match l.findIdx? p with
 | some i => i
 | none => -1
theorem indexP_at {α : Type} [Inhabited α] {p : α -> Bool} {l : List α} {k : Nat} (hk : k < l.length) (h : (l.take k).any p = false) (hp : p (nth l k) = true) : indexP p l = k := by
 have : l.findIdx? p = some k := by
  rw [List.findIdx?_eq_some_iff_getElem]
  refine ⟨hk, by rwa [nth_eq hk] at hp, fun j hj => ?_⟩
  rw [List.any_eq_false] at h
  have := h l[j] (by rw [List.mem_take_iff_getElem]; exact ⟨j, by omega, rfl⟩)
  simpa using this
 simp [indexP, this]
theorem indexP_no {α : Type} {p : α -> Bool} {l : List α} {k : Nat} (hk : l.length <= k) (h : (l.take k).any p = false) : indexP p l = -1 := by
 rw [List.take_of_length_le hk] at h
 have : l.findIdx? p = none := by rw [List.findIdx?_eq_none_iff]; intro x hx; rw [List.any_eq_false] at h; simpa using h x hx
 simp [indexP, this]
theorem indexP_any {α : Type} {p : α -> Bool} {l : List α} : decide (0 <= indexP p l) = l.any p := by
 unfold indexP
 cases h : l.findIdx? p with
 | none => rw [List.findIdx?_eq_none_iff] at h; rw [show l.any p = false by rw [List.any_eq_false]; intro x hx; simp [h x hx]]; rfl
 | some i =>
  rw [List.findIdx?_eq_some_iff_getElem] at h
  obtain ⟨hi, hp, _⟩ := h
  rw [show l.any p = true by rw [List.any_eq_true]; exact ⟨_, List.getElem_mem hi, hp⟩]
  simp
theorem take_any_succ {α : Type} [Inhabited α] {l : List α} {f : α -> Bool} {k : Nat} (hk : k < l.length) (h : (l.take k).any f = false) (hf : f (nth l k) = false) : (l.take (k + 1)).any f = false := by
 rw [take_succ_nth hk, List.any_append, h]; simp [hf]
theorem ret_2 {P : Program} {n M : Nat} {l : List (Nat × AV)} {os : List (Nat × Option AObj)} {a b : Tmp} {x y X : AV} (h1 : opq n l (.tmp a) = some x) (h2 : opq n l (.tmp b) = some y) (hx : x.bd 0 = true) (hy : y.bd 0 = true) (he : AV.tup [x, y] = X) : Ret P [.tmp a, .tmp b] X (S n l M os) := by
 subst he
 exact ret_many (.tmp h1 (.tmp h2 .nil)) (Nat.le_refl 2) (.cons (.reflp hx) (.cons (.reflp hy) .nil))
theorem take_eq_succ {α : Type} [Inhabited α] {a b : List α} {k : Nat} (ha : k < a.length) (hb : k < b.length) (h : a.take k = b.take k) (he : nth a k = nth b k) : a.take (k + 1) = b.take (k + 1) := by
 rw [take_succ_nth ha, take_succ_nth hb, h, he]
theorem eq_of_takes {α : Type} {a b : List α} {k : Nat} (hl : a.length = b.length) (hk : a.length <= k) (h : a.take k = b.take k) : a = b := by
 rwa [List.take_of_length_le hk, List.take_of_length_le (by omega)] at h
theorem nodup_nth {α : Type} [Inhabited α] {l : List α} (h : ∀ j, j < l.length -> ∀ k, k < j -> nth l k ≠ nth l j) : l.Nodup := by
 rw [List.nodup_iff_pairwise_ne, List.pairwise_iff_getElem]
 intro i j hi hj hij
 have := h j hj i hij
 rwa [nth_eq hi, nth_eq hj] at this
theorem not_nodup {α : Type} [Inhabited α] {l : List α} {k j : Nat} (hj : j < l.length) (hk : k < j) (h : nth l k = nth l j) : ¬ l.Nodup := by
 rw [List.nodup_iff_pairwise_ne, List.pairwise_iff_getElem]
 intro hp
 have := hp k j (by omega) hj hk
 rw [nth_eq (by omega), nth_eq hj] at h
 exact this h
theorem all_of_nth {α : Type} [Inhabited α] {l : List α} {f : α -> Bool} (h : ∀ j, j < l.length -> f (nth l j) = true) : l.all f = true := by
 rw [List.all_eq_true]; intro x hx
 obtain ⟨i, hi, rfl⟩ := List.getElem_of_mem hx
 have := h i hi
 rwa [nth_eq hi] at this
def bl (s : ByteArray) : List UInt8 := s.data.toList
def tx (l : List UInt8) : ByteArray := ⟨l.toArray⟩
@[simp] theorem bl_tx (l : List UInt8) : bl (tx l) = l := rfl
theorem tx_size (l : List UInt8) : (tx l).size = l.length := by simp [tx, ByteArray.size]
end Go.Lg
namespace Go.Lg
theorem sB : (∀ {p : Prop} [Decidable p], (decide p = true) = p) /\
 (∀ {p : Prop} [Decidable p], decide p = false ↔ ¬p) /\
 (∀ {p : Prop} [Decidable p], ¬¬p ↔ p) /\
 (∀ a b : Bool, ((a && b) = true) = (a = true /\ b = true)) /\
 (∀ a b : Bool, ((a || b) = true) = (a = true \/ b = true)) /\
 (∀ {b : Bool}, ((!b) = true) = (b = false)) /\
 (∀ {b : Bool}, ((!b) = false) = (b = true)) /\
 (∀ {x y : Bool}, (x || y) = false ↔ x = false /\ y = false) /\
 (∀ {x y : Bool}, (x && y) = false ↔ x = false \/ y = false) /\
 (∀ {a b : Int}, ¬a < b ↔ b <= a) /\
 (∀ {a b : Int}, ¬a <= b ↔ b < a) /\
 ((!true) = false) /\
 ((!false) = true) /\
 (∀ {b : Bool}, (¬b = true) = (b = false)) /\
 (∀ {b : Bool}, (¬b = false) = (b = true)) := ⟨@decide_eq_true_eq, @decide_eq_false_iff_not, @Decidable.not_not, Bool.and_eq_true, Bool.or_eq_true, @Bool.not_eq_true', @Bool.not_eq_false', @Bool.or_eq_false_iff, @Bool.and_eq_false_iff, @Int.not_lt, @Int.not_le, Bool.not_true, Bool.not_false, @Bool.not_eq_true, @Bool.not_eq_false⟩
theorem sH : (∀ {α : Type} {a : α} {l : List α} {p : α -> Bool}, (a :: l).all p = (p a && l.all p)) /\
 (∀ {α : Type} {p : α -> Bool} {xs ys : List α}, (xs ++ ys).all p = (xs.all p && ys.all p)) /\
 (∀ {α : Type} {p : α -> Bool}, ([] : List α).all p = true) /\
 (∀ b : Bool, (b && true) = b) := ⟨@List.all_cons, @List.all_append, @List.all_nil, Bool.and_true⟩
theorem sL : (∀ {α : Type} {n : Nat} {a : α}, (List.replicate n a).length = n) /\
 (∀ {α : Type} {us : List α} {i : Nat} {a : α}, (us.set i a).length = us.length) /\
 (∀ {α : Type} {us bs : List α}, (us ++ bs).length = us.length + bs.length) /\
 (∀ {α : Type} {β : Type} {us : List α} (f : α -> β), (us.map f).length = us.length) /\
 (∀ {α : Type} {a : α} {us : List α}, (a :: us).length = us.length + 1) /\
 (∀ {α : Type}, ([] : List α).length = 0) /\
 (∀ {α : Type} {i : Nat} {l : List α}, (l.take i).length = min i l.length) /\
 (∀ {α : Type} {i : Nat} {l : List α}, (l.drop i).length = l.length - i) := ⟨@List.length_replicate, @List.length_set, @List.length_append, @List.length_map, @List.length_cons, @List.length_nil, @List.length_take, @List.length_drop⟩
theorem sZ : (∀ {α : Type} (us : List α), us.toArray.size = us.length) /\
 (∀ {a b : ByteArray}, (a ++ b).size = a.size + b.size) /\
 (∀ {α : Type} {us bs : List α}, (us ++ bs).length = us.length + bs.length) /\
 (∀ {α : Type} {a : α} {us : List α}, (a :: us).length = us.length + 1) /\
 (∀ {α : Type}, ([] : List α).length = 0) := ⟨@List.size_toArray, @ByteArray.size_append, @List.length_append, @List.length_cons, @List.length_nil⟩
open Go.RowKit
def opp (n : Nat) (l : List (Nat × AV)) (a : Operand) : Option AV := match opq n l a with
 | some x => bif x.plain then some x else none
 | none => none
section
variable {P : Program} {n M N i0 : Nat} {l : List (Nat × AV)} {os : List (Nat × Option AObj)} {e l' t : List Bool} {a b c d : Operand} {x y : AV} {dd tg : Tmp} {tyo : TypeId} {pos : String} {af : Array Edge} {ops : Array Oper} {rest : List Oper} {KD : List Rec -> St -> Prop} {K : St -> Prop} {rs : List Rec} {jg : Nat} {want : Bool}
theorem opp_b (h : opp n l a = some x) : opq n l a = some x /\ x.plain = true := by
 unfold opp at h
 cases hq : opq n l a with
 | none => rw [hq] at h; cases h
 | some y =>
  rw [hq] at h
  simp only at h
  cases hp : y.plain with
  | false => rw [hp] at h; cases h
  | true => rw [hp] at h; injection h with h; subst h; exact ⟨rfl, hp⟩
theorem opp_o (h : opp n l a = some x) : opq n l a = some x := (opp_b h).1
theorem opp_p (h : opp n l a = some x) : x.plain = true := (opp_b h).2
theorem opp_q (h : opp n l a = some x) : Rq n l e a x := rq_p (opp_b h).1 (opp_b h).2
section
variable {k kk : IntKind} {p q : Int} {ty ty2 : TypeId} {s u : ByteArray} {ti tj te : TI} {el : TypeId} {cs es : List AV} {i j id off sz len : Nat} {ed : AV} {b' : Bool}
theorem smove (h : opp n l a = some x) (hk : asemC P ops rest (S n ((dd, x) :: l) M os) K) : asemC P ops (⟨some dd, (.move a), tyo, pos, af, none⟩ :: rest) (S n l M os) K := su (ap_move (opp_q h)) hk
theorem rmove (h : opp n l a = some x) (hk : RunD P ops N (i0 + 1) rest (S n ((dd, x) :: l) M os) (rs ++ [⟨some dd, [], topq n l (rdOps (.move a))⟩]) KD) : RunD P ops N i0 (⟨some dd, (.move a), tyo, pos, af, none⟩ :: rest) (S n l M os) rs KD := rd_u (by first | (simp [Op.operands, plainq, opp_o h, opp_p h]; done) | simp [Op.operands, plainq, AV.plain, opp_o h]) rfl (ap_move (opp_q h)) hk
theorem gmove (ht : (ops[jg]?).bind (·.dst) = some tg) (hg : opq n l (.tmp tg) = some (.val (.bool want))) (h : opp n l a = some x) (hk : RunD P ops N (i0 + 1) rest (S n ((dd, x) :: l) M os) (rs ++ [⟨some dd, [], topq n l (rdOps (.move a))⟩]) KD) : RunD P ops N i0 (⟨some dd, (.move a), tyo, pos, af, some (jg, want)⟩ :: rest) (S n l M os) rs KD := rdg_u ht hg (by first | (simp [Op.operands, plainq, opp_o h, opp_p h]; done) | simp [Op.operands, plainq, AV.plain, opp_o h]) rfl (ap_move (opp_q h)) hk
theorem sassign (h : opp n l a = some x) (hk : asemC P ops rest (S n ((dd, x) :: l) M os) K) : asemC P ops (⟨some dd, (.assign a), tyo, pos, af, none⟩ :: rest) (S n l M os) K := su (ap_assign (opp_q h)) hk
theorem aassign (h : opp n l a = some x) : Ap P n l M os e (.assign a) x := ap_assign (opp_q h)
theorem sadd (ha : opp n l a = some (.val (.int k p))) (hb : opp n l b = some (.val (.int k q))) (h : inr k (p + q)) (hk : asemC P ops rest (S n ((dd, (.val (.int k (p + q)))) :: l) M os) K) : asemC P ops (⟨some dd, (.binOp .add ty a b ty2), tyo, pos, af, none⟩ :: rest) (S n l M os) K := su (ap_add (opp_q ha) (opp_q hb) h) hk
theorem aadd (ha : opp n l a = some (.val (.int k p))) (hb : opp n l b = some (.val (.int k q))) (h : inr k (p + q)) : Ap P n l M os e (.binOp .add ty a b ty2) (.val (.int k (p + q))) := ap_add (opp_q ha) (opp_q hb) h
theorem asub (ha : opp n l a = some (.val (.int k p))) (hb : opp n l b = some (.val (.int k q))) (h : inr k (p - q)) : Ap P n l M os e (.binOp .sub ty a b ty2) (.val (.int k (p - q))) := ap_sub (opp_q ha) (opp_q hb) h
theorem amul (ha : opp n l a = some (.val (.int k p))) (hb : opp n l b = some (.val (.int k q))) (h : inr k (p * q)) : Ap P n l M os e (.binOp .mul ty a b ty2) (.val (.int k (p * q))) := ap_mul (opp_q ha) (opp_q hb) h
theorem arem (ha : opp n l a = some (.val (.int k p))) (hb : opp n l b = some (.val (.int k q))) (h : q ≠ 0) : Ap P n l M os e (.binOp .rem ty a b ty2) (.val (.int k (p.tmod q))) := ap_rem (opp_q ha) (opp_q hb) h
theorem seql (ha : opp n l a = some (.val (.int k p))) (hb : opp n l b = some (.val (.int k q))) (hk : asemC P ops rest (S n ((dd, (.val (.bool (decide (p = q))))) :: l) M os) K) : asemC P ops (⟨some dd, (.binOp .eql ty a b ty2), tyo, pos, af, none⟩ :: rest) (S n l M os) K := su (ap_eql (opp_q ha) (opp_q hb)) hk
theorem aeql (ha : opp n l a = some (.val (.int k p))) (hb : opp n l b = some (.val (.int k q))) : Ap P n l M os e (.binOp .eql ty a b ty2) (.val (.bool (decide (p = q)))) := ap_eql (opp_q ha) (opp_q hb)
theorem aneq (ha : opp n l a = some (.val (.int k p))) (hb : opp n l b = some (.val (.int k q))) : Ap P n l M os e (.binOp .neq ty a b ty2) (.val (.bool (!decide (p = q)))) := ap_neq (opp_q ha) (opp_q hb)
theorem slss (ha : opp n l a = some (.val (.int k p))) (hb : opp n l b = some (.val (.int k q))) (hk : asemC P ops rest (S n ((dd, (.val (.bool (decide (p < q))))) :: l) M os) K) : asemC P ops (⟨some dd, (.binOp .lss ty a b ty2), tyo, pos, af, none⟩ :: rest) (S n l M os) K := su (ap_lss (opp_q ha) (opp_q hb)) hk
theorem alss (ha : opp n l a = some (.val (.int k p))) (hb : opp n l b = some (.val (.int k q))) : Ap P n l M os e (.binOp .lss ty a b ty2) (.val (.bool (decide (p < q)))) := ap_lss (opp_q ha) (opp_q hb)
theorem aleq (ha : opp n l a = some (.val (.int k p))) (hb : opp n l b = some (.val (.int k q))) : Ap P n l M os e (.binOp .leq ty a b ty2) (.val (.bool (decide (p <= q)))) := ap_leq (opp_q ha) (opp_q hb)
theorem agtr (ha : opp n l a = some (.val (.int k p))) (hb : opp n l b = some (.val (.int k q))) : Ap P n l M os e (.binOp .gtr ty a b ty2) (.val (.bool (decide (q < p)))) := ap_gtr (opp_q ha) (opp_q hb)
theorem ageq (ha : opp n l a = some (.val (.int k p))) (hb : opp n l b = some (.val (.int k q))) : Ap P n l M os e (.binOp .geq ty a b ty2) (.val (.bool (decide (q <= p)))) := ap_geq (opp_q ha) (opp_q hb)
theorem seqs (ha : opp n l a = some (.val (.string s))) (hb : opp n l b = some (.val (.string u))) (hk : asemC P ops rest (S n ((dd, (.val (.bool (decide (s = u))))) :: l) M os) K) : asemC P ops (⟨some dd, (.binOp .eql ty a b ty2), tyo, pos, af, none⟩ :: rest) (S n l M os) K := su (ap_eqs (opp_q ha) (opp_q hb)) hk
theorem aeqs (ha : opp n l a = some (.val (.string s))) (hb : opp n l b = some (.val (.string u))) : Ap P n l M os e (.binOp .eql ty a b ty2) (.val (.bool (decide (s = u)))) := ap_eqs (opp_q ha) (opp_q hb)
theorem anes (ha : opp n l a = some (.val (.string s))) (hb : opp n l b = some (.val (.string u))) : Ap P n l M os e (.binOp .neq ty a b ty2) (.val (.bool (!decide (s = u)))) := ap_nes (opp_q ha) (opp_q hb)
theorem acat (ha : opp n l a = some (.val (.string s))) (hb : opp n l b = some (.val (.string u))) (h : s.size + u.size <= 9223372036854775807) : Ap P n l M os e (.binOp .add ty a b ty2) (.val (.string (s ++ u))) := ap_cat (opp_q ha) (opp_q hb) h
theorem anot {p : Bool} (ha : opp n l a = some (.val (.bool p))) : Ap P n l M os e (.unOp .not ty a) (.val (.bool !p)) := ap_not (opp_q ha)
theorem aneg (ha : opp n l a = some (.val (.int k p))) (h : inr k (0 - p)) : Ap P n l M os e (.unOp .neg ty a) (.val (.int k (0 - p))) := ap_neg (opp_q ha) h
theorem sloadw [h : TIc P ty ti] (ha : opp n l a = some (.iptr (AV.cells x) 0)) (hp : part ti x.cells 0 = some x) (hk : asemC P ops rest (S n ((dd, x) :: l) M os) K) : asemC P ops (⟨some dd, (.load ty a), tyo, pos, af, none⟩ :: rest) (S n l M os) K := su (ap_load_w (opp_q ha) hp) hk
theorem aloadw [h : TIc P ty ti] (ha : opp n l a = some (.iptr (AV.cells x) 0)) (hp : part ti x.cells 0 = some x) : Ap P n l M os e (.load ty a) x := ap_load_w (opp_q ha) hp
theorem aloadi [h : TIc P ty ti] (ha : opp n l a = some (.iptr cs j)) (hp : part ti cs j = some x) : Ap P n l M os e (.load ty a) x := ap_load_i (opp_q ha) hp
theorem sloadpw {k : Nat} [h : TIc P ty ti] (ha : opp n l a = some (.ptr id k i 0)) (ho : lookq M os id = some (.arr k es)) (hi : es[i]? = some x) (hp : part ti x.cells 0 = some x) (hk : asemC P ops rest (S n ((dd, x) :: l) M os) K) : asemC P ops (⟨some dd, (.load ty a), tyo, pos, af, none⟩ :: rest) (S n l M os) K := su (ap_load_pw (opp_q ha) ho hi hp) hk
theorem aloadpw {k : Nat} [h : TIc P ty ti] (ha : opp n l a = some (.ptr id k i 0)) (ho : lookq M os id = some (.arr k es)) (hi : es[i]? = some x) (hp : part ti x.cells 0 = some x) : Ap P n l M os e (.load ty a) x := ap_load_pw (opp_q ha) ho hi hp
theorem sloadp {k : Nat} [h : TIc P ty ti] (ha : opp n l a = some (.ptr id k i j)) (ho : lookq M os id = some (.arr k es)) (hi : es[i]? = some y) (hp : part ti y.cells j = some x) (hk : asemC P ops rest (S n ((dd, x) :: l) M os) K) : asemC P ops (⟨some dd, (.load ty a), tyo, pos, af, none⟩ :: rest) (S n l M os) K := su (ap_load_p (opp_q ha) ho hi hp) hk
theorem rloadp {k : Nat} [h : TIc P ty ti] (ha : opp n l a = some (.ptr id k i j)) (ho : lookq M os id = some (.arr k es)) (hi : es[i]? = some y) (hp : part ti y.cells j = some x) (hk : RunD P ops N (i0 + 1) rest (S n ((dd, x) :: l) M os) (rs ++ [⟨some dd, [], topq n l (rdOps (.load ty a))⟩]) KD) : RunD P ops N i0 (⟨some dd, (.load ty a), tyo, pos, af, none⟩ :: rest) (S n l M os) rs KD := rd_u (by first | (simp [Op.operands, plainq, opp_o ha, opp_p ha]; done) | simp [Op.operands, plainq, AV.plain, opp_o ha]) rfl (ap_load_p (opp_q ha) ho hi hp) hk
theorem gloadp {k : Nat} (ht : (ops[jg]?).bind (·.dst) = some tg) (hg : opq n l (.tmp tg) = some (.val (.bool want))) [h : TIc P ty ti] (ha : opp n l a = some (.ptr id k i j)) (ho : lookq M os id = some (.arr k es)) (hi : es[i]? = some y) (hp : part ti y.cells j = some x) (hk : RunD P ops N (i0 + 1) rest (S n ((dd, x) :: l) M os) (rs ++ [⟨some dd, [], topq n l (rdOps (.load ty a))⟩]) KD) : RunD P ops N i0 (⟨some dd, (.load ty a), tyo, pos, af, some (jg, want)⟩ :: rest) (S n l M os) rs KD := rdg_u ht hg (by first | (simp [Op.operands, plainq, opp_o ha, opp_p ha]; done) | simp [Op.operands, plainq, AV.plain, opp_o ha]) rfl (ap_load_p (opp_q ha) ho hi hp) hk
theorem aloadp {k : Nat} [h : TIc P ty ti] (ha : opp n l a = some (.ptr id k i j)) (ho : lookq M os id = some (.arr k es)) (hi : es[i]? = some y) (hp : part ti y.cells j = some x) : Ap P n l M os e (.load ty a) x := ap_load_p (opp_q ha) ho hi hp
theorem aloadpt {k : Nat} {α : Type} [Inhabited α] {f : α -> AV} {L : List α} [h : TIc P ty ti] (ha : opp n l a = some (.ptr id k i 0)) (ho : lookq M os id = some (.arr k (L.map f))) (hi : i < L.length) (hp : part ti (f (nth L i)).cells 0 = some (f (nth L i))) : Ap P n l M os e (.load ty a) (f (nth L i)) := ap_load_pt (opp_q ha) ho hi hp
theorem sfieldp {k : Nat} [h : TIc P ty ti] {f : Nat} (ha : opp n l a = some (.ptr id k i j)) (hf : ti.fields[f]? = some (off, sz)) (hs : Nat.beq sz 0 = false) (hk : asemC P ops rest (S n ((dd, (.ptr id k i (j + off))) :: l) M os) K) : asemC P ops (⟨some dd, (.fieldAddr ty a f), tyo, pos, af, none⟩ :: rest) (S n l M os) K := su (ap_field_p (opp_q ha) hf hs) hk
theorem rfieldp {k : Nat} [h : TIc P ty ti] {f : Nat} (ha : opp n l a = some (.ptr id k i j)) (hf : ti.fields[f]? = some (off, sz)) (hs : Nat.beq sz 0 = false) (hk : RunD P ops N (i0 + 1) rest (S n ((dd, (.ptr id k i (j + off))) :: l) M os) (rs ++ [⟨some dd, [], topq n l (rdOps (.fieldAddr ty a f))⟩]) KD) : RunD P ops N i0 (⟨some dd, (.fieldAddr ty a f), tyo, pos, af, none⟩ :: rest) (S n l M os) rs KD := rd_u (by first | (simp [Op.operands, plainq, opp_o ha, opp_p ha]; done) | simp [Op.operands, plainq, AV.plain, opp_o ha]) rfl (ap_field_p (opp_q ha) hf hs) hk
theorem gfieldp {k : Nat} (ht : (ops[jg]?).bind (·.dst) = some tg) (hg : opq n l (.tmp tg) = some (.val (.bool want))) [h : TIc P ty ti] {f : Nat} (ha : opp n l a = some (.ptr id k i j)) (hf : ti.fields[f]? = some (off, sz)) (hs : Nat.beq sz 0 = false) (hk : RunD P ops N (i0 + 1) rest (S n ((dd, (.ptr id k i (j + off))) :: l) M os) (rs ++ [⟨some dd, [], topq n l (rdOps (.fieldAddr ty a f))⟩]) KD) : RunD P ops N i0 (⟨some dd, (.fieldAddr ty a f), tyo, pos, af, some (jg, want)⟩ :: rest) (S n l M os) rs KD := rdg_u ht hg (by first | (simp [Op.operands, plainq, opp_o ha, opp_p ha]; done) | simp [Op.operands, plainq, AV.plain, opp_o ha]) rfl (ap_field_p (opp_q ha) hf hs) hk
theorem afieldi [h : TIc P ty ti] {f : Nat} (ha : opp n l a = some (.iptr cs j)) (hf : ti.fields[f]? = some (off, sz)) (hs : Nat.beq sz 0 = false) : Ap P n l M os e (.fieldAddr ty a f) (.iptr cs (j + off)) := ap_field_i (opp_q ha) hf hs
theorem sidxn {k : Nat} {α : Type} [Inhabited α] {f : α -> AV} {L : List α} {kk : IntKind} {i : Nat} {bt : Nat} [h : TEl P ty te k bt] (ha : opp n l a = some (.sl k (L.map f))) (hb : opp n l b = some (.val (.int kk (i : Int)))) (hi : i < L.length) (hk : asemC P ops rest (S n ((dd, (.iptr (AV.cells (f (nth L i))) 0)) :: l) M os) K) : asemC P ops (⟨some dd, (.indexAddr ty a b), tyo, pos, af, none⟩ :: rest) (S n l M os) K := su (ap_idx_n (opp_q ha) (opp_q hb) hi) hk
theorem aidxn {k : Nat} {α : Type} [Inhabited α] {f : α -> AV} {L : List α} {kk : IntKind} {i : Nat} {bt : Nat} [h : TEl P ty te k bt] (ha : opp n l a = some (.sl k (L.map f))) (hb : opp n l b = some (.val (.int kk (i : Int)))) (hi : i < L.length) : Ap P n l M os e (.indexAddr ty a b) (.iptr (AV.cells (f (nth L i))) 0) := ap_idx_n (opp_q ha) (opp_q hb) hi
theorem aidxz {k : Nat} {α : Type} [Inhabited α] {f : α -> AV} {L : List α} {kk : IntKind} {i : Int} {bt : Nat} [h : TEl P ty te k bt] (ha : opp n l a = some (.sl k (L.map f))) (hb : opp n l b = some (.val (.int kk i))) (hi : 0 <= i /\ i < L.length) : Ap P n l M os e (.indexAddr ty a b) (.iptr (AV.cells (f (nth L i.toNat))) 0) := ap_idx_z (opp_q ha) (opp_q hb) hi
theorem aidxrn {k : Nat} {kk : IntKind} {i : Nat} {bt : Nat} [h : TEl P ty te k bt] (ha : opp n l a = some (.ref id k 0 len)) (hb : opp n l b = some (.val (.int kk (i : Int)))) (hi : i < len) : Ap P n l M os e (.indexAddr ty a b) (.ptr id k i 0) := ap_idxr_n (opp_q ha) (opp_q hb) hi
theorem aidxrz {k : Nat} {kk : IntKind} {i : Int} {bt : Nat} [h : TEl P ty te k bt] (ha : opp n l a = some (.ref id k 0 len)) (hb : opp n l b = some (.val (.int kk i))) (hi : 0 <= i /\ i < len) : Ap P n l M os e (.indexAddr ty a b) (.ptr id k i.toNat 0) := ap_idxr_z (opp_q ha) (opp_q hb) hi
theorem asidxn {s : ByteArray} {kk : IntKind} {i : Nat} [h : TIc P ty ti] (ha : opp n l a = some (.val (.string s))) (hb : opp n l b = some (.val (.int kk (i : Int)))) (hs : ti.sh = .string) (hi : i < s.size) : Ap P n l M os e (.index ty a b) (.val (.int .u8 (bAt s i))) := ap_sidx_n (opp_q ha) (opp_q hb) hs hi
theorem slenm {k : Nat} {α : Type} {f : α -> AV} {L : List α} [h : TIc P ty ti] (hs : ti.sh = .slice) (ha : opp n l a = some (.sl k (L.map f))) (hk : asemC P ops rest (S n ((dd, (.val (.int .i64 (L.length : Int)))) :: l) M os) K) : asemC P ops (⟨some dd, (.call ⟨.builtin .len, #[a], #[ty]⟩), tyo, pos, af, none⟩ :: rest) (S n l M os) K := su (ap_len_m hs (opp_q ha)) hk
theorem alenm {k : Nat} {α : Type} {f : α -> AV} {L : List α} [h : TIc P ty ti] (hs : ti.sh = .slice) (ha : opp n l a = some (.sl k (L.map f))) : Ap P n l M os e (.call ⟨.builtin .len, #[a], #[ty]⟩) (.val (.int .i64 (L.length : Int))) := ap_len_m hs (opp_q ha)
theorem alenr {k : Nat} [h : TIc P ty ti] (hs : ti.sh = .slice) (ha : opp n l a = some (.ref id k off len)) : Ap P n l M os e (.call ⟨.builtin .len, #[a], #[ty]⟩) (.val (.int .i64 (len : Int))) := ap_len_r hs (opp_q ha)
theorem alenstr {s : ByteArray} [h : TIc P ty ti] (hs : ti.sh = .string) (ha : opp n l a = some (.val (.string s))) : Ap P n l M os e (.call ⟨.builtin .len, #[a], #[ty]⟩) (.val (.int .i64 (s.size : Int))) := ap_len_str hs (opp_q ha)
theorem amin {k k2 : IntKind} {p q : Int} {t1 t2 : TypeId} (ha : opp n l a = some (.val (.int k p))) (hb : opp n l b = some (.val (.int k2 q))) : Ap P n l M os e (.call ⟨.builtin .min, #[a, b], #[t1, t2]⟩) (.val (.int k (min p q))) := ap_min (opp_q ha) (opp_q hb)
theorem aconv {src : TypeId} {k kk : IntKind} {p : Int} [h0 : TIc P src tj] [h : TIc P ty ti] (ha : opp n l a = some (.val (.int kk p))) (hk : ti.kind = some k) (hb : b8 P ti = false) (hr : inr k p) : Ap P n l M os e (.convert src ty a) (.val (.int k p)) := ap_conv (opp_q ha) hk hb hr
theorem aextract {vs : List AV} (ha : opp n l a = some (.tup vs)) (hi : vs[i]? = some x) : Ap P n l M os e (.extract a i) x := ap_extract (opp_q ha) hi
end
end
section
variable {P : Program} {n M : Nat} {l : List (Nat × AV)} {os : List (Nat × Option AObj)} {e : List Bool} {op : Op} {d : Tmp} {ty : TypeId} {pos : String} {af : Array Edge} {ops : Array Oper} {rest : List Oper} {K : St -> Prop} {j : Nat} {want : Bool}
end
end Go.Lg
namespace Go.Lg
def jA := @WP.seq
def jF := @WP.block
def jH := @go_n
def jI := @WP.skip
def jJ := @WP.exit
def jK := @WP.ret
def jL := @go_x
def jM := @go_r
def jN := @bl_n
def jO := @bl_r
def jP := @bl_x
def jS := @bo_r
def jW := @asemC_end
open Go.Proofs
attribute [local irreducible] Ap Rq asemC WP RunD Ret Gq thenA inBlockA bodyQ noGotoA RqL RqP OpP
def nameCh (s : ByteArray) (i : Nat) : Bool := letB (bAt s i) || (!decide (i = 0) && (digB (bAt s i) || decide (bAt s i = 95) || decide (bAt s i = 46) || decide (bAt s i = 64)))
def nameOk (s : ByteArray) : Bool := decide (1 <= s.size) && decide (s.size <= 48) && (List.range s.size).all (nameCh s)
theorem name18_fn (x : ByteArray) : Fn Tryd.prog 55 [strA x] (boolA (nameOk x)) := by
 refine Fn.intro rfl (by kernel_rfl) Tryd.func55 rfl rfl Tryd.ntmps55 (by exact nle rfl) ?_; intro Γ hm
 (repeat' (first | apply jA | apply jF | apply jH | apply jI | apply jK | apply jM | apply jS | (refine wp_cond rfl (fun hc => ?_) (fun hc => ?_) <;> (try simp only [sB, ne_eq, reduceCtorEq] at hc) <;> (try (exfalso; omega))) | (refine WP.regionC ?_; (refine sassign rfl ?_); apply jW) | (refine rgC 1 ?_; (refine smove rfl ?_); (refine su (alenstr rfl rfl) ?_); (refine slss rfl rfl ?_); (refine smove rfl ?_); (refine sg (gq_vf rfl rfl) (fun he => ap_move (rq_p rfl rfl)) ?_); (refine sg (gq_vf rfl rfl) (fun he => ap_len_str rfl (rq_c rfl rfl)) ?_); (refine sg (gq_vf rfl rfl) (fun he => ap_gtr (rq_c rfl rfl) (rq_p rfl rfl)) ?_); (refine su (ap_or (rq_p rfl rfl) (rq_c rfl rfl)) ?_); apply jW) | refine ret_b rfl ?_))
 ·simp [nameOk]; omega
 refine wp_loop (fun k => k <= x.size /\ (List.range k).all (nameCh x) = true) (fun k => x.size - k) (fun k => (S 64 [(0, strA x), (3, intA (k : Nat))] 0 [])) 0 ⟨[], ToR.S rfl (by repeat' (first | exact rt_nil | refine rt_e rfl rfl ?_)) (by repeat' (exact ro_nil)) rfl (by (rw [hm]; exact rfl)) rfl zq4 (by repeat' (exact True.intro)) (by (rw [hm]; exact nle rfl))⟩ ⟨Nat.zero_le _, rfl⟩ ?_
 rintro k ⟨hk, hall⟩
 have hb := bAt_bd x k
 (repeat' (first | apply jA | apply jF | apply jH | apply jI | apply jJ | apply jK | apply jL | apply jM | apply jN | apply jO | apply jP | apply jS | (refine wp_cond rfl (fun hc => ?_) (fun hc => ?_) <;> (try simp only [sB, ne_eq, reduceCtorEq] at hc) <;> (try (exfalso; omega))) | (refine rgC 4 ?_; (refine smove rfl ?_); (refine smove rfl ?_); (refine su (alenstr rfl rfl) ?_); (refine slss rfl rfl ?_); apply jW) | (refine rgC 6 ?_; (refine smove rfl ?_); (refine smove rfl ?_); (refine su (asidxn rfl rfl rfl (by omega)) ?_); (refine sassign rfl ?_); apply jW) | (refine rgC 7 ?_; (refine smove rfl ?_); (refine su (ageq rfl rfl) ?_); (refine smove rfl ?_); (refine sg (gq_vt rfl rfl) (fun he => ap_move (rq_p rfl rfl)) ?_); (refine sg (gq_vt rfl rfl) (fun he => ap_leq (rq_c rfl rfl) (rq_p rfl rfl)) ?_); (refine su (ap_and (rq_p rfl rfl) (rq_c rfl rfl)) ?_); (refine smove rfl ?_); (refine sg (gq_vf rfl rfl) (fun he => ap_move (rq_p rfl rfl)) ?_); (refine sg (gq_vf rfl rfl) (fun he => ap_geq (rq_c rfl rfl) (rq_p rfl rfl)) ?_); (refine sg (gq_vf rfl rfl) (fun he => ap_move (rq_c rfl rfl)) ?_); (refine sg (gq_ct rfl rfl) (fun he => ap_move (rq_p rfl rfl)) ?_); (refine sg (gq_ct rfl rfl) (fun he => ap_leq (rq_c rfl rfl) (rq_p rfl rfl)) ?_); (refine sg (gq_vf rfl rfl) (fun he => ap_and (rq_c rfl rfl) (rq_c rfl rfl)) ?_); (refine su (ap_or (rq_p rfl rfl) (rq_c rfl rfl)) ?_); (refine sassign rfl ?_); apply jW) | (refine rgC 8 ?_; (refine smove rfl ?_); (refine su (anot rfl) ?_); (refine smove rfl ?_); (refine sg (gq_vt rfl rfl) (fun he => ap_move (rq_p rfl rfl)) ?_); (refine sg (gq_vt rfl rfl) (fun he => ap_eql (rq_c rfl rfl) (rq_p rfl rfl)) ?_); (refine sg (gq_vt rfl rfl) (fun he => ap_move (rq_c rfl rfl)) ?_); (refine sg (gq_cf rfl rfl) (fun he => ap_move (rq_p rfl rfl)) ?_); (refine sg (gq_cf rfl rfl) (fun he => ap_geq (rq_c rfl rfl) (rq_p rfl rfl)) ?_); (refine sg (gq_cf rfl rfl) (fun he => ap_move (rq_c rfl rfl)) ?_); (refine sg (gq_ct rfl rfl) (fun he => ap_move (rq_p rfl rfl)) ?_); (refine sg (gq_ct rfl rfl) (fun he => ap_leq (rq_c rfl rfl) (rq_p rfl rfl)) ?_); (refine sg (gq_cf rfl rfl) (fun he => ap_and (rq_c rfl rfl) (rq_c rfl rfl)) ?_); (refine sg (gq_cf rfl rfl) (fun he => ap_move (rq_c rfl rfl)) ?_); (refine sg (gq_cf rfl rfl) (fun he => ap_move (rq_p rfl rfl)) ?_); (refine sg (gq_cf rfl rfl) (fun he => ap_eql (rq_c rfl rfl) (rq_p rfl rfl)) ?_); (refine sg (gq_cf rfl rfl) (fun he => ap_or (rq_c rfl rfl) (rq_c rfl rfl)) ?_); (refine sg (gq_cf rfl rfl) (fun he => ap_move (rq_c rfl rfl)) ?_); (refine sg (gq_cf rfl rfl) (fun he => ap_move (rq_p rfl rfl)) ?_); (refine sg (gq_cf rfl rfl) (fun he => ap_eql (rq_c rfl rfl) (rq_p rfl rfl)) ?_); (refine sg (gq_cf rfl rfl) (fun he => ap_or (rq_c rfl rfl) (rq_c rfl rfl)) ?_); (refine sg (gq_cf rfl rfl) (fun he => ap_move (rq_c rfl rfl)) ?_); (refine sg (gq_cf rfl rfl) (fun he => ap_move (rq_p rfl rfl)) ?_); (refine sg (gq_cf rfl rfl) (fun he => ap_eql (rq_c rfl rfl) (rq_p rfl rfl)) ?_); (refine sg (gq_cf rfl rfl) (fun he => ap_or (rq_c rfl rfl) (rq_c rfl rfl)) ?_); (refine sg (gq_cf rfl rfl) (fun he => ap_not (rq_c rfl rfl)) ?_); (refine sg (gq_vt rfl rfl) (fun he => ap_or (rq_c rfl rfl) (rq_c rfl rfl)) ?_); (refine su (ap_and (rq_p rfl rfl) (rq_c rfl rfl)) ?_); apply jW) | (refine WP.regionC ?_; (refine sassign rfl ?_); apply jW) | (refine rgC 5 ?_; (refine smove rfl ?_); (refine sadd rfl rfl (by exact inr_i64_of (by omega)) ?_); (refine sassign rfl ?_); apply jW) | refine ret_b rfl ?_))
 ·rw [show nameOk x = false by simp only [nameOk]; rw [range_all_no (k := k) (by omega), Bool.and_false]; simp [nameCh, letB, digB]; omega]
 ·refine ⟨k + 1, ⟨by omega, by omega, range_all_succ hall ?_⟩, ⟨[], ToR.S rfl (by repeat' (first | exact rt_nil | refine rt_e rfl rfl ?_)) (by repeat' (exact ro_nil)) rfl (by (rw [hm]; exact rfl)) rfl zq4 (by repeat' (exact True.intro)) (by (rw [hm]; exact nle rfl))⟩⟩
  simp [nameCh, letB, digB]; omega
 have : k = x.size := by omega
 subst this
 simp only [nameOk, hall]; simp; omega
end Go.Lg
namespace Go.Lg
open Go.Proofs
attribute [local irreducible] Ap Rq asemC WP RunD Ret Gq thenA inBlockA bodyQ noGotoA RqL RqP OpP
def namesOk (l : List ByteArray) : Bool := l.all nameOk && decide l.Nodup
theorem names_fn (a b : List ByteArray) (ha : a.length <= 1048576) (hb : b.length <= 1048576) : Fn Tryd.prog 43 [strsA a, strsA b] (boolA (namesOk (a ++ b))) := by
 refine Fn.intro rfl (by kernel_rfl) Tryd.func43 rfl rfl Tryd.ntmps43 (by exact nle rfl) ?_; intro Γ hm
 have hab : (a ++ b).length = a.length + b.length := List.length_append
 (repeat' (first | apply jA | apply jF | apply jH | (refine WP.regionC ?_; (refine sassign rfl ?_); apply jW) | (refine rgC 2 ?_; (refine smove rfl ?_); (refine smove rfl ?_); (refine se_appNL rfl rfl rfl rfl rfl (by omega) ?_); (refine sassign rfl ?_); apply jW) | (refine rgC 3 ?_; (refine smove rfl ?_); (refine smove rfl ?_); (refine se_appL rfl rfl rfl rfl rfl rfl rfl (by omega) ?_); (refine sassign rfl ?_); apply jW)))
 refine wp_loop (fun i => i <= (a ++ b).length /\ ∀ j, j < i -> nameOk (nth (a ++ b) j) = true /\ ∀ k, k < j -> nth (a ++ b) k ≠ nth (a ++ b) j) (fun i => (a ++ b).length - i)
  (fun i => (S 40 [(5, .ref 0 1 0 (a ++ b).length), (6, intA (i : Nat))] 1 [(0, some (.arr 1 ((a ++ b).map strA)))])) 0 ⟨[1], ToR.S rfl (by repeat' (first | exact rt_nil | refine rt_r rfl rfl ?_ | refine rt_e rfl rfl ?_)) (by repeat' (first | exact ro_nil | refine ro_p rfl (by first | exact rfl | fail) (by first | exact bdL_map (fun _ => by exact rfl) _ | fail) ?_)) rfl (by (rw [hm]; exact rfl)) rfl zq4 (by repeat' (first | exact True.intro | refine And.intro ?_ ?_ | exact bdL_map (fun _ => by exact rfl) _)) (by (rw [hm]; exact nle rfl))⟩ ⟨Nat.zero_le _, by simp⟩ ?_
 rintro i ⟨hi, hall⟩
 (repeat' (first | apply jA | apply jF | apply jH | apply jI | apply jJ | apply jK | apply jL | apply jM | apply jO | apply jP | apply jS | (refine wp_cond rfl (fun hc => ?_) (fun hc => ?_) <;> (try simp only [sB, ne_eq, reduceCtorEq] at hc) <;> (try (exfalso; omega))) | (refine rgC 5 ?_; (refine smove rfl ?_); (refine smove rfl ?_); (refine su (alenr rfl rfl) ?_); (refine slss rfl rfl ?_); apply jW) | (refine rgC 7 ?_; (refine smove rfl ?_); (refine smove rfl ?_); (refine su (aidxrn rfl rfl (by omega)) ?_); (refine su (aloadpt rfl rfl (by omega) rfl) ?_); (refine sc_p rfl rfl zq1 zq5 (name18_fn _) ?_); (refine su (anot rfl) ?_); apply jW) | (refine WP.regionC ?_; (refine sassign rfl ?_); apply jW) | refine ret_b rfl ?_))
 ·simp only [namesOk, all_nth_no (l := a ++ b) (k := i) (by omega) hc, Bool.false_and]
 ·have hn : nameOk (nth (a ++ b) i) = true := by assumption
  refine wp_loop (fun k => k <= i /\ ∀ j, j < k -> nth (a ++ b) j ≠ nth (a ++ b) i) (fun k => i - k)
   (fun k => (S 40 [(5, .ref 0 1 0 (a ++ b).length), (6, intA (i : Nat)), (7, intA (k : Nat))] 1 [(0, some (.arr 1 ((a ++ b).map strA)))])) 0 ⟨[0], ToR.S rfl (by repeat' (first | exact rt_nil | refine rt_r rfl rfl ?_ | refine rt_e rfl rfl ?_)) (by repeat' (first | exact ro_nil | refine ro_p rfl (by first | exact rfl | fail) (by first | exact bdL_map (fun _ => by exact rfl) _ | fail) ?_)) rfl (by (rw [hm]; exact rfl)) rfl zq4 (by repeat' (first | exact True.intro | refine And.intro ?_ ?_ | exact bdL_map (fun _ => by exact rfl) _)) (by (rw [hm]; exact nle rfl))⟩ ⟨Nat.zero_le _, by simp⟩ ?_
  rintro k ⟨hk, hne⟩
  (repeat' (first | apply jA | apply jF | apply jH | apply jI | apply jJ | apply jK | apply jL | apply jM | apply jN | apply jO | apply jP | apply jS | (refine wp_cond rfl (fun hc => ?_) (fun hc => ?_) <;> (try simp only [sB, ne_eq, reduceCtorEq] at hc) <;> (try (exfalso; omega))) | (refine rgC 10 ?_; (refine smove rfl ?_); (refine smove rfl ?_); (refine slss rfl rfl ?_); apply jW) | (refine wp_draw (id := 12) 9 mixed (by kernel_rfl) (by kernel_rfl) rfl ?_ <;> (refine rmove rfl ?_) <;> (refine rmove rfl ?_) <;> (refine rd_u rfl rfl (aidxrn rfl rfl (by omega)) ?_) <;> (refine rd_u rfl rfl (aloadpt rfl rfl (by omega) rfl) ?_) <;> (refine rmove rfl ?_) <;> (refine rmove rfl ?_) <;> (refine rd_u rfl rfl (aidxrn rfl rfl (by omega)) ?_) <;> (refine rd_u rfl rfl (aloadpt rfl rfl (by omega) rfl) ?_) <;> (refine rd_u rfl rfl (aeqs rfl rfl) ?_) <;> (refine rd_end (by kernel_rfl) ?_)) | (refine rgC 13 ?_; (refine sassign rfl ?_); apply jW) | (refine WP.regionC ?_; (refine smove rfl ?_); (refine sadd rfl rfl (by exact inr_i64_of (by omega)) ?_); (refine sassign rfl ?_); apply jW) | refine ret_b rfl ?_))
  ·simp only [namesOk, decide_eq_false (not_nodup (l := a ++ b) (j := i) (k := k) (by omega) (by omega) hc), Bool.and_false]
  ·refine ⟨k + 1, ⟨by omega, by omega, fun j hj => ?_⟩, ⟨[0], ToR.S rfl (by repeat' (first | exact rt_nil | refine rt_r rfl rfl ?_ | refine rt_e rfl rfl ?_)) (by repeat' (first | exact ro_nil | refine ro_p rfl (by first | exact rfl | fail) (by first | exact bdL_map (fun _ => by exact rfl) _ | fail) ?_)) rfl (by (rw [hm]; exact rfl)) rfl zq4 (by repeat' (first | exact True.intro | refine And.intro ?_ ?_ | exact bdL_map (fun _ => by exact rfl) _)) (by (rw [hm]; exact nle rfl))⟩⟩
   by_cases h : j = k
   ·subst h; exact hc
   ·exact hne j (by omega)
  ·refine ⟨i + 1, ⟨by omega, by omega, fun j hj => ?_⟩, ⟨[0], ToR.S rfl (by repeat' (first | exact rt_nil | refine rt_r rfl rfl ?_ | refine rt_e rfl rfl ?_)) (by repeat' (first | exact ro_nil | refine ro_p rfl (by first | exact rfl | fail) (by first | exact bdL_map (fun _ => by exact rfl) _ | fail) ?_)) rfl (by (rw [hm]; exact rfl)) rfl zq4 (by repeat' (first | exact True.intro | refine And.intro ?_ ?_ | exact bdL_map (fun _ => by exact rfl) _)) (by (rw [hm]; exact nle rfl))⟩⟩
   by_cases h : j = i
   ·subst h; exact ⟨hn, fun k' hk' => hne k' (by omega)⟩
   ·exact hall j (by omega)
 have : i = (a ++ b).length := by omega
 subst this
 simp only [namesOk, all_of_nth fun j hj => (hall j hj).1, decide_eq_true (nodup_nth fun j hj => (hall j hj).2), Bool.and_true]
end Go.Lg
namespace Go.Lg
open Go.Proofs
attribute [local irreducible] Ap Rq asemC WP RunD Ret Gq thenA inBlockA bodyQ noGotoA RqL RqP OpP
theorem sameNames_fn (a b : List ByteArray) : Fn Tryd.prog 42 [strsA a, strsA b] (boolA (decide (a = b))) := by
 refine Fn.intro rfl (by kernel_rfl) Tryd.func42 rfl rfl Tryd.ntmps42 (by exact nle rfl) ?_; intro Γ hm
 refine wp_lens 0 rfl fun h0 => wp_lens 1 rfl fun h1 => ?_
 rw [lens_strsA] at h0 h1
 (repeat' (first | apply jA | apply jF | apply jH | apply jI | apply jK | apply jM | apply jS | (refine wp_cond rfl (fun hc => ?_) (fun hc => ?_) <;> (try simp only [sB, ne_eq, reduceCtorEq] at hc) <;> (try (exfalso; omega))) | (refine WP.regionC ?_; (refine sassign rfl ?_); apply jW) | (refine rgC 1 ?_; (refine smove rfl ?_); (refine slenm rfl rfl ?_); (refine smove rfl ?_); (refine slenm rfl rfl ?_); (refine su (aneq rfl rfl) ?_); apply jW) | refine ret_b rfl ?_))
 ·have : a ≠ b := by rintro rfl; exact hc rfl
  simp [this]
 refine wp_loop (fun k => k <= a.length /\ a.take k = b.take k) (fun k => a.length - k) (fun k => (S 26 [(0, strsA a), (1, strsA b), (5, intA (k : Nat))] 0 [])) 0 ⟨[], ToR.S rfl (by repeat' (first | exact rt_nil | refine rt_e rfl rfl ?_ | refine rt_p rfl rfl (by first | (simp [AV.bd, bdL, bdL_append]; done) | fail) ?_)) (by repeat' (exact ro_nil)) rfl (by (rw [hm]; exact rfl)) rfl zq4 (by repeat' (exact True.intro)) (by (rw [hm]; exact nle rfl))⟩ ⟨Nat.zero_le _, rfl⟩ ?_
 rintro k ⟨hk, hall⟩
 have hab : a.length = b.length := by omega
 (repeat' (first | apply jA | apply jF | apply jH | apply jI | apply jJ | apply jK | apply jL | apply jM | apply jN | apply jO | apply jP | apply jS | (refine wp_cond rfl (fun hc => ?_) (fun hc => ?_) <;> (try simp only [sB, ne_eq, reduceCtorEq] at hc) <;> (try (exfalso; omega))) | (refine rgC 4 ?_; (refine smove rfl ?_); (refine smove rfl ?_); (refine slenm rfl rfl ?_); (refine slss rfl rfl ?_); apply jW) | (refine wp_draw (id := 6) 9 mixed (by kernel_rfl) (by kernel_rfl) rfl ?_ <;> (refine rmove rfl ?_) <;> (refine rmove rfl ?_) <;> (refine rd_u rfl rfl (aidxn rfl rfl (by omega)) ?_) <;> (refine rd_u rfl rfl (aloadw rfl rfl) ?_) <;> (refine rmove rfl ?_) <;> (refine rmove rfl ?_) <;> (refine rd_u rfl rfl (aidxn rfl rfl (by omega)) ?_) <;> (refine rd_u rfl rfl (aloadw rfl rfl) ?_) <;> (refine rd_u rfl rfl (anes rfl rfl) ?_) <;> (refine rd_end (by kernel_rfl) ?_)) | (refine WP.regionC ?_; (refine sassign rfl ?_); apply jW) | (refine rgC 5 ?_; (refine smove rfl ?_); (refine sadd rfl rfl (by exact inr_i64_of (by omega)) ?_); (refine sassign rfl ?_); apply jW) | refine ret_b rfl ?_))
 ·have : a ≠ b := by rintro rfl; exact hc rfl
  simp [this]
 ·exact ⟨k + 1, ⟨by omega, by omega, take_eq_succ (by omega) (by omega) hall hc⟩, ⟨[], ToR.S rfl (by repeat' (first | exact rt_nil | refine rt_e rfl rfl ?_ | refine rt_p rfl rfl (by first | (simp [AV.bd, bdL, bdL_append]; done) | fail) ?_)) (by repeat' (exact ro_nil)) rfl (by (rw [hm]; exact rfl)) rfl zq4 (by repeat' (exact True.intro)) (by (rw [hm]; exact nle rfl))⟩⟩
 simp [eq_of_takes hab (by omega) hall]
end Go.Lg
namespace Go.Lg
open Go.Proofs
attribute [local irreducible] Ap Rq asemC WP RunD Ret Gq thenA inBlockA bodyQ noGotoA RqL RqP OpP
def symOk (g : Gram) (x : Int) : Bool := decide (x < g.terms.length) && decide (-(g.nonterms.length : Int) <= x)
def ruleOk (g : Gram) (r : Rul) : Bool := decide (0 <= r.head) && decide (r.head < g.nonterms.length) && decide (r.body.length <= 12) && decide (0 <= r.price) && decide (r.price <= 1000) && r.body.all (symOk g)
def validG (g : Gram) : Bool := decide (g.terms.length <= 120) && decide (1 <= g.nonterms.length) && decide (g.nonterms.length <= 120) && decide (1 <= g.rules.length) && decide (g.rules.length <= 120) && decide (0 <= g.start) && decide (g.start < g.nonterms.length) && namesOk (g.terms ++ g.nonterms) && g.rules.all (ruleOk g)
theorem validG_no {g : Gram} {i : Nat} (hi : i < g.rules.length) (h : ruleOk g (nth g.rules i) = false) : validG g = false := by
 simp only [validG, all_nth_no (l := g.rules) (f := ruleOk g) hi h, Bool.and_false]
theorem ruleOk_no {g : Gram} {r : Rul} {k : Nat} (hk : k < r.body.length) (h : symOk g (nth r.body k) = false) : ruleOk g r = false := by
 simp only [ruleOk, all_nth_no (l := r.body) (f := symOk g) hk h, Bool.and_false]
theorem rvalid18_fn (g : Gram) : Fn Tryd.prog 18 [gramA g] (boolA (validG g)) := by
 refine Fn.intro rfl (by kernel_rfl) Tryd.func18 rfl rfl Tryd.ntmps18 (by exact nle rfl) ?_; intro Γ hm
 refine wp_lens 0 rfl fun hl => ?_
 obtain ⟨hl1, hl2, hl3, hl4⟩ := (lens_gramA g).1 hl
 (repeat' (first | apply jA | apply jF | apply jH | apply jI | apply jK | apply jM | apply jS | (refine wp_cond rfl (fun hc => ?_) (fun hc => ?_) <;> (try simp only [sB, ne_eq, reduceCtorEq] at hc) <;> (try (exfalso; omega))) | (refine rgC 0 ?_; (refine se_box rfl (by exact ⟨rfl, rfl⟩) ?_); (refine sassign rfl ?_); apply jW) | (refine rgC 1 ?_; (refine sfieldp rfl rfl rfl ?_); (refine sloadp rfl rfl rfl rfl ?_); (refine slenm rfl rfl ?_); (refine su (agtr rfl rfl) ?_); (refine smove rfl ?_); (refine sg (gq_vf rfl rfl) (fun he => ap_field_p (rq_p rfl rfl) rfl rfl) ?_); (refine sg (gq_vf rfl rfl) (fun he => ap_load_p (rq_c rfl rfl) rfl rfl rfl) ?_); (refine sg (gq_vf rfl rfl) (fun he => ap_len_m rfl (rq_c rfl rfl)) ?_); (refine sg (gq_vf rfl rfl) (fun he => ap_lss (rq_c rfl rfl) (rq_p rfl rfl)) ?_); (refine su (ap_or (rq_p rfl rfl) (rq_c rfl rfl)) ?_); (refine smove rfl ?_); (refine sg (gq_vf rfl rfl) (fun he => ap_field_p (rq_p rfl rfl) rfl rfl) ?_); (refine sg (gq_vf rfl rfl) (fun he => ap_load_p (rq_c rfl rfl) rfl rfl rfl) ?_); (refine sg (gq_vf rfl rfl) (fun he => ap_len_m rfl (rq_c rfl rfl)) ?_); (refine sg (gq_vf rfl rfl) (fun he => ap_gtr (rq_c rfl rfl) (rq_p rfl rfl)) ?_); (refine su (ap_or (rq_p rfl rfl) (rq_c rfl rfl)) ?_); (refine smove rfl ?_); (refine sg (gq_vf rfl rfl) (fun he => ap_field_p (rq_p rfl rfl) rfl rfl) ?_); (refine sg (gq_vf rfl rfl) (fun he => ap_load_p (rq_c rfl rfl) rfl rfl rfl) ?_); (refine sg (gq_vf rfl rfl) (fun he => ap_len_m rfl (rq_c rfl rfl)) ?_); (refine sg (gq_vf rfl rfl) (fun he => ap_lss (rq_c rfl rfl) (rq_p rfl rfl)) ?_); (refine su (ap_or (rq_p rfl rfl) (rq_c rfl rfl)) ?_); (refine smove rfl ?_); (refine sg (gq_vf rfl rfl) (fun he => ap_field_p (rq_p rfl rfl) rfl rfl) ?_); (refine sg (gq_vf rfl rfl) (fun he => ap_load_p (rq_c rfl rfl) rfl rfl rfl) ?_); (refine sg (gq_vf rfl rfl) (fun he => ap_len_m rfl (rq_c rfl rfl)) ?_); (refine sg (gq_vf rfl rfl) (fun he => ap_gtr (rq_c rfl rfl) (rq_p rfl rfl)) ?_); (refine su (ap_or (rq_p rfl rfl) (rq_c rfl rfl)) ?_); apply jW) | (refine WP.regionC ?_; (refine sassign rfl ?_); apply jW) | (refine rgC 3 ?_; (refine sfieldp rfl rfl rfl ?_); (refine sloadp rfl rfl rfl rfl ?_); (refine slss rfl rfl ?_); (refine smove rfl ?_); (refine sg (gq_vf rfl rfl) (fun he => ap_field_p (rq_p rfl rfl) rfl rfl) ?_); (refine sg (gq_vf rfl rfl) (fun he => ap_load_p (rq_c rfl rfl) rfl rfl rfl) ?_); (refine sg (gq_vf rfl rfl) (fun he => ap_field_p (rq_p rfl rfl) rfl rfl) ?_); (refine sg (gq_vf rfl rfl) (fun he => ap_load_p (rq_c rfl rfl) rfl rfl rfl) ?_); (refine sg (gq_vf rfl rfl) (fun he => ap_len_m rfl (rq_c rfl rfl)) ?_); (refine sg (gq_vf rfl rfl) (fun he => ap_geq (rq_c rfl rfl) (rq_c rfl rfl)) ?_); (refine su (ap_or (rq_p rfl rfl) (rq_c rfl rfl)) ?_); (refine smove rfl ?_); (refine sg (gq_vf rfl rfl) (fun he => ap_field_p (rq_p rfl rfl) rfl rfl) ?_); (refine sg (gq_vf rfl rfl) (fun he => ap_load_p (rq_c rfl rfl) rfl rfl rfl) ?_); (refine sg (gq_vf rfl rfl) (fun he => ap_field_p (rq_p rfl rfl) rfl rfl) ?_); (refine sg (gq_vf rfl rfl) (fun he => ap_load_p (rq_c rfl rfl) rfl rfl rfl) ?_); (refine sg_b (gq_vf rfl rfl) (fun he => ⟨(rq_p rfl rfl), (RqL.cons (rq_c rfl rfl) (RqL.cons (rq_c rfl rfl) (RqL.nil))), (by first | ((repeat' first | exact FzL.nil | refine FzL.cons ?_ ?_ | (exact Fz.reflp (by simp [AV.bd, bdL, bdL_append]))); done) | fail), names_fn _ _ (by (try simp only [sH, id, sB, ne_eq, reduceCtorEq] at he); omega) (by (try simp only [sH, id, sB, ne_eq, reduceCtorEq] at he); omega), rfl⟩) ?_); (refine sg (gq_vf rfl rfl) (fun he => ap_not (rq_c rfl rfl)) ?_); (refine su (ap_or (rq_p rfl rfl) (rq_c rfl rfl)) ?_); apply jW) | refine ret_b rfl ?_))
 ·simp [validG]; omega
 ·rcases hc with hc | hc
  ·simp [validG]; omega
  ·simp [validG, hc]
 have hns : namesOk (g.terms ++ g.nonterms) = true := hc.2
 refine wp_loop (fun i => i <= g.rules.length /\ (g.rules.take i).all (ruleOk g) = true) (fun i => g.rules.length - i)
  (fun i => (S 120 [(1, .ptr 0 4 0 0), (3, intA (i : Nat))] 1 [(0, some (.arr 4 [gramA g]))])) 0 ⟨[0], ToR.S rfl (by repeat' (first | exact rt_nil | refine rt_t rfl rfl ?_ | refine rt_e rfl rfl ?_)) (by repeat' (first | exact ro_nil | refine ro_p rfl (by first | exact rfl | fail) zq5 ?_)) rfl (by (rw [hm]; exact rfl)) rfl zq4 zq3 (by (rw [hm]; exact nle rfl))⟩ ⟨Nat.zero_le _, rfl⟩ ?_
 rintro i ⟨hi, hall⟩
 (repeat' (first | apply jA | apply jF | apply jH | apply jI | apply jJ | apply jK | apply jL | apply jM | apply jO | apply jP | apply jS | (refine wp_cond rfl (fun hc => ?_) (fun hc => ?_) <;> (try simp only [sB, ne_eq, reduceCtorEq] at hc) <;> (try (exfalso; omega))) | (refine rgC 6 ?_; (refine smove rfl ?_); (refine sfieldp rfl rfl rfl ?_); (refine sloadp rfl rfl rfl rfl ?_); (refine slenm rfl rfl ?_); (refine slss rfl rfl ?_); apply jW) | (refine rgC 8 ?_; (refine sfieldp rfl rfl rfl ?_); (refine sloadp rfl rfl rfl rfl ?_); (refine smove rfl ?_); (refine sidxn rfl rfl (by omega) ?_); (refine sloadw rfl rfl ?_); (refine se_alloc rfl ?_); (refine se_store_b rfl rfl rfl rfl ?_); apply jW) | (refine rgC 9 ?_; (refine sfieldp rfl rfl rfl ?_); (refine sloadp rfl rfl rfl rfl ?_); (refine slss rfl rfl ?_); (refine smove rfl ?_); (refine sg (gq_vf rfl rfl) (fun he => ap_field_p (rq_p rfl rfl) rfl rfl) ?_); (refine sg (gq_vf rfl rfl) (fun he => ap_load_p (rq_c rfl rfl) rfl rfl rfl) ?_); (refine sg (gq_vf rfl rfl) (fun he => ap_field_p (rq_p rfl rfl) rfl rfl) ?_); (refine sg (gq_vf rfl rfl) (fun he => ap_load_p (rq_c rfl rfl) rfl rfl rfl) ?_); (refine sg (gq_vf rfl rfl) (fun he => ap_len_m rfl (rq_c rfl rfl)) ?_); (refine sg (gq_vf rfl rfl) (fun he => ap_geq (rq_c rfl rfl) (rq_c rfl rfl)) ?_); (refine su (ap_or (rq_p rfl rfl) (rq_c rfl rfl)) ?_); (refine smove rfl ?_); (refine sg (gq_vf rfl rfl) (fun he => ap_field_p (rq_p rfl rfl) rfl rfl) ?_); (refine sg (gq_vf rfl rfl) (fun he => ap_load_p (rq_c rfl rfl) rfl rfl rfl) ?_); (refine sg (gq_vf rfl rfl) (fun he => ap_len_m rfl (rq_c rfl rfl)) ?_); (refine sg (gq_vf rfl rfl) (fun he => ap_gtr (rq_c rfl rfl) (rq_p rfl rfl)) ?_); (refine su (ap_or (rq_p rfl rfl) (rq_c rfl rfl)) ?_); (refine smove rfl ?_); (refine sg (gq_vf rfl rfl) (fun he => ap_field_p (rq_p rfl rfl) rfl rfl) ?_); (refine sg (gq_vf rfl rfl) (fun he => ap_load_p (rq_c rfl rfl) rfl rfl rfl) ?_); (refine sg (gq_vf rfl rfl) (fun he => ap_lss (rq_c rfl rfl) (rq_p rfl rfl)) ?_); (refine su (ap_or (rq_p rfl rfl) (rq_c rfl rfl)) ?_); (refine smove rfl ?_); (refine sg (gq_vf rfl rfl) (fun he => ap_field_p (rq_p rfl rfl) rfl rfl) ?_); (refine sg (gq_vf rfl rfl) (fun he => ap_load_p (rq_c rfl rfl) rfl rfl rfl) ?_); (refine sg (gq_vf rfl rfl) (fun he => ap_gtr (rq_c rfl rfl) (rq_p rfl rfl)) ?_); (refine su (ap_or (rq_p rfl rfl) (rq_c rfl rfl)) ?_); apply jW) | (refine WP.regionC ?_; (refine sassign rfl ?_); apply jW) | refine ret_b rfl ?_))
 ·rw [validG_no (i := i) (by omega) (by simp [ruleOk]; omega)]
 ·refine wp_loop (fun k => k <= (nth g.rules i).body.length /\ ((nth g.rules i).body.take k).all (symOk g) = true) (fun k => (nth g.rules i).body.length - k)
   (fun k => (S 120 [(1, .ptr 0 4 0 0), (3, intA (i : Nat)), (4, .ptr 1 3 0 0), (5, intA (k : Nat))] 2 [(0, some (.arr 4 [gramA g])), (1, some (.arr 3 [ruleA (nth g.rules i)]))])) 0 ⟨[0, 1], ToR.S rfl (by repeat' (first | exact rt_nil | refine rt_t rfl rfl ?_ | refine rt_e rfl rfl ?_)) (by repeat' (first | exact ro_nil | refine ro_p rfl (by first | exact rfl | fail) zq5 ?_)) rfl (by (rw [hm]; exact rfl)) rfl zq4 zq3 (by (rw [hm]; exact nle rfl))⟩ ⟨Nat.zero_le _, rfl⟩ ?_
  rintro k ⟨hk, hb⟩
  (repeat' (first | apply jA | apply jF | apply jH | apply jI | apply jJ | apply jK | apply jL | apply jM | apply jN | apply jO | apply jP | apply jS | (refine wp_cond rfl (fun hc => ?_) (fun hc => ?_) <;> (try simp only [sB, ne_eq, reduceCtorEq] at hc) <;> (try (exfalso; omega))) | (refine rgC 12 ?_; (refine smove rfl ?_); (refine sfieldp rfl rfl rfl ?_); (refine sloadp rfl rfl rfl rfl ?_); (refine slenm rfl rfl ?_); (refine slss rfl rfl ?_); apply jW) | (refine wp_draw (id := 14) 21 mixed (by kernel_rfl) (by kernel_rfl) rfl ?_ <;> (refine rfieldp rfl rfl rfl ?_) <;> (refine rloadp rfl rfl rfl rfl ?_) <;> (refine rmove rfl ?_) <;> (refine rd_u rfl rfl (aidxn rfl rfl (by omega)) ?_) <;> (refine rd_u rfl rfl (aloadw rfl rfl) ?_) <;> (refine rfieldp rfl rfl rfl ?_) <;> (refine rloadp rfl rfl rfl rfl ?_) <;> (refine rd_u rfl rfl (alenm rfl rfl) ?_) <;> (refine rd_u rfl rfl (ageq rfl rfl) ?_) <;> (refine rmove rfl ?_) <;> ((refine rd_split (t := 108) rfl (fun hc => ?_) (fun hc => ?_) <;> (try simp only [sB, ne_eq, reduceCtorEq] at hc) <;> (try (exfalso; omega)) <;> (first | refine rd_skip rfl rfl ?_ | refine gfieldp rfl rfl rfl rfl rfl ?_))) <;> (first | refine rd_skip rfl rfl ?_ | refine gloadp rfl rfl rfl rfl rfl rfl ?_) <;> (first | refine rd_skip rfl rfl ?_ | refine gmove rfl rfl rfl ?_) <;> (first | refine rd_skip rfl rfl ?_ | refine rdg_u rfl rfl rfl rfl (aidxn rfl rfl (by omega)) ?_) <;> (first | refine rd_skip rfl rfl ?_ | refine rdg_u rfl rfl rfl rfl (aloadw rfl rfl) ?_) <;> (first | refine rd_skip rfl rfl ?_ | refine gfieldp rfl rfl rfl rfl rfl ?_) <;> (first | refine rd_skip rfl rfl ?_ | refine gloadp rfl rfl rfl rfl rfl rfl ?_) <;> (first | refine rd_skip rfl rfl ?_ | refine rdg_u rfl rfl rfl rfl (alenm rfl rfl) ?_) <;> (first | refine rd_skip rfl rfl ?_ | refine rdg_u rfl rfl rfl rfl (aneg rfl (by exact inr_i64_of (by omega))) ?_) <;> (first | refine rd_skip rfl rfl ?_ | refine rdg_u rfl rfl rfl rfl (alss rfl rfl) ?_) <;> (first | refine rd_pick_t rfl rfl ?_ | refine rd_pick_f rfl rfl ?_) <;> (refine rd_end (by kernel_rfl) ?_)) | (refine rgC 15 ?_; (refine sassign rfl ?_); apply jW) | (refine WP.regionC ?_; (refine smove rfl ?_); (refine sadd rfl rfl (by exact inr_i64_of (by omega)) ?_); (refine sassign rfl ?_); apply jW) | refine ret_b rfl ?_))
  ·rw [validG_no (i := i) (by omega) (ruleOk_no (k := k) (by omega) (by simp [symOk]; omega))]
  ·rw [validG_no (i := i) (by omega) (ruleOk_no (k := k) (by omega) (by simp [symOk]; omega))]
  ·exact ⟨k + 1, ⟨by omega, by omega, take_all_succ (by omega) hb (by simp [symOk]; omega)⟩, ⟨[0, 1], ToR.S rfl (by repeat' (first | exact rt_nil | refine rt_t rfl rfl ?_ | refine rt_e rfl rfl ?_)) (by repeat' (first | exact ro_nil | refine ro_p rfl (by first | exact rfl | fail) zq5 ?_)) rfl (by (rw [hm]; exact rfl)) rfl zq4 zq3 (by (rw [hm]; exact nle rfl))⟩⟩
  ·exact ⟨i + 1, ⟨by omega, by omega, take_all_succ (by omega) hall (by simp [ruleOk, all_of_take' (by omega) hb]; omega)⟩, ⟨[0], ToR.S rfl (by repeat' (first | exact rt_nil | refine rt_t rfl rfl ?_ | refine rt_e rfl rfl ?_)) (by repeat' (first | exact ro_nil | refine ro_p rfl (by first | exact rfl | fail) zq5 ?_)) rfl (by (rw [hm]; exact rfl)) rfl zq4 zq3 (by (rw [hm]; exact nle rfl))⟩⟩
 simp [validG, hns, all_of_take' (by omega) hall]; omega
theorem Rul.ext' {a b : Rul} (h1 : a.head = b.head) (h2 : a.body = b.body) (h3 : a.price = b.price) : a = b := by
 cases a; cases b; simp_all
theorem Gram.ext' {a b : Gram} (h1 : a.terms = b.terms) (h2 : a.nonterms = b.nonterms) (h3 : a.start = b.start) (h4 : a.rules = b.rules) : a = b := by
 cases a; cases b; simp_all
theorem requal18_fn (a b : Gram) : Fn Tryd.prog 16 [gramA a, gramA b] (boolA (decide (a = b))) := by
 refine Fn.intro rfl (by kernel_rfl) Tryd.func16 rfl rfl Tryd.ntmps16 (by exact nle rfl) ?_; intro Γ hm
 refine wp_lens 0 rfl fun hl => wp_lens 1 rfl fun hl' => ?_
 obtain ⟨hl1, hl2, hl3, hl4⟩ := (lens_gramA a).1 hl
 obtain ⟨hm1, hm2, hm3, hm4⟩ := (lens_gramA b).1 hl'
 (repeat' (first | apply jA | apply jF | apply jH | apply jI | apply jK | apply jM | apply jS | (refine wp_cond rfl (fun hc => ?_) (fun hc => ?_) <;> (try simp only [sB, ne_eq, reduceCtorEq] at hc) <;> (try (exfalso; omega))) | (refine rgC 0 ?_; (refine se_box rfl (by exact ⟨rfl, rfl⟩) ?_); (refine se_box rfl (by exact ⟨rfl, rfl⟩) ?_); (refine sassign rfl ?_); apply jW) | (refine rgC 1 ?_; (refine sfieldp rfl rfl rfl ?_); (refine sloadp rfl rfl rfl rfl ?_); (refine sfieldp rfl rfl rfl ?_); (refine sloadp rfl rfl rfl rfl ?_); (refine sc_b rfl rfl (by first | ((repeat' first | exact FzL.nil | refine FzL.cons ?_ ?_ | (exact Fz.reflp (by simp [AV.bd, bdL, bdL_append]))); done) | fail) (sameNames_fn _ _) rfl ?_); (refine su (anot rfl) ?_); (refine smove rfl ?_); (refine sg (gq_vf rfl rfl) (fun he => ap_field_p (rq_p rfl rfl) rfl rfl) ?_); (refine sg (gq_vf rfl rfl) (fun he => ap_load_p (rq_c rfl rfl) rfl rfl rfl) ?_); (refine sg (gq_vf rfl rfl) (fun he => ap_field_p (rq_p rfl rfl) rfl rfl) ?_); (refine sg (gq_vf rfl rfl) (fun he => ap_load_p (rq_c rfl rfl) rfl rfl rfl) ?_); (refine sg_b (gq_vf rfl rfl) (fun he => ⟨(rq_p rfl rfl), (RqL.cons (rq_c rfl rfl) (RqL.cons (rq_c rfl rfl) (RqL.nil))), (by first | ((repeat' first | exact FzL.nil | refine FzL.cons ?_ ?_ | (exact Fz.reflp (by simp [AV.bd, bdL, bdL_append]))); done) | fail), sameNames_fn _ _, rfl⟩) ?_); (refine sg (gq_vf rfl rfl) (fun he => ap_not (rq_c rfl rfl)) ?_); (refine su (ap_or (rq_p rfl rfl) (rq_c rfl rfl)) ?_); (refine smove rfl ?_); (refine sg (gq_vf rfl rfl) (fun he => ap_field_p (rq_p rfl rfl) rfl rfl) ?_); (refine sg (gq_vf rfl rfl) (fun he => ap_load_p (rq_c rfl rfl) rfl rfl rfl) ?_); (refine sg (gq_vf rfl rfl) (fun he => ap_field_p (rq_p rfl rfl) rfl rfl) ?_); (refine sg (gq_vf rfl rfl) (fun he => ap_load_p (rq_c rfl rfl) rfl rfl rfl) ?_); (refine sg (gq_vf rfl rfl) (fun he => ap_neq (rq_c rfl rfl) (rq_c rfl rfl)) ?_); (refine su (ap_or (rq_p rfl rfl) (rq_c rfl rfl)) ?_); (refine smove rfl ?_); (refine sg (gq_vf rfl rfl) (fun he => ap_field_p (rq_p rfl rfl) rfl rfl) ?_); (refine sg (gq_vf rfl rfl) (fun he => ap_load_p (rq_c rfl rfl) rfl rfl rfl) ?_); (refine sg (gq_vf rfl rfl) (fun he => ap_len_m rfl (rq_c rfl rfl)) ?_); (refine sg (gq_vf rfl rfl) (fun he => ap_field_p (rq_p rfl rfl) rfl rfl) ?_); (refine sg (gq_vf rfl rfl) (fun he => ap_load_p (rq_c rfl rfl) rfl rfl rfl) ?_); (refine sg (gq_vf rfl rfl) (fun he => ap_len_m rfl (rq_c rfl rfl)) ?_); (refine sg (gq_vf rfl rfl) (fun he => ap_neq (rq_c rfl rfl) (rq_c rfl rfl)) ?_); (refine su (ap_or (rq_p rfl rfl) (rq_c rfl rfl)) ?_); apply jW) | (refine WP.regionC ?_; (refine sassign rfl ?_); apply jW) | refine ret_b rfl ?_))
 ·rw [eq_comm, decide_eq_false_iff_not]; rintro rfl; simp at hc
 obtain ⟨⟨⟨e1, e2⟩, e3⟩, e4⟩ := hc
 refine wp_loop (fun i => i <= a.rules.length /\ a.rules.take i = b.rules.take i) (fun i => a.rules.length - i)
  (fun i => (S 95 [(2, .ptr 0 4 0 0), (3, .ptr 1 4 0 0), (5, intA (i : Nat))] 2 [(0, some (.arr 4 [gramA a])), (1, some (.arr 4 [gramA b]))])) 0 ⟨[0, 1], ToR.S rfl (by repeat' (first | exact rt_nil | refine rt_t rfl rfl ?_ | refine rt_e rfl rfl ?_)) (by repeat' (first | exact ro_nil | refine ro_p rfl (by first | exact rfl | fail) zq5 ?_)) rfl (by (rw [hm]; exact rfl)) rfl zq4 zq3 (by (rw [hm]; exact nle rfl))⟩ ⟨Nat.zero_le _, rfl⟩ ?_
 rintro i ⟨hi, hall⟩
 (repeat' (first | apply jA | apply jF | apply jH | apply jI | apply jJ | apply jK | apply jL | apply jM | apply jO | apply jP | apply jS | (refine wp_cond rfl (fun hc => ?_) (fun hc => ?_) <;> (try simp only [sB, ne_eq, reduceCtorEq] at hc) <;> (try (exfalso; omega))) | (refine rgC 4 ?_; (refine smove rfl ?_); (refine sfieldp rfl rfl rfl ?_); (refine sloadp rfl rfl rfl rfl ?_); (refine slenm rfl rfl ?_); (refine slss rfl rfl ?_); apply jW) | (refine wp_draw (id := 6) 14 mixed (by kernel_rfl) (by kernel_rfl) rfl ?_ <;> (refine rfieldp rfl rfl rfl ?_) <;> (refine rloadp rfl rfl rfl rfl ?_) <;> (refine rmove rfl ?_) <;> (refine rd_u rfl rfl (aidxn rfl rfl (by omega)) ?_) <;> (refine rd_u rfl rfl (aloadw rfl rfl) ?_) <;> (refine rfieldp rfl rfl rfl ?_) <;> (refine rloadp rfl rfl rfl rfl ?_) <;> (refine rmove rfl ?_) <;> (refine rd_u rfl rfl (aidxn rfl rfl (by omega)) ?_) <;> (refine rd_u rfl rfl (aloadw rfl rfl) ?_) <;> (refine rd_alloc rfl ?_) <;> (refine rd_alloc rfl ?_) <;> (refine rd_store_b rfl rfl rfl rfl ?_) <;> (refine rd_store_b rfl rfl rfl rfl ?_) <;> (refine rd_end (by kernel_rfl) ?_)) | (refine rgC 7 ?_; (refine sfieldp rfl rfl rfl ?_); (refine sloadp rfl rfl rfl rfl ?_); (refine sfieldp rfl rfl rfl ?_); (refine sloadp rfl rfl rfl rfl ?_); (refine su (aneq rfl rfl) ?_); (refine smove rfl ?_); (refine sg (gq_vf rfl rfl) (fun he => ap_field_p (rq_p rfl rfl) rfl rfl) ?_); (refine sg (gq_vf rfl rfl) (fun he => ap_load_p (rq_c rfl rfl) rfl rfl rfl) ?_); (refine sg (gq_vf rfl rfl) (fun he => ap_field_p (rq_p rfl rfl) rfl rfl) ?_); (refine sg (gq_vf rfl rfl) (fun he => ap_load_p (rq_c rfl rfl) rfl rfl rfl) ?_); (refine sg (gq_vf rfl rfl) (fun he => ap_neq (rq_c rfl rfl) (rq_c rfl rfl)) ?_); (refine su (ap_or (rq_p rfl rfl) (rq_c rfl rfl)) ?_); (refine smove rfl ?_); (refine sg (gq_vf rfl rfl) (fun he => ap_field_p (rq_p rfl rfl) rfl rfl) ?_); (refine sg (gq_vf rfl rfl) (fun he => ap_load_p (rq_c rfl rfl) rfl rfl rfl) ?_); (refine sg (gq_vf rfl rfl) (fun he => ap_len_m rfl (rq_c rfl rfl)) ?_); (refine sg (gq_vf rfl rfl) (fun he => ap_field_p (rq_p rfl rfl) rfl rfl) ?_); (refine sg (gq_vf rfl rfl) (fun he => ap_load_p (rq_c rfl rfl) rfl rfl rfl) ?_); (refine sg (gq_vf rfl rfl) (fun he => ap_len_m rfl (rq_c rfl rfl)) ?_); (refine sg (gq_vf rfl rfl) (fun he => ap_neq (rq_c rfl rfl) (rq_c rfl rfl)) ?_); (refine su (ap_or (rq_p rfl rfl) (rq_c rfl rfl)) ?_); apply jW) | (refine WP.regionC ?_; (refine sassign rfl ?_); apply jW) | refine ret_b rfl ?_))
 ·rw [eq_comm, decide_eq_false_iff_not]; rintro rfl; simp at hc
 ·obtain ⟨⟨f1, f2⟩, f3⟩ := hc
  have hbl := hl4 (nth a.rules i) (nth_mem (by omega))
  refine wp_loop (fun k => k <= (nth a.rules i).body.length /\ (nth a.rules i).body.take k = (nth b.rules i).body.take k) (fun k => (nth a.rules i).body.length - k)
   (fun k => (S 95 [(2, .ptr 0 4 0 0), (3, .ptr 1 4 0 0), (5, intA (i : Nat)), (6, .ptr 2 3 0 0), (7, .ptr 3 3 0 0), (8, intA (k : Nat))] 4 [(0, some (.arr 4 [gramA a])), (1, some (.arr 4 [gramA b])), (2, some (.arr 3 [ruleA (nth a.rules i)])), (3, some (.arr 3 [ruleA (nth b.rules i)]))])) 0 ⟨[0, 1, 12, 13], ToR.S rfl (by repeat' (first | exact rt_nil | refine rt_t rfl rfl ?_ | refine rt_e rfl rfl ?_)) (by repeat' (first | exact ro_nil | refine ro_p rfl (by first | exact rfl | fail) zq5 ?_)) rfl (by (rw [hm]; exact rfl)) rfl zq4 zq3 (by (rw [hm]; exact nle rfl))⟩ ⟨Nat.zero_le _, rfl⟩ ?_
  rintro k ⟨hk, hb⟩
  (repeat' (first | apply jA | apply jF | apply jH | apply jI | apply jJ | apply jK | apply jL | apply jM | apply jN | apply jO | apply jP | apply jS | (refine wp_cond rfl (fun hc => ?_) (fun hc => ?_) <;> (try simp only [sB, ne_eq, reduceCtorEq] at hc) <;> (try (exfalso; omega))) | (refine rgC 10 ?_; (refine smove rfl ?_); (refine sfieldp rfl rfl rfl ?_); (refine sloadp rfl rfl rfl rfl ?_); (refine slenm rfl rfl ?_); (refine slss rfl rfl ?_); apply jW) | (refine wp_draw (id := 12) 11 mixed (by kernel_rfl) (by kernel_rfl) rfl ?_ <;> (refine rfieldp rfl rfl rfl ?_) <;> (refine rloadp rfl rfl rfl rfl ?_) <;> (refine rmove rfl ?_) <;> (refine rd_u rfl rfl (aidxn rfl rfl (by omega)) ?_) <;> (refine rd_u rfl rfl (aloadw rfl rfl) ?_) <;> (refine rfieldp rfl rfl rfl ?_) <;> (refine rloadp rfl rfl rfl rfl ?_) <;> (refine rmove rfl ?_) <;> (refine rd_u rfl rfl (aidxn rfl rfl (by omega)) ?_) <;> (refine rd_u rfl rfl (aloadw rfl rfl) ?_) <;> (refine rd_u rfl rfl (aneq rfl rfl) ?_) <;> (refine rd_end (by kernel_rfl) ?_)) | (refine rgC 13 ?_; (refine sassign rfl ?_); apply jW) | (refine WP.regionC ?_; (refine smove rfl ?_); (refine sadd rfl rfl (by exact inr_i64_of (by omega)) ?_); (refine sassign rfl ?_); apply jW) | refine ret_b rfl ?_))
  ·rw [eq_comm, decide_eq_false_iff_not]; rintro rfl; simp at hc
  ·exact ⟨k + 1, ⟨by omega, by omega, take_eq_succ (by omega) (by omega) hb hc⟩, ⟨[0, 1, 2, 3], ToR.S rfl (by repeat' (first | exact rt_nil | refine rt_t rfl rfl ?_ | refine rt_e rfl rfl ?_)) (by repeat' (first | exact ro_nil | refine ro_p rfl (by first | exact rfl | fail) zq5 ?_)) rfl (by (rw [hm]; exact rfl)) rfl zq4 zq3 (by (rw [hm]; exact nle rfl))⟩⟩
  ·have hr : nth a.rules i = nth b.rules i := Rul.ext' f1 (eq_of_takes (by omega) (by omega) hb) f2
   exact ⟨i + 1, ⟨by omega, by omega, take_eq_succ (by omega) (by omega) hall hr⟩, ⟨[0, 1], ToR.S rfl (by repeat' (first | exact rt_nil | refine rt_t rfl rfl ?_ | refine rt_e rfl rfl ?_)) (by repeat' (first | exact ro_nil | refine ro_p rfl (by first | exact rfl | fail) zq5 ?_)) rfl (by (rw [hm]; exact rfl)) rfl zq4 zq3 (by (rw [hm]; exact nle rfl))⟩⟩
 rw [eq_comm, decide_eq_true_iff]
 exact Gram.ext' e1 e2 e3 (eq_of_takes (by omega) (by omega) hall)
end Go.Lg
namespace Go.Lg
def kidsN (r : NRul) : List Int := if r.kind = 3 then [r.a] else if r.kind = 4 then [r.a, r.b] else []
def nruleAt (n : Nrm) (i : Int) : NRul := nth n.rules i.toNat
mutual
def okP (n : Nrm) : Int -> Prs -> Bool
 | head, .mk r l => decide (0 <= r) && decide (r < n.rules.length) && decide ((nruleAt n r).head = head) && decide ((kidsN (nruleAt n r)).length = l.length) && okPL n (kidsN (nruleAt n r)) l
def okPL (n : Nrm) : List Int -> List Prs -> Bool
 | _, [] => true
 | xs, p :: l => okP n (xs.headD 0) p && okPL n xs.tail l
end
mutual
def yieldP (n : Nrm) : Prs -> List Int
 | .mk r l => if (nruleAt n r).kind = 2 then [(nruleAt n r).a] else yieldPL n l
def yieldPL (n : Nrm) : List Prs -> List Int
 | [] => []
 | p :: l => yieldP n p ++ yieldPL n l
end
mutual
def priceP (n : Nrm) : Prs -> Int
 | .mk r l => (nruleAt n r).price + pricePL n l
def pricePL (n : Nrm) : List Prs -> Int
 | [] => 0
 | p :: l => priceP n p + pricePL n l
end
mutual
def okT (g : Gram) : Int -> Tre -> Bool
 | x, .mk r t l => if 0 <= x then decide (r = -1) && decide (t = x) && decide (l.length = 0) else
   decide (0 <= r) && decide (r < g.rules.length) && decide (t = 0) && decide ((nth g.rules r.toNat).head = -1 - x) && decide (l.length = (nth g.rules r.toNat).body.length) && okTL g (nth g.rules r.toNat).body l
def okTL (g : Gram) : List Int -> List Tre -> Bool
 | _, [] => true
 | xs, t :: l => okT g (xs.headD 0) t && okTL g xs.tail l
end
mutual
def leavesT : Tre -> List Int
 | .mk r t l => if r = -1 then [t] else leavesTL l
def leavesTL : List Tre -> List Int
 | [] => []
 | t :: l => leavesT t ++ leavesTL l
end
mutual
def priceT (g : Gram) : Tre -> Int
 | .mk r _ l => if r < 0 then 0 else (nth g.rules r.toNat).price + priceTL g l
def priceTL (g : Gram) : List Tre -> Int
 | [] => 0
 | t :: l => priceT g t + priceTL g l
end
def needT (g : Gram) (t : Nat) : Bool := g.rules.any fun r => decide (1 < r.body.length) && r.body.any fun x => decide (x = (t : Int))
def tlist (g : Gram) : Nat -> List Nat
 | 0 => []
 | k + 1 => tlist g k ++ (if needT g k then [k] else [])
def tnum (g : Gram) (t : Nat) : Int := (g.nonterms.length : Int) + (tlist g t).length
def symN (g : Gram) (x : Int) : Int := if x < 0 then -1 - x else tnum g x.toNat
def chn (g : Gram) : Int -> Int -> Int -> Int -> List Int -> List NRul
 | h, p, o, nx, x :: y :: z :: l => ⟨4, h, symN g x, nx, p, o⟩ :: chn g nx 0 (-1) (nx + 1) (y :: z :: l)
 | h, p, o, _, [x, y] => [⟨4, h, symN g x, symN g y, p, o⟩]
 | h, p, o, _, [x] => if 0 <= x then [⟨2, h, x, 0, p, o⟩] else [⟨3, h, -1 - x, 0, p, o⟩]
 | h, p, o, _, [] => [⟨1, h, 0, 0, p, o⟩]
def extraN (r : Rul) : Nat := r.body.length - 2
def chns (g : Gram) : Nat -> Int -> List Rul -> List NRul
 | _, _, [] => []
 | i, nx, r :: l => chn g r.head r.price i nx r.body ++ chns g (i + 1) (nx + extraN r) l
def nextN (nx : Int) : List Rul -> Int
 | [] => nx
 | r :: l => nextN (nx + extraN r) l
def termN (g : Gram) (t : Nat) : NRul := ⟨2, tnum g t, t, 0, 0, -1⟩
def baseN (g : Gram) : Int := g.nonterms.length + (tlist g g.terms.length).length
def nrmOf (g : Gram) : Nrm := ⟨g.terms.length, nextN (baseN g) g.rules, g.start, chns g 0 (baseN g) g.rules ++ (tlist g g.terms.length).map (termN g)⟩
end Go.Lg
namespace Go.Lg
def posN : List Rul -> Nat -> Nat
 | [], _ => 0
 | _, 0 => 0
 | r :: l, i + 1 => extraN r + 1 + posN l i
def nxN (nx : Int) : List Rul -> Nat -> Int
 | [], _ => nx
 | _, 0 => nx
 | r :: l, i + 1 => nxN (nx + extraN r) l i
def leB (a b : List Bool) : Prop := a.length = b.length /\ ∀ i, nth a i = true -> nth b i = true
theorem leB.refl (a : List Bool) : leB a a := ⟨rfl, fun _ h => h⟩
theorem leB.trans {a b c : List Bool} (h : leB a b) (k : leB b c) : leB a c := ⟨h.1.trans k.1, fun i hi => k.2 i (h.2 i hi)⟩
theorem nth_ext {α : Type} [Inhabited α] {a b : List α} (hl : a.length = b.length) (h : ∀ i, i < a.length -> nth a i = nth b i) : a = b := by
 apply List.ext_getElem hl
 intro i h1 h2
 have := h i h1
 rwa [nth_eq h1, nth_eq h2] at this
theorem leB.antisymm {a b : List Bool} (h : leB a b) (k : leB b a) : a = b := nth_ext h.1 fun i _ => by
 have h1 := h.2 i
 have h2 := k.2 i
 cases ha : nth a i <;> cases hb : nth b i <;> simp_all
theorem nth_out {α : Type} [Inhabited α] {a : List α} {i : Nat} (h : a.length <= i) : nth a i = default := by simp [nth, List.getD, List.getElem?_eq_none h]
theorem nth_lt {a : List Bool} {i : Nat} (h : nth a i = true) : i < a.length := by
 rcases Nat.lt_or_ge i a.length with h1 | h1
 ·exact h1
 ·rw [nth_out h1] at h; cases h
theorem nth_set {α : Type} [Inhabited α] {a : List α} {i j : Nat} {v : α} (h : i < a.length) : nth (a.set i v) j = if i = j then v else nth a j := by
 simp only [nth, List.getD, List.getElem?_set]
 by_cases hj : i = j
 ·subst hj; simp [h]
 ·simp [hj]
theorem nth_mapP {α β : Type} [Inhabited α] [Inhabited β] {f : α -> β} {a : List α} {i : Nat} (h : i < a.length) : nth (a.map f) i = f (nth a i) := by
 rw [nth_eq (by simpa using h), nth_eq h, List.getElem_map]
theorem nth_range {β : Type} [Inhabited β] {f : Nat -> β} {n i : Nat} (h : i < n) : nth ((List.range n).map f) i = f i := by
 rw [nth_eq (by simpa using h)]; simp
theorem nth_replicate {α : Type} [Inhabited α] {n i : Nat} {v : α} (h : i < n) : nth (List.replicate n v) i = v := by
 rw [nth_eq (by simpa using h)]; simp
def falses : List Bool -> Nat
 | [] => 0
 | b :: l => (if b then 0 else 1) + falses l
theorem falses_le : ∀ l : List Bool, falses l <= l.length
 | [] => Nat.le_refl _
 | b :: l => by have := falses_le l; simp only [falses, List.length_cons]; split <;> omega
theorem falses_set : ∀ {l : List Bool} {i : Nat}, i < l.length -> nth l i = false -> falses (l.set i true) + 1 = falses l
  | b :: l, 0, _, h => by
    have : b = false := by simpa [nth] using h
    subst this; simp [falses]; omega
  | b :: l, i + 1, hi, h => by
    have := falses_set (l := l) (i := i) (by simpa using hi) (by simpa [nth] using h)
    simp only [List.set_cons_succ, falses]; omega
theorem falses_mono : ∀ {a b : List Bool}, leB a b -> falses b <= falses a
  | [], [], _ => Nat.le_refl _
  | x :: a, y :: b, h => by
    have ih := falses_mono (a := a) (b := b) ⟨by simpa using h.1, fun i hi => by have := h.2 (i + 1) (by simpa [nth] using hi); simpa [nth] using this⟩
    have h0 := h.2 0
    simp only [nth, List.getD_cons_zero] at h0
    simp only [falses]
    cases x <;> cases y <;> simp_all <;> omega
  | [], _ :: _, h => by simp [leB] at h
  | _ :: _, [], h => by simp [leB] at h
theorem falses_eq : ∀ {a b : List Bool}, leB a b -> falses a = falses b -> a = b
  | [], [], _, _ => rfl
  | x :: a, y :: b, h, hf => by
    have hl : leB a b := ⟨by simpa using h.1, fun i hi => by have := h.2 (i + 1) (by simpa [nth] using hi); simpa [nth] using this⟩
    have ih := falses_mono hl
    have h0 := h.2 0
    simp only [nth, List.getD_cons_zero] at h0
    simp only [falses] at hf
    have hxy : x = y := by
      cases x <;> cases y <;> simp_all <;> omega
    subst hxy
    rw [falses_eq hl (by omega)]
  | [], _ :: _, h, _ => by simp [leB] at h
  | _ :: _, [], h, _ => by simp [leB] at h
def iterB (f : List Bool -> List Bool) : Nat -> List Bool -> List Bool
 | 0, l => l
 | k + 1, l => iterB f k (f l)
def lfpB (f : List Bool -> List Bool) (l : List Bool) : List Bool := iterB f l.length l
structure MonoB (n : Nat) (f : List Bool -> List Bool) : Prop where
 up : ∀ l, l.length = n -> leB l (f l)
 mono : ∀ a b, a.length = n -> leB a b -> leB (f a) (f b)
section
variable {n : Nat} {f : List Bool -> List Bool} (hf : MonoB n f)
include hf
theorem iterB_up : ∀ (k : Nat) (l : List Bool), l.length = n -> leB l (iterB f k l)
 | 0, l, _ => .refl l
 | k + 1, l, hl => (hf.up l hl).trans (iterB_up k (f l) (by rw [<- hl]; exact (hf.up l hl).1.symm))
theorem iterB_fix : ∀ (k : Nat) (l : List Bool), l.length = n -> falses l <= k -> f (iterB f k l) = iterB f k l
  | 0, l, hl, hk => by
    have h1 := hf.up l hl
    have := falses_mono h1
    exact (falses_eq h1 (by omega)).symm
  | k + 1, l, hl, hk => by
    have h1 := hf.up l hl
    have hl' : (f l).length = n := by rw [<- hl]; exact h1.1.symm
    by_cases he : f l = l
    · have : ∀ j, iterB f j l = l := by
        intro j; induction j with
        | zero => rfl
        | succ j ih => simp only [iterB, he, ih]
      rw [this, he]
    · have h2 := falses_mono h1
      have h3 : falses (f l) ≠ falses l := fun e => he (falses_eq h1 e.symm).symm
      exact iterB_fix k (f l) hl' (by omega)
theorem iterB_least {S : List Bool} (hS : leB (f S) S) : ∀ (k : Nat) (l : List Bool), l.length = n -> leB l S -> leB (iterB f k l) S
 | 0, l, _, h => h
 | k + 1, l, hl, h => iterB_least hS k (f l) (by rw [<- hl]; exact (hf.up l hl).1.symm) ((hf.mono l S hl h).trans hS)
theorem lfpB_up {l : List Bool} (hl : l.length = n) : leB l (lfpB f l) := iterB_up hf _ l hl
theorem lfpB_fix {l : List Bool} (hl : l.length = n) : f (lfpB f l) = lfpB f l := iterB_fix hf _ l hl (falses_le l)
theorem lfpB_least {S l : List Bool} (hl : l.length = n) (h : leB l S) (hS : leB (f S) S) : leB (lfpB f l) S := iterB_least hf hS _ l hl h
theorem lfpB_eq {l out : List Bool} (hl : l.length = n) (h1 : leB l out) (h2 : f out = out) (h3 : ∀ S, leB l S -> leB (f S) S -> leB out S) : lfpB f l = out :=
 (lfpB_least hf hl h1 (by rw [h2]; exact .refl _)).antisymm (h3 _ (lfpB_up hf hl) (by rw [lfpB_fix hf hl]; exact .refl _))
end
def okSym (is : List Bool) (x : Int) : Bool := decide (0 <= x) || nth is (-1 - x).toNat
theorem okSym_mono {a b : List Bool} (h : leB a b) {x : Int} (hx : okSym a x = true) : okSym b x = true := by
 simp only [okSym, Bool.or_eq_true, decide_eq_true_eq] at *
 exact hx.imp id (h.2 _)
def stepP (g : Gram) (out : List Bool) : List Bool := (List.range out.length).map fun i => nth out i || g.rules.any fun r => decide (r.head = (i : Int)) && r.body.all (okSym out)
def stepU (g : Gram) (is out : List Bool) : List Bool := (List.range out.length).map fun i => nth out i || g.rules.any fun r => nth out r.head.toNat && r.body.all (okSym is) && r.body.any fun x => decide (x = -1 - (i : Int))
theorem stepP_mono (g : Gram) (n : Nat) : MonoB n (stepP g) where
 up l _ := ⟨by simp [stepP], fun i hi => by rw [stepP, nth_range (nth_lt hi), hi]; rfl⟩
 mono a b _ h := ⟨by simp [stepP, h.1], fun i hi => by
  have hi' := nth_lt hi
  simp only [stepP, List.length_map, List.length_range] at hi'
  rw [stepP, nth_range hi'] at hi
  rw [stepP, nth_range (by rw [<- h.1]; exact hi')]
  simp only [Bool.or_eq_true, List.any_eq_true, Bool.and_eq_true, List.all_eq_true] at *
  rcases hi with hi | ⟨r, hr, h1, h2⟩
  ·exact .inl (h.2 i hi)
  ·exact .inr ⟨r, hr, h1, fun x hx => okSym_mono h (h2 x hx)⟩⟩
theorem stepU_mono (g : Gram) (is : List Bool) (n : Nat) : MonoB n (stepU g is) where
 up l _ := ⟨by simp [stepU], fun i hi => by rw [stepU, nth_range (nth_lt hi), hi]; rfl⟩
 mono a b _ h := ⟨by simp [stepU, h.1], fun i hi => by
  have hi' := nth_lt hi
  simp only [stepU, List.length_map, List.length_range] at hi'
  rw [stepU, nth_range hi'] at hi
  rw [stepU, nth_range (by rw [<- h.1]; exact hi')]
  simp only [Bool.or_eq_true, List.any_eq_true, Bool.and_eq_true] at *
  rcases hi with hi | ⟨r, hr, ⟨h1, h2⟩, h3⟩
  ·exact .inl (h.2 i hi)
  ·exact .inr ⟨r, hr, ⟨h.2 _ h1, h2⟩, h3⟩⟩
def nob (n : Nat) : List Bool := List.replicate n false
def prodG (g : Gram) : List Bool := lfpB (stepP g) (nob g.nonterms.length)
def usefulG (g : Gram) (is : List Bool) : List Bool := lfpB (stepU g is) ((nob g.nonterms.length).set g.start.toNat true)
@[simp] theorem nob_map (n : Nat) : (nob n).map boolA = List.replicate n (AV.val (.bool false)) := by simp [nob, boolA]
theorem nob_len (n : Nat) : (nob n).length = n := by simp [nob]
theorem nob_le {n : Nat} {S : List Bool} (h : S.length = n) : leB (nob n) S := ⟨by simp [nob, h], fun i hi => by
 have := nth_lt hi; rw [nob_len] at this
 rw [nob, nth_replicate this] at hi; cases hi⟩
theorem stepP_closed {g : Gram} {S : List Bool} (h : ∀ r, r ∈ g.rules -> r.body.all (okSym S) = true -> nth S r.head.toNat = true) : stepP g S = S := by
 refine nth_ext (by simp [stepP]) fun i hi => ?_
 simp only [stepP, List.length_map, List.length_range] at hi
 rw [stepP, nth_range hi]
 cases hb : nth S i with
 | true => rfl
 | false =>
  rw [Bool.false_or, List.any_eq_false]
  intro r hr hc
  simp only [Bool.and_eq_true, decide_eq_true_eq] at hc
  have := h r hr hc.2
  rw [hc.1] at this
  simp [hb] at this
theorem stepP_closes {g : Gram} {S : List Bool} (h : leB (stepP g S) S) {r : Rul} (hr : r ∈ g.rules) (h0 : 0 <= r.head) (hn : r.head < S.length) (hb : r.body.all (okSym S) = true) : nth S r.head.toNat = true := by
 apply h.2
 rw [stepP, nth_range (by omega)]
 simp only [Bool.or_eq_true, List.any_eq_true, Bool.and_eq_true, decide_eq_true_eq]
 exact .inr ⟨r, hr, by omega, hb⟩
theorem stepU_closed {g : Gram} {is S : List Bool} (h : ∀ r, r ∈ g.rules -> nth S r.head.toNat = true -> r.body.all (okSym is) = true -> ∀ x, x ∈ r.body -> x < 0 -> nth S (-1 - x).toNat = true) : stepU g is S = S := by
 refine nth_ext (by simp [stepU]) fun i hi => ?_
 simp only [stepU, List.length_map, List.length_range] at hi
 rw [stepU, nth_range hi]
 cases hb : nth S i with
 | true => rfl
 | false =>
  rw [Bool.false_or, List.any_eq_false]
  intro r hr hc
  simp only [Bool.and_eq_true, List.any_eq_true, decide_eq_true_eq] at hc
  obtain ⟨⟨h1, h2⟩, x, hx, rfl⟩ := hc
  have := h r hr h1 h2 _ hx (by omega)
  rw [show (-1 - (-1 - (i : Int))).toNat = i by omega, hb] at this
  cases this
theorem stepU_closes {g : Gram} {is S : List Bool} (h : leB (stepU g is S) S) {r : Rul} (hr : r ∈ g.rules) (h1 : nth S r.head.toNat = true) (h2 : r.body.all (okSym is) = true) {x : Int} (hx : x ∈ r.body) (h0 : x < 0) (hn : -(S.length : Int) <= x) : nth S (-1 - x).toNat = true := by
 apply h.2
 rw [stepU, nth_range (by omega)]
 simp only [Bool.or_eq_true, List.any_eq_true, Bool.and_eq_true, decide_eq_true_eq]
 exact .inr ⟨r, hr, ⟨h1, h2⟩, x, hx, by omega⟩
theorem leB_set {a S : List Bool} {i : Nat} (h : leB a S) (hi : nth S i = true) : leB (a.set i true) S := by
 refine ⟨by simp [h.1], fun j hj => ?_⟩
 rw [nth_set (by rw [h.1]; exact nth_lt hi)] at hj
 split at hj
 ·rename_i e; subst e; exact hi
 ·exact h.2 j hj
theorem leB_set_up {a : List Bool} {i : Nat} : leB a (a.set i true) := by
 refine ⟨by simp, fun j hj => ?_⟩
 have := nth_lt hj
 simp only [nth, List.getD, List.getElem?_set] at *
 by_cases h : i = j
 ·subst h; simp [this]
 ·simp [h]; simpa using hj
structure RulFit (g : Gram) (r : Rul) : Prop where
 h0 : 0 <= r.head
 hn : r.head < g.nonterms.length
 len : r.body.length <= 12
 p0 : 0 <= r.price
 p1 : r.price <= 1000
 hi : ∀ x, x ∈ r.body -> x < g.terms.length
 lo : ∀ x, x ∈ r.body -> -(g.nonterms.length : Int) <= x
structure GVal (g : Gram) : Prop where
 terms : g.terms.length <= 120
 n1 : 1 <= g.nonterms.length
 n2 : g.nonterms.length <= 120
 r1 : 1 <= g.rules.length
 r2 : g.rules.length <= 120
 s0 : 0 <= g.start
 sn : g.start < g.nonterms.length
 names : namesOk (g.terms ++ g.nonterms) = true
 rule : ∀ r, r ∈ g.rules -> RulFit g r
theorem ruleOk_iff {g : Gram} {r : Rul} : ruleOk g r = true ↔ RulFit g r := by
 constructor
 ·intro h
  simp only [ruleOk, Bool.and_eq_true, decide_eq_true_eq, List.all_eq_true, symOk] at h
  obtain ⟨⟨⟨⟨⟨h1, h2⟩, h3⟩, h4⟩, h5⟩, h6⟩ := h
  exact ⟨h1, h2, h3, h4, h5, fun x hx => (h6 x hx).1, fun x hx => (h6 x hx).2⟩
 ·intro h
  simp only [ruleOk, Bool.and_eq_true, decide_eq_true_eq, List.all_eq_true, symOk]
  exact ⟨⟨⟨⟨⟨h.h0, h.hn⟩, h.len⟩, h.p0⟩, h.p1⟩, fun x hx => ⟨h.hi x hx, h.lo x hx⟩⟩
theorem validG_iff {g : Gram} : validG g = true ↔ GVal g := by
 constructor
 ·intro h
  simp only [validG, Bool.and_eq_true, decide_eq_true_eq, List.all_eq_true] at h
  obtain ⟨⟨⟨⟨⟨⟨⟨⟨h1, h2⟩, h3⟩, h4⟩, h5⟩, h6⟩, h7⟩, h8⟩, h9⟩ := h
  exact ⟨h1, h2, h3, h4, h5, h6, h7, h8, fun r hr => ruleOk_iff.1 (h9 r hr)⟩
 ·intro h
  simp only [validG, Bool.and_eq_true, decide_eq_true_eq, List.all_eq_true]
  exact ⟨⟨⟨⟨⟨⟨⟨⟨h.terms, h.n1⟩, h.n2⟩, h.r1⟩, h.r2⟩, h.s0⟩, h.sn⟩, h.names⟩, fun r hr => ruleOk_iff.2 (h.rule r hr)⟩
def chainsN (g : Gram) : List NRul := chns g 0 (baseN g) g.rules
theorem mem_take {α : Type} [Inhabited α] {l : List α} {k : Nat} {x : α} (h : x ∈ l.take k) : ∃ j, j < k /\ j < l.length /\ x = nth l j := by
 obtain ⟨j, hj, e⟩ := List.getElem_of_mem h
 rw [List.length_take] at hj
 refine ⟨j, by omega, by omega, ?_⟩
 rw [nth_eq (by omega), <- e, List.getElem_take]
theorem indexP_is {α : Type} [Inhabited α] {p : α -> Bool} {l : List α} {k : Nat} (hk : k < l.length) (hp : p (nth l k) = true) (h : ∀ j, j < k -> p (nth l j) = false) : indexP p l = k :=
 indexP_at hk (by
  rw [List.any_eq_false]
  intro x hx
  obtain ⟨j, h1, _, rfl⟩ := mem_take hx
  simp [h j h1]) hp
mutual
def szT : Tre -> Nat
 | .mk _ _ l => 1 + szTL l
def szTL : List Tre -> Nat
 | [] => 0
 | t :: l => szT t + szTL l
end
mutual
def szP : Prs -> Nat
 | .mk _ l => 1 + szPL l
def szPL : List Prs -> Nat
 | [] => 0
 | t :: l => szP t + szPL l
end
structure TIn (g : Gram) (x : Int) (t : Tre) : Prop where
 r0 : 0 <= t.rule
 rn : t.rule.toNat < g.rules.length
 tm : t.term = 0
 hd : (nth g.rules t.rule.toNat).head = -1 - x
 len : t.kids.length = (nth g.rules t.rule.toNat).body.length
 kid : ∀ i, i < t.kids.length -> okT g (nth (nth g.rules t.rule.toNat).body i) (nth t.kids i) = true
def leafT (x : Int) : Tre := .mk (-1) x []
structure PIn (n : Nrm) (h : Int) (p : Prs) : Prop where
 r0 : 0 <= p.rule
 rn : p.rule.toNat < n.rules.length
 hd : (nth n.rules p.rule.toNat).head = h
 len : (kidsN (nth n.rules p.rule.toNat)).length = p.kids.length
 kid : ∀ i, i < p.kids.length -> okP n (nth (kidsN (nth n.rules p.rule.toNat)) i) (nth p.kids i) = true
def unroll : Nat -> Prs -> List Prs
  | m + 3, p => match p.kids with
    | [a, b] => a :: unroll (m + 2) b
    | l => l
  | _, p => p.kids
def bodyAt (g : Gram) (i : Int) : List Int := (nth g.rules i.toNat).body
def toTF (g : Gram) : Nat -> Prs -> Tre
 | 0, _ => default
 | k + 1, p => .mk (nruleAt (nrmOf g) p.rule).origin 0 ((List.range (bodyAt g (nruleAt (nrmOf g) p.rule).origin).length).map fun i =>
   if 0 <= nth (bodyAt g (nruleAt (nrmOf g) p.rule).origin) i then leafT (nth (bodyAt g (nruleAt (nrmOf g) p.rule).origin) i)
   else toTF g k (nth (unroll (bodyAt g (nruleAt (nrmOf g) p.rule).origin).length p) i))
def termP (g : Gram) (x : Int) : Prs := .mk (((chainsN g).length + (tlist g x.toNat).length : Nat) : Int) []
def chainP : Int -> List Prs -> Prs
 | at_, a :: b :: c :: l => .mk at_ [a, chainP (at_ + 1) (b :: c :: l)]
 | at_, l => .mk at_ l
def fromTF (g : Gram) : Nat -> Tre -> Prs
  | 0, _ => default
  | k + 1, t => match bodyAt g t.rule with
    | [x] => if 0 <= x then .mk (posN g.rules t.rule.toNat) [] else .mk (posN g.rules t.rule.toNat) [fromTF g k (nth t.kids 0)]
    | b => chainP (posN g.rules t.rule.toNat) ((List.range b.length).map fun i => if 0 <= nth b i then termP g (nth b i) else fromTF g k (nth t.kids i))
section
variable {g : Gram}
end
end Go.Lg
namespace Go.Lg
open Go.Proofs
attribute [local irreducible] Ap Rq asemC WP RunD Ret Gq thenA inBlockA bodyQ noGotoA RqL RqP OpP
theorem letter18_fn (c : Int) : Fn Tryd.prog 78 [.val (.int .u8 c)] (boolA (letB c)) := by
 refine Fn.intro rfl (by kernel_rfl) Tryd.func78 rfl rfl Tryd.ntmps78 (by exact nle rfl) ?_; intro Γ hm
 (repeat' (first | apply jA | apply jH | apply jK | apply jS | (refine rgC 0 ?_; (refine sassign rfl ?_); apply jW) | (refine rgC 1 ?_; (refine smove rfl ?_); (refine su (ageq rfl rfl) ?_); (refine smove rfl ?_); (refine sg (gq_vt rfl rfl) (fun he => ap_move (rq_p rfl rfl)) ?_); (refine sg (gq_vt rfl rfl) (fun he => ap_leq (rq_c rfl rfl) (rq_p rfl rfl)) ?_); (refine su (ap_and (rq_p rfl rfl) (rq_c rfl rfl)) ?_); (refine smove rfl ?_); (refine sg (gq_vf rfl rfl) (fun he => ap_move (rq_p rfl rfl)) ?_); (refine sg (gq_vf rfl rfl) (fun he => ap_geq (rq_c rfl rfl) (rq_p rfl rfl)) ?_); (refine sg (gq_vf rfl rfl) (fun he => ap_move (rq_c rfl rfl)) ?_); (refine sg (gq_ct rfl rfl) (fun he => ap_move (rq_p rfl rfl)) ?_); (refine sg (gq_ct rfl rfl) (fun he => ap_leq (rq_c rfl rfl) (rq_p rfl rfl)) ?_); (refine sg (gq_vf rfl rfl) (fun he => ap_and (rq_c rfl rfl) (rq_c rfl rfl)) ?_); (refine su (ap_or (rq_p rfl rfl) (rq_c rfl rfl)) ?_); (refine sassign rfl ?_); apply jW) | exact ret_eq rfl rfl rfl))
theorem indexFunc_fn (l : List Int) (g : FuncId) (cap : List AV) (p : Int -> Bool) (hcap : ∀ n, bdL n cap = true) (h : ∀ x, x ∈ l -> Fn Tryd.prog g (intA x :: cap) (boolA (p x))) :
  Fn Tryd.prog 61 [intsA l, .clo (.func g) [] cap] (intA (indexP p l)) := by
 refine Fn.intro rfl (by kernel_rfl) Tryd.func61 rfl rfl Tryd.ntmps61 (by exact nle rfl) ?_; intro Γ hm
 refine wp_lens 0 rfl fun h0 => ?_
 rw [lens_intsA] at h0
 (repeat' (first | apply jA | apply jF | apply jH | (refine rgC 0 ?_; (refine sassign rfl ?_); apply jW) | (refine rgC 1 ?_; (refine smove rfl ?_); (refine slenm rfl rfl ?_); (refine smove rfl ?_); apply jW)))
 refine wp_loop (fun k => k <= l.length /\ (l.take k).any p = false) (fun k => l.length - k) (fun k => (S 19 [(0, intsA l), (1, .clo (.func g) [] cap), (7, intA (l.length : Nat)), (8, intA (k : Nat))] 0 [])) 0 ⟨[], ToR.S rfl (by repeat' (first | exact rt_nil | refine rt_e rfl rfl ?_ | refine rt_p rfl rfl (by first | (simp [AV.bd, bdL, bdL_append]; done) | (simp [AV.bd, bdL, bdL_append, *]; done) | fail) ?_)) (by repeat' (exact ro_nil)) rfl (by (rw [hm]; exact rfl)) rfl (by simp [bdT, AV.bd, bdL, bdL_append, *]) (by repeat' (exact True.intro)) (by (rw [hm]; exact nle rfl))⟩ ⟨Nat.zero_le _, rfl⟩ ?_
 rintro k ⟨hk, hall⟩
 (repeat' (first | apply jA | apply jF | apply jH | apply jI | apply jJ | apply jK | apply jL | apply jM | apply jN | apply jO | apply jP | apply jS | (refine wp_cond rfl (fun hc => ?_) (fun hc => ?_) <;> (try simp only [sB, ne_eq, reduceCtorEq] at hc) <;> (try (exfalso; omega))) | (refine rgC 2 ?_; (refine slss rfl rfl ?_); apply jW) | (refine WP.regionC ?_; (refine smove rfl ?_); (refine sassign rfl ?_); apply jW) | (refine rgC 4 ?_; (refine smove rfl ?_); (refine smove rfl ?_); (refine smove rfl ?_); (refine sidxn rfl rfl (by omega) ?_); (refine sloadw rfl rfl ?_); (refine sc_p rfl rfl (by first | ((repeat' first | refine SubL.cons ?_ ?_ | exact SubL.rfl | exact Sub.refl); done) | fail) (by first | (simp [bdL, bdL_append, AV.bd, *]; done) | fail) (h _ (nth_mem (by omega))) ?_); apply jW) | (refine rgC 6 ?_; (refine sadd rfl rfl (by exact inr_i64_of (by omega)) ?_); (refine smove rfl ?_); apply jW) | (refine rgC 7 ?_; (refine sassign rfl ?_); apply jW) | refine ret_i rfl ?_))
 ·exact (indexP_at (by omega) hall hc).symm
 ·exact ⟨k + 1, ⟨by omega, by omega, take_any_succ (by omega) hall hc⟩, ⟨[], ToR.S rfl (by repeat' (first | exact rt_nil | refine rt_e rfl rfl ?_ | refine rt_p rfl rfl (by first | (simp [AV.bd, bdL, bdL_append]; done) | (simp [AV.bd, bdL, bdL_append, *]; done) | fail) ?_)) (by repeat' (exact ro_nil)) rfl (by (rw [hm]; exact rfl)) rfl (by simp [bdT, AV.bd, bdL, bdL_append, *]) (by repeat' (exact True.intro)) (by (rw [hm]; exact nle rfl))⟩⟩
 ·exact (indexP_no (by omega) hall).symm
theorem containsFunc_fn (l : List Int) (g : FuncId) (cap : List AV) (p : Int -> Bool) (hcap : ∀ n, bdL n cap = true) (h : ∀ x, x ∈ l -> Fn Tryd.prog g (intA x :: cap) (boolA (p x))) :
  Fn Tryd.prog 53 [intsA l, .clo (.func g) [] cap] (boolA (l.any p)) := by
 refine Fn.intro rfl (by kernel_rfl) Tryd.func53 rfl rfl Tryd.ntmps53 (by exact nle rfl) ?_; intro Γ hm
 (repeat' (first | apply jA | apply jH | apply jK | apply jS | (refine rgC 0 ?_; (refine sassign rfl ?_); apply jW) | (refine rgC 1 ?_; (refine smove rfl ?_); (refine smove rfl ?_); (refine sc_p rfl rfl zq1 (by first | (simp [bdL, bdL_append, AV.bd, *]; done) | fail) (indexFunc_fn _ _ _ p hcap h) ?_); (refine su (ageq rfl rfl) ?_); (refine sassign rfl ?_); apply jW) | refine ret_b rfl ?_))
 exact indexP_any
end Go.Lg
namespace Go.Lg
open Go.Proofs
attribute [local irreducible] Ap Rq asemC WP RunD Ret Gq thenA inBlockA bodyQ noGotoA RqL RqP OpP
theorem indexP_lt {α : Type} (p : α -> Bool) (l : List α) : -1 <= indexP p l /\ indexP p l < l.length := by
 unfold indexP
 cases h : l.findIdx? p with
 | none => simp; omega
 | some i => rw [List.findIdx?_eq_some_iff_getElem] at h; obtain ⟨hi, _⟩ := h; simp; omega
end Go.Lg
namespace Go.Lg
abbrev Tx := List UInt8
def lcp : Tx -> Tx -> Nat
 | a :: l, b :: m => if a = b then lcp l m + 1 else 0
 | _, _ => 0
def cntT (g : Gram) (i : Nat) : Nat := ((List.range i).filter fun k => decide ((nth g.rules k).head = (nth g.rules i).head)).length
def labelT (g : Gram) (i : Nat) : Tx := bl (nth g.nonterms (nth g.rules i).head.toNat) ++ 58 :: Lib.itoa (cntT g i : Int)
inductive PT (α : Type) where
 | ok (a : α) (at_ : Nat)
 | err (at_ : Nat)
def chooseT (r : Tx) (at_ : Nat) : List (Tx × Tre) -> Nat -> PT Tre
 | [], best => .err (at_ + best)
 | c :: l, best => if lcp c.1 r = c.1.length then .ok c.2 (at_ + c.1.length) else chooseT r at_ l (max best (lcp c.1 r))
def folT (last : Bool) : Tx := if last then [41] else [32]
def useT (g : Gram) (pr : List Bool) (i : Nat) : Bool := (nth g.rules i).body.all (okSym pr)
def chT (g : Gram) (i : Nat) : Tx × Tre := (40 :: (labelT g i ++ folT (nth g.rules i).body.isEmpty), .mk i 0 [])
def chR (g : Gram) (pr : List Bool) (head : Int) (k : Nat) : List (Tx × Tre) :=
 ((List.range k).filter fun i => (decide (head = -1) || decide ((nth g.rules i).head = head)) && useT g pr i).map (chT g)
def symT (rec : Nat -> Nat -> PT Tre) (g : Gram) (pr : List Bool) (s : Tx) (x : Int) (fol : Tx) (a : Nat) : PT Tre :=
  if 0 <= x then chooseT (s.drop a) a [(bl (nth g.terms x.toNat) ++ fol, .mk (-1) x [])] 0
  else match chooseT (s.drop a) a (chR g pr (-1 - x) g.rules.length) 0 with
    | .err e => .err e
    | .ok t a1 => match rec t.rule.toNat a1 with
      | .err e => .err e
      | .ok t' a2 => match chooseT (s.drop a2) a2 [(fol, .mk 0 0 [])] 0 with
        | .err e => .err e
        | .ok _ a3 => .ok t' a3
def bodyT (rec : Nat -> Nat -> PT Tre) (g : Gram) (pr : List Bool) (s : Tx) : List Int -> Nat -> List Tre -> PT (List Tre)
  | [], a, ks => .ok ks a
  | x :: l, a, ks => match symT rec g pr s x (folT l.isEmpty) a with
    | .err e => .err e
    | .ok k a' => bodyT rec g pr s l a' (ks ++ [k])
def kidsT (g : Gram) (pr : List Bool) (s : Tx) : Nat -> Nat -> Nat -> PT Tre
  | 0, _, a => .err a
  | k + 1, i, a => match bodyT (kidsT g pr s k) g pr s (nth g.rules i).body a [] with
    | .err e => .err e
    | .ok ks a' => .ok (.mk i 0 ks) a'
def termT (s : Tx) : List ByteArray -> Nat -> Nat -> Nat ⊕ Nat
 | [], _, best => .inr best
 | t :: l, i, best => if lcp (bl t) s = (bl t).length /\ lcp (bl t) s = s.length then .inl i else termT s l (i + 1) (max best (lcp (bl t) s))
mutual
def depT : Tre -> Nat
 | .mk _ _ l => depTL l 0 + 1
def depTL : List Tre -> Nat -> Nat
 | [], n => n
 | t :: l, n => depTL l (max n (depT t))
end
mutual
def fmtT (g : Gram) : Tre -> Tx
 | .mk r t l => if r = -1 then bl (nth g.terms t.toNat) else 40 :: (labelT g r.toNat ++ fmtTL g l ++ [41])
def fmtTL (g : Gram) : List Tre -> Tx
 | [] => []
 | t :: l => 32 :: (fmtT g t ++ fmtTL g l)
end
end Go.Lg
namespace Go.Lg
abbrev RT := Tre × Nat × Bool
def zT : Tre := .mk 0 0 []
def rbodyT (rec : Int -> Tx -> RT) (s : Tx) (i : Int) : List Int -> Nat -> List Tre -> RT
 | [], n, ks => (.mk i 0 ks, n + lcp [41] (s.drop n), decide (lcp [41] (s.drop n) = 1))
 | x :: l, n, ks =>
  if lcp [32] (s.drop n) = 1 then
   if (rec x (s.drop (n + 1))).2.2 = true then rbodyT rec s i l (n + 1 + (rec x (s.drop (n + 1))).2.1) (ks ++ [(rec x (s.drop (n + 1))).1])
   else (zT, n + 1 + (rec x (s.drop (n + 1))).2.1, false)
  else (zT, n + lcp [32] (s.drop n), false)
def rruleT (rec : Int -> Tx -> RT) (g : Gram) (i : Nat) (s : Tx) : RT :=
 if lcp (40 :: labelT g i) s = (labelT g i).length + 1 then rbodyT rec s i (nth g.rules i).body ((labelT g i).length + 1) [] else (zT, lcp (40 :: labelT g i) s, false)
def rsymL (rec : Int -> Tx -> RT) (g : Gram) (fin : List Bool) (x : Int) (s : Tx) : List Nat -> Nat -> RT
 | [], most => (zT, most, false)
 | i :: l, most =>
  if (nth g.rules i).head = -1 - x /\ useT g fin i = true then
   if (rruleT rec g i s).2.2 = true then ((rruleT rec g i s).1, (rruleT rec g i s).2.1, true) else rsymL rec g fin x s l (max most (rruleT rec g i s).2.1)
  else rsymL rec g fin x s l most
def rsymT (g : Gram) (fin : List Bool) : Nat -> Int -> Tx -> RT
  | 0, _, _ => (zT, 0, false)
  | k + 1, x, s => if 0 <= x then (.mk (-1) x [], lcp (bl (nth g.terms x.toNat)) s, decide (lcp (bl (nth g.terms x.toNat)) s = (bl (nth g.terms x.toNat)).length))
    else rsymL (rsymT g fin k) g fin x s (List.range g.rules.length) 0
def maxL (r : Tx) : List (Tx × Tre) -> Nat -> Nat
 | [], b => b
 | c :: l, b => maxL r l (max b (lcp c.1 r))
end Go.Lg
