/-
  Part 9 of the proof of PrecedenceUnambiguousCard: the logic over the model, the functions' contracts and the plain laws.
-/
import Derived.Test.YtmgpndmmodkhhaaDoorPu8
import Derived.Test.YtmgpndmmodkhhaaDoorChecked

set_option linter.unusedSimpArgs false
set_option linter.unusedVariables false
set_option linter.unusedSectionVars false
set_option linter.defProp false

namespace Go.Lg
open Go.Proofs
section
theorem mixed : Tryd.prog.follows .mixedOrders = true := by kernel_rfl
theorem ti3 : tinfo Tryd.prog 3 = some ⟨false, 1, 8, [.int .i64 0], none, [], some .i64, false, .int⟩ := by kernel_rfl
instance tc3 : TIc Tryd.prog 3 ⟨false, 1, 8, [.int .i64 0], none, [], some .i64, false, .int⟩ := ⟨ti3⟩
theorem ti5 : tinfo Tryd.prog 5 = some ⟨false, 1, 1, [.int .u8 0], none, [], some .u8, false, .int⟩ := by kernel_rfl
instance tc5 : TIc Tryd.prog 5 ⟨false, 1, 1, [.int .u8 0], none, [], some .u8, false, .int⟩ := ⟨ti5⟩
theorem ti9 : tinfo Tryd.prog 9 = some ⟨false, 1, 16, [.string ⟨#[]⟩], none, [], none, false, .string⟩ := by kernel_rfl
instance tc9 : TIc Tryd.prog 9 ⟨false, 1, 16, [.string ⟨#[]⟩], none, [], none, false, .string⟩ := ⟨ti9⟩
theorem ti22 : tinfo Tryd.prog 22 = some ⟨false, 1, 24, [.slice none 0 0], some 9, [], none, false, .slice⟩ := by kernel_rfl
instance tc22 : TIc Tryd.prog 22 ⟨false, 1, 24, [.slice none 0 0], some 9, [], none, false, .slice⟩ := ⟨ti22⟩
theorem te22 : ∃ ti el, tinfo Tryd.prog 22 = some ti /\ ti.elem = some el /\ ti.sh = .slice /\ tinfo Tryd.prog el = some ⟨false, 1, 16, [.string ⟨#[]⟩], none, [], none, false, .string⟩ /\ TI.size ⟨false, 1, 16, [.string ⟨#[]⟩], none, [], none, false, .string⟩ = 1 /\ TI.bytes ⟨false, 1, 16, [.string ⟨#[]⟩], none, [], none, false, .string⟩ = 16 := ⟨_, _, ti22, rfl, rfl, (by kernel_rfl : tinfo Tryd.prog 9 = some ⟨false, 1, 16, [.string ⟨#[]⟩], none, [], none, false, .string⟩), rfl, rfl⟩
instance tel22 : TEl Tryd.prog 22 ⟨false, 1, 16, [.string ⟨#[]⟩], none, [], none, false, .string⟩ 1 16 := ⟨te22⟩
theorem ti23 : tinfo Tryd.prog 23 = some ⟨false, 1, 24, [.slice none 0 0], some 39, [], none, false, .slice⟩ := by kernel_rfl
instance tc23 : TIc Tryd.prog 23 ⟨false, 1, 24, [.slice none 0 0], some 39, [], none, false, .slice⟩ := ⟨ti23⟩
theorem te23 : ∃ ti el, tinfo Tryd.prog 23 = some ti /\ ti.elem = some el /\ ti.sh = .slice /\ tinfo Tryd.prog el = some ⟨true, 3, 40, [.int .i64 0, .slice none 0 0, .int .i64 0], none, [(0, 1), (1, 1), (2, 1)], none, true, .other⟩ /\ TI.size ⟨true, 3, 40, [.int .i64 0, .slice none 0 0, .int .i64 0], none, [(0, 1), (1, 1), (2, 1)], none, true, .other⟩ = 3 /\ TI.bytes ⟨true, 3, 40, [.int .i64 0, .slice none 0 0, .int .i64 0], none, [(0, 1), (1, 1), (2, 1)], none, true, .other⟩ = 40 := ⟨_, _, ti23, rfl, rfl, (by kernel_rfl : tinfo Tryd.prog 39 = some ⟨true, 3, 40, [.int .i64 0, .slice none 0 0, .int .i64 0], none, [(0, 1), (1, 1), (2, 1)], none, true, .other⟩), rfl, rfl⟩
instance tel23 : TEl Tryd.prog 23 ⟨true, 3, 40, [.int .i64 0, .slice none 0 0, .int .i64 0], none, [(0, 1), (1, 1), (2, 1)], none, true, .other⟩ 3 40 := ⟨te23⟩
theorem ti25 : tinfo Tryd.prog 25 = some ⟨true, 4, 80, [.slice none 0 0, .slice none 0 0, .int .i64 0, .slice none 0 0], none, [(0, 1), (1, 1), (2, 1), (3, 1)], none, true, .other⟩ := by kernel_rfl
instance tc25 : TIc Tryd.prog 25 ⟨true, 4, 80, [.slice none 0 0, .slice none 0 0, .int .i64 0, .slice none 0 0], none, [(0, 1), (1, 1), (2, 1), (3, 1)], none, true, .other⟩ := ⟨ti25⟩
instance ts25 : TSz Tryd.prog 25 4 80 := ⟨fun ti h => by rw [ti25] at h; injection h with h; rw [<- h], fun ti h => by rw [ti25] at h; injection h with h; rw [<- h]⟩
theorem ti26 : tinfo Tryd.prog 26 = some ⟨false, 1, 24, [.slice none 0 0], some 42, [], none, false, .slice⟩ := by kernel_rfl
instance tc26 : TIc Tryd.prog 26 ⟨false, 1, 24, [.slice none 0 0], some 42, [], none, false, .slice⟩ := ⟨ti26⟩
theorem te26 : ∃ ti el, tinfo Tryd.prog 26 = some ti /\ ti.elem = some el /\ ti.sh = .slice /\ tinfo Tryd.prog el = some ⟨true, 2, 32, [.int .i64 0, .slice none 0 0], none, [(0, 1), (1, 1)], none, true, .other⟩ /\ TI.size ⟨true, 2, 32, [.int .i64 0, .slice none 0 0], none, [(0, 1), (1, 1)], none, true, .other⟩ = 2 /\ TI.bytes ⟨true, 2, 32, [.int .i64 0, .slice none 0 0], none, [(0, 1), (1, 1)], none, true, .other⟩ = 32 := ⟨_, _, ti26, rfl, rfl, (by kernel_rfl : tinfo Tryd.prog 42 = some ⟨true, 2, 32, [.int .i64 0, .slice none 0 0], none, [(0, 1), (1, 1)], none, true, .other⟩), rfl, rfl⟩
instance tel26 : TEl Tryd.prog 26 ⟨true, 2, 32, [.int .i64 0, .slice none 0 0], none, [(0, 1), (1, 1)], none, true, .other⟩ 2 32 := ⟨te26⟩
theorem ti32 : tinfo Tryd.prog 32 = some ⟨false, 1, 24, [.slice none 0 0], some 3, [], none, false, .slice⟩ := by kernel_rfl
instance tc32 : TIc Tryd.prog 32 ⟨false, 1, 24, [.slice none 0 0], some 3, [], none, false, .slice⟩ := ⟨ti32⟩
theorem te32 : ∃ ti el, tinfo Tryd.prog 32 = some ti /\ ti.elem = some el /\ ti.sh = .slice /\ tinfo Tryd.prog el = some ⟨false, 1, 8, [.int .i64 0], none, [], some .i64, false, .int⟩ /\ TI.size ⟨false, 1, 8, [.int .i64 0], none, [], some .i64, false, .int⟩ = 1 /\ TI.bytes ⟨false, 1, 8, [.int .i64 0], none, [], some .i64, false, .int⟩ = 8 := ⟨_, _, ti32, rfl, rfl, (by kernel_rfl : tinfo Tryd.prog 3 = some ⟨false, 1, 8, [.int .i64 0], none, [], some .i64, false, .int⟩), rfl, rfl⟩
instance tel32 : TEl Tryd.prog 32 ⟨false, 1, 8, [.int .i64 0], none, [], some .i64, false, .int⟩ 1 8 := ⟨te32⟩
theorem ti39 : tinfo Tryd.prog 39 = some ⟨true, 3, 40, [.int .i64 0, .slice none 0 0, .int .i64 0], none, [(0, 1), (1, 1), (2, 1)], none, true, .other⟩ := by kernel_rfl
instance tc39 : TIc Tryd.prog 39 ⟨true, 3, 40, [.int .i64 0, .slice none 0 0, .int .i64 0], none, [(0, 1), (1, 1), (2, 1)], none, true, .other⟩ := ⟨ti39⟩
instance ts39 : TSz Tryd.prog 39 3 40 := ⟨fun ti h => by rw [ti39] at h; injection h with h; rw [<- h], fun ti h => by rw [ti39] at h; injection h with h; rw [<- h]⟩
theorem ti40 : tinfo Tryd.prog 40 = some ⟨true, 8, 8, [.int .u8 0, .int .u8 0, .int .u8 0, .int .u8 0, .int .u8 0, .int .u8 0, .int .u8 0, .int .u8 0], none, [], none, true, .arr⟩ := by kernel_rfl
instance tc40 : TIc Tryd.prog 40 ⟨true, 8, 8, [.int .u8 0, .int .u8 0, .int .u8 0, .int .u8 0, .int .u8 0, .int .u8 0, .int .u8 0, .int .u8 0], none, [], none, true, .arr⟩ := ⟨ti40⟩
instance ts40 : TSz Tryd.prog 40 8 8 := ⟨fun ti h => by rw [ti40] at h; injection h with h; rw [<- h], fun ti h => by rw [ti40] at h; injection h with h; rw [<- h]⟩
theorem ti42 : tinfo Tryd.prog 42 = some ⟨true, 2, 32, [.int .i64 0, .slice none 0 0], none, [(0, 1), (1, 1)], none, true, .other⟩ := by kernel_rfl
instance tc42 : TIc Tryd.prog 42 ⟨true, 2, 32, [.int .i64 0, .slice none 0 0], none, [(0, 1), (1, 1)], none, true, .other⟩ := ⟨ti42⟩
instance ts42 : TSz Tryd.prog 42 2 32 := ⟨fun ti h => by rw [ti42] at h; injection h with h; rw [<- h], fun ti h => by rw [ti42] at h; injection h with h; rw [<- h]⟩
theorem ti52 : tinfo Tryd.prog 52 = some ⟨false, 1, 8, [.map none], none, [], none, false, .map⟩ := by kernel_rfl
instance tc52 : TIc Tryd.prog 52 ⟨false, 1, 8, [.map none], none, [], none, false, .map⟩ := ⟨ti52⟩
theorem ti54 : tinfo Tryd.prog 54 = some ⟨true, 6, 112, [.slice none 0 0, .slice none 0 0, .int .i64 0, .slice none 0 0, .slice none 0 0, .map none], none, [(0, 4), (4, 1), (5, 1)], none, true, .other⟩ := by kernel_rfl
instance tc54 : TIc Tryd.prog 54 ⟨true, 6, 112, [.slice none 0 0, .slice none 0 0, .int .i64 0, .slice none 0 0, .slice none 0 0, .map none], none, [(0, 4), (4, 1), (5, 1)], none, true, .other⟩ := ⟨ti54⟩
instance ts54 : TSz Tryd.prog 54 6 112 := ⟨fun ti h => by rw [ti54] at h; injection h with h; rw [<- h], fun ti h => by rw [ti54] at h; injection h with h; rw [<- h]⟩
theorem ti63 : tinfo Tryd.prog 63 = some ⟨false, 1, 24, [.slice none 0 0], some 32, [], none, false, .slice⟩ := by kernel_rfl
instance tc63 : TIc Tryd.prog 63 ⟨false, 1, 24, [.slice none 0 0], some 32, [], none, false, .slice⟩ := ⟨ti63⟩
theorem te63 : ∃ ti el, tinfo Tryd.prog 63 = some ti /\ ti.elem = some el /\ ti.sh = .slice /\ tinfo Tryd.prog el = some ⟨false, 1, 24, [.slice none 0 0], some 3, [], none, false, .slice⟩ /\ TI.size ⟨false, 1, 24, [.slice none 0 0], some 3, [], none, false, .slice⟩ = 1 /\ TI.bytes ⟨false, 1, 24, [.slice none 0 0], some 3, [], none, false, .slice⟩ = 24 := ⟨_, _, ti63, rfl, rfl, (by kernel_rfl : tinfo Tryd.prog 32 = some ⟨false, 1, 24, [.slice none 0 0], some 3, [], none, false, .slice⟩), rfl, rfl⟩
instance tel63 : TEl Tryd.prog 63 ⟨false, 1, 24, [.slice none 0 0], some 3, [], none, false, .slice⟩ 1 24 := ⟨te63⟩
theorem ti68 : tinfo Tryd.prog 68 = some ⟨true, 2, 16, [.int .i64 0, .int .i64 0], none, [], none, true, .arr⟩ := by kernel_rfl
instance tc68 : TIc Tryd.prog 68 ⟨true, 2, 16, [.int .i64 0, .int .i64 0], none, [], none, true, .arr⟩ := ⟨ti68⟩
instance ts68 : TSz Tryd.prog 68 2 16 := ⟨fun ti h => by rw [ti68] at h; injection h with h; rw [<- h], fun ti h => by rw [ti68] at h; injection h with h; rw [<- h]⟩
theorem ti82 : tinfo Tryd.prog 82 = some ⟨false, 1, 24, [.slice none 0 0], some 5, [], none, false, .slice⟩ := by kernel_rfl
instance tc82 : TIc Tryd.prog 82 ⟨false, 1, 24, [.slice none 0 0], some 5, [], none, false, .slice⟩ := ⟨ti82⟩
theorem te82 : ∃ ti el, tinfo Tryd.prog 82 = some ti /\ ti.elem = some el /\ ti.sh = .slice /\ tinfo Tryd.prog el = some ⟨false, 1, 1, [.int .u8 0], none, [], some .u8, false, .int⟩ /\ TI.size ⟨false, 1, 1, [.int .u8 0], none, [], some .u8, false, .int⟩ = 1 /\ TI.bytes ⟨false, 1, 1, [.int .u8 0], none, [], some .u8, false, .int⟩ = 1 := ⟨_, _, ti82, rfl, rfl, (by kernel_rfl : tinfo Tryd.prog 5 = some ⟨false, 1, 1, [.int .u8 0], none, [], some .u8, false, .int⟩), rfl, rfl⟩
instance tel82 : TEl Tryd.prog 82 ⟨false, 1, 1, [.int .u8 0], none, [], some .u8, false, .int⟩ 1 1 := ⟨te82⟩
theorem ti88 : tinfo Tryd.prog 88 = some ⟨false, 1, 8, [.int .u64 0], none, [], some .u64, false, .int⟩ := by kernel_rfl
instance tc88 : TIc Tryd.prog 88 ⟨false, 1, 8, [.int .u64 0], none, [], some .u64, false, .int⟩ := ⟨ti88⟩
theorem ti91 : tinfo Tryd.prog 91 = some ⟨false, 1, 24, [.slice none 0 0], some 22, [], none, false, .slice⟩ := by kernel_rfl
instance tc91 : TIc Tryd.prog 91 ⟨false, 1, 24, [.slice none 0 0], some 22, [], none, false, .slice⟩ := ⟨ti91⟩
theorem te91 : ∃ ti el, tinfo Tryd.prog 91 = some ti /\ ti.elem = some el /\ ti.sh = .slice /\ tinfo Tryd.prog el = some ⟨false, 1, 24, [.slice none 0 0], some 9, [], none, false, .slice⟩ /\ TI.size ⟨false, 1, 24, [.slice none 0 0], some 9, [], none, false, .slice⟩ = 1 /\ TI.bytes ⟨false, 1, 24, [.slice none 0 0], some 9, [], none, false, .slice⟩ = 24 := ⟨_, _, ti91, rfl, rfl, (by kernel_rfl : tinfo Tryd.prog 22 = some ⟨false, 1, 24, [.slice none 0 0], some 9, [], none, false, .slice⟩), rfl, rfl⟩
instance tel91 : TEl Tryd.prog 91 ⟨false, 1, 24, [.slice none 0 0], some 9, [], none, false, .slice⟩ 1 24 := ⟨te91⟩
theorem ti92 : tinfo Tryd.prog 92 = some ⟨true, 0, 0, [], none, [], none, true, .other⟩ := by kernel_rfl
instance tc92 : TIc Tryd.prog 92 ⟨true, 0, 0, [], none, [], none, true, .other⟩ := ⟨ti92⟩
theorem ti107 : tinfo Tryd.prog 107 = some ⟨false, 1, 8, [.int .u64 0], none, [], some .u64, false, .int⟩ := by kernel_rfl
instance tc107 : TIc Tryd.prog 107 ⟨false, 1, 8, [.int .u64 0], none, [], some .u64, false, .int⟩ := ⟨ti107⟩
instance tmp52 : TMp Tryd.prog 52 (.string) 3 (.val (.int .i64 0)) := ⟨⟨9, by kernel_rfl, by kernel_rfl⟩⟩
instance tmp60 : TMp Tryd.prog 60 (.int .i64) 32 (.val (.slice none 0 0)) := ⟨⟨3, by kernel_rfl, by kernel_rfl⟩⟩
instance tmp90 : TMp Tryd.prog 90 (.string) 92 (.agg []) := ⟨⟨9, by kernel_rfl, by kernel_rfl⟩⟩
end
end Go.Lg
namespace Go.Lg
def intA (n : Int) : AV := .val (.int .i64 n)
def boolA (b : Bool) : AV := .val (.bool b)
def strA (s : ByteArray) : AV := .val (.string s)
def intsA (l : List Int) : AV := .sl 1 (l.map intA)
def boolsA (l : List Bool) : AV := .sl 1 (l.map boolA)
def strsA (l : List ByteArray) : AV := .sl 1 (l.map strA)
@[simp] theorem bd_intA (n : Nat) (x : Int) : (intA x).bd n = true := rfl
@[simp] theorem bd_boolA (n : Nat) (x : Bool) : (boolA x).bd n = true := rfl
@[simp] theorem bd_strA (n : Nat) (x : ByteArray) : (strA x).bd n = true := rfl
@[simp] theorem bd_intsA (n : Nat) (l : List Int) : (intsA l).bd n = true := bdL_map (fun _ => rfl) l
@[simp] theorem bd_boolsA (n : Nat) (l : List Bool) : (boolsA l).bd n = true := bdL_map (fun _ => rfl) l
@[simp] theorem bd_strsA (n : Nat) (l : List ByteArray) : (strsA l).bd n = true := bdL_map (fun _ => rfl) l
@[simp] theorem bdL_intA (n : Nat) (l : List Int) : bdL n (l.map intA) = true := bdL_map (fun _ => rfl) l
@[simp] theorem bdL_boolA (n : Nat) (l : List Bool) : bdL n (l.map boolA) = true := bdL_map (fun _ => rfl) l
@[simp] theorem bdL_strA (n : Nat) (l : List ByteArray) : bdL n (l.map strA) = true := bdL_map (fun _ => rfl) l
@[simp] theorem bdL_rep {n k : Nat} {x : AV} (h : x.bd n = true) : bdL n (List.replicate k x) = true := by
 rw [bdL_iff]; intro y hy; rw [(List.mem_replicate.1 hy).2]; exact h
@[simp] theorem bd_byteA (n : Nat) (x : UInt8) : (byteA x).bd n = true := rfl
@[simp] theorem bdL_byteA (n : Nat) (l : List UInt8) : bdL n (l.map byteA) = true := bdL_map (fun _ => rfl) l
theorem mapA_bd {κ α : Type} {kf : κ -> Value} {f : α -> AV} {n : Nat} (h : ∀ x, (f x).bd n = true) (m : List (κ × α)) : ∀ p, p ∈ mapA kf f m -> p.2.bd n = true := by
 intro p hp
 obtain ⟨q, _, rfl⟩ := List.mem_map.1 hp
 exact h q.2
theorem mapA_all {κ α : Type} {kf : κ -> Value} {f : α -> AV} {n : Nat} (h : ∀ x, (f x).bd n = true) (m : List (κ × α)) : ((mapA kf f m).all fun p => p.2.bd n) = true := by
 rw [List.all_eq_true]; exact mapA_bd h m
section
variable {κ α : Type} [DecidableEq κ]
theorem afind_ge {k : κ} : ∀ {m : List (κ × α)} {i : Nat} {p : Nat × α}, afind k m i = some p -> i <= p.1 /\ m[p.1 - i]? = some (k, p.2)
  | [], _, _, h => by simp [afind] at h
  | q :: m, i, p, h => by
    simp only [afind] at h
    split at h
    · rename_i e; injection h with h; subst h; subst e; simp
    · have ih := afind_ge (m := m) h
      refine ⟨by omega, ?_⟩
      rw [show p.1 - i = (p.1 - (i + 1)) + 1 by omega]; simpa using ih.2
theorem afind_none {k : κ} : ∀ {m : List (κ × α)} {i : Nat}, afind k m i = none ↔ ∀ p, p ∈ m -> p.1 ≠ k
  | [], _ => by simp [afind]
  | q :: m, i => by
    simp only [afind]
    split
    · rename_i e; subst e; simp
    · rename_i e
      rw [afind_none (m := m)]
      simp only [List.mem_cons, forall_eq_or_imp, ne_eq]
      exact ⟨fun h => ⟨fun h' => e h'.symm, h⟩, fun h => h.2⟩
theorem afind_app {k : κ} : ∀ {m m' : List (κ × α)} {i : Nat}, (∀ p, p ∈ m -> p.1 ≠ k) -> afind k (m ++ m') i = afind k m' (i + m.length)
  | [], _, _, _ => by simp
  | q :: m, m', i, h => by
    have h0 : ¬ k = q.1 := fun e => h q (by simp) e.symm
    simp only [List.cons_append, afind, if_neg h0]
    rw [afind_app (m := m) (fun p hp => h p (by simp [hp]))]
    simp only [List.length_cons]; congr 1; omega
theorem aget_none {m : List (κ × α)} {k : κ} : aget m k = none ↔ ∀ p, p ∈ m -> p.1 ≠ k := by simp [aget, afind_none]
theorem aget_aset {m : List (κ × α)} {k x : κ} {v : α} : aget (aset m k v) x = if x = k then some v else aget m x := by
  unfold aset
  cases hf : afind k m 0 with
  | none =>
    rw [afind_none] at hf
    simp only
    by_cases e : x = k
    · subst e
      rw [if_pos rfl, aget, afind_app hf]; simp [afind]
    · rw [if_neg e]
      simp only [aget]
      have gen : ∀ (m : List (κ × α)) (i : Nat), (afind x (m ++ [(k, v)]) i).map (·.2) = (afind x m i).map (·.2) := by
        intro m
        induction m with
        | nil => intro i; simp [afind, e]
        | cons q m ih => intro i; simp only [List.cons_append, afind]; split
                         · rfl
                         · exact ih _
      exact gen m 0
  | some p =>
    obtain ⟨j, u⟩ := p
    obtain ⟨_, hj⟩ := afind_ge hf
    simp only [Nat.sub_zero] at hj
    simp only
    have gen : ∀ (m : List (κ × α)) (j i : Nat), m[j]? = some (k, u) -> (∀ n, n < j -> ∀ q, m[n]? = some q -> q.1 ≠ k) -> (afind x (m.set j (k, v)) i).map (·.2) = if x = k then some v else (afind x m i).map (·.2) := by
      intro m
      induction m with
      | nil => intro j i h; simp at h
      | cons q m ih =>
        intro j i h hn
        cases j with
        | zero =>
          simp at h; subst h
          simp only [List.set_cons_zero, afind]
          by_cases e : x = k
          · simp [e]
          · simp [e]
        | succ j =>
          simp only [List.set_cons_succ, afind]
          by_cases e : x = q.1
          · have hq := hn 0 (by omega) q rfl
            have : ¬ x = k := fun e' => hq (e ▸ e')
            simp [e, show ¬ q.1 = k from hq]
          · rw [if_neg e, if_neg e]
            exact ih j (i + 1) (by simpa using h) (fun n hn' q hq => hn (n + 1) (by omega) q (by simpa using hq))
    have first : ∀ (m : List (κ × α)) (i j : Nat), afind k m i = some (j, u) -> ∀ n, n < j - i -> ∀ q, m[n]? = some q -> q.1 ≠ k := by
      intro m
      induction m with
      | nil => intro i j h; simp [afind] at h
      | cons q m ih =>
        intro i j h n hn q' hq'
        simp only [afind] at h
        split at h
        · injection h with h; simp at h; omega
        · rename_i e
          cases n with
          | zero => simp at hq'; subst hq'; exact fun e' => e e'.symm
          | succ n => exact ih (i + 1) j h n (by omega) q' (by simpa using hq')
    exact gen m j 0 hj (fun n hn => first m 0 j hf n (by omega))
end
theorem renL_ints (π : Nat -> Nat) (l : List Int) : renL π (l.map intA) = l.map intA := renL_map (fun _ => rfl) l
@[simp] theorem lens_intsA (l : List Int) : (intsA l).lens ↔ l.length <= 9223372036854775807 := by simp [intsA, AV.lens, lensL_map, intA]
@[simp] theorem lens_boolsA (l : List Bool) : (boolsA l).lens ↔ l.length <= 9223372036854775807 := by simp [boolsA, AV.lens, lensL_map, boolA]
@[simp] theorem lens_strsA (l : List ByteArray) : (strsA l).lens ↔ l.length <= 9223372036854775807 := by simp [strsA, AV.lens, lensL_map, strA]
@[simp] theorem lens_intA (x : Int) : (intA x).lens := trivial
theorem Fz.plain {α : Type} {look : Nat -> Option AObj} {id n k : Nat} {f : α -> AV} {l : List α} (hlook : look id = some (.arr k (l.map f))) (hn : l.length = n) (hb : ∀ x, (f x).bd 0 = true) (hk : ∀ x, (f x).cells.length = k) : Fz look (.ref id k 0 n) (.sl k (l.map f)) :=
 .row hlook (by simpa using hn) (bdL_map hb l) fun e he => by obtain ⟨x, _, rfl⟩ := List.mem_map.1 he; exact hk x
structure Rul where
 head : Int
 body : List Int
 price : Int
 deriving DecidableEq
structure Gram where
 terms : List ByteArray
 nonterms : List ByteArray
 start : Int
 rules : List Rul
 deriving DecidableEq
def ruleA (r : Rul) : AV := .agg [intA r.head, intsA r.body, intA r.price]
def rulesA (l : List Rul) : AV := .sl 3 (l.map ruleA)
def gramA (g : Gram) : AV := .agg [strsA g.terms, strsA g.nonterms, intA g.start, rulesA g.rules]
@[simp] theorem bd_ruleA (n : Nat) (r : Rul) : (ruleA r).bd n = true := by simp [ruleA, AV.bd, bdL]
@[simp] theorem bdL_ruleA (n : Nat) (l : List Rul) : bdL n (l.map ruleA) = true := bdL_map (bd_ruleA n) l
@[simp] theorem bd_rulesA (n : Nat) (l : List Rul) : (rulesA l).bd n = true := bdL_ruleA n l
@[simp] theorem bd_gramA (n : Nat) (g : Gram) : (gramA g).bd n = true := by simp [gramA, AV.bd, bdL]
def Gram.fit (g : Gram) : Prop := g.terms.length <= 9223372036854775807 /\ g.nonterms.length <= 9223372036854775807 /\ g.rules.length <= 9223372036854775807 /\ ∀ r, r ∈ g.rules -> r.body.length <= 9223372036854775807
theorem lens_gramA (g : Gram) : (gramA g).lens ↔ g.fit := by
 simp [gramA, AV.lens, lensL, rulesA, lensL_map, ruleA, Gram.fit, intA]
instance : Inhabited Rul := ⟨⟨0, [], 0⟩⟩
section
variable {P : Program} {n M N i : Nat} {l : List (Nat × AV)} {os : List (Nat × Option AObj)} {a b : Operand} {d : Tmp} {ty : TypeId} {pos : String} {af : Array Edge} {ops : Array Oper} {rest : List Oper} {KK : List Rec -> St -> Prop} {K : St -> Prop} {rs : List Rec}
end
end Go.Lg
