/-
  Part 7 of the proof of GrammarparserParentheses: the logic over the model, the functions' contracts and the plain laws.
-/
import Derived.Test.YtpemjdkcabefnaaKq6
import Derived.Test.YtpemjdkcabefnaaChecked

set_option linter.unusedSimpArgs false
set_option linter.unusedVariables false
set_option linter.unusedSectionVars false
set_option linter.defProp false

namespace Go.Lg
open Go.Proofs
section
theorem mixed : Try.prog.follows .mixedOrders = true := by kernel_rfl
theorem ti3 : tinfo Try.prog 3 = some ⟨false, 1, 8, [.int .i64 0], none, [], some .i64, false, .int⟩ := by kernel_rfl
instance tc3 : TIc Try.prog 3 ⟨false, 1, 8, [.int .i64 0], none, [], some .i64, false, .int⟩ := ⟨ti3⟩
instance ts3 : TSz Try.prog 3 1 8 := ⟨fun ti h => by rw [ti3] at h; injection h with h; rw [← h], fun ti h => by rw [ti3] at h; injection h with h; rw [← h]⟩
theorem ti4 : tinfo Try.prog 4 = some ⟨false, 1, 1, [.bool false], none, [], none, false, .other⟩ := by kernel_rfl
instance tc4 : TIc Try.prog 4 ⟨false, 1, 1, [.bool false], none, [], none, false, .other⟩ := ⟨ti4⟩
theorem ti5 : tinfo Try.prog 5 = some ⟨false, 1, 1, [.int .u8 0], none, [], some .u8, false, .int⟩ := by kernel_rfl
instance tc5 : TIc Try.prog 5 ⟨false, 1, 1, [.int .u8 0], none, [], some .u8, false, .int⟩ := ⟨ti5⟩
theorem ti9 : tinfo Try.prog 9 = some ⟨false, 1, 16, [.string ⟨#[]⟩], none, [], none, false, .string⟩ := by kernel_rfl
instance tc9 : TIc Try.prog 9 ⟨false, 1, 16, [.string ⟨#[]⟩], none, [], none, false, .string⟩ := ⟨ti9⟩
theorem ti23 : tinfo Try.prog 23 = some ⟨false, 1, 24, [.slice none 0 0], some 64, [], none, false, .slice⟩ := by kernel_rfl
instance tc23 : TIc Try.prog 23 ⟨false, 1, 24, [.slice none 0 0], some 64, [], none, false, .slice⟩ := ⟨ti23⟩
theorem te23 : ∃ ti el, tinfo Try.prog 23 = some ti ∧ ti.elem = some el ∧ ti.sh = .slice ∧ tinfo Try.prog el = some ⟨true, 2, 32, [.int .i64 0, .slice none 0 0], none, [(0, 1), (1, 1)], none, true, .other⟩ ∧ TI.size ⟨true, 2, 32, [.int .i64 0, .slice none 0 0], none, [(0, 1), (1, 1)], none, true, .other⟩ = 2 ∧ TI.bytes ⟨true, 2, 32, [.int .i64 0, .slice none 0 0], none, [(0, 1), (1, 1)], none, true, .other⟩ = 32 := ⟨_, _, ti23, rfl, rfl, (by kernel_rfl : tinfo Try.prog 64 = some ⟨true, 2, 32, [.int .i64 0, .slice none 0 0], none, [(0, 1), (1, 1)], none, true, .other⟩), rfl, rfl⟩
instance tel23 : TEl Try.prog 23 ⟨true, 2, 32, [.int .i64 0, .slice none 0 0], none, [(0, 1), (1, 1)], none, true, .other⟩ 2 32 := ⟨te23⟩
theorem ti24 : tinfo Try.prog 24 = some ⟨false, 1, 24, [.slice none 0 0], some 44, [], none, false, .slice⟩ := by kernel_rfl
instance tc24 : TIc Try.prog 24 ⟨false, 1, 24, [.slice none 0 0], some 44, [], none, false, .slice⟩ := ⟨ti24⟩
theorem te24 : ∃ ti el, tinfo Try.prog 24 = some ti ∧ ti.elem = some el ∧ ti.sh = .slice ∧ tinfo Try.prog el = some ⟨true, 2, 40, [.string ⟨#[]⟩, .slice none 0 0], none, [(0, 1), (1, 1)], none, true, .other⟩ ∧ TI.size ⟨true, 2, 40, [.string ⟨#[]⟩, .slice none 0 0], none, [(0, 1), (1, 1)], none, true, .other⟩ = 2 ∧ TI.bytes ⟨true, 2, 40, [.string ⟨#[]⟩, .slice none 0 0], none, [(0, 1), (1, 1)], none, true, .other⟩ = 40 := ⟨_, _, ti24, rfl, rfl, (by kernel_rfl : tinfo Try.prog 44 = some ⟨true, 2, 40, [.string ⟨#[]⟩, .slice none 0 0], none, [(0, 1), (1, 1)], none, true, .other⟩), rfl, rfl⟩
instance tel24 : TEl Try.prog 24 ⟨true, 2, 40, [.string ⟨#[]⟩, .slice none 0 0], none, [(0, 1), (1, 1)], none, true, .other⟩ 2 40 := ⟨te24⟩
theorem ti26 : tinfo Try.prog 26 = some ⟨true, 3, 64, [.string ⟨#[]⟩, .slice none 0 0, .slice none 0 0], none, [(0, 1), (1, 1), (2, 1)], none, true, .other⟩ := by kernel_rfl
instance tc26 : TIc Try.prog 26 ⟨true, 3, 64, [.string ⟨#[]⟩, .slice none 0 0, .slice none 0 0], none, [(0, 1), (1, 1), (2, 1)], none, true, .other⟩ := ⟨ti26⟩
instance ts26 : TSz Try.prog 26 3 64 := ⟨fun ti h => by rw [ti26] at h; injection h with h; rw [← h], fun ti h => by rw [ti26] at h; injection h with h; rw [← h]⟩
theorem ti27 : tinfo Try.prog 27 = some ⟨false, 1, 8, [.int .i64 0], none, [], some .i64, false, .int⟩ := by kernel_rfl
instance tc27 : TIc Try.prog 27 ⟨false, 1, 8, [.int .i64 0], none, [], some .i64, false, .int⟩ := ⟨ti27⟩
instance ts27 : TSz Try.prog 27 1 8 := ⟨fun ti h => by rw [ti27] at h; injection h with h; rw [← h], fun ti h => by rw [ti27] at h; injection h with h; rw [← h]⟩
theorem ti34 : tinfo Try.prog 34 = some ⟨false, 1, 24, [.slice none 0 0], some 9, [], none, false, .slice⟩ := by kernel_rfl
instance tc34 : TIc Try.prog 34 ⟨false, 1, 24, [.slice none 0 0], some 9, [], none, false, .slice⟩ := ⟨ti34⟩
theorem te34 : ∃ ti el, tinfo Try.prog 34 = some ti ∧ ti.elem = some el ∧ ti.sh = .slice ∧ tinfo Try.prog el = some ⟨false, 1, 16, [.string ⟨#[]⟩], none, [], none, false, .string⟩ ∧ TI.size ⟨false, 1, 16, [.string ⟨#[]⟩], none, [], none, false, .string⟩ = 1 ∧ TI.bytes ⟨false, 1, 16, [.string ⟨#[]⟩], none, [], none, false, .string⟩ = 16 := ⟨_, _, ti34, rfl, rfl, (by kernel_rfl : tinfo Try.prog 9 = some ⟨false, 1, 16, [.string ⟨#[]⟩], none, [], none, false, .string⟩), rfl, rfl⟩
instance tel34 : TEl Try.prog 34 ⟨false, 1, 16, [.string ⟨#[]⟩], none, [], none, false, .string⟩ 1 16 := ⟨te34⟩
theorem ti42 : tinfo Try.prog 42 = some ⟨false, 1, 24, [.slice none 0 0], some 49, [], none, false, .slice⟩ := by kernel_rfl
instance tc42 : TIc Try.prog 42 ⟨false, 1, 24, [.slice none 0 0], some 49, [], none, false, .slice⟩ := ⟨ti42⟩
theorem te42 : ∃ ti el, tinfo Try.prog 42 = some ti ∧ ti.elem = some el ∧ ti.sh = .slice ∧ tinfo Try.prog el = some ⟨true, 4, 56, [.int .i64 0, .string ⟨#[]⟩, .slice none 0 0, .int .i64 0], none, [(0, 3), (3, 1)], none, true, .other⟩ ∧ TI.size ⟨true, 4, 56, [.int .i64 0, .string ⟨#[]⟩, .slice none 0 0, .int .i64 0], none, [(0, 3), (3, 1)], none, true, .other⟩ = 4 ∧ TI.bytes ⟨true, 4, 56, [.int .i64 0, .string ⟨#[]⟩, .slice none 0 0, .int .i64 0], none, [(0, 3), (3, 1)], none, true, .other⟩ = 56 := ⟨_, _, ti42, rfl, rfl, (by kernel_rfl : tinfo Try.prog 49 = some ⟨true, 4, 56, [.int .i64 0, .string ⟨#[]⟩, .slice none 0 0, .int .i64 0], none, [(0, 3), (3, 1)], none, true, .other⟩), rfl, rfl⟩
instance tel42 : TEl Try.prog 42 ⟨true, 4, 56, [.int .i64 0, .string ⟨#[]⟩, .slice none 0 0, .int .i64 0], none, [(0, 3), (3, 1)], none, true, .other⟩ 4 56 := ⟨te42⟩
theorem ti44 : tinfo Try.prog 44 = some ⟨true, 2, 40, [.string ⟨#[]⟩, .slice none 0 0], none, [(0, 1), (1, 1)], none, true, .other⟩ := by kernel_rfl
instance tc44 : TIc Try.prog 44 ⟨true, 2, 40, [.string ⟨#[]⟩, .slice none 0 0], none, [(0, 1), (1, 1)], none, true, .other⟩ := ⟨ti44⟩
instance ts44 : TSz Try.prog 44 2 40 := ⟨fun ti h => by rw [ti44] at h; injection h with h; rw [← h], fun ti h => by rw [ti44] at h; injection h with h; rw [← h]⟩
theorem ti45 : tinfo Try.prog 45 = some ⟨false, 1, 24, [.slice none 0 0], some 47, [], none, false, .slice⟩ := by kernel_rfl
instance tc45 : TIc Try.prog 45 ⟨false, 1, 24, [.slice none 0 0], some 47, [], none, false, .slice⟩ := ⟨ti45⟩
theorem te45 : ∃ ti el, tinfo Try.prog 45 = some ti ∧ ti.elem = some el ∧ ti.sh = .slice ∧ tinfo Try.prog el = some ⟨true, 3, 48, [.int .i64 0, .string ⟨#[]⟩, .slice none 0 0], none, [(0, 1), (1, 1), (2, 1)], none, true, .other⟩ ∧ TI.size ⟨true, 3, 48, [.int .i64 0, .string ⟨#[]⟩, .slice none 0 0], none, [(0, 1), (1, 1), (2, 1)], none, true, .other⟩ = 3 ∧ TI.bytes ⟨true, 3, 48, [.int .i64 0, .string ⟨#[]⟩, .slice none 0 0], none, [(0, 1), (1, 1), (2, 1)], none, true, .other⟩ = 48 := ⟨_, _, ti45, rfl, rfl, (by kernel_rfl : tinfo Try.prog 47 = some ⟨true, 3, 48, [.int .i64 0, .string ⟨#[]⟩, .slice none 0 0], none, [(0, 1), (1, 1), (2, 1)], none, true, .other⟩), rfl, rfl⟩
instance tel45 : TEl Try.prog 45 ⟨true, 3, 48, [.int .i64 0, .string ⟨#[]⟩, .slice none 0 0], none, [(0, 1), (1, 1), (2, 1)], none, true, .other⟩ 3 48 := ⟨te45⟩
theorem ti47 : tinfo Try.prog 47 = some ⟨true, 3, 48, [.int .i64 0, .string ⟨#[]⟩, .slice none 0 0], none, [(0, 1), (1, 1), (2, 1)], none, true, .other⟩ := by kernel_rfl
instance tc47 : TIc Try.prog 47 ⟨true, 3, 48, [.int .i64 0, .string ⟨#[]⟩, .slice none 0 0], none, [(0, 1), (1, 1), (2, 1)], none, true, .other⟩ := ⟨ti47⟩
instance ts47 : TSz Try.prog 47 3 48 := ⟨fun ti h => by rw [ti47] at h; injection h with h; rw [← h], fun ti h => by rw [ti47] at h; injection h with h; rw [← h]⟩
theorem ti49 : tinfo Try.prog 49 = some ⟨true, 4, 56, [.int .i64 0, .string ⟨#[]⟩, .slice none 0 0, .int .i64 0], none, [(0, 3), (3, 1)], none, true, .other⟩ := by kernel_rfl
instance tc49 : TIc Try.prog 49 ⟨true, 4, 56, [.int .i64 0, .string ⟨#[]⟩, .slice none 0 0, .int .i64 0], none, [(0, 3), (3, 1)], none, true, .other⟩ := ⟨ti49⟩
instance ts49 : TSz Try.prog 49 4 56 := ⟨fun ti h => by rw [ti49] at h; injection h with h; rw [← h], fun ti h => by rw [ti49] at h; injection h with h; rw [← h]⟩
theorem ti50 : tinfo Try.prog 50 = some ⟨false, 1, 8, [.int .i64 0], none, [], some .i64, false, .int⟩ := by kernel_rfl
instance tc50 : TIc Try.prog 50 ⟨false, 1, 8, [.int .i64 0], none, [], some .i64, false, .int⟩ := ⟨ti50⟩
theorem ti52 : tinfo Try.prog 52 = some ⟨false, 1, 24, [.slice none 0 0], some 79, [], none, false, .slice⟩ := by kernel_rfl
instance tc52 : TIc Try.prog 52 ⟨false, 1, 24, [.slice none 0 0], some 79, [], none, false, .slice⟩ := ⟨ti52⟩
theorem te52 : ∃ ti el, tinfo Try.prog 52 = some ti ∧ ti.elem = some el ∧ ti.sh = .slice ∧ tinfo Try.prog el = some ⟨true, 4, 40, [.int .i64 0, .string ⟨#[]⟩, .bool false, .int .i64 0], none, [(0, 1), (1, 1), (2, 1), (3, 1)], none, true, .other⟩ ∧ TI.size ⟨true, 4, 40, [.int .i64 0, .string ⟨#[]⟩, .bool false, .int .i64 0], none, [(0, 1), (1, 1), (2, 1), (3, 1)], none, true, .other⟩ = 4 ∧ TI.bytes ⟨true, 4, 40, [.int .i64 0, .string ⟨#[]⟩, .bool false, .int .i64 0], none, [(0, 1), (1, 1), (2, 1), (3, 1)], none, true, .other⟩ = 40 := ⟨_, _, ti52, rfl, rfl, (by kernel_rfl : tinfo Try.prog 79 = some ⟨true, 4, 40, [.int .i64 0, .string ⟨#[]⟩, .bool false, .int .i64 0], none, [(0, 1), (1, 1), (2, 1), (3, 1)], none, true, .other⟩), rfl, rfl⟩
instance tel52 : TEl Try.prog 52 ⟨true, 4, 40, [.int .i64 0, .string ⟨#[]⟩, .bool false, .int .i64 0], none, [(0, 1), (1, 1), (2, 1), (3, 1)], none, true, .other⟩ 4 40 := ⟨te52⟩
theorem ti55 : tinfo Try.prog 55 = some ⟨true, 2, 32, [.slice none 0 0, .int .i64 0], none, [(0, 1), (1, 1)], none, true, .other⟩ := by kernel_rfl
instance tc55 : TIc Try.prog 55 ⟨true, 2, 32, [.slice none 0 0, .int .i64 0], none, [(0, 1), (1, 1)], none, true, .other⟩ := ⟨ti55⟩
instance ts55 : TSz Try.prog 55 2 32 := ⟨fun ti h => by rw [ti55] at h; injection h with h; rw [← h], fun ti h => by rw [ti55] at h; injection h with h; rw [← h]⟩
theorem ti62 : tinfo Try.prog 62 = some ⟨true, 4, 40, [.string ⟨#[]⟩, .int .i64 0, .int .i64 0, .bool false], none, [(0, 1), (1, 1), (2, 1), (3, 1)], none, true, .other⟩ := by kernel_rfl
instance tc62 : TIc Try.prog 62 ⟨true, 4, 40, [.string ⟨#[]⟩, .int .i64 0, .int .i64 0, .bool false], none, [(0, 1), (1, 1), (2, 1), (3, 1)], none, true, .other⟩ := ⟨ti62⟩
instance ts62 : TSz Try.prog 62 4 40 := ⟨fun ti h => by rw [ti62] at h; injection h with h; rw [← h], fun ti h => by rw [ti62] at h; injection h with h; rw [← h]⟩
theorem ti64 : tinfo Try.prog 64 = some ⟨true, 2, 32, [.int .i64 0, .slice none 0 0], none, [(0, 1), (1, 1)], none, true, .other⟩ := by kernel_rfl
instance tc64 : TIc Try.prog 64 ⟨true, 2, 32, [.int .i64 0, .slice none 0 0], none, [(0, 1), (1, 1)], none, true, .other⟩ := ⟨ti64⟩
instance ts64 : TSz Try.prog 64 2 32 := ⟨fun ti h => by rw [ti64] at h; injection h with h; rw [← h], fun ti h => by rw [ti64] at h; injection h with h; rw [← h]⟩
theorem ti79 : tinfo Try.prog 79 = some ⟨true, 4, 40, [.int .i64 0, .string ⟨#[]⟩, .bool false, .int .i64 0], none, [(0, 1), (1, 1), (2, 1), (3, 1)], none, true, .other⟩ := by kernel_rfl
instance tc79 : TIc Try.prog 79 ⟨true, 4, 40, [.int .i64 0, .string ⟨#[]⟩, .bool false, .int .i64 0], none, [(0, 1), (1, 1), (2, 1), (3, 1)], none, true, .other⟩ := ⟨ti79⟩
instance tfd79_0 : TFd Try.prog 79 0 0 ⟨false, 1, 8, [.int .i64 0], none, [], some .i64, false, .int⟩ := ⟨by kernel_rfl⟩
instance tfd79_1 : TFd Try.prog 79 1 1 ⟨false, 1, 16, [.string ⟨#[]⟩], none, [], none, false, .string⟩ := ⟨by kernel_rfl⟩
instance tfd79_3 : TFd Try.prog 79 3 3 ⟨false, 1, 8, [.int .i64 0], none, [], some .i64, false, .int⟩ := ⟨by kernel_rfl⟩
instance ts79 : TSz Try.prog 79 4 40 := ⟨fun ti h => by rw [ti79] at h; injection h with h; rw [← h], fun ti h => by rw [ti79] at h; injection h with h; rw [← h]⟩
theorem ti98 : tinfo Try.prog 98 = some ⟨false, 1, 24, [.slice none 0 0], some 5, [], none, false, .slice⟩ := by kernel_rfl
instance tc98 : TIc Try.prog 98 ⟨false, 1, 24, [.slice none 0 0], some 5, [], none, false, .slice⟩ := ⟨ti98⟩
theorem te98 : ∃ ti el, tinfo Try.prog 98 = some ti ∧ ti.elem = some el ∧ ti.sh = .slice ∧ tinfo Try.prog el = some ⟨false, 1, 1, [.int .u8 0], none, [], some .u8, false, .int⟩ ∧ TI.size ⟨false, 1, 1, [.int .u8 0], none, [], some .u8, false, .int⟩ = 1 ∧ TI.bytes ⟨false, 1, 1, [.int .u8 0], none, [], some .u8, false, .int⟩ = 1 := ⟨_, _, ti98, rfl, rfl, (by kernel_rfl : tinfo Try.prog 5 = some ⟨false, 1, 1, [.int .u8 0], none, [], some .u8, false, .int⟩), rfl, rfl⟩
instance tel98 : TEl Try.prog 98 ⟨false, 1, 1, [.int .u8 0], none, [], some .u8, false, .int⟩ 1 1 := ⟨te98⟩
end
end Go.Lg

namespace Go.Lg
def intA (n : Int) : AV := .val (.int .i64 n)
def boolA (b : Bool) : AV := .val (.bool b)
def strA (s : ByteArray) : AV := .val (.string s)
def intsA (l : List Int) : AV := .sl 1 (l.map intA)
def boolsA (l : List Bool) : AV := .sl 1 (l.map boolA)
def strsA (l : List ByteArray) : AV := .sl 1 (l.map strA)
@[simp] theorem bd_intA (n : Nat) (x : Int) : (intA x).bd n = true := rfl
@[simp] theorem bd_boolA (n : Nat) (x : Bool) : (boolA x).bd n = true := rfl
@[simp] theorem bd_strA (n : Nat) (x : ByteArray) : (strA x).bd n = true := rfl
@[simp] theorem bd_intsA (n : Nat) (l : List Int) : (intsA l).bd n = true := bdL_map (fun _ => rfl) l
@[simp] theorem bd_boolsA (n : Nat) (l : List Bool) : (boolsA l).bd n = true := bdL_map (fun _ => rfl) l
@[simp] theorem bd_strsA (n : Nat) (l : List ByteArray) : (strsA l).bd n = true := bdL_map (fun _ => rfl) l
@[simp] theorem bdL_intA (n : Nat) (l : List Int) : bdL n (l.map intA) = true := bdL_map (fun _ => rfl) l
@[simp] theorem bdL_boolA (n : Nat) (l : List Bool) : bdL n (l.map boolA) = true := bdL_map (fun _ => rfl) l
@[simp] theorem bdL_strA (n : Nat) (l : List ByteArray) : bdL n (l.map strA) = true := bdL_map (fun _ => rfl) l
@[simp] theorem bdL_rep {n k : Nat} {x : AV} (h : x.bd n = true) : bdL n (List.replicate k x) = true := by
  rw [bdL_iff]; intro y hy; rw [(List.mem_replicate.1 hy).2]; exact h
@[simp] theorem bd_byteA (n : Nat) (x : UInt8) : (byteA x).bd n = true := rfl
@[simp] theorem bdL_byteA (n : Nat) (l : List UInt8) : bdL n (l.map byteA) = true := bdL_map (fun _ => rfl) l
theorem mapA_bd {κ α : Type} {kf : κ → Value} {f : α → AV} {n : Nat} (h : ∀ x, (f x).bd n = true) (m : List (κ × α)) : ∀ p, p ∈ mapA kf f m → p.2.bd n = true := by
  intro p hp
  obtain ⟨q, _, rfl⟩ := List.mem_map.1 hp
  exact h q.2
section
variable {κ α : Type} [DecidableEq κ]
end
@[simp] theorem lens_intsA (l : List Int) : (intsA l).lens ↔ l.length ≤ 9223372036854775807 := by simp [intsA, AV.lens, lensL_map, intA]
@[simp] theorem lens_boolsA (l : List Bool) : (boolsA l).lens ↔ l.length ≤ 9223372036854775807 := by simp [boolsA, AV.lens, lensL_map, boolA]
@[simp] theorem lens_strsA (l : List ByteArray) : (strsA l).lens ↔ l.length ≤ 9223372036854775807 := by simp [strsA, AV.lens, lensL_map, strA]
@[simp] theorem lens_intA (x : Int) : (intA x).lens := trivial
theorem Fz.plain {α : Type} {look : Nat → Option AObj} {id n k : Nat} {f : α → AV} {l : List α} (hlook : look id = some (.arr k (l.map f))) (hn : l.length = n) (hb : ∀ x, (f x).bd 0 = true) (hk : ∀ x, (f x).cells.length = k) : Fz look (.ref id k 0 n) (.sl k (l.map f)) :=
  .row hlook (by simpa using hn) (bdL_map hb l) fun e he => by obtain ⟨x, _, rfl⟩ := List.mem_map.1 he; exact hk x
end Go.Lg

namespace Go.Lg
end Go.Lg

namespace Go.Lg
inductive GEx where
  | mk (kind : Int) (name : ByteArray) (kids : List GEx)
namespace GEx
def kind : GEx → Int | .mk k _ _ => k
def name : GEx → ByteArray | .mk _ n _ => n
def kids : GEx → List GEx | .mk _ _ l => l
theorem ind {P : GEx → Prop} (h : ∀ e : GEx, (∀ x, x ∈ e.kids → P x) → P e) : ∀ e, P e :=
  fun e => GEx.rec (motive_1 := P) (motive_2 := fun l => ∀ x, x ∈ l → P x) (fun k n l ih => h _ ih) (fun x hx => by cases hx) (fun a l ha hl x hx => by
    rcases List.mem_cons.1 hx with rfl | hx
    · exact ha
    · exact hl x hx) e
theorem ext' {a b : GEx} (h1 : a.kind = b.kind) (h2 : a.name = b.name) (h3 : a.kids = b.kids) : a = b := by
  cases a; cases b; simp only [kind, name, kids] at h1 h2 h3; subst h1 h2 h3; rfl
end GEx
instance : Inhabited GEx := ⟨.mk 0 ByteArray.empty []⟩
mutual
def kidsL : GEx → List AV
  | .mk _ _ l => exprsL l
def exprsL : List GEx → List AV
  | [] => []
  | e :: l => .agg [intA e.kind, strA e.name, .sl 3 (kidsL e)] :: exprsL l
end
def exprA (e : GEx) : AV := .agg [intA e.kind, strA e.name, .sl 3 (kidsL e)]
theorem exprsL_map : ∀ l : List GEx, exprsL l = l.map exprA
  | [] => rfl
  | e :: l => by rw [exprsL, exprsL_map l]; rfl
theorem kidsL_map (e : GEx) : kidsL e = e.kids.map exprA := by cases e; rw [kidsL, exprsL_map]; rfl
@[simp] theorem kidsL_len (e : GEx) : (kidsL e).length = e.kids.length := by rw [kidsL_map, List.length_map]
theorem exprA_eq (e : GEx) : exprA e = .agg [intA e.kind, strA e.name, .sl 3 (e.kids.map exprA)] := by rw [exprA, kidsL_map]
@[simp] theorem bd_exprA (n : Nat) (e : GEx) : (exprA e).bd n = true := by
  induction e using GEx.ind with
  | h e ih =>
    rw [exprA_eq]
    have : bdL n (e.kids.map exprA) = true := by
      rw [bdL_iff]
      intro x hx
      obtain ⟨y, hy, rfl⟩ := List.mem_map.1 hx
      exact ih y hy
    simp [AV.bd, bdL, this]
@[simp] theorem bdL_exprs (n : Nat) (l : List GEx) : bdL n (l.map exprA) = true := bdL_map (bd_exprA n) l
@[simp] theorem bdL_kidsL (n : Nat) (e : GEx) : bdL n (kidsL e) = true := by rw [kidsL_map]; exact bdL_exprs n _
structure GAl where
  body : GEx
  price : Int
structure GRu where
  name : ByteArray
  alts : List GAl
structure GLe where
  assoc : Int
  tokens : List ByteArray
structure GFi where
  start : ByteArray
  levels : List GLe
  rules : List GRu
instance : Inhabited GAl := ⟨⟨default, 0⟩⟩
instance : Inhabited GRu := ⟨⟨ByteArray.empty, []⟩⟩
instance : Inhabited GLe := ⟨⟨0, []⟩⟩
def altA (a : GAl) : AV := .agg [intA a.body.kind, strA a.body.name, .sl 3 (kidsL a.body), intA a.price]
def altsA (l : List GAl) : AV := .sl 4 (l.map altA)
def gruleA (r : GRu) : AV := .agg [strA r.name, altsA r.alts]
def grulesA (l : List GRu) : AV := .sl 2 (l.map gruleA)
def levelA (l : GLe) : AV := .agg [intA l.assoc, strsA l.tokens]
def levelsA (l : List GLe) : AV := .sl 2 (l.map levelA)
def fileA (f : GFi) : AV := .agg [strA f.start, levelsA f.levels, grulesA f.rules]
@[simp] theorem bd_altA (n : Nat) (a : GAl) : (altA a).bd n = true := by simp [altA, AV.bd, bdL]
@[simp] theorem bdL_altA (n : Nat) (l : List GAl) : bdL n (l.map altA) = true := bdL_map (bd_altA n) l
@[simp] theorem bd_altsA (n : Nat) (l : List GAl) : (altsA l).bd n = true := bdL_altA n l
@[simp] theorem bd_gruleA (n : Nat) (r : GRu) : (gruleA r).bd n = true := by simp [gruleA, AV.bd, bdL]
@[simp] theorem bdL_gruleA (n : Nat) (l : List GRu) : bdL n (l.map gruleA) = true := bdL_map (bd_gruleA n) l
@[simp] theorem bd_grulesA (n : Nat) (l : List GRu) : (grulesA l).bd n = true := bdL_gruleA n l
@[simp] theorem bd_levelA (n : Nat) (l : GLe) : (levelA l).bd n = true := by simp [levelA, AV.bd, bdL]
@[simp] theorem bdL_levelA (n : Nat) (l : List GLe) : bdL n (l.map levelA) = true := bdL_map (bd_levelA n) l
@[simp] theorem bd_levelsA (n : Nat) (l : List GLe) : (levelsA l).bd n = true := bdL_levelA n l
@[simp] theorem bd_fileA (n : Nat) (f : GFi) : (fileA f).bd n = true := by simp [fileA, AV.bd, bdL]
end Go.Lg

namespace Go.Lg
structure Rul where
  head : Int
  body : List Int
  price : Int
  deriving DecidableEq
structure Gram where
  terms : List ByteArray
  nonterms : List ByteArray
  start : Int
  rules : List Rul
  deriving DecidableEq
def ruleA (r : Rul) : AV := .agg [intA r.head, intsA r.body, intA r.price]
def rulesA (l : List Rul) : AV := .sl 3 (l.map ruleA)
def gramA (g : Gram) : AV := .agg [strsA g.terms, strsA g.nonterms, intA g.start, rulesA g.rules]
@[simp] theorem bd_ruleA (n : Nat) (r : Rul) : (ruleA r).bd n = true := by simp [ruleA, AV.bd, bdL]
@[simp] theorem bdL_ruleA (n : Nat) (l : List Rul) : bdL n (l.map ruleA) = true := bdL_map (bd_ruleA n) l
@[simp] theorem bd_rulesA (n : Nat) (l : List Rul) : (rulesA l).bd n = true := bdL_ruleA n l
@[simp] theorem bd_gramA (n : Nat) (g : Gram) : (gramA g).bd n = true := by simp [gramA, AV.bd, bdL]
theorem renL_rules (π : Nat → Nat) (l : List Rul) : renL π (l.map ruleA) = l.map ruleA := renL_map (bd_ruleA 0) l
def Gram.fit (g : Gram) : Prop := g.terms.length ≤ 9223372036854775807 ∧ g.nonterms.length ≤ 9223372036854775807 ∧ g.rules.length ≤ 9223372036854775807 ∧ ∀ r, r ∈ g.rules → r.body.length ≤ 9223372036854775807
section
variable {P : Program} {n M N i : Nat} {l : List (Nat × AV)} {os : List (Nat × Option AObj)} {a b : Operand} {d : Tmp} {ty : TypeId} {pos : String} {af : Array Edge} {ops : Array Oper} {rest : List Oper} {KK : List Rec → St → Prop} {K : St → Prop} {rs : List Rec}
end
end Go.Lg
