/-
  Part 9 of the proof of BinarizeMismatch: the logic over the model, the functions' contracts and the plain laws.
-/
import Derived.Test.YtdgibngbooghfabNm8
import Derived.Test.YtdgibngbooghfabChecked

set_option linter.unusedSimpArgs false
set_option linter.unusedVariables false
set_option linter.unusedSectionVars false
set_option linter.defProp false

namespace Go.Lg
open Go.Proofs
section
theorem mixed : Try.prog.follows .mixedOrders = true := by kernel_rfl
theorem ti3 : tinfo Try.prog 3 = some ⟨false, 1, 8, [.int .i64 0], none, [], some .i64, false, .int⟩ := by kernel_rfl
instance tc3 : TIc Try.prog 3 ⟨false, 1, 8, [.int .i64 0], none, [], some .i64, false, .int⟩ := ⟨ti3⟩
instance ts3 : TSz Try.prog 3 1 8 := ⟨fun ti h => by rw [ti3] at h; injection h with h; rw [← h], fun ti h => by rw [ti3] at h; injection h with h; rw [← h]⟩
theorem ti5 : tinfo Try.prog 5 = some ⟨false, 1, 1, [.int .u8 0], none, [], some .u8, false, .int⟩ := by kernel_rfl
instance tc5 : TIc Try.prog 5 ⟨false, 1, 1, [.int .u8 0], none, [], some .u8, false, .int⟩ := ⟨ti5⟩
theorem ti9 : tinfo Try.prog 9 = some ⟨false, 1, 16, [.string ⟨#[]⟩], none, [], none, false, .string⟩ := by kernel_rfl
instance tc9 : TIc Try.prog 9 ⟨false, 1, 16, [.string ⟨#[]⟩], none, [], none, false, .string⟩ := ⟨ti9⟩
theorem ti22 : tinfo Try.prog 22 = some ⟨false, 1, 24, [.slice none 0 0], some 9, [], none, false, .slice⟩ := by kernel_rfl
instance tc22 : TIc Try.prog 22 ⟨false, 1, 24, [.slice none 0 0], some 9, [], none, false, .slice⟩ := ⟨ti22⟩
theorem te22 : ∃ ti el, tinfo Try.prog 22 = some ti ∧ ti.elem = some el ∧ ti.sh = .slice ∧ tinfo Try.prog el = some ⟨false, 1, 16, [.string ⟨#[]⟩], none, [], none, false, .string⟩ ∧ TI.size ⟨false, 1, 16, [.string ⟨#[]⟩], none, [], none, false, .string⟩ = 1 ∧ TI.bytes ⟨false, 1, 16, [.string ⟨#[]⟩], none, [], none, false, .string⟩ = 16 := ⟨_, _, ti22, rfl, rfl, (by kernel_rfl : tinfo Try.prog 9 = some ⟨false, 1, 16, [.string ⟨#[]⟩], none, [], none, false, .string⟩), rfl, rfl⟩
instance tel22 : TEl Try.prog 22 ⟨false, 1, 16, [.string ⟨#[]⟩], none, [], none, false, .string⟩ 1 16 := ⟨te22⟩
theorem ti23 : tinfo Try.prog 23 = some ⟨false, 1, 24, [.slice none 0 0], some 67, [], none, false, .slice⟩ := by kernel_rfl
instance tc23 : TIc Try.prog 23 ⟨false, 1, 24, [.slice none 0 0], some 67, [], none, false, .slice⟩ := ⟨ti23⟩
theorem te23 : ∃ ti el, tinfo Try.prog 23 = some ti ∧ ti.elem = some el ∧ ti.sh = .slice ∧ tinfo Try.prog el = some ⟨true, 3, 40, [.int .i64 0, .slice none 0 0, .int .i64 0], none, [(0, 1), (1, 1), (2, 1)], none, true, .other⟩ ∧ TI.size ⟨true, 3, 40, [.int .i64 0, .slice none 0 0, .int .i64 0], none, [(0, 1), (1, 1), (2, 1)], none, true, .other⟩ = 3 ∧ TI.bytes ⟨true, 3, 40, [.int .i64 0, .slice none 0 0, .int .i64 0], none, [(0, 1), (1, 1), (2, 1)], none, true, .other⟩ = 40 := ⟨_, _, ti23, rfl, rfl, (by kernel_rfl : tinfo Try.prog 67 = some ⟨true, 3, 40, [.int .i64 0, .slice none 0 0, .int .i64 0], none, [(0, 1), (1, 1), (2, 1)], none, true, .other⟩), rfl, rfl⟩
instance tel23 : TEl Try.prog 23 ⟨true, 3, 40, [.int .i64 0, .slice none 0 0, .int .i64 0], none, [(0, 1), (1, 1), (2, 1)], none, true, .other⟩ 3 40 := ⟨te23⟩
theorem ti25 : tinfo Try.prog 25 = some ⟨true, 4, 80, [.slice none 0 0, .slice none 0 0, .int .i64 0, .slice none 0 0], none, [(0, 1), (1, 1), (2, 1), (3, 1)], none, true, .other⟩ := by kernel_rfl
instance tc25 : TIc Try.prog 25 ⟨true, 4, 80, [.slice none 0 0, .slice none 0 0, .int .i64 0, .slice none 0 0], none, [(0, 1), (1, 1), (2, 1), (3, 1)], none, true, .other⟩ := ⟨ti25⟩
instance ts25 : TSz Try.prog 25 4 80 := ⟨fun ti h => by rw [ti25] at h; injection h with h; rw [← h], fun ti h => by rw [ti25] at h; injection h with h; rw [← h]⟩
theorem ti26 : tinfo Try.prog 26 = some ⟨false, 1, 24, [.slice none 0 0], some 28, [], none, false, .slice⟩ := by kernel_rfl
instance tc26 : TIc Try.prog 26 ⟨false, 1, 24, [.slice none 0 0], some 28, [], none, false, .slice⟩ := ⟨ti26⟩
theorem te26 : ∃ ti el, tinfo Try.prog 26 = some ti ∧ ti.elem = some el ∧ ti.sh = .slice ∧ tinfo Try.prog el = some ⟨true, 3, 40, [.int .i64 0, .int .i64 0, .slice none 0 0], none, [(0, 1), (1, 1), (2, 1)], none, true, .other⟩ ∧ TI.size ⟨true, 3, 40, [.int .i64 0, .int .i64 0, .slice none 0 0], none, [(0, 1), (1, 1), (2, 1)], none, true, .other⟩ = 3 ∧ TI.bytes ⟨true, 3, 40, [.int .i64 0, .int .i64 0, .slice none 0 0], none, [(0, 1), (1, 1), (2, 1)], none, true, .other⟩ = 40 := ⟨_, _, ti26, rfl, rfl, (by kernel_rfl : tinfo Try.prog 28 = some ⟨true, 3, 40, [.int .i64 0, .int .i64 0, .slice none 0 0], none, [(0, 1), (1, 1), (2, 1)], none, true, .other⟩), rfl, rfl⟩
instance tel26 : TEl Try.prog 26 ⟨true, 3, 40, [.int .i64 0, .int .i64 0, .slice none 0 0], none, [(0, 1), (1, 1), (2, 1)], none, true, .other⟩ 3 40 := ⟨te26⟩
theorem ti28 : tinfo Try.prog 28 = some ⟨true, 3, 40, [.int .i64 0, .int .i64 0, .slice none 0 0], none, [(0, 1), (1, 1), (2, 1)], none, true, .other⟩ := by kernel_rfl
instance tc28 : TIc Try.prog 28 ⟨true, 3, 40, [.int .i64 0, .int .i64 0, .slice none 0 0], none, [(0, 1), (1, 1), (2, 1)], none, true, .other⟩ := ⟨ti28⟩
instance ts28 : TSz Try.prog 28 3 40 := ⟨fun ti h => by rw [ti28] at h; injection h with h; rw [← h], fun ti h => by rw [ti28] at h; injection h with h; rw [← h]⟩
theorem ti29 : tinfo Try.prog 29 = some ⟨false, 1, 24, [.slice none 0 0], some 31, [], none, false, .slice⟩ := by kernel_rfl
instance tc29 : TIc Try.prog 29 ⟨false, 1, 24, [.slice none 0 0], some 31, [], none, false, .slice⟩ := ⟨ti29⟩
theorem te29 : ∃ ti el, tinfo Try.prog 29 = some ti ∧ ti.elem = some el ∧ ti.sh = .slice ∧ tinfo Try.prog el = some ⟨true, 2, 32, [.int .i64 0, .slice none 0 0], none, [(0, 1), (1, 1)], none, true, .other⟩ ∧ TI.size ⟨true, 2, 32, [.int .i64 0, .slice none 0 0], none, [(0, 1), (1, 1)], none, true, .other⟩ = 2 ∧ TI.bytes ⟨true, 2, 32, [.int .i64 0, .slice none 0 0], none, [(0, 1), (1, 1)], none, true, .other⟩ = 32 := ⟨_, _, ti29, rfl, rfl, (by kernel_rfl : tinfo Try.prog 31 = some ⟨true, 2, 32, [.int .i64 0, .slice none 0 0], none, [(0, 1), (1, 1)], none, true, .other⟩), rfl, rfl⟩
instance tel29 : TEl Try.prog 29 ⟨true, 2, 32, [.int .i64 0, .slice none 0 0], none, [(0, 1), (1, 1)], none, true, .other⟩ 2 32 := ⟨te29⟩
theorem ti31 : tinfo Try.prog 31 = some ⟨true, 2, 32, [.int .i64 0, .slice none 0 0], none, [(0, 1), (1, 1)], none, true, .other⟩ := by kernel_rfl
instance tc31 : TIc Try.prog 31 ⟨true, 2, 32, [.int .i64 0, .slice none 0 0], none, [(0, 1), (1, 1)], none, true, .other⟩ := ⟨ti31⟩
instance ts31 : TSz Try.prog 31 2 32 := ⟨fun ti h => by rw [ti31] at h; injection h with h; rw [← h], fun ti h => by rw [ti31] at h; injection h with h; rw [← h]⟩
theorem ti33 : tinfo Try.prog 33 = some ⟨true, 9, 152, [.slice none 0 0, .slice none 0 0, .int .i64 0, .slice none 0 0, .int .i64 0, .int .i64 0, .slice none 0 0, .int .i64 0, .slice none 0 0], none, [(0, 4), (4, 3), (7, 2)], none, true, .other⟩ := by kernel_rfl
instance tc33 : TIc Try.prog 33 ⟨true, 9, 152, [.slice none 0 0, .slice none 0 0, .int .i64 0, .slice none 0 0, .int .i64 0, .int .i64 0, .slice none 0 0, .int .i64 0, .slice none 0 0], none, [(0, 4), (4, 3), (7, 2)], none, true, .other⟩ := ⟨ti33⟩
instance ts33 : TSz Try.prog 33 9 152 := ⟨fun ti h => by rw [ti33] at h; injection h with h; rw [← h], fun ti h => by rw [ti33] at h; injection h with h; rw [← h]⟩
theorem ti34 : tinfo Try.prog 34 = some ⟨false, 1, 24, [.slice none 0 0], some 62, [], none, false, .slice⟩ := by kernel_rfl
instance tc34 : TIc Try.prog 34 ⟨false, 1, 24, [.slice none 0 0], some 62, [], none, false, .slice⟩ := ⟨ti34⟩
theorem te34 : ∃ ti el, tinfo Try.prog 34 = some ti ∧ ti.elem = some el ∧ ti.sh = .slice ∧ tinfo Try.prog el = some ⟨true, 6, 48, [.int .i64 0, .int .i64 0, .int .i64 0, .int .i64 0, .int .i64 0, .int .i64 0], none, [(0, 1), (1, 1), (2, 1), (3, 1), (4, 1), (5, 1)], none, true, .other⟩ ∧ TI.size ⟨true, 6, 48, [.int .i64 0, .int .i64 0, .int .i64 0, .int .i64 0, .int .i64 0, .int .i64 0], none, [(0, 1), (1, 1), (2, 1), (3, 1), (4, 1), (5, 1)], none, true, .other⟩ = 6 ∧ TI.bytes ⟨true, 6, 48, [.int .i64 0, .int .i64 0, .int .i64 0, .int .i64 0, .int .i64 0, .int .i64 0], none, [(0, 1), (1, 1), (2, 1), (3, 1), (4, 1), (5, 1)], none, true, .other⟩ = 48 := ⟨_, _, ti34, rfl, rfl, (by kernel_rfl : tinfo Try.prog 62 = some ⟨true, 6, 48, [.int .i64 0, .int .i64 0, .int .i64 0, .int .i64 0, .int .i64 0, .int .i64 0], none, [(0, 1), (1, 1), (2, 1), (3, 1), (4, 1), (5, 1)], none, true, .other⟩), rfl, rfl⟩
instance tel34 : TEl Try.prog 34 ⟨true, 6, 48, [.int .i64 0, .int .i64 0, .int .i64 0, .int .i64 0, .int .i64 0, .int .i64 0], none, [(0, 1), (1, 1), (2, 1), (3, 1), (4, 1), (5, 1)], none, true, .other⟩ 6 48 := ⟨te34⟩
theorem ti36 : tinfo Try.prog 36 = some ⟨true, 4, 48, [.int .i64 0, .int .i64 0, .int .i64 0, .slice none 0 0], none, [(0, 1), (1, 1), (2, 1), (3, 1)], none, true, .other⟩ := by kernel_rfl
instance tc36 : TIc Try.prog 36 ⟨true, 4, 48, [.int .i64 0, .int .i64 0, .int .i64 0, .slice none 0 0], none, [(0, 1), (1, 1), (2, 1), (3, 1)], none, true, .other⟩ := ⟨ti36⟩
instance ts36 : TSz Try.prog 36 4 48 := ⟨fun ti h => by rw [ti36] at h; injection h with h; rw [← h], fun ti h => by rw [ti36] at h; injection h with h; rw [← h]⟩
theorem ti55 : tinfo Try.prog 55 = some ⟨false, 1, 24, [.slice none 0 0], some 3, [], none, false, .slice⟩ := by kernel_rfl
instance tc55 : TIc Try.prog 55 ⟨false, 1, 24, [.slice none 0 0], some 3, [], none, false, .slice⟩ := ⟨ti55⟩
theorem te55 : ∃ ti el, tinfo Try.prog 55 = some ti ∧ ti.elem = some el ∧ ti.sh = .slice ∧ tinfo Try.prog el = some ⟨false, 1, 8, [.int .i64 0], none, [], some .i64, false, .int⟩ ∧ TI.size ⟨false, 1, 8, [.int .i64 0], none, [], some .i64, false, .int⟩ = 1 ∧ TI.bytes ⟨false, 1, 8, [.int .i64 0], none, [], some .i64, false, .int⟩ = 8 := ⟨_, _, ti55, rfl, rfl, (by kernel_rfl : tinfo Try.prog 3 = some ⟨false, 1, 8, [.int .i64 0], none, [], some .i64, false, .int⟩), rfl, rfl⟩
instance tel55 : TEl Try.prog 55 ⟨false, 1, 8, [.int .i64 0], none, [], some .i64, false, .int⟩ 1 8 := ⟨te55⟩
theorem ti62 : tinfo Try.prog 62 = some ⟨true, 6, 48, [.int .i64 0, .int .i64 0, .int .i64 0, .int .i64 0, .int .i64 0, .int .i64 0], none, [(0, 1), (1, 1), (2, 1), (3, 1), (4, 1), (5, 1)], none, true, .other⟩ := by kernel_rfl
instance tc62 : TIc Try.prog 62 ⟨true, 6, 48, [.int .i64 0, .int .i64 0, .int .i64 0, .int .i64 0, .int .i64 0, .int .i64 0], none, [(0, 1), (1, 1), (2, 1), (3, 1), (4, 1), (5, 1)], none, true, .other⟩ := ⟨ti62⟩
instance ts62 : TSz Try.prog 62 6 48 := ⟨fun ti h => by rw [ti62] at h; injection h with h; rw [← h], fun ti h => by rw [ti62] at h; injection h with h; rw [← h]⟩
theorem ti67 : tinfo Try.prog 67 = some ⟨true, 3, 40, [.int .i64 0, .slice none 0 0, .int .i64 0], none, [(0, 1), (1, 1), (2, 1)], none, true, .other⟩ := by kernel_rfl
instance tc67 : TIc Try.prog 67 ⟨true, 3, 40, [.int .i64 0, .slice none 0 0, .int .i64 0], none, [(0, 1), (1, 1), (2, 1)], none, true, .other⟩ := ⟨ti67⟩
instance ts67 : TSz Try.prog 67 3 40 := ⟨fun ti h => by rw [ti67] at h; injection h with h; rw [← h], fun ti h => by rw [ti67] at h; injection h with h; rw [← h]⟩
theorem ti69 : tinfo Try.prog 69 = some ⟨false, 1, 8, [.pointer none], none, [], none, false, .other⟩ := by kernel_rfl
instance tc69 : TIc Try.prog 69 ⟨false, 1, 8, [.pointer none], none, [], none, false, .other⟩ := ⟨ti69⟩
instance ts69 : TSz Try.prog 69 1 8 := ⟨fun ti h => by rw [ti69] at h; injection h with h; rw [← h], fun ti h => by rw [ti69] at h; injection h with h; rw [← h]⟩
theorem ti75 : tinfo Try.prog 75 = some ⟨false, 1, 8, [.map none], none, [], none, false, .map⟩ := by kernel_rfl
instance tc75 : TIc Try.prog 75 ⟨false, 1, 8, [.map none], none, [], none, false, .map⟩ := ⟨ti75⟩
theorem ti77 : tinfo Try.prog 77 = some ⟨true, 2, 16, [.map none, .int .i64 0], none, [(0, 1), (1, 1)], none, true, .other⟩ := by kernel_rfl
instance tc77 : TIc Try.prog 77 ⟨true, 2, 16, [.map none, .int .i64 0], none, [(0, 1), (1, 1)], none, true, .other⟩ := ⟨ti77⟩
instance ts77 : TSz Try.prog 77 2 16 := ⟨fun ti h => by rw [ti77] at h; injection h with h; rw [← h], fun ti h => by rw [ti77] at h; injection h with h; rw [← h]⟩
theorem ti98 : tinfo Try.prog 98 = some ⟨false, 1, 24, [.slice none 0 0], some 22, [], none, false, .slice⟩ := by kernel_rfl
instance tc98 : TIc Try.prog 98 ⟨false, 1, 24, [.slice none 0 0], some 22, [], none, false, .slice⟩ := ⟨ti98⟩
theorem te98 : ∃ ti el, tinfo Try.prog 98 = some ti ∧ ti.elem = some el ∧ ti.sh = .slice ∧ tinfo Try.prog el = some ⟨false, 1, 24, [.slice none 0 0], some 9, [], none, false, .slice⟩ ∧ TI.size ⟨false, 1, 24, [.slice none 0 0], some 9, [], none, false, .slice⟩ = 1 ∧ TI.bytes ⟨false, 1, 24, [.slice none 0 0], some 9, [], none, false, .slice⟩ = 24 := ⟨_, _, ti98, rfl, rfl, (by kernel_rfl : tinfo Try.prog 22 = some ⟨false, 1, 24, [.slice none 0 0], some 9, [], none, false, .slice⟩), rfl, rfl⟩
instance tel98 : TEl Try.prog 98 ⟨false, 1, 24, [.slice none 0 0], some 9, [], none, false, .slice⟩ 1 24 := ⟨te98⟩
theorem ti99 : tinfo Try.prog 99 = some ⟨true, 0, 0, [], none, [], none, true, .other⟩ := by kernel_rfl
instance tc99 : TIc Try.prog 99 ⟨true, 0, 0, [], none, [], none, true, .other⟩ := ⟨ti99⟩
theorem ti106 : tinfo Try.prog 106 = some ⟨false, 1, 24, [.slice none 0 0], some 5, [], none, false, .slice⟩ := by kernel_rfl
instance tc106 : TIc Try.prog 106 ⟨false, 1, 24, [.slice none 0 0], some 5, [], none, false, .slice⟩ := ⟨ti106⟩
theorem te106 : ∃ ti el, tinfo Try.prog 106 = some ti ∧ ti.elem = some el ∧ ti.sh = .slice ∧ tinfo Try.prog el = some ⟨false, 1, 1, [.int .u8 0], none, [], some .u8, false, .int⟩ ∧ TI.size ⟨false, 1, 1, [.int .u8 0], none, [], some .u8, false, .int⟩ = 1 ∧ TI.bytes ⟨false, 1, 1, [.int .u8 0], none, [], some .u8, false, .int⟩ = 1 := ⟨_, _, ti106, rfl, rfl, (by kernel_rfl : tinfo Try.prog 5 = some ⟨false, 1, 1, [.int .u8 0], none, [], some .u8, false, .int⟩), rfl, rfl⟩
instance tel106 : TEl Try.prog 106 ⟨false, 1, 1, [.int .u8 0], none, [], some .u8, false, .int⟩ 1 1 := ⟨te106⟩
instance tmp75 : TMp Try.prog 75 (.int .i64) 3 (.val (.int .i64 0)) := ⟨⟨3, by kernel_rfl, by kernel_rfl⟩⟩
instance tmp97 : TMp Try.prog 97 (.string) 99 (.agg []) := ⟨⟨9, by kernel_rfl, by kernel_rfl⟩⟩
end
end Go.Lg

namespace Go.Lg
def intA (n : Int) : AV := .val (.int .i64 n)
def boolA (b : Bool) : AV := .val (.bool b)
def strA (s : ByteArray) : AV := .val (.string s)
def intsA (l : List Int) : AV := .sl 1 (l.map intA)
def boolsA (l : List Bool) : AV := .sl 1 (l.map boolA)
def strsA (l : List ByteArray) : AV := .sl 1 (l.map strA)
@[simp] theorem bd_intA (n : Nat) (x : Int) : (intA x).bd n = true := rfl
@[simp] theorem bd_boolA (n : Nat) (x : Bool) : (boolA x).bd n = true := rfl
@[simp] theorem bd_strA (n : Nat) (x : ByteArray) : (strA x).bd n = true := rfl
@[simp] theorem bd_intsA (n : Nat) (l : List Int) : (intsA l).bd n = true := bdL_map (fun _ => rfl) l
@[simp] theorem bd_boolsA (n : Nat) (l : List Bool) : (boolsA l).bd n = true := bdL_map (fun _ => rfl) l
@[simp] theorem bd_strsA (n : Nat) (l : List ByteArray) : (strsA l).bd n = true := bdL_map (fun _ => rfl) l
@[simp] theorem bdL_intA (n : Nat) (l : List Int) : bdL n (l.map intA) = true := bdL_map (fun _ => rfl) l
@[simp] theorem bdL_boolA (n : Nat) (l : List Bool) : bdL n (l.map boolA) = true := bdL_map (fun _ => rfl) l
@[simp] theorem bdL_strA (n : Nat) (l : List ByteArray) : bdL n (l.map strA) = true := bdL_map (fun _ => rfl) l
@[simp] theorem bdL_rep {n k : Nat} {x : AV} (h : x.bd n = true) : bdL n (List.replicate k x) = true := by
  rw [bdL_iff]; intro y hy; rw [(List.mem_replicate.1 hy).2]; exact h
@[simp] theorem bd_byteA (n : Nat) (x : UInt8) : (byteA x).bd n = true := rfl
@[simp] theorem bdL_byteA (n : Nat) (l : List UInt8) : bdL n (l.map byteA) = true := bdL_map (fun _ => rfl) l
theorem mapA_bd {κ α : Type} {kf : κ → Value} {f : α → AV} {n : Nat} (h : ∀ x, (f x).bd n = true) (m : List (κ × α)) : ∀ p, p ∈ mapA kf f m → p.2.bd n = true := by
  intro p hp
  obtain ⟨q, _, rfl⟩ := List.mem_map.1 hp
  exact h q.2
theorem mapA_all {κ α : Type} {kf : κ → Value} {f : α → AV} {n : Nat} (h : ∀ x, (f x).bd n = true) (m : List (κ × α)) : ((mapA kf f m).all fun p => p.2.bd n) = true := by
  rw [List.all_eq_true]; exact mapA_bd h m
section
variable {κ α : Type} [DecidableEq κ]
theorem afind_ge {k : κ} : ∀ {m : List (κ × α)} {i : Nat} {p : Nat × α}, afind k m i = some p → i ≤ p.1 ∧ m[p.1 - i]? = some (k, p.2)
  | [], _, _, h => by simp [afind] at h
  | q :: m, i, p, h => by
    simp only [afind] at h
    split at h
    · rename_i e; injection h with h; subst h; subst e; simp
    · have ih := afind_ge (m := m) h
      refine ⟨by omega, ?_⟩
      rw [show p.1 - i = (p.1 - (i + 1)) + 1 by omega]; simpa using ih.2
theorem afind_none {k : κ} : ∀ {m : List (κ × α)} {i : Nat}, afind k m i = none ↔ ∀ p, p ∈ m → p.1 ≠ k
  | [], _ => by simp [afind]
  | q :: m, i => by
    simp only [afind]
    split
    · rename_i e; subst e; simp
    · rename_i e
      rw [afind_none (m := m)]
      simp only [List.mem_cons, forall_eq_or_imp, ne_eq]
      exact ⟨fun h => ⟨fun h' => e h'.symm, h⟩, fun h => h.2⟩
theorem afind_app {k : κ} : ∀ {m m' : List (κ × α)} {i : Nat}, (∀ p, p ∈ m → p.1 ≠ k) → afind k (m ++ m') i = afind k m' (i + m.length)
  | [], _, _, _ => by simp
  | q :: m, m', i, h => by
    have h0 : ¬ k = q.1 := fun e => h q (by simp) e.symm
    simp only [List.cons_append, afind, if_neg h0]
    rw [afind_app (m := m) (fun p hp => h p (by simp [hp]))]
    simp only [List.length_cons]; congr 1; omega
theorem aget_none {m : List (κ × α)} {k : κ} : aget m k = none ↔ ∀ p, p ∈ m → p.1 ≠ k := by simp [aget, afind_none]
theorem aget_aset {m : List (κ × α)} {k x : κ} {v : α} : aget (aset m k v) x = if x = k then some v else aget m x := by
  unfold aset
  cases hf : afind k m 0 with
  | none =>
    rw [afind_none] at hf
    simp only
    by_cases e : x = k
    · subst e
      rw [if_pos rfl, aget, afind_app hf]; simp [afind]
    · rw [if_neg e]
      simp only [aget]
      have gen : ∀ (m : List (κ × α)) (i : Nat), (afind x (m ++ [(k, v)]) i).map (·.2) = (afind x m i).map (·.2) := by
        intro m
        induction m with
        | nil => intro i; simp [afind, e]
        | cons q m ih => intro i; simp only [List.cons_append, afind]; split
                         · rfl
                         · exact ih _
      exact gen m 0
  | some p =>
    obtain ⟨j, u⟩ := p
    obtain ⟨_, hj⟩ := afind_ge hf
    simp only [Nat.sub_zero] at hj
    simp only
    have gen : ∀ (m : List (κ × α)) (j i : Nat), m[j]? = some (k, u) → (∀ n, n < j → ∀ q, m[n]? = some q → q.1 ≠ k) → (afind x (m.set j (k, v)) i).map (·.2) = if x = k then some v else (afind x m i).map (·.2) := by
      intro m
      induction m with
      | nil => intro j i h; simp at h
      | cons q m ih =>
        intro j i h hn
        cases j with
        | zero =>
          simp at h; subst h
          simp only [List.set_cons_zero, afind]
          by_cases e : x = k
          · simp [e]
          · simp [e]
        | succ j =>
          simp only [List.set_cons_succ, afind]
          by_cases e : x = q.1
          · have hq := hn 0 (by omega) q rfl
            have : ¬ x = k := fun e' => hq (e ▸ e')
            simp [e, show ¬ q.1 = k from hq]
          · rw [if_neg e, if_neg e]
            exact ih j (i + 1) (by simpa using h) (fun n hn' q hq => hn (n + 1) (by omega) q (by simpa using hq))
    have first : ∀ (m : List (κ × α)) (i j : Nat), afind k m i = some (j, u) → ∀ n, n < j - i → ∀ q, m[n]? = some q → q.1 ≠ k := by
      intro m
      induction m with
      | nil => intro i j h; simp [afind] at h
      | cons q m ih =>
        intro i j h n hn q' hq'
        simp only [afind] at h
        split at h
        · injection h with h; simp at h; omega
        · rename_i e
          cases n with
          | zero => simp at hq'; subst hq'; exact fun e' => e e'.symm
          | succ n => exact ih (i + 1) j h n (by omega) q' (by simpa using hq')
    exact gen m j 0 hj (fun n hn => first m 0 j hf n (by omega))
end
@[simp] theorem lens_intsA (l : List Int) : (intsA l).lens ↔ l.length ≤ 9223372036854775807 := by simp [intsA, AV.lens, lensL_map, intA]
@[simp] theorem lens_boolsA (l : List Bool) : (boolsA l).lens ↔ l.length ≤ 9223372036854775807 := by simp [boolsA, AV.lens, lensL_map, boolA]
@[simp] theorem lens_strsA (l : List ByteArray) : (strsA l).lens ↔ l.length ≤ 9223372036854775807 := by simp [strsA, AV.lens, lensL_map, strA]
@[simp] theorem lens_intA (x : Int) : (intA x).lens := trivial
theorem Fz.plain {α : Type} {look : Nat → Option AObj} {id n k : Nat} {f : α → AV} {l : List α} (hlook : look id = some (.arr k (l.map f))) (hn : l.length = n) (hb : ∀ x, (f x).bd 0 = true) (hk : ∀ x, (f x).cells.length = k) : Fz look (.ref id k 0 n) (.sl k (l.map f)) :=
  .row hlook (by simpa using hn) (bdL_map hb l) fun e he => by obtain ⟨x, _, rfl⟩ := List.mem_map.1 he; exact hk x
end Go.Lg

namespace Go.Lg
end Go.Lg

namespace Go.Lg
structure Rul where
  head : Int
  body : List Int
  price : Int
  deriving DecidableEq
structure Gram where
  terms : List ByteArray
  nonterms : List ByteArray
  start : Int
  rules : List Rul
  deriving DecidableEq
def ruleA (r : Rul) : AV := .agg [intA r.head, intsA r.body, intA r.price]
def rulesA (l : List Rul) : AV := .sl 3 (l.map ruleA)
def gramA (g : Gram) : AV := .agg [strsA g.terms, strsA g.nonterms, intA g.start, rulesA g.rules]
@[simp] theorem bd_ruleA (n : Nat) (r : Rul) : (ruleA r).bd n = true := by simp [ruleA, AV.bd, bdL]
@[simp] theorem bdL_ruleA (n : Nat) (l : List Rul) : bdL n (l.map ruleA) = true := bdL_map (bd_ruleA n) l
@[simp] theorem bd_rulesA (n : Nat) (l : List Rul) : (rulesA l).bd n = true := bdL_ruleA n l
@[simp] theorem bd_gramA (n : Nat) (g : Gram) : (gramA g).bd n = true := by simp [gramA, AV.bd, bdL]
theorem renL_rules (π : Nat → Nat) (l : List Rul) : renL π (l.map ruleA) = l.map ruleA := renL_map (bd_ruleA 0) l
def Gram.fit (g : Gram) : Prop := g.terms.length ≤ 9223372036854775807 ∧ g.nonterms.length ≤ 9223372036854775807 ∧ g.rules.length ≤ 9223372036854775807 ∧ ∀ r, r ∈ g.rules → r.body.length ≤ 9223372036854775807
theorem lens_gramA (g : Gram) : (gramA g).lens ↔ g.fit := by
  simp [gramA, AV.lens, lensL, rulesA, lensL_map, ruleA, Gram.fit, intA]
instance : Inhabited Rul := ⟨⟨0, [], 0⟩⟩
section
variable {P : Program} {n M N i : Nat} {l : List (Nat × AV)} {os : List (Nat × Option AObj)} {a b : Operand} {d : Tmp} {ty : TypeId} {pos : String} {af : Array Edge} {ops : Array Oper} {rest : List Oper} {KK : List Rec → St → Prop} {K : St → Prop} {rs : List Rec}
end
end Go.Lg
