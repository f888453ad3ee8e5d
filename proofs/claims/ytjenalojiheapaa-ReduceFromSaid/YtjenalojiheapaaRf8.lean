/-
  Part 8 of the proof of ReduceFrom: the logic over the model, the functions' contracts and the plain laws.
-/
import Derived.Test.YtjenalojiheapaaRf7
import Derived.Test.YtjenalojiheapaaChecked

set_option linter.unusedSimpArgs false
set_option linter.unusedVariables false
set_option linter.unusedSectionVars false

/- What the walk asks of each type, off the translation (printed by a program). -/
namespace Go.Lg
open Go.Proofs
section
theorem mixed : Try.prog.follows .mixedOrders = true := by kernel_rfl
theorem ti2 : tinfo Try.prog 2 = some ⟨false, 1, 8, [.int .i64 0], none, [], some .i64, false, .int⟩ := by kernel_rfl
instance tc2 : TIc Try.prog 2 ⟨false, 1, 8, [.int .i64 0], none, [], some .i64, false, .int⟩ := ⟨ti2⟩
instance ts2 : TSz Try.prog 2 1 8 := ⟨fun ti h => by rw [ti2] at h; injection h with h; rw [← h], fun ti h => by rw [ti2] at h; injection h with h; rw [← h]⟩
theorem ti3 : tinfo Try.prog 3 = some ⟨false, 1, 8, [.int .i64 0], none, [], some .i64, false, .int⟩ := by kernel_rfl
instance tc3 : TIc Try.prog 3 ⟨false, 1, 8, [.int .i64 0], none, [], some .i64, false, .int⟩ := ⟨ti3⟩
instance ts3 : TSz Try.prog 3 1 8 := ⟨fun ti h => by rw [ti3] at h; injection h with h; rw [← h], fun ti h => by rw [ti3] at h; injection h with h; rw [← h]⟩
theorem ti4 : tinfo Try.prog 4 = some ⟨false, 1, 1, [.bool false], none, [], none, false, .other⟩ := by kernel_rfl
instance tc4 : TIc Try.prog 4 ⟨false, 1, 1, [.bool false], none, [], none, false, .other⟩ := ⟨ti4⟩
instance ts4 : TSz Try.prog 4 1 1 := ⟨fun ti h => by rw [ti4] at h; injection h with h; rw [← h], fun ti h => by rw [ti4] at h; injection h with h; rw [← h]⟩
theorem ti5 : tinfo Try.prog 5 = some ⟨false, 1, 1, [.int .u8 0], none, [], some .u8, false, .int⟩ := by kernel_rfl
instance tc5 : TIc Try.prog 5 ⟨false, 1, 1, [.int .u8 0], none, [], some .u8, false, .int⟩ := ⟨ti5⟩
instance ts5 : TSz Try.prog 5 1 1 := ⟨fun ti h => by rw [ti5] at h; injection h with h; rw [← h], fun ti h => by rw [ti5] at h; injection h with h; rw [← h]⟩
theorem ti6 : tinfo Try.prog 6 = some ⟨false, 1, 1, [.int .u8 0], none, [], some .u8, false, .int⟩ := by kernel_rfl
instance tc6 : TIc Try.prog 6 ⟨false, 1, 1, [.int .u8 0], none, [], some .u8, false, .int⟩ := ⟨ti6⟩
instance ts6 : TSz Try.prog 6 1 1 := ⟨fun ti h => by rw [ti6] at h; injection h with h; rw [← h], fun ti h => by rw [ti6] at h; injection h with h; rw [← h]⟩
theorem ti7 : tinfo Try.prog 7 = some ⟨true, 4, 24, [.int .i64 0, .int .i64 0, .bool false, .int .u8 0], none, [(0, 1), (1, 1), (2, 1), (3, 1)], none, true, .other⟩ := by kernel_rfl
instance tc7 : TIc Try.prog 7 ⟨true, 4, 24, [.int .i64 0, .int .i64 0, .bool false, .int .u8 0], none, [(0, 1), (1, 1), (2, 1), (3, 1)], none, true, .other⟩ := ⟨ti7⟩
instance ts7 : TSz Try.prog 7 4 24 := ⟨fun ti h => by rw [ti7] at h; injection h with h; rw [← h], fun ti h => by rw [ti7] at h; injection h with h; rw [← h]⟩
theorem ti8 : tinfo Try.prog 8 = some ⟨true, 4, 24, [.int .i64 0, .int .i64 0, .bool false, .int .u8 0], none, [(0, 1), (1, 1), (2, 1), (3, 1)], none, true, .other⟩ := by kernel_rfl
instance tc8 : TIc Try.prog 8 ⟨true, 4, 24, [.int .i64 0, .int .i64 0, .bool false, .int .u8 0], none, [(0, 1), (1, 1), (2, 1), (3, 1)], none, true, .other⟩ := ⟨ti8⟩
instance ts8 : TSz Try.prog 8 4 24 := ⟨fun ti h => by rw [ti8] at h; injection h with h; rw [← h], fun ti h => by rw [ti8] at h; injection h with h; rw [← h]⟩
theorem ti9 : tinfo Try.prog 9 = some ⟨false, 1, 16, [.string ⟨#[]⟩], none, [], none, false, .string⟩ := by kernel_rfl
instance tc9 : TIc Try.prog 9 ⟨false, 1, 16, [.string ⟨#[]⟩], none, [], none, false, .string⟩ := ⟨ti9⟩
instance ts9 : TSz Try.prog 9 1 16 := ⟨fun ti h => by rw [ti9] at h; injection h with h; rw [← h], fun ti h => by rw [ti9] at h; injection h with h; rw [← h]⟩
theorem ti10 : tinfo Try.prog 10 = some ⟨false, 1, 16, [.string ⟨#[]⟩], none, [], none, false, .string⟩ := by kernel_rfl
instance tc10 : TIc Try.prog 10 ⟨false, 1, 16, [.string ⟨#[]⟩], none, [], none, false, .string⟩ := ⟨ti10⟩
instance ts10 : TSz Try.prog 10 1 16 := ⟨fun ti h => by rw [ti10] at h; injection h with h; rw [← h], fun ti h => by rw [ti10] at h; injection h with h; rw [← h]⟩
theorem ti11 : tinfo Try.prog 11 = some ⟨false, 1, 16, [.string ⟨#[]⟩], none, [], none, false, .string⟩ := by kernel_rfl
instance tc11 : TIc Try.prog 11 ⟨false, 1, 16, [.string ⟨#[]⟩], none, [], none, false, .string⟩ := ⟨ti11⟩
instance ts11 : TSz Try.prog 11 1 16 := ⟨fun ti h => by rw [ti11] at h; injection h with h; rw [← h], fun ti h => by rw [ti11] at h; injection h with h; rw [← h]⟩
theorem ti12 : tinfo Try.prog 12 = some ⟨false, 1, 8, [.int .u64 0], none, [], some .u64, false, .int⟩ := by kernel_rfl
instance tc12 : TIc Try.prog 12 ⟨false, 1, 8, [.int .u64 0], none, [], some .u64, false, .int⟩ := ⟨ti12⟩
instance ts12 : TSz Try.prog 12 1 8 := ⟨fun ti h => by rw [ti12] at h; injection h with h; rw [← h], fun ti h => by rw [ti12] at h; injection h with h; rw [← h]⟩
theorem ti13 : tinfo Try.prog 13 = some ⟨true, 2, 24, [.string ⟨#[]⟩, .int .u64 0], none, [(0, 1), (1, 1)], none, true, .other⟩ := by kernel_rfl
instance tc13 : TIc Try.prog 13 ⟨true, 2, 24, [.string ⟨#[]⟩, .int .u64 0], none, [(0, 1), (1, 1)], none, true, .other⟩ := ⟨ti13⟩
instance ts13 : TSz Try.prog 13 2 24 := ⟨fun ti h => by rw [ti13] at h; injection h with h; rw [← h], fun ti h => by rw [ti13] at h; injection h with h; rw [← h]⟩
theorem ti14 : tinfo Try.prog 14 = some ⟨true, 2, 24, [.string ⟨#[]⟩, .int .u64 0], none, [(0, 1), (1, 1)], none, true, .other⟩ := by kernel_rfl
instance tc14 : TIc Try.prog 14 ⟨true, 2, 24, [.string ⟨#[]⟩, .int .u64 0], none, [(0, 1), (1, 1)], none, true, .other⟩ := ⟨ti14⟩
instance ts14 : TSz Try.prog 14 2 24 := ⟨fun ti h => by rw [ti14] at h; injection h with h; rw [← h], fun ti h => by rw [ti14] at h; injection h with h; rw [← h]⟩
theorem ti15 : tinfo Try.prog 15 = some ⟨false, 1, 8, [.pointer none], none, [], none, false, .other⟩ := by kernel_rfl
instance tc15 : TIc Try.prog 15 ⟨false, 1, 8, [.pointer none], none, [], none, false, .other⟩ := ⟨ti15⟩
instance ts15 : TSz Try.prog 15 1 8 := ⟨fun ti h => by rw [ti15] at h; injection h with h; rw [← h], fun ti h => by rw [ti15] at h; injection h with h; rw [← h]⟩
theorem ti16 : tinfo Try.prog 16 = some ⟨false, 1, 8, [.pointer none], none, [], none, false, .other⟩ := by kernel_rfl
instance tc16 : TIc Try.prog 16 ⟨false, 1, 8, [.pointer none], none, [], none, false, .other⟩ := ⟨ti16⟩
instance ts16 : TSz Try.prog 16 1 8 := ⟨fun ti h => by rw [ti16] at h; injection h with h; rw [← h], fun ti h => by rw [ti16] at h; injection h with h; rw [← h]⟩
theorem ti17 : tinfo Try.prog 17 = some ⟨false, 1, 8, [.pointer none], none, [], none, false, .other⟩ := by kernel_rfl
instance tc17 : TIc Try.prog 17 ⟨false, 1, 8, [.pointer none], none, [], none, false, .other⟩ := ⟨ti17⟩
instance ts17 : TSz Try.prog 17 1 8 := ⟨fun ti h => by rw [ti17] at h; injection h with h; rw [← h], fun ti h => by rw [ti17] at h; injection h with h; rw [← h]⟩
theorem ti18 : tinfo Try.prog 18 = some ⟨true, 1, 8, [.pointer none], none, [(0, 1)], none, true, .other⟩ := by kernel_rfl
instance tc18 : TIc Try.prog 18 ⟨true, 1, 8, [.pointer none], none, [(0, 1)], none, true, .other⟩ := ⟨ti18⟩
instance ts18 : TSz Try.prog 18 1 8 := ⟨fun ti h => by rw [ti18] at h; injection h with h; rw [← h], fun ti h => by rw [ti18] at h; injection h with h; rw [← h]⟩
theorem ti19 : tinfo Try.prog 19 = some ⟨true, 1, 8, [.pointer none], none, [(0, 1)], none, true, .other⟩ := by kernel_rfl
instance tc19 : TIc Try.prog 19 ⟨true, 1, 8, [.pointer none], none, [(0, 1)], none, true, .other⟩ := ⟨ti19⟩
instance ts19 : TSz Try.prog 19 1 8 := ⟨fun ti h => by rw [ti19] at h; injection h with h; rw [← h], fun ti h => by rw [ti19] at h; injection h with h; rw [← h]⟩
theorem ti21 : tinfo Try.prog 21 = some ⟨false, 1, 4, [.int .i32 0], none, [], some .i32, false, .int⟩ := by kernel_rfl
instance tc21 : TIc Try.prog 21 ⟨false, 1, 4, [.int .i32 0], none, [], some .i32, false, .int⟩ := ⟨ti21⟩
instance ts21 : TSz Try.prog 21 1 4 := ⟨fun ti h => by rw [ti21] at h; injection h with h; rw [← h], fun ti h => by rw [ti21] at h; injection h with h; rw [← h]⟩
theorem ti22 : tinfo Try.prog 22 = some ⟨false, 1, 24, [.slice none 0 0], some 9, [], none, false, .slice⟩ := by kernel_rfl
instance tc22 : TIc Try.prog 22 ⟨false, 1, 24, [.slice none 0 0], some 9, [], none, false, .slice⟩ := ⟨ti22⟩
instance ts22 : TSz Try.prog 22 1 24 := ⟨fun ti h => by rw [ti22] at h; injection h with h; rw [← h], fun ti h => by rw [ti22] at h; injection h with h; rw [← h]⟩
theorem te22 : ∃ ti el, tinfo Try.prog 22 = some ti ∧ ti.elem = some el ∧ ti.sh = .slice ∧ tinfo Try.prog el = some ⟨false, 1, 16, [.string ⟨#[]⟩], none, [], none, false, .string⟩ ∧ TI.size ⟨false, 1, 16, [.string ⟨#[]⟩], none, [], none, false, .string⟩ = 1 ∧ TI.bytes ⟨false, 1, 16, [.string ⟨#[]⟩], none, [], none, false, .string⟩ = 16 := ⟨_, _, ti22, rfl, rfl, (by kernel_rfl : tinfo Try.prog 9 = some ⟨false, 1, 16, [.string ⟨#[]⟩], none, [], none, false, .string⟩), rfl, rfl⟩
instance tel22 : TEl Try.prog 22 ⟨false, 1, 16, [.string ⟨#[]⟩], none, [], none, false, .string⟩ 1 16 := ⟨te22⟩
theorem ti23 : tinfo Try.prog 23 = some ⟨false, 1, 24, [.slice none 0 0], some 42, [], none, false, .slice⟩ := by kernel_rfl
instance tc23 : TIc Try.prog 23 ⟨false, 1, 24, [.slice none 0 0], some 42, [], none, false, .slice⟩ := ⟨ti23⟩
instance ts23 : TSz Try.prog 23 1 24 := ⟨fun ti h => by rw [ti23] at h; injection h with h; rw [← h], fun ti h => by rw [ti23] at h; injection h with h; rw [← h]⟩
theorem te23 : ∃ ti el, tinfo Try.prog 23 = some ti ∧ ti.elem = some el ∧ ti.sh = .slice ∧ tinfo Try.prog el = some ⟨true, 3, 40, [.int .i64 0, .slice none 0 0, .int .i64 0], none, [(0, 1), (1, 1), (2, 1)], none, true, .other⟩ ∧ TI.size ⟨true, 3, 40, [.int .i64 0, .slice none 0 0, .int .i64 0], none, [(0, 1), (1, 1), (2, 1)], none, true, .other⟩ = 3 ∧ TI.bytes ⟨true, 3, 40, [.int .i64 0, .slice none 0 0, .int .i64 0], none, [(0, 1), (1, 1), (2, 1)], none, true, .other⟩ = 40 := ⟨_, _, ti23, rfl, rfl, (by kernel_rfl : tinfo Try.prog 42 = some ⟨true, 3, 40, [.int .i64 0, .slice none 0 0, .int .i64 0], none, [(0, 1), (1, 1), (2, 1)], none, true, .other⟩), rfl, rfl⟩
instance tel23 : TEl Try.prog 23 ⟨true, 3, 40, [.int .i64 0, .slice none 0 0, .int .i64 0], none, [(0, 1), (1, 1), (2, 1)], none, true, .other⟩ 3 40 := ⟨te23⟩
theorem ti24 : tinfo Try.prog 24 = some ⟨true, 4, 80, [.slice none 0 0, .slice none 0 0, .int .i64 0, .slice none 0 0], none, [(0, 1), (1, 1), (2, 1), (3, 1)], none, true, .other⟩ := by kernel_rfl
instance tc24 : TIc Try.prog 24 ⟨true, 4, 80, [.slice none 0 0, .slice none 0 0, .int .i64 0, .slice none 0 0], none, [(0, 1), (1, 1), (2, 1), (3, 1)], none, true, .other⟩ := ⟨ti24⟩
instance ts24 : TSz Try.prog 24 4 80 := ⟨fun ti h => by rw [ti24] at h; injection h with h; rw [← h], fun ti h => by rw [ti24] at h; injection h with h; rw [← h]⟩
theorem ti25 : tinfo Try.prog 25 = some ⟨true, 4, 80, [.slice none 0 0, .slice none 0 0, .int .i64 0, .slice none 0 0], none, [(0, 1), (1, 1), (2, 1), (3, 1)], none, true, .other⟩ := by kernel_rfl
instance tc25 : TIc Try.prog 25 ⟨true, 4, 80, [.slice none 0 0, .slice none 0 0, .int .i64 0, .slice none 0 0], none, [(0, 1), (1, 1), (2, 1), (3, 1)], none, true, .other⟩ := ⟨ti25⟩
instance ts25 : TSz Try.prog 25 4 80 := ⟨fun ti h => by rw [ti25] at h; injection h with h; rw [← h], fun ti h => by rw [ti25] at h; injection h with h; rw [← h]⟩
theorem ti28 : tinfo Try.prog 28 = some ⟨false, 1, 24, [.slice none 0 0], some 3, [], none, false, .slice⟩ := by kernel_rfl
instance tc28 : TIc Try.prog 28 ⟨false, 1, 24, [.slice none 0 0], some 3, [], none, false, .slice⟩ := ⟨ti28⟩
instance ts28 : TSz Try.prog 28 1 24 := ⟨fun ti h => by rw [ti28] at h; injection h with h; rw [← h], fun ti h => by rw [ti28] at h; injection h with h; rw [← h]⟩
theorem te28 : ∃ ti el, tinfo Try.prog 28 = some ti ∧ ti.elem = some el ∧ ti.sh = .slice ∧ tinfo Try.prog el = some ⟨false, 1, 8, [.int .i64 0], none, [], some .i64, false, .int⟩ ∧ TI.size ⟨false, 1, 8, [.int .i64 0], none, [], some .i64, false, .int⟩ = 1 ∧ TI.bytes ⟨false, 1, 8, [.int .i64 0], none, [], some .i64, false, .int⟩ = 8 := ⟨_, _, ti28, rfl, rfl, (by kernel_rfl : tinfo Try.prog 3 = some ⟨false, 1, 8, [.int .i64 0], none, [], some .i64, false, .int⟩), rfl, rfl⟩
instance tel28 : TEl Try.prog 28 ⟨false, 1, 8, [.int .i64 0], none, [], some .i64, false, .int⟩ 1 8 := ⟨te28⟩
theorem ti29 : tinfo Try.prog 29 = some ⟨false, 1, 8, [.int .i64 0], none, [], some .i64, false, .int⟩ := by kernel_rfl
instance tc29 : TIc Try.prog 29 ⟨false, 1, 8, [.int .i64 0], none, [], some .i64, false, .int⟩ := ⟨ti29⟩
instance ts29 : TSz Try.prog 29 1 8 := ⟨fun ti h => by rw [ti29] at h; injection h with h; rw [← h], fun ti h => by rw [ti29] at h; injection h with h; rw [← h]⟩
theorem ti35 : tinfo Try.prog 35 = some ⟨false, 1, 24, [.slice none 0 0], some 5, [], none, false, .slice⟩ := by kernel_rfl
instance tc35 : TIc Try.prog 35 ⟨false, 1, 24, [.slice none 0 0], some 5, [], none, false, .slice⟩ := ⟨ti35⟩
instance ts35 : TSz Try.prog 35 1 24 := ⟨fun ti h => by rw [ti35] at h; injection h with h; rw [← h], fun ti h => by rw [ti35] at h; injection h with h; rw [← h]⟩
theorem te35 : ∃ ti el, tinfo Try.prog 35 = some ti ∧ ti.elem = some el ∧ ti.sh = .slice ∧ tinfo Try.prog el = some ⟨false, 1, 1, [.int .u8 0], none, [], some .u8, false, .int⟩ ∧ TI.size ⟨false, 1, 1, [.int .u8 0], none, [], some .u8, false, .int⟩ = 1 ∧ TI.bytes ⟨false, 1, 1, [.int .u8 0], none, [], some .u8, false, .int⟩ = 1 := ⟨_, _, ti35, rfl, rfl, (by kernel_rfl : tinfo Try.prog 5 = some ⟨false, 1, 1, [.int .u8 0], none, [], some .u8, false, .int⟩), rfl, rfl⟩
instance tel35 : TEl Try.prog 35 ⟨false, 1, 1, [.int .u8 0], none, [], some .u8, false, .int⟩ 1 1 := ⟨te35⟩
theorem ti36 : tinfo Try.prog 36 = some ⟨false, 1, 24, [.slice none 0 0], some 4, [], none, false, .slice⟩ := by kernel_rfl
instance tc36 : TIc Try.prog 36 ⟨false, 1, 24, [.slice none 0 0], some 4, [], none, false, .slice⟩ := ⟨ti36⟩
instance ts36 : TSz Try.prog 36 1 24 := ⟨fun ti h => by rw [ti36] at h; injection h with h; rw [← h], fun ti h => by rw [ti36] at h; injection h with h; rw [← h]⟩
theorem te36 : ∃ ti el, tinfo Try.prog 36 = some ti ∧ ti.elem = some el ∧ ti.sh = .slice ∧ tinfo Try.prog el = some ⟨false, 1, 1, [.bool false], none, [], none, false, .other⟩ ∧ TI.size ⟨false, 1, 1, [.bool false], none, [], none, false, .other⟩ = 1 ∧ TI.bytes ⟨false, 1, 1, [.bool false], none, [], none, false, .other⟩ = 1 := ⟨_, _, ti36, rfl, rfl, (by kernel_rfl : tinfo Try.prog 4 = some ⟨false, 1, 1, [.bool false], none, [], none, false, .other⟩), rfl, rfl⟩
instance tel36 : TEl Try.prog 36 ⟨false, 1, 1, [.bool false], none, [], none, false, .other⟩ 1 1 := ⟨te36⟩
theorem ti37 : tinfo Try.prog 37 = some ⟨false, 1, 24, [.slice none 0 0], some 36, [], none, false, .slice⟩ := by kernel_rfl
instance tc37 : TIc Try.prog 37 ⟨false, 1, 24, [.slice none 0 0], some 36, [], none, false, .slice⟩ := ⟨ti37⟩
instance ts37 : TSz Try.prog 37 1 24 := ⟨fun ti h => by rw [ti37] at h; injection h with h; rw [← h], fun ti h => by rw [ti37] at h; injection h with h; rw [← h]⟩
theorem te37 : ∃ ti el, tinfo Try.prog 37 = some ti ∧ ti.elem = some el ∧ ti.sh = .slice ∧ tinfo Try.prog el = some ⟨false, 1, 24, [.slice none 0 0], some 4, [], none, false, .slice⟩ ∧ TI.size ⟨false, 1, 24, [.slice none 0 0], some 4, [], none, false, .slice⟩ = 1 ∧ TI.bytes ⟨false, 1, 24, [.slice none 0 0], some 4, [], none, false, .slice⟩ = 24 := ⟨_, _, ti37, rfl, rfl, (by kernel_rfl : tinfo Try.prog 36 = some ⟨false, 1, 24, [.slice none 0 0], some 4, [], none, false, .slice⟩), rfl, rfl⟩
instance tel37 : TEl Try.prog 37 ⟨false, 1, 24, [.slice none 0 0], some 4, [], none, false, .slice⟩ 1 24 := ⟨te37⟩
theorem ti38 : tinfo Try.prog 38 = some ⟨false, 1, 24, [.slice none 0 0], some 37, [], none, false, .slice⟩ := by kernel_rfl
instance tc38 : TIc Try.prog 38 ⟨false, 1, 24, [.slice none 0 0], some 37, [], none, false, .slice⟩ := ⟨ti38⟩
instance ts38 : TSz Try.prog 38 1 24 := ⟨fun ti h => by rw [ti38] at h; injection h with h; rw [← h], fun ti h => by rw [ti38] at h; injection h with h; rw [← h]⟩
theorem te38 : ∃ ti el, tinfo Try.prog 38 = some ti ∧ ti.elem = some el ∧ ti.sh = .slice ∧ tinfo Try.prog el = some ⟨false, 1, 24, [.slice none 0 0], some 36, [], none, false, .slice⟩ ∧ TI.size ⟨false, 1, 24, [.slice none 0 0], some 36, [], none, false, .slice⟩ = 1 ∧ TI.bytes ⟨false, 1, 24, [.slice none 0 0], some 36, [], none, false, .slice⟩ = 24 := ⟨_, _, ti38, rfl, rfl, (by kernel_rfl : tinfo Try.prog 37 = some ⟨false, 1, 24, [.slice none 0 0], some 36, [], none, false, .slice⟩), rfl, rfl⟩
instance tel38 : TEl Try.prog 38 ⟨false, 1, 24, [.slice none 0 0], some 36, [], none, false, .slice⟩ 1 24 := ⟨te38⟩
theorem ti41 : tinfo Try.prog 41 = some ⟨true, 3, 40, [.int .i64 0, .slice none 0 0, .int .i64 0], none, [(0, 1), (1, 1), (2, 1)], none, true, .other⟩ := by kernel_rfl
instance tc41 : TIc Try.prog 41 ⟨true, 3, 40, [.int .i64 0, .slice none 0 0, .int .i64 0], none, [(0, 1), (1, 1), (2, 1)], none, true, .other⟩ := ⟨ti41⟩
instance ts41 : TSz Try.prog 41 3 40 := ⟨fun ti h => by rw [ti41] at h; injection h with h; rw [← h], fun ti h => by rw [ti41] at h; injection h with h; rw [← h]⟩
theorem ti42 : tinfo Try.prog 42 = some ⟨true, 3, 40, [.int .i64 0, .slice none 0 0, .int .i64 0], none, [(0, 1), (1, 1), (2, 1)], none, true, .other⟩ := by kernel_rfl
instance tc42 : TIc Try.prog 42 ⟨true, 3, 40, [.int .i64 0, .slice none 0 0, .int .i64 0], none, [(0, 1), (1, 1), (2, 1)], none, true, .other⟩ := ⟨ti42⟩
instance ts42 : TSz Try.prog 42 3 40 := ⟨fun ti h => by rw [ti42] at h; injection h with h; rw [← h], fun ti h => by rw [ti42] at h; injection h with h; rw [← h]⟩
theorem ti45 : tinfo Try.prog 45 = some ⟨false, 1, 8, [.map none], none, [], none, false, .map⟩ := by kernel_rfl
instance tc45 : TIc Try.prog 45 ⟨false, 1, 8, [.map none], none, [], none, false, .map⟩ := ⟨ti45⟩
instance ts45 : TSz Try.prog 45 1 8 := ⟨fun ti h => by rw [ti45] at h; injection h with h; rw [← h], fun ti h => by rw [ti45] at h; injection h with h; rw [← h]⟩
theorem ti58 : tinfo Try.prog 58 = some ⟨false, 1, 8, [.map none], none, [], none, false, .map⟩ := by kernel_rfl
instance tc58 : TIc Try.prog 58 ⟨false, 1, 8, [.map none], none, [], none, false, .map⟩ := ⟨ti58⟩
instance ts58 : TSz Try.prog 58 1 8 := ⟨fun ti h => by rw [ti58] at h; injection h with h; rw [← h], fun ti h => by rw [ti58] at h; injection h with h; rw [← h]⟩
theorem ti59 : tinfo Try.prog 59 = some ⟨false, 1, 24, [.slice none 0 0], some 22, [], none, false, .slice⟩ := by kernel_rfl
instance tc59 : TIc Try.prog 59 ⟨false, 1, 24, [.slice none 0 0], some 22, [], none, false, .slice⟩ := ⟨ti59⟩
instance ts59 : TSz Try.prog 59 1 24 := ⟨fun ti h => by rw [ti59] at h; injection h with h; rw [← h], fun ti h => by rw [ti59] at h; injection h with h; rw [← h]⟩
theorem te59 : ∃ ti el, tinfo Try.prog 59 = some ti ∧ ti.elem = some el ∧ ti.sh = .slice ∧ tinfo Try.prog el = some ⟨false, 1, 24, [.slice none 0 0], some 9, [], none, false, .slice⟩ ∧ TI.size ⟨false, 1, 24, [.slice none 0 0], some 9, [], none, false, .slice⟩ = 1 ∧ TI.bytes ⟨false, 1, 24, [.slice none 0 0], some 9, [], none, false, .slice⟩ = 24 := ⟨_, _, ti59, rfl, rfl, (by kernel_rfl : tinfo Try.prog 22 = some ⟨false, 1, 24, [.slice none 0 0], some 9, [], none, false, .slice⟩), rfl, rfl⟩
instance tel59 : TEl Try.prog 59 ⟨false, 1, 24, [.slice none 0 0], some 9, [], none, false, .slice⟩ 1 24 := ⟨te59⟩
theorem ti60 : tinfo Try.prog 60 = some ⟨true, 0, 0, [], none, [], none, true, .other⟩ := by kernel_rfl
instance tc60 : TIc Try.prog 60 ⟨true, 0, 0, [], none, [], none, true, .other⟩ := ⟨ti60⟩
instance ts60 : TSz Try.prog 60 0 0 := ⟨fun ti h => by rw [ti60] at h; injection h with h; rw [← h], fun ti h => by rw [ti60] at h; injection h with h; rw [← h]⟩
theorem ti68 : tinfo Try.prog 68 = some ⟨false, 1, 8, [.int .u64 0], none, [], some .u64, false, .int⟩ := by kernel_rfl
instance tc68 : TIc Try.prog 68 ⟨false, 1, 8, [.int .u64 0], none, [], some .u64, false, .int⟩ := ⟨ti68⟩
instance ts68 : TSz Try.prog 68 1 8 := ⟨fun ti h => by rw [ti68] at h; injection h with h; rw [← h], fun ti h => by rw [ti68] at h; injection h with h; rw [← h]⟩
theorem ti69 : tinfo Try.prog 69 = some ⟨false, 1, 4, [.int .u32 0], none, [], some .u32, false, .int⟩ := by kernel_rfl
instance tc69 : TIc Try.prog 69 ⟨false, 1, 4, [.int .u32 0], none, [], some .u32, false, .int⟩ := ⟨ti69⟩
instance ts69 : TSz Try.prog 69 1 4 := ⟨fun ti h => by rw [ti69] at h; injection h with h; rw [← h], fun ti h => by rw [ti69] at h; injection h with h; rw [← h]⟩
theorem ti73 : tinfo Try.prog 73 = some ⟨true, 4, 40, [.pointer none, .pointer none, .pointer none, .string ⟨#[]⟩], none, [(0, 1), (1, 1), (2, 1), (3, 1)], none, true, .other⟩ := by kernel_rfl
instance tc73 : TIc Try.prog 73 ⟨true, 4, 40, [.pointer none, .pointer none, .pointer none, .string ⟨#[]⟩], none, [(0, 1), (1, 1), (2, 1), (3, 1)], none, true, .other⟩ := ⟨ti73⟩
instance ts73 : TSz Try.prog 73 4 40 := ⟨fun ti h => by rw [ti73] at h; injection h with h; rw [← h], fun ti h => by rw [ti73] at h; injection h with h; rw [← h]⟩
theorem ti74 : tinfo Try.prog 74 = some ⟨true, 4, 40, [.pointer none, .pointer none, .pointer none, .string ⟨#[]⟩], none, [(0, 1), (1, 1), (2, 1), (3, 1)], none, true, .other⟩ := by kernel_rfl
instance tc74 : TIc Try.prog 74 ⟨true, 4, 40, [.pointer none, .pointer none, .pointer none, .string ⟨#[]⟩], none, [(0, 1), (1, 1), (2, 1), (3, 1)], none, true, .other⟩ := ⟨ti74⟩
instance ts74 : TSz Try.prog 74 4 40 := ⟨fun ti h => by rw [ti74] at h; injection h with h; rw [← h], fun ti h => by rw [ti74] at h; injection h with h; rw [← h]⟩
theorem ti75 : tinfo Try.prog 75 = some ⟨true, 0, 0, [], none, [], none, false, .other⟩ := by kernel_rfl
instance tc75 : TIc Try.prog 75 ⟨true, 0, 0, [], none, [], none, false, .other⟩ := ⟨ti75⟩
instance ts75 : TSz Try.prog 75 0 0 := ⟨fun ti h => by rw [ti75] at h; injection h with h; rw [← h], fun ti h => by rw [ti75] at h; injection h with h; rw [← h]⟩
theorem ti76 : tinfo Try.prog 76 = some ⟨true, 0, 0, [], none, [(0, 0)], none, true, .other⟩ := by kernel_rfl
instance tc76 : TIc Try.prog 76 ⟨true, 0, 0, [], none, [(0, 0)], none, true, .other⟩ := ⟨ti76⟩
instance ts76 : TSz Try.prog 76 0 0 := ⟨fun ti h => by rw [ti76] at h; injection h with h; rw [← h], fun ti h => by rw [ti76] at h; injection h with h; rw [← h]⟩
theorem ti77 : tinfo Try.prog 77 = some ⟨true, 0, 0, [], none, [(0, 0)], none, true, .other⟩ := by kernel_rfl
instance tc77 : TIc Try.prog 77 ⟨true, 0, 0, [], none, [(0, 0)], none, true, .other⟩ := ⟨ti77⟩
instance ts77 : TSz Try.prog 77 0 0 := ⟨fun ti h => by rw [ti77] at h; injection h with h; rw [← h], fun ti h => by rw [ti77] at h; injection h with h; rw [← h]⟩
theorem ti79 : tinfo Try.prog 79 = some ⟨false, 1, 1, [.int .u8 0], none, [], some .u8, false, .int⟩ := by kernel_rfl
instance tc79 : TIc Try.prog 79 ⟨false, 1, 1, [.int .u8 0], none, [], some .u8, false, .int⟩ := ⟨ti79⟩
instance ts79 : TSz Try.prog 79 1 1 := ⟨fun ti h => by rw [ti79] at h; injection h with h; rw [← h], fun ti h => by rw [ti79] at h; injection h with h; rw [← h]⟩
theorem ti80 : tinfo Try.prog 80 = some ⟨false, 1, 1, [.int .u8 0], none, [], some .u8, false, .int⟩ := by kernel_rfl
instance tc80 : TIc Try.prog 80 ⟨false, 1, 1, [.int .u8 0], none, [], some .u8, false, .int⟩ := ⟨ti80⟩
instance ts80 : TSz Try.prog 80 1 1 := ⟨fun ti h => by rw [ti80] at h; injection h with h; rw [← h], fun ti h => by rw [ti80] at h; injection h with h; rw [← h]⟩
theorem ti82 : tinfo Try.prog 82 = some ⟨false, 1, 8, [.pointer none], none, [], none, false, .other⟩ := by kernel_rfl
instance tc82 : TIc Try.prog 82 ⟨false, 1, 8, [.pointer none], none, [], none, false, .other⟩ := ⟨ti82⟩
instance ts82 : TSz Try.prog 82 1 8 := ⟨fun ti h => by rw [ti82] at h; injection h with h; rw [← h], fun ti h => by rw [ti82] at h; injection h with h; rw [← h]⟩
theorem ti83 : tinfo Try.prog 83 = some ⟨false, 1, 4, [.int .i32 0], none, [], some .i32, false, .int⟩ := by kernel_rfl
instance tc83 : TIc Try.prog 83 ⟨false, 1, 4, [.int .i32 0], none, [], some .i32, false, .int⟩ := ⟨ti83⟩
instance ts83 : TSz Try.prog 83 1 4 := ⟨fun ti h => by rw [ti83] at h; injection h with h; rw [← h], fun ti h => by rw [ti83] at h; injection h with h; rw [← h]⟩
theorem ti84 : tinfo Try.prog 84 = some ⟨false, 1, 4, [.int .i32 0], none, [], some .i32, false, .int⟩ := by kernel_rfl
instance tc84 : TIc Try.prog 84 ⟨false, 1, 4, [.int .i32 0], none, [], some .i32, false, .int⟩ := ⟨ti84⟩
instance ts84 : TSz Try.prog 84 1 4 := ⟨fun ti h => by rw [ti84] at h; injection h with h; rw [← h], fun ti h => by rw [ti84] at h; injection h with h; rw [← h]⟩
theorem ti85 : tinfo Try.prog 85 = some ⟨true, 11, 48, [.int .u64 0, .int .u64 0, .int .u32 0, .int .u8 0, .int .u8 0, .int .u8 0, .int .u8 0, .nilFunc, .pointer none, .int .i32 0, .int .i32 0], none, [(0, 1), (1, 1), (2, 1), (3, 1), (4, 1), (5, 1), (6, 1), (7, 1), (8, 1), (9, 1), (10, 1)], none, true, .other⟩ := by kernel_rfl
instance tc85 : TIc Try.prog 85 ⟨true, 11, 48, [.int .u64 0, .int .u64 0, .int .u32 0, .int .u8 0, .int .u8 0, .int .u8 0, .int .u8 0, .nilFunc, .pointer none, .int .i32 0, .int .i32 0], none, [(0, 1), (1, 1), (2, 1), (3, 1), (4, 1), (5, 1), (6, 1), (7, 1), (8, 1), (9, 1), (10, 1)], none, true, .other⟩ := ⟨ti85⟩
instance ts85 : TSz Try.prog 85 11 48 := ⟨fun ti h => by rw [ti85] at h; injection h with h; rw [← h], fun ti h => by rw [ti85] at h; injection h with h; rw [← h]⟩
theorem ti86 : tinfo Try.prog 86 = some ⟨true, 11, 48, [.int .u64 0, .int .u64 0, .int .u32 0, .int .u8 0, .int .u8 0, .int .u8 0, .int .u8 0, .nilFunc, .pointer none, .int .i32 0, .int .i32 0], none, [(0, 1), (1, 1), (2, 1), (3, 1), (4, 1), (5, 1), (6, 1), (7, 1), (8, 1), (9, 1), (10, 1)], none, true, .other⟩ := by kernel_rfl
instance tc86 : TIc Try.prog 86 ⟨true, 11, 48, [.int .u64 0, .int .u64 0, .int .u32 0, .int .u8 0, .int .u8 0, .int .u8 0, .int .u8 0, .nilFunc, .pointer none, .int .i32 0, .int .i32 0], none, [(0, 1), (1, 1), (2, 1), (3, 1), (4, 1), (5, 1), (6, 1), (7, 1), (8, 1), (9, 1), (10, 1)], none, true, .other⟩ := ⟨ti86⟩
instance ts86 : TSz Try.prog 86 11 48 := ⟨fun ti h => by rw [ti86] at h; injection h with h; rw [← h], fun ti h => by rw [ti86] at h; injection h with h; rw [← h]⟩
instance tmp45 : TMp Try.prog 45 (.int .i64) 3 (.val (.int .i64 0)) := ⟨⟨3, by kernel_rfl, by kernel_rfl⟩⟩
instance tmp58 : TMp Try.prog 58 (.string) 60 (.agg []) := ⟨⟨9, by kernel_rfl, by kernel_rfl⟩⟩
end
end Go.Lg

/-
  Go's plain data as abstract values: numbers, bools, strings, slices of them.
-/
namespace Go.Lg

def intA (n : Int) : AV := .val (.int .i64 n)
def boolA (b : Bool) : AV := .val (.bool b)
def strA (s : ByteArray) : AV := .val (.string s)
def intsA (l : List Int) : AV := .sl 1 (l.map intA)
def boolsA (l : List Bool) : AV := .sl 1 (l.map boolA)
def strsA (l : List ByteArray) : AV := .sl 1 (l.map strA)

theorem decT {p : Prop} [Decidable p] (h : p) : decide p = true := decide_eq_true h
theorem decF {p : Prop} [Decidable p] (h : ¬ p) : decide p = false := decide_eq_false h
theorem getD_any (l : List AV) (i : Nat) : l.getD i .any = (l[i]?).getD .any := List.getD_eq_getElem?_getD
@[simp] theorem bd_intA (n : Nat) (x : Int) : (intA x).bd n = true := rfl
@[simp] theorem bd_boolA (n : Nat) (x : Bool) : (boolA x).bd n = true := rfl
@[simp] theorem bd_strA (n : Nat) (x : ByteArray) : (strA x).bd n = true := rfl
@[simp] theorem bd_intsA (n : Nat) (l : List Int) : (intsA l).bd n = true := bdL_map (fun _ => rfl) l
@[simp] theorem bd_boolsA (n : Nat) (l : List Bool) : (boolsA l).bd n = true := bdL_map (fun _ => rfl) l
@[simp] theorem bd_strsA (n : Nat) (l : List ByteArray) : (strsA l).bd n = true := bdL_map (fun _ => rfl) l
@[simp] theorem bdL_intA (n : Nat) (l : List Int) : bdL n (l.map intA) = true := bdL_map (fun _ => rfl) l
@[simp] theorem bdL_boolA (n : Nat) (l : List Bool) : bdL n (l.map boolA) = true := bdL_map (fun _ => rfl) l
@[simp] theorem bdL_strA (n : Nat) (l : List ByteArray) : bdL n (l.map strA) = true := bdL_map (fun _ => rfl) l
@[simp] theorem bdL_rep {n k : Nat} {x : AV} (h : x.bd n = true) : bdL n (List.replicate k x) = true := by
  rw [bdL_iff]; intro y hy; rw [(List.mem_replicate.1 hy).2]; exact h
@[simp] theorem bd_byteA (n : Nat) (x : UInt8) : (byteA x).bd n = true := rfl
@[simp] theorem bdL_byteA (n : Nat) (l : List UInt8) : bdL n (l.map byteA) = true := bdL_map (fun _ => rfl) l
theorem mapA_bd {κ α : Type} {kf : κ → Value} {f : α → AV} {n : Nat} (h : ∀ x, (f x).bd n = true) (m : List (κ × α)) : ∀ p, p ∈ mapA kf f m → p.2.bd n = true := by
  intro p hp
  obtain ⟨q, _, rfl⟩ := List.mem_map.1 hp
  exact h q.2
theorem mapA_all {κ α : Type} {kf : κ → Value} {f : α → AV} {n : Nat} (h : ∀ x, (f x).bd n = true) (m : List (κ × α)) : ((mapA kf f m).all fun p => p.2.bd n) = true := by
  rw [List.all_eq_true]; exact mapA_bd h m
section
variable {κ α : Type} [DecidableEq κ]
theorem afind_ge {k : κ} : ∀ {m : List (κ × α)} {i : Nat} {p : Nat × α}, afind k m i = some p → i ≤ p.1 ∧ m[p.1 - i]? = some (k, p.2)
  | [], _, _, h => by simp [afind] at h
  | q :: m, i, p, h => by
    simp only [afind] at h
    split at h
    · rename_i e; injection h with h; subst h; subst e; simp
    · have ih := afind_ge (m := m) h
      refine ⟨by omega, ?_⟩
      rw [show p.1 - i = (p.1 - (i + 1)) + 1 by omega]; simpa using ih.2
theorem afind_none {k : κ} : ∀ {m : List (κ × α)} {i : Nat}, afind k m i = none ↔ ∀ p, p ∈ m → p.1 ≠ k
  | [], _ => by simp [afind]
  | q :: m, i => by
    simp only [afind]
    split
    · rename_i e; subst e; simp
    · rename_i e
      rw [afind_none (m := m)]
      simp only [List.mem_cons, forall_eq_or_imp, ne_eq]
      exact ⟨fun h => ⟨fun h' => e h'.symm, h⟩, fun h => h.2⟩
theorem afind_app {k : κ} : ∀ {m m' : List (κ × α)} {i : Nat}, (∀ p, p ∈ m → p.1 ≠ k) → afind k (m ++ m') i = afind k m' (i + m.length)
  | [], _, _, _ => by simp
  | q :: m, m', i, h => by
    have h0 : ¬ k = q.1 := fun e => h q (by simp) e.symm
    simp only [List.cons_append, afind, if_neg h0]
    rw [afind_app (m := m) (fun p hp => h p (by simp [hp]))]
    simp only [List.length_cons]; congr 1; omega
theorem aget_none {m : List (κ × α)} {k : κ} : aget m k = none ↔ ∀ p, p ∈ m → p.1 ≠ k := by simp [aget, afind_none]
/-- the map's entry at one key, behind a store at another | the same -/
theorem aget_aset {m : List (κ × α)} {k x : κ} {v : α} : aget (aset m k v) x = if x = k then some v else aget m x := by
  unfold aset
  cases hf : afind k m 0 with
  | none =>
    rw [afind_none] at hf
    simp only
    by_cases e : x = k
    · subst e
      rw [if_pos rfl, aget, afind_app hf]; simp [afind]
    · rw [if_neg e]
      simp only [aget]
      have gen : ∀ (m : List (κ × α)) (i : Nat), (afind x (m ++ [(k, v)]) i).map (·.2) = (afind x m i).map (·.2) := by
        intro m
        induction m with
        | nil => intro i; simp [afind, e]
        | cons q m ih => intro i; simp only [List.cons_append, afind]; split
                         · rfl
                         · exact ih _
      exact gen m 0
  | some p =>
    obtain ⟨j, u⟩ := p
    obtain ⟨_, hj⟩ := afind_ge hf
    simp only [Nat.sub_zero] at hj
    simp only
    have gen : ∀ (m : List (κ × α)) (j i : Nat), m[j]? = some (k, u) → (∀ n, n < j → ∀ q, m[n]? = some q → q.1 ≠ k) → (afind x (m.set j (k, v)) i).map (·.2) = if x = k then some v else (afind x m i).map (·.2) := by
      intro m
      induction m with
      | nil => intro j i h; simp at h
      | cons q m ih =>
        intro j i h hn
        cases j with
        | zero =>
          simp at h; subst h
          simp only [List.set_cons_zero, afind]
          by_cases e : x = k
          · simp [e]
          · simp [e]
        | succ j =>
          simp only [List.set_cons_succ, afind]
          by_cases e : x = q.1
          · have hq := hn 0 (by omega) q rfl
            have : ¬ x = k := fun e' => hq (e ▸ e')
            simp [e, show ¬ q.1 = k from hq]
          · rw [if_neg e, if_neg e]
            exact ih j (i + 1) (by simpa using h) (fun n hn' q hq => hn (n + 1) (by omega) q (by simpa using hq))
    have first : ∀ (m : List (κ × α)) (i j : Nat), afind k m i = some (j, u) → ∀ n, n < j - i → ∀ q, m[n]? = some q → q.1 ≠ k := by
      intro m
      induction m with
      | nil => intro i j h; simp [afind] at h
      | cons q m ih =>
        intro i j h n hn q' hq'
        simp only [afind] at h
        split at h
        · injection h with h; simp at h; omega
        · rename_i e
          cases n with
          | zero => simp at hq'; subst hq'; exact fun e' => e e'.symm
          | succ n => exact ih (i + 1) j h n (by omega) q' (by simpa using hq')
    exact gen m j 0 hj (fun n hn => first m 0 j hf n (by omega))
end
theorem renL_ints (π : Nat → Nat) (l : List Int) : renL π (l.map intA) = l.map intA := renL_map (fun _ => rfl) l
theorem renL_bools (π : Nat → Nat) (l : List Bool) : renL π (l.map boolA) = l.map boolA := renL_map (fun _ => rfl) l
theorem renL_strs (π : Nat → Nat) (l : List ByteArray) : renL π (l.map strA) = l.map strA := renL_map (fun _ => rfl) l
theorem fzL_ints (id k : Nat) (es : List AV) (l : List Int) : fzL id k es (l.map intA) = l.map intA := fzL_map (fun _ => rfl) l
theorem fzL_bools (id k : Nat) (es : List AV) (l : List Bool) : fzL id k es (l.map boolA) = l.map boolA := fzL_map (fun _ => rfl) l
theorem fzL_strs (id k : Nat) (es : List AV) (l : List ByteArray) : fzL id k es (l.map strA) = l.map strA := fzL_map (fun _ => rfl) l
@[simp] theorem lens_intsA (l : List Int) : (intsA l).lens ↔ l.length ≤ 9223372036854775807 := by simp [intsA, AV.lens, lensL_map, intA]
@[simp] theorem lens_boolsA (l : List Bool) : (boolsA l).lens ↔ l.length ≤ 9223372036854775807 := by simp [boolsA, AV.lens, lensL_map, boolA]
@[simp] theorem lens_strsA (l : List ByteArray) : (strsA l).lens ↔ l.length ≤ 9223372036854775807 := by simp [strsA, AV.lens, lensL_map, strA]
@[simp] theorem lens_intA (x : Int) : (intA x).lens := trivial
/-- A row of plain cells goes out as a list. -/
theorem Fz.plain {α : Type} {look : Nat → Option AObj} {id n k : Nat} {f : α → AV} {l : List α} (hlook : look id = some (.arr k (l.map f))) (hn : l.length = n) (hb : ∀ x, (f x).bd 0 = true) (hk : ∀ x, (f x).cells.length = k) : Fz look (.ref id k 0 n) (.sl k (l.map f)) :=
  .row hlook (by simpa using hn) (bdL_map hb l) fun e he => by obtain ⟨x, _, rfl⟩ := List.mem_map.1 he; exact hk x
end Go.Lg

/-
  The walk's rules under one name.
-/
namespace Go.Lg

end Go.Lg

/-
  Grammars as abstract values.
-/
namespace Go.Lg

structure Rul where
  head : Int
  body : List Int
  price : Int
  deriving DecidableEq
structure Gram where
  terms : List ByteArray
  nonterms : List ByteArray
  start : Int
  rules : List Rul
  deriving DecidableEq

def ruleA (r : Rul) : AV := .agg [intA r.head, intsA r.body, intA r.price]
def rulesA (l : List Rul) : AV := .sl 3 (l.map ruleA)
def gramA (g : Gram) : AV := .agg [strsA g.terms, strsA g.nonterms, intA g.start, rulesA g.rules]

@[simp] theorem bd_ruleA (n : Nat) (r : Rul) : (ruleA r).bd n = true := by simp [ruleA, AV.bd, bdL]
@[simp] theorem bdL_ruleA (n : Nat) (l : List Rul) : bdL n (l.map ruleA) = true := bdL_map (bd_ruleA n) l
@[simp] theorem bd_rulesA (n : Nat) (l : List Rul) : (rulesA l).bd n = true := bdL_ruleA n l
@[simp] theorem bd_gramA (n : Nat) (g : Gram) : (gramA g).bd n = true := by simp [gramA, AV.bd, bdL]
theorem renL_rules (π : Nat → Nat) (l : List Rul) : renL π (l.map ruleA) = l.map ruleA := renL_map (bd_ruleA 0) l
theorem fzL_rules (id k : Nat) (es : List AV) (l : List Rul) : fzL id k es (l.map ruleA) = l.map ruleA := fzL_map (bd_ruleA 0) l
/-- The bounds of a grammar's slices. -/
def Gram.fit (g : Gram) : Prop := g.terms.length ≤ 9223372036854775807 ∧ g.nonterms.length ≤ 9223372036854775807 ∧ g.rules.length ≤ 9223372036854775807 ∧ ∀ r, r ∈ g.rules → r.body.length ≤ 9223372036854775807
theorem lens_gramA (g : Gram) : (gramA g).lens ↔ g.fit := by
  simp [gramA, AV.lens, lensL, rulesA, lensL_map, ruleA, Gram.fit, intA]
instance : Inhabited Rul := ⟨⟨0, [], 0⟩⟩
instance : Inhabited Gram := ⟨⟨[], [], 0, []⟩⟩
section
variable {P : Program} {n M N i : Nat} {l : List (Nat × AV)} {os : List (Nat × Option AObj)} {a b : Operand} {d : Tmp} {ty : TypeId} {pos : String} {af : Array Edge} {ops : Array Oper} {rest : List Oper} {KK : List Rec → St → Prop} {K : St → Prop} {rs : List Rec}
/-- append of one rule -/
theorem se_app1R {L : List Rul} {h p : Int} {bd : List Int} {te tj : TI} {tx : TypeId} {bt id id2 len : Nat} [ht : TEl P ty te 3 bt] [h3 : TIc P tx tj] (hsh : (match tj.sh with | .int => false | _ => true) = true) (ha : opq n l a = some (.ref id 3 0 len)) (ho : lookq M os id = some (.arr 3 (L.map ruleA))) (hl : L.length = len)
    (hb : opq n l b = some (.ref id2 3 0 1)) (ho2 : lookq M os id2 = some (.arr 3 [.agg [intA h, intsA bd, intA p]])) (hz0 : (zeroA te).isSome = true) (hbt : Nat.beq bt 0 = false) (hr : (L.length + 1) * bt ≤ 140737488355328) {ty2 : TypeId} (hk : asemC P ops rest (S n ((d, .ref M 3 0 (L ++ [(⟨h, bd, p⟩ : Rul)]).length) :: l) (M + 1) ((M, some (.arr 3 ((L ++ [(⟨h, bd, p⟩ : Rul)]).map ruleA))) :: (id, none) :: os)) K) :
    asemC P ops (⟨some d, .call ⟨.builtin .append, #[a, b], #[ty, tx]⟩, ty2, pos, af, none⟩ :: rest) (S n l M os) K :=
  se_app1 (v := (⟨h, bd, p⟩ : Rul)) hsh ha ho hl hb ho2 hz0 hbt hr hk
theorem rd_app1R {L : List Rul} {h p : Int} {bd : List Int} {te tj : TI} {tx : TypeId} {bt id id2 len : Nat} [ht : TEl P ty te 3 bt] [h3 : TIc P tx tj] (hsh : (match tj.sh with | .int => false | _ => true) = true) (ha : opq n l a = some (.ref id 3 0 len)) (ho : lookq M os id = some (.arr 3 (L.map ruleA))) (hl : L.length = len)
    (hb : opq n l b = some (.ref id2 3 0 1)) (ho2 : lookq M os id2 = some (.arr 3 [.agg [intA h, intsA bd, intA p]])) (hz0 : (zeroA te).isSome = true) (hbt : Nat.beq bt 0 = false) (hr : (L.length + 1) * bt ≤ 140737488355328) {ty2 : TypeId}
    (hk : RunD P ops N (i + 1) rest (S n ((d, .ref (N + i) 3 0 (L ++ [(⟨h, bd, p⟩ : Rul)]).length) :: l) M ((N + i, some (.arr 3 ((L ++ [(⟨h, bd, p⟩ : Rul)]).map ruleA))) :: (id, none) :: os)) (rs ++ [⟨some d, [id, N + i], topq n l [a, b]⟩]) KK) :
    RunD P ops N i (⟨some d, .call ⟨.builtin .append, #[a, b], #[ty, tx]⟩, ty2, pos, af, none⟩ :: rest) (S n l M os) rs KK :=
  rd_app1 (v := (⟨h, bd, p⟩ : Rul)) hsh ha ho hl hb ho2 hz0 hbt hr hk
end
end Go.Lg

/- emendateref18.Name: a valid name. -/
namespace Go.Lg
open Go.Proofs
set_option linter.unusedSimpArgs false
set_option linter.unusedVariables false
attribute [local irreducible] Ap Rq asemC WP RunD Ret Gq thenA inBlockA bodyQ noGotoA RqL RqP OpP
set_option maxHeartbeats 1000000

def letB (c : Int) : Bool := decide (97 ≤ c) && decide (c ≤ 122) || decide (65 ≤ c) && decide (c ≤ 90)
def digB (c : Int) : Bool := decide (48 ≤ c) && decide (c ≤ 57)
def nameCh (s : ByteArray) (i : Nat) : Bool := letB (bAt s i) || (!decide (i = 0) && (digB (bAt s i) || decide (bAt s i = 95) || decide (bAt s i = 46) || decide (bAt s i = 64)))
def nameOk (s : ByteArray) : Bool := decide (1 ≤ s.size) && decide (s.size ≤ 48) && (List.range s.size).all (nameCh s)
theorem range_all_succ {f : Nat → Bool} {k : Nat} (h : (List.range k).all f = true) (hf : f k = true) : (List.range (k + 1)).all f = true := by
  rw [List.range_succ, List.all_append, h]; simp [hf]
theorem range_all_no {f : Nat → Bool} {k n : Nat} (hk : k < n) (hf : f k = false) : (List.range n).all f = false := by
  rw [List.all_eq_false]; exact ⟨k, by simpa using hk, by simp [hf]⟩

theorem name_fn (x : ByteArray) : Fn Try.prog 36 [strA x] (boolA (nameOk x)) := by
  refine Fn.intro (by exact rfl) (by kernel_rfl) Try.func36 rfl rfl Try.ntmps36 (by exact Nat.le_of_ble_eq_true rfl) ?_; intro Γ hm
  (repeat' (first | refine WP.seq ?_ | refine WP.block ?_ | refine go_n ?_ | refine WP.skip ?_ | refine WP.ret ?_ | refine go_r ?_ | refine bo_r ?_ | (refine wp_cond (by exact rfl) (fun hc => ?_) (fun hc => ?_) <;> (try simp only [decide_eq_true_eq, decide_eq_false_iff_not, Decidable.not_not, Bool.and_eq_true, Bool.or_eq_true, Bool.not_eq_true', Bool.not_eq_false', Bool.or_eq_false_iff, Bool.and_eq_false_iff, Int.not_lt, Int.not_le, reduceCtorEq, ne_eq, Bool.not_true, Bool.not_false, Bool.not_eq_true, Bool.not_eq_false] at hc) <;> (try (exfalso; omega))) | (refine WP.regionC (id := 0) ?_; (refine su (ap_assign (by exact rq_p rfl rfl)) ?_); refine asemC_end ?_) | (refine WP.regionC (id := 1) ?_; (refine su (ap_move (by exact rq_p rfl rfl)) ?_); (refine su (ap_len_str (by exact rfl) (by exact rq_p rfl rfl)) ?_); (refine su (ap_lss (by exact rq_p rfl rfl) (by exact rq_p rfl rfl)) ?_); (refine su (ap_move (by exact rq_p rfl rfl)) ?_); (refine sg (by exact gq_vf rfl rfl) (fun he => ap_move (by exact rq_p rfl rfl)) ?_); (refine sg (by exact gq_vf rfl rfl) (fun he => ap_len_str (by exact rfl) (by exact rq_c rfl rfl)) ?_); (refine sg (by exact gq_vf rfl rfl) (fun he => ap_gtr (by exact rq_c rfl rfl) (by exact rq_p rfl rfl)) ?_); (refine su (ap_or (by exact rq_p rfl rfl) (by exact rq_c rfl rfl)) ?_); refine asemC_end ?_) | (refine WP.regionC (id := 2) ?_; (refine su (ap_assign (by exact rq_p rfl rfl)) ?_); refine asemC_end ?_) | (refine WP.regionC (id := 3) ?_; (refine su (ap_assign (by exact rq_p rfl rfl)) ?_); refine asemC_end ?_) | refine ret_b (by exact rfl) ?_))
  · simp [nameOk]; omega
  refine wp_loop (fun k => k ≤ x.size ∧ (List.range k).all (nameCh x) = true) (fun k => x.size - k) (fun k => (S 64 [(0, strA x), (3, intA (k : Nat))] 0 [])) 0 ⟨[], ToR.S rfl (by repeat' (first | exact rt_nil | refine rt_e (by exact rfl) (by exact rfl) ?_)) (by repeat' (exact ro_nil)) (by decide) (by (rw [hm]; exact rfl)) (by exact rfl) (by (simp [bdT, AV.bd, bdL, bdL_append]; done)) (by repeat' (exact True.intro)) (by (rw [hm]; exact Nat.le_of_ble_eq_true rfl))⟩ ⟨Nat.zero_le _, rfl⟩ ?_
  rintro k ⟨hk, hall⟩
  have hb := bAt_bd x k
  (repeat' (first | refine WP.seq ?_ | refine WP.block ?_ | refine go_n ?_ | refine WP.skip ?_ | refine WP.exit ?_ | refine WP.ret ?_ | refine go_x ?_ | refine go_r ?_ | refine bl_n ?_ | refine bl_r ?_ | refine bl_x ?_ | refine bo_r ?_ | (refine wp_cond (by exact rfl) (fun hc => ?_) (fun hc => ?_) <;> (try simp only [decide_eq_true_eq, decide_eq_false_iff_not, Decidable.not_not, Bool.and_eq_true, Bool.or_eq_true, Bool.not_eq_true', Bool.not_eq_false', Bool.or_eq_false_iff, Bool.and_eq_false_iff, Int.not_lt, Int.not_le, reduceCtorEq, ne_eq, Bool.not_true, Bool.not_false, Bool.not_eq_true, Bool.not_eq_false] at hc) <;> (try (exfalso; omega))) | (refine WP.regionC (id := 4) ?_; (refine su (ap_move (by exact rq_p rfl rfl)) ?_); (refine su (ap_move (by exact rq_p rfl rfl)) ?_); (refine su (ap_len_str (by exact rfl) (by exact rq_p rfl rfl)) ?_); (refine su (ap_lss (by exact rq_p rfl rfl) (by exact rq_p rfl rfl)) ?_); refine asemC_end ?_) | (refine WP.regionC (id := 6) ?_; (refine su (ap_move (by exact rq_p rfl rfl)) ?_); (refine su (ap_move (by exact rq_p rfl rfl)) ?_); (refine su (ap_sidx_n (by exact rq_p rfl rfl) (by exact rq_p rfl rfl) (by exact rfl) (by omega)) ?_); (refine su (ap_assign (by exact rq_p rfl rfl)) ?_); refine asemC_end ?_) | (refine WP.regionC (id := 7) ?_; (refine su (ap_move (by exact rq_p rfl rfl)) ?_); (refine su (ap_geq (by exact rq_p rfl rfl) (by exact rq_p rfl rfl)) ?_); (refine su (ap_move (by exact rq_p rfl rfl)) ?_); (refine sg (by exact gq_vt rfl rfl) (fun he => ap_move (by exact rq_p rfl rfl)) ?_); (refine sg (by exact gq_vt rfl rfl) (fun he => ap_leq (by exact rq_c rfl rfl) (by exact rq_p rfl rfl)) ?_); (refine su (ap_and (by exact rq_p rfl rfl) (by exact rq_c rfl rfl)) ?_); (refine su (ap_move (by exact rq_p rfl rfl)) ?_); (refine sg (by exact gq_vf rfl rfl) (fun he => ap_move (by exact rq_p rfl rfl)) ?_); (refine sg (by exact gq_vf rfl rfl) (fun he => ap_geq (by exact rq_c rfl rfl) (by exact rq_p rfl rfl)) ?_); (refine sg (by exact gq_vf rfl rfl) (fun he => ap_move (by exact rq_c rfl rfl)) ?_); (refine sg (by exact gq_ct rfl rfl) (fun he => ap_move (by exact rq_p rfl rfl)) ?_); (refine sg (by exact gq_ct rfl rfl) (fun he => ap_leq (by exact rq_c rfl rfl) (by exact rq_p rfl rfl)) ?_); (refine sg (by exact gq_vf rfl rfl) (fun he => ap_and (by exact rq_c rfl rfl) (by exact rq_c rfl rfl)) ?_); (refine su (ap_or (by exact rq_p rfl rfl) (by exact rq_c rfl rfl)) ?_); (refine su (ap_assign (by exact rq_p rfl rfl)) ?_); refine asemC_end ?_) | (refine WP.regionC (id := 8) ?_; (refine su (ap_move (by exact rq_p rfl rfl)) ?_); (refine su (ap_not (by exact rq_p rfl rfl)) ?_); (refine su (ap_move (by exact rq_p rfl rfl)) ?_); (refine sg (by exact gq_vt rfl rfl) (fun he => ap_move (by exact rq_p rfl rfl)) ?_); (refine sg (by exact gq_vt rfl rfl) (fun he => ap_eql (by exact rq_c rfl rfl) (by exact rq_p rfl rfl)) ?_); (refine sg (by exact gq_vt rfl rfl) (fun he => ap_move (by exact rq_c rfl rfl)) ?_); (refine sg (by exact gq_cf rfl rfl) (fun he => ap_move (by exact rq_p rfl rfl)) ?_); (refine sg (by exact gq_cf rfl rfl) (fun he => ap_geq (by exact rq_c rfl rfl) (by exact rq_p rfl rfl)) ?_); (refine sg (by exact gq_cf rfl rfl) (fun he => ap_move (by exact rq_c rfl rfl)) ?_); (refine sg (by exact gq_ct rfl rfl) (fun he => ap_move (by exact rq_p rfl rfl)) ?_); (refine sg (by exact gq_ct rfl rfl) (fun he => ap_leq (by exact rq_c rfl rfl) (by exact rq_p rfl rfl)) ?_); (refine sg (by exact gq_cf rfl rfl) (fun he => ap_and (by exact rq_c rfl rfl) (by exact rq_c rfl rfl)) ?_); (refine sg (by exact gq_cf rfl rfl) (fun he => ap_move (by exact rq_c rfl rfl)) ?_); (refine sg (by exact gq_cf rfl rfl) (fun he => ap_move (by exact rq_p rfl rfl)) ?_); (refine sg (by exact gq_cf rfl rfl) (fun he => ap_eql (by exact rq_c rfl rfl) (by exact rq_p rfl rfl)) ?_); (refine sg (by exact gq_cf rfl rfl) (fun he => ap_or (by exact rq_c rfl rfl) (by exact rq_c rfl rfl)) ?_); (refine sg (by exact gq_cf rfl rfl) (fun he => ap_move (by exact rq_c rfl rfl)) ?_); (refine sg (by exact gq_cf rfl rfl) (fun he => ap_move (by exact rq_p rfl rfl)) ?_); (refine sg (by exact gq_cf rfl rfl) (fun he => ap_eql (by exact rq_c rfl rfl) (by exact rq_p rfl rfl)) ?_); (refine sg (by exact gq_cf rfl rfl) (fun he => ap_or (by exact rq_c rfl rfl) (by exact rq_c rfl rfl)) ?_); (refine sg (by exact gq_cf rfl rfl) (fun he => ap_move (by exact rq_c rfl rfl)) ?_); (refine sg (by exact gq_cf rfl rfl) (fun he => ap_move (by exact rq_p rfl rfl)) ?_); (refine sg (by exact gq_cf rfl rfl) (fun he => ap_eql (by exact rq_c rfl rfl) (by exact rq_p rfl rfl)) ?_); (refine sg (by exact gq_cf rfl rfl) (fun he => ap_or (by exact rq_c rfl rfl) (by exact rq_c rfl rfl)) ?_); (refine sg (by exact gq_cf rfl rfl) (fun he => ap_not (by exact rq_c rfl rfl)) ?_); (refine sg (by exact gq_vt rfl rfl) (fun he => ap_or (by exact rq_c rfl rfl) (by exact rq_c rfl rfl)) ?_); (refine su (ap_and (by exact rq_p rfl rfl) (by exact rq_c rfl rfl)) ?_); refine asemC_end ?_) | (refine WP.regionC (id := 9) ?_; (refine su (ap_assign (by exact rq_p rfl rfl)) ?_); refine asemC_end ?_) | (refine WP.regionC (id := 5) ?_; (refine su (ap_move (by exact rq_p rfl rfl)) ?_); (refine su (ap_add (by exact rq_p rfl rfl) (by exact rq_p rfl rfl) (by exact inr_i64_of (by omega))) ?_); (refine su (ap_assign (by exact rq_p rfl rfl)) ?_); refine asemC_end ?_) | (refine WP.regionC (id := 10) ?_; (refine su (ap_assign (by exact rq_p rfl rfl)) ?_); refine asemC_end ?_) | refine ret_b (by exact rfl) ?_))
  · rw [show nameOk x = false by simp only [nameOk]; rw [range_all_no (k := k) (by omega), Bool.and_false]; simp [nameCh, letB, digB]; omega]
  · refine ⟨k + 1, ⟨by omega, by omega, range_all_succ hall ?_⟩, ⟨[], ToR.S rfl (by repeat' (first | exact rt_nil | refine rt_e (by exact rfl) (by exact rfl) ?_)) (by repeat' (exact ro_nil)) (by decide) (by (rw [hm]; exact rfl)) (by exact rfl) (by (simp [bdT, AV.bd, bdL, bdL_append]; done)) (by repeat' (exact True.intro)) (by (rw [hm]; exact Nat.le_of_ble_eq_true rfl))⟩⟩
    simp [nameCh, letB, digB]; omega
  have : k = x.size := by omega
  subst this
  simp only [nameOk, hall]; simp; omega
end Go.Lg

/- emendateref18.names: all names are valid and different. -/
namespace Go.Lg
open Go.Proofs
set_option linter.unusedSimpArgs false
set_option linter.unusedVariables false
attribute [local irreducible] Ap Rq asemC WP RunD Ret Gq thenA inBlockA bodyQ noGotoA RqL RqP OpP
set_option maxHeartbeats 1000000

def namesOk (l : List ByteArray) : Bool := l.all nameOk && decide l.Nodup
theorem nodup_nth {α : Type} [Inhabited α] {l : List α} (h : ∀ j, j < l.length → ∀ k, k < j → nth l k ≠ nth l j) : l.Nodup := by
  rw [List.nodup_iff_pairwise_ne, List.pairwise_iff_getElem]
  intro i j hi hj hij
  have := h j hj i hij
  rwa [nth_eq hi, nth_eq hj] at this
theorem not_nodup {α : Type} [Inhabited α] {l : List α} {k j : Nat} (hj : j < l.length) (hk : k < j) (h : nth l k = nth l j) : ¬ l.Nodup := by
  rw [List.nodup_iff_pairwise_ne, List.pairwise_iff_getElem]
  intro hp
  have := hp k j (by omega) hj hk
  rw [nth_eq (by omega), nth_eq hj] at h
  exact this h
theorem all_of_nth {α : Type} [Inhabited α] {l : List α} {f : α → Bool} (h : ∀ j, j < l.length → f (nth l j) = true) : l.all f = true := by
  rw [List.all_eq_true]; intro x hx
  obtain ⟨i, hi, rfl⟩ := List.getElem_of_mem hx
  have := h i hi
  rwa [nth_eq hi] at this

theorem names_fn (a b : List ByteArray) (ha : a.length ≤ 1048576) (hb : b.length ≤ 1048576) : Fn Try.prog 26 [strsA a, strsA b] (boolA (namesOk (a ++ b))) := by
  refine Fn.intro (by exact rfl) (by kernel_rfl) Try.func26 rfl rfl Try.ntmps26 (by exact Nat.le_of_ble_eq_true rfl) ?_; intro Γ hm
  have hab : (a ++ b).length = a.length + b.length := List.length_append
  (repeat' (first | refine WP.seq ?_ | refine WP.block ?_ | refine go_n ?_ | (refine WP.regionC (id := 0) ?_; (refine su (ap_assign (by exact rq_p rfl rfl)) ?_); refine asemC_end ?_) | (refine WP.regionC (id := 1) ?_; (refine su (ap_assign (by exact rq_p rfl rfl)) ?_); refine asemC_end ?_) | (refine WP.regionC (id := 2) ?_; (refine su (ap_move (by exact rq_p rfl rfl)) ?_); (refine su (ap_move (by exact rq_p rfl rfl)) ?_); (refine se_appNL (by exact rfl) (by exact rfl) (by exact rfl) (by exact rfl) (by exact rfl) (by omega) ?_); (refine su (ap_assign (by exact rq_p rfl rfl)) ?_); refine asemC_end ?_) | (refine WP.regionC (id := 3) ?_; (refine su (ap_move (by exact rq_p rfl rfl)) ?_); (refine su (ap_move (by exact rq_p rfl rfl)) ?_); (refine se_appL (by exact rfl) (by exact rfl) (by exact rfl) (by exact rfl) (by exact rfl) (by exact rfl) (by exact rfl) (by omega) ?_); (refine su (ap_assign (by exact rq_p rfl rfl)) ?_); refine asemC_end ?_) | (refine WP.regionC (id := 4) ?_; (refine su (ap_assign (by exact rq_p rfl rfl)) ?_); refine asemC_end ?_)))
  refine wp_loop (fun i => i ≤ (a ++ b).length ∧ ∀ j, j < i → nameOk (nth (a ++ b) j) = true ∧ ∀ k, k < j → nth (a ++ b) k ≠ nth (a ++ b) j) (fun i => (a ++ b).length - i)
    (fun i => (S 40 [(5, .ref 0 1 0 (a ++ b).length), (6, intA (i : Nat))] 1 [(0, some (.arr 1 ((a ++ b).map strA)))])) 0 ⟨[1], ToR.S rfl (by repeat' (first | exact rt_nil | refine rt_r (by exact rfl) (by exact rfl) ?_ | refine rt_e (by exact rfl) (by exact rfl) ?_)) (by repeat' (first | exact ro_nil | refine ro_p (by exact rfl) (by exact rfl) (by exact bdL_map (fun _ => by exact rfl) _) ?_)) (by decide) (by (rw [hm]; exact rfl)) (by exact rfl) (by (simp [bdT, AV.bd, bdL, bdL_append]; done)) (by repeat' (first | exact True.intro | refine And.intro ?_ ?_ | exact bdL_map (fun _ => by exact rfl) _)) (by (rw [hm]; exact Nat.le_of_ble_eq_true rfl))⟩ ⟨Nat.zero_le _, by simp⟩ ?_
  rintro i ⟨hi, hall⟩
  (repeat' (first | refine WP.seq ?_ | refine WP.block ?_ | refine go_n ?_ | refine WP.skip ?_ | refine WP.exit ?_ | refine WP.ret ?_ | refine go_x ?_ | refine go_r ?_ | refine bl_r ?_ | refine bl_x ?_ | refine bo_r ?_ | (refine wp_cond (by exact rfl) (fun hc => ?_) (fun hc => ?_) <;> (try simp only [decide_eq_true_eq, decide_eq_false_iff_not, Decidable.not_not, Bool.and_eq_true, Bool.or_eq_true, Bool.not_eq_true', Bool.not_eq_false', Bool.or_eq_false_iff, Bool.and_eq_false_iff, Int.not_lt, Int.not_le, reduceCtorEq, ne_eq, Bool.not_true, Bool.not_false, Bool.not_eq_true, Bool.not_eq_false] at hc) <;> (try (exfalso; omega))) | (refine WP.regionC (id := 5) ?_; (refine su (ap_move (by exact rq_p rfl rfl)) ?_); (refine su (ap_move (by exact rq_p rfl rfl)) ?_); (refine su (ap_len_r (by exact rfl) (by exact rq_p rfl rfl)) ?_); (refine su (ap_lss (by exact rq_p rfl rfl) (by exact rq_p rfl rfl)) ?_); refine asemC_end ?_) | (refine WP.regionC (id := 7) ?_; (refine su (ap_move (by exact rq_p rfl rfl)) ?_); (refine su (ap_move (by exact rq_p rfl rfl)) ?_); (refine su (ap_idxr_n (by exact rq_p rfl rfl) (by exact rq_p rfl rfl) (by omega)) ?_); (refine su (ap_load_pt (by exact rq_p rfl rfl) (by exact rfl) (by omega) (by exact rfl)) ?_); (refine sc_p rfl rfl (by repeat' first | exact SubL.nil | refine SubL.cons ?_ ?_ | exact Sub.refl) (by (simp [bdL, bdL_append, AV.bd]; done)) (name_fn _) ?_); (refine su (ap_not (by exact rq_p rfl rfl)) ?_); refine asemC_end ?_) | (refine WP.regionC (id := 8) ?_; (refine su (ap_assign (by exact rq_p rfl rfl)) ?_); refine asemC_end ?_) | (refine WP.regionC (id := 9) ?_; (refine su (ap_assign (by exact rq_p rfl rfl)) ?_); refine asemC_end ?_) | (refine WP.regionC (id := 14) ?_; (refine su (ap_assign (by exact rq_p rfl rfl)) ?_); refine asemC_end ?_) | refine ret_b (by exact rfl) ?_))
  · simp only [namesOk, all_nth_no (l := a ++ b) (k := i) (by omega) hc, Bool.false_and]
  · have hn : nameOk (nth (a ++ b) i) = true := by assumption
    refine wp_loop (fun k => k ≤ i ∧ ∀ j, j < k → nth (a ++ b) j ≠ nth (a ++ b) i) (fun k => i - k)
      (fun k => (S 40 [(5, .ref 0 1 0 (a ++ b).length), (6, intA (i : Nat)), (7, intA (k : Nat))] 1 [(0, some (.arr 1 ((a ++ b).map strA)))])) 0 ⟨[0], ToR.S rfl (by repeat' (first | exact rt_nil | refine rt_r (by exact rfl) (by exact rfl) ?_ | refine rt_e (by exact rfl) (by exact rfl) ?_)) (by repeat' (first | exact ro_nil | refine ro_p (by exact rfl) (by exact rfl) (by exact bdL_map (fun _ => by exact rfl) _) ?_)) (by decide) (by (rw [hm]; exact rfl)) (by exact rfl) (by (simp [bdT, AV.bd, bdL, bdL_append]; done)) (by repeat' (first | exact True.intro | refine And.intro ?_ ?_ | exact bdL_map (fun _ => by exact rfl) _)) (by (rw [hm]; exact Nat.le_of_ble_eq_true rfl))⟩ ⟨Nat.zero_le _, by simp⟩ ?_
    rintro k ⟨hk, hne⟩
    (repeat' (first | refine WP.seq ?_ | refine WP.block ?_ | refine go_n ?_ | refine WP.skip ?_ | refine WP.exit ?_ | refine WP.ret ?_ | refine go_x ?_ | refine go_r ?_ | refine bl_n ?_ | refine bl_r ?_ | refine bl_x ?_ | refine bo_r ?_ | (refine wp_cond (by exact rfl) (fun hc => ?_) (fun hc => ?_) <;> (try simp only [decide_eq_true_eq, decide_eq_false_iff_not, Decidable.not_not, Bool.and_eq_true, Bool.or_eq_true, Bool.not_eq_true', Bool.not_eq_false', Bool.or_eq_false_iff, Bool.and_eq_false_iff, Int.not_lt, Int.not_le, reduceCtorEq, ne_eq, Bool.not_true, Bool.not_false, Bool.not_eq_true, Bool.not_eq_false] at hc) <;> (try (exfalso; omega))) | (refine WP.regionC (id := 10) ?_; (refine su (ap_move (by exact rq_p rfl rfl)) ?_); (refine su (ap_move (by exact rq_p rfl rfl)) ?_); (refine su (ap_lss (by exact rq_p rfl rfl) (by exact rq_p rfl rfl)) ?_); refine asemC_end ?_) | (refine wp_draw (id := 12) 9 mixed (by kernel_rfl) (by kernel_rfl) rfl ?_ <;> (refine rd_u (by exact rfl) (by exact rfl) (ap_move (by exact rq_p rfl rfl)) ?_) <;> (refine rd_u (by exact rfl) (by exact rfl) (ap_move (by exact rq_p rfl rfl)) ?_) <;> (refine rd_u (by exact rfl) (by exact rfl) (ap_idxr_n (by exact rq_p rfl rfl) (by exact rq_p rfl rfl) (by omega)) ?_) <;> (refine rd_u (by exact rfl) (by exact rfl) (ap_load_pt (by exact rq_p rfl rfl) (by exact rfl) (by omega) (by exact rfl)) ?_) <;> (refine rd_u (by exact rfl) (by exact rfl) (ap_move (by exact rq_p rfl rfl)) ?_) <;> (refine rd_u (by exact rfl) (by exact rfl) (ap_move (by exact rq_p rfl rfl)) ?_) <;> (refine rd_u (by exact rfl) (by exact rfl) (ap_idxr_n (by exact rq_p rfl rfl) (by exact rq_p rfl rfl) (by omega)) ?_) <;> (refine rd_u (by exact rfl) (by exact rfl) (ap_load_pt (by exact rq_p rfl rfl) (by exact rfl) (by omega) (by exact rfl)) ?_) <;> (refine rd_u (by exact rfl) (by exact rfl) (ap_eqs (by exact rq_p rfl rfl) (by exact rq_p rfl rfl)) ?_) <;> (refine rd_end (by kernel_rfl) ?_)) | (refine WP.regionC (id := 13) ?_; (refine su (ap_assign (by exact rq_p rfl rfl)) ?_); refine asemC_end ?_) | (refine WP.regionC (id := 11) ?_; (refine su (ap_move (by exact rq_p rfl rfl)) ?_); (refine su (ap_add (by exact rq_p rfl rfl) (by exact rq_p rfl rfl) (by exact inr_i64_of (by omega))) ?_); (refine su (ap_assign (by exact rq_p rfl rfl)) ?_); refine asemC_end ?_) | (refine WP.regionC (id := 6) ?_; (refine su (ap_move (by exact rq_p rfl rfl)) ?_); (refine su (ap_add (by exact rq_p rfl rfl) (by exact rq_p rfl rfl) (by exact inr_i64_of (by omega))) ?_); (refine su (ap_assign (by exact rq_p rfl rfl)) ?_); refine asemC_end ?_) | refine ret_b (by exact rfl) ?_))
    · simp only [namesOk, decide_eq_false (not_nodup (l := a ++ b) (j := i) (k := k) (by omega) (by omega) hc), Bool.and_false]
    · refine ⟨k + 1, ⟨by omega, by omega, fun j hj => ?_⟩, ⟨[0], ToR.S rfl (by repeat' (first | exact rt_nil | refine rt_r (by exact rfl) (by exact rfl) ?_ | refine rt_e (by exact rfl) (by exact rfl) ?_)) (by repeat' (first | exact ro_nil | refine ro_p (by exact rfl) (by exact rfl) (by exact bdL_map (fun _ => by exact rfl) _) ?_)) (by decide) (by (rw [hm]; exact rfl)) (by exact rfl) (by (simp [bdT, AV.bd, bdL, bdL_append]; done)) (by repeat' (first | exact True.intro | refine And.intro ?_ ?_ | exact bdL_map (fun _ => by exact rfl) _)) (by (rw [hm]; exact Nat.le_of_ble_eq_true rfl))⟩⟩
      by_cases h : j = k
      · subst h; exact hc
      · exact hne j (by omega)
    · refine ⟨i + 1, ⟨by omega, by omega, fun j hj => ?_⟩, ⟨[0], ToR.S rfl (by repeat' (first | exact rt_nil | refine rt_r (by exact rfl) (by exact rfl) ?_ | refine rt_e (by exact rfl) (by exact rfl) ?_)) (by repeat' (first | exact ro_nil | refine ro_p (by exact rfl) (by exact rfl) (by exact bdL_map (fun _ => by exact rfl) _) ?_)) (by decide) (by (rw [hm]; exact rfl)) (by exact rfl) (by (simp [bdT, AV.bd, bdL, bdL_append]; done)) (by repeat' (first | exact True.intro | refine And.intro ?_ ?_ | exact bdL_map (fun _ => by exact rfl) _)) (by (rw [hm]; exact Nat.le_of_ble_eq_true rfl))⟩⟩
      by_cases h : j = i
      · subst h; exact ⟨hn, fun k' hk' => hne k' (by omega)⟩
      · exact hall j (by omega)
  have : i = (a ++ b).length := by omega
  subst this
  simp only [namesOk, all_of_nth fun j hj => (hall j hj).1, decide_eq_true (nodup_nth fun j hj => (hall j hj).2), Bool.and_true]
end Go.Lg

/- emendateref18.sameNames, emendateref07.Ints: lists are equal. -/
namespace Go.Lg
open Go.Proofs
set_option linter.unusedSimpArgs false
set_option linter.unusedVariables false
attribute [local irreducible] Ap Rq asemC WP RunD Ret Gq thenA inBlockA bodyQ noGotoA RqL RqP OpP
set_option maxHeartbeats 1000000

theorem nth_default {α : Type} [Inhabited α] {l : List α} {k : Nat} (h : l.length ≤ k) : nth l k = default := by simp [nth, List.getD, List.getElem?_eq_none h]
theorem take_eq_succ {α : Type} [Inhabited α] {a b : List α} {k : Nat} (ha : k < a.length) (hb : k < b.length) (h : a.take k = b.take k) (he : nth a k = nth b k) : a.take (k + 1) = b.take (k + 1) := by
  rw [take_succ_nth ha, take_succ_nth hb, h, he]
theorem eq_of_takes {α : Type} {a b : List α} {k : Nat} (hl : a.length = b.length) (hk : a.length ≤ k) (h : a.take k = b.take k) : a = b := by
  rwa [List.take_of_length_le hk, List.take_of_length_le (by omega)] at h

theorem sameNames_fn (a b : List ByteArray) : Fn Try.prog 25 [strsA a, strsA b] (boolA (decide (a = b))) := by
  refine Fn.intro (by exact rfl) (by kernel_rfl) Try.func25 rfl rfl Try.ntmps25 (by exact Nat.le_of_ble_eq_true rfl) ?_; intro Γ hm
  refine wp_lens 0 rfl fun h0 => wp_lens 1 rfl fun h1 => ?_
  rw [lens_strsA] at h0 h1
  (repeat' (first | refine WP.seq ?_ | refine WP.block ?_ | refine go_n ?_ | refine WP.skip ?_ | refine WP.ret ?_ | refine go_r ?_ | refine bo_r ?_ | (refine wp_cond (by exact rfl) (fun hc => ?_) (fun hc => ?_) <;> (try simp only [decide_eq_true_eq, decide_eq_false_iff_not, Decidable.not_not, Bool.and_eq_true, Bool.or_eq_true, Bool.not_eq_true', Bool.not_eq_false', Bool.or_eq_false_iff, Bool.and_eq_false_iff, Int.not_lt, Int.not_le, reduceCtorEq, ne_eq, Bool.not_true, Bool.not_false, Bool.not_eq_true, Bool.not_eq_false] at hc) <;> (try (exfalso; omega))) | (refine WP.regionC (id := 0) ?_; (refine su (ap_assign (by exact rq_p rfl rfl)) ?_); refine asemC_end ?_) | (refine WP.regionC (id := 1) ?_; (refine su (ap_move (by exact rq_p rfl rfl)) ?_); (refine su (ap_len_m (by exact rfl) (by exact rq_p rfl rfl)) ?_); (refine su (ap_move (by exact rq_p rfl rfl)) ?_); (refine su (ap_len_m (by exact rfl) (by exact rq_p rfl rfl)) ?_); (refine su (ap_neq (by exact rq_p rfl rfl) (by exact rq_p rfl rfl)) ?_); refine asemC_end ?_) | (refine WP.regionC (id := 2) ?_; (refine su (ap_assign (by exact rq_p rfl rfl)) ?_); refine asemC_end ?_) | (refine WP.regionC (id := 3) ?_; (refine su (ap_assign (by exact rq_p rfl rfl)) ?_); refine asemC_end ?_) | refine ret_b (by exact rfl) ?_))
  · have : a ≠ b := by rintro rfl; exact hc rfl
    simp [this]
  refine wp_loop (fun k => k ≤ a.length ∧ a.take k = b.take k) (fun k => a.length - k) (fun k => (S 26 [(0, strsA a), (1, strsA b), (5, intA (k : Nat))] 0 [])) 0 ⟨[], ToR.S rfl (by repeat' (first | exact rt_nil | refine rt_e (by exact rfl) (by exact rfl) ?_ | refine rt_p (by exact rfl) (by exact rfl) (by (simp [AV.bd, bdL, bdL_append]; done)) ?_)) (by repeat' (exact ro_nil)) (by decide) (by (rw [hm]; exact rfl)) (by exact rfl) (by (simp [bdT, AV.bd, bdL, bdL_append]; done)) (by repeat' (exact True.intro)) (by (rw [hm]; exact Nat.le_of_ble_eq_true rfl))⟩ ⟨Nat.zero_le _, rfl⟩ ?_
  rintro k ⟨hk, hall⟩
  have hab : a.length = b.length := by omega
  (repeat' (first | refine WP.seq ?_ | refine WP.block ?_ | refine go_n ?_ | refine WP.skip ?_ | refine WP.exit ?_ | refine WP.ret ?_ | refine go_x ?_ | refine go_r ?_ | refine bl_n ?_ | refine bl_r ?_ | refine bl_x ?_ | refine bo_r ?_ | (refine wp_cond (by exact rfl) (fun hc => ?_) (fun hc => ?_) <;> (try simp only [decide_eq_true_eq, decide_eq_false_iff_not, Decidable.not_not, Bool.and_eq_true, Bool.or_eq_true, Bool.not_eq_true', Bool.not_eq_false', Bool.or_eq_false_iff, Bool.and_eq_false_iff, Int.not_lt, Int.not_le, reduceCtorEq, ne_eq, Bool.not_true, Bool.not_false, Bool.not_eq_true, Bool.not_eq_false] at hc) <;> (try (exfalso; omega))) | (refine WP.regionC (id := 4) ?_; (refine su (ap_move (by exact rq_p rfl rfl)) ?_); (refine su (ap_move (by exact rq_p rfl rfl)) ?_); (refine su (ap_len_m (by exact rfl) (by exact rq_p rfl rfl)) ?_); (refine su (ap_lss (by exact rq_p rfl rfl) (by exact rq_p rfl rfl)) ?_); refine asemC_end ?_) | (refine wp_draw (id := 6) 9 mixed (by kernel_rfl) (by kernel_rfl) rfl ?_ <;> (refine rd_u (by exact rfl) (by exact rfl) (ap_move (by exact rq_p rfl rfl)) ?_) <;> (refine rd_u (by exact rfl) (by exact rfl) (ap_move (by exact rq_p rfl rfl)) ?_) <;> (refine rd_u (by exact rfl) (by exact rfl) (ap_idx_n (by exact rq_p rfl rfl) (by exact rq_p rfl rfl) (by omega)) ?_) <;> (refine rd_u (by exact rfl) (by exact rfl) (ap_load_w (by exact rq_p rfl rfl) (by exact rfl)) ?_) <;> (refine rd_u (by exact rfl) (by exact rfl) (ap_move (by exact rq_p rfl rfl)) ?_) <;> (refine rd_u (by exact rfl) (by exact rfl) (ap_move (by exact rq_p rfl rfl)) ?_) <;> (refine rd_u (by exact rfl) (by exact rfl) (ap_idx_n (by exact rq_p rfl rfl) (by exact rq_p rfl rfl) (by omega)) ?_) <;> (refine rd_u (by exact rfl) (by exact rfl) (ap_load_w (by exact rq_p rfl rfl) (by exact rfl)) ?_) <;> (refine rd_u (by exact rfl) (by exact rfl) (ap_nes (by exact rq_p rfl rfl) (by exact rq_p rfl rfl)) ?_) <;> (refine rd_end (by kernel_rfl) ?_)) | (refine WP.regionC (id := 7) ?_; (refine su (ap_assign (by exact rq_p rfl rfl)) ?_); refine asemC_end ?_) | (refine WP.regionC (id := 5) ?_; (refine su (ap_move (by exact rq_p rfl rfl)) ?_); (refine su (ap_add (by exact rq_p rfl rfl) (by exact rq_p rfl rfl) (by exact inr_i64_of (by omega))) ?_); (refine su (ap_assign (by exact rq_p rfl rfl)) ?_); refine asemC_end ?_) | (refine WP.regionC (id := 8) ?_; (refine su (ap_assign (by exact rq_p rfl rfl)) ?_); refine asemC_end ?_) | refine ret_b (by exact rfl) ?_))
  · have : a ≠ b := by rintro rfl; exact hc rfl
    simp [this]
  · exact ⟨k + 1, ⟨by omega, by omega, take_eq_succ (by omega) (by omega) hall hc⟩, ⟨[], ToR.S rfl (by repeat' (first | exact rt_nil | refine rt_e (by exact rfl) (by exact rfl) ?_ | refine rt_p (by exact rfl) (by exact rfl) (by (simp [AV.bd, bdL, bdL_append]; done)) ?_)) (by repeat' (exact ro_nil)) (by decide) (by (rw [hm]; exact rfl)) (by exact rfl) (by (simp [bdT, AV.bd, bdL, bdL_append]; done)) (by repeat' (exact True.intro)) (by (rw [hm]; exact Nat.le_of_ble_eq_true rfl))⟩⟩
  simp [eq_of_takes hab (by omega) hall]

theorem ints_fn (a b : List Int) : Fn Try.prog 13 [intsA a, intsA b] (boolA (decide (a = b))) := by
  refine Fn.intro (by exact rfl) (by kernel_rfl) Try.func13 rfl rfl Try.ntmps13 (by exact Nat.le_of_ble_eq_true rfl) ?_; intro Γ hm
  refine wp_lens 0 rfl fun h0 => wp_lens 1 rfl fun h1 => ?_
  rw [lens_intsA] at h0 h1
  (repeat' (first | refine WP.seq ?_ | refine WP.block ?_ | refine go_n ?_ | refine WP.skip ?_ | refine WP.ret ?_ | refine go_r ?_ | refine bo_r ?_ | (refine wp_cond (by exact rfl) (fun hc => ?_) (fun hc => ?_) <;> (try simp only [decide_eq_true_eq, decide_eq_false_iff_not, Decidable.not_not, Bool.and_eq_true, Bool.or_eq_true, Bool.not_eq_true', Bool.not_eq_false', Bool.or_eq_false_iff, Bool.and_eq_false_iff, Int.not_lt, Int.not_le, reduceCtorEq, ne_eq, Bool.not_true, Bool.not_false, Bool.not_eq_true, Bool.not_eq_false] at hc) <;> (try (exfalso; omega))) | (refine WP.regionC (id := 0) ?_; (refine su (ap_assign (by exact rq_p rfl rfl)) ?_); refine asemC_end ?_) | (refine WP.regionC (id := 1) ?_; (refine su (ap_move (by exact rq_p rfl rfl)) ?_); (refine su (ap_len_m (by exact rfl) (by exact rq_p rfl rfl)) ?_); (refine su (ap_move (by exact rq_p rfl rfl)) ?_); (refine su (ap_len_m (by exact rfl) (by exact rq_p rfl rfl)) ?_); (refine su (ap_neq (by exact rq_p rfl rfl) (by exact rq_p rfl rfl)) ?_); refine asemC_end ?_) | (refine WP.regionC (id := 2) ?_; (refine su (ap_assign (by exact rq_p rfl rfl)) ?_); refine asemC_end ?_) | (refine WP.regionC (id := 3) ?_; (refine su (ap_assign (by exact rq_p rfl rfl)) ?_); refine asemC_end ?_) | refine ret_b (by exact rfl) ?_))
  · have : a ≠ b := by rintro rfl; exact hc rfl
    simp [this]
  refine wp_loop (fun k => k ≤ a.length ∧ a.take k = b.take k) (fun k => a.length - k) (fun k => (S 26 [(0, intsA a), (1, intsA b), (5, intA (k : Nat))] 0 [])) 0 ⟨[], ToR.S rfl (by repeat' (first | exact rt_nil | refine rt_e (by exact rfl) (by exact rfl) ?_ | refine rt_p (by exact rfl) (by exact rfl) (by (simp [AV.bd, bdL, bdL_append]; done)) ?_)) (by repeat' (exact ro_nil)) (by decide) (by (rw [hm]; exact rfl)) (by exact rfl) (by (simp [bdT, AV.bd, bdL, bdL_append]; done)) (by repeat' (exact True.intro)) (by (rw [hm]; exact Nat.le_of_ble_eq_true rfl))⟩ ⟨Nat.zero_le _, rfl⟩ ?_
  rintro k ⟨hk, hall⟩
  have hab : a.length = b.length := by omega
  (repeat' (first | refine WP.seq ?_ | refine WP.block ?_ | refine go_n ?_ | refine WP.skip ?_ | refine WP.exit ?_ | refine WP.ret ?_ | refine go_x ?_ | refine go_r ?_ | refine bl_n ?_ | refine bl_r ?_ | refine bl_x ?_ | refine bo_r ?_ | (refine wp_cond (by exact rfl) (fun hc => ?_) (fun hc => ?_) <;> (try simp only [decide_eq_true_eq, decide_eq_false_iff_not, Decidable.not_not, Bool.and_eq_true, Bool.or_eq_true, Bool.not_eq_true', Bool.not_eq_false', Bool.or_eq_false_iff, Bool.and_eq_false_iff, Int.not_lt, Int.not_le, reduceCtorEq, ne_eq, Bool.not_true, Bool.not_false, Bool.not_eq_true, Bool.not_eq_false] at hc) <;> (try (exfalso; omega))) | (refine WP.regionC (id := 4) ?_; (refine su (ap_move (by exact rq_p rfl rfl)) ?_); (refine su (ap_move (by exact rq_p rfl rfl)) ?_); (refine su (ap_len_m (by exact rfl) (by exact rq_p rfl rfl)) ?_); (refine su (ap_lss (by exact rq_p rfl rfl) (by exact rq_p rfl rfl)) ?_); refine asemC_end ?_) | (refine wp_draw (id := 6) 9 mixed (by kernel_rfl) (by kernel_rfl) rfl ?_ <;> (refine rd_u (by exact rfl) (by exact rfl) (ap_move (by exact rq_p rfl rfl)) ?_) <;> (refine rd_u (by exact rfl) (by exact rfl) (ap_move (by exact rq_p rfl rfl)) ?_) <;> (refine rd_u (by exact rfl) (by exact rfl) (ap_idx_n (by exact rq_p rfl rfl) (by exact rq_p rfl rfl) (by omega)) ?_) <;> (refine rd_u (by exact rfl) (by exact rfl) (ap_load_w (by exact rq_p rfl rfl) (by exact rfl)) ?_) <;> (refine rd_u (by exact rfl) (by exact rfl) (ap_move (by exact rq_p rfl rfl)) ?_) <;> (refine rd_u (by exact rfl) (by exact rfl) (ap_move (by exact rq_p rfl rfl)) ?_) <;> (refine rd_u (by exact rfl) (by exact rfl) (ap_idx_n (by exact rq_p rfl rfl) (by exact rq_p rfl rfl) (by omega)) ?_) <;> (refine rd_u (by exact rfl) (by exact rfl) (ap_load_w (by exact rq_p rfl rfl) (by exact rfl)) ?_) <;> (refine rd_u (by exact rfl) (by exact rfl) (ap_neq (by exact rq_p rfl rfl) (by exact rq_p rfl rfl)) ?_) <;> (refine rd_end (by kernel_rfl) ?_)) | (refine WP.regionC (id := 7) ?_; (refine su (ap_assign (by exact rq_p rfl rfl)) ?_); refine asemC_end ?_) | (refine WP.regionC (id := 5) ?_; (refine su (ap_move (by exact rq_p rfl rfl)) ?_); (refine su (ap_add (by exact rq_p rfl rfl) (by exact rq_p rfl rfl) (by exact inr_i64_of (by omega))) ?_); (refine su (ap_assign (by exact rq_p rfl rfl)) ?_); refine asemC_end ?_) | (refine WP.regionC (id := 8) ?_; (refine su (ap_assign (by exact rq_p rfl rfl)) ?_); refine asemC_end ?_) | refine ret_b (by exact rfl) ?_))
  · have : a ≠ b := by rintro rfl; exact hc rfl
    simp [this]
  · exact ⟨k + 1, ⟨by omega, by omega, take_eq_succ (by omega) (by omega) hall hc⟩, ⟨[], ToR.S rfl (by repeat' (first | exact rt_nil | refine rt_e (by exact rfl) (by exact rfl) ?_ | refine rt_p (by exact rfl) (by exact rfl) (by (simp [AV.bd, bdL, bdL_append]; done)) ?_)) (by repeat' (exact ro_nil)) (by decide) (by (rw [hm]; exact rfl)) (by exact rfl) (by (simp [bdT, AV.bd, bdL, bdL_append]; done)) (by repeat' (exact True.intro)) (by (rw [hm]; exact Nat.le_of_ble_eq_true rfl))⟩⟩
  simp [eq_of_takes hab (by omega) hall]
end Go.Lg

/- emendateref18.Valid: a valid grammar; emendateref18.Equal. -/
namespace Go.Lg
open Go.Proofs
set_option linter.unusedSimpArgs false
set_option linter.unusedVariables false
attribute [local irreducible] Ap Rq asemC WP RunD Ret Gq thenA inBlockA bodyQ noGotoA RqL RqP OpP
set_option maxHeartbeats 4000000

def symOk (g : Gram) (x : Int) : Bool := decide (x < g.terms.length) && decide (-(g.nonterms.length : Int) ≤ x)
def ruleOk (g : Gram) (r : Rul) : Bool := decide (0 ≤ r.head) && decide (r.head < g.nonterms.length) && decide (r.body.length ≤ 12) && decide (0 ≤ r.price) && decide (r.price ≤ 1000) && r.body.all (symOk g)
def validG (g : Gram) : Bool := decide (g.terms.length ≤ 120) && decide (1 ≤ g.nonterms.length) && decide (g.nonterms.length ≤ 120) && decide (1 ≤ g.rules.length) && decide (g.rules.length ≤ 120) && decide (0 ≤ g.start) && decide (g.start < g.nonterms.length) && namesOk (g.terms ++ g.nonterms) && g.rules.all (ruleOk g)

theorem validG_no {g : Gram} {i : Nat} (hi : i < g.rules.length) (h : ruleOk g (nth g.rules i) = false) : validG g = false := by
  simp only [validG, all_nth_no (l := g.rules) (f := ruleOk g) hi h, Bool.and_false]
theorem ruleOk_no {g : Gram} {r : Rul} {k : Nat} (hk : k < r.body.length) (h : symOk g (nth r.body k) = false) : ruleOk g r = false := by
  simp only [ruleOk, all_nth_no (l := r.body) (f := symOk g) hk h, Bool.and_false]

theorem rvalid_fn (g : Gram) : Fn Try.prog 14 [gramA g] (boolA (validG g)) := by
  refine Fn.intro (by exact rfl) (by kernel_rfl) Try.func14 rfl rfl Try.ntmps14 (by exact Nat.le_of_ble_eq_true rfl) ?_; intro Γ hm
  refine wp_lens 0 rfl fun hl => ?_
  obtain ⟨hl1, hl2, hl3, hl4⟩ := (lens_gramA g).1 hl
  (repeat' (first | refine WP.seq ?_ | refine WP.block ?_ | refine go_n ?_ | refine WP.skip ?_ | refine WP.ret ?_ | refine go_r ?_ | refine bo_r ?_ | (refine wp_cond (by exact rfl) (fun hc => ?_) (fun hc => ?_) <;> (try simp only [decide_eq_true_eq, decide_eq_false_iff_not, Decidable.not_not, Bool.and_eq_true, Bool.or_eq_true, Bool.not_eq_true', Bool.not_eq_false', Bool.or_eq_false_iff, Bool.and_eq_false_iff, Int.not_lt, Int.not_le, reduceCtorEq, ne_eq, Bool.not_true, Bool.not_false, Bool.not_eq_true, Bool.not_eq_false] at hc) <;> (try (exfalso; omega))) | (refine WP.regionC (id := 0) ?_; (refine se_box (by exact rfl) (by exact ⟨rfl, rfl⟩) ?_); (refine su (ap_assign (by exact rq_p rfl rfl)) ?_); refine asemC_end ?_) | (refine WP.regionC (id := 1) ?_; (refine su (ap_field_p (by exact rq_p rfl rfl) (by exact rfl) (by exact rfl)) ?_); (refine su (ap_load_p (by exact rq_p rfl rfl) (by exact rfl) (by exact rfl) (by exact rfl)) ?_); (refine su (ap_len_m (by exact rfl) (by exact rq_p rfl rfl)) ?_); (refine su (ap_gtr (by exact rq_p rfl rfl) (by exact rq_p rfl rfl)) ?_); (refine su (ap_move (by exact rq_p rfl rfl)) ?_); (refine sg (by exact gq_vf rfl rfl) (fun he => ap_field_p (by exact rq_p rfl rfl) (by exact rfl) (by exact rfl)) ?_); (refine sg (by exact gq_vf rfl rfl) (fun he => ap_load_p (by exact rq_c rfl rfl) (by exact rfl) (by exact rfl) (by exact rfl)) ?_); (refine sg (by exact gq_vf rfl rfl) (fun he => ap_len_m (by exact rfl) (by exact rq_c rfl rfl)) ?_); (refine sg (by exact gq_vf rfl rfl) (fun he => ap_lss (by exact rq_c rfl rfl) (by exact rq_p rfl rfl)) ?_); (refine su (ap_or (by exact rq_p rfl rfl) (by exact rq_c rfl rfl)) ?_); (refine su (ap_move (by exact rq_p rfl rfl)) ?_); (refine sg (by exact gq_vf rfl rfl) (fun he => ap_field_p (by exact rq_p rfl rfl) (by exact rfl) (by exact rfl)) ?_); (refine sg (by exact gq_vf rfl rfl) (fun he => ap_load_p (by exact rq_c rfl rfl) (by exact rfl) (by exact rfl) (by exact rfl)) ?_); (refine sg (by exact gq_vf rfl rfl) (fun he => ap_len_m (by exact rfl) (by exact rq_c rfl rfl)) ?_); (refine sg (by exact gq_vf rfl rfl) (fun he => ap_gtr (by exact rq_c rfl rfl) (by exact rq_p rfl rfl)) ?_); (refine su (ap_or (by exact rq_p rfl rfl) (by exact rq_c rfl rfl)) ?_); (refine su (ap_move (by exact rq_p rfl rfl)) ?_); (refine sg (by exact gq_vf rfl rfl) (fun he => ap_field_p (by exact rq_p rfl rfl) (by exact rfl) (by exact rfl)) ?_); (refine sg (by exact gq_vf rfl rfl) (fun he => ap_load_p (by exact rq_c rfl rfl) (by exact rfl) (by exact rfl) (by exact rfl)) ?_); (refine sg (by exact gq_vf rfl rfl) (fun he => ap_len_m (by exact rfl) (by exact rq_c rfl rfl)) ?_); (refine sg (by exact gq_vf rfl rfl) (fun he => ap_lss (by exact rq_c rfl rfl) (by exact rq_p rfl rfl)) ?_); (refine su (ap_or (by exact rq_p rfl rfl) (by exact rq_c rfl rfl)) ?_); (refine su (ap_move (by exact rq_p rfl rfl)) ?_); (refine sg (by exact gq_vf rfl rfl) (fun he => ap_field_p (by exact rq_p rfl rfl) (by exact rfl) (by exact rfl)) ?_); (refine sg (by exact gq_vf rfl rfl) (fun he => ap_load_p (by exact rq_c rfl rfl) (by exact rfl) (by exact rfl) (by exact rfl)) ?_); (refine sg (by exact gq_vf rfl rfl) (fun he => ap_len_m (by exact rfl) (by exact rq_c rfl rfl)) ?_); (refine sg (by exact gq_vf rfl rfl) (fun he => ap_gtr (by exact rq_c rfl rfl) (by exact rq_p rfl rfl)) ?_); (refine su (ap_or (by exact rq_p rfl rfl) (by exact rq_c rfl rfl)) ?_); refine asemC_end ?_) | (refine WP.regionC (id := 2) ?_; (refine su (ap_assign (by exact rq_p rfl rfl)) ?_); refine asemC_end ?_) | (refine WP.regionC (id := 3) ?_; (refine su (ap_field_p (by exact rq_p rfl rfl) (by exact rfl) (by exact rfl)) ?_); (refine su (ap_load_p (by exact rq_p rfl rfl) (by exact rfl) (by exact rfl) (by exact rfl)) ?_); (refine su (ap_lss (by exact rq_p rfl rfl) (by exact rq_p rfl rfl)) ?_); (refine su (ap_move (by exact rq_p rfl rfl)) ?_); (refine sg (by exact gq_vf rfl rfl) (fun he => ap_field_p (by exact rq_p rfl rfl) (by exact rfl) (by exact rfl)) ?_); (refine sg (by exact gq_vf rfl rfl) (fun he => ap_load_p (by exact rq_c rfl rfl) (by exact rfl) (by exact rfl) (by exact rfl)) ?_); (refine sg (by exact gq_vf rfl rfl) (fun he => ap_field_p (by exact rq_p rfl rfl) (by exact rfl) (by exact rfl)) ?_); (refine sg (by exact gq_vf rfl rfl) (fun he => ap_load_p (by exact rq_c rfl rfl) (by exact rfl) (by exact rfl) (by exact rfl)) ?_); (refine sg (by exact gq_vf rfl rfl) (fun he => ap_len_m (by exact rfl) (by exact rq_c rfl rfl)) ?_); (refine sg (by exact gq_vf rfl rfl) (fun he => ap_geq (by exact rq_c rfl rfl) (by exact rq_c rfl rfl)) ?_); (refine su (ap_or (by exact rq_p rfl rfl) (by exact rq_c rfl rfl)) ?_); (refine su (ap_move (by exact rq_p rfl rfl)) ?_); (refine sg (by exact gq_vf rfl rfl) (fun he => ap_field_p (by exact rq_p rfl rfl) (by exact rfl) (by exact rfl)) ?_); (refine sg (by exact gq_vf rfl rfl) (fun he => ap_load_p (by exact rq_c rfl rfl) (by exact rfl) (by exact rfl) (by exact rfl)) ?_); (refine sg (by exact gq_vf rfl rfl) (fun he => ap_field_p (by exact rq_p rfl rfl) (by exact rfl) (by exact rfl)) ?_); (refine sg (by exact gq_vf rfl rfl) (fun he => ap_load_p (by exact rq_c rfl rfl) (by exact rfl) (by exact rfl) (by exact rfl)) ?_); (refine sg_b (by exact gq_vf rfl rfl) (fun he => ⟨(by exact rq_p rfl rfl), (RqL.cons (by exact rq_c rfl rfl) (RqL.cons (by exact rq_c rfl rfl) (RqL.nil))), (by repeat' first | exact FzL.nil | refine FzL.cons ?_ ?_ | (exact Fz.reflp (by simp [AV.bd, bdL, bdL_append]))), names_fn _ _ (by (try simp only [List.all_cons, List.all_append, List.all_nil, id, Bool.and_true, decide_eq_true_eq, decide_eq_false_iff_not, Decidable.not_not, Bool.and_eq_true, Bool.or_eq_true, Bool.not_eq_true', Bool.not_eq_false', Bool.or_eq_false_iff, Bool.and_eq_false_iff, Int.not_lt, Int.not_le, reduceCtorEq, ne_eq, Bool.not_true, Bool.not_false, Bool.not_eq_true, Bool.not_eq_false] at he); omega) (by (try simp only [List.all_cons, List.all_append, List.all_nil, id, Bool.and_true, decide_eq_true_eq, decide_eq_false_iff_not, Decidable.not_not, Bool.and_eq_true, Bool.or_eq_true, Bool.not_eq_true', Bool.not_eq_false', Bool.or_eq_false_iff, Bool.and_eq_false_iff, Int.not_lt, Int.not_le, reduceCtorEq, ne_eq, Bool.not_true, Bool.not_false, Bool.not_eq_true, Bool.not_eq_false] at he); omega), (by exact rfl)⟩) ?_); (refine sg (by exact gq_vf rfl rfl) (fun he => ap_not (by exact rq_c rfl rfl)) ?_); (refine su (ap_or (by exact rq_p rfl rfl) (by exact rq_c rfl rfl)) ?_); refine asemC_end ?_) | (refine WP.regionC (id := 4) ?_; (refine su (ap_assign (by exact rq_p rfl rfl)) ?_); refine asemC_end ?_) | (refine WP.regionC (id := 5) ?_; (refine su (ap_assign (by exact rq_p rfl rfl)) ?_); refine asemC_end ?_) | refine ret_b (by exact rfl) ?_))
  · simp [validG]; omega
  · rcases hc with hc | hc
    · simp [validG]; omega
    · simp [validG, hc]
  have hns : namesOk (g.terms ++ g.nonterms) = true := hc.2
  refine wp_loop (fun i => i ≤ g.rules.length ∧ (g.rules.take i).all (ruleOk g) = true) (fun i => g.rules.length - i)
    (fun i => (S 120 [(1, .ptr 0 4 0 0), (3, intA (i : Nat))] 1 [(0, some (.arr 4 [gramA g]))])) 0 ⟨[0], ToR.S rfl (by repeat' (first | exact rt_nil | refine rt_t (by exact rfl) (by exact rfl) ?_ | refine rt_e (by exact rfl) (by exact rfl) ?_)) (by repeat' (first | exact ro_nil | refine ro_p (by exact rfl) (by exact rfl) (by (simp [bdL, bdL_append, AV.bd]; done)) ?_)) (by decide) (by (rw [hm]; exact rfl)) (by exact rfl) (by (simp [bdT, AV.bd, bdL, bdL_append]; done)) (by repeat' (first | exact True.intro | refine And.intro ?_ ?_ | (simp [bdOq, bdL, bdL_append, AV.bd]; done))) (by (rw [hm]; exact Nat.le_of_ble_eq_true rfl))⟩ ⟨Nat.zero_le _, rfl⟩ ?_
  rintro i ⟨hi, hall⟩
  (repeat' (first | refine WP.seq ?_ | refine WP.block ?_ | refine go_n ?_ | refine WP.skip ?_ | refine WP.exit ?_ | refine WP.ret ?_ | refine go_x ?_ | refine go_r ?_ | refine bl_r ?_ | refine bl_x ?_ | refine bo_r ?_ | (refine wp_cond (by exact rfl) (fun hc => ?_) (fun hc => ?_) <;> (try simp only [decide_eq_true_eq, decide_eq_false_iff_not, Decidable.not_not, Bool.and_eq_true, Bool.or_eq_true, Bool.not_eq_true', Bool.not_eq_false', Bool.or_eq_false_iff, Bool.and_eq_false_iff, Int.not_lt, Int.not_le, reduceCtorEq, ne_eq, Bool.not_true, Bool.not_false, Bool.not_eq_true, Bool.not_eq_false] at hc) <;> (try (exfalso; omega))) | (refine WP.regionC (id := 6) ?_; (refine su (ap_move (by exact rq_p rfl rfl)) ?_); (refine su (ap_field_p (by exact rq_p rfl rfl) (by exact rfl) (by exact rfl)) ?_); (refine su (ap_load_p (by exact rq_p rfl rfl) (by exact rfl) (by exact rfl) (by exact rfl)) ?_); (refine su (ap_len_m (by exact rfl) (by exact rq_p rfl rfl)) ?_); (refine su (ap_lss (by exact rq_p rfl rfl) (by exact rq_p rfl rfl)) ?_); refine asemC_end ?_) | (refine WP.regionC (id := 8) ?_; (refine su (ap_field_p (by exact rq_p rfl rfl) (by exact rfl) (by exact rfl)) ?_); (refine su (ap_load_p (by exact rq_p rfl rfl) (by exact rfl) (by exact rfl) (by exact rfl)) ?_); (refine su (ap_move (by exact rq_p rfl rfl)) ?_); (refine su (ap_idx_n (by exact rq_p rfl rfl) (by exact rq_p rfl rfl) (by omega)) ?_); (refine su (ap_load_w (by exact rq_p rfl rfl) (by exact rfl)) ?_); (refine se_alloc (by exact rfl) ?_); (refine se_store_b (by exact rfl) (by exact rfl) (by exact rfl) (by exact rfl) ?_); refine asemC_end ?_) | (refine WP.regionC (id := 9) ?_; (refine su (ap_field_p (by exact rq_p rfl rfl) (by exact rfl) (by exact rfl)) ?_); (refine su (ap_load_p (by exact rq_p rfl rfl) (by exact rfl) (by exact rfl) (by exact rfl)) ?_); (refine su (ap_lss (by exact rq_p rfl rfl) (by exact rq_p rfl rfl)) ?_); (refine su (ap_move (by exact rq_p rfl rfl)) ?_); (refine sg (by exact gq_vf rfl rfl) (fun he => ap_field_p (by exact rq_p rfl rfl) (by exact rfl) (by exact rfl)) ?_); (refine sg (by exact gq_vf rfl rfl) (fun he => ap_load_p (by exact rq_c rfl rfl) (by exact rfl) (by exact rfl) (by exact rfl)) ?_); (refine sg (by exact gq_vf rfl rfl) (fun he => ap_field_p (by exact rq_p rfl rfl) (by exact rfl) (by exact rfl)) ?_); (refine sg (by exact gq_vf rfl rfl) (fun he => ap_load_p (by exact rq_c rfl rfl) (by exact rfl) (by exact rfl) (by exact rfl)) ?_); (refine sg (by exact gq_vf rfl rfl) (fun he => ap_len_m (by exact rfl) (by exact rq_c rfl rfl)) ?_); (refine sg (by exact gq_vf rfl rfl) (fun he => ap_geq (by exact rq_c rfl rfl) (by exact rq_c rfl rfl)) ?_); (refine su (ap_or (by exact rq_p rfl rfl) (by exact rq_c rfl rfl)) ?_); (refine su (ap_move (by exact rq_p rfl rfl)) ?_); (refine sg (by exact gq_vf rfl rfl) (fun he => ap_field_p (by exact rq_p rfl rfl) (by exact rfl) (by exact rfl)) ?_); (refine sg (by exact gq_vf rfl rfl) (fun he => ap_load_p (by exact rq_c rfl rfl) (by exact rfl) (by exact rfl) (by exact rfl)) ?_); (refine sg (by exact gq_vf rfl rfl) (fun he => ap_len_m (by exact rfl) (by exact rq_c rfl rfl)) ?_); (refine sg (by exact gq_vf rfl rfl) (fun he => ap_gtr (by exact rq_c rfl rfl) (by exact rq_p rfl rfl)) ?_); (refine su (ap_or (by exact rq_p rfl rfl) (by exact rq_c rfl rfl)) ?_); (refine su (ap_move (by exact rq_p rfl rfl)) ?_); (refine sg (by exact gq_vf rfl rfl) (fun he => ap_field_p (by exact rq_p rfl rfl) (by exact rfl) (by exact rfl)) ?_); (refine sg (by exact gq_vf rfl rfl) (fun he => ap_load_p (by exact rq_c rfl rfl) (by exact rfl) (by exact rfl) (by exact rfl)) ?_); (refine sg (by exact gq_vf rfl rfl) (fun he => ap_lss (by exact rq_c rfl rfl) (by exact rq_p rfl rfl)) ?_); (refine su (ap_or (by exact rq_p rfl rfl) (by exact rq_c rfl rfl)) ?_); (refine su (ap_move (by exact rq_p rfl rfl)) ?_); (refine sg (by exact gq_vf rfl rfl) (fun he => ap_field_p (by exact rq_p rfl rfl) (by exact rfl) (by exact rfl)) ?_); (refine sg (by exact gq_vf rfl rfl) (fun he => ap_load_p (by exact rq_c rfl rfl) (by exact rfl) (by exact rfl) (by exact rfl)) ?_); (refine sg (by exact gq_vf rfl rfl) (fun he => ap_gtr (by exact rq_c rfl rfl) (by exact rq_p rfl rfl)) ?_); (refine su (ap_or (by exact rq_p rfl rfl) (by exact rq_c rfl rfl)) ?_); refine asemC_end ?_) | (refine WP.regionC (id := 10) ?_; (refine su (ap_assign (by exact rq_p rfl rfl)) ?_); refine asemC_end ?_) | (refine WP.regionC (id := 11) ?_; (refine su (ap_assign (by exact rq_p rfl rfl)) ?_); refine asemC_end ?_) | (refine WP.regionC (id := 16) ?_; (refine su (ap_assign (by exact rq_p rfl rfl)) ?_); refine asemC_end ?_) | refine ret_b (by exact rfl) ?_))
  · rw [validG_no (i := i) (by omega) (by simp [ruleOk]; omega)]
  · refine wp_loop (fun k => k ≤ (nth g.rules i).body.length ∧ ((nth g.rules i).body.take k).all (symOk g) = true) (fun k => (nth g.rules i).body.length - k)
      (fun k => (S 120 [(1, .ptr 0 4 0 0), (3, intA (i : Nat)), (4, .ptr 1 3 0 0), (5, intA (k : Nat))] 2 [(0, some (.arr 4 [gramA g])), (1, some (.arr 3 [ruleA (nth g.rules i)]))])) 0 ⟨[0, 1], ToR.S rfl (by repeat' (first | exact rt_nil | refine rt_t (by exact rfl) (by exact rfl) ?_ | refine rt_e (by exact rfl) (by exact rfl) ?_)) (by repeat' (first | exact ro_nil | refine ro_p (by exact rfl) (by exact rfl) (by (simp [bdL, bdL_append, AV.bd]; done)) ?_)) (by decide) (by (rw [hm]; exact rfl)) (by exact rfl) (by (simp [bdT, AV.bd, bdL, bdL_append]; done)) (by repeat' (first | exact True.intro | refine And.intro ?_ ?_ | (simp [bdOq, bdL, bdL_append, AV.bd]; done))) (by (rw [hm]; exact Nat.le_of_ble_eq_true rfl))⟩ ⟨Nat.zero_le _, rfl⟩ ?_
    rintro k ⟨hk, hb⟩
    (repeat' (first | refine WP.seq ?_ | refine WP.block ?_ | refine go_n ?_ | refine WP.skip ?_ | refine WP.exit ?_ | refine WP.ret ?_ | refine go_x ?_ | refine go_r ?_ | refine bl_n ?_ | refine bl_r ?_ | refine bl_x ?_ | refine bo_r ?_ | (refine wp_cond (by exact rfl) (fun hc => ?_) (fun hc => ?_) <;> (try simp only [decide_eq_true_eq, decide_eq_false_iff_not, Decidable.not_not, Bool.and_eq_true, Bool.or_eq_true, Bool.not_eq_true', Bool.not_eq_false', Bool.or_eq_false_iff, Bool.and_eq_false_iff, Int.not_lt, Int.not_le, reduceCtorEq, ne_eq, Bool.not_true, Bool.not_false, Bool.not_eq_true, Bool.not_eq_false] at hc) <;> (try (exfalso; omega))) | (refine WP.regionC (id := 12) ?_; (refine su (ap_move (by exact rq_p rfl rfl)) ?_); (refine su (ap_field_p (by exact rq_p rfl rfl) (by exact rfl) (by exact rfl)) ?_); (refine su (ap_load_p (by exact rq_p rfl rfl) (by exact rfl) (by exact rfl) (by exact rfl)) ?_); (refine su (ap_len_m (by exact rfl) (by exact rq_p rfl rfl)) ?_); (refine su (ap_lss (by exact rq_p rfl rfl) (by exact rq_p rfl rfl)) ?_); refine asemC_end ?_) | (refine wp_draw (id := 14) 21 mixed (by kernel_rfl) (by kernel_rfl) rfl ?_ <;> (refine rd_u (by exact rfl) (by exact rfl) (ap_field_p (by exact rq_p rfl rfl) (by exact rfl) (by exact rfl)) ?_) <;> (refine rd_u (by exact rfl) (by exact rfl) (ap_load_p (by exact rq_p rfl rfl) (by exact rfl) (by exact rfl) (by exact rfl)) ?_) <;> (refine rd_u (by exact rfl) (by exact rfl) (ap_move (by exact rq_p rfl rfl)) ?_) <;> (refine rd_u (by exact rfl) (by exact rfl) (ap_idx_n (by exact rq_p rfl rfl) (by exact rq_p rfl rfl) (by omega)) ?_) <;> (refine rd_u (by exact rfl) (by exact rfl) (ap_load_w (by exact rq_p rfl rfl) (by exact rfl)) ?_) <;> (refine rd_u (by exact rfl) (by exact rfl) (ap_field_p (by exact rq_p rfl rfl) (by exact rfl) (by exact rfl)) ?_) <;> (refine rd_u (by exact rfl) (by exact rfl) (ap_load_p (by exact rq_p rfl rfl) (by exact rfl) (by exact rfl) (by exact rfl)) ?_) <;> (refine rd_u (by exact rfl) (by exact rfl) (ap_len_m (by exact rfl) (by exact rq_p rfl rfl)) ?_) <;> (refine rd_u (by exact rfl) (by exact rfl) (ap_geq (by exact rq_p rfl rfl) (by exact rq_p rfl rfl)) ?_) <;> (refine rd_u (by exact rfl) (by exact rfl) (ap_move (by exact rq_p rfl rfl)) ?_) <;> ((refine rd_split (t := 108) (by exact rfl) (fun hc => ?_) (fun hc => ?_) <;> (try simp only [decide_eq_true_eq, decide_eq_false_iff_not, Decidable.not_not, Bool.and_eq_true, Bool.or_eq_true, Bool.not_eq_true', Bool.not_eq_false', Bool.or_eq_false_iff, Bool.and_eq_false_iff, Int.not_lt, Int.not_le, reduceCtorEq, ne_eq, Bool.not_true, Bool.not_false, Bool.not_eq_true, Bool.not_eq_false] at hc) <;> (try (exfalso; omega)) <;> (first | refine rd_skip rfl rfl ?_ | refine rdg_u rfl rfl (by exact rfl) (by exact rfl) (ap_field_p (by exact rq_p rfl rfl) (by exact rfl) (by exact rfl)) ?_))) <;> (first | refine rd_skip rfl rfl ?_ | refine rdg_u rfl rfl (by exact rfl) (by exact rfl) (ap_load_p (by exact rq_p rfl rfl) (by exact rfl) (by exact rfl) (by exact rfl)) ?_) <;> (first | refine rd_skip rfl rfl ?_ | refine rdg_u rfl rfl (by exact rfl) (by exact rfl) (ap_move (by exact rq_p rfl rfl)) ?_) <;> (first | refine rd_skip rfl rfl ?_ | refine rdg_u rfl rfl (by exact rfl) (by exact rfl) (ap_idx_n (by exact rq_p rfl rfl) (by exact rq_p rfl rfl) (by omega)) ?_) <;> (first | refine rd_skip rfl rfl ?_ | refine rdg_u rfl rfl (by exact rfl) (by exact rfl) (ap_load_w (by exact rq_p rfl rfl) (by exact rfl)) ?_) <;> (first | refine rd_skip rfl rfl ?_ | refine rdg_u rfl rfl (by exact rfl) (by exact rfl) (ap_field_p (by exact rq_p rfl rfl) (by exact rfl) (by exact rfl)) ?_) <;> (first | refine rd_skip rfl rfl ?_ | refine rdg_u rfl rfl (by exact rfl) (by exact rfl) (ap_load_p (by exact rq_p rfl rfl) (by exact rfl) (by exact rfl) (by exact rfl)) ?_) <;> (first | refine rd_skip rfl rfl ?_ | refine rdg_u rfl rfl (by exact rfl) (by exact rfl) (ap_len_m (by exact rfl) (by exact rq_p rfl rfl)) ?_) <;> (first | refine rd_skip rfl rfl ?_ | refine rdg_u rfl rfl (by exact rfl) (by exact rfl) (ap_neg (by exact rq_p rfl rfl) (by exact inr_i64_of (by omega))) ?_) <;> (first | refine rd_skip rfl rfl ?_ | refine rdg_u rfl rfl (by exact rfl) (by exact rfl) (ap_lss (by exact rq_p rfl rfl) (by exact rq_p rfl rfl)) ?_) <;> (first | refine rd_pick_t (by exact rfl) (by exact rfl) ?_ | refine rd_pick_f (by exact rfl) (by exact rfl) ?_) <;> (refine rd_end (by kernel_rfl) ?_)) | (refine WP.regionC (id := 15) ?_; (refine su (ap_assign (by exact rq_p rfl rfl)) ?_); refine asemC_end ?_) | (refine WP.regionC (id := 13) ?_; (refine su (ap_move (by exact rq_p rfl rfl)) ?_); (refine su (ap_add (by exact rq_p rfl rfl) (by exact rq_p rfl rfl) (by exact inr_i64_of (by omega))) ?_); (refine su (ap_assign (by exact rq_p rfl rfl)) ?_); refine asemC_end ?_) | (refine WP.regionC (id := 7) ?_; (refine su (ap_move (by exact rq_p rfl rfl)) ?_); (refine su (ap_add (by exact rq_p rfl rfl) (by exact rq_p rfl rfl) (by exact inr_i64_of (by omega))) ?_); (refine su (ap_assign (by exact rq_p rfl rfl)) ?_); refine asemC_end ?_) | refine ret_b (by exact rfl) ?_))
    · rw [validG_no (i := i) (by omega) (ruleOk_no (k := k) (by omega) (by simp [symOk]; omega))]
    · rw [validG_no (i := i) (by omega) (ruleOk_no (k := k) (by omega) (by simp [symOk]; omega))]
    · exact ⟨k + 1, ⟨by omega, by omega, take_all_succ (by omega) hb (by simp [symOk]; omega)⟩, ⟨[0, 1], ToR.S rfl (by repeat' (first | exact rt_nil | refine rt_t (by exact rfl) (by exact rfl) ?_ | refine rt_e (by exact rfl) (by exact rfl) ?_)) (by repeat' (first | exact ro_nil | refine ro_p (by exact rfl) (by exact rfl) (by (simp [bdL, bdL_append, AV.bd]; done)) ?_)) (by decide) (by (rw [hm]; exact rfl)) (by exact rfl) (by (simp [bdT, AV.bd, bdL, bdL_append]; done)) (by repeat' (first | exact True.intro | refine And.intro ?_ ?_ | (simp [bdOq, bdL, bdL_append, AV.bd]; done))) (by (rw [hm]; exact Nat.le_of_ble_eq_true rfl))⟩⟩
    · exact ⟨i + 1, ⟨by omega, by omega, take_all_succ (by omega) hall (by simp [ruleOk, all_of_take' (by omega) hb]; omega)⟩, ⟨[0], ToR.S rfl (by repeat' (first | exact rt_nil | refine rt_t (by exact rfl) (by exact rfl) ?_ | refine rt_e (by exact rfl) (by exact rfl) ?_)) (by repeat' (first | exact ro_nil | refine ro_p (by exact rfl) (by exact rfl) (by (simp [bdL, bdL_append, AV.bd]; done)) ?_)) (by decide) (by (rw [hm]; exact rfl)) (by exact rfl) (by (simp [bdT, AV.bd, bdL, bdL_append]; done)) (by repeat' (first | exact True.intro | refine And.intro ?_ ?_ | (simp [bdOq, bdL, bdL_append, AV.bd]; done))) (by (rw [hm]; exact Nat.le_of_ble_eq_true rfl))⟩⟩
  simp [validG, hns, all_of_take' (by omega) hall]; omega

def eqG (a b : Gram) : Bool := decide (a = b)
theorem Rul.ext' {a b : Rul} (h1 : a.head = b.head) (h2 : a.body = b.body) (h3 : a.price = b.price) : a = b := by
  cases a; cases b; simp_all
theorem Gram.ext' {a b : Gram} (h1 : a.terms = b.terms) (h2 : a.nonterms = b.nonterms) (h3 : a.start = b.start) (h4 : a.rules = b.rules) : a = b := by
  cases a; cases b; simp_all
theorem requal_fn (a b : Gram) : Fn Try.prog 12 [gramA a, gramA b] (boolA (decide (a = b))) := by
  refine Fn.intro (by exact rfl) (by kernel_rfl) Try.func12 rfl rfl Try.ntmps12 (by exact Nat.le_of_ble_eq_true rfl) ?_; intro Γ hm
  refine wp_lens 0 rfl fun hl => wp_lens 1 rfl fun hl' => ?_
  obtain ⟨hl1, hl2, hl3, hl4⟩ := (lens_gramA a).1 hl
  obtain ⟨hm1, hm2, hm3, hm4⟩ := (lens_gramA b).1 hl'
  (repeat' (first | refine WP.seq ?_ | refine WP.block ?_ | refine go_n ?_ | refine WP.skip ?_ | refine WP.ret ?_ | refine go_r ?_ | refine bo_r ?_ | (refine wp_cond (by exact rfl) (fun hc => ?_) (fun hc => ?_) <;> (try simp only [decide_eq_true_eq, decide_eq_false_iff_not, Decidable.not_not, Bool.and_eq_true, Bool.or_eq_true, Bool.not_eq_true', Bool.not_eq_false', Bool.or_eq_false_iff, Bool.and_eq_false_iff, Int.not_lt, Int.not_le, reduceCtorEq, ne_eq, Bool.not_true, Bool.not_false, Bool.not_eq_true, Bool.not_eq_false] at hc) <;> (try (exfalso; omega))) | (refine WP.regionC (id := 0) ?_; (refine se_box (by exact rfl) (by exact ⟨rfl, rfl⟩) ?_); (refine se_box (by exact rfl) (by exact ⟨rfl, rfl⟩) ?_); (refine su (ap_assign (by exact rq_p rfl rfl)) ?_); refine asemC_end ?_) | (refine WP.regionC (id := 1) ?_; (refine su (ap_field_p (by exact rq_p rfl rfl) (by exact rfl) (by exact rfl)) ?_); (refine su (ap_load_p (by exact rq_p rfl rfl) (by exact rfl) (by exact rfl) (by exact rfl)) ?_); (refine su (ap_field_p (by exact rq_p rfl rfl) (by exact rfl) (by exact rfl)) ?_); (refine su (ap_load_p (by exact rq_p rfl rfl) (by exact rfl) (by exact rfl) (by exact rfl)) ?_); (refine sc_b rfl rfl (by repeat' first | exact FzL.nil | refine FzL.cons ?_ ?_ | (exact Fz.reflp (by simp [AV.bd, bdL, bdL_append]))) (sameNames_fn _ _) (by exact rfl) ?_); (refine su (ap_not (by exact rq_p rfl rfl)) ?_); (refine su (ap_move (by exact rq_p rfl rfl)) ?_); (refine sg (by exact gq_vf rfl rfl) (fun he => ap_field_p (by exact rq_p rfl rfl) (by exact rfl) (by exact rfl)) ?_); (refine sg (by exact gq_vf rfl rfl) (fun he => ap_load_p (by exact rq_c rfl rfl) (by exact rfl) (by exact rfl) (by exact rfl)) ?_); (refine sg (by exact gq_vf rfl rfl) (fun he => ap_field_p (by exact rq_p rfl rfl) (by exact rfl) (by exact rfl)) ?_); (refine sg (by exact gq_vf rfl rfl) (fun he => ap_load_p (by exact rq_c rfl rfl) (by exact rfl) (by exact rfl) (by exact rfl)) ?_); (refine sg_b (by exact gq_vf rfl rfl) (fun he => ⟨(by exact rq_p rfl rfl), (RqL.cons (by exact rq_c rfl rfl) (RqL.cons (by exact rq_c rfl rfl) (RqL.nil))), (by repeat' first | exact FzL.nil | refine FzL.cons ?_ ?_ | (exact Fz.reflp (by simp [AV.bd, bdL, bdL_append]))), sameNames_fn _ _, (by exact rfl)⟩) ?_); (refine sg (by exact gq_vf rfl rfl) (fun he => ap_not (by exact rq_c rfl rfl)) ?_); (refine su (ap_or (by exact rq_p rfl rfl) (by exact rq_c rfl rfl)) ?_); (refine su (ap_move (by exact rq_p rfl rfl)) ?_); (refine sg (by exact gq_vf rfl rfl) (fun he => ap_field_p (by exact rq_p rfl rfl) (by exact rfl) (by exact rfl)) ?_); (refine sg (by exact gq_vf rfl rfl) (fun he => ap_load_p (by exact rq_c rfl rfl) (by exact rfl) (by exact rfl) (by exact rfl)) ?_); (refine sg (by exact gq_vf rfl rfl) (fun he => ap_field_p (by exact rq_p rfl rfl) (by exact rfl) (by exact rfl)) ?_); (refine sg (by exact gq_vf rfl rfl) (fun he => ap_load_p (by exact rq_c rfl rfl) (by exact rfl) (by exact rfl) (by exact rfl)) ?_); (refine sg (by exact gq_vf rfl rfl) (fun he => ap_neq (by exact rq_c rfl rfl) (by exact rq_c rfl rfl)) ?_); (refine su (ap_or (by exact rq_p rfl rfl) (by exact rq_c rfl rfl)) ?_); (refine su (ap_move (by exact rq_p rfl rfl)) ?_); (refine sg (by exact gq_vf rfl rfl) (fun he => ap_field_p (by exact rq_p rfl rfl) (by exact rfl) (by exact rfl)) ?_); (refine sg (by exact gq_vf rfl rfl) (fun he => ap_load_p (by exact rq_c rfl rfl) (by exact rfl) (by exact rfl) (by exact rfl)) ?_); (refine sg (by exact gq_vf rfl rfl) (fun he => ap_len_m (by exact rfl) (by exact rq_c rfl rfl)) ?_); (refine sg (by exact gq_vf rfl rfl) (fun he => ap_field_p (by exact rq_p rfl rfl) (by exact rfl) (by exact rfl)) ?_); (refine sg (by exact gq_vf rfl rfl) (fun he => ap_load_p (by exact rq_c rfl rfl) (by exact rfl) (by exact rfl) (by exact rfl)) ?_); (refine sg (by exact gq_vf rfl rfl) (fun he => ap_len_m (by exact rfl) (by exact rq_c rfl rfl)) ?_); (refine sg (by exact gq_vf rfl rfl) (fun he => ap_neq (by exact rq_c rfl rfl) (by exact rq_c rfl rfl)) ?_); (refine su (ap_or (by exact rq_p rfl rfl) (by exact rq_c rfl rfl)) ?_); refine asemC_end ?_) | (refine WP.regionC (id := 2) ?_; (refine su (ap_assign (by exact rq_p rfl rfl)) ?_); refine asemC_end ?_) | (refine WP.regionC (id := 3) ?_; (refine su (ap_assign (by exact rq_p rfl rfl)) ?_); refine asemC_end ?_) | refine ret_b (by exact rfl) ?_))
  · rw [eq_comm, decide_eq_false_iff_not]; rintro rfl; simp at hc
  obtain ⟨⟨⟨e1, e2⟩, e3⟩, e4⟩ := hc
  refine wp_loop (fun i => i ≤ a.rules.length ∧ a.rules.take i = b.rules.take i) (fun i => a.rules.length - i)
    (fun i => (S 95 [(2, .ptr 0 4 0 0), (3, .ptr 1 4 0 0), (5, intA (i : Nat))] 2 [(0, some (.arr 4 [gramA a])), (1, some (.arr 4 [gramA b]))])) 0 ⟨[0, 1], ToR.S rfl (by repeat' (first | exact rt_nil | refine rt_t (by exact rfl) (by exact rfl) ?_ | refine rt_e (by exact rfl) (by exact rfl) ?_)) (by repeat' (first | exact ro_nil | refine ro_p (by exact rfl) (by exact rfl) (by (simp [bdL, bdL_append, AV.bd]; done)) ?_)) (by decide) (by (rw [hm]; exact rfl)) (by exact rfl) (by (simp [bdT, AV.bd, bdL, bdL_append]; done)) (by repeat' (first | exact True.intro | refine And.intro ?_ ?_ | (simp [bdOq, bdL, bdL_append, AV.bd]; done))) (by (rw [hm]; exact Nat.le_of_ble_eq_true rfl))⟩ ⟨Nat.zero_le _, rfl⟩ ?_
  rintro i ⟨hi, hall⟩
  (repeat' (first | refine WP.seq ?_ | refine WP.block ?_ | refine go_n ?_ | refine WP.skip ?_ | refine WP.exit ?_ | refine WP.ret ?_ | refine go_x ?_ | refine go_r ?_ | refine bl_r ?_ | refine bl_x ?_ | refine bo_r ?_ | (refine wp_cond (by exact rfl) (fun hc => ?_) (fun hc => ?_) <;> (try simp only [decide_eq_true_eq, decide_eq_false_iff_not, Decidable.not_not, Bool.and_eq_true, Bool.or_eq_true, Bool.not_eq_true', Bool.not_eq_false', Bool.or_eq_false_iff, Bool.and_eq_false_iff, Int.not_lt, Int.not_le, reduceCtorEq, ne_eq, Bool.not_true, Bool.not_false, Bool.not_eq_true, Bool.not_eq_false] at hc) <;> (try (exfalso; omega))) | (refine WP.regionC (id := 4) ?_; (refine su (ap_move (by exact rq_p rfl rfl)) ?_); (refine su (ap_field_p (by exact rq_p rfl rfl) (by exact rfl) (by exact rfl)) ?_); (refine su (ap_load_p (by exact rq_p rfl rfl) (by exact rfl) (by exact rfl) (by exact rfl)) ?_); (refine su (ap_len_m (by exact rfl) (by exact rq_p rfl rfl)) ?_); (refine su (ap_lss (by exact rq_p rfl rfl) (by exact rq_p rfl rfl)) ?_); refine asemC_end ?_) | (refine wp_draw (id := 6) 14 mixed (by kernel_rfl) (by kernel_rfl) rfl ?_ <;> (refine rd_u (by exact rfl) (by exact rfl) (ap_field_p (by exact rq_p rfl rfl) (by exact rfl) (by exact rfl)) ?_) <;> (refine rd_u (by exact rfl) (by exact rfl) (ap_load_p (by exact rq_p rfl rfl) (by exact rfl) (by exact rfl) (by exact rfl)) ?_) <;> (refine rd_u (by exact rfl) (by exact rfl) (ap_move (by exact rq_p rfl rfl)) ?_) <;> (refine rd_u (by exact rfl) (by exact rfl) (ap_idx_n (by exact rq_p rfl rfl) (by exact rq_p rfl rfl) (by omega)) ?_) <;> (refine rd_u (by exact rfl) (by exact rfl) (ap_load_w (by exact rq_p rfl rfl) (by exact rfl)) ?_) <;> (refine rd_u (by exact rfl) (by exact rfl) (ap_field_p (by exact rq_p rfl rfl) (by exact rfl) (by exact rfl)) ?_) <;> (refine rd_u (by exact rfl) (by exact rfl) (ap_load_p (by exact rq_p rfl rfl) (by exact rfl) (by exact rfl) (by exact rfl)) ?_) <;> (refine rd_u (by exact rfl) (by exact rfl) (ap_move (by exact rq_p rfl rfl)) ?_) <;> (refine rd_u (by exact rfl) (by exact rfl) (ap_idx_n (by exact rq_p rfl rfl) (by exact rq_p rfl rfl) (by omega)) ?_) <;> (refine rd_u (by exact rfl) (by exact rfl) (ap_load_w (by exact rq_p rfl rfl) (by exact rfl)) ?_) <;> (refine rd_alloc (by exact rfl) ?_) <;> (refine rd_alloc (by exact rfl) ?_) <;> (refine rd_store_b (by exact rfl) (by exact rfl) (by exact rfl) (by exact rfl) ?_) <;> (refine rd_store_b (by exact rfl) (by exact rfl) (by exact rfl) (by exact rfl) ?_) <;> (refine rd_end (by kernel_rfl) ?_)) | (refine WP.regionC (id := 7) ?_; (refine su (ap_field_p (by exact rq_p rfl rfl) (by exact rfl) (by exact rfl)) ?_); (refine su (ap_load_p (by exact rq_p rfl rfl) (by exact rfl) (by exact rfl) (by exact rfl)) ?_); (refine su (ap_field_p (by exact rq_p rfl rfl) (by exact rfl) (by exact rfl)) ?_); (refine su (ap_load_p (by exact rq_p rfl rfl) (by exact rfl) (by exact rfl) (by exact rfl)) ?_); (refine su (ap_neq (by exact rq_p rfl rfl) (by exact rq_p rfl rfl)) ?_); (refine su (ap_move (by exact rq_p rfl rfl)) ?_); (refine sg (by exact gq_vf rfl rfl) (fun he => ap_field_p (by exact rq_p rfl rfl) (by exact rfl) (by exact rfl)) ?_); (refine sg (by exact gq_vf rfl rfl) (fun he => ap_load_p (by exact rq_c rfl rfl) (by exact rfl) (by exact rfl) (by exact rfl)) ?_); (refine sg (by exact gq_vf rfl rfl) (fun he => ap_field_p (by exact rq_p rfl rfl) (by exact rfl) (by exact rfl)) ?_); (refine sg (by exact gq_vf rfl rfl) (fun he => ap_load_p (by exact rq_c rfl rfl) (by exact rfl) (by exact rfl) (by exact rfl)) ?_); (refine sg (by exact gq_vf rfl rfl) (fun he => ap_neq (by exact rq_c rfl rfl) (by exact rq_c rfl rfl)) ?_); (refine su (ap_or (by exact rq_p rfl rfl) (by exact rq_c rfl rfl)) ?_); (refine su (ap_move (by exact rq_p rfl rfl)) ?_); (refine sg (by exact gq_vf rfl rfl) (fun he => ap_field_p (by exact rq_p rfl rfl) (by exact rfl) (by exact rfl)) ?_); (refine sg (by exact gq_vf rfl rfl) (fun he => ap_load_p (by exact rq_c rfl rfl) (by exact rfl) (by exact rfl) (by exact rfl)) ?_); (refine sg (by exact gq_vf rfl rfl) (fun he => ap_len_m (by exact rfl) (by exact rq_c rfl rfl)) ?_); (refine sg (by exact gq_vf rfl rfl) (fun he => ap_field_p (by exact rq_p rfl rfl) (by exact rfl) (by exact rfl)) ?_); (refine sg (by exact gq_vf rfl rfl) (fun he => ap_load_p (by exact rq_c rfl rfl) (by exact rfl) (by exact rfl) (by exact rfl)) ?_); (refine sg (by exact gq_vf rfl rfl) (fun he => ap_len_m (by exact rfl) (by exact rq_c rfl rfl)) ?_); (refine sg (by exact gq_vf rfl rfl) (fun he => ap_neq (by exact rq_c rfl rfl) (by exact rq_c rfl rfl)) ?_); (refine su (ap_or (by exact rq_p rfl rfl) (by exact rq_c rfl rfl)) ?_); refine asemC_end ?_) | (refine WP.regionC (id := 8) ?_; (refine su (ap_assign (by exact rq_p rfl rfl)) ?_); refine asemC_end ?_) | (refine WP.regionC (id := 9) ?_; (refine su (ap_assign (by exact rq_p rfl rfl)) ?_); refine asemC_end ?_) | (refine WP.regionC (id := 14) ?_; (refine su (ap_assign (by exact rq_p rfl rfl)) ?_); refine asemC_end ?_) | refine ret_b (by exact rfl) ?_))
  · rw [eq_comm, decide_eq_false_iff_not]; rintro rfl; simp at hc
  · obtain ⟨⟨f1, f2⟩, f3⟩ := hc
    have hbl := hl4 (nth a.rules i) (nth_mem (by omega))
    refine wp_loop (fun k => k ≤ (nth a.rules i).body.length ∧ (nth a.rules i).body.take k = (nth b.rules i).body.take k) (fun k => (nth a.rules i).body.length - k)
      (fun k => (S 95 [(2, .ptr 0 4 0 0), (3, .ptr 1 4 0 0), (5, intA (i : Nat)), (6, .ptr 2 3 0 0), (7, .ptr 3 3 0 0), (8, intA (k : Nat))] 4 [(0, some (.arr 4 [gramA a])), (1, some (.arr 4 [gramA b])), (2, some (.arr 3 [ruleA (nth a.rules i)])), (3, some (.arr 3 [ruleA (nth b.rules i)]))])) 0 ⟨[0, 1, 12, 13], ToR.S rfl (by repeat' (first | exact rt_nil | refine rt_t (by exact rfl) (by exact rfl) ?_ | refine rt_e (by exact rfl) (by exact rfl) ?_)) (by repeat' (first | exact ro_nil | refine ro_p (by exact rfl) (by exact rfl) (by (simp [bdL, bdL_append, AV.bd]; done)) ?_)) (by decide) (by (rw [hm]; exact rfl)) (by exact rfl) (by (simp [bdT, AV.bd, bdL, bdL_append]; done)) (by repeat' (first | exact True.intro | refine And.intro ?_ ?_ | (simp [bdOq, bdL, bdL_append, AV.bd]; done))) (by (rw [hm]; exact Nat.le_of_ble_eq_true rfl))⟩ ⟨Nat.zero_le _, rfl⟩ ?_
    rintro k ⟨hk, hb⟩
    (repeat' (first | refine WP.seq ?_ | refine WP.block ?_ | refine go_n ?_ | refine WP.skip ?_ | refine WP.exit ?_ | refine WP.ret ?_ | refine go_x ?_ | refine go_r ?_ | refine bl_n ?_ | refine bl_r ?_ | refine bl_x ?_ | refine bo_r ?_ | (refine wp_cond (by exact rfl) (fun hc => ?_) (fun hc => ?_) <;> (try simp only [decide_eq_true_eq, decide_eq_false_iff_not, Decidable.not_not, Bool.and_eq_true, Bool.or_eq_true, Bool.not_eq_true', Bool.not_eq_false', Bool.or_eq_false_iff, Bool.and_eq_false_iff, Int.not_lt, Int.not_le, reduceCtorEq, ne_eq, Bool.not_true, Bool.not_false, Bool.not_eq_true, Bool.not_eq_false] at hc) <;> (try (exfalso; omega))) | (refine WP.regionC (id := 10) ?_; (refine su (ap_move (by exact rq_p rfl rfl)) ?_); (refine su (ap_field_p (by exact rq_p rfl rfl) (by exact rfl) (by exact rfl)) ?_); (refine su (ap_load_p (by exact rq_p rfl rfl) (by exact rfl) (by exact rfl) (by exact rfl)) ?_); (refine su (ap_len_m (by exact rfl) (by exact rq_p rfl rfl)) ?_); (refine su (ap_lss (by exact rq_p rfl rfl) (by exact rq_p rfl rfl)) ?_); refine asemC_end ?_) | (refine wp_draw (id := 12) 11 mixed (by kernel_rfl) (by kernel_rfl) rfl ?_ <;> (refine rd_u (by exact rfl) (by exact rfl) (ap_field_p (by exact rq_p rfl rfl) (by exact rfl) (by exact rfl)) ?_) <;> (refine rd_u (by exact rfl) (by exact rfl) (ap_load_p (by exact rq_p rfl rfl) (by exact rfl) (by exact rfl) (by exact rfl)) ?_) <;> (refine rd_u (by exact rfl) (by exact rfl) (ap_move (by exact rq_p rfl rfl)) ?_) <;> (refine rd_u (by exact rfl) (by exact rfl) (ap_idx_n (by exact rq_p rfl rfl) (by exact rq_p rfl rfl) (by omega)) ?_) <;> (refine rd_u (by exact rfl) (by exact rfl) (ap_load_w (by exact rq_p rfl rfl) (by exact rfl)) ?_) <;> (refine rd_u (by exact rfl) (by exact rfl) (ap_field_p (by exact rq_p rfl rfl) (by exact rfl) (by exact rfl)) ?_) <;> (refine rd_u (by exact rfl) (by exact rfl) (ap_load_p (by exact rq_p rfl rfl) (by exact rfl) (by exact rfl) (by exact rfl)) ?_) <;> (refine rd_u (by exact rfl) (by exact rfl) (ap_move (by exact rq_p rfl rfl)) ?_) <;> (refine rd_u (by exact rfl) (by exact rfl) (ap_idx_n (by exact rq_p rfl rfl) (by exact rq_p rfl rfl) (by omega)) ?_) <;> (refine rd_u (by exact rfl) (by exact rfl) (ap_load_w (by exact rq_p rfl rfl) (by exact rfl)) ?_) <;> (refine rd_u (by exact rfl) (by exact rfl) (ap_neq (by exact rq_p rfl rfl) (by exact rq_p rfl rfl)) ?_) <;> (refine rd_end (by kernel_rfl) ?_)) | (refine WP.regionC (id := 13) ?_; (refine su (ap_assign (by exact rq_p rfl rfl)) ?_); refine asemC_end ?_) | (refine WP.regionC (id := 11) ?_; (refine su (ap_move (by exact rq_p rfl rfl)) ?_); (refine su (ap_add (by exact rq_p rfl rfl) (by exact rq_p rfl rfl) (by exact inr_i64_of (by omega))) ?_); (refine su (ap_assign (by exact rq_p rfl rfl)) ?_); refine asemC_end ?_) | (refine WP.regionC (id := 5) ?_; (refine su (ap_move (by exact rq_p rfl rfl)) ?_); (refine su (ap_add (by exact rq_p rfl rfl) (by exact rq_p rfl rfl) (by exact inr_i64_of (by omega))) ?_); (refine su (ap_assign (by exact rq_p rfl rfl)) ?_); refine asemC_end ?_) | refine ret_b (by exact rfl) ?_))
    · rw [eq_comm, decide_eq_false_iff_not]; rintro rfl; simp at hc
    · exact ⟨k + 1, ⟨by omega, by omega, take_eq_succ (by omega) (by omega) hb hc⟩, ⟨[0, 1, 2, 3], ToR.S rfl (by repeat' (first | exact rt_nil | refine rt_t (by exact rfl) (by exact rfl) ?_ | refine rt_e (by exact rfl) (by exact rfl) ?_)) (by repeat' (first | exact ro_nil | refine ro_p (by exact rfl) (by exact rfl) (by (simp [bdL, bdL_append, AV.bd]; done)) ?_)) (by decide) (by (rw [hm]; exact rfl)) (by exact rfl) (by (simp [bdT, AV.bd, bdL, bdL_append]; done)) (by repeat' (first | exact True.intro | refine And.intro ?_ ?_ | (simp [bdOq, bdL, bdL_append, AV.bd]; done))) (by (rw [hm]; exact Nat.le_of_ble_eq_true rfl))⟩⟩
    · have hr : nth a.rules i = nth b.rules i := Rul.ext' f1 (eq_of_takes (by omega) (by omega) hb) f2
      exact ⟨i + 1, ⟨by omega, by omega, take_eq_succ (by omega) (by omega) hall hr⟩, ⟨[0, 1], ToR.S rfl (by repeat' (first | exact rt_nil | refine rt_t (by exact rfl) (by exact rfl) ?_ | refine rt_e (by exact rfl) (by exact rfl) ?_)) (by repeat' (first | exact ro_nil | refine ro_p (by exact rfl) (by exact rfl) (by (simp [bdL, bdL_append, AV.bd]; done)) ?_)) (by decide) (by (rw [hm]; exact rfl)) (by exact rfl) (by (simp [bdT, AV.bd, bdL, bdL_append]; done)) (by repeat' (first | exact True.intro | refine And.intro ?_ ?_ | (simp [bdOq, bdL, bdL_append, AV.bd]; done))) (by (rw [hm]; exact Nat.le_of_ble_eq_true rfl))⟩⟩
  rw [eq_comm, decide_eq_true_iff]
  exact Gram.ext' e1 e2 e3 (eq_of_takes (by omega) (by omega) hall)
end Go.Lg

/- Least fixed points of sets of nonterminals (plain law: no program in sight). -/
namespace Go.Lg

def leB (a b : List Bool) : Prop := a.length = b.length ∧ ∀ i, nth a i = true → nth b i = true
theorem leB.refl (a : List Bool) : leB a a := ⟨rfl, fun _ h => h⟩
theorem leB.trans {a b c : List Bool} (h : leB a b) (k : leB b c) : leB a c := ⟨h.1.trans k.1, fun i hi => k.2 i (h.2 i hi)⟩
theorem nth_ext {α : Type} [Inhabited α] {a b : List α} (hl : a.length = b.length) (h : ∀ i, i < a.length → nth a i = nth b i) : a = b := by
  apply List.ext_getElem hl
  intro i h1 h2
  have := h i h1
  rwa [nth_eq h1, nth_eq h2] at this
theorem leB.antisymm {a b : List Bool} (h : leB a b) (k : leB b a) : a = b := nth_ext h.1 fun i _ => by
  have h1 := h.2 i
  have h2 := k.2 i
  cases ha : nth a i <;> cases hb : nth b i <;> simp_all
theorem nth_out {α : Type} [Inhabited α] {a : List α} {i : Nat} (h : a.length ≤ i) : nth a i = default := by simp [nth, List.getD, List.getElem?_eq_none h]
theorem nth_lt {a : List Bool} {i : Nat} (h : nth a i = true) : i < a.length := by
  rcases Nat.lt_or_ge i a.length with h1 | h1
  · exact h1
  · rw [nth_out h1] at h; cases h
theorem nth_set {α : Type} [Inhabited α] {a : List α} {i j : Nat} {v : α} (h : i < a.length) : nth (a.set i v) j = if i = j then v else nth a j := by
  simp only [nth, List.getD, List.getElem?_set]
  by_cases hj : i = j
  · subst hj; simp [h]
  · simp [hj]
theorem nth_map {α β : Type} [Inhabited α] [Inhabited β] {f : α → β} {a : List α} {i : Nat} (h : i < a.length) : nth (a.map f) i = f (nth a i) := by
  rw [nth_eq (by simpa using h), nth_eq h, List.getElem_map]
theorem nth_range {β : Type} [Inhabited β] {f : Nat → β} {n i : Nat} (h : i < n) : nth ((List.range n).map f) i = f i := by
  rw [nth_eq (by simpa using h)]; simp
theorem nth_replicate {α : Type} [Inhabited α] {n i : Nat} {v : α} (h : i < n) : nth (List.replicate n v) i = v := by
  rw [nth_eq (by simpa using h)]; simp
theorem nth_append {α : Type} [Inhabited α] {a b : List α} {i : Nat} : nth (a ++ b) i = if i < a.length then nth a i else nth b (i - a.length) := by
  simp only [nth, List.getD]
  by_cases h : i < a.length
  · rw [List.getElem?_append_left h, if_pos h]
  · rw [List.getElem?_append_right (by omega), if_neg h]

def falses : List Bool → Nat
  | [] => 0
  | b :: l => (if b then 0 else 1) + falses l
theorem falses_le : ∀ l : List Bool, falses l ≤ l.length
  | [] => Nat.le_refl _
  | b :: l => by have := falses_le l; simp only [falses, List.length_cons]; split <;> omega
theorem falses_set : ∀ {l : List Bool} {i : Nat}, i < l.length → nth l i = false → falses (l.set i true) + 1 = falses l
  | b :: l, 0, _, h => by
    have : b = false := by simpa [nth] using h
    subst this; simp [falses]; omega
  | b :: l, i + 1, hi, h => by
    have := falses_set (l := l) (i := i) (by simpa using hi) (by simpa [nth] using h)
    simp only [List.set_cons_succ, falses]; omega
theorem falses_mono : ∀ {a b : List Bool}, leB a b → falses b ≤ falses a
  | [], [], _ => Nat.le_refl _
  | x :: a, y :: b, h => by
    have ih := falses_mono (a := a) (b := b) ⟨by simpa using h.1, fun i hi => by have := h.2 (i + 1) (by simpa [nth] using hi); simpa [nth] using this⟩
    have h0 := h.2 0
    simp only [nth, List.getD_cons_zero] at h0
    simp only [falses]
    cases x <;> cases y <;> simp_all <;> omega
  | [], _ :: _, h => by simp [leB] at h
  | _ :: _, [], h => by simp [leB] at h
theorem falses_eq : ∀ {a b : List Bool}, leB a b → falses a = falses b → a = b
  | [], [], _, _ => rfl
  | x :: a, y :: b, h, hf => by
    have hl : leB a b := ⟨by simpa using h.1, fun i hi => by have := h.2 (i + 1) (by simpa [nth] using hi); simpa [nth] using this⟩
    have ih := falses_mono hl
    have h0 := h.2 0
    simp only [nth, List.getD_cons_zero] at h0
    simp only [falses] at hf
    have hxy : x = y := by
      cases x <;> cases y <;> simp_all <;> omega
    subst hxy
    rw [falses_eq hl (by omega)]
  | [], _ :: _, h, _ => by simp [leB] at h
  | _ :: _, [], h, _ => by simp [leB] at h

def iterB (f : List Bool → List Bool) : Nat → List Bool → List Bool
  | 0, l => l
  | k + 1, l => iterB f k (f l)

/-- The least fixed point above l. -/
def lfpB (f : List Bool → List Bool) (l : List Bool) : List Bool := iterB f l.length l

structure MonoB (n : Nat) (f : List Bool → List Bool) : Prop where
  up : ∀ l, l.length = n → leB l (f l)
  mono : ∀ a b, a.length = n → leB a b → leB (f a) (f b)
section
variable {n : Nat} {f : List Bool → List Bool} (hf : MonoB n f)
include hf
theorem iterB_up : ∀ (k : Nat) (l : List Bool), l.length = n → leB l (iterB f k l)
  | 0, l, _ => .refl l
  | k + 1, l, hl => (hf.up l hl).trans (iterB_up k (f l) (by rw [← hl]; exact (hf.up l hl).1.symm))
theorem iterB_fix : ∀ (k : Nat) (l : List Bool), l.length = n → falses l ≤ k → f (iterB f k l) = iterB f k l
  | 0, l, hl, hk => by
    have h1 := hf.up l hl
    have := falses_mono h1
    exact (falses_eq h1 (by omega)).symm
  | k + 1, l, hl, hk => by
    have h1 := hf.up l hl
    have hl' : (f l).length = n := by rw [← hl]; exact h1.1.symm
    by_cases he : f l = l
    · have : ∀ j, iterB f j l = l := by
        intro j; induction j with
        | zero => rfl
        | succ j ih => simp only [iterB, he, ih]
      rw [this, he]
    · have h2 := falses_mono h1
      have h3 : falses (f l) ≠ falses l := fun e => he (falses_eq h1 e.symm).symm
      exact iterB_fix k (f l) hl' (by omega)
theorem iterB_least {S : List Bool} (hS : leB (f S) S) : ∀ (k : Nat) (l : List Bool), l.length = n → leB l S → leB (iterB f k l) S
  | 0, l, _, h => h
  | k + 1, l, hl, h => iterB_least hS k (f l) (by rw [← hl]; exact (hf.up l hl).1.symm) ((hf.mono l S hl h).trans hS)
theorem lfpB_up {l : List Bool} (hl : l.length = n) : leB l (lfpB f l) := iterB_up hf _ l hl
theorem lfpB_fix {l : List Bool} (hl : l.length = n) : f (lfpB f l) = lfpB f l := iterB_fix hf _ l hl (falses_le l)
theorem lfpB_least {S l : List Bool} (hl : l.length = n) (h : leB l S) (hS : leB (f S) S) : leB (lfpB f l) S := iterB_least hf hS _ l hl h
/-- A fixed point below every closed set is the least one. -/
theorem lfpB_eq {l out : List Bool} (hl : l.length = n) (h1 : leB l out) (h2 : f out = out) (h3 : ∀ S, leB l S → leB (f S) S → leB out S) : lfpB f l = out :=
  (lfpB_least hf hl h1 (by rw [h2]; exact .refl _)).antisymm (h3 _ (lfpB_up hf hl) (by rw [lfpB_fix hf hl]; exact .refl _))
end

def okSym (is : List Bool) (x : Int) : Bool := decide (0 ≤ x) || nth is (-1 - x).toNat
theorem okSym_mono {a b : List Bool} (h : leB a b) {x : Int} (hx : okSym a x = true) : okSym b x = true := by
  simp only [okSym, Bool.or_eq_true, decide_eq_true_eq] at *
  exact hx.imp id (h.2 _)

/-- one round of productivity -/
def stepP (g : Gram) (out : List Bool) : List Bool := (List.range out.length).map fun i => nth out i || g.rules.any fun r => decide (r.head = (i : Int)) && r.body.all (okSym out)
/-- one round of reachability over the productive rules -/
def stepU (g : Gram) (is out : List Bool) : List Bool := (List.range out.length).map fun i => nth out i || g.rules.any fun r => nth out r.head.toNat && r.body.all (okSym is) && r.body.any fun x => decide (x = -1 - (i : Int))
theorem stepP_mono (g : Gram) (n : Nat) : MonoB n (stepP g) where
  up l _ := ⟨by simp [stepP], fun i hi => by rw [stepP, nth_range (nth_lt hi), hi]; rfl⟩
  mono a b _ h := ⟨by simp [stepP, h.1], fun i hi => by
    have hi' := nth_lt hi
    simp only [stepP, List.length_map, List.length_range] at hi'
    rw [stepP, nth_range hi'] at hi
    rw [stepP, nth_range (by rw [← h.1]; exact hi')]
    simp only [Bool.or_eq_true, List.any_eq_true, Bool.and_eq_true, List.all_eq_true] at *
    rcases hi with hi | ⟨r, hr, h1, h2⟩
    · exact .inl (h.2 i hi)
    · exact .inr ⟨r, hr, h1, fun x hx => okSym_mono h (h2 x hx)⟩⟩
theorem stepU_mono (g : Gram) (is : List Bool) (n : Nat) : MonoB n (stepU g is) where
  up l _ := ⟨by simp [stepU], fun i hi => by rw [stepU, nth_range (nth_lt hi), hi]; rfl⟩
  mono a b _ h := ⟨by simp [stepU, h.1], fun i hi => by
    have hi' := nth_lt hi
    simp only [stepU, List.length_map, List.length_range] at hi'
    rw [stepU, nth_range hi'] at hi
    rw [stepU, nth_range (by rw [← h.1]; exact hi')]
    simp only [Bool.or_eq_true, List.any_eq_true, Bool.and_eq_true] at *
    rcases hi with hi | ⟨r, hr, ⟨h1, h2⟩, h3⟩
    · exact .inl (h.2 i hi)
    · exact .inr ⟨r, hr, ⟨h.2 _ h1, h2⟩, h3⟩⟩
def nob (n : Nat) : List Bool := List.replicate n false
def prodG (g : Gram) : List Bool := lfpB (stepP g) (nob g.nonterms.length)
def usefulG (g : Gram) (is : List Bool) : List Bool := lfpB (stepU g is) ((nob g.nonterms.length).set g.start.toNat true)
@[simp] theorem nob_map (n : Nat) : (nob n).map boolA = List.replicate n (AV.val (.bool false)) := by simp [nob, boolA]
theorem nob_len (n : Nat) : (nob n).length = n := by simp [nob]
theorem nob_le {n : Nat} {S : List Bool} (h : S.length = n) : leB (nob n) S := ⟨by simp [nob, h], fun i hi => by
  have := nth_lt hi; rw [nob_len] at this
  rw [nob, nth_replicate this] at hi; cases hi⟩

/-- S is closed under productivity. -/
theorem stepP_closed {g : Gram} {S : List Bool} (h : ∀ r, r ∈ g.rules → r.body.all (okSym S) = true → nth S r.head.toNat = true) : stepP g S = S := by
  refine nth_ext (by simp [stepP]) fun i hi => ?_
  simp only [stepP, List.length_map, List.length_range] at hi
  rw [stepP, nth_range hi]
  cases hb : nth S i with
  | true => rfl
  | false =>
    rw [Bool.false_or, List.any_eq_false]
    intro r hr hc
    simp only [Bool.and_eq_true, decide_eq_true_eq] at hc
    have := h r hr hc.2
    rw [hc.1] at this
    simp [hb] at this
theorem stepP_closes {g : Gram} {S : List Bool} (h : leB (stepP g S) S) {r : Rul} (hr : r ∈ g.rules) (h0 : 0 ≤ r.head) (hn : r.head < S.length) (hb : r.body.all (okSym S) = true) : nth S r.head.toNat = true := by
  apply h.2
  rw [stepP, nth_range (by omega)]
  simp only [Bool.or_eq_true, List.any_eq_true, Bool.and_eq_true, decide_eq_true_eq]
  exact .inr ⟨r, hr, by omega, hb⟩
theorem stepU_closed {g : Gram} {is S : List Bool} (h : ∀ r, r ∈ g.rules → nth S r.head.toNat = true → r.body.all (okSym is) = true → ∀ x, x ∈ r.body → x < 0 → nth S (-1 - x).toNat = true) : stepU g is S = S := by
  refine nth_ext (by simp [stepU]) fun i hi => ?_
  simp only [stepU, List.length_map, List.length_range] at hi
  rw [stepU, nth_range hi]
  cases hb : nth S i with
  | true => rfl
  | false =>
    rw [Bool.false_or, List.any_eq_false]
    intro r hr hc
    simp only [Bool.and_eq_true, List.any_eq_true, decide_eq_true_eq] at hc
    obtain ⟨⟨h1, h2⟩, x, hx, rfl⟩ := hc
    have := h r hr h1 h2 _ hx (by omega)
    rw [show (-1 - (-1 - (i : Int))).toNat = i by omega, hb] at this
    cases this
theorem stepU_closes {g : Gram} {is S : List Bool} (h : leB (stepU g is S) S) {r : Rul} (hr : r ∈ g.rules) (h1 : nth S r.head.toNat = true) (h2 : r.body.all (okSym is) = true) {x : Int} (hx : x ∈ r.body) (h0 : x < 0) (hn : -(S.length : Int) ≤ x) : nth S (-1 - x).toNat = true := by
  apply h.2
  rw [stepU, nth_range (by omega)]
  simp only [Bool.or_eq_true, List.any_eq_true, Bool.and_eq_true, decide_eq_true_eq]
  exact .inr ⟨r, hr, ⟨h1, h2⟩, x, hx, by omega⟩
theorem leB_set {a S : List Bool} {i : Nat} (h : leB a S) (hi : nth S i = true) : leB (a.set i true) S := by
  refine ⟨by simp [h.1], fun j hj => ?_⟩
  rw [nth_set (by rw [h.1]; exact nth_lt hi)] at hj
  split at hj
  · rename_i e; subst e; exact hi
  · exact h.2 j hj
theorem leB_set_up {a : List Bool} {i : Nat} : leB a (a.set i true) := by
  refine ⟨by simp, fun j hj => ?_⟩
  have := nth_lt hj
  simp only [nth, List.getD, List.getElem?_set] at *
  by_cases h : i = j
  · subst h; simp [this]
  · simp [h]; simpa using hj
end Go.Lg

/- What a valid grammar is. -/
namespace Go.Lg

structure RulFit (g : Gram) (r : Rul) : Prop where
  h0 : 0 ≤ r.head
  hn : r.head < g.nonterms.length
  len : r.body.length ≤ 12
  p0 : 0 ≤ r.price
  p1 : r.price ≤ 1000
  hi : ∀ x, x ∈ r.body → x < g.terms.length
  lo : ∀ x, x ∈ r.body → -(g.nonterms.length : Int) ≤ x
structure GVal (g : Gram) : Prop where
  terms : g.terms.length ≤ 120
  n1 : 1 ≤ g.nonterms.length
  n2 : g.nonterms.length ≤ 120
  r1 : 1 ≤ g.rules.length
  r2 : g.rules.length ≤ 120
  s0 : 0 ≤ g.start
  sn : g.start < g.nonterms.length
  names : namesOk (g.terms ++ g.nonterms) = true
  rule : ∀ r, r ∈ g.rules → RulFit g r
theorem ruleOk_iff {g : Gram} {r : Rul} : ruleOk g r = true ↔ RulFit g r := by
  constructor
  · intro h
    simp only [ruleOk, Bool.and_eq_true, decide_eq_true_eq, List.all_eq_true, symOk] at h
    obtain ⟨⟨⟨⟨⟨h1, h2⟩, h3⟩, h4⟩, h5⟩, h6⟩ := h
    exact ⟨h1, h2, h3, h4, h5, fun x hx => (h6 x hx).1, fun x hx => (h6 x hx).2⟩
  · intro h
    simp only [ruleOk, Bool.and_eq_true, decide_eq_true_eq, List.all_eq_true, symOk]
    exact ⟨⟨⟨⟨⟨h.h0, h.hn⟩, h.len⟩, h.p0⟩, h.p1⟩, fun x hx => ⟨h.hi x hx, h.lo x hx⟩⟩
theorem validG_iff {g : Gram} : validG g = true ↔ GVal g := by
  constructor
  · intro h
    simp only [validG, Bool.and_eq_true, decide_eq_true_eq, List.all_eq_true] at h
    obtain ⟨⟨⟨⟨⟨⟨⟨⟨h1, h2⟩, h3⟩, h4⟩, h5⟩, h6⟩, h7⟩, h8⟩, h9⟩ := h
    exact ⟨h1, h2, h3, h4, h5, h6, h7, h8, fun r hr => ruleOk_iff.1 (h9 r hr)⟩
  · intro h
    simp only [validG, Bool.and_eq_true, decide_eq_true_eq, List.all_eq_true]
    exact ⟨⟨⟨⟨⟨⟨⟨⟨h.terms, h.n1⟩, h.n2⟩, h.r1⟩, h.r2⟩, h.s0⟩, h.sn⟩, h.names⟩, fun r hr => ruleOk_iff.2 (h.rule r hr)⟩
theorem prodG_len (g : Gram) : (prodG g).length = g.nonterms.length := by
  have := (lfpB_up (stepP_mono g _) (l := nob g.nonterms.length) (nob_len _)).1
  rw [nob_len] at this; exact this.symm
theorem usefulG_len (g : Gram) (is : List Bool) : (usefulG g is).length = g.nonterms.length := by
  have hl : ((nob g.nonterms.length).set g.start.toNat true).length = g.nonterms.length := by simp [nob]
  have := (lfpB_up (stepU_mono g is _) hl).1
  rw [hl] at this; exact this.symm
end Go.Lg

/- emendateref22.productive: are all symbols of a body terminals, or nonterminals of the set? -/
namespace Go.Lg
open Go.Proofs
set_option linter.unusedSimpArgs false
set_option linter.unusedVariables false
attribute [local irreducible] Ap Rq asemC WP RunD Ret Gq thenA inBlockA bodyQ noGotoA RqL RqP OpP
set_option maxHeartbeats 1000000


theorem productive_fn (is : List Bool) (l : List Int) (hl : ∀ x, x ∈ l → -(is.length : Int) ≤ x) : Fn Try.prog 24 [boolsA is, intsA l] (boolA (l.all (okSym is))) := by
  refine Fn.intro (by exact rfl) (by kernel_rfl) Try.func24 rfl rfl Try.ntmps24 (by exact Nat.le_of_ble_eq_true rfl) ?_; intro Γ hm
  refine wp_lens 0 rfl fun h0 => wp_lens 1 rfl fun h1 => ?_
  rw [lens_boolsA] at h0
  rw [lens_intsA] at h1
  (repeat' (first | refine WP.seq ?_ | refine WP.block ?_ | refine go_n ?_ | (refine WP.regionC (id := 0) ?_; (refine su (ap_assign (by exact rq_p rfl rfl)) ?_); refine asemC_end ?_) | (refine WP.regionC (id := 1) ?_; (refine su (ap_assign (by exact rq_p rfl rfl)) ?_); refine asemC_end ?_)))
  refine wp_loop (fun k => k ≤ l.length ∧ (l.take k).all (okSym is) = true) (fun k => l.length - k) (fun k => (S 28 [(0, boolsA is), (1, intsA l), (5, intA (k : Nat))] 0 [])) 0 ⟨[], ToR.S rfl (by repeat' (first | exact rt_nil | refine rt_e (by exact rfl) (by exact rfl) ?_ | refine rt_p (by exact rfl) (by exact rfl) (by (simp [AV.bd, bdL, bdL_append]; done)) ?_)) (by repeat' (exact ro_nil)) (by decide) (by (rw [hm]; exact rfl)) (by exact rfl) (by (simp [bdT, AV.bd, bdL, bdL_append]; done)) (by repeat' (exact True.intro)) (by (rw [hm]; exact Nat.le_of_ble_eq_true rfl))⟩ ⟨Nat.zero_le _, rfl⟩ ?_
  rintro k ⟨hk, hall⟩
  have hx : k < l.length → -(is.length : Int) ≤ nth l k := fun h => hl _ (nth_mem h)
  (repeat' (first | refine WP.seq ?_ | refine WP.block ?_ | refine go_n ?_ | refine WP.skip ?_ | refine WP.exit ?_ | refine WP.ret ?_ | refine go_x ?_ | refine go_r ?_ | refine bl_n ?_ | refine bl_r ?_ | refine bl_x ?_ | refine bo_r ?_ | (refine wp_cond (by exact rfl) (fun hc => ?_) (fun hc => ?_) <;> (try simp only [decide_eq_true_eq, decide_eq_false_iff_not, Decidable.not_not, Bool.and_eq_true, Bool.or_eq_true, Bool.not_eq_true', Bool.not_eq_false', Bool.or_eq_false_iff, Bool.and_eq_false_iff, Int.not_lt, Int.not_le, reduceCtorEq, ne_eq, Bool.not_true, Bool.not_false, Bool.not_eq_true, Bool.not_eq_false] at hc) <;> (try (exfalso; omega))) | (refine WP.regionC (id := 2) ?_; (refine su (ap_move (by exact rq_p rfl rfl)) ?_); (refine su (ap_move (by exact rq_p rfl rfl)) ?_); (refine su (ap_len_m (by exact rfl) (by exact rq_p rfl rfl)) ?_); (refine su (ap_lss (by exact rq_p rfl rfl) (by exact rq_p rfl rfl)) ?_); refine asemC_end ?_) | (refine WP.regionC (id := 4) ?_; (refine su (ap_move (by exact rq_p rfl rfl)) ?_); (refine su (ap_move (by exact rq_p rfl rfl)) ?_); (refine su (ap_idx_n (by exact rq_p rfl rfl) (by exact rq_p rfl rfl) (by omega)) ?_); (refine su (ap_load_w (by exact rq_p rfl rfl) (by exact rfl)) ?_); (refine su (ap_lss (by exact rq_p rfl rfl) (by exact rq_p rfl rfl)) ?_); (refine su (ap_move (by exact rq_p rfl rfl)) ?_); (refine sg (by exact gq_vt rfl rfl) (fun he => ap_move (by exact rq_p rfl rfl)) ?_); (refine sg (by exact gq_vt rfl rfl) (fun he => ap_move (by exact rq_p rfl rfl)) ?_); (refine sg (by exact gq_vt rfl rfl) (fun he => ap_move (by exact rq_p rfl rfl)) ?_); (refine sg (by exact gq_vt rfl rfl) (fun he => ap_idx_n (by exact rq_c rfl rfl) (by exact rq_c rfl rfl) (by (try simp only [List.all_cons, List.all_append, List.all_nil, id, Bool.and_true, decide_eq_true_eq, decide_eq_false_iff_not, Decidable.not_not, Bool.and_eq_true, Bool.or_eq_true, Bool.not_eq_true', Bool.not_eq_false', Bool.or_eq_false_iff, Bool.and_eq_false_iff, Int.not_lt, Int.not_le, reduceCtorEq, ne_eq, Bool.not_true, Bool.not_false, Bool.not_eq_true, Bool.not_eq_false] at he); omega)) ?_); (refine sg (by exact gq_vt rfl rfl) (fun he => ap_load_w (by exact rq_c rfl rfl) (by exact rfl)) ?_); (refine sg (by exact gq_vt rfl rfl) (fun he => ap_sub (by exact rq_p rfl rfl) (by exact rq_c rfl rfl) (by (try simp only [List.all_cons, List.all_append, List.all_nil, id, Bool.and_true, decide_eq_true_eq, decide_eq_false_iff_not, Decidable.not_not, Bool.and_eq_true, Bool.or_eq_true, Bool.not_eq_true', Bool.not_eq_false', Bool.or_eq_false_iff, Bool.and_eq_false_iff, Int.not_lt, Int.not_le, reduceCtorEq, ne_eq, Bool.not_true, Bool.not_false, Bool.not_eq_true, Bool.not_eq_false] at he); exact inr_i64_of (by omega))) ?_); (refine sg (by exact gq_vt rfl rfl) (fun he => ap_idx_z (by exact rq_c rfl rfl) (by exact rq_c rfl rfl) (by (try simp only [List.all_cons, List.all_append, List.all_nil, id, Bool.and_true, decide_eq_true_eq, decide_eq_false_iff_not, Decidable.not_not, Bool.and_eq_true, Bool.or_eq_true, Bool.not_eq_true', Bool.not_eq_false', Bool.or_eq_false_iff, Bool.and_eq_false_iff, Int.not_lt, Int.not_le, reduceCtorEq, ne_eq, Bool.not_true, Bool.not_false, Bool.not_eq_true, Bool.not_eq_false] at he); omega)) ?_); (refine sg (by exact gq_vt rfl rfl) (fun he => ap_load_w (by exact rq_c rfl rfl) (by exact rfl)) ?_); (refine sg (by exact gq_vt rfl rfl) (fun he => ap_not (by exact rq_c rfl rfl)) ?_); (refine su (ap_and (by exact rq_p rfl rfl) (by exact rq_c rfl rfl)) ?_); refine asemC_end ?_) | (refine WP.regionC (id := 5) ?_; (refine su (ap_assign (by exact rq_p rfl rfl)) ?_); refine asemC_end ?_) | (refine WP.regionC (id := 3) ?_; (refine su (ap_move (by exact rq_p rfl rfl)) ?_); (refine su (ap_add (by exact rq_p rfl rfl) (by exact rq_p rfl rfl) (by exact inr_i64_of (by omega))) ?_); (refine su (ap_assign (by exact rq_p rfl rfl)) ?_); refine asemC_end ?_) | (refine WP.regionC (id := 6) ?_; (refine su (ap_assign (by exact rq_p rfl rfl)) ?_); refine asemC_end ?_) | refine ret_b (by exact rfl) ?_))
  · rw [all_nth_no (k := k) (by omega)]
    simp [okSym, hc.2]; omega
  · refine ⟨k + 1, ⟨by omega, by omega, take_all_succ (by omega) hall ?_⟩, ⟨[], ToR.S rfl (by repeat' (first | exact rt_nil | refine rt_e (by exact rfl) (by exact rfl) ?_ | refine rt_p (by exact rfl) (by exact rfl) (by (simp [AV.bd, bdL, bdL_append]; done)) ?_)) (by repeat' (exact ro_nil)) (by decide) (by (rw [hm]; exact rfl)) (by exact rfl) (by (simp [bdT, AV.bd, bdL, bdL_append]; done)) (by repeat' (exact True.intro)) (by (rw [hm]; exact Nat.le_of_ble_eq_true rfl))⟩⟩
    simp [okSym]; omega
  rw [all_of_take' (by omega) hall]
end Go.Lg

/- emendateref22.Productive, Useful -/
namespace Go.Lg
open Go.Proofs
set_option linter.unusedSimpArgs false
set_option linter.unusedVariables false
attribute [local irreducible] Ap Rq asemC WP RunD Ret Gq thenA inBlockA bodyQ noGotoA RqL RqP OpP
set_option maxHeartbeats 4000000

/-- Below every closed set. -/
def UnderP (g : Gram) (out : List Bool) : Prop := out.length = g.nonterms.length ∧ ∀ S : List Bool, S.length = g.nonterms.length → leB (stepP g S) S → leB out S
theorem UnderP.nob (g : Gram) : UnderP g (nob g.nonterms.length) := ⟨nob_len _, fun S hS _ => nob_le hS⟩
theorem UnderP.set {g : Gram} {out : List Bool} (hv : GVal g) (h : UnderP g out) {r : Rul} (hr : r ∈ g.rules) (hb : r.body.all (okSym out) = true) : UnderP g (out.set r.head.toNat true) := by
  refine ⟨by simp [h.1], fun S hS hc => leB_set (h.2 S hS hc) ?_⟩
  refine stepP_closes hc hr (hv.rule r hr).h0 (by rw [hS]; exact (hv.rule r hr).hn) ?_
  rw [List.all_eq_true] at *
  exact fun x hx => okSym_mono (h.2 S hS hc) (hb x hx)
theorem UnderP.eq {g : Gram} {out : List Bool} (h : UnderP g out) (hc : ∀ r, r ∈ g.rules → r.body.all (okSym out) = true → nth out r.head.toNat = true) : out = prodG g :=
  (lfpB_eq (stepP_mono g _) (nob_len _) (nob_le h.1) (stepP_closed hc) (fun S h1 h2 => h.2 S (by rw [← h1.1, nob_len]) h2)).symm

theorem rproductive_fn (g : Gram) (hv : GVal g) : Fn Try.prog 22 [gramA g] (boolsA (prodG g)) := by
  refine Fn.intro (by simp [AV.bd, bdL, bdL_append]) (by kernel_rfl) Try.func22 rfl rfl Try.ntmps22 (by exact Nat.le_of_ble_eq_true rfl) ?_; intro Γ hm
  have hn2 := hv.n2
  have hr2 := hv.r2
  (repeat' (first | refine WP.seq ?_ | refine WP.block ?_ | refine go_n ?_ | (refine WP.regionC (id := 0) ?_; (refine se_box (by exact rfl) (by exact ⟨rfl, rfl⟩) ?_); (refine su (ap_assign (by exact rq_p rfl rfl)) ?_); refine asemC_end ?_) | (refine WP.regionC (id := 1) ?_; (refine su (ap_field_p (by exact rq_p rfl rfl) (by exact rfl) (by exact rfl)) ?_); (refine su (ap_load_p (by exact rq_p rfl rfl) (by exact rfl) (by exact rfl) (by exact rfl)) ?_); (refine su (ap_len_m (by exact rfl) (by exact rq_p rfl rfl)) ?_); (refine se_makeT boolA false (by exact rfl) (by exact rfl) (by exact rfl) (by exact rfl) (by exact rfl) (by omega) ?_); (refine su (ap_assign (by exact rq_p rfl rfl)) ?_); refine asemC_end ?_) | (refine WP.regionC (id := 2) ?_; (refine su (ap_assign (by exact rq_p rfl rfl)) ?_); refine asemC_end ?_)))
  refine wp_loop (fun (x : List Bool × Bool) => UnderP g x.1 ∧ (x.2 = false → ∀ r, r ∈ g.rules → r.body.all (okSym x.1) = true → nth x.1 r.head.toNat = true)) (fun x => 2 * falses x.1 + if x.2 then 1 else 0)
    (fun x => (S 47 [(1, .ptr 0 4 0 0), (3, .ref 1 1 0 g.nonterms.length), (4, boolA x.2)] 2 [(0, some (.arr 4 [gramA g])), (1, some (.arr 1 (x.1.map boolA)))])) (nob g.nonterms.length, true) ⟨[0, 1], ToR.S rfl (by repeat' (first | exact rt_nil | refine rt_r (by exact rfl) (by exact rfl) ?_ | refine rt_t (by exact rfl) (by exact rfl) ?_ | refine rt_e (by exact rfl) (by exact rfl) ?_)) (by repeat' (first | exact ro_nil | refine ro_p (by exact rfl) (by exact rfl) (by first | exact bdL_map (fun _ => by exact rfl) _ | (simp [bdL, bdL_append, AV.bd]; done)) ?_)) (by decide) (by (rw [hm]; exact rfl)) (by exact rfl) (by (simp [bdT, AV.bd, bdL, bdL_append]; done)) (by repeat' (first | exact True.intro | refine And.intro ?_ ?_ | exact bdL_map (fun _ => by exact rfl) _ | (simp [bdOq, bdL, bdL_append, AV.bd]; done))) (by (rw [hm]; exact Nat.le_of_ble_eq_true rfl))⟩ ⟨UnderP.nob g, by simp⟩ ?_
  rintro ⟨out, more⟩ ⟨hu, hc0⟩
  dsimp only at *
  have hol := hu.1
  (repeat' (first | refine WP.seq ?_ | refine WP.block ?_ | refine go_n ?_ | refine WP.skip ?_ | refine WP.exit ?_ | refine WP.ret ?_ | refine go_x ?_ | refine bl_x ?_ | refine bo_r ?_ | (refine wp_cond (by exact rfl) (fun hc => ?_) (fun hc => ?_) <;> (try simp only [decide_eq_true_eq, decide_eq_false_iff_not, Decidable.not_not, Bool.and_eq_true, Bool.or_eq_true, Bool.not_eq_true', Bool.not_eq_false', Bool.or_eq_false_iff, Bool.and_eq_false_iff, Int.not_lt, Int.not_le, reduceCtorEq, ne_eq, Bool.not_true, Bool.not_false, Bool.not_eq_true, Bool.not_eq_false] at hc) <;> (try (exfalso; omega))) | (refine WP.regionC (id := 3) ?_; (refine su (ap_move (by exact rq_p rfl rfl)) ?_); refine asemC_end ?_) | (refine WP.regionC (id := 4) ?_; (refine su (ap_assign (by exact rq_p rfl rfl)) ?_); refine asemC_end ?_) | (refine WP.regionC (id := 5) ?_; (refine su (ap_assign (by exact rq_p rfl rfl)) ?_); refine asemC_end ?_) | (refine WP.regionC (id := 10) ?_; (refine su (ap_move (by exact rq_p rfl rfl)) ?_); (refine su (ap_assign (by exact rq_p rfl rfl)) ?_); refine asemC_end ?_) | refine ret_sl (by exact rfl) (by exact rfl) (by first | exact rfl | assumption) (fun _ => by exact rfl) (fun _ => rfl) ?_))
  · refine wp_loop (fun (x : List Bool × Bool × Nat) => UnderP g x.1 ∧ x.2.2 ≤ g.rules.length ∧ (x.2.1 = true → falses x.1 < falses out) ∧ (x.2.1 = false → x.1 = out ∧ ∀ j, j < x.2.2 → (nth g.rules j).body.all (okSym out) = true → nth out (nth g.rules j).head.toNat = true)) (fun x => g.rules.length - x.2.2)
      (fun x => (S 47 [(1, .ptr 0 4 0 0), (3, .ref 1 1 0 g.nonterms.length), (4, boolA x.2.1), (5, intA (x.2.2 : Nat))] 2 [(0, some (.arr 4 [gramA g])), (1, some (.arr 1 (x.1.map boolA)))])) (out, false, 0) ⟨[0, 1], ToR.S rfl (by repeat' (first | exact rt_nil | refine rt_r (by exact rfl) (by exact rfl) ?_ | refine rt_t (by exact rfl) (by exact rfl) ?_ | refine rt_e (by exact rfl) (by exact rfl) ?_)) (by repeat' (first | exact ro_nil | refine ro_p (by exact rfl) (by exact rfl) (by first | exact bdL_map (fun _ => by exact rfl) _ | (simp [bdL, bdL_append, AV.bd]; done)) ?_)) (by decide) (by (rw [hm]; exact rfl)) (by exact rfl) (by (simp [bdT, AV.bd, bdL, bdL_append]; done)) (by repeat' (first | exact True.intro | refine And.intro ?_ ?_ | exact bdL_map (fun _ => by exact rfl) _ | (simp [bdOq, bdL, bdL_append, AV.bd]; done))) (by (rw [hm]; exact Nat.le_of_ble_eq_true rfl))⟩ ⟨hu, Nat.zero_le _, by simp, by simp⟩ ?_
    rintro ⟨o, mo, i⟩ ⟨hu', hi, ht, hf⟩
    dsimp only at *
    have hol' := hu'.1
    have hrf : i < g.rules.length → RulFit g (nth g.rules i) := fun h => hv.rule _ (nth_mem h)
    by_cases hlt : i < g.rules.length
    · have hr := hrf hlt
      have hr0 := hr.h0
      have hrn := hr.hn
      have hlo : ∀ x, x ∈ (nth g.rules i).body → -(o.length : Int) ≤ x := fun x hx => by have := hr.lo x hx; omega
      have hfo : falses o ≤ falses out := by
        cases mo with
        | true => have := ht rfl; omega
        | false => rw [(hf rfl).1]; exact Nat.le_refl _
      (repeat' (first | refine WP.seq ?_ | refine WP.block ?_ | refine go_n ?_ | refine WP.skip ?_ | refine bl_n ?_ | (refine wp_cond (by exact rfl) (fun hc => ?_) (fun hc => ?_) <;> (try simp only [decide_eq_true_eq, decide_eq_false_iff_not, Decidable.not_not, Bool.and_eq_true, Bool.or_eq_true, Bool.not_eq_true', Bool.not_eq_false', Bool.or_eq_false_iff, Bool.and_eq_false_iff, Int.not_lt, Int.not_le, reduceCtorEq, ne_eq, Bool.not_true, Bool.not_false, Bool.not_eq_true, Bool.not_eq_false] at hc) <;> (try (exfalso; omega))) | (refine WP.regionC (id := 6) ?_; (refine su (ap_move (by exact rq_p rfl rfl)) ?_); (refine su (ap_field_p (by exact rq_p rfl rfl) (by exact rfl) (by exact rfl)) ?_); (refine su (ap_load_p (by exact rq_p rfl rfl) (by exact rfl) (by exact rfl) (by exact rfl)) ?_); (refine su (ap_len_m (by exact rfl) (by exact rq_p rfl rfl)) ?_); (refine su (ap_lss (by exact rq_p rfl rfl) (by exact rq_p rfl rfl)) ?_); refine asemC_end ?_) | (refine WP.regionC (id := 8) ?_; (refine su (ap_move (by exact rq_p rfl rfl)) ?_); (refine su (ap_field_p (by exact rq_p rfl rfl) (by exact rfl) (by exact rfl)) ?_); (refine su (ap_load_p (by exact rq_p rfl rfl) (by exact rfl) (by exact rfl) (by exact rfl)) ?_); (refine su (ap_move (by exact rq_p rfl rfl)) ?_); (refine su (ap_idx_n (by exact rq_p rfl rfl) (by exact rq_p rfl rfl) (by omega)) ?_); (refine su (ap_field_i (by exact rq_p rfl rfl) (by exact rfl) (by exact rfl)) ?_); (refine su (ap_load_i (by exact rq_p rfl rfl) (by exact rfl)) ?_); (refine su (ap_idxr_z (by exact rq_p rfl rfl) (by exact rq_p rfl rfl) (by omega)) ?_); (refine su (ap_load_pt (by exact rq_p rfl rfl) (by exact rfl) (by omega) (by exact rfl)) ?_); (refine su (ap_not (by exact rq_p rfl rfl)) ?_); (refine su (ap_move (by exact rq_p rfl rfl)) ?_); (refine sg (by exact gq_vt rfl rfl) (fun he => ap_move (by exact rq_p rfl rfl)) ?_); (refine sg (by exact gq_vt rfl rfl) (fun he => ap_field_p (by exact rq_p rfl rfl) (by exact rfl) (by exact rfl)) ?_); (refine sg (by exact gq_vt rfl rfl) (fun he => ap_load_p (by exact rq_c rfl rfl) (by exact rfl) (by exact rfl) (by exact rfl)) ?_); (refine sg (by exact gq_vt rfl rfl) (fun he => ap_move (by exact rq_p rfl rfl)) ?_); (refine sg (by exact gq_vt rfl rfl) (fun he => ap_idx_n (by exact rq_c rfl rfl) (by exact rq_c rfl rfl) (by (try simp only [List.all_cons, List.all_append, List.all_nil, id, Bool.and_true, decide_eq_true_eq, decide_eq_false_iff_not, Decidable.not_not, Bool.and_eq_true, Bool.or_eq_true, Bool.not_eq_true', Bool.not_eq_false', Bool.or_eq_false_iff, Bool.and_eq_false_iff, Int.not_lt, Int.not_le, reduceCtorEq, ne_eq, Bool.not_true, Bool.not_false, Bool.not_eq_true, Bool.not_eq_false] at he); omega)) ?_); (refine sg (by exact gq_vt rfl rfl) (fun he => ap_field_i (by exact rq_c rfl rfl) (by exact rfl) (by exact rfl)) ?_); (refine sg (by exact gq_vt rfl rfl) (fun he => ap_load_i (by exact rq_c rfl rfl) (by exact rfl)) ?_); (refine sg_b (by exact gq_vt rfl rfl) (fun he => ⟨(by exact rq_p rfl rfl), (RqL.cons (by exact rq_c rfl rfl) (RqL.cons (by exact rq_c rfl rfl) (RqL.nil))), (by repeat' first | exact FzL.nil | refine FzL.cons ?_ ?_ | (exact Fz.list (by exact rfl) (by assumption) (fun _ => by simp [AV.bd, bdL, bdL_append]) (fun _ => rfl)) | (exact Fz.reflp (by simp [AV.bd, bdL, bdL_append]))), productive_fn _ _ (by assumption), (by exact rfl)⟩) ?_); (refine su (ap_and (by exact rq_p rfl rfl) (by exact rq_c rfl rfl)) ?_); refine asemC_end ?_) | (refine WP.regionC (id := 9) ?_; (refine su (ap_move (by exact rq_p rfl rfl)) ?_); (refine su (ap_field_p (by exact rq_p rfl rfl) (by exact rfl) (by exact rfl)) ?_); (refine su (ap_load_p (by exact rq_p rfl rfl) (by exact rfl) (by exact rfl) (by exact rfl)) ?_); (refine su (ap_move (by exact rq_p rfl rfl)) ?_); (refine su (ap_idx_n (by exact rq_p rfl rfl) (by exact rq_p rfl rfl) (by omega)) ?_); (refine su (ap_field_i (by exact rq_p rfl rfl) (by exact rfl) (by exact rfl)) ?_); (refine su (ap_load_i (by exact rq_p rfl rfl) (by exact rfl)) ?_); (refine su (ap_idxr_z (by exact rq_p rfl rfl) (by exact rq_p rfl rfl) (by omega)) ?_); (refine se_store_t (by exact rfl) (by exact rfl) (by omega) (by exact rfl) (by exact rfl) ?_); (refine su (ap_assign (by exact rq_p rfl rfl)) ?_); refine asemC_end ?_) | (refine WP.regionC (id := 7) ?_; (refine su (ap_move (by exact rq_p rfl rfl)) ?_); (refine su (ap_add (by exact rq_p rfl rfl) (by exact rq_p rfl rfl) (by exact inr_i64_of (by omega))) ?_); (refine su (ap_assign (by exact rq_p rfl rfl)) ?_); refine asemC_end ?_)))
      · refine ⟨(o.set (nth g.rules i).head.toNat true, true, i + 1), ⟨by dsimp only; omega, hu'.set hv (nth_mem hlt) hc.2, by dsimp only; omega, fun _ => ?_, by simp⟩, ⟨[0, 1], ToR.S rfl (by repeat' (first | exact rt_nil | refine rt_r (by exact rfl) (by exact rfl) ?_ | refine rt_t (by exact rfl) (by exact rfl) ?_ | refine rt_e (by exact rfl) (by exact rfl) ?_)) (by repeat' (first | exact ro_nil | refine ro_p (by exact rfl) (by exact rfl) (by first | exact bdL_map (fun _ => by exact rfl) _ | (simp [bdL, bdL_append, AV.bd]; done)) ?_)) (by decide) (by (rw [hm]; exact rfl)) (by exact rfl) (by (simp [bdT, AV.bd, bdL, bdL_append]; done)) (by repeat' (first | exact True.intro | refine And.intro ?_ ?_ | exact bdL_map (fun _ => by exact rfl) _ | (simp [bdOq, bdL, bdL_append, AV.bd]; done))) (by (rw [hm]; exact Nat.le_of_ble_eq_true rfl))⟩⟩
        have := falses_set (l := o) (i := (nth g.rules i).head.toNat) (by omega) hc.1
        dsimp only; omega
      · refine ⟨(o, mo, i + 1), ⟨by dsimp only; omega, hu', by dsimp only; omega, ht, fun h => ⟨(hf h).1, fun j hj hb => ?_⟩⟩, ⟨[0, 1], ToR.S rfl (by repeat' (first | exact rt_nil | refine rt_r (by exact rfl) (by exact rfl) ?_ | refine rt_t (by exact rfl) (by exact rfl) ?_ | refine rt_e (by exact rfl) (by exact rfl) ?_)) (by repeat' (first | exact ro_nil | refine ro_p (by exact rfl) (by exact rfl) (by first | exact bdL_map (fun _ => by exact rfl) _ | (simp [bdL, bdL_append, AV.bd]; done)) ?_)) (by decide) (by (rw [hm]; exact rfl)) (by exact rfl) (by (simp [bdT, AV.bd, bdL, bdL_append]; done)) (by repeat' (first | exact True.intro | refine And.intro ?_ ?_ | exact bdL_map (fun _ => by exact rfl) _ | (simp [bdOq, bdL, bdL_append, AV.bd]; done))) (by (rw [hm]; exact Nat.le_of_ble_eq_true rfl))⟩⟩
        dsimp only at hj
        by_cases e : j = i
        · subst e
          rw [(hf h).1] at hc
          rcases hc with hc | hc
          · exact hc
          · rw [hb] at hc; cases hc
        · exact (hf h).2 j (by omega) hb
    · (repeat' (first | refine WP.seq ?_ | refine go_n ?_ | refine WP.exit ?_ | refine go_x ?_ | refine bl_n ?_ | refine bl_x ?_ | (refine wp_cond (by exact rfl) (fun hc => ?_) (fun hc => ?_) <;> (try simp only [decide_eq_true_eq, decide_eq_false_iff_not, Decidable.not_not, Bool.and_eq_true, Bool.or_eq_true, Bool.not_eq_true', Bool.not_eq_false', Bool.or_eq_false_iff, Bool.and_eq_false_iff, Int.not_lt, Int.not_le, reduceCtorEq, ne_eq, Bool.not_true, Bool.not_false, Bool.not_eq_true, Bool.not_eq_false] at hc) <;> (try (exfalso; omega))) | (refine WP.regionC (id := 6) ?_; (refine su (ap_move (by exact rq_p rfl rfl)) ?_); (refine su (ap_field_p (by exact rq_p rfl rfl) (by exact rfl) (by exact rfl)) ?_); (refine su (ap_load_p (by exact rq_p rfl rfl) (by exact rfl) (by exact rfl) (by exact rfl)) ?_); (refine su (ap_len_m (by exact rfl) (by exact rq_p rfl rfl)) ?_); (refine su (ap_lss (by exact rq_p rfl rfl) (by exact rq_p rfl rfl)) ?_); refine asemC_end ?_)))
      refine ⟨(o, mo), ⟨?_, hu', fun h r hr => ?_⟩, ⟨[0, 1], ToR.S rfl (by repeat' (first | exact rt_nil | refine rt_r (by exact rfl) (by exact rfl) ?_ | refine rt_t (by exact rfl) (by exact rfl) ?_ | refine rt_e (by exact rfl) (by exact rfl) ?_)) (by repeat' (first | exact ro_nil | refine ro_p (by exact rfl) (by exact rfl) (by first | exact bdL_map (fun _ => by exact rfl) _ | (simp [bdL, bdL_append, AV.bd]; done)) ?_)) (by decide) (by (rw [hm]; exact rfl)) (by exact rfl) (by (simp [bdT, AV.bd, bdL, bdL_append]; done)) (by repeat' (first | exact True.intro | refine And.intro ?_ ?_ | exact bdL_map (fun _ => by exact rfl) _ | (simp [bdOq, bdL, bdL_append, AV.bd]; done))) (by (rw [hm]; exact Nat.le_of_ble_eq_true rfl))⟩⟩
      · dsimp only
        cases mo with
        | true => have := ht rfl; simp [*]; try omega
        | false => simp [(hf rfl).1, *]
      · dsimp only at h ⊢
        obtain ⟨e, h2⟩ := hf h
        subst e
        obtain ⟨j, hj, rfl⟩ := List.getElem_of_mem hr
        have := h2 j (by omega)
        rwa [nth_eq hj] at this
  · exact hu.eq (hc0 hc)
end Go.Lg

/- Useful nonterminals: what the loops keep (plain law). -/
namespace Go.Lg

def initU (g : Gram) : List Bool := (nob g.nonterms.length).set g.start.toNat true
theorem initU_len (g : Gram) : (initU g).length = g.nonterms.length := by simp [initU, nob]
def UnderU (g : Gram) (is out : List Bool) : Prop := leB (initU g) out ∧ ∀ S : List Bool, leB (initU g) S → leB (stepU g is S) S → leB out S
theorem UnderU.len {g : Gram} {is out : List Bool} (h : UnderU g is out) : out.length = g.nonterms.length := by rw [← h.1.1, initU_len]
theorem UnderU.init (g : Gram) (is : List Bool) : UnderU g is (initU g) := ⟨.refl _, fun _ h _ => h⟩
theorem UnderU.set {g : Gram} {is out : List Bool} (hv : GVal g) (h : UnderU g is out) {r : Rul} (hr : r ∈ g.rules) (h1 : nth out r.head.toNat = true) (h2 : r.body.all (okSym is) = true) {x : Int} (hx : x ∈ r.body) (h0 : x < 0) : UnderU g is (out.set (-1 - x).toNat true) := by
  refine ⟨h.1.trans leB_set_up, fun S hS hc => leB_set (h.2 S hS hc) ?_⟩
  have hn : S.length = g.nonterms.length := by rw [← hS.1, initU_len]
  exact stepU_closes hc hr ((h.2 S hS hc).2 _ h1) h2 hx h0 (by rw [hn]; exact (hv.rule r hr).lo x hx)
def ClosedU (is out : List Bool) (r : Rul) : Prop := nth out r.head.toNat = true → r.body.all (okSym is) = true → ∀ x, x ∈ r.body → x < 0 → nth out (-1 - x).toNat = true
theorem UnderU.eq {g : Gram} {is out : List Bool} (h : UnderU g is out) (hc : ∀ r, r ∈ g.rules → ClosedU is out r) : out = usefulG g is :=
  (lfpB_eq (stepU_mono g is _) (initU_len g) h.1 (stepU_closed hc) (fun S h1 h2 => h.2 S h1 h2)).symm

/-- the loop over the rules, i done -/
structure MidU (g : Gram) (is out o : List Bool) (mo : Bool) (i : Nat) : Prop where
  u : UnderU g is o
  hi : i ≤ g.rules.length
  t : mo = true → falses o < falses out
  f : mo = false → o = out ∧ ∀ j, j < i → ClosedU is out (nth g.rules j)
/-- the loop over a rule's body, k done -/
structure InU (g : Gram) (is out o p : List Bool) (mo mp : Bool) (i k : Nat) : Prop where
  u : UnderU g is p
  hk : k ≤ (nth g.rules i).body.length
  le : leB o p
  t : mp = true → falses p < falses out
  f : mp = false → mo = false ∧ p = o ∧ ∀ j, j < k → nth (nth g.rules i).body j < 0 → nth p (-1 - nth (nth g.rules i).body j).toNat = true
section
variable {g : Gram} {is out o p : List Bool} {mo mp : Bool} {i k : Nat}
theorem MidU.start (h : UnderU g is out) : MidU g is out out false 0 := ⟨h, Nat.zero_le _, by simp, by simp⟩
theorem MidU.fo (h : MidU g is out o mo i) : falses o ≤ falses out := by
  cases mo with
  | true => have := h.t rfl; omega
  | false => rw [(h.f rfl).1]; exact Nat.le_refl _
/-- the rule is skipped -/
theorem MidU.skip (h : MidU g is out o mo i) (hi : i < g.rules.length) (hc : nth o (nth g.rules i).head.toNat = false ∨ (nth g.rules i).body.all (okSym is) = false) : MidU g is out o mo (i + 1) :=
  ⟨h.u, hi, h.t, fun hm => ⟨(h.f hm).1, fun j hj => by
    by_cases e : j = i
    · subst e
      intro h1 h2
      rw [(h.f hm).1] at hc
      rcases hc with hc | hc
      · rw [hc] at h1; cases h1
      · rw [hc] at h2; cases h2
    · exact (h.f hm).2 j (by omega)⟩⟩
theorem InU.start (h : MidU g is out o mo i) : InU g is out o o mo mo i 0 := ⟨h.u, Nat.zero_le _, .refl _, h.t, fun hm => ⟨hm, rfl, by simp⟩⟩
theorem InU.set (hv : GVal g) (h : InU g is out o p mo mp i k) (hi : i < g.rules.length) (hm : MidU g is out o mo i) (h1 : nth o (nth g.rules i).head.toNat = true) (h2 : (nth g.rules i).body.all (okSym is) = true) (hk : k < (nth g.rules i).body.length) (h0 : nth (nth g.rules i).body k < 0) (hn : nth p (-1 - nth (nth g.rules i).body k).toNat = false) :
    InU g is out o (p.set (-1 - nth (nth g.rules i).body k).toNat true) mo true i (k + 1) := by
  refine ⟨h.u.set hv (nth_mem hi) (h.le.2 _ h1) h2 (nth_mem hk) h0, hk, h.le.trans leB_set_up, fun _ => ?_, by simp⟩
  have hlo := (hv.rule _ (nth_mem hi)).lo _ (nth_mem hk)
  have := falses_set (l := p) (i := (-1 - nth (nth g.rules i).body k).toNat) (by rw [h.u.len]; omega) hn
  have h3 := falses_mono h.le
  have h4 := hm.fo
  omega
theorem InU.skip (h : InU g is out o p mo mp i k) (hk : k < (nth g.rules i).body.length) (hc : 0 ≤ nth (nth g.rules i).body k ∨ nth p (-1 - nth (nth g.rules i).body k).toNat = true) : InU g is out o p mo mp i (k + 1) :=
  ⟨h.u, hk, h.le, h.t, fun hm => ⟨(h.f hm).1, (h.f hm).2.1, fun j hj h0 => by
    by_cases e : j = k
    · subst e; rcases hc with hc | hc
      · omega
      · exact hc
    · exact (h.f hm).2.2 j (by omega) h0⟩⟩
theorem InU.stop (h : InU g is out o p mo mp i k) (hm : MidU g is out o mo i) (hi : i < g.rules.length) (hk : (nth g.rules i).body.length ≤ k) : MidU g is out p mp (i + 1) :=
  ⟨h.u, hi, h.t, fun h0 => by
    obtain ⟨h1, h2, h3⟩ := h.f h0
    obtain ⟨h4, h5⟩ := hm.f h1
    refine ⟨h2.trans h4, fun j hj => ?_⟩
    by_cases e : j = i
    · subst e
      intro _ _ x hx hx0
      obtain ⟨m, hm', rfl⟩ := List.getElem_of_mem hx
      have := h3 m (by omega)
      rw [nth_eq hm'] at this
      rw [← h4, ← h2]; exact this hx0
    · exact h5 j (by omega)⟩
theorem MidU.stop (h : MidU g is out o mo i) (hi : g.rules.length ≤ i) (hm : mo = false) : ∀ r, r ∈ g.rules → ClosedU is o r := by
  intro r hr
  obtain ⟨j, hj, rfl⟩ := List.getElem_of_mem hr
  have := (h.f hm).2 j (by omega)
  rw [nth_eq hj] at this
  rw [(h.f hm).1]; exact this
theorem MidU.less (h : MidU g is out o mo i) : 2 * falses o + (if mo = true then 1 else 0) < 2 * falses out + 1 := by
  cases mo with
  | true => have := h.t rfl; simp; omega
  | false => simp [(h.f rfl).1]
end
end Go.Lg

/- emendateref22.Useful -/
namespace Go.Lg
open Go.Proofs
set_option linter.unusedSimpArgs false
set_option linter.unusedVariables false
attribute [local irreducible] Ap Rq asemC WP RunD Ret Gq thenA inBlockA bodyQ noGotoA RqL RqP OpP
set_option maxHeartbeats 4000000

theorem ruseful_fn (g : Gram) (hv : GVal g) : Fn Try.prog 23 [gramA g] (boolsA (usefulG g (prodG g))) := by
  refine Fn.intro (by simp [AV.bd, bdL, bdL_append]) (by kernel_rfl) Try.func23 rfl rfl Try.ntmps23 (by exact Nat.le_of_ble_eq_true rfl) ?_; intro Γ hm
  have hn2 := hv.n2
  have hr2 := hv.r2
  have hs0 := hv.s0
  have hsn := hv.sn
  have hpl := prodG_len g
  (repeat' (first | refine WP.seq ?_ | refine WP.block ?_ | refine go_n ?_ | (refine WP.regionC (id := 0) ?_; (refine se_box (by exact rfl) (by exact ⟨rfl, rfl⟩) ?_); (refine su (ap_assign (by exact rq_p rfl rfl)) ?_); refine asemC_end ?_) | (refine WP.regionC (id := 1) ?_; (refine su (ap_load_pw (by exact rq_p rfl rfl) (by exact rfl) (by exact rfl) (by exact rfl)) ?_); (refine sc_p rfl rfl (by repeat' first | exact SubL.nil | refine SubL.cons ?_ ?_ | exact Sub.refl) (by (simp [bdL, bdL_append, AV.bd]; done)) (rproductive_fn _ (by assumption)) ?_); (refine su (ap_assign (by exact rq_p rfl rfl)) ?_); refine asemC_end ?_) | (refine WP.regionC (id := 2) ?_; (refine su (ap_field_p (by exact rq_p rfl rfl) (by exact rfl) (by exact rfl)) ?_); (refine su (ap_load_p (by exact rq_p rfl rfl) (by exact rfl) (by exact rfl) (by exact rfl)) ?_); (refine su (ap_len_m (by exact rfl) (by exact rq_p rfl rfl)) ?_); (refine se_makeT boolA false (by exact rfl) (by exact rfl) (by exact rfl) (by exact rfl) (by exact rfl) (by omega) ?_); (refine su (ap_assign (by exact rq_p rfl rfl)) ?_); refine asemC_end ?_) | (refine WP.regionC (id := 3) ?_; (refine su (ap_move (by exact rq_p rfl rfl)) ?_); (refine su (ap_field_p (by exact rq_p rfl rfl) (by exact rfl) (by exact rfl)) ?_); (refine su (ap_load_p (by exact rq_p rfl rfl) (by exact rfl) (by exact rfl) (by exact rfl)) ?_); (refine su (ap_idxr_z (by exact rq_p rfl rfl) (by exact rq_p rfl rfl) (by omega)) ?_); (refine se_store_t (by exact rfl) (by exact rfl) (by (simp only [List.length_replicate, List.length_set, List.length_append, List.length_map, List.length_cons, List.length_nil] <;> omega)) (by exact rfl) (by exact rfl) ?_); refine asemC_end ?_) | (refine WP.regionC (id := 4) ?_; (refine su (ap_assign (by exact rq_p rfl rfl)) ?_); refine asemC_end ?_)))
  refine wp_loop (fun (x : List Bool × Bool) => UnderU g (prodG g) x.1 ∧ (x.2 = false → ∀ r, r ∈ g.rules → ClosedU (prodG g) x.1 r)) (fun x => 2 * falses x.1 + if x.2 then 1 else 0)
    (fun x => (S 79 [(1, .ptr 0 4 0 0), (3, boolsA (prodG g)), (4, .ref 1 1 0 g.nonterms.length), (5, boolA x.2)] 2 [(0, some (.arr 4 [gramA g])), (1, some (.arr 1 (x.1.map boolA)))])) (initU g, true) ⟨[0, 1], ToR.S rfl (by repeat' (first | exact rt_nil | refine rt_r (by exact rfl) (by exact rfl) ?_ | refine rt_t (by exact rfl) (by exact rfl) ?_ | refine rt_e (by exact rfl) (by exact rfl) ?_ | refine rt_p (by exact rfl) (by exact rfl) (by (simp [AV.bd, bdL, bdL_append]; done)) ?_)) (by repeat' (first | exact ro_nil | refine ro_p (by exact rfl) (by exact rfl) (by first | exact bdL_map (fun _ => by exact rfl) _ | (simp [bdL, bdL_append, AV.bd]; done)) ?_)) (by decide) (by (rw [hm]; exact rfl)) (by exact rfl) (by (simp [bdT, AV.bd, bdL, bdL_append]; done)) (by repeat' (first | exact True.intro | refine And.intro ?_ ?_ | exact bdL_map (fun _ => by exact rfl) _ | (simp [bdOq, bdL, bdL_append, AV.bd]; done))) (by (rw [hm]; exact Nat.le_of_ble_eq_true rfl))⟩ ⟨UnderU.init g _, by simp⟩ ?_
  rintro ⟨out, more⟩ ⟨hu, hc0⟩
  dsimp only at *
  have hol := hu.len
  (repeat' (first | refine WP.seq ?_ | refine WP.block ?_ | refine go_n ?_ | refine WP.skip ?_ | refine WP.exit ?_ | refine WP.ret ?_ | refine go_x ?_ | refine bl_x ?_ | refine bo_r ?_ | (refine wp_cond (by exact rfl) (fun hc => ?_) (fun hc => ?_) <;> (try simp only [decide_eq_true_eq, decide_eq_false_iff_not, Decidable.not_not, Bool.and_eq_true, Bool.or_eq_true, Bool.not_eq_true', Bool.not_eq_false', Bool.or_eq_false_iff, Bool.and_eq_false_iff, Int.not_lt, Int.not_le, reduceCtorEq, ne_eq, Bool.not_true, Bool.not_false, Bool.not_eq_true, Bool.not_eq_false] at hc) <;> (try (exfalso; omega))) | (refine WP.regionC (id := 5) ?_; (refine su (ap_move (by exact rq_p rfl rfl)) ?_); refine asemC_end ?_) | (refine WP.regionC (id := 6) ?_; (refine su (ap_assign (by exact rq_p rfl rfl)) ?_); refine asemC_end ?_) | (refine WP.regionC (id := 7) ?_; (refine su (ap_assign (by exact rq_p rfl rfl)) ?_); refine asemC_end ?_) | (refine WP.regionC (id := 17) ?_; (refine su (ap_move (by exact rq_p rfl rfl)) ?_); (refine su (ap_assign (by exact rq_p rfl rfl)) ?_); refine asemC_end ?_) | refine ret_sl (by exact rfl) (by exact rfl) (by first | exact rfl | assumption) (fun _ => by exact rfl) (fun _ => rfl) ?_))
  · refine wp_loop (fun (x : List Bool × Bool × Nat) => MidU g (prodG g) out x.1 x.2.1 x.2.2) (fun x => g.rules.length - x.2.2)
      (fun x => (S 79 [(1, .ptr 0 4 0 0), (3, boolsA (prodG g)), (4, .ref 1 1 0 g.nonterms.length), (5, boolA x.2.1), (6, intA (x.2.2 : Nat))] 2 [(0, some (.arr 4 [gramA g])), (1, some (.arr 1 (x.1.map boolA)))])) (out, false, 0) ⟨[0, 1], ToR.S rfl (by repeat' (first | exact rt_nil | refine rt_r (by exact rfl) (by exact rfl) ?_ | refine rt_t (by exact rfl) (by exact rfl) ?_ | refine rt_e (by exact rfl) (by exact rfl) ?_ | refine rt_p (by exact rfl) (by exact rfl) (by (simp [AV.bd, bdL, bdL_append]; done)) ?_)) (by repeat' (first | exact ro_nil | refine ro_p (by exact rfl) (by exact rfl) (by first | exact bdL_map (fun _ => by exact rfl) _ | (simp [bdL, bdL_append, AV.bd]; done)) ?_)) (by decide) (by (rw [hm]; exact rfl)) (by exact rfl) (by (simp [bdT, AV.bd, bdL, bdL_append]; done)) (by repeat' (first | exact True.intro | refine And.intro ?_ ?_ | exact bdL_map (fun _ => by exact rfl) _ | (simp [bdOq, bdL, bdL_append, AV.bd]; done))) (by (rw [hm]; exact Nat.le_of_ble_eq_true rfl))⟩ (MidU.start hu) ?_
    rintro ⟨o, mo, i⟩ hM
    dsimp only at *
    have hol' := hM.u.len
    have hi := hM.hi
    by_cases hlt : i < g.rules.length
    · have hr := hv.rule _ (nth_mem hlt)
      have hr0 := hr.h0
      have hrn := hr.hn
      have hrl := hr.len
      have hlo : ∀ x, x ∈ (nth g.rules i).body → -((prodG g).length : Int) ≤ x := fun x hx => by have := hr.lo x hx; omega
      (repeat' (first | refine WP.seq ?_ | refine WP.block ?_ | refine go_n ?_ | refine WP.skip ?_ | refine WP.exit ?_ | refine go_x ?_ | refine bl_x ?_ | (refine wp_cond (by exact rfl) (fun hc => ?_) (fun hc => ?_) <;> (try simp only [decide_eq_true_eq, decide_eq_false_iff_not, Decidable.not_not, Bool.and_eq_true, Bool.or_eq_true, Bool.not_eq_true', Bool.not_eq_false', Bool.or_eq_false_iff, Bool.and_eq_false_iff, Int.not_lt, Int.not_le, reduceCtorEq, ne_eq, Bool.not_true, Bool.not_false, Bool.not_eq_true, Bool.not_eq_false] at hc) <;> (try (exfalso; omega))) | (refine WP.regionC (id := 8) ?_; (refine su (ap_move (by exact rq_p rfl rfl)) ?_); (refine su (ap_field_p (by exact rq_p rfl rfl) (by exact rfl) (by exact rfl)) ?_); (refine su (ap_load_p (by exact rq_p rfl rfl) (by exact rfl) (by exact rfl) (by exact rfl)) ?_); (refine su (ap_len_m (by exact rfl) (by exact rq_p rfl rfl)) ?_); (refine su (ap_lss (by exact rq_p rfl rfl) (by exact rq_p rfl rfl)) ?_); refine asemC_end ?_) | (refine WP.regionC (id := 10) ?_; (refine su (ap_field_p (by exact rq_p rfl rfl) (by exact rfl) (by exact rfl)) ?_); (refine su (ap_load_p (by exact rq_p rfl rfl) (by exact rfl) (by exact rfl) (by exact rfl)) ?_); (refine su (ap_move (by exact rq_p rfl rfl)) ?_); (refine su (ap_idx_n (by exact rq_p rfl rfl) (by exact rq_p rfl rfl) (by omega)) ?_); (refine su (ap_load_w (by exact rq_p rfl rfl) (by exact rfl)) ?_); (refine se_alloc (by exact rfl) ?_); (refine se_store_b (by exact rfl) (by exact rfl) (by exact rfl) (by exact rfl) ?_); refine asemC_end ?_) | (refine WP.regionC (id := 11) ?_; (refine su (ap_move (by exact rq_p rfl rfl)) ?_); (refine su (ap_field_p (by exact rq_p rfl rfl) (by exact rfl) (by exact rfl)) ?_); (refine su (ap_load_p (by exact rq_p rfl rfl) (by exact rfl) (by exact rfl) (by exact rfl)) ?_); (refine su (ap_idxr_z (by exact rq_p rfl rfl) (by exact rq_p rfl rfl) (by omega)) ?_); (refine su (ap_load_pt (by exact rq_p rfl rfl) (by exact rfl) (by omega) (by exact rfl)) ?_); (refine su (ap_not (by exact rq_p rfl rfl)) ?_); (refine su (ap_move (by exact rq_p rfl rfl)) ?_); (refine sg (by exact gq_vf rfl rfl) (fun he => ap_move (by exact rq_p rfl rfl)) ?_); (refine sg (by exact gq_vf rfl rfl) (fun he => ap_field_p (by exact rq_p rfl rfl) (by exact rfl) (by exact rfl)) ?_); (refine sg (by exact gq_vf rfl rfl) (fun he => ap_load_p (by exact rq_c rfl rfl) (by exact rfl) (by exact rfl) (by exact rfl)) ?_); (refine sg_b (by exact gq_vf rfl rfl) (fun he => ⟨(by exact rq_p rfl rfl), (RqL.cons (by exact rq_c rfl rfl) (RqL.cons (by exact rq_c rfl rfl) (RqL.nil))), (by repeat' first | exact FzL.nil | refine FzL.cons ?_ ?_ | (exact Fz.reflp (by simp [AV.bd, bdL, bdL_append]))), productive_fn _ _ (by assumption), (by exact rfl)⟩) ?_); (refine sg (by exact gq_vf rfl rfl) (fun he => ap_not (by exact rq_c rfl rfl)) ?_); (refine su (ap_or (by exact rq_p rfl rfl) (by exact rq_c rfl rfl)) ?_); refine asemC_end ?_) | (refine WP.regionC (id := 12) ?_; (refine su (ap_assign (by exact rq_p rfl rfl)) ?_); refine asemC_end ?_) | (refine WP.regionC (id := 9) ?_; (refine su (ap_move (by exact rq_p rfl rfl)) ?_); (refine su (ap_add (by exact rq_p rfl rfl) (by exact rq_p rfl rfl) (by exact inr_i64_of (by omega))) ?_); (refine su (ap_assign (by exact rq_p rfl rfl)) ?_); refine asemC_end ?_)))
      · exact ⟨(o, mo, i + 1), ⟨by dsimp only; omega, hM.skip hlt hc⟩, ⟨[0, 1], ToR.S rfl (by repeat' (first | exact rt_nil | refine rt_r (by exact rfl) (by exact rfl) ?_ | refine rt_t (by exact rfl) (by exact rfl) ?_ | refine rt_e (by exact rfl) (by exact rfl) ?_ | refine rt_p (by exact rfl) (by exact rfl) (by (simp [AV.bd, bdL, bdL_append]; done)) ?_)) (by repeat' (first | exact ro_nil | refine ro_p (by exact rfl) (by exact rfl) (by first | exact bdL_map (fun _ => by exact rfl) _ | (simp [bdL, bdL_append, AV.bd]; done)) ?_)) (by decide) (by (rw [hm]; exact rfl)) (by exact rfl) (by (simp [bdT, AV.bd, bdL, bdL_append]; done)) (by repeat' (first | exact True.intro | refine And.intro ?_ ?_ | exact bdL_map (fun _ => by exact rfl) _ | (simp [bdOq, bdL, bdL_append, AV.bd]; done))) (by (rw [hm]; exact Nat.le_of_ble_eq_true rfl))⟩⟩
      · obtain ⟨hc1, hc2⟩ := hc
        refine wp_loop (fun (x : List Bool × Bool × Nat) => InU g (prodG g) out o x.1 mo x.2.1 i x.2.2) (fun x => (nth g.rules i).body.length - x.2.2)
          (fun x => (S 79 [(1, .ptr 0 4 0 0), (3, boolsA (prodG g)), (4, .ref 1 1 0 g.nonterms.length), (5, boolA x.2.1), (6, intA (i : Nat)), (7, .ptr 2 3 0 0), (8, intA (x.2.2 : Nat))] 3 [(0, some (.arr 4 [gramA g])), (1, some (.arr 1 (x.1.map boolA))), (2, some (.arr 3 [ruleA (nth g.rules i)]))])) (o, mo, 0) ⟨[0, 1, 2], ToR.S rfl (by repeat' (first | exact rt_nil | refine rt_r (by exact rfl) (by exact rfl) ?_ | refine rt_t (by exact rfl) (by exact rfl) ?_ | refine rt_e (by exact rfl) (by exact rfl) ?_ | refine rt_p (by exact rfl) (by exact rfl) (by (simp [AV.bd, bdL, bdL_append]; done)) ?_)) (by repeat' (first | exact ro_nil | refine ro_p (by exact rfl) (by exact rfl) (by first | exact bdL_map (fun _ => by exact rfl) _ | (simp [bdL, bdL_append, AV.bd]; done)) ?_)) (by decide) (by (rw [hm]; exact rfl)) (by exact rfl) (by (simp [bdT, AV.bd, bdL, bdL_append]; done)) (by repeat' (first | exact True.intro | refine And.intro ?_ ?_ | exact bdL_map (fun _ => by exact rfl) _ | (simp [bdOq, bdL, bdL_append, AV.bd]; done))) (by (rw [hm]; exact Nat.le_of_ble_eq_true rfl))⟩ (InU.start hM) ?_
        rintro ⟨p, mp, k⟩ hI
        dsimp only at *
        have hpl' := hI.u.len
        have hk := hI.hk
        by_cases hkl : k < (nth g.rules i).body.length
        · have hxl := hr.lo _ (nth_mem hkl)
          (repeat' (first | refine WP.seq ?_ | refine WP.block ?_ | refine go_n ?_ | refine WP.skip ?_ | refine bl_n ?_ | (refine wp_cond (by exact rfl) (fun hc => ?_) (fun hc => ?_) <;> (try simp only [decide_eq_true_eq, decide_eq_false_iff_not, Decidable.not_not, Bool.and_eq_true, Bool.or_eq_true, Bool.not_eq_true', Bool.not_eq_false', Bool.or_eq_false_iff, Bool.and_eq_false_iff, Int.not_lt, Int.not_le, reduceCtorEq, ne_eq, Bool.not_true, Bool.not_false, Bool.not_eq_true, Bool.not_eq_false] at hc) <;> (try (exfalso; omega))) | (refine WP.regionC (id := 13) ?_; (refine su (ap_move (by exact rq_p rfl rfl)) ?_); (refine su (ap_field_p (by exact rq_p rfl rfl) (by exact rfl) (by exact rfl)) ?_); (refine su (ap_load_p (by exact rq_p rfl rfl) (by exact rfl) (by exact rfl) (by exact rfl)) ?_); (refine su (ap_len_m (by exact rfl) (by exact rq_p rfl rfl)) ?_); (refine su (ap_lss (by exact rq_p rfl rfl) (by exact rq_p rfl rfl)) ?_); refine asemC_end ?_) | (refine WP.regionC (id := 15) ?_; (refine su (ap_field_p (by exact rq_p rfl rfl) (by exact rfl) (by exact rfl)) ?_); (refine su (ap_load_p (by exact rq_p rfl rfl) (by exact rfl) (by exact rfl) (by exact rfl)) ?_); (refine su (ap_move (by exact rq_p rfl rfl)) ?_); (refine su (ap_idx_n (by exact rq_p rfl rfl) (by exact rq_p rfl rfl) (by omega)) ?_); (refine su (ap_load_w (by exact rq_p rfl rfl) (by exact rfl)) ?_); (refine su (ap_lss (by exact rq_p rfl rfl) (by exact rq_p rfl rfl)) ?_); (refine su (ap_move (by exact rq_p rfl rfl)) ?_); (refine sg (by exact gq_vt rfl rfl) (fun he => ap_move (by exact rq_p rfl rfl)) ?_); (refine sg (by exact gq_vt rfl rfl) (fun he => ap_field_p (by exact rq_p rfl rfl) (by exact rfl) (by exact rfl)) ?_); (refine sg (by exact gq_vt rfl rfl) (fun he => ap_load_p (by exact rq_c rfl rfl) (by exact rfl) (by exact rfl) (by exact rfl)) ?_); (refine sg (by exact gq_vt rfl rfl) (fun he => ap_move (by exact rq_p rfl rfl)) ?_); (refine sg (by exact gq_vt rfl rfl) (fun he => ap_idx_n (by exact rq_c rfl rfl) (by exact rq_c rfl rfl) (by (try simp only [List.all_cons, List.all_append, List.all_nil, id, Bool.and_true, decide_eq_true_eq, decide_eq_false_iff_not, Decidable.not_not, Bool.and_eq_true, Bool.or_eq_true, Bool.not_eq_true', Bool.not_eq_false', Bool.or_eq_false_iff, Bool.and_eq_false_iff, Int.not_lt, Int.not_le, reduceCtorEq, ne_eq, Bool.not_true, Bool.not_false, Bool.not_eq_true, Bool.not_eq_false] at he); omega)) ?_); (refine sg (by exact gq_vt rfl rfl) (fun he => ap_load_w (by exact rq_c rfl rfl) (by exact rfl)) ?_); (refine sg (by exact gq_vt rfl rfl) (fun he => ap_sub (by exact rq_p rfl rfl) (by exact rq_c rfl rfl) (by (try simp only [List.all_cons, List.all_append, List.all_nil, id, Bool.and_true, decide_eq_true_eq, decide_eq_false_iff_not, Decidable.not_not, Bool.and_eq_true, Bool.or_eq_true, Bool.not_eq_true', Bool.not_eq_false', Bool.or_eq_false_iff, Bool.and_eq_false_iff, Int.not_lt, Int.not_le, reduceCtorEq, ne_eq, Bool.not_true, Bool.not_false, Bool.not_eq_true, Bool.not_eq_false] at he); exact inr_i64_of (by omega))) ?_); (refine sg (by exact gq_vt rfl rfl) (fun he => ap_idxr_z (by exact rq_c rfl rfl) (by exact rq_c rfl rfl) (by (try simp only [List.all_cons, List.all_append, List.all_nil, id, Bool.and_true, decide_eq_true_eq, decide_eq_false_iff_not, Decidable.not_not, Bool.and_eq_true, Bool.or_eq_true, Bool.not_eq_true', Bool.not_eq_false', Bool.or_eq_false_iff, Bool.and_eq_false_iff, Int.not_lt, Int.not_le, reduceCtorEq, ne_eq, Bool.not_true, Bool.not_false, Bool.not_eq_true, Bool.not_eq_false] at he); omega)) ?_); (refine sg (by exact gq_vt rfl rfl) (fun he => ap_load_pt (by exact rq_c rfl rfl) (by exact rfl) (by (try simp only [List.all_cons, List.all_append, List.all_nil, id, Bool.and_true, decide_eq_true_eq, decide_eq_false_iff_not, Decidable.not_not, Bool.and_eq_true, Bool.or_eq_true, Bool.not_eq_true', Bool.not_eq_false', Bool.or_eq_false_iff, Bool.and_eq_false_iff, Int.not_lt, Int.not_le, reduceCtorEq, ne_eq, Bool.not_true, Bool.not_false, Bool.not_eq_true, Bool.not_eq_false] at he); omega) (by exact rfl)) ?_); (refine sg (by exact gq_vt rfl rfl) (fun he => ap_not (by exact rq_c rfl rfl)) ?_); (refine su (ap_and (by exact rq_p rfl rfl) (by exact rq_c rfl rfl)) ?_); refine asemC_end ?_) | (refine WP.regionC (id := 16) ?_; (refine su (ap_move (by exact rq_p rfl rfl)) ?_); (refine su (ap_field_p (by exact rq_p rfl rfl) (by exact rfl) (by exact rfl)) ?_); (refine su (ap_load_p (by exact rq_p rfl rfl) (by exact rfl) (by exact rfl) (by exact rfl)) ?_); (refine su (ap_move (by exact rq_p rfl rfl)) ?_); (refine su (ap_idx_n (by exact rq_p rfl rfl) (by exact rq_p rfl rfl) (by omega)) ?_); (refine su (ap_load_w (by exact rq_p rfl rfl) (by exact rfl)) ?_); (refine su (ap_sub (by exact rq_p rfl rfl) (by exact rq_p rfl rfl) (by exact inr_i64_of (by omega))) ?_); (refine su (ap_idxr_z (by exact rq_p rfl rfl) (by exact rq_p rfl rfl) (by omega)) ?_); (refine se_store_t (by exact rfl) (by exact rfl) (by omega) (by exact rfl) (by exact rfl) ?_); (refine su (ap_assign (by exact rq_p rfl rfl)) ?_); refine asemC_end ?_) | (refine WP.regionC (id := 14) ?_; (refine su (ap_move (by exact rq_p rfl rfl)) ?_); (refine su (ap_add (by exact rq_p rfl rfl) (by exact rq_p rfl rfl) (by exact inr_i64_of (by omega))) ?_); (refine su (ap_assign (by exact rq_p rfl rfl)) ?_); refine asemC_end ?_)))
          · exact ⟨(p.set (-1 - nth (nth g.rules i).body k).toNat true, true, k + 1), ⟨by dsimp only; omega, hI.set hv hlt hM hc1 hc2 hkl hc.1 hc.2⟩, ⟨[0, 1, 2], ToR.S rfl (by repeat' (first | exact rt_nil | refine rt_r (by exact rfl) (by exact rfl) ?_ | refine rt_t (by exact rfl) (by exact rfl) ?_ | refine rt_e (by exact rfl) (by exact rfl) ?_ | refine rt_p (by exact rfl) (by exact rfl) (by (simp [AV.bd, bdL, bdL_append]; done)) ?_)) (by repeat' (first | exact ro_nil | refine ro_p (by exact rfl) (by exact rfl) (by first | exact bdL_map (fun _ => by exact rfl) _ | (simp [bdL, bdL_append, AV.bd]; done)) ?_)) (by decide) (by (rw [hm]; exact rfl)) (by exact rfl) (by (simp [bdT, AV.bd, bdL, bdL_append]; done)) (by repeat' (first | exact True.intro | refine And.intro ?_ ?_ | exact bdL_map (fun _ => by exact rfl) _ | (simp [bdOq, bdL, bdL_append, AV.bd]; done))) (by (rw [hm]; exact Nat.le_of_ble_eq_true rfl))⟩⟩
          · exact ⟨(p, mp, k + 1), ⟨by dsimp only; omega, hI.skip hkl hc⟩, ⟨[0, 1, 2], ToR.S rfl (by repeat' (first | exact rt_nil | refine rt_r (by exact rfl) (by exact rfl) ?_ | refine rt_t (by exact rfl) (by exact rfl) ?_ | refine rt_e (by exact rfl) (by exact rfl) ?_ | refine rt_p (by exact rfl) (by exact rfl) (by (simp [AV.bd, bdL, bdL_append]; done)) ?_)) (by repeat' (first | exact ro_nil | refine ro_p (by exact rfl) (by exact rfl) (by first | exact bdL_map (fun _ => by exact rfl) _ | (simp [bdL, bdL_append, AV.bd]; done)) ?_)) (by decide) (by (rw [hm]; exact rfl)) (by exact rfl) (by (simp [bdT, AV.bd, bdL, bdL_append]; done)) (by repeat' (first | exact True.intro | refine And.intro ?_ ?_ | exact bdL_map (fun _ => by exact rfl) _ | (simp [bdOq, bdL, bdL_append, AV.bd]; done))) (by (rw [hm]; exact Nat.le_of_ble_eq_true rfl))⟩⟩
        · (repeat' (first | refine WP.seq ?_ | refine go_n ?_ | refine WP.exit ?_ | refine go_x ?_ | refine bl_n ?_ | refine bl_x ?_ | (refine wp_cond (by exact rfl) (fun hc => ?_) (fun hc => ?_) <;> (try simp only [decide_eq_true_eq, decide_eq_false_iff_not, Decidable.not_not, Bool.and_eq_true, Bool.or_eq_true, Bool.not_eq_true', Bool.not_eq_false', Bool.or_eq_false_iff, Bool.and_eq_false_iff, Int.not_lt, Int.not_le, reduceCtorEq, ne_eq, Bool.not_true, Bool.not_false, Bool.not_eq_true, Bool.not_eq_false] at hc) <;> (try (exfalso; omega))) | (refine WP.regionC (id := 13) ?_; (refine su (ap_move (by exact rq_p rfl rfl)) ?_); (refine su (ap_field_p (by exact rq_p rfl rfl) (by exact rfl) (by exact rfl)) ?_); (refine su (ap_load_p (by exact rq_p rfl rfl) (by exact rfl) (by exact rfl) (by exact rfl)) ?_); (refine su (ap_len_m (by exact rfl) (by exact rq_p rfl rfl)) ?_); (refine su (ap_lss (by exact rq_p rfl rfl) (by exact rq_p rfl rfl)) ?_); refine asemC_end ?_) | (refine WP.regionC (id := 9) ?_; (refine su (ap_move (by exact rq_p rfl rfl)) ?_); (refine su (ap_add (by exact rq_p rfl rfl) (by exact rq_p rfl rfl) (by exact inr_i64_of (by omega))) ?_); (refine su (ap_assign (by exact rq_p rfl rfl)) ?_); refine asemC_end ?_)))
          exact ⟨(p, mp, i + 1), ⟨by dsimp only; omega, hI.stop hM hlt (by omega)⟩, ⟨[0, 1], ToR.S rfl (by repeat' (first | exact rt_nil | refine rt_r (by exact rfl) (by exact rfl) ?_ | refine rt_t (by exact rfl) (by exact rfl) ?_ | refine rt_e (by exact rfl) (by exact rfl) ?_ | refine rt_p (by exact rfl) (by exact rfl) (by (simp [AV.bd, bdL, bdL_append]; done)) ?_)) (by repeat' (first | exact ro_nil | refine ro_p (by exact rfl) (by exact rfl) (by first | exact bdL_map (fun _ => by exact rfl) _ | (simp [bdL, bdL_append, AV.bd]; done)) ?_)) (by decide) (by (rw [hm]; exact rfl)) (by exact rfl) (by (simp [bdT, AV.bd, bdL, bdL_append]; done)) (by repeat' (first | exact True.intro | refine And.intro ?_ ?_ | exact bdL_map (fun _ => by exact rfl) _ | (simp [bdOq, bdL, bdL_append, AV.bd]; done))) (by (rw [hm]; exact Nat.le_of_ble_eq_true rfl))⟩⟩
    · (repeat' (first | refine WP.seq ?_ | refine go_n ?_ | refine WP.exit ?_ | refine go_x ?_ | refine bl_n ?_ | refine bl_x ?_ | (refine wp_cond (by exact rfl) (fun hc => ?_) (fun hc => ?_) <;> (try simp only [decide_eq_true_eq, decide_eq_false_iff_not, Decidable.not_not, Bool.and_eq_true, Bool.or_eq_true, Bool.not_eq_true', Bool.not_eq_false', Bool.or_eq_false_iff, Bool.and_eq_false_iff, Int.not_lt, Int.not_le, reduceCtorEq, ne_eq, Bool.not_true, Bool.not_false, Bool.not_eq_true, Bool.not_eq_false] at hc) <;> (try (exfalso; omega))) | (refine WP.regionC (id := 8) ?_; (refine su (ap_move (by exact rq_p rfl rfl)) ?_); (refine su (ap_field_p (by exact rq_p rfl rfl) (by exact rfl) (by exact rfl)) ?_); (refine su (ap_load_p (by exact rq_p rfl rfl) (by exact rfl) (by exact rfl) (by exact rfl)) ?_); (refine su (ap_len_m (by exact rfl) (by exact rq_p rfl rfl)) ?_); (refine su (ap_lss (by exact rq_p rfl rfl) (by exact rq_p rfl rfl)) ?_); refine asemC_end ?_)))
      refine ⟨(o, mo), ⟨?_, hM.u, fun h => hM.stop (by omega) h⟩, ⟨[0, 1], ToR.S rfl (by repeat' (first | exact rt_nil | refine rt_r (by exact rfl) (by exact rfl) ?_ | refine rt_t (by exact rfl) (by exact rfl) ?_ | refine rt_e (by exact rfl) (by exact rfl) ?_ | refine rt_p (by exact rfl) (by exact rfl) (by (simp [AV.bd, bdL, bdL_append]; done)) ?_)) (by repeat' (first | exact ro_nil | refine ro_p (by exact rfl) (by exact rfl) (by first | exact bdL_map (fun _ => by exact rfl) _ | (simp [bdL, bdL_append, AV.bd]; done)) ?_)) (by decide) (by (rw [hm]; exact rfl)) (by exact rfl) (by (simp [bdT, AV.bd, bdL, bdL_append]; done)) (by repeat' (first | exact True.intro | refine And.intro ?_ ?_ | exact bdL_map (fun _ => by exact rfl) _ | (simp [bdOq, bdL, bdL_append, AV.bd]; done))) (by (rw [hm]; exact Nat.le_of_ble_eq_true rfl))⟩⟩
      simp [*, hM.less]
  · exact hu.eq (hc0 hc)
end Go.Lg

/- What Reduce answers (plain law). -/
namespace Go.Lg

/-- how many of the first i are in the set -/
def cntB (use : List Bool) (i : Nat) : Nat := ((List.range i).filter (nth use)).length
theorem cntB_succ {use : List Bool} {i : Nat} : cntB use (i + 1) = cntB use i + if nth use i = true then 1 else 0 := by
  simp only [cntB, List.range_succ, List.filter_append, List.length_append]
  cases h : nth use i <;> simp [h]
theorem cntB_le (use : List Bool) (i : Nat) : cntB use i ≤ i := by
  have := List.length_filter_le (nth use) (List.range i); simpa [cntB] using this
def numB (use : List Bool) (i : Nat) : Nat := if nth use i = true then cntB use i else 0
def namesTo (g : Gram) (use : List Bool) (i : Nat) : List ByteArray := ((List.range i).filter (nth use)).map (nth g.nonterms)
theorem namesTo_len {g : Gram} {use : List Bool} {i : Nat} : (namesTo g use i).length = cntB use i := by simp [namesTo, cntB]
theorem namesTo_yes {g : Gram} {use : List Bool} {i : Nat} (h : nth use i = true) : namesTo g use (i + 1) = namesTo g use i ++ [nth g.nonterms i] := by
  simp [namesTo, List.range_succ, List.filter_append, h]
theorem namesTo_no {g : Gram} {use : List Bool} {i : Nat} (h : nth use i = false) : namesTo g use (i + 1) = namesTo g use i := by
  simp [namesTo, List.range_succ, List.filter_append, h]
def numArr (use : List Bool) (n i : Nat) : List Int := (List.range n).map fun j => if j < i then (numB use j : Int) else 0
theorem numArr_len {use : List Bool} {n i : Nat} : (numArr use n i).length = n := by simp [numArr]
@[simp] theorem numArr_zero {use : List Bool} {n : Nat} : numArr use n 0 = List.replicate n 0 := by
  apply nth_ext (by simp [numArr])
  intro j hj
  have hj : j < n := by simpa [numArr] using hj
  rw [numArr, nth_range hj, nth_replicate hj, if_neg (by omega)]
theorem numArr_yes {use : List Bool} {n i : Nat} (hi : i < n) (h : nth use i = true) : (numArr use n i).set i (cntB use i : Int) = numArr use n (i + 1) := by
  apply nth_ext (by simp [numArr])
  intro j hj
  have hj : j < n := by simpa [numArr] using hj
  rw [nth_set (by simpa [numArr] using hi), numArr, nth_range hj, numArr, nth_range hj]
  by_cases e : i = j
  · subst e; simp [numB, h]
  · by_cases h1 : j < i
    · simp [e, h1, show j < i + 1 by omega]
    · simp [e, h1, show ¬ j < i + 1 by omega]
theorem numArr_no {use : List Bool} {n i : Nat} (h : nth use i = false) : numArr use n (i + 1) = numArr use n i := by
  apply nth_ext (by simp [numArr])
  intro j hj
  have hj : j < n := by simpa [numArr] using hj
  rw [numArr, nth_range hj, numArr, nth_range hj]
  by_cases h1 : j < i
  · simp [h1, show j < i + 1 by omega]
  · by_cases e : j = i
    · subst e; simp [numB, h]
    · simp [h1, show ¬ j < i + 1 by omega]
theorem numArr_at {use : List Bool} {n j : Nat} (hj : j < n) : nth (numArr use n n) j = numB use j := by rw [numArr, nth_range hj, if_pos hj]

def keepR (is use : List Bool) (r : Rul) : Bool := nth use r.head.toNat && r.body.all (okSym is)
def mapSym (use : List Bool) (x : Int) : Int := if x < 0 then -1 - (numB use (-1 - x).toNat : Int) else x
def mapRul (use : List Bool) (r : Rul) : Rul := ⟨numB use r.head.toNat, r.body.map (mapSym use), r.price⟩
def bodyTo (use : List Bool) (r : Rul) (k : Nat) : List Int := (r.body.take k).map (mapSym use)
theorem bodyTo_len {use : List Bool} {r : Rul} {k : Nat} (h : k ≤ r.body.length) : (bodyTo use r k).length = k := by simp [bodyTo, h]
theorem bodyTo_neg {use : List Bool} {r : Rul} {k : Nat} (h : k < r.body.length) (hx : nth r.body k < 0) : bodyTo use r (k + 1) = bodyTo use r k ++ [-1 - (numB use (-1 - nth r.body k).toNat : Int)] := by
  simp only [bodyTo, take_succ_nth h, List.map_append, List.map_cons, List.map_nil, mapSym, if_pos hx]
theorem bodyTo_pos {use : List Bool} {r : Rul} {k : Nat} (h : k < r.body.length) (hx : 0 ≤ nth r.body k) : bodyTo use r (k + 1) = bodyTo use r k ++ [nth r.body k] := by
  simp only [bodyTo, take_succ_nth h, List.map_append, List.map_cons, List.map_nil, mapSym, if_neg (show ¬ nth r.body k < 0 by omega)]
theorem bodyTo_all {use : List Bool} {r : Rul} {k : Nat} (h : r.body.length ≤ k) : bodyTo use r k = r.body.map (mapSym use) := by rw [bodyTo, List.take_of_length_le h]
def keptTo (g : Gram) (is use : List Bool) (i : Nat) : List Nat := (List.range i).filter fun j => keepR is use (nth g.rules j)
def rulesTo (g : Gram) (is use : List Bool) (i : Nat) : List Rul := (keptTo g is use i).map fun j => mapRul use (nth g.rules j)
def fromTo (g : Gram) (is use : List Bool) (i : Nat) : List Int := (keptTo g is use i).map Int.ofNat
theorem kept_yes {g : Gram} {is use : List Bool} {i : Nat} (h : keepR is use (nth g.rules i) = true) : keptTo g is use (i + 1) = keptTo g is use i ++ [i] := by simp [keptTo, List.range_succ, List.filter_append, h]
theorem kept_no {g : Gram} {is use : List Bool} {i : Nat} (h : keepR is use (nth g.rules i) = false) : keptTo g is use (i + 1) = keptTo g is use i := by simp [keptTo, List.range_succ, List.filter_append, h]
theorem rules_yes {g : Gram} {is use : List Bool} {i : Nat} (h : keepR is use (nth g.rules i) = true) : rulesTo g is use (i + 1) = rulesTo g is use i ++ [mapRul use (nth g.rules i)] := by simp [rulesTo, kept_yes h]
theorem rules_no {g : Gram} {is use : List Bool} {i : Nat} (h : keepR is use (nth g.rules i) = false) : rulesTo g is use (i + 1) = rulesTo g is use i := by simp [rulesTo, kept_no h]
theorem from_yes {g : Gram} {is use : List Bool} {i : Nat} (h : keepR is use (nth g.rules i) = true) : fromTo g is use (i + 1) = fromTo g is use i ++ [(i : Int)] := by simp [fromTo, kept_yes h, List.map_append]
theorem from_no {g : Gram} {is use : List Bool} {i : Nat} (h : keepR is use (nth g.rules i) = false) : fromTo g is use (i + 1) = fromTo g is use i := by simp [fromTo, kept_no h]
theorem kept_le {g : Gram} {is use : List Bool} {i : Nat} : (keptTo g is use i).length ≤ i := by
  have := List.length_filter_le (fun j => keepR is use (nth g.rules j)) (List.range i); simpa [keptTo] using this
theorem rules_le {g : Gram} {is use : List Bool} {i : Nat} : (rulesTo g is use i).length ≤ i := by simpa [rulesTo] using kept_le
theorem from_le {g : Gram} {is use : List Bool} {i : Nat} : (fromTo g is use i).length ≤ i := by simpa [fromTo] using kept_le

/-- the zero grammar, as it lies in memory -/
def zgA : AV := .agg [.val (.slice none 0 0), .val (.slice none 0 0), .val (.int .i64 0), .val (.slice none 0 0)]
@[simp] theorem bd_zgA (n : Nat) : zgA.bd n = true := by simp [zgA, AV.bd, bdL]
def emptyG : Gram := ⟨[], [], 0, []⟩
def redG (g : Gram) : Gram × List Int :=
  let is := prodG g; let use := usefulG g is
  (⟨g.terms, namesTo g use g.nonterms.length, (numB use g.start.toNat : Int), rulesTo g is use g.rules.length⟩, fromTo g is use g.rules.length)
def reduceR (g : Gram) : Gram × List Int × Int :=
  if validG g = true then (if nth (prodG g) g.start.toNat = true then ((redG g).1, (redG g).2, 0) else (emptyG, [], 10)) else (emptyG, [], 1)
def reduceA (g : Gram) : AV := .tup [gramA (reduceR g).1, intsA (reduceR g).2.1, intA (reduceR g).2.2]
@[simp] theorem bd_reduceA (n : Nat) (g : Gram) : (reduceA g).bd n = true := by simp [reduceA, AV.bd, bdL]
theorem reduceA_1 {g : Gram} (h : validG g = false) : reduceA g = .tup [gramA emptyG, intsA [], intA 1] := by simp [reduceA, reduceR, h]
theorem reduceA_10 {g : Gram} (h : validG g = true) (h2 : nth (prodG g) g.start.toNat = false) : reduceA g = .tup [gramA emptyG, intsA [], intA 10] := by simp [reduceA, reduceR, h, h2]
theorem reduceA_0 {g : Gram} (h : validG g = true) (h2 : nth (prodG g) g.start.toNat = true) : reduceA g = .tup [.agg [strsA g.terms, strsA (namesTo g (usefulG g (prodG g)) g.nonterms.length), intA (numB (usefulG g (prodG g)) g.start.toNat : Int), rulesA (rulesTo g (prodG g) (usefulG g (prodG g)) g.rules.length)], intsA (fromTo g (prodG g) (usefulG g (prodG g)) g.rules.length), intA 0] := by
  simp [reduceA, reduceR, h, h2, redG, gramA]
end Go.Lg

/-
  Literals of no element; what is appended to them.
-/
namespace Go.Lg
theorem ren_strsA (π : Nat → Nat) (l : List ByteArray) : (strsA l).ren π = strsA l := ren_pure (by simp [strsA, AV.bd])
theorem ren_intsA (π : Nat → Nat) (l : List Int) : (intsA l).ren π = intsA l := ren_pure (by simp [intsA, AV.bd])
section
variable {P : Program} {n M N i : Nat} {l : List (Nat × AV)} {os : List (Nat × Option AObj)} {a b : Operand} {d : Tmp} {ty : TypeId} {pos : String} {af : Array Edge} {ops : Array Oper} {rest : List Oper} {KK : List Rec → St → Prop} {K : St → Prop} {rs : List Rec}
theorem se_lit0 {te : TI} {k bt : Nat} [ht : TEl P ty te k bt] {ty2 : TypeId} (hk : asemC P ops rest (S n ((d, .ref M k 0 0) :: l) (M + 1) ((M, some (.arr k [])) :: os)) K) :
    asemC P ops (⟨some d, .buildSlice ty 0 #[], ty2, pos, af, none⟩ :: rest) (S n l M os) K := by
  obtain ⟨ti, el, g1, he, hs, g4, hsz, hbz⟩ := ht.h
  refine se_new (x := .ref M k 0 0) (by rintro c f h; cases h) ?_ hk
  have hb : buildSliceA te 0 [] = some (.arr k []) := by simp [buildSliceA, hsz]
  simp only [aop, g1, he, g4, Option.bind_some, Array.toList, List.map_nil, hb, Option.map_some, hsz]
theorem rd_lit0 {te : TI} {k bt : Nat} [ht : TEl P ty te k bt] {ty2 : TypeId} (hk : RunD P ops N (i + 1) rest (S n ((d, .ref (N + i) k 0 0) :: l) M ((N + i, some (.arr k [])) :: os)) (rs ++ [⟨some d, [N + i], topq n l (Op.operands (.buildSlice ty 0 #[])).toList⟩]) KK) :
    RunD P ops N i (⟨some d, .buildSlice ty 0 #[], ty2, pos, af, none⟩ :: rest) (S n l M os) rs KK := by
  obtain ⟨ti, el, g1, he, hs, g4, hsz, hbz⟩ := ht.h
  have hb : buildSliceA te 0 [] = some (.arr k []) := by simp [buildSliceA, hsz]
  refine rd (.ref (N + i) k 0 0, .new (.arr k [])) (by simp only [aop, g1, he, g4, Option.bind_some, Array.toList, List.map_nil, hb, Option.map_some, hsz]) ?_
  have : ((S n l M os).eff (N + i) (.new (.arr k []))).put (some d) (.ref (N + i) k 0 0) = S n ((d, .ref (N + i) k 0 0) :: l) M ((N + i, some (.arr k [])) :: os) := by
    simp only [St.eff, St.set, S, St.put, ol_set, tl_set]
  rw [this]; exact hk
/-- a whole slice appended to a literal of no element -/
theorem se_appE {te tj : TI} {tx : TypeId} {k bt id : Nat} {ys : List AV} [ht : TEl P ty te k bt] [h3 : TIc P tx tj] (hsh : (match tj.sh with | .int => false | _ => true) = true) (ha : opq n l a = some (.ref id k 0 0)) (ho : lookq M os id = some (.arr k []))
    (hb : opq n l b = some (.sl k ys)) (hz0 : (zeroA te).isSome = true) (hbt : Nat.beq bt 0 = false) (hr : ys.length * bt ≤ 140737488355328) {ty2 : TypeId} (hk : asemC P ops rest (S n ((d, .ref M k 0 ys.length) :: l) (M + 1) ((M, some (.arr k ys)) :: (id, none) :: os)) K) :
    asemC P ops (⟨some d, .call ⟨.builtin .append, #[a, b], #[ty, tx]⟩, ty2, pos, af, none⟩ :: rest) (S n l M os) K :=
  se_app (es := []) (ys := ys) hsh ha ho rfl hb (by obtain ⟨ti, el, g1, he, hs, g4, hsz, hbz⟩ := ht.h; simp [srcA, hsz]) hz0 hbt (by simpa using hr) hk
theorem rd_appE {te tj : TI} {tx : TypeId} {k bt id : Nat} {ys : List AV} [ht : TEl P ty te k bt] [h3 : TIc P tx tj] (hsh : (match tj.sh with | .int => false | _ => true) = true) (ha : opq n l a = some (.ref id k 0 0)) (ho : lookq M os id = some (.arr k []))
    (hb : opq n l b = some (.sl k ys)) (hz0 : (zeroA te).isSome = true) (hbt : Nat.beq bt 0 = false) (hr : ys.length * bt ≤ 140737488355328) {ty2 : TypeId}
    (hk : RunD P ops N (i + 1) rest (S n ((d, .ref (N + i) k 0 ys.length) :: l) M ((N + i, some (.arr k ys)) :: (id, none) :: os)) (rs ++ [⟨some d, [id, N + i], topq n l [a, b]⟩]) KK) :
    RunD P ops N i (⟨some d, .call ⟨.builtin .append, #[a, b], #[ty, tx]⟩, ty2, pos, af, none⟩ :: rest) (S n l M os) rs KK :=
  rd_app (es := []) (ys := ys) hsh ha ho rfl hb (by obtain ⟨ti, el, g1, he, hs, g4, hsz, hbz⟩ := ht.h; simp [srcA, hsz]) hz0 hbt (by simpa using hr) hk
end

section
variable {P : Program} {Γ : Cx} {c : Code} {Q : Exit → St → Prop} {n M : Nat} {l : List (Nat × AV)} {os : List (Nat × Option AObj)}
/-- A finished slice in one struct of several that lie in one object. -/
theorem wp_frzx {id k len : Nat} {α : Type} {f : α → AV} {L : List α} (ido m : Nat) {k' : Nat} (pre post : List AV) {cs : List AV} (hm : Γ.m = 0) (hid : Nat.beq id ido = false) (hob : lookq M os ido = some (.arr k' (pre ++ .agg cs :: post))) (h : cs[m]? = some (.ref id k 0 len)) (ho : lookq M os id = some (.arr k (L.map f))) (hl : L.length = len) (hb : ∀ x, (f x).bd 0 = true) (hk : ∀ x, (f x).cells.length = k)
    (hw : WP P Γ c Q (S n l M ((ido, some (.arr k' (pre ++ .agg (cs.set m (.sl k (L.map f))) :: post))) :: (id, none) :: os))) : WP P Γ c Q (S n l M os) := fun a w hs => by
  refine hw a w ?_
  obtain ⟨ρ, hs⟩ := hs
  have h1 := hs.kill id
  have hne : id ≠ ido := Nat.ne_of_beq_eq_false hid
  have hob' : ((S n l M os).set id none).live ido (.arr k' (pre ++ .agg cs :: post)) := by
    have := St.look_some.1 (by rw [S_look]; exact hob : (S n l M os).look ido = some (.arr k' (pre ++ .agg cs :: post)))
    simp only [St.live, St.set_objs] at this ⊢
    rw [List.getElem?_set_ne hne]; exact this
  have hwide : ∀ e, e ∈ pre ++ .agg cs :: post → e.cells.length = k' := by
    have := hs.obj ido _ (St.look_some.1 (by rw [S_look]; exact hob))
    cases hr : ρ ido with
    | none => rw [hr] at this; obtain ⟨_, h2⟩ := this; simp at h2
    | some b => rw [hr] at this; obtain ⟨_, _, _, _, h3, _⟩ := this; exact h3
  have hm1 : m < cs.length := (List.getElem?_eq_some_iff.1 h).1
  have hfl : flat (pre ++ .agg (cs.set m (.sl k (L.map f))) :: post) = (flat (pre ++ .agg cs :: post)).set ((flat pre).length + m) (.sl k (L.map f)) := by
    simp only [flat, List.flatMap_append, List.flatMap_cons, AV.cells]
    rw [List.set_append_right _ _ (by omega), Nat.add_sub_cancel_left, List.set_append_left _ _ hm1]
  have hat : (flat (pre ++ .agg cs :: post))[(flat pre).length + m]? = some (.ref id k 0 len) := by
    simp only [flat, List.flatMap_append, List.flatMap_cons, AV.cells]
    rw [List.getElem?_append_right (by omega), Nat.add_sub_cancel_left, List.getElem?_append_left hm1]; exact h
  have h2 := h1.recell hob' (es' := pre ++ .agg (cs.set m (.sl k (L.map f))) :: post) (by rw [hfl]; simp) (fun e he => by
      rcases List.mem_append.1 he with he | he
      · exact hwide e (by simp [he])
      · rcases List.mem_cons.1 he with rfl | he
        · have := hwide (.agg cs) (by simp)
          simpa [AV.cells] using this
        · exact hwide e (by simp [he])) (by simp) (fun j x y hx hy v hv => by
    rw [hfl, List.getElem?_set] at hy
    by_cases e : (flat pre).length + m = j
    · subst e
      rw [hat] at hx; injection hx with hx; subst hx
      simp only [if_true] at hy
      split at hy
      · injection hy with hy; subst hy
        exact hs.list hm (by rw [S_look]; exact ho) hl hb hk hv
      · cases hy
    · rw [if_neg e, hx] at hy; injection hy with hy; subst hy; exact hv)
  refine ⟨ρ, ?_⟩
  have e : (((S n l M os).set id none).set ido (some (.arr k' (pre ++ .agg (cs.set m (.sl k (L.map f))) :: post)))) = S n l M ((ido, some (.arr k' (pre ++ .agg (cs.set m (.sl k (L.map f))) :: post))) :: (id, none) :: os) := by simp [S, St.set, ol_set]
  rw [e] at h2
  simpa [S, ol_length] using h2
/-- The state in other words. -/
theorem wp_st (t : St) {s : St} (h0 : ∃ is, ToR Γ.m is s t) (h : WP P Γ c Q t) : WP P Γ c Q s := by
  obtain ⟨is, h0⟩ := h0; exact .toR is t h0 h
end
section
variable {P : Program} {n M : Nat} {l : List (Nat × AV)} {os : List (Nat × Option AObj)} {d t : Tmp} {ty : TypeId} {pos : String} {af : Array Edge} {ops : Array Oper} {rest : List Oper} {K : St → Prop} {j : Nat} {want b : Bool} {x : AV} {op : Op}
/-- A guarded operation that is known to run: a new object. -/
theorem sgt_new {o : AObj} (hd : (ops[j]?).bind (·.dst) = some t) (hv : opq n l (.tmp t) = some (.val (.bool b))) (hb : b = want) (hc : ∀ c f, op = .call c → c.callee ≠ .value f) (h : aop P (S n ((t, .val (.bool b)) :: l) M os).look M (S n ((t, .val (.bool b)) :: l) M os).op op = some (x, .new o))
    (hk : asemC P ops rest (S n ((d, x) :: (t, .val (.bool b)) :: l) (M + 1) ((M, some o) :: os)) K) : asemC P ops (⟨some d, op, ty, pos, af, some (j, want)⟩ :: rest) (S n l M os) K := by
  subst hb
  simp only [asemC]
  refine .inl ⟨b, ?_, fun _ => ?_, fun h => by cases b <;> cases h⟩
  · have hop := opq_op (M := M) (os := os) hv
    simp only [St.op] at hop
    simp only [yieldedA, hd, Option.map_some, hop]
  rw [hd, S_put]
  have hl : (S n ((t, .val (.bool b)) :: l) M os).objs.length = M := ol_length M os
  have hs : (S n ((t, .val (.bool b)) :: l) M os).after (some d) (x, .new o) = S n ((d, x) :: (t, .val (.bool b)) :: l) (M + 1) ((M, some o) :: os) := by
    simp only [St.after, S, St.put, ol_push, tl_set]
  unfold execA
  split
  · rename_i c hop
    simp only at hop
    split
    · rename_i f hf; exact absurd hf (hc c f hop)
    · exact ⟨_, by rw [hl, ← hop]; exact h, by rw [hs]; exact hk⟩
  · exact ⟨_, by rw [hl]; exact h, by rw [hs]; exact hk⟩
theorem sgt_lit {te : TI} {k m bt : Nat} {z : AV} {ps : Array (Nat × Operand)} {xs : List (Nat × AV)} {vs : List AV} (hd : (ops[j]?).bind (·.dst) = some t) (hg : opq n l (.tmp t) = some (.val (.bool b))) (hgb : b = want) [ht : TEl P ty te k bt] (hp : OpP n ((t, .val (.bool b)) :: l) ps.toList xs) (hv : seqv 0 xs = some vs) (hl : xs.length = m) (h0 : Nat.beq m 0 = false) (hbig : Nat.ble (m * k) 16777216 = true) (hzero : zeroA te = some z)
    (hc : (vs.all fun x => Nat.beq x.cells.length k && x.store) = true) {ty2 : TypeId} (hk : asemC P ops rest (S n ((d, .ref M k 0 m) :: (t, .val (.bool b)) :: l) (M + 1) ((M, some (.arr k vs)) :: os)) K) :
    asemC P ops (⟨some d, .buildSlice ty m ps, ty2, pos, af, some (j, want)⟩ :: rest) (S n l M os) K := by
  obtain ⟨ti, el, g1, he, hs, g4, hsz, hbz⟩ := ht.h
  refine sgt_new (x := .ref M k 0 m) hd hg hgb (by rintro c f h; cases h) ?_ hk
  have hp' := hp.get (M := M) (os := os)
  have hb : buildSliceA te m xs = some (.arr k vs) := by
    have hne : m ≠ 0 := Nat.ne_of_beq_eq_false h0
    simp only [buildSliceA, if_neg hne, hzero, Option.bind_some, hsz, if_pos (Nat.le_of_ble_eq_true hbig)]
    have := seqv_fill (k := k) (z := z) xs [] vs hv (fun x hx => by
      have := List.all_eq_true.1 hc x hx
      simp only [Bool.and_eq_true] at this
      exact ⟨Nat.eq_of_beq_eq_true this.1, this.2⟩)
    simp only [List.nil_append, hl] at this
    rw [this]; rfl
  simp only [aop, g1, he, g4, Option.bind_some, hp', hb, Option.map_some, hsz]
end
end Go.Lg

/- emendateref22.Reduce -/
namespace Go.Lg
open Go.Proofs
set_option linter.unusedSimpArgs false
set_option linter.unusedVariables false
attribute [local irreducible] Ap Rq asemC WP RunD Ret Gq thenA inBlockA bodyQ noGotoA RqL RqP OpP
set_option maxHeartbeats 8000000

theorem rreduce_fn (g : Gram) : Fn Try.prog 11 [gramA g] (reduceA g) := by
  refine Fn.intro (by simp [AV.bd, bdL, bdL_append]) (by kernel_rfl) Try.func11 rfl rfl Try.ntmps11 (by exact Nat.le_of_ble_eq_true rfl) ?_; intro Γ hm
  by_cases hval : validG g = true
  · have hv := validG_iff.1 hval
    have hn2 := hv.n2
    have hr2 := hv.r2
    have ht2 := hv.terms
    have hs0 := hv.s0
    have hsn := hv.sn
    have hpl := prodG_len g
    have hul := usefulG_len g (prodG g)
    have hlo : ∀ i, i < g.rules.length → ∀ x, x ∈ (nth g.rules i).body → -((prodG g).length : Int) ≤ x := fun i hi x hx => by have := (hv.rule _ (nth_mem hi)).lo x hx; omega
    (repeat' (first | refine WP.seq ?_ | refine WP.block ?_ | refine go_n ?_ | refine WP.skip ?_ | refine WP.ret ?_ | refine go_r ?_ | refine bo_r ?_ | (refine wp_cond (by exact rfl) (fun hc => ?_) (fun hc => ?_) <;> (try simp only [decide_eq_true_eq, decide_eq_false_iff_not, Decidable.not_not, Bool.and_eq_true, Bool.or_eq_true, Bool.not_eq_true', Bool.not_eq_false', Bool.or_eq_false_iff, Bool.and_eq_false_iff, Int.not_lt, Int.not_le, reduceCtorEq, ne_eq, Bool.not_true, Bool.not_false, Bool.not_eq_true, Bool.not_eq_false] at hc) <;> (try (exfalso; omega))) | (refine WP.regionC (id := 0) ?_; (refine se_box (by exact rfl) (by exact ⟨rfl, rfl⟩) ?_); (refine se_alloc (by exact rfl) ?_); (refine su (ap_assign (by exact rq_p rfl rfl)) ?_); (refine su (ap_assign (by exact rq_p rfl rfl)) ?_); refine asemC_end ?_) | (refine WP.regionC (id := 1) ?_; (refine su (ap_load_pw (by exact rq_p rfl rfl) (by exact rfl) (by exact rfl) (by exact rfl)) ?_); (refine sc_p rfl rfl (by repeat' first | exact SubL.nil | refine SubL.cons ?_ ?_ | exact Sub.refl) (by (simp [bdL, bdL_append, AV.bd]; done)) (rvalid_fn _) ?_); (refine su (ap_not (by exact rq_p rfl rfl)) ?_); refine asemC_end ?_) | (refine WP.regionC (id := 2) ?_; (refine su (ap_build (RqP.nil) (by exact rfl)) ?_); (refine se_store_b (by exact rfl) (by exact rfl) (by exact rfl) (by exact rfl) ?_); (refine su (ap_assign (by exact rq_p rfl rfl)) ?_); (refine su (ap_assign (by exact rq_p rfl rfl)) ?_); refine asemC_end ?_) | (refine WP.regionC (id := 3) ?_; (refine su (ap_load_pw (by exact rq_p rfl rfl) (by exact rfl) (by exact rfl) (by exact rfl)) ?_); (refine sc_p rfl rfl (by repeat' first | exact SubL.nil | refine SubL.cons ?_ ?_ | exact Sub.refl) (by (simp [bdL, bdL_append, AV.bd]; done)) (rproductive_fn _ (by assumption)) ?_); (refine su (ap_assign (by exact rq_p rfl rfl)) ?_); refine asemC_end ?_) | (refine WP.regionC (id := 4) ?_; (refine su (ap_move (by exact rq_p rfl rfl)) ?_); (refine su (ap_field_p (by exact rq_p rfl rfl) (by exact rfl) (by exact rfl)) ?_); (refine su (ap_load_p (by exact rq_p rfl rfl) (by exact rfl) (by exact rfl) (by exact rfl)) ?_); (refine su (ap_idx_z (by exact rq_p rfl rfl) (by exact rq_p rfl rfl) (by omega)) ?_); (refine su (ap_load_w (by exact rq_p rfl rfl) (by exact rfl)) ?_); (refine su (ap_not (by exact rq_p rfl rfl)) ?_); refine asemC_end ?_) | (refine WP.regionC (id := 5) ?_; (refine su (ap_build (RqP.nil) (by exact rfl)) ?_); (refine se_store_b (by exact rfl) (by exact rfl) (by exact rfl) (by exact rfl) ?_); (refine su (ap_assign (by exact rq_p rfl rfl)) ?_); (refine su (ap_assign (by exact rq_p rfl rfl)) ?_); refine asemC_end ?_) | (refine WP.regionC (id := 6) ?_; (refine su (ap_load_pw (by exact rq_p rfl rfl) (by exact rfl) (by exact rfl) (by exact rfl)) ?_); (refine sc_p rfl rfl (by repeat' first | exact SubL.nil | refine SubL.cons ?_ ?_ | exact Sub.refl) (by (simp [bdL, bdL_append, AV.bd]; done)) (ruseful_fn _ (by assumption)) ?_); (refine su (ap_assign (by exact rq_p rfl rfl)) ?_); refine asemC_end ?_) | (refine WP.regionC (id := 7) ?_; (refine su (ap_field_p (by exact rq_p rfl rfl) (by exact rfl) (by exact rfl)) ?_); (refine su (ap_load_p (by exact rq_p rfl rfl) (by exact rfl) (by exact rfl) (by exact rfl)) ?_); (refine su (ap_len_m (by exact rfl) (by exact rq_p rfl rfl)) ?_); (refine se_makeT intA 0 (by exact rfl) (by exact rfl) (by exact rfl) (by exact rfl) (by exact rfl) (by omega) ?_); (refine su (ap_assign (by exact rq_p rfl rfl)) ?_); refine asemC_end ?_) | (refine WP.regionC (id := 8) ?_; (refine su (ap_assign (by exact rq_p rfl rfl)) ?_); refine asemC_end ?_) | (refine WP.regionC (id := 9) ?_; (refine su (ap_assign (by exact rq_p rfl rfl)) ?_); refine asemC_end ?_)))
    · rw [hval] at hc; cases hc
    · rw [reduceA_10 hval hc]
      exact ret_many (.cellT (by exact rfl) (by exact rfl) (by exact rfl) (by exact rfl) (.tmp (by exact rfl) (.tmp (by exact rfl) .nil))) (by decide) (by repeat' first | exact FzL.nil | refine FzL.cons ?_ ?_ | exact Fz.nil | (exact Fz.reflp (by simp [AV.bd, bdL, bdL_append])) | refine Fz.aggL ?_)
    have hpr : nth (prodG g) g.start.toNat = true := hc
    generalize hU : usefulG g (prodG g) = use at *
    refine wp_nil 8 1 (by exact rfl) ?_
    refine wp_loop (fun (i : Nat) => i ≤ g.nonterms.length) (fun i => g.nonterms.length - i)
      (fun i => (S 138 [(1, .ptr 0 4 0 0), (2, .ptr 1 4 0 0), (5, boolsA (prodG g)), (6, boolsA use), (7, .ref 2 1 0 g.nonterms.length), (8, .ref 3 1 0 (namesTo g use i).length), (9, intA (i : Nat))] 4 [(0, some (.arr 4 [gramA g])), (1, some (.arr 4 [zgA])), (2, some (.arr 1 ((numArr use g.nonterms.length i).map intA))), (3, some (.arr 1 ((namesTo g use i).map strA)))])) 0 ⟨[0, 1, 2, 3], ToR.S rfl (by repeat' (first | exact rt_nil | refine rt_r (by exact rfl) (by exact rfl) ?_ | refine rt_t (by exact rfl) (by exact rfl) ?_ | refine rt_e (by exact rfl) (by exact rfl) ?_ | refine rt_p (by exact rfl) (by exact rfl) (by (simp [AV.bd, bdL, bdL_append]; done)) ?_)) (by repeat' (first | exact ro_nil | refine ro_e (by exact rfl) (by exact rfl) ?_ | refine ro_p (by exact rfl) (by first | exact rfl | (simp; done)) (by first | exact bdL_map (fun _ => by exact rfl) _ | (simp [bdL, bdL_append, AV.bd]; done)) ?_)) (by decide) (by (rw [hm]; exact rfl)) (by exact rfl) (by (simp [bdT, AV.bd, bdL, bdL_append]; done)) (by repeat' (first | exact True.intro | exact rfl | refine And.intro ?_ ?_ | exact bdL_map (fun _ => by exact rfl) _ | (simp [bdOq, bdL, bdL_append, AV.bd]; done))) (by (rw [hm]; exact Nat.le_of_ble_eq_true rfl))⟩ (Nat.zero_le _) ?_
    rintro i hi
    by_cases hlt : i < g.nonterms.length
    · have hnl : (namesTo g use i).length ≤ i := by rw [namesTo_len]; exact cntB_le use i
      have hal := numArr_len (use := use) (n := g.nonterms.length) (i := i)
      (repeat' (first | refine WP.seq ?_ | refine WP.block ?_ | refine go_n ?_ | refine WP.skip ?_ | refine bl_n ?_ | (refine wp_cond (by exact rfl) (fun hc => ?_) (fun hc => ?_) <;> (try simp only [decide_eq_true_eq, decide_eq_false_iff_not, Decidable.not_not, Bool.and_eq_true, Bool.or_eq_true, Bool.not_eq_true', Bool.not_eq_false', Bool.or_eq_false_iff, Bool.and_eq_false_iff, Int.not_lt, Int.not_le, reduceCtorEq, ne_eq, Bool.not_true, Bool.not_false, Bool.not_eq_true, Bool.not_eq_false] at hc) <;> (try (exfalso; omega))) | (refine WP.regionC (id := 10) ?_; (refine su (ap_move (by exact rq_p rfl rfl)) ?_); (refine su (ap_field_p (by exact rq_p rfl rfl) (by exact rfl) (by exact rfl)) ?_); (refine su (ap_load_p (by exact rq_p rfl rfl) (by exact rfl) (by exact rfl) (by exact rfl)) ?_); (refine su (ap_len_m (by exact rfl) (by exact rq_p rfl rfl)) ?_); (refine su (ap_lss (by exact rq_p rfl rfl) (by exact rq_p rfl rfl)) ?_); refine asemC_end ?_) | (refine WP.regionC (id := 12) ?_; (refine su (ap_move (by exact rq_p rfl rfl)) ?_); (refine su (ap_move (by exact rq_p rfl rfl)) ?_); (refine su (ap_idx_n (by exact rq_p rfl rfl) (by exact rq_p rfl rfl) (by omega)) ?_); (refine su (ap_load_w (by exact rq_p rfl rfl) (by exact rfl)) ?_); refine asemC_end ?_) | (refine WP.regionC (id := 13) ?_; (refine su (ap_move (by exact rq_p rfl rfl)) ?_); (refine su (ap_move (by exact rq_p rfl rfl)) ?_); (refine su (ap_move (by exact rq_p rfl rfl)) ?_); (refine su (ap_len_r (by exact rfl) (by exact rq_p rfl rfl)) ?_); (refine su (ap_idxr_n (by exact rq_p rfl rfl) (by exact rq_p rfl rfl) (by omega)) ?_); (refine se_store_t (by exact rfl) (by exact rfl) (by omega) (by exact rfl) (by exact rfl) ?_); refine asemC_end ?_) | (refine WP.regionC (id := 14) ?_; (refine su (ap_move (by exact rq_p rfl rfl)) ?_); (refine su (ap_field_p (by exact rq_p rfl rfl) (by exact rfl) (by exact rfl)) ?_); (refine su (ap_load_p (by exact rq_p rfl rfl) (by exact rfl) (by exact rfl) (by exact rfl)) ?_); (refine su (ap_move (by exact rq_p rfl rfl)) ?_); (refine su (ap_idx_n (by exact rq_p rfl rfl) (by exact rq_p rfl rfl) (by omega)) ?_); (refine su (ap_load_w (by exact rq_p rfl rfl) (by exact rfl)) ?_); (refine se_lit (OpP.cons (by exact rfl) (OpP.nil)) (by exact rfl) (by exact rfl) (by exact rfl) (by exact rfl) (by exact rfl) (by exact rfl) ?_); (refine se_app1 (by exact rfl) (by exact rfl) (by exact rfl) (by exact rfl) (by exact rfl) (by exact rfl) (by exact rfl) (by exact rfl) (by omega) ?_); (refine su (ap_assign (by exact rq_p rfl rfl)) ?_); refine asemC_end ?_) | (refine WP.regionC (id := 11) ?_; (refine su (ap_move (by exact rq_p rfl rfl)) ?_); (refine su (ap_add (by exact rq_p rfl rfl) (by exact rq_p rfl rfl) (by exact inr_i64_of (by omega))) ?_); (refine su (ap_assign (by exact rq_p rfl rfl)) ?_); refine asemC_end ?_)))
      · refine ⟨i + 1, ⟨by omega, by omega⟩, ?_⟩
        rw [namesTo_yes hc, ← numArr_yes hlt hc, ← namesTo_len (g := g)]
        exact ⟨[0, 1, 2, 5], ToR.S rfl (by repeat' (first | exact rt_nil | refine rt_r (by exact rfl) (by exact rfl) ?_ | refine rt_t (by exact rfl) (by exact rfl) ?_ | refine rt_e (by exact rfl) (by exact rfl) ?_ | refine rt_p (by exact rfl) (by exact rfl) (by (simp [AV.bd, bdL, bdL_append]; done)) ?_)) (by repeat' (first | exact ro_nil | refine ro_e (by exact rfl) (by exact rfl) ?_ | refine ro_p (by exact rfl) (by exact rfl) (by first | exact bdL_map (fun _ => by exact rfl) _ | (simp [bdL, bdL_append, AV.bd]; done)) ?_)) (by decide) (by (rw [hm]; exact rfl)) (by exact rfl) (by (simp [bdT, AV.bd, bdL, bdL_append]; done)) (by repeat' (first | exact True.intro | exact rfl | refine And.intro ?_ ?_ | exact bdL_map (fun _ => by exact rfl) _ | (simp [bdOq, bdL, bdL_append, AV.bd]; done))) (by (rw [hm]; exact Nat.le_of_ble_eq_true rfl))⟩
      · refine ⟨i + 1, ⟨by omega, by omega⟩, ?_⟩
        rw [namesTo_no hc, numArr_no hc]
        exact ⟨[0, 1, 2, 3], ToR.S rfl (by repeat' (first | exact rt_nil | refine rt_r (by exact rfl) (by exact rfl) ?_ | refine rt_t (by exact rfl) (by exact rfl) ?_ | refine rt_e (by exact rfl) (by exact rfl) ?_ | refine rt_p (by exact rfl) (by exact rfl) (by (simp [AV.bd, bdL, bdL_append]; done)) ?_)) (by repeat' (first | exact ro_nil | refine ro_e (by exact rfl) (by exact rfl) ?_ | refine ro_p (by exact rfl) (by exact rfl) (by first | exact bdL_map (fun _ => by exact rfl) _ | (simp [bdL, bdL_append, AV.bd]; done)) ?_)) (by decide) (by (rw [hm]; exact rfl)) (by exact rfl) (by (simp [bdT, AV.bd, bdL, bdL_append]; done)) (by repeat' (first | exact True.intro | exact rfl | refine And.intro ?_ ?_ | exact bdL_map (fun _ => by exact rfl) _ | (simp [bdOq, bdL, bdL_append, AV.bd]; done))) (by (rw [hm]; exact Nat.le_of_ble_eq_true rfl))⟩
    obtain rfl : i = g.nonterms.length := by omega
    have hnl : (namesTo g use g.nonterms.length).length ≤ g.nonterms.length := by rw [namesTo_len]; exact cntB_le use _
    have hal := numArr_len (use := use) (n := g.nonterms.length) (i := g.nonterms.length)
    (repeat' (first | refine WP.seq ?_ | refine WP.block ?_ | refine go_n ?_ | refine WP.exit ?_ | refine go_x ?_ | refine bl_x ?_ | (refine wp_cond (by exact rfl) (fun hc => ?_) (fun hc => ?_) <;> (try simp only [decide_eq_true_eq, decide_eq_false_iff_not, Decidable.not_not, Bool.and_eq_true, Bool.or_eq_true, Bool.not_eq_true', Bool.not_eq_false', Bool.or_eq_false_iff, Bool.and_eq_false_iff, Int.not_lt, Int.not_le, reduceCtorEq, ne_eq, Bool.not_true, Bool.not_false, Bool.not_eq_true, Bool.not_eq_false] at hc) <;> (try (exfalso; omega))) | (refine WP.regionC (id := 10) ?_; (refine su (ap_move (by exact rq_p rfl rfl)) ?_); (refine su (ap_field_p (by exact rq_p rfl rfl) (by exact rfl) (by exact rfl)) ?_); (refine su (ap_load_p (by exact rq_p rfl rfl) (by exact rfl) (by exact rfl) (by exact rfl)) ?_); (refine su (ap_len_m (by exact rfl) (by exact rq_p rfl rfl)) ?_); (refine su (ap_lss (by exact rq_p rfl rfl) (by exact rq_p rfl rfl)) ?_); refine asemC_end ?_) | (refine WP.regionC (id := 15) ?_; (refine su (ap_assign (by exact rq_p rfl rfl)) ?_); refine asemC_end ?_) | (refine WP.regionC (id := 16) ?_; (refine su (ap_assign (by exact rq_p rfl rfl)) ?_); refine asemC_end ?_) | (refine WP.regionC (id := 17) ?_; (refine su (ap_assign (by exact rq_p rfl rfl)) ?_); refine asemC_end ?_)))
    refine wp_nil 10 3 (by exact rfl) (wp_nil 11 1 (by exact rfl) ?_)
    refine wp_loop (fun (i : Nat) => i ≤ g.rules.length) (fun i => g.rules.length - i)
      (fun i => (S 138 [(1, .ptr 0 4 0 0), (2, .ptr 1 4 0 0), (5, boolsA (prodG g)), (6, boolsA use), (7, .ref 2 1 0 g.nonterms.length), (8, .ref 3 1 0 (namesTo g use g.nonterms.length).length), (10, .ref 4 3 0 (rulesTo g (prodG g) use i).length), (11, .ref 5 1 0 (fromTo g (prodG g) use i).length), (12, intA (i : Nat))] 6 [(0, some (.arr 4 [gramA g])), (1, some (.arr 4 [zgA])), (2, some (.arr 1 ((numArr use g.nonterms.length g.nonterms.length).map intA))), (3, some (.arr 1 ((namesTo g use g.nonterms.length).map strA))), (4, some (.arr 3 ((rulesTo g (prodG g) use i).map ruleA))), (5, some (.arr 1 ((fromTo g (prodG g) use i).map intA)))])) 0 ⟨[0, 1, 2, 3, 4, 5], ToR.S rfl (by repeat' (first | exact rt_nil | refine rt_r (by exact rfl) (by exact rfl) ?_ | refine rt_t (by exact rfl) (by exact rfl) ?_ | refine rt_e (by exact rfl) (by exact rfl) ?_ | refine rt_p (by exact rfl) (by exact rfl) (by (simp [AV.bd, bdL, bdL_append]; done)) ?_)) (by repeat' (first | exact ro_nil | refine ro_e (by exact rfl) (by exact rfl) ?_ | refine ro_p (by exact rfl) (by exact rfl) (by first | exact bdL_map (fun _ => by exact rfl) _ | (simp [bdL, bdL_append, AV.bd]; done)) ?_)) (by decide) (by (rw [hm]; exact rfl)) (by exact rfl) (by (simp [bdT, AV.bd, bdL, bdL_append]; done)) (by repeat' (first | exact True.intro | exact rfl | refine And.intro ?_ ?_ | exact bdL_map (fun _ => by exact rfl) _ | (simp [bdOq, bdL, bdL_append, AV.bd]; done))) (by (rw [hm]; exact Nat.le_of_ble_eq_true rfl))⟩ (Nat.zero_le _) ?_
    rintro i hi
    by_cases hlt : i < g.rules.length
    · have hr := hv.rule _ (nth_mem hlt)
      have hr0 := hr.h0
      have hrn := hr.hn
      have hrl := hr.len
      have hlo' := hlo i hlt
      have hrl2 := rules_le (g := g) (is := prodG g) (use := use) (i := i)
      have hfl2 := from_le (g := g) (is := prodG g) (use := use) (i := i)
      (repeat' (first | refine WP.seq ?_ | refine WP.block ?_ | refine go_n ?_ | refine WP.skip ?_ | refine WP.exit ?_ | refine go_x ?_ | refine bl_x ?_ | (refine wp_cond (by exact rfl) (fun hc => ?_) (fun hc => ?_) <;> (try simp only [decide_eq_true_eq, decide_eq_false_iff_not, Decidable.not_not, Bool.and_eq_true, Bool.or_eq_true, Bool.not_eq_true', Bool.not_eq_false', Bool.or_eq_false_iff, Bool.and_eq_false_iff, Int.not_lt, Int.not_le, reduceCtorEq, ne_eq, Bool.not_true, Bool.not_false, Bool.not_eq_true, Bool.not_eq_false] at hc) <;> (try (exfalso; omega))) | (refine WP.regionC (id := 18) ?_; (refine su (ap_move (by exact rq_p rfl rfl)) ?_); (refine su (ap_field_p (by exact rq_p rfl rfl) (by exact rfl) (by exact rfl)) ?_); (refine su (ap_load_p (by exact rq_p rfl rfl) (by exact rfl) (by exact rfl) (by exact rfl)) ?_); (refine su (ap_len_m (by exact rfl) (by exact rq_p rfl rfl)) ?_); (refine su (ap_lss (by exact rq_p rfl rfl) (by exact rq_p rfl rfl)) ?_); refine asemC_end ?_) | (refine WP.regionC (id := 20) ?_; (refine su (ap_field_p (by exact rq_p rfl rfl) (by exact rfl) (by exact rfl)) ?_); (refine su (ap_load_p (by exact rq_p rfl rfl) (by exact rfl) (by exact rfl) (by exact rfl)) ?_); (refine su (ap_move (by exact rq_p rfl rfl)) ?_); (refine su (ap_idx_n (by exact rq_p rfl rfl) (by exact rq_p rfl rfl) (by omega)) ?_); (refine su (ap_load_w (by exact rq_p rfl rfl) (by exact rfl)) ?_); (refine se_alloc (by exact rfl) ?_); (refine se_store_b (by exact rfl) (by exact rfl) (by exact rfl) (by exact rfl) ?_); refine asemC_end ?_) | (refine WP.regionC (id := 21) ?_; (refine su (ap_move (by exact rq_p rfl rfl)) ?_); (refine su (ap_field_p (by exact rq_p rfl rfl) (by exact rfl) (by exact rfl)) ?_); (refine su (ap_load_p (by exact rq_p rfl rfl) (by exact rfl) (by exact rfl) (by exact rfl)) ?_); (refine su (ap_idx_z (by exact rq_p rfl rfl) (by exact rq_p rfl rfl) (by omega)) ?_); (refine su (ap_load_w (by exact rq_p rfl rfl) (by exact rfl)) ?_); (refine su (ap_not (by exact rq_p rfl rfl)) ?_); (refine su (ap_move (by exact rq_p rfl rfl)) ?_); (refine sg (by exact gq_vf rfl rfl) (fun he => ap_move (by exact rq_p rfl rfl)) ?_); (refine sg (by exact gq_vf rfl rfl) (fun he => ap_field_p (by exact rq_p rfl rfl) (by exact rfl) (by exact rfl)) ?_); (refine sg (by exact gq_vf rfl rfl) (fun he => ap_load_p (by exact rq_c rfl rfl) (by exact rfl) (by exact rfl) (by exact rfl)) ?_); (refine sg_b (by exact gq_vf rfl rfl) (fun he => ⟨(by exact rq_p rfl rfl), (RqL.cons (by exact rq_c rfl rfl) (RqL.cons (by exact rq_c rfl rfl) (RqL.nil))), (by repeat' first | exact FzL.nil | refine FzL.cons ?_ ?_ | (exact Fz.reflp (by simp [AV.bd, bdL, bdL_append]))), productive_fn _ _ (by assumption), (by exact rfl)⟩) ?_); (refine sg (by exact gq_vf rfl rfl) (fun he => ap_not (by exact rq_c rfl rfl)) ?_); (refine su (ap_or (by exact rq_p rfl rfl) (by exact rq_c rfl rfl)) ?_); refine asemC_end ?_) | (refine WP.regionC (id := 22) ?_; (refine su (ap_assign (by exact rq_p rfl rfl)) ?_); refine asemC_end ?_) | (refine WP.regionC (id := 23) ?_; (refine su (ap_assign (by exact rq_p rfl rfl)) ?_); refine asemC_end ?_) | (refine WP.regionC (id := 19) ?_; (refine su (ap_move (by exact rq_p rfl rfl)) ?_); (refine su (ap_add (by exact rq_p rfl rfl) (by exact rq_p rfl rfl) (by exact inr_i64_of (by omega))) ?_); (refine su (ap_assign (by exact rq_p rfl rfl)) ?_); refine asemC_end ?_)))
      · refine ⟨i + 1, ⟨by omega, by omega⟩, ?_⟩
        have hk : keepR (prodG g) use (nth g.rules i) = false := by unfold keepR; rcases hc with hc | hc <;> simp [hc]
        rw [rules_no hk, from_no hk]
        exact ⟨[0, 1, 2, 3, 4, 5], ToR.S rfl (by repeat' (first | exact rt_nil | refine rt_r (by exact rfl) (by exact rfl) ?_ | refine rt_t (by exact rfl) (by exact rfl) ?_ | refine rt_e (by exact rfl) (by exact rfl) ?_ | refine rt_p (by exact rfl) (by exact rfl) (by (simp [AV.bd, bdL, bdL_append]; done)) ?_)) (by repeat' (first | exact ro_nil | refine ro_e (by exact rfl) (by exact rfl) ?_ | refine ro_p (by exact rfl) (by exact rfl) (by first | exact bdL_map (fun _ => by first | exact rfl | simp [AV.bd, bdL, bdL_append]) _ | (simp [bdL, bdL_append, AV.bd]; done)) ?_)) (by decide) (by (rw [hm]; exact rfl)) (by exact rfl) (by (simp [bdT, AV.bd, bdL, bdL_append]; done)) (by repeat' (first | exact True.intro | exact rfl | refine And.intro ?_ ?_ | exact bdL_map (fun _ => by first | exact rfl | simp [AV.bd, bdL, bdL_append]) _ | (simp [bdOq, bdL, bdL_append, AV.bd]; done))) (by (rw [hm]; exact Nat.le_of_ble_eq_true rfl))⟩
      have hk : keepR (prodG g) use (nth g.rules i) = true := by unfold keepR; simp [hc]
      refine wp_nil 14 1 (by exact rfl) ?_
      refine wp_loop (fun (k : Nat) => k ≤ (nth g.rules i).body.length) (fun k => (nth g.rules i).body.length - k)
        (fun k => (S 138 [(1, .ptr 0 4 0 0), (2, .ptr 1 4 0 0), (5, boolsA (prodG g)), (6, boolsA use), (7, .ref 2 1 0 g.nonterms.length), (8, .ref 3 1 0 (namesTo g use g.nonterms.length).length), (10, .ref 4 3 0 (rulesTo g (prodG g) use i).length), (11, .ref 5 1 0 (fromTo g (prodG g) use i).length), (12, intA (i : Nat)), (13, .ptr 6 3 0 0), (14, .ref 7 1 0 (bodyTo use (nth g.rules i) k).length), (15, intA (k : Nat))] 8 [(0, some (.arr 4 [gramA g])), (1, some (.arr 4 [zgA])), (2, some (.arr 1 ((numArr use g.nonterms.length g.nonterms.length).map intA))), (3, some (.arr 1 ((namesTo g use g.nonterms.length).map strA))), (4, some (.arr 3 ((rulesTo g (prodG g) use i).map ruleA))), (5, some (.arr 1 ((fromTo g (prodG g) use i).map intA))), (6, some (.arr 3 [ruleA (nth g.rules i)])), (7, some (.arr 1 ((bodyTo use (nth g.rules i) k).map intA)))])) 0 ⟨[0, 1, 2, 3, 4, 5, 6, 7], ToR.S rfl (by repeat' (first | exact rt_nil | refine rt_r (by exact rfl) (by exact rfl) ?_ | refine rt_t (by exact rfl) (by exact rfl) ?_ | refine rt_e (by exact rfl) (by exact rfl) ?_ | refine rt_p (by exact rfl) (by exact rfl) (by (simp [AV.bd, bdL, bdL_append]; done)) ?_)) (by repeat' (first | exact ro_nil | refine ro_e (by exact rfl) (by exact rfl) ?_ | refine ro_p (by exact rfl) (by exact rfl) (by first | exact bdL_map (fun _ => by first | exact rfl | simp [AV.bd, bdL, bdL_append]) _ | (simp [bdL, bdL_append, AV.bd]; done)) ?_)) (by decide) (by (rw [hm]; exact rfl)) (by exact rfl) (by (simp [bdT, AV.bd, bdL, bdL_append]; done)) (by repeat' (first | exact True.intro | exact rfl | refine And.intro ?_ ?_ | exact bdL_map (fun _ => by first | exact rfl | simp [AV.bd, bdL, bdL_append]) _ | (simp [bdOq, bdL, bdL_append, AV.bd]; done))) (by (rw [hm]; exact Nat.le_of_ble_eq_true rfl))⟩ (Nat.zero_le _) ?_
      rintro k hk2
      have hbl := bodyTo_len (use := use) hk2
      by_cases hkl : k < (nth g.rules i).body.length
      · have hxl := hlo' _ (nth_mem hkl)
        have hcl : ∀ j, (cntB use j) ≤ j := cntB_le use
        have hnb : ∀ j, j < g.nonterms.length → nth (numArr use g.nonterms.length g.nonterms.length) j = numB use j := fun j hj => numArr_at hj
        (repeat' (first | refine WP.seq ?_ | refine WP.block ?_ | refine go_n ?_ | refine WP.skip ?_ | refine bl_n ?_ | (refine wp_cond (by exact rfl) (fun hc => ?_) (fun hc => ?_) <;> (try simp only [decide_eq_true_eq, decide_eq_false_iff_not, Decidable.not_not, Bool.and_eq_true, Bool.or_eq_true, Bool.not_eq_true', Bool.not_eq_false', Bool.or_eq_false_iff, Bool.and_eq_false_iff, Int.not_lt, Int.not_le, reduceCtorEq, ne_eq, Bool.not_true, Bool.not_false, Bool.not_eq_true, Bool.not_eq_false] at hc) <;> (try (exfalso; omega))) | (refine WP.regionC (id := 24) ?_; (refine su (ap_move (by exact rq_p rfl rfl)) ?_); (refine su (ap_field_p (by exact rq_p rfl rfl) (by exact rfl) (by exact rfl)) ?_); (refine su (ap_load_p (by exact rq_p rfl rfl) (by exact rfl) (by exact rfl) (by exact rfl)) ?_); (refine su (ap_len_m (by exact rfl) (by exact rq_p rfl rfl)) ?_); (refine su (ap_lss (by exact rq_p rfl rfl) (by exact rq_p rfl rfl)) ?_); refine asemC_end ?_) | (refine WP.regionC (id := 26) ?_; (refine su (ap_field_p (by exact rq_p rfl rfl) (by exact rfl) (by exact rfl)) ?_); (refine su (ap_load_p (by exact rq_p rfl rfl) (by exact rfl) (by exact rfl) (by exact rfl)) ?_); (refine su (ap_move (by exact rq_p rfl rfl)) ?_); (refine su (ap_idx_n (by exact rq_p rfl rfl) (by exact rq_p rfl rfl) (by omega)) ?_); (refine su (ap_load_w (by exact rq_p rfl rfl) (by exact rfl)) ?_); (refine su (ap_assign (by exact rq_p rfl rfl)) ?_); refine asemC_end ?_) | (refine WP.regionC (id := 27) ?_; (refine su (ap_move (by exact rq_p rfl rfl)) ?_); (refine su (ap_lss (by exact rq_p rfl rfl) (by exact rq_p rfl rfl)) ?_); refine asemC_end ?_) | (refine WP.regionC (id := 29) ?_; (refine su (ap_move (by exact rq_p rfl rfl)) ?_); (refine su (ap_move (by exact rq_p rfl rfl)) ?_); (refine se_lit (OpP.cons (by exact rfl) (OpP.nil)) (by exact rfl) (by exact rfl) (by exact rfl) (by exact rfl) (by exact rfl) (by exact rfl) ?_); (refine se_app1 (by exact rfl) (by exact rfl) (by exact rfl) (by exact rfl) (by exact rfl) (by exact rfl) (by exact rfl) (by exact rfl) (by omega) ?_); (refine su (ap_assign (by exact rq_p rfl rfl)) ?_); refine asemC_end ?_) | (refine WP.regionC (id := 25) ?_; (refine su (ap_move (by exact rq_p rfl rfl)) ?_); (refine su (ap_add (by exact rq_p rfl rfl) (by exact rq_p rfl rfl) (by exact inr_i64_of (by omega))) ?_); (refine su (ap_assign (by exact rq_p rfl rfl)) ?_); refine asemC_end ?_)))
        · have hj : (-1 - nth (nth g.rules i).body k).toNat < g.nonterms.length := by omega
          have hnv := numArr_at (use := use) hj
          have hle := cntB_le use (-1 - nth (nth g.rules i).body k).toNat
          have hn0 : 0 ≤ nth (numArr use g.nonterms.length g.nonterms.length) (-1 - nth (nth g.rules i).body k).toNat := by rw [hnv]; omega
          have hn1 : nth (numArr use g.nonterms.length g.nonterms.length) (-1 - nth (nth g.rules i).body k).toNat ≤ 120 := by rw [hnv, numB]; split <;> omega
          (repeat' (first | refine go_n ?_ | refine bl_n ?_ | (refine WP.regionC (id := 28) ?_; (refine su (ap_move (by exact rq_p rfl rfl)) ?_); (refine su (ap_move (by exact rq_p rfl rfl)) ?_); (refine su (ap_sub (by exact rq_p rfl rfl) (by exact rq_p rfl rfl) (by exact inr_i64_of (by omega))) ?_); (refine su (ap_idxr_z (by exact rq_p rfl rfl) (by exact rq_p rfl rfl) (by omega)) ?_); (refine su (ap_load_pt (by exact rq_p rfl rfl) (by exact rfl) (by omega) (by exact rfl)) ?_); (refine su (ap_sub (by exact rq_p rfl rfl) (by exact rq_p rfl rfl) (by exact inr_i64_of (by omega))) ?_); (refine su (ap_assign (by exact rq_p rfl rfl)) ?_); refine asemC_end ?_) | (refine WP.regionC (id := 29) ?_; (refine su (ap_move (by exact rq_p rfl rfl)) ?_); (refine su (ap_move (by exact rq_p rfl rfl)) ?_); (refine se_lit (OpP.cons (by exact rfl) (OpP.nil)) (by exact rfl) (by exact rfl) (by exact rfl) (by exact rfl) (by exact rfl) (by exact rfl) ?_); (refine se_app1 (by exact rfl) (by exact rfl) (by exact rfl) (by exact rfl) (by exact rfl) (by exact rfl) (by exact rfl) (by exact rfl) (by omega) ?_); (refine su (ap_assign (by exact rq_p rfl rfl)) ?_); refine asemC_end ?_) | (refine WP.regionC (id := 25) ?_; (refine su (ap_move (by exact rq_p rfl rfl)) ?_); (refine su (ap_add (by exact rq_p rfl rfl) (by exact rq_p rfl rfl) (by exact inr_i64_of (by omega))) ?_); (refine su (ap_assign (by exact rq_p rfl rfl)) ?_); refine asemC_end ?_)))
          refine ⟨k + 1, ⟨by omega, by omega⟩, ?_⟩
          rw [bodyTo_neg hkl hc, ← hnv]
          exact ⟨[0, 1, 2, 3, 4, 5, 6, 9], ToR.S rfl (by repeat' (first | exact rt_nil | refine rt_r (by exact rfl) (by exact rfl) ?_ | refine rt_t (by exact rfl) (by exact rfl) ?_ | refine rt_e (by exact rfl) (by exact rfl) ?_ | refine rt_p (by exact rfl) (by exact rfl) (by (simp [AV.bd, bdL, bdL_append]; done)) ?_)) (by repeat' (first | exact ro_nil | refine ro_e (by exact rfl) (by exact rfl) ?_ | refine ro_p (by exact rfl) (by exact rfl) (by first | exact bdL_map (fun _ => by first | exact rfl | simp [AV.bd, bdL, bdL_append]) _ | (simp [bdL, bdL_append, AV.bd]; done)) ?_)) (by decide) (by (rw [hm]; exact rfl)) (by exact rfl) (by (simp [bdT, AV.bd, bdL, bdL_append]; done)) (by repeat' (first | exact True.intro | exact rfl | refine And.intro ?_ ?_ | exact bdL_map (fun _ => by first | exact rfl | simp [AV.bd, bdL, bdL_append]) _ | (simp [bdOq, bdL, bdL_append, AV.bd]; done))) (by (rw [hm]; exact Nat.le_of_ble_eq_true rfl))⟩
        · refine ⟨k + 1, ⟨by omega, by omega⟩, ?_⟩
          rw [bodyTo_pos hkl hc]
          exact ⟨[0, 1, 2, 3, 4, 5, 6, 9], ToR.S rfl (by repeat' (first | exact rt_nil | refine rt_r (by exact rfl) (by exact rfl) ?_ | refine rt_t (by exact rfl) (by exact rfl) ?_ | refine rt_e (by exact rfl) (by exact rfl) ?_ | refine rt_p (by exact rfl) (by exact rfl) (by (simp [AV.bd, bdL, bdL_append]; done)) ?_)) (by repeat' (first | exact ro_nil | refine ro_e (by exact rfl) (by exact rfl) ?_ | refine ro_p (by exact rfl) (by exact rfl) (by first | exact bdL_map (fun _ => by first | exact rfl | simp [AV.bd, bdL, bdL_append]) _ | (simp [bdL, bdL_append, AV.bd]; done)) ?_)) (by decide) (by (rw [hm]; exact rfl)) (by exact rfl) (by (simp [bdT, AV.bd, bdL, bdL_append]; done)) (by repeat' (first | exact True.intro | exact rfl | refine And.intro ?_ ?_ | exact bdL_map (fun _ => by first | exact rfl | simp [AV.bd, bdL, bdL_append]) _ | (simp [bdOq, bdL, bdL_append, AV.bd]; done))) (by (rw [hm]; exact Nat.le_of_ble_eq_true rfl))⟩
      · (repeat' (first | refine WP.seq ?_ | refine go_n ?_ | refine WP.exit ?_ | refine go_x ?_ | refine bl_x ?_ | (refine wp_cond (by exact rfl) (fun hc => ?_) (fun hc => ?_) <;> (try simp only [decide_eq_true_eq, decide_eq_false_iff_not, Decidable.not_not, Bool.and_eq_true, Bool.or_eq_true, Bool.not_eq_true', Bool.not_eq_false', Bool.or_eq_false_iff, Bool.and_eq_false_iff, Int.not_lt, Int.not_le, reduceCtorEq, ne_eq, Bool.not_true, Bool.not_false, Bool.not_eq_true, Bool.not_eq_false] at hc) <;> (try (exfalso; omega))) | (refine WP.regionC (id := 24) ?_; (refine su (ap_move (by exact rq_p rfl rfl)) ?_); (refine su (ap_field_p (by exact rq_p rfl rfl) (by exact rfl) (by exact rfl)) ?_); (refine su (ap_load_p (by exact rq_p rfl rfl) (by exact rfl) (by exact rfl) (by exact rfl)) ?_); (refine su (ap_len_m (by exact rfl) (by exact rq_p rfl rfl)) ?_); (refine su (ap_lss (by exact rq_p rfl rfl) (by exact rq_p rfl rfl)) ?_); refine asemC_end ?_)))
        refine wp_frz (k := 1) (f := intA) (L := bodyTo use (nth g.rules i) k) 14 hm (by exact rfl) (by exact rfl) (by exact rfl) (fun _ => rfl) (fun _ => rfl) ?_
        rw [bodyTo_all (by omega)]
        (repeat' (first | refine go_n ?_ | refine bl_n ?_ | (refine wp_draw (id := 30) 18 mixed (by kernel_rfl) (by kernel_rfl) rfl ?_ <;> (refine rd_u (by exact rfl) (by exact rfl) (ap_move (by exact rq_p rfl rfl)) ?_) <;> (refine rd_u (by exact rfl) (by exact rfl) (ap_move (by exact rq_p rfl rfl)) ?_) <;> (refine rd_u (by exact rfl) (by exact rfl) (ap_field_p (by exact rq_p rfl rfl) (by exact rfl) (by exact rfl)) ?_) <;> (refine rd_u (by exact rfl) (by exact rfl) (ap_load_p (by exact rq_p rfl rfl) (by exact rfl) (by exact rfl) (by exact rfl)) ?_) <;> (refine rd_u (by exact rfl) (by exact rfl) (ap_idxr_z (by exact rq_p rfl rfl) (by exact rq_p rfl rfl) (by omega)) ?_) <;> (refine rd_u (by exact rfl) (by exact rfl) (ap_load_pt (by exact rq_p rfl rfl) (by exact rfl) (by omega) (by exact rfl)) ?_) <;> (refine rd_u (by exact rfl) (by exact rfl) (ap_move (by exact rq_p rfl rfl)) ?_) <;> (refine rd_u (by exact rfl) (by exact rfl) (ap_field_p (by exact rq_p rfl rfl) (by exact rfl) (by exact rfl)) ?_) <;> (refine rd_u (by exact rfl) (by exact rfl) (ap_load_p (by exact rq_p rfl rfl) (by exact rfl) (by exact rfl) (by exact rfl)) ?_) <;> (refine rd_u (by exact rfl) (by exact rfl) (ap_build (RqP.cons (by exact rq_p rfl rfl) (RqP.cons (by exact rq_p rfl rfl) (RqP.cons (by exact rq_p rfl rfl) (RqP.nil)))) (by exact rfl)) ?_) <;> (refine rd_lit (OpP.cons (by exact rfl) (OpP.nil)) (by exact rfl) (by exact rfl) (by exact rfl) (by exact rfl) (by exact rfl) (by exact rfl) ?_) <;> (refine rd_app1R (by exact rfl) (by exact rfl) (by exact rfl) (by exact rfl) (by exact rfl) (by exact rfl) (by exact rfl) (by exact rfl) (by omega) ?_) <;> (refine rd_u (by exact rfl) (by exact rfl) (ap_move (by exact rq_p rfl rfl)) ?_) <;> (refine rd_u (by exact rfl) (by exact rfl) (ap_move (by exact rq_p rfl rfl)) ?_) <;> (refine rd_lit (OpP.cons (by exact rfl) (OpP.nil)) (by exact rfl) (by exact rfl) (by exact rfl) (by exact rfl) (by exact rfl) (by exact rfl) ?_) <;> (refine rd_app1 (by exact rfl) (by exact rfl) (by exact rfl) (by exact rfl) (by exact rfl) (by exact rfl) (by exact rfl) (by exact rfl) (by omega) ?_) <;> (refine rd_u (by exact rfl) (by exact rfl) (ap_assign (by exact rq_p rfl rfl)) ?_) <;> (refine rd_u (by exact rfl) (by exact rfl) (ap_assign (by exact rq_p rfl rfl)) ?_) <;> (refine rd_end (by kernel_rfl) ?_)) | (refine WP.regionC (id := 19) ?_; (refine su (ap_move (by exact rq_p rfl rfl)) ?_); (refine su (ap_add (by exact rq_p rfl rfl) (by exact rq_p rfl rfl) (by exact inr_i64_of (by omega))) ?_); (refine su (ap_assign (by exact rq_p rfl rfl)) ?_); refine asemC_end ?_)))
        refine ⟨i + 1, ⟨by omega, by omega⟩, ?_⟩
        have hnv : nth (numArr use g.nonterms.length g.nonterms.length) (nth g.rules i).head.toNat = numB use (nth g.rules i).head.toNat := numArr_at (by omega)
        have hrx : mapRul use (nth g.rules i) = ⟨nth (numArr use g.nonterms.length g.nonterms.length) (nth g.rules i).head.toNat, (nth g.rules i).body.map (mapSym use), (nth g.rules i).price⟩ := by rw [hnv]; rfl
        rw [rules_yes hk, from_yes hk, hrx]
        exact ⟨[0, 1, 2, 3, 19, 23], ToR.S rfl (by repeat' (first | exact rt_nil | refine rt_r (by exact rfl) (by exact rfl) ?_ | refine rt_t (by exact rfl) (by exact rfl) ?_ | refine rt_e (by exact rfl) (by exact rfl) ?_ | refine rt_p (by exact rfl) (by exact rfl) (by (simp [AV.bd, bdL, bdL_append]; done)) ?_)) (by repeat' (first | exact ro_nil | refine ro_e (by exact rfl) (by exact rfl) ?_ | refine ro_p (by exact rfl) (by exact rfl) (by first | exact bdL_map (fun _ => by first | exact rfl | simp [AV.bd, bdL, bdL_append]) _ | (simp [bdL, bdL_append, AV.bd]; done)) ?_)) (by decide) (by (rw [hm]; exact rfl)) (by exact rfl) (by (simp [bdT, AV.bd, bdL, bdL_append]; done)) (by repeat' (first | exact True.intro | exact rfl | refine And.intro ?_ ?_ | exact bdL_map (fun _ => by first | exact rfl | simp [AV.bd, bdL, bdL_append]) _ | (simp [bdOq, bdL, bdL_append, AV.bd]; done))) (by (rw [hm]; exact Nat.le_of_ble_eq_true rfl))⟩
    · obtain rfl : i = g.rules.length := by omega
      have hnv : nth (numArr use g.nonterms.length g.nonterms.length) g.start.toNat = numB use g.start.toNat := numArr_at (by omega)
      (repeat' (first | refine WP.seq ?_ | refine go_n ?_ | refine WP.exit ?_ | refine WP.ret ?_ | refine go_x ?_ | refine bl_x ?_ | refine bo_r ?_ | (refine wp_cond (by exact rfl) (fun hc => ?_) (fun hc => ?_) <;> (try simp only [decide_eq_true_eq, decide_eq_false_iff_not, Decidable.not_not, Bool.and_eq_true, Bool.or_eq_true, Bool.not_eq_true', Bool.not_eq_false', Bool.or_eq_false_iff, Bool.and_eq_false_iff, Int.not_lt, Int.not_le, reduceCtorEq, ne_eq, Bool.not_true, Bool.not_false, Bool.not_eq_true, Bool.not_eq_false] at hc) <;> (try (exfalso; omega))) | (refine WP.regionC (id := 18) ?_; (refine su (ap_move (by exact rq_p rfl rfl)) ?_); (refine su (ap_field_p (by exact rq_p rfl rfl) (by exact rfl) (by exact rfl)) ?_); (refine su (ap_load_p (by exact rq_p rfl rfl) (by exact rfl) (by exact rfl) (by exact rfl)) ?_); (refine su (ap_len_m (by exact rfl) (by exact rq_p rfl rfl)) ?_); (refine su (ap_lss (by exact rq_p rfl rfl) (by exact rq_p rfl rfl)) ?_); refine asemC_end ?_) | (refine wp_draw (id := 31) 16 mixed (by kernel_rfl) (by kernel_rfl) rfl ?_ <;> (refine rd_lit0 ?_) <;> (refine rd_u (by exact rfl) (by exact rfl) (ap_field_p (by exact rq_p rfl rfl) (by exact rfl) (by exact rfl)) ?_) <;> (refine rd_u (by exact rfl) (by exact rfl) (ap_load_p (by exact rq_p rfl rfl) (by exact rfl) (by exact rfl) (by exact rfl)) ?_) <;> (refine rd_appE (by exact rfl) (by exact rfl) (by exact rfl) (by exact rfl) (by exact rfl) (by exact rfl) (by (simp only [List.length_replicate, List.length_set, List.length_append, List.length_map, List.length_cons, List.length_nil] <;> omega)) ?_) <;> (refine rd_u (by exact rfl) (by exact rfl) (ap_move (by exact rq_p rfl rfl)) ?_) <;> (refine rd_u (by exact rfl) (by exact rfl) (ap_move (by exact rq_p rfl rfl)) ?_) <;> (refine rd_u (by exact rfl) (by exact rfl) (ap_field_p (by exact rq_p rfl rfl) (by exact rfl) (by exact rfl)) ?_) <;> (refine rd_u (by exact rfl) (by exact rfl) (ap_load_p (by exact rq_p rfl rfl) (by exact rfl) (by exact rfl) (by exact rfl)) ?_) <;> (refine rd_u (by exact rfl) (by exact rfl) (ap_idxr_z (by exact rq_p rfl rfl) (by exact rq_p rfl rfl) (by omega)) ?_) <;> (refine rd_u (by exact rfl) (by exact rfl) (ap_load_pt (by exact rq_p rfl rfl) (by exact rfl) (by omega) (by exact rfl)) ?_) <;> (refine rd_u (by exact rfl) (by exact rfl) (ap_move (by exact rq_p rfl rfl)) ?_) <;> (refine rd_u (by exact rfl) (by exact rfl) (ap_build (RqP.cons (by exact rq_p rfl rfl) (RqP.cons (by exact rq_p rfl rfl) (RqP.cons (by exact rq_p rfl rfl) (RqP.cons (by exact rq_p rfl rfl) (RqP.nil))))) (by exact rfl)) ?_) <;> (refine rd_u (by exact rfl) (by exact rfl) (ap_move (by exact rq_p rfl rfl)) ?_) <;> (refine rd_store_b (by exact rfl) (by exact rfl) (by exact rfl) (by exact rfl) ?_) <;> (refine rd_u (by exact rfl) (by exact rfl) (ap_assign (by exact rq_p rfl rfl)) ?_) <;> (refine rd_u (by exact rfl) (by exact rfl) (ap_assign (by exact rq_p rfl rfl)) ?_) <;> (refine rd_end (by kernel_rfl) ?_))))
      rw [reduceA_0 hval hpr, hU, ← hnv]
      exact ret_many (xs := [.agg [.ref 9 1 0 (g.terms.map strA).length, .ref 3 1 0 (namesTo g use g.nonterms.length).length, intA (nth (numArr use g.nonterms.length g.nonterms.length) g.start.toNat), .ref 4 3 0 (rulesTo g (prodG g) use g.rules.length).length], .ref 5 1 0 (fromTo g (prodG g) use g.rules.length).length, .val (.int .i64 0)]) (.cellT (by exact rfl) (by exact rfl) (by exact rfl) (by exact rfl) (.tmp (by exact rfl) (.tmp (by exact rfl) .nil))) (by simp) (by repeat' first | exact FzL.nil | refine FzL.cons ?_ ?_ | (exact Fz.list (by exact rfl) (by first | exact rfl | simp_all) (fun _ => by simp [AV.bd, bdL, bdL_append]) (fun _ => rfl)) | (exact Fz.reflp (by simp [AV.bd, bdL, bdL_append])) | refine Fz.aggL ?_)
  · have hv0 : validG g = false := by simpa using hval
    (repeat' (first | refine WP.seq ?_ | refine go_n ?_ | refine WP.skip ?_ | refine WP.ret ?_ | refine go_r ?_ | refine bo_r ?_ | (refine wp_cond (by exact rfl) (fun hc => ?_) (fun hc => ?_) <;> (try simp only [decide_eq_true_eq, decide_eq_false_iff_not, Decidable.not_not, Bool.and_eq_true, Bool.or_eq_true, Bool.not_eq_true', Bool.not_eq_false', Bool.or_eq_false_iff, Bool.and_eq_false_iff, Int.not_lt, Int.not_le, reduceCtorEq, ne_eq, Bool.not_true, Bool.not_false, Bool.not_eq_true, Bool.not_eq_false] at hc) <;> (try (exfalso; omega))) | (refine WP.regionC (id := 0) ?_; (refine se_box (by exact rfl) (by exact ⟨rfl, rfl⟩) ?_); (refine se_alloc (by exact rfl) ?_); (refine su (ap_assign (by exact rq_p rfl rfl)) ?_); (refine su (ap_assign (by exact rq_p rfl rfl)) ?_); refine asemC_end ?_) | (refine WP.regionC (id := 1) ?_; (refine su (ap_load_pw (by exact rq_p rfl rfl) (by exact rfl) (by exact rfl) (by exact rfl)) ?_); (refine sc_p rfl rfl (by repeat' first | exact SubL.nil | refine SubL.cons ?_ ?_ | exact Sub.refl) (by (simp [bdL, bdL_append, AV.bd]; done)) (rvalid_fn _) ?_); (refine su (ap_not (by exact rq_p rfl rfl)) ?_); refine asemC_end ?_) | (refine WP.regionC (id := 2) ?_; (refine su (ap_build (RqP.nil) (by exact rfl)) ?_); (refine se_store_b (by exact rfl) (by exact rfl) (by exact rfl) (by exact rfl) ?_); (refine su (ap_assign (by exact rq_p rfl rfl)) ?_); (refine su (ap_assign (by exact rq_p rfl rfl)) ?_); refine asemC_end ?_)))
    · rw [reduceA_1 hv0]
      exact ret_many (.cellT (by exact rfl) (by exact rfl) (by exact rfl) (by exact rfl) (.tmp (by exact rfl) (.tmp (by exact rfl) .nil))) (by decide) (by repeat' first | exact FzL.nil | refine FzL.cons ?_ ?_ | exact Fz.nil | (exact Fz.reflp (by simp [AV.bd, bdL, bdL_append])) | refine Fz.aggL ?_)
    · rw [hv0] at hc; cases hc
end Go.Lg
