/-
  Part 8 of the proof of GrammarfileInjectiveCard: the logic over the model, the functions' contracts and the plain laws.
-/
import Derived.Test.YteipbjbnlleheaaDoorKj7
import Derived.Test.YteipbjbnlleheaaDoorChecked

set_option linter.unusedSimpArgs false
set_option linter.unusedVariables false
set_option linter.unusedSectionVars false

namespace Go.Lg
open Go.Proofs
section
theorem mixed : Tryd.prog.follows .mixedOrders = true := by kernel_rfl
theorem ti2 : tinfo Tryd.prog 2 = some ⟨false, 1, 8, [.int .i64 0], none, [], some .i64, false, .int⟩ := by kernel_rfl
instance tc2 : TIc Tryd.prog 2 ⟨false, 1, 8, [.int .i64 0], none, [], some .i64, false, .int⟩ := ⟨ti2⟩
instance ts2 : TSz Tryd.prog 2 1 8 := ⟨fun ti h => by rw [ti2] at h; injection h with h; rw [← h], fun ti h => by rw [ti2] at h; injection h with h; rw [← h]⟩
theorem ti3 : tinfo Tryd.prog 3 = some ⟨false, 1, 8, [.int .i64 0], none, [], some .i64, false, .int⟩ := by kernel_rfl
instance tc3 : TIc Tryd.prog 3 ⟨false, 1, 8, [.int .i64 0], none, [], some .i64, false, .int⟩ := ⟨ti3⟩
instance ts3 : TSz Tryd.prog 3 1 8 := ⟨fun ti h => by rw [ti3] at h; injection h with h; rw [← h], fun ti h => by rw [ti3] at h; injection h with h; rw [← h]⟩
theorem ti4 : tinfo Tryd.prog 4 = some ⟨false, 1, 1, [.bool false], none, [], none, false, .other⟩ := by kernel_rfl
instance tc4 : TIc Tryd.prog 4 ⟨false, 1, 1, [.bool false], none, [], none, false, .other⟩ := ⟨ti4⟩
instance ts4 : TSz Tryd.prog 4 1 1 := ⟨fun ti h => by rw [ti4] at h; injection h with h; rw [← h], fun ti h => by rw [ti4] at h; injection h with h; rw [← h]⟩
theorem ti5 : tinfo Tryd.prog 5 = some ⟨false, 1, 1, [.int .u8 0], none, [], some .u8, false, .int⟩ := by kernel_rfl
instance tc5 : TIc Tryd.prog 5 ⟨false, 1, 1, [.int .u8 0], none, [], some .u8, false, .int⟩ := ⟨ti5⟩
instance ts5 : TSz Tryd.prog 5 1 1 := ⟨fun ti h => by rw [ti5] at h; injection h with h; rw [← h], fun ti h => by rw [ti5] at h; injection h with h; rw [← h]⟩
theorem ti6 : tinfo Tryd.prog 6 = some ⟨false, 1, 1, [.int .u8 0], none, [], some .u8, false, .int⟩ := by kernel_rfl
instance tc6 : TIc Tryd.prog 6 ⟨false, 1, 1, [.int .u8 0], none, [], some .u8, false, .int⟩ := ⟨ti6⟩
instance ts6 : TSz Tryd.prog 6 1 1 := ⟨fun ti h => by rw [ti6] at h; injection h with h; rw [← h], fun ti h => by rw [ti6] at h; injection h with h; rw [← h]⟩
theorem ti7 : tinfo Tryd.prog 7 = some ⟨true, 4, 24, [.int .i64 0, .int .i64 0, .bool false, .int .u8 0], none, [(0, 1), (1, 1), (2, 1), (3, 1)], none, true, .other⟩ := by kernel_rfl
instance tc7 : TIc Tryd.prog 7 ⟨true, 4, 24, [.int .i64 0, .int .i64 0, .bool false, .int .u8 0], none, [(0, 1), (1, 1), (2, 1), (3, 1)], none, true, .other⟩ := ⟨ti7⟩
instance ts7 : TSz Tryd.prog 7 4 24 := ⟨fun ti h => by rw [ti7] at h; injection h with h; rw [← h], fun ti h => by rw [ti7] at h; injection h with h; rw [← h]⟩
theorem ti8 : tinfo Tryd.prog 8 = some ⟨true, 4, 24, [.int .i64 0, .int .i64 0, .bool false, .int .u8 0], none, [(0, 1), (1, 1), (2, 1), (3, 1)], none, true, .other⟩ := by kernel_rfl
instance tc8 : TIc Tryd.prog 8 ⟨true, 4, 24, [.int .i64 0, .int .i64 0, .bool false, .int .u8 0], none, [(0, 1), (1, 1), (2, 1), (3, 1)], none, true, .other⟩ := ⟨ti8⟩
instance ts8 : TSz Tryd.prog 8 4 24 := ⟨fun ti h => by rw [ti8] at h; injection h with h; rw [← h], fun ti h => by rw [ti8] at h; injection h with h; rw [← h]⟩
theorem ti9 : tinfo Tryd.prog 9 = some ⟨false, 1, 16, [.string ⟨#[]⟩], none, [], none, false, .string⟩ := by kernel_rfl
instance tc9 : TIc Tryd.prog 9 ⟨false, 1, 16, [.string ⟨#[]⟩], none, [], none, false, .string⟩ := ⟨ti9⟩
instance ts9 : TSz Tryd.prog 9 1 16 := ⟨fun ti h => by rw [ti9] at h; injection h with h; rw [← h], fun ti h => by rw [ti9] at h; injection h with h; rw [← h]⟩
theorem ti10 : tinfo Tryd.prog 10 = some ⟨false, 1, 16, [.string ⟨#[]⟩], none, [], none, false, .string⟩ := by kernel_rfl
instance tc10 : TIc Tryd.prog 10 ⟨false, 1, 16, [.string ⟨#[]⟩], none, [], none, false, .string⟩ := ⟨ti10⟩
instance ts10 : TSz Tryd.prog 10 1 16 := ⟨fun ti h => by rw [ti10] at h; injection h with h; rw [← h], fun ti h => by rw [ti10] at h; injection h with h; rw [← h]⟩
theorem ti11 : tinfo Tryd.prog 11 = some ⟨false, 1, 16, [.string ⟨#[]⟩], none, [], none, false, .string⟩ := by kernel_rfl
instance tc11 : TIc Tryd.prog 11 ⟨false, 1, 16, [.string ⟨#[]⟩], none, [], none, false, .string⟩ := ⟨ti11⟩
instance ts11 : TSz Tryd.prog 11 1 16 := ⟨fun ti h => by rw [ti11] at h; injection h with h; rw [← h], fun ti h => by rw [ti11] at h; injection h with h; rw [← h]⟩
theorem ti12 : tinfo Tryd.prog 12 = some ⟨false, 1, 8, [.int .u64 0], none, [], some .u64, false, .int⟩ := by kernel_rfl
instance tc12 : TIc Tryd.prog 12 ⟨false, 1, 8, [.int .u64 0], none, [], some .u64, false, .int⟩ := ⟨ti12⟩
instance ts12 : TSz Tryd.prog 12 1 8 := ⟨fun ti h => by rw [ti12] at h; injection h with h; rw [← h], fun ti h => by rw [ti12] at h; injection h with h; rw [← h]⟩
theorem ti13 : tinfo Tryd.prog 13 = some ⟨true, 2, 24, [.string ⟨#[]⟩, .int .u64 0], none, [(0, 1), (1, 1)], none, true, .other⟩ := by kernel_rfl
instance tc13 : TIc Tryd.prog 13 ⟨true, 2, 24, [.string ⟨#[]⟩, .int .u64 0], none, [(0, 1), (1, 1)], none, true, .other⟩ := ⟨ti13⟩
instance ts13 : TSz Tryd.prog 13 2 24 := ⟨fun ti h => by rw [ti13] at h; injection h with h; rw [← h], fun ti h => by rw [ti13] at h; injection h with h; rw [← h]⟩
theorem ti14 : tinfo Tryd.prog 14 = some ⟨true, 2, 24, [.string ⟨#[]⟩, .int .u64 0], none, [(0, 1), (1, 1)], none, true, .other⟩ := by kernel_rfl
instance tc14 : TIc Tryd.prog 14 ⟨true, 2, 24, [.string ⟨#[]⟩, .int .u64 0], none, [(0, 1), (1, 1)], none, true, .other⟩ := ⟨ti14⟩
instance ts14 : TSz Tryd.prog 14 2 24 := ⟨fun ti h => by rw [ti14] at h; injection h with h; rw [← h], fun ti h => by rw [ti14] at h; injection h with h; rw [← h]⟩
theorem ti15 : tinfo Tryd.prog 15 = some ⟨false, 1, 8, [.pointer none], none, [], none, false, .other⟩ := by kernel_rfl
instance tc15 : TIc Tryd.prog 15 ⟨false, 1, 8, [.pointer none], none, [], none, false, .other⟩ := ⟨ti15⟩
instance ts15 : TSz Tryd.prog 15 1 8 := ⟨fun ti h => by rw [ti15] at h; injection h with h; rw [← h], fun ti h => by rw [ti15] at h; injection h with h; rw [← h]⟩
theorem ti16 : tinfo Tryd.prog 16 = some ⟨false, 1, 8, [.pointer none], none, [], none, false, .other⟩ := by kernel_rfl
instance tc16 : TIc Tryd.prog 16 ⟨false, 1, 8, [.pointer none], none, [], none, false, .other⟩ := ⟨ti16⟩
instance ts16 : TSz Tryd.prog 16 1 8 := ⟨fun ti h => by rw [ti16] at h; injection h with h; rw [← h], fun ti h => by rw [ti16] at h; injection h with h; rw [← h]⟩
theorem ti17 : tinfo Tryd.prog 17 = some ⟨false, 1, 8, [.pointer none], none, [], none, false, .other⟩ := by kernel_rfl
instance tc17 : TIc Tryd.prog 17 ⟨false, 1, 8, [.pointer none], none, [], none, false, .other⟩ := ⟨ti17⟩
instance ts17 : TSz Tryd.prog 17 1 8 := ⟨fun ti h => by rw [ti17] at h; injection h with h; rw [← h], fun ti h => by rw [ti17] at h; injection h with h; rw [← h]⟩
theorem ti18 : tinfo Tryd.prog 18 = some ⟨true, 1, 8, [.pointer none], none, [(0, 1)], none, true, .other⟩ := by kernel_rfl
instance tc18 : TIc Tryd.prog 18 ⟨true, 1, 8, [.pointer none], none, [(0, 1)], none, true, .other⟩ := ⟨ti18⟩
instance ts18 : TSz Tryd.prog 18 1 8 := ⟨fun ti h => by rw [ti18] at h; injection h with h; rw [← h], fun ti h => by rw [ti18] at h; injection h with h; rw [← h]⟩
theorem ti19 : tinfo Tryd.prog 19 = some ⟨true, 1, 8, [.pointer none], none, [(0, 1)], none, true, .other⟩ := by kernel_rfl
instance tc19 : TIc Tryd.prog 19 ⟨true, 1, 8, [.pointer none], none, [(0, 1)], none, true, .other⟩ := ⟨ti19⟩
instance ts19 : TSz Tryd.prog 19 1 8 := ⟨fun ti h => by rw [ti19] at h; injection h with h; rw [← h], fun ti h => by rw [ti19] at h; injection h with h; rw [← h]⟩
theorem ti21 : tinfo Tryd.prog 21 = some ⟨false, 1, 4, [.int .i32 0], none, [], some .i32, false, .int⟩ := by kernel_rfl
instance tc21 : TIc Tryd.prog 21 ⟨false, 1, 4, [.int .i32 0], none, [], some .i32, false, .int⟩ := ⟨ti21⟩
instance ts21 : TSz Tryd.prog 21 1 4 := ⟨fun ti h => by rw [ti21] at h; injection h with h; rw [← h], fun ti h => by rw [ti21] at h; injection h with h; rw [← h]⟩
theorem ti22 : tinfo Tryd.prog 22 = some ⟨false, 1, 24, [.slice none 0 0], some 47, [], none, false, .slice⟩ := by kernel_rfl
instance tc22 : TIc Tryd.prog 22 ⟨false, 1, 24, [.slice none 0 0], some 47, [], none, false, .slice⟩ := ⟨ti22⟩
instance ts22 : TSz Tryd.prog 22 1 24 := ⟨fun ti h => by rw [ti22] at h; injection h with h; rw [← h], fun ti h => by rw [ti22] at h; injection h with h; rw [← h]⟩
theorem te22 : ∃ ti el, tinfo Tryd.prog 22 = some ti ∧ ti.elem = some el ∧ ti.sh = .slice ∧ tinfo Tryd.prog el = some ⟨true, 2, 32, [.int .i64 0, .slice none 0 0], none, [(0, 1), (1, 1)], none, true, .other⟩ ∧ TI.size ⟨true, 2, 32, [.int .i64 0, .slice none 0 0], none, [(0, 1), (1, 1)], none, true, .other⟩ = 2 ∧ TI.bytes ⟨true, 2, 32, [.int .i64 0, .slice none 0 0], none, [(0, 1), (1, 1)], none, true, .other⟩ = 32 := ⟨_, _, ti22, rfl, rfl, (by kernel_rfl : tinfo Tryd.prog 47 = some ⟨true, 2, 32, [.int .i64 0, .slice none 0 0], none, [(0, 1), (1, 1)], none, true, .other⟩), rfl, rfl⟩
instance tel22 : TEl Tryd.prog 22 ⟨true, 2, 32, [.int .i64 0, .slice none 0 0], none, [(0, 1), (1, 1)], none, true, .other⟩ 2 32 := ⟨te22⟩
theorem ti23 : tinfo Tryd.prog 23 = some ⟨false, 1, 24, [.slice none 0 0], some 41, [], none, false, .slice⟩ := by kernel_rfl
instance tc23 : TIc Tryd.prog 23 ⟨false, 1, 24, [.slice none 0 0], some 41, [], none, false, .slice⟩ := ⟨ti23⟩
instance ts23 : TSz Tryd.prog 23 1 24 := ⟨fun ti h => by rw [ti23] at h; injection h with h; rw [← h], fun ti h => by rw [ti23] at h; injection h with h; rw [← h]⟩
theorem te23 : ∃ ti el, tinfo Tryd.prog 23 = some ti ∧ ti.elem = some el ∧ ti.sh = .slice ∧ tinfo Tryd.prog el = some ⟨true, 2, 40, [.string ⟨#[]⟩, .slice none 0 0], none, [(0, 1), (1, 1)], none, true, .other⟩ ∧ TI.size ⟨true, 2, 40, [.string ⟨#[]⟩, .slice none 0 0], none, [(0, 1), (1, 1)], none, true, .other⟩ = 2 ∧ TI.bytes ⟨true, 2, 40, [.string ⟨#[]⟩, .slice none 0 0], none, [(0, 1), (1, 1)], none, true, .other⟩ = 40 := ⟨_, _, ti23, rfl, rfl, (by kernel_rfl : tinfo Tryd.prog 41 = some ⟨true, 2, 40, [.string ⟨#[]⟩, .slice none 0 0], none, [(0, 1), (1, 1)], none, true, .other⟩), rfl, rfl⟩
instance tel23 : TEl Tryd.prog 23 ⟨true, 2, 40, [.string ⟨#[]⟩, .slice none 0 0], none, [(0, 1), (1, 1)], none, true, .other⟩ 2 40 := ⟨te23⟩
theorem ti24 : tinfo Tryd.prog 24 = some ⟨true, 3, 64, [.string ⟨#[]⟩, .slice none 0 0, .slice none 0 0], none, [(0, 1), (1, 1), (2, 1)], none, true, .other⟩ := by kernel_rfl
instance tc24 : TIc Tryd.prog 24 ⟨true, 3, 64, [.string ⟨#[]⟩, .slice none 0 0, .slice none 0 0], none, [(0, 1), (1, 1), (2, 1)], none, true, .other⟩ := ⟨ti24⟩
instance ts24 : TSz Tryd.prog 24 3 64 := ⟨fun ti h => by rw [ti24] at h; injection h with h; rw [← h], fun ti h => by rw [ti24] at h; injection h with h; rw [← h]⟩
theorem ti25 : tinfo Tryd.prog 25 = some ⟨true, 3, 64, [.string ⟨#[]⟩, .slice none 0 0, .slice none 0 0], none, [(0, 1), (1, 1), (2, 1)], none, true, .other⟩ := by kernel_rfl
instance tc25 : TIc Tryd.prog 25 ⟨true, 3, 64, [.string ⟨#[]⟩, .slice none 0 0, .slice none 0 0], none, [(0, 1), (1, 1), (2, 1)], none, true, .other⟩ := ⟨ti25⟩
instance ts25 : TSz Tryd.prog 25 3 64 := ⟨fun ti h => by rw [ti25] at h; injection h with h; rw [← h], fun ti h => by rw [ti25] at h; injection h with h; rw [← h]⟩
theorem ti31 : tinfo Tryd.prog 31 = some ⟨false, 1, 24, [.slice none 0 0], some 33, [], none, false, .slice⟩ := by kernel_rfl
instance tc31 : TIc Tryd.prog 31 ⟨false, 1, 24, [.slice none 0 0], some 33, [], none, false, .slice⟩ := ⟨ti31⟩
instance ts31 : TSz Tryd.prog 31 1 24 := ⟨fun ti h => by rw [ti31] at h; injection h with h; rw [← h], fun ti h => by rw [ti31] at h; injection h with h; rw [← h]⟩
theorem te31 : ∃ ti el, tinfo Tryd.prog 31 = some ti ∧ ti.elem = some el ∧ ti.sh = .slice ∧ tinfo Tryd.prog el = some ⟨true, 3, 48, [.int .i64 0, .string ⟨#[]⟩, .slice none 0 0], none, [(0, 1), (1, 1), (2, 1)], none, true, .other⟩ ∧ TI.size ⟨true, 3, 48, [.int .i64 0, .string ⟨#[]⟩, .slice none 0 0], none, [(0, 1), (1, 1), (2, 1)], none, true, .other⟩ = 3 ∧ TI.bytes ⟨true, 3, 48, [.int .i64 0, .string ⟨#[]⟩, .slice none 0 0], none, [(0, 1), (1, 1), (2, 1)], none, true, .other⟩ = 48 := ⟨_, _, ti31, rfl, rfl, (by kernel_rfl : tinfo Tryd.prog 33 = some ⟨true, 3, 48, [.int .i64 0, .string ⟨#[]⟩, .slice none 0 0], none, [(0, 1), (1, 1), (2, 1)], none, true, .other⟩), rfl, rfl⟩
instance tel31 : TEl Tryd.prog 31 ⟨true, 3, 48, [.int .i64 0, .string ⟨#[]⟩, .slice none 0 0], none, [(0, 1), (1, 1), (2, 1)], none, true, .other⟩ 3 48 := ⟨te31⟩
theorem ti32 : tinfo Tryd.prog 32 = some ⟨true, 3, 48, [.int .i64 0, .string ⟨#[]⟩, .slice none 0 0], none, [(0, 1), (1, 1), (2, 1)], none, true, .other⟩ := by kernel_rfl
instance tc32 : TIc Tryd.prog 32 ⟨true, 3, 48, [.int .i64 0, .string ⟨#[]⟩, .slice none 0 0], none, [(0, 1), (1, 1), (2, 1)], none, true, .other⟩ := ⟨ti32⟩
instance ts32 : TSz Tryd.prog 32 3 48 := ⟨fun ti h => by rw [ti32] at h; injection h with h; rw [← h], fun ti h => by rw [ti32] at h; injection h with h; rw [← h]⟩
theorem ti33 : tinfo Tryd.prog 33 = some ⟨true, 3, 48, [.int .i64 0, .string ⟨#[]⟩, .slice none 0 0], none, [(0, 1), (1, 1), (2, 1)], none, true, .other⟩ := by kernel_rfl
instance tc33 : TIc Tryd.prog 33 ⟨true, 3, 48, [.int .i64 0, .string ⟨#[]⟩, .slice none 0 0], none, [(0, 1), (1, 1), (2, 1)], none, true, .other⟩ := ⟨ti33⟩
instance ts33 : TSz Tryd.prog 33 3 48 := ⟨fun ti h => by rw [ti33] at h; injection h with h; rw [← h], fun ti h => by rw [ti33] at h; injection h with h; rw [← h]⟩
theorem ti37 : tinfo Tryd.prog 37 = some ⟨true, 4, 56, [.int .i64 0, .string ⟨#[]⟩, .slice none 0 0, .int .i64 0], none, [(0, 3), (3, 1)], none, true, .other⟩ := by kernel_rfl
instance tc37 : TIc Tryd.prog 37 ⟨true, 4, 56, [.int .i64 0, .string ⟨#[]⟩, .slice none 0 0, .int .i64 0], none, [(0, 3), (3, 1)], none, true, .other⟩ := ⟨ti37⟩
instance ts37 : TSz Tryd.prog 37 4 56 := ⟨fun ti h => by rw [ti37] at h; injection h with h; rw [← h], fun ti h => by rw [ti37] at h; injection h with h; rw [← h]⟩
theorem ti38 : tinfo Tryd.prog 38 = some ⟨true, 4, 56, [.int .i64 0, .string ⟨#[]⟩, .slice none 0 0, .int .i64 0], none, [(0, 3), (3, 1)], none, true, .other⟩ := by kernel_rfl
instance tc38 : TIc Tryd.prog 38 ⟨true, 4, 56, [.int .i64 0, .string ⟨#[]⟩, .slice none 0 0, .int .i64 0], none, [(0, 3), (3, 1)], none, true, .other⟩ := ⟨ti38⟩
instance ts38 : TSz Tryd.prog 38 4 56 := ⟨fun ti h => by rw [ti38] at h; injection h with h; rw [← h], fun ti h => by rw [ti38] at h; injection h with h; rw [← h]⟩
theorem ti39 : tinfo Tryd.prog 39 = some ⟨false, 1, 24, [.slice none 0 0], some 38, [], none, false, .slice⟩ := by kernel_rfl
instance tc39 : TIc Tryd.prog 39 ⟨false, 1, 24, [.slice none 0 0], some 38, [], none, false, .slice⟩ := ⟨ti39⟩
instance ts39 : TSz Tryd.prog 39 1 24 := ⟨fun ti h => by rw [ti39] at h; injection h with h; rw [← h], fun ti h => by rw [ti39] at h; injection h with h; rw [← h]⟩
theorem te39 : ∃ ti el, tinfo Tryd.prog 39 = some ti ∧ ti.elem = some el ∧ ti.sh = .slice ∧ tinfo Tryd.prog el = some ⟨true, 4, 56, [.int .i64 0, .string ⟨#[]⟩, .slice none 0 0, .int .i64 0], none, [(0, 3), (3, 1)], none, true, .other⟩ ∧ TI.size ⟨true, 4, 56, [.int .i64 0, .string ⟨#[]⟩, .slice none 0 0, .int .i64 0], none, [(0, 3), (3, 1)], none, true, .other⟩ = 4 ∧ TI.bytes ⟨true, 4, 56, [.int .i64 0, .string ⟨#[]⟩, .slice none 0 0, .int .i64 0], none, [(0, 3), (3, 1)], none, true, .other⟩ = 56 := ⟨_, _, ti39, rfl, rfl, (by kernel_rfl : tinfo Tryd.prog 38 = some ⟨true, 4, 56, [.int .i64 0, .string ⟨#[]⟩, .slice none 0 0, .int .i64 0], none, [(0, 3), (3, 1)], none, true, .other⟩), rfl, rfl⟩
instance tel39 : TEl Tryd.prog 39 ⟨true, 4, 56, [.int .i64 0, .string ⟨#[]⟩, .slice none 0 0, .int .i64 0], none, [(0, 3), (3, 1)], none, true, .other⟩ 4 56 := ⟨te39⟩
theorem ti40 : tinfo Tryd.prog 40 = some ⟨true, 2, 40, [.string ⟨#[]⟩, .slice none 0 0], none, [(0, 1), (1, 1)], none, true, .other⟩ := by kernel_rfl
instance tc40 : TIc Tryd.prog 40 ⟨true, 2, 40, [.string ⟨#[]⟩, .slice none 0 0], none, [(0, 1), (1, 1)], none, true, .other⟩ := ⟨ti40⟩
instance ts40 : TSz Tryd.prog 40 2 40 := ⟨fun ti h => by rw [ti40] at h; injection h with h; rw [← h], fun ti h => by rw [ti40] at h; injection h with h; rw [← h]⟩
theorem ti41 : tinfo Tryd.prog 41 = some ⟨true, 2, 40, [.string ⟨#[]⟩, .slice none 0 0], none, [(0, 1), (1, 1)], none, true, .other⟩ := by kernel_rfl
instance tc41 : TIc Tryd.prog 41 ⟨true, 2, 40, [.string ⟨#[]⟩, .slice none 0 0], none, [(0, 1), (1, 1)], none, true, .other⟩ := ⟨ti41⟩
instance ts41 : TSz Tryd.prog 41 2 40 := ⟨fun ti h => by rw [ti41] at h; injection h with h; rw [← h], fun ti h => by rw [ti41] at h; injection h with h; rw [← h]⟩
theorem ti44 : tinfo Tryd.prog 44 = some ⟨false, 1, 24, [.slice none 0 0], some 9, [], none, false, .slice⟩ := by kernel_rfl
instance tc44 : TIc Tryd.prog 44 ⟨false, 1, 24, [.slice none 0 0], some 9, [], none, false, .slice⟩ := ⟨ti44⟩
instance ts44 : TSz Tryd.prog 44 1 24 := ⟨fun ti h => by rw [ti44] at h; injection h with h; rw [← h], fun ti h => by rw [ti44] at h; injection h with h; rw [← h]⟩
theorem te44 : ∃ ti el, tinfo Tryd.prog 44 = some ti ∧ ti.elem = some el ∧ ti.sh = .slice ∧ tinfo Tryd.prog el = some ⟨false, 1, 16, [.string ⟨#[]⟩], none, [], none, false, .string⟩ ∧ TI.size ⟨false, 1, 16, [.string ⟨#[]⟩], none, [], none, false, .string⟩ = 1 ∧ TI.bytes ⟨false, 1, 16, [.string ⟨#[]⟩], none, [], none, false, .string⟩ = 16 := ⟨_, _, ti44, rfl, rfl, (by kernel_rfl : tinfo Tryd.prog 9 = some ⟨false, 1, 16, [.string ⟨#[]⟩], none, [], none, false, .string⟩), rfl, rfl⟩
instance tel44 : TEl Tryd.prog 44 ⟨false, 1, 16, [.string ⟨#[]⟩], none, [], none, false, .string⟩ 1 16 := ⟨te44⟩
theorem ti46 : tinfo Tryd.prog 46 = some ⟨true, 2, 32, [.int .i64 0, .slice none 0 0], none, [(0, 1), (1, 1)], none, true, .other⟩ := by kernel_rfl
instance tc46 : TIc Tryd.prog 46 ⟨true, 2, 32, [.int .i64 0, .slice none 0 0], none, [(0, 1), (1, 1)], none, true, .other⟩ := ⟨ti46⟩
instance ts46 : TSz Tryd.prog 46 2 32 := ⟨fun ti h => by rw [ti46] at h; injection h with h; rw [← h], fun ti h => by rw [ti46] at h; injection h with h; rw [← h]⟩
theorem ti47 : tinfo Tryd.prog 47 = some ⟨true, 2, 32, [.int .i64 0, .slice none 0 0], none, [(0, 1), (1, 1)], none, true, .other⟩ := by kernel_rfl
instance tc47 : TIc Tryd.prog 47 ⟨true, 2, 32, [.int .i64 0, .slice none 0 0], none, [(0, 1), (1, 1)], none, true, .other⟩ := ⟨ti47⟩
instance ts47 : TSz Tryd.prog 47 2 32 := ⟨fun ti h => by rw [ti47] at h; injection h with h; rw [← h], fun ti h => by rw [ti47] at h; injection h with h; rw [← h]⟩
theorem ti61 : tinfo Tryd.prog 61 = some ⟨false, 1, 8, [.pointer none], none, [], none, false, .other⟩ := by kernel_rfl
instance tc61 : TIc Tryd.prog 61 ⟨false, 1, 8, [.pointer none], none, [], none, false, .other⟩ := ⟨ti61⟩
instance ts61 : TSz Tryd.prog 61 1 8 := ⟨fun ti h => by rw [ti61] at h; injection h with h; rw [← h], fun ti h => by rw [ti61] at h; injection h with h; rw [← h]⟩
theorem ti62 : tinfo Tryd.prog 62 = some ⟨false, 1, 24, [.slice none 0 0], some 5, [], none, false, .slice⟩ := by kernel_rfl
instance tc62 : TIc Tryd.prog 62 ⟨false, 1, 24, [.slice none 0 0], some 5, [], none, false, .slice⟩ := ⟨ti62⟩
instance ts62 : TSz Tryd.prog 62 1 24 := ⟨fun ti h => by rw [ti62] at h; injection h with h; rw [← h], fun ti h => by rw [ti62] at h; injection h with h; rw [← h]⟩
theorem te62 : ∃ ti el, tinfo Tryd.prog 62 = some ti ∧ ti.elem = some el ∧ ti.sh = .slice ∧ tinfo Tryd.prog el = some ⟨false, 1, 1, [.int .u8 0], none, [], some .u8, false, .int⟩ ∧ TI.size ⟨false, 1, 1, [.int .u8 0], none, [], some .u8, false, .int⟩ = 1 ∧ TI.bytes ⟨false, 1, 1, [.int .u8 0], none, [], some .u8, false, .int⟩ = 1 := ⟨_, _, ti62, rfl, rfl, (by kernel_rfl : tinfo Tryd.prog 5 = some ⟨false, 1, 1, [.int .u8 0], none, [], some .u8, false, .int⟩), rfl, rfl⟩
instance tel62 : TEl Tryd.prog 62 ⟨false, 1, 1, [.int .u8 0], none, [], some .u8, false, .int⟩ 1 1 := ⟨te62⟩
theorem ti63 : tinfo Tryd.prog 63 = some ⟨true, 2, 32, [.pointer none, .slice none 0 0], none, [(0, 1), (1, 1)], none, true, .other⟩ := by kernel_rfl
instance tc63 : TIc Tryd.prog 63 ⟨true, 2, 32, [.pointer none, .slice none 0 0], none, [(0, 1), (1, 1)], none, true, .other⟩ := ⟨ti63⟩
instance ts63 : TSz Tryd.prog 63 2 32 := ⟨fun ti h => by rw [ti63] at h; injection h with h; rw [← h], fun ti h => by rw [ti63] at h; injection h with h; rw [← h]⟩
theorem ti64 : tinfo Tryd.prog 64 = some ⟨true, 2, 32, [.pointer none, .slice none 0 0], none, [(0, 1), (1, 1)], none, true, .other⟩ := by kernel_rfl
instance tc64 : TIc Tryd.prog 64 ⟨true, 2, 32, [.pointer none, .slice none 0 0], none, [(0, 1), (1, 1)], none, true, .other⟩ := ⟨ti64⟩
instance ts64 : TSz Tryd.prog 64 2 32 := ⟨fun ti h => by rw [ti64] at h; injection h with h; rw [← h], fun ti h => by rw [ti64] at h; injection h with h; rw [← h]⟩
theorem ti65 : tinfo Tryd.prog 65 = some ⟨true, 2, 32, [.pointer none, .slice none 0 0], none, [(0, 2)], none, true, .other⟩ := by kernel_rfl
instance tc65 : TIc Tryd.prog 65 ⟨true, 2, 32, [.pointer none, .slice none 0 0], none, [(0, 2)], none, true, .other⟩ := ⟨ti65⟩
instance ts65 : TSz Tryd.prog 65 2 32 := ⟨fun ti h => by rw [ti65] at h; injection h with h; rw [← h], fun ti h => by rw [ti65] at h; injection h with h; rw [← h]⟩
theorem ti66 : tinfo Tryd.prog 66 = some ⟨true, 2, 32, [.pointer none, .slice none 0 0], none, [(0, 2)], none, true, .other⟩ := by kernel_rfl
instance tc66 : TIc Tryd.prog 66 ⟨true, 2, 32, [.pointer none, .slice none 0 0], none, [(0, 2)], none, true, .other⟩ := ⟨ti66⟩
instance ts66 : TSz Tryd.prog 66 2 32 := ⟨fun ti h => by rw [ti66] at h; injection h with h; rw [← h], fun ti h => by rw [ti66] at h; injection h with h; rw [← h]⟩
theorem ti82 : tinfo Tryd.prog 82 = some ⟨false, 1, 8, [.pointer none], none, [], none, false, .other⟩ := by kernel_rfl
instance tc82 : TIc Tryd.prog 82 ⟨false, 1, 8, [.pointer none], none, [], none, false, .other⟩ := ⟨ti82⟩
instance ts82 : TSz Tryd.prog 82 1 8 := ⟨fun ti h => by rw [ti82] at h; injection h with h; rw [← h], fun ti h => by rw [ti82] at h; injection h with h; rw [← h]⟩
theorem ti85 : tinfo Tryd.prog 85 = some ⟨false, 1, 8, [.pointer none], none, [], none, false, .other⟩ := by kernel_rfl
instance tc85 : TIc Tryd.prog 85 ⟨false, 1, 8, [.pointer none], none, [], none, false, .other⟩ := ⟨ti85⟩
instance ts85 : TSz Tryd.prog 85 1 8 := ⟨fun ti h => by rw [ti85] at h; injection h with h; rw [← h], fun ti h => by rw [ti85] at h; injection h with h; rw [← h]⟩
theorem ti97 : tinfo Tryd.prog 97 = some ⟨true, 24, 24, [.int .u8 0, .int .u8 0, .int .u8 0, .int .u8 0, .int .u8 0, .int .u8 0, .int .u8 0, .int .u8 0, .int .u8 0, .int .u8 0, .int .u8 0, .int .u8 0, .int .u8 0, .int .u8 0, .int .u8 0, .int .u8 0, .int .u8 0, .int .u8 0, .int .u8 0, .int .u8 0, .int .u8 0, .int .u8 0, .int .u8 0, .int .u8 0], none, [], none, false, .other⟩ := by kernel_rfl
instance tc97 : TIc Tryd.prog 97 ⟨true, 24, 24, [.int .u8 0, .int .u8 0, .int .u8 0, .int .u8 0, .int .u8 0, .int .u8 0, .int .u8 0, .int .u8 0, .int .u8 0, .int .u8 0, .int .u8 0, .int .u8 0, .int .u8 0, .int .u8 0, .int .u8 0, .int .u8 0, .int .u8 0, .int .u8 0, .int .u8 0, .int .u8 0, .int .u8 0, .int .u8 0, .int .u8 0, .int .u8 0], none, [], none, false, .other⟩ := ⟨ti97⟩
instance ts97 : TSz Tryd.prog 97 24 24 := ⟨fun ti h => by rw [ti97] at h; injection h with h; rw [← h], fun ti h => by rw [ti97] at h; injection h with h; rw [← h]⟩
theorem ti98 : tinfo Tryd.prog 98 = some ⟨false, 1, 8, [.int .u64 0], none, [], some .u64, false, .int⟩ := by kernel_rfl
instance tc98 : TIc Tryd.prog 98 ⟨false, 1, 8, [.int .u64 0], none, [], some .u64, false, .int⟩ := ⟨ti98⟩
instance ts98 : TSz Tryd.prog 98 1 8 := ⟨fun ti h => by rw [ti98] at h; injection h with h; rw [← h], fun ti h => by rw [ti98] at h; injection h with h; rw [← h]⟩
theorem ti105 : tinfo Tryd.prog 105 = some ⟨true, 20, 160, [.int .u64 0, .int .u64 0, .int .u64 0, .int .u64 0, .int .u64 0, .int .u64 0, .int .u64 0, .int .u64 0, .int .u64 0, .int .u64 0, .int .u64 0, .int .u64 0, .int .u64 0, .int .u64 0, .int .u64 0, .int .u64 0, .int .u64 0, .int .u64 0, .int .u64 0, .int .u64 0], none, [], none, false, .other⟩ := by kernel_rfl
instance tc105 : TIc Tryd.prog 105 ⟨true, 20, 160, [.int .u64 0, .int .u64 0, .int .u64 0, .int .u64 0, .int .u64 0, .int .u64 0, .int .u64 0, .int .u64 0, .int .u64 0, .int .u64 0, .int .u64 0, .int .u64 0, .int .u64 0, .int .u64 0, .int .u64 0, .int .u64 0, .int .u64 0, .int .u64 0, .int .u64 0, .int .u64 0], none, [], none, false, .other⟩ := ⟨ti105⟩
instance ts105 : TSz Tryd.prog 105 20 160 := ⟨fun ti h => by rw [ti105] at h; injection h with h; rw [← h], fun ti h => by rw [ti105] at h; injection h with h; rw [← h]⟩
theorem ti106 : tinfo Tryd.prog 106 = some ⟨false, 1, 4, [.int .u32 0], none, [], some .u32, false, .int⟩ := by kernel_rfl
instance tc106 : TIc Tryd.prog 106 ⟨false, 1, 4, [.int .u32 0], none, [], some .u32, false, .int⟩ := ⟨ti106⟩
instance ts106 : TSz Tryd.prog 106 1 4 := ⟨fun ti h => by rw [ti106] at h; injection h with h; rw [← h], fun ti h => by rw [ti106] at h; injection h with h; rw [← h]⟩
theorem ti107 : tinfo Tryd.prog 107 = some ⟨true, 65, 65, [.int .u8 0, .int .u8 0, .int .u8 0, .int .u8 0, .int .u8 0, .int .u8 0, .int .u8 0, .int .u8 0, .int .u8 0, .int .u8 0, .int .u8 0, .int .u8 0, .int .u8 0, .int .u8 0, .int .u8 0, .int .u8 0, .int .u8 0, .int .u8 0, .int .u8 0, .int .u8 0, .int .u8 0, .int .u8 0, .int .u8 0, .int .u8 0, .int .u8 0, .int .u8 0, .int .u8 0, .int .u8 0, .int .u8 0, .int .u8 0, .int .u8 0, .int .u8 0, .int .u8 0, .int .u8 0, .int .u8 0, .int .u8 0, .int .u8 0, .int .u8 0, .int .u8 0, .int .u8 0, .int .u8 0, .int .u8 0, .int .u8 0, .int .u8 0, .int .u8 0, .int .u8 0, .int .u8 0, .int .u8 0, .int .u8 0, .int .u8 0, .int .u8 0, .int .u8 0, .int .u8 0, .int .u8 0, .int .u8 0, .int .u8 0, .int .u8 0, .int .u8 0, .int .u8 0, .int .u8 0, .int .u8 0, .int .u8 0, .int .u8 0, .int .u8 0, .int .u8 0], none, [], none, false, .other⟩ := by kernel_rfl
instance tc107 : TIc Tryd.prog 107 ⟨true, 65, 65, [.int .u8 0, .int .u8 0, .int .u8 0, .int .u8 0, .int .u8 0, .int .u8 0, .int .u8 0, .int .u8 0, .int .u8 0, .int .u8 0, .int .u8 0, .int .u8 0, .int .u8 0, .int .u8 0, .int .u8 0, .int .u8 0, .int .u8 0, .int .u8 0, .int .u8 0, .int .u8 0, .int .u8 0, .int .u8 0, .int .u8 0, .int .u8 0, .int .u8 0, .int .u8 0, .int .u8 0, .int .u8 0, .int .u8 0, .int .u8 0, .int .u8 0, .int .u8 0, .int .u8 0, .int .u8 0, .int .u8 0, .int .u8 0, .int .u8 0, .int .u8 0, .int .u8 0, .int .u8 0, .int .u8 0, .int .u8 0, .int .u8 0, .int .u8 0, .int .u8 0, .int .u8 0, .int .u8 0, .int .u8 0, .int .u8 0, .int .u8 0, .int .u8 0, .int .u8 0, .int .u8 0, .int .u8 0, .int .u8 0, .int .u8 0, .int .u8 0, .int .u8 0, .int .u8 0, .int .u8 0, .int .u8 0, .int .u8 0, .int .u8 0, .int .u8 0, .int .u8 0], none, [], none, false, .other⟩ := ⟨ti107⟩
instance ts107 : TSz Tryd.prog 107 65 65 := ⟨fun ti h => by rw [ti107] at h; injection h with h; rw [← h], fun ti h => by rw [ti107] at h; injection h with h; rw [← h]⟩
theorem ti109 : tinfo Tryd.prog 109 = some ⟨false, 1, 8, [.int .u64 0], none, [], some .u64, false, .int⟩ := by kernel_rfl
instance tc109 : TIc Tryd.prog 109 ⟨false, 1, 8, [.int .u64 0], none, [], some .u64, false, .int⟩ := ⟨ti109⟩
instance ts109 : TSz Tryd.prog 109 1 8 := ⟨fun ti h => by rw [ti109] at h; injection h with h; rw [← h], fun ti h => by rw [ti109] at h; injection h with h; rw [← h]⟩
theorem ti112 : tinfo Tryd.prog 112 = some ⟨true, 32, 32, [.int .u8 0, .int .u8 0, .int .u8 0, .int .u8 0, .int .u8 0, .int .u8 0, .int .u8 0, .int .u8 0, .int .u8 0, .int .u8 0, .int .u8 0, .int .u8 0, .int .u8 0, .int .u8 0, .int .u8 0, .int .u8 0, .int .u8 0, .int .u8 0, .int .u8 0, .int .u8 0, .int .u8 0, .int .u8 0, .int .u8 0, .int .u8 0, .int .u8 0, .int .u8 0, .int .u8 0, .int .u8 0, .int .u8 0, .int .u8 0, .int .u8 0, .int .u8 0], none, [], none, false, .other⟩ := by kernel_rfl
instance tc112 : TIc Tryd.prog 112 ⟨true, 32, 32, [.int .u8 0, .int .u8 0, .int .u8 0, .int .u8 0, .int .u8 0, .int .u8 0, .int .u8 0, .int .u8 0, .int .u8 0, .int .u8 0, .int .u8 0, .int .u8 0, .int .u8 0, .int .u8 0, .int .u8 0, .int .u8 0, .int .u8 0, .int .u8 0, .int .u8 0, .int .u8 0, .int .u8 0, .int .u8 0, .int .u8 0, .int .u8 0, .int .u8 0, .int .u8 0, .int .u8 0, .int .u8 0, .int .u8 0, .int .u8 0, .int .u8 0, .int .u8 0], none, [], none, false, .other⟩ := ⟨ti112⟩
instance ts112 : TSz Tryd.prog 112 32 32 := ⟨fun ti h => by rw [ti112] at h; injection h with h; rw [← h], fun ti h => by rw [ti112] at h; injection h with h; rw [← h]⟩
theorem ti113 : tinfo Tryd.prog 113 = some ⟨true, 64, 64, [.int .u8 0, .int .u8 0, .int .u8 0, .int .u8 0, .int .u8 0, .int .u8 0, .int .u8 0, .int .u8 0, .int .u8 0, .int .u8 0, .int .u8 0, .int .u8 0, .int .u8 0, .int .u8 0, .int .u8 0, .int .u8 0, .int .u8 0, .int .u8 0, .int .u8 0, .int .u8 0, .int .u8 0, .int .u8 0, .int .u8 0, .int .u8 0, .int .u8 0, .int .u8 0, .int .u8 0, .int .u8 0, .int .u8 0, .int .u8 0, .int .u8 0, .int .u8 0, .int .u8 0, .int .u8 0, .int .u8 0, .int .u8 0, .int .u8 0, .int .u8 0, .int .u8 0, .int .u8 0, .int .u8 0, .int .u8 0, .int .u8 0, .int .u8 0, .int .u8 0, .int .u8 0, .int .u8 0, .int .u8 0, .int .u8 0, .int .u8 0, .int .u8 0, .int .u8 0, .int .u8 0, .int .u8 0, .int .u8 0, .int .u8 0, .int .u8 0, .int .u8 0, .int .u8 0, .int .u8 0, .int .u8 0, .int .u8 0, .int .u8 0, .int .u8 0], none, [], none, false, .other⟩ := by kernel_rfl
instance tc113 : TIc Tryd.prog 113 ⟨true, 64, 64, [.int .u8 0, .int .u8 0, .int .u8 0, .int .u8 0, .int .u8 0, .int .u8 0, .int .u8 0, .int .u8 0, .int .u8 0, .int .u8 0, .int .u8 0, .int .u8 0, .int .u8 0, .int .u8 0, .int .u8 0, .int .u8 0, .int .u8 0, .int .u8 0, .int .u8 0, .int .u8 0, .int .u8 0, .int .u8 0, .int .u8 0, .int .u8 0, .int .u8 0, .int .u8 0, .int .u8 0, .int .u8 0, .int .u8 0, .int .u8 0, .int .u8 0, .int .u8 0, .int .u8 0, .int .u8 0, .int .u8 0, .int .u8 0, .int .u8 0, .int .u8 0, .int .u8 0, .int .u8 0, .int .u8 0, .int .u8 0, .int .u8 0, .int .u8 0, .int .u8 0, .int .u8 0, .int .u8 0, .int .u8 0, .int .u8 0, .int .u8 0, .int .u8 0, .int .u8 0, .int .u8 0, .int .u8 0, .int .u8 0, .int .u8 0, .int .u8 0, .int .u8 0, .int .u8 0, .int .u8 0, .int .u8 0, .int .u8 0, .int .u8 0, .int .u8 0], none, [], none, false, .other⟩ := ⟨ti113⟩
instance ts113 : TSz Tryd.prog 113 64 64 := ⟨fun ti h => by rw [ti113] at h; injection h with h; rw [← h], fun ti h => by rw [ti113] at h; injection h with h; rw [← h]⟩
theorem ti114 : tinfo Tryd.prog 114 = some ⟨true, 4, 40, [.pointer none, .pointer none, .pointer none, .string ⟨#[]⟩], none, [(0, 1), (1, 1), (2, 1), (3, 1)], none, true, .other⟩ := by kernel_rfl
instance tc114 : TIc Tryd.prog 114 ⟨true, 4, 40, [.pointer none, .pointer none, .pointer none, .string ⟨#[]⟩], none, [(0, 1), (1, 1), (2, 1), (3, 1)], none, true, .other⟩ := ⟨ti114⟩
instance ts114 : TSz Tryd.prog 114 4 40 := ⟨fun ti h => by rw [ti114] at h; injection h with h; rw [← h], fun ti h => by rw [ti114] at h; injection h with h; rw [← h]⟩
theorem ti115 : tinfo Tryd.prog 115 = some ⟨true, 4, 40, [.pointer none, .pointer none, .pointer none, .string ⟨#[]⟩], none, [(0, 1), (1, 1), (2, 1), (3, 1)], none, true, .other⟩ := by kernel_rfl
instance tc115 : TIc Tryd.prog 115 ⟨true, 4, 40, [.pointer none, .pointer none, .pointer none, .string ⟨#[]⟩], none, [(0, 1), (1, 1), (2, 1), (3, 1)], none, true, .other⟩ := ⟨ti115⟩
instance ts115 : TSz Tryd.prog 115 4 40 := ⟨fun ti h => by rw [ti115] at h; injection h with h; rw [← h], fun ti h => by rw [ti115] at h; injection h with h; rw [← h]⟩
theorem ti116 : tinfo Tryd.prog 116 = some ⟨true, 0, 0, [], none, [], none, false, .other⟩ := by kernel_rfl
instance tc116 : TIc Tryd.prog 116 ⟨true, 0, 0, [], none, [], none, false, .other⟩ := ⟨ti116⟩
instance ts116 : TSz Tryd.prog 116 0 0 := ⟨fun ti h => by rw [ti116] at h; injection h with h; rw [← h], fun ti h => by rw [ti116] at h; injection h with h; rw [← h]⟩
theorem ti117 : tinfo Tryd.prog 117 = some ⟨true, 0, 0, [], none, [(0, 0)], none, true, .other⟩ := by kernel_rfl
instance tc117 : TIc Tryd.prog 117 ⟨true, 0, 0, [], none, [(0, 0)], none, true, .other⟩ := ⟨ti117⟩
instance ts117 : TSz Tryd.prog 117 0 0 := ⟨fun ti h => by rw [ti117] at h; injection h with h; rw [← h], fun ti h => by rw [ti117] at h; injection h with h; rw [← h]⟩
theorem ti118 : tinfo Tryd.prog 118 = some ⟨true, 0, 0, [], none, [(0, 0)], none, true, .other⟩ := by kernel_rfl
instance tc118 : TIc Tryd.prog 118 ⟨true, 0, 0, [], none, [(0, 0)], none, true, .other⟩ := ⟨ti118⟩
instance ts118 : TSz Tryd.prog 118 0 0 := ⟨fun ti h => by rw [ti118] at h; injection h with h; rw [← h], fun ti h => by rw [ti118] at h; injection h with h; rw [← h]⟩
theorem ti120 : tinfo Tryd.prog 120 = some ⟨false, 1, 1, [.int .u8 0], none, [], some .u8, false, .int⟩ := by kernel_rfl
instance tc120 : TIc Tryd.prog 120 ⟨false, 1, 1, [.int .u8 0], none, [], some .u8, false, .int⟩ := ⟨ti120⟩
instance ts120 : TSz Tryd.prog 120 1 1 := ⟨fun ti h => by rw [ti120] at h; injection h with h; rw [← h], fun ti h => by rw [ti120] at h; injection h with h; rw [← h]⟩
theorem ti121 : tinfo Tryd.prog 121 = some ⟨false, 1, 1, [.int .u8 0], none, [], some .u8, false, .int⟩ := by kernel_rfl
instance tc121 : TIc Tryd.prog 121 ⟨false, 1, 1, [.int .u8 0], none, [], some .u8, false, .int⟩ := ⟨ti121⟩
instance ts121 : TSz Tryd.prog 121 1 1 := ⟨fun ti h => by rw [ti121] at h; injection h with h; rw [← h], fun ti h => by rw [ti121] at h; injection h with h; rw [← h]⟩
theorem ti123 : tinfo Tryd.prog 123 = some ⟨false, 1, 4, [.int .i32 0], none, [], some .i32, false, .int⟩ := by kernel_rfl
instance tc123 : TIc Tryd.prog 123 ⟨false, 1, 4, [.int .i32 0], none, [], some .i32, false, .int⟩ := ⟨ti123⟩
instance ts123 : TSz Tryd.prog 123 1 4 := ⟨fun ti h => by rw [ti123] at h; injection h with h; rw [← h], fun ti h => by rw [ti123] at h; injection h with h; rw [← h]⟩
theorem ti124 : tinfo Tryd.prog 124 = some ⟨false, 1, 4, [.int .i32 0], none, [], some .i32, false, .int⟩ := by kernel_rfl
instance tc124 : TIc Tryd.prog 124 ⟨false, 1, 4, [.int .i32 0], none, [], some .i32, false, .int⟩ := ⟨ti124⟩
instance ts124 : TSz Tryd.prog 124 1 4 := ⟨fun ti h => by rw [ti124] at h; injection h with h; rw [← h], fun ti h => by rw [ti124] at h; injection h with h; rw [← h]⟩
theorem ti125 : tinfo Tryd.prog 125 = some ⟨true, 11, 48, [.int .u64 0, .int .u64 0, .int .u32 0, .int .u8 0, .int .u8 0, .int .u8 0, .int .u8 0, .nilFunc, .pointer none, .int .i32 0, .int .i32 0], none, [(0, 1), (1, 1), (2, 1), (3, 1), (4, 1), (5, 1), (6, 1), (7, 1), (8, 1), (9, 1), (10, 1)], none, true, .other⟩ := by kernel_rfl
instance tc125 : TIc Tryd.prog 125 ⟨true, 11, 48, [.int .u64 0, .int .u64 0, .int .u32 0, .int .u8 0, .int .u8 0, .int .u8 0, .int .u8 0, .nilFunc, .pointer none, .int .i32 0, .int .i32 0], none, [(0, 1), (1, 1), (2, 1), (3, 1), (4, 1), (5, 1), (6, 1), (7, 1), (8, 1), (9, 1), (10, 1)], none, true, .other⟩ := ⟨ti125⟩
instance ts125 : TSz Tryd.prog 125 11 48 := ⟨fun ti h => by rw [ti125] at h; injection h with h; rw [← h], fun ti h => by rw [ti125] at h; injection h with h; rw [← h]⟩
theorem ti126 : tinfo Tryd.prog 126 = some ⟨true, 11, 48, [.int .u64 0, .int .u64 0, .int .u32 0, .int .u8 0, .int .u8 0, .int .u8 0, .int .u8 0, .nilFunc, .pointer none, .int .i32 0, .int .i32 0], none, [(0, 1), (1, 1), (2, 1), (3, 1), (4, 1), (5, 1), (6, 1), (7, 1), (8, 1), (9, 1), (10, 1)], none, true, .other⟩ := by kernel_rfl
instance tc126 : TIc Tryd.prog 126 ⟨true, 11, 48, [.int .u64 0, .int .u64 0, .int .u32 0, .int .u8 0, .int .u8 0, .int .u8 0, .int .u8 0, .nilFunc, .pointer none, .int .i32 0, .int .i32 0], none, [(0, 1), (1, 1), (2, 1), (3, 1), (4, 1), (5, 1), (6, 1), (7, 1), (8, 1), (9, 1), (10, 1)], none, true, .other⟩ := ⟨ti126⟩
instance ts126 : TSz Tryd.prog 126 11 48 := ⟨fun ti h => by rw [ti126] at h; injection h with h; rw [← h], fun ti h => by rw [ti126] at h; injection h with h; rw [← h]⟩
end
end Go.Lg

namespace Go.Lg
def intA (n : Int) : AV := .val (.int .i64 n)
def boolA (b : Bool) : AV := .val (.bool b)
def strA (s : ByteArray) : AV := .val (.string s)
def intsA (l : List Int) : AV := .sl 1 (l.map intA)
def boolsA (l : List Bool) : AV := .sl 1 (l.map boolA)
def strsA (l : List ByteArray) : AV := .sl 1 (l.map strA)
theorem decT {p : Prop} [Decidable p] (h : p) : decide p = true := decide_eq_true h
theorem decF {p : Prop} [Decidable p] (h : ¬ p) : decide p = false := decide_eq_false h
theorem getD_any (l : List AV) (i : Nat) : l.getD i .any = (l[i]?).getD .any := List.getD_eq_getElem?_getD
@[simp] theorem bd_intA (n : Nat) (x : Int) : (intA x).bd n = true := rfl
@[simp] theorem bd_boolA (n : Nat) (x : Bool) : (boolA x).bd n = true := rfl
@[simp] theorem bd_strA (n : Nat) (x : ByteArray) : (strA x).bd n = true := rfl
@[simp] theorem bd_intsA (n : Nat) (l : List Int) : (intsA l).bd n = true := bdL_map (fun _ => rfl) l
@[simp] theorem bd_boolsA (n : Nat) (l : List Bool) : (boolsA l).bd n = true := bdL_map (fun _ => rfl) l
@[simp] theorem bd_strsA (n : Nat) (l : List ByteArray) : (strsA l).bd n = true := bdL_map (fun _ => rfl) l
@[simp] theorem bdL_intA (n : Nat) (l : List Int) : bdL n (l.map intA) = true := bdL_map (fun _ => rfl) l
@[simp] theorem bdL_boolA (n : Nat) (l : List Bool) : bdL n (l.map boolA) = true := bdL_map (fun _ => rfl) l
@[simp] theorem bdL_strA (n : Nat) (l : List ByteArray) : bdL n (l.map strA) = true := bdL_map (fun _ => rfl) l
@[simp] theorem bdL_rep {n k : Nat} {x : AV} (h : x.bd n = true) : bdL n (List.replicate k x) = true := by
  rw [bdL_iff]; intro y hy; rw [(List.mem_replicate.1 hy).2]; exact h
@[simp] theorem bd_byteA (n : Nat) (x : UInt8) : (byteA x).bd n = true := rfl
@[simp] theorem bdL_byteA (n : Nat) (l : List UInt8) : bdL n (l.map byteA) = true := bdL_map (fun _ => rfl) l
theorem mapA_bd {κ α : Type} {kf : κ → Value} {f : α → AV} {n : Nat} (h : ∀ x, (f x).bd n = true) (m : List (κ × α)) : ∀ p, p ∈ mapA kf f m → p.2.bd n = true := by
  intro p hp
  obtain ⟨q, _, rfl⟩ := List.mem_map.1 hp
  exact h q.2
theorem mapA_all {κ α : Type} {kf : κ → Value} {f : α → AV} {n : Nat} (h : ∀ x, (f x).bd n = true) (m : List (κ × α)) : ((mapA kf f m).all fun p => p.2.bd n) = true := by
  rw [List.all_eq_true]; exact mapA_bd h m
section
variable {κ α : Type} [DecidableEq κ]
theorem afind_ge {k : κ} : ∀ {m : List (κ × α)} {i : Nat} {p : Nat × α}, afind k m i = some p → i ≤ p.1 ∧ m[p.1 - i]? = some (k, p.2)
  | [], _, _, h => by simp [afind] at h
  | q :: m, i, p, h => by
    simp only [afind] at h
    split at h
    · rename_i e; injection h with h; subst h; subst e; simp
    · have ih := afind_ge (m := m) h
      refine ⟨by omega, ?_⟩
      rw [show p.1 - i = (p.1 - (i + 1)) + 1 by omega]; simpa using ih.2
theorem afind_none {k : κ} : ∀ {m : List (κ × α)} {i : Nat}, afind k m i = none ↔ ∀ p, p ∈ m → p.1 ≠ k
  | [], _ => by simp [afind]
  | q :: m, i => by
    simp only [afind]
    split
    · rename_i e; subst e; simp
    · rename_i e
      rw [afind_none (m := m)]
      simp only [List.mem_cons, forall_eq_or_imp, ne_eq]
      exact ⟨fun h => ⟨fun h' => e h'.symm, h⟩, fun h => h.2⟩
theorem afind_app {k : κ} : ∀ {m m' : List (κ × α)} {i : Nat}, (∀ p, p ∈ m → p.1 ≠ k) → afind k (m ++ m') i = afind k m' (i + m.length)
  | [], _, _, _ => by simp
  | q :: m, m', i, h => by
    have h0 : ¬ k = q.1 := fun e => h q (by simp) e.symm
    simp only [List.cons_append, afind, if_neg h0]
    rw [afind_app (m := m) (fun p hp => h p (by simp [hp]))]
    simp only [List.length_cons]; congr 1; omega
theorem aget_none {m : List (κ × α)} {k : κ} : aget m k = none ↔ ∀ p, p ∈ m → p.1 ≠ k := by simp [aget, afind_none]
theorem aget_aset {m : List (κ × α)} {k x : κ} {v : α} : aget (aset m k v) x = if x = k then some v else aget m x := by
  unfold aset
  cases hf : afind k m 0 with
  | none =>
    rw [afind_none] at hf
    simp only
    by_cases e : x = k
    · subst e
      rw [if_pos rfl, aget, afind_app hf]; simp [afind]
    · rw [if_neg e]
      simp only [aget]
      have gen : ∀ (m : List (κ × α)) (i : Nat), (afind x (m ++ [(k, v)]) i).map (·.2) = (afind x m i).map (·.2) := by
        intro m
        induction m with
        | nil => intro i; simp [afind, e]
        | cons q m ih => intro i; simp only [List.cons_append, afind]; split
                         · rfl
                         · exact ih _
      exact gen m 0
  | some p =>
    obtain ⟨j, u⟩ := p
    obtain ⟨_, hj⟩ := afind_ge hf
    simp only [Nat.sub_zero] at hj
    simp only
    have gen : ∀ (m : List (κ × α)) (j i : Nat), m[j]? = some (k, u) → (∀ n, n < j → ∀ q, m[n]? = some q → q.1 ≠ k) → (afind x (m.set j (k, v)) i).map (·.2) = if x = k then some v else (afind x m i).map (·.2) := by
      intro m
      induction m with
      | nil => intro j i h; simp at h
      | cons q m ih =>
        intro j i h hn
        cases j with
        | zero =>
          simp at h; subst h
          simp only [List.set_cons_zero, afind]
          by_cases e : x = k
          · simp [e]
          · simp [e]
        | succ j =>
          simp only [List.set_cons_succ, afind]
          by_cases e : x = q.1
          · have hq := hn 0 (by omega) q rfl
            have : ¬ x = k := fun e' => hq (e ▸ e')
            simp [e, show ¬ q.1 = k from hq]
          · rw [if_neg e, if_neg e]
            exact ih j (i + 1) (by simpa using h) (fun n hn' q hq => hn (n + 1) (by omega) q (by simpa using hq))
    have first : ∀ (m : List (κ × α)) (i j : Nat), afind k m i = some (j, u) → ∀ n, n < j - i → ∀ q, m[n]? = some q → q.1 ≠ k := by
      intro m
      induction m with
      | nil => intro i j h; simp [afind] at h
      | cons q m ih =>
        intro i j h n hn q' hq'
        simp only [afind] at h
        split at h
        · injection h with h; simp at h; omega
        · rename_i e
          cases n with
          | zero => simp at hq'; subst hq'; exact fun e' => e e'.symm
          | succ n => exact ih (i + 1) j h n (by omega) q' (by simpa using hq')
    exact gen m j 0 hj (fun n hn => first m 0 j hf n (by omega))
end
theorem renL_ints (π : Nat → Nat) (l : List Int) : renL π (l.map intA) = l.map intA := renL_map (fun _ => rfl) l
theorem renL_bools (π : Nat → Nat) (l : List Bool) : renL π (l.map boolA) = l.map boolA := renL_map (fun _ => rfl) l
theorem renL_strs (π : Nat → Nat) (l : List ByteArray) : renL π (l.map strA) = l.map strA := renL_map (fun _ => rfl) l
theorem fzL_ints (id k : Nat) (es : List AV) (l : List Int) : fzL id k es (l.map intA) = l.map intA := fzL_map (fun _ => rfl) l
theorem fzL_bools (id k : Nat) (es : List AV) (l : List Bool) : fzL id k es (l.map boolA) = l.map boolA := fzL_map (fun _ => rfl) l
theorem fzL_strs (id k : Nat) (es : List AV) (l : List ByteArray) : fzL id k es (l.map strA) = l.map strA := fzL_map (fun _ => rfl) l
@[simp] theorem lens_intsA (l : List Int) : (intsA l).lens ↔ l.length ≤ 9223372036854775807 := by simp [intsA, AV.lens, lensL_map, intA]
@[simp] theorem lens_boolsA (l : List Bool) : (boolsA l).lens ↔ l.length ≤ 9223372036854775807 := by simp [boolsA, AV.lens, lensL_map, boolA]
@[simp] theorem lens_strsA (l : List ByteArray) : (strsA l).lens ↔ l.length ≤ 9223372036854775807 := by simp [strsA, AV.lens, lensL_map, strA]
@[simp] theorem lens_intA (x : Int) : (intA x).lens := trivial
theorem Fz.plain {α : Type} {look : Nat → Option AObj} {id n k : Nat} {f : α → AV} {l : List α} (hlook : look id = some (.arr k (l.map f))) (hn : l.length = n) (hb : ∀ x, (f x).bd 0 = true) (hk : ∀ x, (f x).cells.length = k) : Fz look (.ref id k 0 n) (.sl k (l.map f)) :=
  .row hlook (by simpa using hn) (bdL_map hb l) fun e he => by obtain ⟨x, _, rfl⟩ := List.mem_map.1 he; exact hk x
end Go.Lg

namespace Go.Lg
end Go.Lg

namespace Go.Lg
inductive GEx where
  | mk (kind : Int) (name : ByteArray) (kids : List GEx)
namespace GEx
def kind : GEx → Int | .mk k _ _ => k
def name : GEx → ByteArray | .mk _ n _ => n
def kids : GEx → List GEx | .mk _ _ l => l
theorem ind {P : GEx → Prop} (h : ∀ e : GEx, (∀ x, x ∈ e.kids → P x) → P e) : ∀ e, P e :=
  fun e => GEx.rec (motive_1 := P) (motive_2 := fun l => ∀ x, x ∈ l → P x) (fun k n l ih => h _ ih) (fun x hx => by cases hx) (fun a l ha hl x hx => by
    rcases List.mem_cons.1 hx with rfl | hx
    · exact ha
    · exact hl x hx) e
theorem ext' {a b : GEx} (h1 : a.kind = b.kind) (h2 : a.name = b.name) (h3 : a.kids = b.kids) : a = b := by
  cases a; cases b; simp only [kind, name, kids] at h1 h2 h3; subst h1 h2 h3; rfl
end GEx
instance : Inhabited GEx := ⟨.mk 0 ByteArray.empty []⟩
mutual
def kidsL : GEx → List AV
  | .mk _ _ l => exprsL l
def exprsL : List GEx → List AV
  | [] => []
  | e :: l => .agg [intA e.kind, strA e.name, .sl 3 (kidsL e)] :: exprsL l
end
def exprA (e : GEx) : AV := .agg [intA e.kind, strA e.name, .sl 3 (kidsL e)]
theorem exprsL_map : ∀ l : List GEx, exprsL l = l.map exprA
  | [] => rfl
  | e :: l => by rw [exprsL, exprsL_map l]; rfl
theorem kidsL_map (e : GEx) : kidsL e = e.kids.map exprA := by cases e; rw [kidsL, exprsL_map]; rfl
@[simp] theorem kidsL_len (e : GEx) : (kidsL e).length = e.kids.length := by rw [kidsL_map, List.length_map]
theorem exprA_eq (e : GEx) : exprA e = .agg [intA e.kind, strA e.name, .sl 3 (e.kids.map exprA)] := by rw [exprA, kidsL_map]
@[simp] theorem bd_exprA (n : Nat) (e : GEx) : (exprA e).bd n = true := by
  induction e using GEx.ind with
  | h e ih =>
    rw [exprA_eq]
    have : bdL n (e.kids.map exprA) = true := by
      rw [bdL_iff]
      intro x hx
      obtain ⟨y, hy, rfl⟩ := List.mem_map.1 hx
      exact ih y hy
    simp [AV.bd, bdL, this]
@[simp] theorem bdL_exprs (n : Nat) (l : List GEx) : bdL n (l.map exprA) = true := bdL_map (bd_exprA n) l
@[simp] theorem bdL_kidsL (n : Nat) (e : GEx) : bdL n (kidsL e) = true := by rw [kidsL_map]; exact bdL_exprs n _
structure GAl where
  body : GEx
  price : Int
structure GRu where
  name : ByteArray
  alts : List GAl
structure GLe where
  assoc : Int
  tokens : List ByteArray
structure GFi where
  start : ByteArray
  levels : List GLe
  rules : List GRu
instance : Inhabited GAl := ⟨⟨default, 0⟩⟩
instance : Inhabited GRu := ⟨⟨ByteArray.empty, []⟩⟩
instance : Inhabited GLe := ⟨⟨0, []⟩⟩
def altA (a : GAl) : AV := .agg [intA a.body.kind, strA a.body.name, .sl 3 (kidsL a.body), intA a.price]
def altsA (l : List GAl) : AV := .sl 4 (l.map altA)
def gruleA (r : GRu) : AV := .agg [strA r.name, altsA r.alts]
def grulesA (l : List GRu) : AV := .sl 2 (l.map gruleA)
def levelA (l : GLe) : AV := .agg [intA l.assoc, strsA l.tokens]
def levelsA (l : List GLe) : AV := .sl 2 (l.map levelA)
def fileA (f : GFi) : AV := .agg [strA f.start, levelsA f.levels, grulesA f.rules]
@[simp] theorem bd_altA (n : Nat) (a : GAl) : (altA a).bd n = true := by simp [altA, AV.bd, bdL]
@[simp] theorem bdL_altA (n : Nat) (l : List GAl) : bdL n (l.map altA) = true := bdL_map (bd_altA n) l
@[simp] theorem bd_altsA (n : Nat) (l : List GAl) : (altsA l).bd n = true := bdL_altA n l
@[simp] theorem bd_gruleA (n : Nat) (r : GRu) : (gruleA r).bd n = true := by simp [gruleA, AV.bd, bdL]
@[simp] theorem bdL_gruleA (n : Nat) (l : List GRu) : bdL n (l.map gruleA) = true := bdL_map (bd_gruleA n) l
@[simp] theorem bd_grulesA (n : Nat) (l : List GRu) : (grulesA l).bd n = true := bdL_gruleA n l
@[simp] theorem bd_levelA (n : Nat) (l : GLe) : (levelA l).bd n = true := by simp [levelA, AV.bd, bdL]
@[simp] theorem bdL_levelA (n : Nat) (l : List GLe) : bdL n (l.map levelA) = true := bdL_map (bd_levelA n) l
@[simp] theorem bd_levelsA (n : Nat) (l : List GLe) : (levelsA l).bd n = true := bdL_levelA n l
@[simp] theorem bd_fileA (n : Nat) (f : GFi) : (fileA f).bd n = true := by simp [fileA, AV.bd, bdL]
end Go.Lg

namespace Go.Lg
structure Rul where
  head : Int
  body : List Int
  price : Int
  deriving DecidableEq
structure Gram where
  terms : List ByteArray
  nonterms : List ByteArray
  start : Int
  rules : List Rul
  deriving DecidableEq
def ruleA (r : Rul) : AV := .agg [intA r.head, intsA r.body, intA r.price]
def rulesA (l : List Rul) : AV := .sl 3 (l.map ruleA)
def gramA (g : Gram) : AV := .agg [strsA g.terms, strsA g.nonterms, intA g.start, rulesA g.rules]
@[simp] theorem bd_ruleA (n : Nat) (r : Rul) : (ruleA r).bd n = true := by simp [ruleA, AV.bd, bdL]
@[simp] theorem bdL_ruleA (n : Nat) (l : List Rul) : bdL n (l.map ruleA) = true := bdL_map (bd_ruleA n) l
@[simp] theorem bd_rulesA (n : Nat) (l : List Rul) : (rulesA l).bd n = true := bdL_ruleA n l
@[simp] theorem bd_gramA (n : Nat) (g : Gram) : (gramA g).bd n = true := by simp [gramA, AV.bd, bdL]
theorem renL_rules (π : Nat → Nat) (l : List Rul) : renL π (l.map ruleA) = l.map ruleA := renL_map (bd_ruleA 0) l
theorem fzL_rules (id k : Nat) (es : List AV) (l : List Rul) : fzL id k es (l.map ruleA) = l.map ruleA := fzL_map (bd_ruleA 0) l
def Gram.fit (g : Gram) : Prop := g.terms.length ≤ 9223372036854775807 ∧ g.nonterms.length ≤ 9223372036854775807 ∧ g.rules.length ≤ 9223372036854775807 ∧ ∀ r, r ∈ g.rules → r.body.length ≤ 9223372036854775807
theorem lens_gramA (g : Gram) : (gramA g).lens ↔ g.fit := by
  simp [gramA, AV.lens, lensL, rulesA, lensL_map, ruleA, Gram.fit, intA]
instance : Inhabited Rul := ⟨⟨0, [], 0⟩⟩
instance : Inhabited Gram := ⟨⟨[], [], 0, []⟩⟩
section
variable {P : Program} {n M N i : Nat} {l : List (Nat × AV)} {os : List (Nat × Option AObj)} {a b : Operand} {d : Tmp} {ty : TypeId} {pos : String} {af : Array Edge} {ops : Array Oper} {rest : List Oper} {KK : List Rec → St → Prop} {K : St → Prop} {rs : List Rec}
theorem se_app1R {L : List Rul} {h p : Int} {bd : List Int} {te tj : TI} {tx : TypeId} {bt id id2 len : Nat} [ht : TEl P ty te 3 bt] [h3 : TIc P tx tj] (hsh : (match tj.sh with | .int => false | _ => true) = true) (ha : opq n l a = some (.ref id 3 0 len)) (ho : lookq M os id = some (.arr 3 (L.map ruleA))) (hl : L.length = len)
    (hb : opq n l b = some (.ref id2 3 0 1)) (ho2 : lookq M os id2 = some (.arr 3 [.agg [intA h, intsA bd, intA p]])) (hz0 : (zeroA te).isSome = true) (hbt : Nat.beq bt 0 = false) (hr : (L.length + 1) * bt ≤ 140737488355328) {ty2 : TypeId} (hk : asemC P ops rest (S n ((d, .ref M 3 0 (L ++ [(⟨h, bd, p⟩ : Rul)]).length) :: l) (M + 1) ((M, some (.arr 3 ((L ++ [(⟨h, bd, p⟩ : Rul)]).map ruleA))) :: (id, none) :: os)) K) :
    asemC P ops (⟨some d, .call ⟨.builtin .append, #[a, b], #[ty, tx]⟩, ty2, pos, af, none⟩ :: rest) (S n l M os) K :=
  se_app1 (v := (⟨h, bd, p⟩ : Rul)) hsh ha ho hl hb ho2 hz0 hbt hr hk
theorem rd_app1R {L : List Rul} {h p : Int} {bd : List Int} {te tj : TI} {tx : TypeId} {bt id id2 len : Nat} [ht : TEl P ty te 3 bt] [h3 : TIc P tx tj] (hsh : (match tj.sh with | .int => false | _ => true) = true) (ha : opq n l a = some (.ref id 3 0 len)) (ho : lookq M os id = some (.arr 3 (L.map ruleA))) (hl : L.length = len)
    (hb : opq n l b = some (.ref id2 3 0 1)) (ho2 : lookq M os id2 = some (.arr 3 [.agg [intA h, intsA bd, intA p]])) (hz0 : (zeroA te).isSome = true) (hbt : Nat.beq bt 0 = false) (hr : (L.length + 1) * bt ≤ 140737488355328) {ty2 : TypeId}
    (hk : RunD P ops N (i + 1) rest (S n ((d, .ref (N + i) 3 0 (L ++ [(⟨h, bd, p⟩ : Rul)]).length) :: l) M ((N + i, some (.arr 3 ((L ++ [(⟨h, bd, p⟩ : Rul)]).map ruleA))) :: (id, none) :: os)) (rs ++ [⟨some d, [id, N + i], topq n l [a, b]⟩]) KK) :
    RunD P ops N i (⟨some d, .call ⟨.builtin .append, #[a, b], #[ty, tx]⟩, ty2, pos, af, none⟩ :: rest) (S n l M os) rs KK :=
  rd_app1 (v := (⟨h, bd, p⟩ : Rul)) hsh ha ho hl hb ho2 hz0 hbt hr hk
end
end Go.Lg
