/-
  Part 9 of the proof of BinarizeParseRoundTripUpto: the logic over the model, the functions' contracts and the plain laws.
-/
import Derived.Test.YtdgibngbooghfaaNw8
import Derived.Test.YtdgibngbooghfaaChecked

set_option linter.unusedSimpArgs false
set_option linter.unusedVariables false
set_option linter.unusedSectionVars false
set_option linter.defProp false

namespace Go.Lg
open Go.Proofs
section
theorem mixed : Try.prog.follows .mixedOrders = true := by kernel_rfl
theorem ti3 : tinfo Try.prog 3 = some ⟨false, 1, 8, [.int .i64 0], none, [], some .i64, false, .int⟩ := by kernel_rfl
instance tc3 : TIc Try.prog 3 ⟨false, 1, 8, [.int .i64 0], none, [], some .i64, false, .int⟩ := ⟨ti3⟩
instance ts3 : TSz Try.prog 3 1 8 := ⟨fun ti h => by rw [ti3] at h; injection h with h; rw [← h], fun ti h => by rw [ti3] at h; injection h with h; rw [← h]⟩
theorem ti5 : tinfo Try.prog 5 = some ⟨false, 1, 1, [.int .u8 0], none, [], some .u8, false, .int⟩ := by kernel_rfl
instance tc5 : TIc Try.prog 5 ⟨false, 1, 1, [.int .u8 0], none, [], some .u8, false, .int⟩ := ⟨ti5⟩
theorem ti9 : tinfo Try.prog 9 = some ⟨false, 1, 16, [.string ⟨#[]⟩], none, [], none, false, .string⟩ := by kernel_rfl
instance tc9 : TIc Try.prog 9 ⟨false, 1, 16, [.string ⟨#[]⟩], none, [], none, false, .string⟩ := ⟨ti9⟩
theorem ti22 : tinfo Try.prog 22 = some ⟨false, 1, 24, [.slice none 0 0], some 65, [], none, false, .slice⟩ := by kernel_rfl
instance tc22 : TIc Try.prog 22 ⟨false, 1, 24, [.slice none 0 0], some 65, [], none, false, .slice⟩ := ⟨ti22⟩
theorem te22 : ∃ ti el, tinfo Try.prog 22 = some ti ∧ ti.elem = some el ∧ ti.sh = .slice ∧ tinfo Try.prog el = some ⟨true, 6, 48, [.int .i64 0, .int .i64 0, .int .i64 0, .int .i64 0, .int .i64 0, .int .i64 0], none, [(0, 1), (1, 1), (2, 1), (3, 1), (4, 1), (5, 1)], none, true, .other⟩ ∧ TI.size ⟨true, 6, 48, [.int .i64 0, .int .i64 0, .int .i64 0, .int .i64 0, .int .i64 0, .int .i64 0], none, [(0, 1), (1, 1), (2, 1), (3, 1), (4, 1), (5, 1)], none, true, .other⟩ = 6 ∧ TI.bytes ⟨true, 6, 48, [.int .i64 0, .int .i64 0, .int .i64 0, .int .i64 0, .int .i64 0, .int .i64 0], none, [(0, 1), (1, 1), (2, 1), (3, 1), (4, 1), (5, 1)], none, true, .other⟩ = 48 := ⟨_, _, ti22, rfl, rfl, (by kernel_rfl : tinfo Try.prog 65 = some ⟨true, 6, 48, [.int .i64 0, .int .i64 0, .int .i64 0, .int .i64 0, .int .i64 0, .int .i64 0], none, [(0, 1), (1, 1), (2, 1), (3, 1), (4, 1), (5, 1)], none, true, .other⟩), rfl, rfl⟩
instance tel22 : TEl Try.prog 22 ⟨true, 6, 48, [.int .i64 0, .int .i64 0, .int .i64 0, .int .i64 0, .int .i64 0, .int .i64 0], none, [(0, 1), (1, 1), (2, 1), (3, 1), (4, 1), (5, 1)], none, true, .other⟩ 6 48 := ⟨te22⟩
theorem ti24 : tinfo Try.prog 24 = some ⟨true, 4, 48, [.int .i64 0, .int .i64 0, .int .i64 0, .slice none 0 0], none, [(0, 1), (1, 1), (2, 1), (3, 1)], none, true, .other⟩ := by kernel_rfl
instance tc24 : TIc Try.prog 24 ⟨true, 4, 48, [.int .i64 0, .int .i64 0, .int .i64 0, .slice none 0 0], none, [(0, 1), (1, 1), (2, 1), (3, 1)], none, true, .other⟩ := ⟨ti24⟩
instance ts24 : TSz Try.prog 24 4 48 := ⟨fun ti h => by rw [ti24] at h; injection h with h; rw [← h], fun ti h => by rw [ti24] at h; injection h with h; rw [← h]⟩
theorem ti27 : tinfo Try.prog 27 = some ⟨false, 1, 24, [.slice none 0 0], some 9, [], none, false, .slice⟩ := by kernel_rfl
instance tc27 : TIc Try.prog 27 ⟨false, 1, 24, [.slice none 0 0], some 9, [], none, false, .slice⟩ := ⟨ti27⟩
theorem te27 : ∃ ti el, tinfo Try.prog 27 = some ti ∧ ti.elem = some el ∧ ti.sh = .slice ∧ tinfo Try.prog el = some ⟨false, 1, 16, [.string ⟨#[]⟩], none, [], none, false, .string⟩ ∧ TI.size ⟨false, 1, 16, [.string ⟨#[]⟩], none, [], none, false, .string⟩ = 1 ∧ TI.bytes ⟨false, 1, 16, [.string ⟨#[]⟩], none, [], none, false, .string⟩ = 16 := ⟨_, _, ti27, rfl, rfl, (by kernel_rfl : tinfo Try.prog 9 = some ⟨false, 1, 16, [.string ⟨#[]⟩], none, [], none, false, .string⟩), rfl, rfl⟩
instance tel27 : TEl Try.prog 27 ⟨false, 1, 16, [.string ⟨#[]⟩], none, [], none, false, .string⟩ 1 16 := ⟨te27⟩
theorem ti28 : tinfo Try.prog 28 = some ⟨false, 1, 24, [.slice none 0 0], some 61, [], none, false, .slice⟩ := by kernel_rfl
instance tc28 : TIc Try.prog 28 ⟨false, 1, 24, [.slice none 0 0], some 61, [], none, false, .slice⟩ := ⟨ti28⟩
theorem te28 : ∃ ti el, tinfo Try.prog 28 = some ti ∧ ti.elem = some el ∧ ti.sh = .slice ∧ tinfo Try.prog el = some ⟨true, 3, 40, [.int .i64 0, .slice none 0 0, .int .i64 0], none, [(0, 1), (1, 1), (2, 1)], none, true, .other⟩ ∧ TI.size ⟨true, 3, 40, [.int .i64 0, .slice none 0 0, .int .i64 0], none, [(0, 1), (1, 1), (2, 1)], none, true, .other⟩ = 3 ∧ TI.bytes ⟨true, 3, 40, [.int .i64 0, .slice none 0 0, .int .i64 0], none, [(0, 1), (1, 1), (2, 1)], none, true, .other⟩ = 40 := ⟨_, _, ti28, rfl, rfl, (by kernel_rfl : tinfo Try.prog 61 = some ⟨true, 3, 40, [.int .i64 0, .slice none 0 0, .int .i64 0], none, [(0, 1), (1, 1), (2, 1)], none, true, .other⟩), rfl, rfl⟩
instance tel28 : TEl Try.prog 28 ⟨true, 3, 40, [.int .i64 0, .slice none 0 0, .int .i64 0], none, [(0, 1), (1, 1), (2, 1)], none, true, .other⟩ 3 40 := ⟨te28⟩
theorem ti30 : tinfo Try.prog 30 = some ⟨true, 4, 80, [.slice none 0 0, .slice none 0 0, .int .i64 0, .slice none 0 0], none, [(0, 1), (1, 1), (2, 1), (3, 1)], none, true, .other⟩ := by kernel_rfl
instance tc30 : TIc Try.prog 30 ⟨true, 4, 80, [.slice none 0 0, .slice none 0 0, .int .i64 0, .slice none 0 0], none, [(0, 1), (1, 1), (2, 1), (3, 1)], none, true, .other⟩ := ⟨ti30⟩
instance ts30 : TSz Try.prog 30 4 80 := ⟨fun ti h => by rw [ti30] at h; injection h with h; rw [← h], fun ti h => by rw [ti30] at h; injection h with h; rw [← h]⟩
theorem ti36 : tinfo Try.prog 36 = some ⟨false, 1, 24, [.slice none 0 0], some 38, [], none, false, .slice⟩ := by kernel_rfl
instance tc36 : TIc Try.prog 36 ⟨false, 1, 24, [.slice none 0 0], some 38, [], none, false, .slice⟩ := ⟨ti36⟩
theorem te36 : ∃ ti el, tinfo Try.prog 36 = some ti ∧ ti.elem = some el ∧ ti.sh = .slice ∧ tinfo Try.prog el = some ⟨true, 2, 32, [.int .i64 0, .slice none 0 0], none, [(0, 1), (1, 1)], none, true, .other⟩ ∧ TI.size ⟨true, 2, 32, [.int .i64 0, .slice none 0 0], none, [(0, 1), (1, 1)], none, true, .other⟩ = 2 ∧ TI.bytes ⟨true, 2, 32, [.int .i64 0, .slice none 0 0], none, [(0, 1), (1, 1)], none, true, .other⟩ = 32 := ⟨_, _, ti36, rfl, rfl, (by kernel_rfl : tinfo Try.prog 38 = some ⟨true, 2, 32, [.int .i64 0, .slice none 0 0], none, [(0, 1), (1, 1)], none, true, .other⟩), rfl, rfl⟩
instance tel36 : TEl Try.prog 36 ⟨true, 2, 32, [.int .i64 0, .slice none 0 0], none, [(0, 1), (1, 1)], none, true, .other⟩ 2 32 := ⟨te36⟩
theorem ti38 : tinfo Try.prog 38 = some ⟨true, 2, 32, [.int .i64 0, .slice none 0 0], none, [(0, 1), (1, 1)], none, true, .other⟩ := by kernel_rfl
instance tc38 : TIc Try.prog 38 ⟨true, 2, 32, [.int .i64 0, .slice none 0 0], none, [(0, 1), (1, 1)], none, true, .other⟩ := ⟨ti38⟩
instance ts38 : TSz Try.prog 38 2 32 := ⟨fun ti h => by rw [ti38] at h; injection h with h; rw [← h], fun ti h => by rw [ti38] at h; injection h with h; rw [← h]⟩
theorem ti42 : tinfo Try.prog 42 = some ⟨false, 1, 24, [.slice none 0 0], some 3, [], none, false, .slice⟩ := by kernel_rfl
instance tc42 : TIc Try.prog 42 ⟨false, 1, 24, [.slice none 0 0], some 3, [], none, false, .slice⟩ := ⟨ti42⟩
theorem te42 : ∃ ti el, tinfo Try.prog 42 = some ti ∧ ti.elem = some el ∧ ti.sh = .slice ∧ tinfo Try.prog el = some ⟨false, 1, 8, [.int .i64 0], none, [], some .i64, false, .int⟩ ∧ TI.size ⟨false, 1, 8, [.int .i64 0], none, [], some .i64, false, .int⟩ = 1 ∧ TI.bytes ⟨false, 1, 8, [.int .i64 0], none, [], some .i64, false, .int⟩ = 8 := ⟨_, _, ti42, rfl, rfl, (by kernel_rfl : tinfo Try.prog 3 = some ⟨false, 1, 8, [.int .i64 0], none, [], some .i64, false, .int⟩), rfl, rfl⟩
instance tel42 : TEl Try.prog 42 ⟨false, 1, 8, [.int .i64 0], none, [], some .i64, false, .int⟩ 1 8 := ⟨te42⟩
theorem ti45 : tinfo Try.prog 45 = some ⟨false, 1, 24, [.slice none 0 0], some 47, [], none, false, .slice⟩ := by kernel_rfl
instance tc45 : TIc Try.prog 45 ⟨false, 1, 24, [.slice none 0 0], some 47, [], none, false, .slice⟩ := ⟨ti45⟩
theorem te45 : ∃ ti el, tinfo Try.prog 45 = some ti ∧ ti.elem = some el ∧ ti.sh = .slice ∧ tinfo Try.prog el = some ⟨true, 3, 40, [.int .i64 0, .int .i64 0, .slice none 0 0], none, [(0, 1), (1, 1), (2, 1)], none, true, .other⟩ ∧ TI.size ⟨true, 3, 40, [.int .i64 0, .int .i64 0, .slice none 0 0], none, [(0, 1), (1, 1), (2, 1)], none, true, .other⟩ = 3 ∧ TI.bytes ⟨true, 3, 40, [.int .i64 0, .int .i64 0, .slice none 0 0], none, [(0, 1), (1, 1), (2, 1)], none, true, .other⟩ = 40 := ⟨_, _, ti45, rfl, rfl, (by kernel_rfl : tinfo Try.prog 47 = some ⟨true, 3, 40, [.int .i64 0, .int .i64 0, .slice none 0 0], none, [(0, 1), (1, 1), (2, 1)], none, true, .other⟩), rfl, rfl⟩
instance tel45 : TEl Try.prog 45 ⟨true, 3, 40, [.int .i64 0, .int .i64 0, .slice none 0 0], none, [(0, 1), (1, 1), (2, 1)], none, true, .other⟩ 3 40 := ⟨te45⟩
theorem ti47 : tinfo Try.prog 47 = some ⟨true, 3, 40, [.int .i64 0, .int .i64 0, .slice none 0 0], none, [(0, 1), (1, 1), (2, 1)], none, true, .other⟩ := by kernel_rfl
instance tc47 : TIc Try.prog 47 ⟨true, 3, 40, [.int .i64 0, .int .i64 0, .slice none 0 0], none, [(0, 1), (1, 1), (2, 1)], none, true, .other⟩ := ⟨ti47⟩
instance ts47 : TSz Try.prog 47 3 40 := ⟨fun ti h => by rw [ti47] at h; injection h with h; rw [← h], fun ti h => by rw [ti47] at h; injection h with h; rw [← h]⟩
theorem ti49 : tinfo Try.prog 49 = some ⟨true, 9, 152, [.slice none 0 0, .slice none 0 0, .int .i64 0, .slice none 0 0, .int .i64 0, .int .i64 0, .slice none 0 0, .int .i64 0, .slice none 0 0], none, [(0, 4), (4, 3), (7, 2)], none, true, .other⟩ := by kernel_rfl
instance tc49 : TIc Try.prog 49 ⟨true, 9, 152, [.slice none 0 0, .slice none 0 0, .int .i64 0, .slice none 0 0, .int .i64 0, .int .i64 0, .slice none 0 0, .int .i64 0, .slice none 0 0], none, [(0, 4), (4, 3), (7, 2)], none, true, .other⟩ := ⟨ti49⟩
instance ts49 : TSz Try.prog 49 9 152 := ⟨fun ti h => by rw [ti49] at h; injection h with h; rw [← h], fun ti h => by rw [ti49] at h; injection h with h; rw [← h]⟩
theorem ti61 : tinfo Try.prog 61 = some ⟨true, 3, 40, [.int .i64 0, .slice none 0 0, .int .i64 0], none, [(0, 1), (1, 1), (2, 1)], none, true, .other⟩ := by kernel_rfl
instance tc61 : TIc Try.prog 61 ⟨true, 3, 40, [.int .i64 0, .slice none 0 0, .int .i64 0], none, [(0, 1), (1, 1), (2, 1)], none, true, .other⟩ := ⟨ti61⟩
instance ts61 : TSz Try.prog 61 3 40 := ⟨fun ti h => by rw [ti61] at h; injection h with h; rw [← h], fun ti h => by rw [ti61] at h; injection h with h; rw [← h]⟩
theorem ti65 : tinfo Try.prog 65 = some ⟨true, 6, 48, [.int .i64 0, .int .i64 0, .int .i64 0, .int .i64 0, .int .i64 0, .int .i64 0], none, [(0, 1), (1, 1), (2, 1), (3, 1), (4, 1), (5, 1)], none, true, .other⟩ := by kernel_rfl
instance tc65 : TIc Try.prog 65 ⟨true, 6, 48, [.int .i64 0, .int .i64 0, .int .i64 0, .int .i64 0, .int .i64 0, .int .i64 0], none, [(0, 1), (1, 1), (2, 1), (3, 1), (4, 1), (5, 1)], none, true, .other⟩ := ⟨ti65⟩
instance ts65 : TSz Try.prog 65 6 48 := ⟨fun ti h => by rw [ti65] at h; injection h with h; rw [← h], fun ti h => by rw [ti65] at h; injection h with h; rw [← h]⟩
theorem ti71 : tinfo Try.prog 71 = some ⟨false, 1, 8, [.pointer none], none, [], none, false, .other⟩ := by kernel_rfl
instance tc71 : TIc Try.prog 71 ⟨false, 1, 8, [.pointer none], none, [], none, false, .other⟩ := ⟨ti71⟩
instance ts71 : TSz Try.prog 71 1 8 := ⟨fun ti h => by rw [ti71] at h; injection h with h; rw [← h], fun ti h => by rw [ti71] at h; injection h with h; rw [← h]⟩
theorem ti77 : tinfo Try.prog 77 = some ⟨false, 1, 8, [.map none], none, [], none, false, .map⟩ := by kernel_rfl
instance tc77 : TIc Try.prog 77 ⟨false, 1, 8, [.map none], none, [], none, false, .map⟩ := ⟨ti77⟩
theorem ti79 : tinfo Try.prog 79 = some ⟨true, 2, 16, [.map none, .int .i64 0], none, [(0, 1), (1, 1)], none, true, .other⟩ := by kernel_rfl
instance tc79 : TIc Try.prog 79 ⟨true, 2, 16, [.map none, .int .i64 0], none, [(0, 1), (1, 1)], none, true, .other⟩ := ⟨ti79⟩
instance ts79 : TSz Try.prog 79 2 16 := ⟨fun ti h => by rw [ti79] at h; injection h with h; rw [← h], fun ti h => by rw [ti79] at h; injection h with h; rw [← h]⟩
theorem ti84 : tinfo Try.prog 84 = some ⟨false, 1, 24, [.slice none 0 0], some 42, [], none, false, .slice⟩ := by kernel_rfl
instance tc84 : TIc Try.prog 84 ⟨false, 1, 24, [.slice none 0 0], some 42, [], none, false, .slice⟩ := ⟨ti84⟩
theorem te84 : ∃ ti el, tinfo Try.prog 84 = some ti ∧ ti.elem = some el ∧ ti.sh = .slice ∧ tinfo Try.prog el = some ⟨false, 1, 24, [.slice none 0 0], some 3, [], none, false, .slice⟩ ∧ TI.size ⟨false, 1, 24, [.slice none 0 0], some 3, [], none, false, .slice⟩ = 1 ∧ TI.bytes ⟨false, 1, 24, [.slice none 0 0], some 3, [], none, false, .slice⟩ = 24 := ⟨_, _, ti84, rfl, rfl, (by kernel_rfl : tinfo Try.prog 42 = some ⟨false, 1, 24, [.slice none 0 0], some 3, [], none, false, .slice⟩), rfl, rfl⟩
instance tel84 : TEl Try.prog 84 ⟨false, 1, 24, [.slice none 0 0], some 3, [], none, false, .slice⟩ 1 24 := ⟨te84⟩
theorem ti104 : tinfo Try.prog 104 = some ⟨false, 1, 24, [.slice none 0 0], some 27, [], none, false, .slice⟩ := by kernel_rfl
instance tc104 : TIc Try.prog 104 ⟨false, 1, 24, [.slice none 0 0], some 27, [], none, false, .slice⟩ := ⟨ti104⟩
theorem te104 : ∃ ti el, tinfo Try.prog 104 = some ti ∧ ti.elem = some el ∧ ti.sh = .slice ∧ tinfo Try.prog el = some ⟨false, 1, 24, [.slice none 0 0], some 9, [], none, false, .slice⟩ ∧ TI.size ⟨false, 1, 24, [.slice none 0 0], some 9, [], none, false, .slice⟩ = 1 ∧ TI.bytes ⟨false, 1, 24, [.slice none 0 0], some 9, [], none, false, .slice⟩ = 24 := ⟨_, _, ti104, rfl, rfl, (by kernel_rfl : tinfo Try.prog 27 = some ⟨false, 1, 24, [.slice none 0 0], some 9, [], none, false, .slice⟩), rfl, rfl⟩
instance tel104 : TEl Try.prog 104 ⟨false, 1, 24, [.slice none 0 0], some 9, [], none, false, .slice⟩ 1 24 := ⟨te104⟩
theorem ti105 : tinfo Try.prog 105 = some ⟨true, 0, 0, [], none, [], none, true, .other⟩ := by kernel_rfl
instance tc105 : TIc Try.prog 105 ⟨true, 0, 0, [], none, [], none, true, .other⟩ := ⟨ti105⟩
theorem ti113 : tinfo Try.prog 113 = some ⟨false, 1, 24, [.slice none 0 0], some 5, [], none, false, .slice⟩ := by kernel_rfl
instance tc113 : TIc Try.prog 113 ⟨false, 1, 24, [.slice none 0 0], some 5, [], none, false, .slice⟩ := ⟨ti113⟩
theorem te113 : ∃ ti el, tinfo Try.prog 113 = some ti ∧ ti.elem = some el ∧ ti.sh = .slice ∧ tinfo Try.prog el = some ⟨false, 1, 1, [.int .u8 0], none, [], some .u8, false, .int⟩ ∧ TI.size ⟨false, 1, 1, [.int .u8 0], none, [], some .u8, false, .int⟩ = 1 ∧ TI.bytes ⟨false, 1, 1, [.int .u8 0], none, [], some .u8, false, .int⟩ = 1 := ⟨_, _, ti113, rfl, rfl, (by kernel_rfl : tinfo Try.prog 5 = some ⟨false, 1, 1, [.int .u8 0], none, [], some .u8, false, .int⟩), rfl, rfl⟩
instance tel113 : TEl Try.prog 113 ⟨false, 1, 1, [.int .u8 0], none, [], some .u8, false, .int⟩ 1 1 := ⟨te113⟩
instance tmp77 : TMp Try.prog 77 (.int .i64) 3 (.val (.int .i64 0)) := ⟨⟨3, by kernel_rfl, by kernel_rfl⟩⟩
instance tmp103 : TMp Try.prog 103 (.string) 105 (.agg []) := ⟨⟨9, by kernel_rfl, by kernel_rfl⟩⟩
end
end Go.Lg

namespace Go.Lg
def intA (n : Int) : AV := .val (.int .i64 n)
def boolA (b : Bool) : AV := .val (.bool b)
def strA (s : ByteArray) : AV := .val (.string s)
def intsA (l : List Int) : AV := .sl 1 (l.map intA)
def boolsA (l : List Bool) : AV := .sl 1 (l.map boolA)
def strsA (l : List ByteArray) : AV := .sl 1 (l.map strA)
@[simp] theorem bd_intA (n : Nat) (x : Int) : (intA x).bd n = true := rfl
@[simp] theorem bd_boolA (n : Nat) (x : Bool) : (boolA x).bd n = true := rfl
@[simp] theorem bd_strA (n : Nat) (x : ByteArray) : (strA x).bd n = true := rfl
@[simp] theorem bd_intsA (n : Nat) (l : List Int) : (intsA l).bd n = true := bdL_map (fun _ => rfl) l
@[simp] theorem bd_boolsA (n : Nat) (l : List Bool) : (boolsA l).bd n = true := bdL_map (fun _ => rfl) l
@[simp] theorem bd_strsA (n : Nat) (l : List ByteArray) : (strsA l).bd n = true := bdL_map (fun _ => rfl) l
@[simp] theorem bdL_intA (n : Nat) (l : List Int) : bdL n (l.map intA) = true := bdL_map (fun _ => rfl) l
@[simp] theorem bdL_boolA (n : Nat) (l : List Bool) : bdL n (l.map boolA) = true := bdL_map (fun _ => rfl) l
@[simp] theorem bdL_strA (n : Nat) (l : List ByteArray) : bdL n (l.map strA) = true := bdL_map (fun _ => rfl) l
@[simp] theorem bdL_rep {n k : Nat} {x : AV} (h : x.bd n = true) : bdL n (List.replicate k x) = true := by
  rw [bdL_iff]; intro y hy; rw [(List.mem_replicate.1 hy).2]; exact h
@[simp] theorem bd_byteA (n : Nat) (x : UInt8) : (byteA x).bd n = true := rfl
@[simp] theorem bdL_byteA (n : Nat) (l : List UInt8) : bdL n (l.map byteA) = true := bdL_map (fun _ => rfl) l
theorem mapA_bd {κ α : Type} {kf : κ → Value} {f : α → AV} {n : Nat} (h : ∀ x, (f x).bd n = true) (m : List (κ × α)) : ∀ p, p ∈ mapA kf f m → p.2.bd n = true := by
  intro p hp
  obtain ⟨q, _, rfl⟩ := List.mem_map.1 hp
  exact h q.2
theorem mapA_all {κ α : Type} {kf : κ → Value} {f : α → AV} {n : Nat} (h : ∀ x, (f x).bd n = true) (m : List (κ × α)) : ((mapA kf f m).all fun p => p.2.bd n) = true := by
  rw [List.all_eq_true]; exact mapA_bd h m
section
variable {κ α : Type} [DecidableEq κ]
theorem afind_ge {k : κ} : ∀ {m : List (κ × α)} {i : Nat} {p : Nat × α}, afind k m i = some p → i ≤ p.1 ∧ m[p.1 - i]? = some (k, p.2)
  | [], _, _, h => by simp [afind] at h
  | q :: m, i, p, h => by
    simp only [afind] at h
    split at h
    · rename_i e; injection h with h; subst h; subst e; simp
    · have ih := afind_ge (m := m) h
      refine ⟨by omega, ?_⟩
      rw [show p.1 - i = (p.1 - (i + 1)) + 1 by omega]; simpa using ih.2
theorem afind_none {k : κ} : ∀ {m : List (κ × α)} {i : Nat}, afind k m i = none ↔ ∀ p, p ∈ m → p.1 ≠ k
  | [], _ => by simp [afind]
  | q :: m, i => by
    simp only [afind]
    split
    · rename_i e; subst e; simp
    · rename_i e
      rw [afind_none (m := m)]
      simp only [List.mem_cons, forall_eq_or_imp, ne_eq]
      exact ⟨fun h => ⟨fun h' => e h'.symm, h⟩, fun h => h.2⟩
theorem afind_app {k : κ} : ∀ {m m' : List (κ × α)} {i : Nat}, (∀ p, p ∈ m → p.1 ≠ k) → afind k (m ++ m') i = afind k m' (i + m.length)
  | [], _, _, _ => by simp
  | q :: m, m', i, h => by
    have h0 : ¬ k = q.1 := fun e => h q (by simp) e.symm
    simp only [List.cons_append, afind, if_neg h0]
    rw [afind_app (m := m) (fun p hp => h p (by simp [hp]))]
    simp only [List.length_cons]; congr 1; omega
theorem aget_none {m : List (κ × α)} {k : κ} : aget m k = none ↔ ∀ p, p ∈ m → p.1 ≠ k := by simp [aget, afind_none]
theorem aget_aset {m : List (κ × α)} {k x : κ} {v : α} : aget (aset m k v) x = if x = k then some v else aget m x := by
  unfold aset
  cases hf : afind k m 0 with
  | none =>
    rw [afind_none] at hf
    simp only
    by_cases e : x = k
    · subst e
      rw [if_pos rfl, aget, afind_app hf]; simp [afind]
    · rw [if_neg e]
      simp only [aget]
      have gen : ∀ (m : List (κ × α)) (i : Nat), (afind x (m ++ [(k, v)]) i).map (·.2) = (afind x m i).map (·.2) := by
        intro m
        induction m with
        | nil => intro i; simp [afind, e]
        | cons q m ih => intro i; simp only [List.cons_append, afind]; split
                         · rfl
                         · exact ih _
      exact gen m 0
  | some p =>
    obtain ⟨j, u⟩ := p
    obtain ⟨_, hj⟩ := afind_ge hf
    simp only [Nat.sub_zero] at hj
    simp only
    have gen : ∀ (m : List (κ × α)) (j i : Nat), m[j]? = some (k, u) → (∀ n, n < j → ∀ q, m[n]? = some q → q.1 ≠ k) → (afind x (m.set j (k, v)) i).map (·.2) = if x = k then some v else (afind x m i).map (·.2) := by
      intro m
      induction m with
      | nil => intro j i h; simp at h
      | cons q m ih =>
        intro j i h hn
        cases j with
        | zero =>
          simp at h; subst h
          simp only [List.set_cons_zero, afind]
          by_cases e : x = k
          · simp [e]
          · simp [e]
        | succ j =>
          simp only [List.set_cons_succ, afind]
          by_cases e : x = q.1
          · have hq := hn 0 (by omega) q rfl
            have : ¬ x = k := fun e' => hq (e ▸ e')
            simp [e, show ¬ q.1 = k from hq]
          · rw [if_neg e, if_neg e]
            exact ih j (i + 1) (by simpa using h) (fun n hn' q hq => hn (n + 1) (by omega) q (by simpa using hq))
    have first : ∀ (m : List (κ × α)) (i j : Nat), afind k m i = some (j, u) → ∀ n, n < j - i → ∀ q, m[n]? = some q → q.1 ≠ k := by
      intro m
      induction m with
      | nil => intro i j h; simp [afind] at h
      | cons q m ih =>
        intro i j h n hn q' hq'
        simp only [afind] at h
        split at h
        · injection h with h; simp at h; omega
        · rename_i e
          cases n with
          | zero => simp at hq'; subst hq'; exact fun e' => e e'.symm
          | succ n => exact ih (i + 1) j h n (by omega) q' (by simpa using hq')
    exact gen m j 0 hj (fun n hn => first m 0 j hf n (by omega))
end
@[simp] theorem lens_intsA (l : List Int) : (intsA l).lens ↔ l.length ≤ 9223372036854775807 := by simp [intsA, AV.lens, lensL_map, intA]
@[simp] theorem lens_boolsA (l : List Bool) : (boolsA l).lens ↔ l.length ≤ 9223372036854775807 := by simp [boolsA, AV.lens, lensL_map, boolA]
@[simp] theorem lens_strsA (l : List ByteArray) : (strsA l).lens ↔ l.length ≤ 9223372036854775807 := by simp [strsA, AV.lens, lensL_map, strA]
@[simp] theorem lens_intA (x : Int) : (intA x).lens := trivial
theorem Fz.plain {α : Type} {look : Nat → Option AObj} {id n k : Nat} {f : α → AV} {l : List α} (hlook : look id = some (.arr k (l.map f))) (hn : l.length = n) (hb : ∀ x, (f x).bd 0 = true) (hk : ∀ x, (f x).cells.length = k) : Fz look (.ref id k 0 n) (.sl k (l.map f)) :=
  .row hlook (by simpa using hn) (bdL_map hb l) fun e he => by obtain ⟨x, _, rfl⟩ := List.mem_map.1 he; exact hk x
end Go.Lg

namespace Go.Lg
end Go.Lg

namespace Go.Lg
structure Rul where
  head : Int
  body : List Int
  price : Int
  deriving DecidableEq
structure Gram where
  terms : List ByteArray
  nonterms : List ByteArray
  start : Int
  rules : List Rul
  deriving DecidableEq
def ruleA (r : Rul) : AV := .agg [intA r.head, intsA r.body, intA r.price]
def rulesA (l : List Rul) : AV := .sl 3 (l.map ruleA)
def gramA (g : Gram) : AV := .agg [strsA g.terms, strsA g.nonterms, intA g.start, rulesA g.rules]
@[simp] theorem bd_ruleA (n : Nat) (r : Rul) : (ruleA r).bd n = true := by simp [ruleA, AV.bd, bdL]
@[simp] theorem bdL_ruleA (n : Nat) (l : List Rul) : bdL n (l.map ruleA) = true := bdL_map (bd_ruleA n) l
@[simp] theorem bd_rulesA (n : Nat) (l : List Rul) : (rulesA l).bd n = true := bdL_ruleA n l
@[simp] theorem bd_gramA (n : Nat) (g : Gram) : (gramA g).bd n = true := by simp [gramA, AV.bd, bdL]
theorem renL_rules (π : Nat → Nat) (l : List Rul) : renL π (l.map ruleA) = l.map ruleA := renL_map (bd_ruleA 0) l
def Gram.fit (g : Gram) : Prop := g.terms.length ≤ 9223372036854775807 ∧ g.nonterms.length ≤ 9223372036854775807 ∧ g.rules.length ≤ 9223372036854775807 ∧ ∀ r, r ∈ g.rules → r.body.length ≤ 9223372036854775807
theorem lens_gramA (g : Gram) : (gramA g).lens ↔ g.fit := by
  simp [gramA, AV.lens, lensL, rulesA, lensL_map, ruleA, Gram.fit, intA]
instance : Inhabited Rul := ⟨⟨0, [], 0⟩⟩
section
variable {P : Program} {n M N i : Nat} {l : List (Nat × AV)} {os : List (Nat × Option AObj)} {a b : Operand} {d : Tmp} {ty : TypeId} {pos : String} {af : Array Edge} {ops : Array Oper} {rest : List Oper} {KK : List Rec → St → Prop} {K : St → Prop} {rs : List Rec}
end
end Go.Lg
