/-
  Part 7 of the proof of DesugarLanguageCard: the logic over the model, the functions' contracts and the plain laws.
-/
import Derived.Test.YtbjeoainfloiaaaDoorDl6
import Derived.Test.YtbjeoainfloiaaaDoorChecked

set_option linter.unusedSimpArgs false
set_option linter.unusedVariables false
set_option linter.unusedSectionVars false
set_option linter.defProp false

namespace Go.Lg
open Go.Proofs
section
theorem mixed : Tryd.prog.follows .mixedOrders = true := by kernel_rfl
theorem ti3 : tinfo Tryd.prog 3 = some ⟨false, 1, 8, [.int .i64 0], none, [], some .i64, false, .int⟩ := by kernel_rfl
instance tc3 : TIc Tryd.prog 3 ⟨false, 1, 8, [.int .i64 0], none, [], some .i64, false, .int⟩ := ⟨ti3⟩
instance ts3 : TSz Tryd.prog 3 1 8 := ⟨fun ti h => by rw [ti3] at h; injection h with h; rw [← h], fun ti h => by rw [ti3] at h; injection h with h; rw [← h]⟩
theorem ti4 : tinfo Tryd.prog 4 = some ⟨false, 1, 1, [.bool false], none, [], none, false, .other⟩ := by kernel_rfl
instance tc4 : TIc Tryd.prog 4 ⟨false, 1, 1, [.bool false], none, [], none, false, .other⟩ := ⟨ti4⟩
theorem ti5 : tinfo Tryd.prog 5 = some ⟨false, 1, 1, [.int .u8 0], none, [], some .u8, false, .int⟩ := by kernel_rfl
instance tc5 : TIc Tryd.prog 5 ⟨false, 1, 1, [.int .u8 0], none, [], some .u8, false, .int⟩ := ⟨ti5⟩
theorem ti9 : tinfo Tryd.prog 9 = some ⟨false, 1, 16, [.string ⟨#[]⟩], none, [], none, false, .string⟩ := by kernel_rfl
instance tc9 : TIc Tryd.prog 9 ⟨false, 1, 16, [.string ⟨#[]⟩], none, [], none, false, .string⟩ := ⟨ti9⟩
theorem ti22 : tinfo Tryd.prog 22 = some ⟨false, 1, 24, [.slice none 0 0], some 63, [], none, false, .slice⟩ := by kernel_rfl
instance tc22 : TIc Tryd.prog 22 ⟨false, 1, 24, [.slice none 0 0], some 63, [], none, false, .slice⟩ := ⟨ti22⟩
theorem te22 : ∃ ti el, tinfo Tryd.prog 22 = some ti ∧ ti.elem = some el ∧ ti.sh = .slice ∧ tinfo Tryd.prog el = some ⟨true, 2, 32, [.int .i64 0, .slice none 0 0], none, [(0, 1), (1, 1)], none, true, .other⟩ ∧ TI.size ⟨true, 2, 32, [.int .i64 0, .slice none 0 0], none, [(0, 1), (1, 1)], none, true, .other⟩ = 2 ∧ TI.bytes ⟨true, 2, 32, [.int .i64 0, .slice none 0 0], none, [(0, 1), (1, 1)], none, true, .other⟩ = 32 := ⟨_, _, ti22, rfl, rfl, (by kernel_rfl : tinfo Tryd.prog 63 = some ⟨true, 2, 32, [.int .i64 0, .slice none 0 0], none, [(0, 1), (1, 1)], none, true, .other⟩), rfl, rfl⟩
instance tel22 : TEl Tryd.prog 22 ⟨true, 2, 32, [.int .i64 0, .slice none 0 0], none, [(0, 1), (1, 1)], none, true, .other⟩ 2 32 := ⟨te22⟩
theorem ti23 : tinfo Tryd.prog 23 = some ⟨false, 1, 24, [.slice none 0 0], some 51, [], none, false, .slice⟩ := by kernel_rfl
instance tc23 : TIc Tryd.prog 23 ⟨false, 1, 24, [.slice none 0 0], some 51, [], none, false, .slice⟩ := ⟨ti23⟩
theorem te23 : ∃ ti el, tinfo Tryd.prog 23 = some ti ∧ ti.elem = some el ∧ ti.sh = .slice ∧ tinfo Tryd.prog el = some ⟨true, 2, 40, [.string ⟨#[]⟩, .slice none 0 0], none, [(0, 1), (1, 1)], none, true, .other⟩ ∧ TI.size ⟨true, 2, 40, [.string ⟨#[]⟩, .slice none 0 0], none, [(0, 1), (1, 1)], none, true, .other⟩ = 2 ∧ TI.bytes ⟨true, 2, 40, [.string ⟨#[]⟩, .slice none 0 0], none, [(0, 1), (1, 1)], none, true, .other⟩ = 40 := ⟨_, _, ti23, rfl, rfl, (by kernel_rfl : tinfo Tryd.prog 51 = some ⟨true, 2, 40, [.string ⟨#[]⟩, .slice none 0 0], none, [(0, 1), (1, 1)], none, true, .other⟩), rfl, rfl⟩
instance tel23 : TEl Tryd.prog 23 ⟨true, 2, 40, [.string ⟨#[]⟩, .slice none 0 0], none, [(0, 1), (1, 1)], none, true, .other⟩ 2 40 := ⟨te23⟩
theorem ti25 : tinfo Tryd.prog 25 = some ⟨true, 3, 64, [.string ⟨#[]⟩, .slice none 0 0, .slice none 0 0], none, [(0, 1), (1, 1), (2, 1)], none, true, .other⟩ := by kernel_rfl
instance tc25 : TIc Tryd.prog 25 ⟨true, 3, 64, [.string ⟨#[]⟩, .slice none 0 0, .slice none 0 0], none, [(0, 1), (1, 1), (2, 1)], none, true, .other⟩ := ⟨ti25⟩
instance ts25 : TSz Tryd.prog 25 3 64 := ⟨fun ti h => by rw [ti25] at h; injection h with h; rw [← h], fun ti h => by rw [ti25] at h; injection h with h; rw [← h]⟩
theorem ti26 : tinfo Tryd.prog 26 = some ⟨false, 1, 24, [.slice none 0 0], some 9, [], none, false, .slice⟩ := by kernel_rfl
instance tc26 : TIc Tryd.prog 26 ⟨false, 1, 24, [.slice none 0 0], some 9, [], none, false, .slice⟩ := ⟨ti26⟩
instance ts26 : TSz Tryd.prog 26 1 24 := ⟨fun ti h => by rw [ti26] at h; injection h with h; rw [← h], fun ti h => by rw [ti26] at h; injection h with h; rw [← h]⟩
theorem te26 : ∃ ti el, tinfo Tryd.prog 26 = some ti ∧ ti.elem = some el ∧ ti.sh = .slice ∧ tinfo Tryd.prog el = some ⟨false, 1, 16, [.string ⟨#[]⟩], none, [], none, false, .string⟩ ∧ TI.size ⟨false, 1, 16, [.string ⟨#[]⟩], none, [], none, false, .string⟩ = 1 ∧ TI.bytes ⟨false, 1, 16, [.string ⟨#[]⟩], none, [], none, false, .string⟩ = 16 := ⟨_, _, ti26, rfl, rfl, (by kernel_rfl : tinfo Tryd.prog 9 = some ⟨false, 1, 16, [.string ⟨#[]⟩], none, [], none, false, .string⟩), rfl, rfl⟩
instance tel26 : TEl Tryd.prog 26 ⟨false, 1, 16, [.string ⟨#[]⟩], none, [], none, false, .string⟩ 1 16 := ⟨te26⟩
theorem ti30 : tinfo Tryd.prog 30 = some ⟨false, 1, 24, [.slice none 0 0], some 53, [], none, false, .slice⟩ := by kernel_rfl
instance tc30 : TIc Tryd.prog 30 ⟨false, 1, 24, [.slice none 0 0], some 53, [], none, false, .slice⟩ := ⟨ti30⟩
theorem te30 : ∃ ti el, tinfo Tryd.prog 30 = some ti ∧ ti.elem = some el ∧ ti.sh = .slice ∧ tinfo Tryd.prog el = some ⟨true, 3, 40, [.int .i64 0, .slice none 0 0, .int .i64 0], none, [(0, 1), (1, 1), (2, 1)], none, true, .other⟩ ∧ TI.size ⟨true, 3, 40, [.int .i64 0, .slice none 0 0, .int .i64 0], none, [(0, 1), (1, 1), (2, 1)], none, true, .other⟩ = 3 ∧ TI.bytes ⟨true, 3, 40, [.int .i64 0, .slice none 0 0, .int .i64 0], none, [(0, 1), (1, 1), (2, 1)], none, true, .other⟩ = 40 := ⟨_, _, ti30, rfl, rfl, (by kernel_rfl : tinfo Tryd.prog 53 = some ⟨true, 3, 40, [.int .i64 0, .slice none 0 0, .int .i64 0], none, [(0, 1), (1, 1), (2, 1)], none, true, .other⟩), rfl, rfl⟩
instance tel30 : TEl Tryd.prog 30 ⟨true, 3, 40, [.int .i64 0, .slice none 0 0, .int .i64 0], none, [(0, 1), (1, 1), (2, 1)], none, true, .other⟩ 3 40 := ⟨te30⟩
theorem ti32 : tinfo Tryd.prog 32 = some ⟨true, 4, 80, [.slice none 0 0, .slice none 0 0, .int .i64 0, .slice none 0 0], none, [(0, 1), (1, 1), (2, 1), (3, 1)], none, true, .other⟩ := by kernel_rfl
instance tc32 : TIc Tryd.prog 32 ⟨true, 4, 80, [.slice none 0 0, .slice none 0 0, .int .i64 0, .slice none 0 0], none, [(0, 1), (1, 1), (2, 1), (3, 1)], none, true, .other⟩ := ⟨ti32⟩
instance ts32 : TSz Tryd.prog 32 4 80 := ⟨fun ti h => by rw [ti32] at h; injection h with h; rw [← h], fun ti h => by rw [ti32] at h; injection h with h; rw [← h]⟩
theorem ti33 : tinfo Tryd.prog 33 = some ⟨false, 1, 24, [.slice none 0 0], some 3, [], none, false, .slice⟩ := by kernel_rfl
instance tc33 : TIc Tryd.prog 33 ⟨false, 1, 24, [.slice none 0 0], some 3, [], none, false, .slice⟩ := ⟨ti33⟩
theorem te33 : ∃ ti el, tinfo Tryd.prog 33 = some ti ∧ ti.elem = some el ∧ ti.sh = .slice ∧ tinfo Tryd.prog el = some ⟨false, 1, 8, [.int .i64 0], none, [], some .i64, false, .int⟩ ∧ TI.size ⟨false, 1, 8, [.int .i64 0], none, [], some .i64, false, .int⟩ = 1 ∧ TI.bytes ⟨false, 1, 8, [.int .i64 0], none, [], some .i64, false, .int⟩ = 8 := ⟨_, _, ti33, rfl, rfl, (by kernel_rfl : tinfo Tryd.prog 3 = some ⟨false, 1, 8, [.int .i64 0], none, [], some .i64, false, .int⟩), rfl, rfl⟩
instance tel33 : TEl Tryd.prog 33 ⟨false, 1, 8, [.int .i64 0], none, [], some .i64, false, .int⟩ 1 8 := ⟨te33⟩
theorem ti40 : tinfo Tryd.prog 40 = some ⟨false, 1, 24, [.slice none 0 0], some 5, [], none, false, .slice⟩ := by kernel_rfl
instance tc40 : TIc Tryd.prog 40 ⟨false, 1, 24, [.slice none 0 0], some 5, [], none, false, .slice⟩ := ⟨ti40⟩
theorem te40 : ∃ ti el, tinfo Tryd.prog 40 = some ti ∧ ti.elem = some el ∧ ti.sh = .slice ∧ tinfo Tryd.prog el = some ⟨false, 1, 1, [.int .u8 0], none, [], some .u8, false, .int⟩ ∧ TI.size ⟨false, 1, 1, [.int .u8 0], none, [], some .u8, false, .int⟩ = 1 ∧ TI.bytes ⟨false, 1, 1, [.int .u8 0], none, [], some .u8, false, .int⟩ = 1 := ⟨_, _, ti40, rfl, rfl, (by kernel_rfl : tinfo Tryd.prog 5 = some ⟨false, 1, 1, [.int .u8 0], none, [], some .u8, false, .int⟩), rfl, rfl⟩
instance tel40 : TEl Tryd.prog 40 ⟨false, 1, 1, [.int .u8 0], none, [], some .u8, false, .int⟩ 1 1 := ⟨te40⟩
theorem ti43 : tinfo Tryd.prog 43 = some ⟨false, 1, 24, [.slice none 0 0], some 47, [], none, false, .slice⟩ := by kernel_rfl
theorem te43 : ∃ ti el, tinfo Tryd.prog 43 = some ti ∧ ti.elem = some el ∧ ti.sh = .slice ∧ tinfo Tryd.prog el = some ⟨false, 1, 24, [.slice none 0 0], some 46, [], none, false, .slice⟩ ∧ TI.size ⟨false, 1, 24, [.slice none 0 0], some 46, [], none, false, .slice⟩ = 1 ∧ TI.bytes ⟨false, 1, 24, [.slice none 0 0], some 46, [], none, false, .slice⟩ = 24 := ⟨_, _, ti43, rfl, rfl, (by kernel_rfl : tinfo Tryd.prog 47 = some ⟨false, 1, 24, [.slice none 0 0], some 46, [], none, false, .slice⟩), rfl, rfl⟩
instance tel43 : TEl Tryd.prog 43 ⟨false, 1, 24, [.slice none 0 0], some 46, [], none, false, .slice⟩ 1 24 := ⟨te43⟩
theorem ti46 : tinfo Tryd.prog 46 = some ⟨false, 1, 24, [.slice none 0 0], some 4, [], none, false, .slice⟩ := by kernel_rfl
instance tc46 : TIc Tryd.prog 46 ⟨false, 1, 24, [.slice none 0 0], some 4, [], none, false, .slice⟩ := ⟨ti46⟩
theorem te46 : ∃ ti el, tinfo Tryd.prog 46 = some ti ∧ ti.elem = some el ∧ ti.sh = .slice ∧ tinfo Tryd.prog el = some ⟨false, 1, 1, [.bool false], none, [], none, false, .other⟩ ∧ TI.size ⟨false, 1, 1, [.bool false], none, [], none, false, .other⟩ = 1 ∧ TI.bytes ⟨false, 1, 1, [.bool false], none, [], none, false, .other⟩ = 1 := ⟨_, _, ti46, rfl, rfl, (by kernel_rfl : tinfo Tryd.prog 4 = some ⟨false, 1, 1, [.bool false], none, [], none, false, .other⟩), rfl, rfl⟩
instance tel46 : TEl Tryd.prog 46 ⟨false, 1, 1, [.bool false], none, [], none, false, .other⟩ 1 1 := ⟨te46⟩
theorem ti47 : tinfo Tryd.prog 47 = some ⟨false, 1, 24, [.slice none 0 0], some 46, [], none, false, .slice⟩ := by kernel_rfl
instance tc47 : TIc Tryd.prog 47 ⟨false, 1, 24, [.slice none 0 0], some 46, [], none, false, .slice⟩ := ⟨ti47⟩
theorem te47 : ∃ ti el, tinfo Tryd.prog 47 = some ti ∧ ti.elem = some el ∧ ti.sh = .slice ∧ tinfo Tryd.prog el = some ⟨false, 1, 24, [.slice none 0 0], some 4, [], none, false, .slice⟩ ∧ TI.size ⟨false, 1, 24, [.slice none 0 0], some 4, [], none, false, .slice⟩ = 1 ∧ TI.bytes ⟨false, 1, 24, [.slice none 0 0], some 4, [], none, false, .slice⟩ = 24 := ⟨_, _, ti47, rfl, rfl, (by kernel_rfl : tinfo Tryd.prog 46 = some ⟨false, 1, 24, [.slice none 0 0], some 4, [], none, false, .slice⟩), rfl, rfl⟩
instance tel47 : TEl Tryd.prog 47 ⟨false, 1, 24, [.slice none 0 0], some 4, [], none, false, .slice⟩ 1 24 := ⟨te47⟩
theorem ti49 : tinfo Tryd.prog 49 = some ⟨false, 1, 24, [.slice none 0 0], some 58, [], none, false, .slice⟩ := by kernel_rfl
instance tc49 : TIc Tryd.prog 49 ⟨false, 1, 24, [.slice none 0 0], some 58, [], none, false, .slice⟩ := ⟨ti49⟩
theorem te49 : ∃ ti el, tinfo Tryd.prog 49 = some ti ∧ ti.elem = some el ∧ ti.sh = .slice ∧ tinfo Tryd.prog el = some ⟨true, 4, 56, [.int .i64 0, .string ⟨#[]⟩, .slice none 0 0, .int .i64 0], none, [(0, 3), (3, 1)], none, true, .other⟩ ∧ TI.size ⟨true, 4, 56, [.int .i64 0, .string ⟨#[]⟩, .slice none 0 0, .int .i64 0], none, [(0, 3), (3, 1)], none, true, .other⟩ = 4 ∧ TI.bytes ⟨true, 4, 56, [.int .i64 0, .string ⟨#[]⟩, .slice none 0 0, .int .i64 0], none, [(0, 3), (3, 1)], none, true, .other⟩ = 56 := ⟨_, _, ti49, rfl, rfl, (by kernel_rfl : tinfo Tryd.prog 58 = some ⟨true, 4, 56, [.int .i64 0, .string ⟨#[]⟩, .slice none 0 0, .int .i64 0], none, [(0, 3), (3, 1)], none, true, .other⟩), rfl, rfl⟩
instance tel49 : TEl Tryd.prog 49 ⟨true, 4, 56, [.int .i64 0, .string ⟨#[]⟩, .slice none 0 0, .int .i64 0], none, [(0, 3), (3, 1)], none, true, .other⟩ 4 56 := ⟨te49⟩
theorem ti51 : tinfo Tryd.prog 51 = some ⟨true, 2, 40, [.string ⟨#[]⟩, .slice none 0 0], none, [(0, 1), (1, 1)], none, true, .other⟩ := by kernel_rfl
instance tc51 : TIc Tryd.prog 51 ⟨true, 2, 40, [.string ⟨#[]⟩, .slice none 0 0], none, [(0, 1), (1, 1)], none, true, .other⟩ := ⟨ti51⟩
instance ts51 : TSz Tryd.prog 51 2 40 := ⟨fun ti h => by rw [ti51] at h; injection h with h; rw [← h], fun ti h => by rw [ti51] at h; injection h with h; rw [← h]⟩
theorem ti53 : tinfo Tryd.prog 53 = some ⟨true, 3, 40, [.int .i64 0, .slice none 0 0, .int .i64 0], none, [(0, 1), (1, 1), (2, 1)], none, true, .other⟩ := by kernel_rfl
instance tc53 : TIc Tryd.prog 53 ⟨true, 3, 40, [.int .i64 0, .slice none 0 0, .int .i64 0], none, [(0, 1), (1, 1), (2, 1)], none, true, .other⟩ := ⟨ti53⟩
instance ts53 : TSz Tryd.prog 53 3 40 := ⟨fun ti h => by rw [ti53] at h; injection h with h; rw [← h], fun ti h => by rw [ti53] at h; injection h with h; rw [← h]⟩
theorem ti54 : tinfo Tryd.prog 54 = some ⟨false, 1, 24, [.slice none 0 0], some 56, [], none, false, .slice⟩ := by kernel_rfl
instance tc54 : TIc Tryd.prog 54 ⟨false, 1, 24, [.slice none 0 0], some 56, [], none, false, .slice⟩ := ⟨ti54⟩
theorem te54 : ∃ ti el, tinfo Tryd.prog 54 = some ti ∧ ti.elem = some el ∧ ti.sh = .slice ∧ tinfo Tryd.prog el = some ⟨true, 3, 48, [.int .i64 0, .string ⟨#[]⟩, .slice none 0 0], none, [(0, 1), (1, 1), (2, 1)], none, true, .other⟩ ∧ TI.size ⟨true, 3, 48, [.int .i64 0, .string ⟨#[]⟩, .slice none 0 0], none, [(0, 1), (1, 1), (2, 1)], none, true, .other⟩ = 3 ∧ TI.bytes ⟨true, 3, 48, [.int .i64 0, .string ⟨#[]⟩, .slice none 0 0], none, [(0, 1), (1, 1), (2, 1)], none, true, .other⟩ = 48 := ⟨_, _, ti54, rfl, rfl, (by kernel_rfl : tinfo Tryd.prog 56 = some ⟨true, 3, 48, [.int .i64 0, .string ⟨#[]⟩, .slice none 0 0], none, [(0, 1), (1, 1), (2, 1)], none, true, .other⟩), rfl, rfl⟩
instance tel54 : TEl Tryd.prog 54 ⟨true, 3, 48, [.int .i64 0, .string ⟨#[]⟩, .slice none 0 0], none, [(0, 1), (1, 1), (2, 1)], none, true, .other⟩ 3 48 := ⟨te54⟩
theorem ti56 : tinfo Tryd.prog 56 = some ⟨true, 3, 48, [.int .i64 0, .string ⟨#[]⟩, .slice none 0 0], none, [(0, 1), (1, 1), (2, 1)], none, true, .other⟩ := by kernel_rfl
instance tc56 : TIc Tryd.prog 56 ⟨true, 3, 48, [.int .i64 0, .string ⟨#[]⟩, .slice none 0 0], none, [(0, 1), (1, 1), (2, 1)], none, true, .other⟩ := ⟨ti56⟩
instance ts56 : TSz Tryd.prog 56 3 48 := ⟨fun ti h => by rw [ti56] at h; injection h with h; rw [← h], fun ti h => by rw [ti56] at h; injection h with h; rw [← h]⟩
theorem ti58 : tinfo Tryd.prog 58 = some ⟨true, 4, 56, [.int .i64 0, .string ⟨#[]⟩, .slice none 0 0, .int .i64 0], none, [(0, 3), (3, 1)], none, true, .other⟩ := by kernel_rfl
instance tc58 : TIc Tryd.prog 58 ⟨true, 4, 56, [.int .i64 0, .string ⟨#[]⟩, .slice none 0 0, .int .i64 0], none, [(0, 3), (3, 1)], none, true, .other⟩ := ⟨ti58⟩
instance ts58 : TSz Tryd.prog 58 4 56 := ⟨fun ti h => by rw [ti58] at h; injection h with h; rw [← h], fun ti h => by rw [ti58] at h; injection h with h; rw [← h]⟩
theorem ti63 : tinfo Tryd.prog 63 = some ⟨true, 2, 32, [.int .i64 0, .slice none 0 0], none, [(0, 1), (1, 1)], none, true, .other⟩ := by kernel_rfl
instance tc63 : TIc Tryd.prog 63 ⟨true, 2, 32, [.int .i64 0, .slice none 0 0], none, [(0, 1), (1, 1)], none, true, .other⟩ := ⟨ti63⟩
instance ts63 : TSz Tryd.prog 63 2 32 := ⟨fun ti h => by rw [ti63] at h; injection h with h; rw [← h], fun ti h => by rw [ti63] at h; injection h with h; rw [← h]⟩
theorem ti66 : tinfo Tryd.prog 66 = some ⟨false, 1, 24, [.slice none 0 0], some 77, [], none, false, .slice⟩ := by kernel_rfl
instance tc66 : TIc Tryd.prog 66 ⟨false, 1, 24, [.slice none 0 0], some 77, [], none, false, .slice⟩ := ⟨ti66⟩
theorem te66 : ∃ ti el, tinfo Tryd.prog 66 = some ti ∧ ti.elem = some el ∧ ti.sh = .slice ∧ tinfo Tryd.prog el = some ⟨true, 2, 40, [.string ⟨#[]⟩, .slice none 0 0], none, [(0, 1), (1, 1)], none, true, .other⟩ ∧ TI.size ⟨true, 2, 40, [.string ⟨#[]⟩, .slice none 0 0], none, [(0, 1), (1, 1)], none, true, .other⟩ = 2 ∧ TI.bytes ⟨true, 2, 40, [.string ⟨#[]⟩, .slice none 0 0], none, [(0, 1), (1, 1)], none, true, .other⟩ = 40 := ⟨_, _, ti66, rfl, rfl, (by kernel_rfl : tinfo Tryd.prog 77 = some ⟨true, 2, 40, [.string ⟨#[]⟩, .slice none 0 0], none, [(0, 1), (1, 1)], none, true, .other⟩), rfl, rfl⟩
instance tel66 : TEl Tryd.prog 66 ⟨true, 2, 40, [.string ⟨#[]⟩, .slice none 0 0], none, [(0, 1), (1, 1)], none, true, .other⟩ 2 40 := ⟨te66⟩
theorem ti68 : tinfo Tryd.prog 68 = some ⟨true, 6, 104, [.slice none 0 0, .slice none 0 0, .string ⟨#[]⟩, .int .i64 0, .slice none 0 0, .bool false], none, [(0, 1), (1, 1), (2, 1), (3, 1), (4, 1), (5, 1)], none, true, .other⟩ := by kernel_rfl
instance tc68 : TIc Tryd.prog 68 ⟨true, 6, 104, [.slice none 0 0, .slice none 0 0, .string ⟨#[]⟩, .int .i64 0, .slice none 0 0, .bool false], none, [(0, 1), (1, 1), (2, 1), (3, 1), (4, 1), (5, 1)], none, true, .other⟩ := ⟨ti68⟩
instance ts68 : TSz Tryd.prog 68 6 104 := ⟨fun ti h => by rw [ti68] at h; injection h with h; rw [← h], fun ti h => by rw [ti68] at h; injection h with h; rw [← h]⟩
theorem ti75 : tinfo Tryd.prog 75 = some ⟨false, 1, 24, [.slice none 0 0], some 33, [], none, false, .slice⟩ := by kernel_rfl
instance tc75 : TIc Tryd.prog 75 ⟨false, 1, 24, [.slice none 0 0], some 33, [], none, false, .slice⟩ := ⟨ti75⟩
theorem te75 : ∃ ti el, tinfo Tryd.prog 75 = some ti ∧ ti.elem = some el ∧ ti.sh = .slice ∧ tinfo Tryd.prog el = some ⟨false, 1, 24, [.slice none 0 0], some 3, [], none, false, .slice⟩ ∧ TI.size ⟨false, 1, 24, [.slice none 0 0], some 3, [], none, false, .slice⟩ = 1 ∧ TI.bytes ⟨false, 1, 24, [.slice none 0 0], some 3, [], none, false, .slice⟩ = 24 := ⟨_, _, ti75, rfl, rfl, (by kernel_rfl : tinfo Tryd.prog 33 = some ⟨false, 1, 24, [.slice none 0 0], some 3, [], none, false, .slice⟩), rfl, rfl⟩
instance tel75 : TEl Tryd.prog 75 ⟨false, 1, 24, [.slice none 0 0], some 3, [], none, false, .slice⟩ 1 24 := ⟨te75⟩
theorem ti77 : tinfo Tryd.prog 77 = some ⟨true, 2, 40, [.string ⟨#[]⟩, .slice none 0 0], none, [(0, 1), (1, 1)], none, true, .other⟩ := by kernel_rfl
instance tc77 : TIc Tryd.prog 77 ⟨true, 2, 40, [.string ⟨#[]⟩, .slice none 0 0], none, [(0, 1), (1, 1)], none, true, .other⟩ := ⟨ti77⟩
instance ts77 : TSz Tryd.prog 77 2 40 := ⟨fun ti h => by rw [ti77] at h; injection h with h; rw [← h], fun ti h => by rw [ti77] at h; injection h with h; rw [← h]⟩
theorem ti104 : tinfo Tryd.prog 104 = some ⟨false, 1, 24, [.slice none 0 0], some 26, [], none, false, .slice⟩ := by kernel_rfl
instance tc104 : TIc Tryd.prog 104 ⟨false, 1, 24, [.slice none 0 0], some 26, [], none, false, .slice⟩ := ⟨ti104⟩
theorem te104 : ∃ ti el, tinfo Tryd.prog 104 = some ti ∧ ti.elem = some el ∧ ti.sh = .slice ∧ tinfo Tryd.prog el = some ⟨false, 1, 24, [.slice none 0 0], some 9, [], none, false, .slice⟩ ∧ TI.size ⟨false, 1, 24, [.slice none 0 0], some 9, [], none, false, .slice⟩ = 1 ∧ TI.bytes ⟨false, 1, 24, [.slice none 0 0], some 9, [], none, false, .slice⟩ = 24 := ⟨_, _, ti104, rfl, rfl, (by kernel_rfl : tinfo Tryd.prog 26 = some ⟨false, 1, 24, [.slice none 0 0], some 9, [], none, false, .slice⟩), rfl, rfl⟩
instance tel104 : TEl Tryd.prog 104 ⟨false, 1, 24, [.slice none 0 0], some 9, [], none, false, .slice⟩ 1 24 := ⟨te104⟩
theorem ti105 : tinfo Tryd.prog 105 = some ⟨true, 0, 0, [], none, [], none, true, .other⟩ := by kernel_rfl
instance tc105 : TIc Tryd.prog 105 ⟨true, 0, 0, [], none, [], none, true, .other⟩ := ⟨ti105⟩
instance tmp103 : TMp Tryd.prog 103 (.string) 105 (.agg []) := ⟨⟨9, by kernel_rfl, by kernel_rfl⟩⟩
end
end Go.Lg

namespace Go.Lg
def intA (n : Int) : AV := .val (.int .i64 n)
def boolA (b : Bool) : AV := .val (.bool b)
def strA (s : ByteArray) : AV := .val (.string s)
def intsA (l : List Int) : AV := .sl 1 (l.map intA)
def boolsA (l : List Bool) : AV := .sl 1 (l.map boolA)
def strsA (l : List ByteArray) : AV := .sl 1 (l.map strA)
@[simp] theorem bd_intA (n : Nat) (x : Int) : (intA x).bd n = true := rfl
@[simp] theorem bd_boolA (n : Nat) (x : Bool) : (boolA x).bd n = true := rfl
@[simp] theorem bd_strA (n : Nat) (x : ByteArray) : (strA x).bd n = true := rfl
@[simp] theorem bd_intsA (n : Nat) (l : List Int) : (intsA l).bd n = true := bdL_map (fun _ => rfl) l
@[simp] theorem bd_boolsA (n : Nat) (l : List Bool) : (boolsA l).bd n = true := bdL_map (fun _ => rfl) l
@[simp] theorem bd_strsA (n : Nat) (l : List ByteArray) : (strsA l).bd n = true := bdL_map (fun _ => rfl) l
@[simp] theorem bdL_intA (n : Nat) (l : List Int) : bdL n (l.map intA) = true := bdL_map (fun _ => rfl) l
@[simp] theorem bdL_boolA (n : Nat) (l : List Bool) : bdL n (l.map boolA) = true := bdL_map (fun _ => rfl) l
@[simp] theorem bdL_strA (n : Nat) (l : List ByteArray) : bdL n (l.map strA) = true := bdL_map (fun _ => rfl) l
@[simp] theorem bdL_rep {n k : Nat} {x : AV} (h : x.bd n = true) : bdL n (List.replicate k x) = true := by
  rw [bdL_iff]; intro y hy; rw [(List.mem_replicate.1 hy).2]; exact h
@[simp] theorem bd_byteA (n : Nat) (x : UInt8) : (byteA x).bd n = true := rfl
@[simp] theorem bdL_byteA (n : Nat) (l : List UInt8) : bdL n (l.map byteA) = true := bdL_map (fun _ => rfl) l
theorem mapA_bd {κ α : Type} {kf : κ → Value} {f : α → AV} {n : Nat} (h : ∀ x, (f x).bd n = true) (m : List (κ × α)) : ∀ p, p ∈ mapA kf f m → p.2.bd n = true := by
  intro p hp
  obtain ⟨q, _, rfl⟩ := List.mem_map.1 hp
  exact h q.2
theorem mapA_all {κ α : Type} {kf : κ → Value} {f : α → AV} {n : Nat} (h : ∀ x, (f x).bd n = true) (m : List (κ × α)) : ((mapA kf f m).all fun p => p.2.bd n) = true := by
  rw [List.all_eq_true]; exact mapA_bd h m
section
variable {κ α : Type} [DecidableEq κ]
theorem afind_ge {k : κ} : ∀ {m : List (κ × α)} {i : Nat} {p : Nat × α}, afind k m i = some p → i ≤ p.1 ∧ m[p.1 - i]? = some (k, p.2)
  | [], _, _, h => by simp [afind] at h
  | q :: m, i, p, h => by
    simp only [afind] at h
    split at h
    · rename_i e; injection h with h; subst h; subst e; simp
    · have ih := afind_ge (m := m) h
      refine ⟨by omega, ?_⟩
      rw [show p.1 - i = (p.1 - (i + 1)) + 1 by omega]; simpa using ih.2
theorem afind_none {k : κ} : ∀ {m : List (κ × α)} {i : Nat}, afind k m i = none ↔ ∀ p, p ∈ m → p.1 ≠ k
  | [], _ => by simp [afind]
  | q :: m, i => by
    simp only [afind]
    split
    · rename_i e; subst e; simp
    · rename_i e
      rw [afind_none (m := m)]
      simp only [List.mem_cons, forall_eq_or_imp, ne_eq]
      exact ⟨fun h => ⟨fun h' => e h'.symm, h⟩, fun h => h.2⟩
theorem afind_app {k : κ} : ∀ {m m' : List (κ × α)} {i : Nat}, (∀ p, p ∈ m → p.1 ≠ k) → afind k (m ++ m') i = afind k m' (i + m.length)
  | [], _, _, _ => by simp
  | q :: m, m', i, h => by
    have h0 : ¬ k = q.1 := fun e => h q (by simp) e.symm
    simp only [List.cons_append, afind, if_neg h0]
    rw [afind_app (m := m) (fun p hp => h p (by simp [hp]))]
    simp only [List.length_cons]; congr 1; omega
theorem aget_aset {m : List (κ × α)} {k x : κ} {v : α} : aget (aset m k v) x = if x = k then some v else aget m x := by
  unfold aset
  cases hf : afind k m 0 with
  | none =>
    rw [afind_none] at hf
    simp only
    by_cases e : x = k
    · subst e
      rw [if_pos rfl, aget, afind_app hf]; simp [afind]
    · rw [if_neg e]
      simp only [aget]
      have gen : ∀ (m : List (κ × α)) (i : Nat), (afind x (m ++ [(k, v)]) i).map (·.2) = (afind x m i).map (·.2) := by
        intro m
        induction m with
        | nil => intro i; simp [afind, e]
        | cons q m ih => intro i; simp only [List.cons_append, afind]; split
                         · rfl
                         · exact ih _
      exact gen m 0
  | some p =>
    obtain ⟨j, u⟩ := p
    obtain ⟨_, hj⟩ := afind_ge hf
    simp only [Nat.sub_zero] at hj
    simp only
    have gen : ∀ (m : List (κ × α)) (j i : Nat), m[j]? = some (k, u) → (∀ n, n < j → ∀ q, m[n]? = some q → q.1 ≠ k) → (afind x (m.set j (k, v)) i).map (·.2) = if x = k then some v else (afind x m i).map (·.2) := by
      intro m
      induction m with
      | nil => intro j i h; simp at h
      | cons q m ih =>
        intro j i h hn
        cases j with
        | zero =>
          simp at h; subst h
          simp only [List.set_cons_zero, afind]
          by_cases e : x = k
          · simp [e]
          · simp [e]
        | succ j =>
          simp only [List.set_cons_succ, afind]
          by_cases e : x = q.1
          · have hq := hn 0 (by omega) q rfl
            have : ¬ x = k := fun e' => hq (e ▸ e')
            simp [e, show ¬ q.1 = k from hq]
          · rw [if_neg e, if_neg e]
            exact ih j (i + 1) (by simpa using h) (fun n hn' q hq => hn (n + 1) (by omega) q (by simpa using hq))
    have first : ∀ (m : List (κ × α)) (i j : Nat), afind k m i = some (j, u) → ∀ n, n < j - i → ∀ q, m[n]? = some q → q.1 ≠ k := by
      intro m
      induction m with
      | nil => intro i j h; simp [afind] at h
      | cons q m ih =>
        intro i j h n hn q' hq'
        simp only [afind] at h
        split at h
        · injection h with h; simp at h; omega
        · rename_i e
          cases n with
          | zero => simp at hq'; subst hq'; exact fun e' => e e'.symm
          | succ n => exact ih (i + 1) j h n (by omega) q' (by simpa using hq')
    exact gen m j 0 hj (fun n hn => first m 0 j hf n (by omega))
end
@[simp] theorem lens_intsA (l : List Int) : (intsA l).lens ↔ l.length ≤ 9223372036854775807 := by simp [intsA, AV.lens, lensL_map, intA]
@[simp] theorem lens_boolsA (l : List Bool) : (boolsA l).lens ↔ l.length ≤ 9223372036854775807 := by simp [boolsA, AV.lens, lensL_map, boolA]
@[simp] theorem lens_strsA (l : List ByteArray) : (strsA l).lens ↔ l.length ≤ 9223372036854775807 := by simp [strsA, AV.lens, lensL_map, strA]
@[simp] theorem lens_intA (x : Int) : (intA x).lens := trivial
theorem Fz.plain {α : Type} {look : Nat → Option AObj} {id n k : Nat} {f : α → AV} {l : List α} (hlook : look id = some (.arr k (l.map f))) (hn : l.length = n) (hb : ∀ x, (f x).bd 0 = true) (hk : ∀ x, (f x).cells.length = k) : Fz look (.ref id k 0 n) (.sl k (l.map f)) :=
  .row hlook (by simpa using hn) (bdL_map hb l) fun e he => by obtain ⟨x, _, rfl⟩ := List.mem_map.1 he; exact hk x
end Go.Lg

namespace Go.Lg
end Go.Lg

namespace Go.Lg
inductive GEx where
  | mk (kind : Int) (name : ByteArray) (kids : List GEx)
namespace GEx
def kind : GEx → Int | .mk k _ _ => k
def name : GEx → ByteArray | .mk _ n _ => n
def kids : GEx → List GEx | .mk _ _ l => l
theorem ind {P : GEx → Prop} (h : ∀ e : GEx, (∀ x, x ∈ e.kids → P x) → P e) : ∀ e, P e :=
  fun e => GEx.rec (motive_1 := P) (motive_2 := fun l => ∀ x, x ∈ l → P x) (fun k n l ih => h _ ih) (fun x hx => by cases hx) (fun a l ha hl x hx => by
    rcases List.mem_cons.1 hx with rfl | hx
    · exact ha
    · exact hl x hx) e
theorem ext' {a b : GEx} (h1 : a.kind = b.kind) (h2 : a.name = b.name) (h3 : a.kids = b.kids) : a = b := by
  cases a; cases b; simp only [kind, name, kids] at h1 h2 h3; subst h1 h2 h3; rfl
end GEx
instance : Inhabited GEx := ⟨.mk 0 ByteArray.empty []⟩
mutual
def kidsL : GEx → List AV
  | .mk _ _ l => exprsL l
def exprsL : List GEx → List AV
  | [] => []
  | e :: l => .agg [intA e.kind, strA e.name, .sl 3 (kidsL e)] :: exprsL l
end
def exprA (e : GEx) : AV := .agg [intA e.kind, strA e.name, .sl 3 (kidsL e)]
theorem exprsL_map : ∀ l : List GEx, exprsL l = l.map exprA
  | [] => rfl
  | e :: l => by rw [exprsL, exprsL_map l]; rfl
theorem kidsL_map (e : GEx) : kidsL e = e.kids.map exprA := by cases e; rw [kidsL, exprsL_map]; rfl
@[simp] theorem kidsL_len (e : GEx) : (kidsL e).length = e.kids.length := by rw [kidsL_map, List.length_map]
theorem exprA_eq (e : GEx) : exprA e = .agg [intA e.kind, strA e.name, .sl 3 (e.kids.map exprA)] := by rw [exprA, kidsL_map]
@[simp] theorem bd_exprA (n : Nat) (e : GEx) : (exprA e).bd n = true := by
  induction e using GEx.ind with
  | h e ih =>
    rw [exprA_eq]
    have : bdL n (e.kids.map exprA) = true := by
      rw [bdL_iff]
      intro x hx
      obtain ⟨y, hy, rfl⟩ := List.mem_map.1 hx
      exact ih y hy
    simp [AV.bd, bdL, this]
@[simp] theorem bdL_exprs (n : Nat) (l : List GEx) : bdL n (l.map exprA) = true := bdL_map (bd_exprA n) l
@[simp] theorem bdL_kidsL (n : Nat) (e : GEx) : bdL n (kidsL e) = true := by rw [kidsL_map]; exact bdL_exprs n _
structure GAl where
  body : GEx
  price : Int
structure GRu where
  name : ByteArray
  alts : List GAl
structure GLe where
  assoc : Int
  tokens : List ByteArray
structure GFi where
  start : ByteArray
  levels : List GLe
  rules : List GRu
instance : Inhabited GAl := ⟨⟨default, 0⟩⟩
instance : Inhabited GRu := ⟨⟨ByteArray.empty, []⟩⟩
instance : Inhabited GLe := ⟨⟨0, []⟩⟩
def altA (a : GAl) : AV := .agg [intA a.body.kind, strA a.body.name, .sl 3 (kidsL a.body), intA a.price]
def altsA (l : List GAl) : AV := .sl 4 (l.map altA)
def gruleA (r : GRu) : AV := .agg [strA r.name, altsA r.alts]
def grulesA (l : List GRu) : AV := .sl 2 (l.map gruleA)
def levelA (l : GLe) : AV := .agg [intA l.assoc, strsA l.tokens]
def levelsA (l : List GLe) : AV := .sl 2 (l.map levelA)
def fileA (f : GFi) : AV := .agg [strA f.start, levelsA f.levels, grulesA f.rules]
@[simp] theorem bd_altA (n : Nat) (a : GAl) : (altA a).bd n = true := by simp [altA, AV.bd, bdL]
@[simp] theorem bdL_altA (n : Nat) (l : List GAl) : bdL n (l.map altA) = true := bdL_map (bd_altA n) l
@[simp] theorem bd_altsA (n : Nat) (l : List GAl) : (altsA l).bd n = true := bdL_altA n l
@[simp] theorem bd_gruleA (n : Nat) (r : GRu) : (gruleA r).bd n = true := by simp [gruleA, AV.bd, bdL]
@[simp] theorem bdL_gruleA (n : Nat) (l : List GRu) : bdL n (l.map gruleA) = true := bdL_map (bd_gruleA n) l
@[simp] theorem bd_grulesA (n : Nat) (l : List GRu) : (grulesA l).bd n = true := bdL_gruleA n l
@[simp] theorem bd_levelA (n : Nat) (l : GLe) : (levelA l).bd n = true := by simp [levelA, AV.bd, bdL]
@[simp] theorem bdL_levelA (n : Nat) (l : List GLe) : bdL n (l.map levelA) = true := bdL_map (bd_levelA n) l
@[simp] theorem bd_levelsA (n : Nat) (l : List GLe) : (levelsA l).bd n = true := bdL_levelA n l
@[simp] theorem bd_fileA (n : Nat) (f : GFi) : (fileA f).bd n = true := by simp [fileA, AV.bd, bdL]
end Go.Lg

namespace Go.Lg
structure Rul where
  head : Int
  body : List Int
  price : Int
  deriving DecidableEq
structure Gram where
  terms : List ByteArray
  nonterms : List ByteArray
  start : Int
  rules : List Rul
  deriving DecidableEq
def ruleA (r : Rul) : AV := .agg [intA r.head, intsA r.body, intA r.price]
def rulesA (l : List Rul) : AV := .sl 3 (l.map ruleA)
def gramA (g : Gram) : AV := .agg [strsA g.terms, strsA g.nonterms, intA g.start, rulesA g.rules]
@[simp] theorem bd_ruleA (n : Nat) (r : Rul) : (ruleA r).bd n = true := by simp [ruleA, AV.bd, bdL]
@[simp] theorem bdL_ruleA (n : Nat) (l : List Rul) : bdL n (l.map ruleA) = true := bdL_map (bd_ruleA n) l
@[simp] theorem bd_rulesA (n : Nat) (l : List Rul) : (rulesA l).bd n = true := bdL_ruleA n l
@[simp] theorem bd_gramA (n : Nat) (g : Gram) : (gramA g).bd n = true := by simp [gramA, AV.bd, bdL]
theorem renL_rules (π : Nat → Nat) (l : List Rul) : renL π (l.map ruleA) = l.map ruleA := renL_map (bd_ruleA 0) l
def Gram.fit (g : Gram) : Prop := g.terms.length ≤ 9223372036854775807 ∧ g.nonterms.length ≤ 9223372036854775807 ∧ g.rules.length ≤ 9223372036854775807 ∧ ∀ r, r ∈ g.rules → r.body.length ≤ 9223372036854775807
theorem lens_gramA (g : Gram) : (gramA g).lens ↔ g.fit := by
  simp [gramA, AV.lens, lensL, rulesA, lensL_map, ruleA, Gram.fit, intA]
instance : Inhabited Rul := ⟨⟨0, [], 0⟩⟩
section
variable {P : Program} {n M N i : Nat} {l : List (Nat × AV)} {os : List (Nat × Option AObj)} {a b : Operand} {d : Tmp} {ty : TypeId} {pos : String} {af : Array Edge} {ops : Array Oper} {rest : List Oper} {KK : List Rec → St → Prop} {K : St → Prop} {rs : List Rec}
theorem se_app1R {L : List Rul} {h p : Int} {bd : List Int} {te tj : TI} {tx : TypeId} {bt id id2 len : Nat} [ht : TEl P ty te 3 bt] [h3 : TIc P tx tj] (hsh : (match tj.sh with | .int => false | _ => true) = true) (ha : opq n l a = some (.ref id 3 0 len)) (ho : lookq M os id = some (.arr 3 (L.map ruleA))) (hl : L.length = len)
    (hb : opq n l b = some (.ref id2 3 0 1)) (ho2 : lookq M os id2 = some (.arr 3 [.agg [intA h, intsA bd, intA p]])) (hz0 : (zeroA te).isSome = true) (hbt : Nat.beq bt 0 = false) (hr : (L.length + 1) * bt ≤ 140737488355328) {ty2 : TypeId} (hk : asemC P ops rest (S n ((d, .ref M 3 0 (L ++ [(⟨h, bd, p⟩ : Rul)]).length) :: l) (M + 1) ((M, some (.arr 3 ((L ++ [(⟨h, bd, p⟩ : Rul)]).map ruleA))) :: (id, none) :: os)) K) :
    asemC P ops (⟨some d, .call ⟨.builtin .append, #[a, b], #[ty, tx]⟩, ty2, pos, af, none⟩ :: rest) (S n l M os) K :=
  se_app1 (v := (⟨h, bd, p⟩ : Rul)) hsh ha ho hl hb ho2 hz0 hbt hr hk
theorem rd_app1R {L : List Rul} {h p : Int} {bd : List Int} {te tj : TI} {tx : TypeId} {bt id id2 len : Nat} [ht : TEl P ty te 3 bt] [h3 : TIc P tx tj] (hsh : (match tj.sh with | .int => false | _ => true) = true) (ha : opq n l a = some (.ref id 3 0 len)) (ho : lookq M os id = some (.arr 3 (L.map ruleA))) (hl : L.length = len)
    (hb : opq n l b = some (.ref id2 3 0 1)) (ho2 : lookq M os id2 = some (.arr 3 [.agg [intA h, intsA bd, intA p]])) (hz0 : (zeroA te).isSome = true) (hbt : Nat.beq bt 0 = false) (hr : (L.length + 1) * bt ≤ 140737488355328) {ty2 : TypeId}
    (hk : RunD P ops N (i + 1) rest (S n ((d, .ref (N + i) 3 0 (L ++ [(⟨h, bd, p⟩ : Rul)]).length) :: l) M ((N + i, some (.arr 3 ((L ++ [(⟨h, bd, p⟩ : Rul)]).map ruleA))) :: (id, none) :: os)) (rs ++ [⟨some d, [id, N + i], topq n l [a, b]⟩]) KK) :
    RunD P ops N i (⟨some d, .call ⟨.builtin .append, #[a, b], #[ty, tx]⟩, ty2, pos, af, none⟩ :: rest) (S n l M os) rs KK :=
  rd_app1 (v := (⟨h, bd, p⟩ : Rul)) hsh ha ho hl hb ho2 hz0 hbt hr hk
end
end Go.Lg
