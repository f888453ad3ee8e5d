/-
  x
-/
import Derived.Test.YtjenalojiheapaaRf8
import Derived.Shelf.Strings.Search1
import Derived.Shelf.Strings.Search2
import Derived.Shelf.Strings.Search3
import Derived.Shelf.LaysM
import Derived.Shelf.Strings.Shaped
import Derived.Ground.Names2Prog
import Derived.Shelf.Slices.Clone
import Derived.Ground.SlgnProg
import Derived.Shelf.SlicesE.Clone
import Derived.Test.YtjenalojiheapaaProg

set_option linter.unusedSimpArgs false
set_option linter.unusedVariables false
set_option linter.unusedSectionVars false

/-
  DERIVED: THE SHELF's CONTRACTS AT THIS DUMP, IN PLAIN WORDS (tools/lay-plain.mjs out of 'TryShelf.lean', which tools/lay-shelf.mjs wrote): THE SAME DECLARATIONS UNDER THE SAME NAMES: 'import', 'namespace', 'open', 'def', 'theorem' AND NOTHING ELSE: no command of the shelf's: FOR A HAND-IN. Each laying: the table of numbers ('.._ren') and one theorem, a field a fact of the dump's own or the kernel's comparison; each contract: ONE APPLICATION.
-/
namespace Go.Proofs
open Go.Shelf
def Try.lays217_ren : Go.Shelf.Ren := ⟨fun | 217 => 46 | 266 => 50 | n => n, fun | 9 => 9 | 5 => 5 | 3 => 3 | n => n, fun | n => n⟩
theorem Try.lays217 : Go.Proofs.Lays.n217 Try.prog Try.lays217_ren := {
  mixed := by kernel_rfl
  f217 := Try.func46.trans (congrArg some (by kernel_rfl))
  f266 := Try.func50.trans (congrArg some (by kernel_rfl))
  t3 := Try.underlying3
  a3 := Try.isAgg3
  z3 := Try.sizeOf3
  v3 := Try.zeroValue3
  t5 := Try.underlying5
  a5 := Try.isAgg5
  z5 := Try.sizeOf5
  v5 := Try.zeroValue5
  t9 := Try.underlying9
  a9 := Try.isAgg9
  z9 := Try.sizeOf9
  v9 := Try.zeroValue9 }
open Go.RowKit Go.Lib in
/-- internal/stringslite.IndexByte (what strings.IndexByte calls): IT RETURNS 'Lib.indexByte s c'; the world is as it was. (LAID: no walk: one application.) -/
theorem Try.stringslite_IndexByte (s : ByteArray) (c : Int) (w : World) :
    Calls Try.prog 46 #[.string s, .int .u8 c] w fun e w' => e = .returned (.int .i64 (Lib.indexByte s.data.toList c.toNat.toUInt8)) ∧ w' = w := Any.stringslite_IndexByte Try.lays217 s c w
def Try.lays224_ren : Go.Shelf.Ren := ⟨fun | 224 => 48 | n => n, fun | 3 => 3 | n => n, fun | n => n⟩
theorem Try.lays224 : Go.Proofs.Lays.n224 Try.prog Try.lays224_ren := {
  mixed := by kernel_rfl
  f224 := Try.func48.trans (congrArg some (by kernel_rfl))
  t3 := Try.underlying3
  a3 := Try.isAgg3
  z3 := Try.sizeOf3
  v3 := Try.zeroValue3 }
open Go.RowKit Go.Lib in
/-- internal/bytealg.Cutover: "Cutover reports the number of failures of IndexByte we should tolerate before switching over to Index. n is the number of bytes processed so far.": on amd64: (n + 16) / 8. (LAID: no walk: one application.) -/
theorem Try.bytealg_Cutover (n : Int) (h0 : 0 ≤ n) (h1 : n < 4611686018427387904) (w : World) :
    Calls Try.prog 48 #[.int .i64 n] w fun e w' => e = .returned (.int .i64 ((n + 16) / 8)) ∧ w' = w := Any.bytealg_Cutover Try.lays224 n h0 h1 w
def Try.lays314_ren : Go.Shelf.Ren := ⟨fun | 314 => 51 | n => n, fun | 9 => 9 | 51 => 69 | 3 => 3 | 4 => 4 | 5 => 5 | 46 => 68 | n => n, fun | n => n⟩
theorem Try.lays314 : Go.Proofs.Lays.n314 Try.prog Try.lays314_ren := {
  mixed := by kernel_rfl
  f314 := Try.func51.trans (congrArg some (by kernel_rfl))
  t3 := Try.underlying3
  a3 := Try.isAgg3
  z3 := Try.sizeOf3
  v3 := Try.zeroValue3
  t4 := Try.underlying4
  a4 := Try.isAgg4
  z4 := Try.sizeOf4
  v4 := Try.zeroValue4
  t5 := Try.underlying5
  a5 := Try.isAgg5
  z5 := Try.sizeOf5
  v5 := Try.zeroValue5
  t9 := Try.underlying9
  a9 := Try.isAgg9
  z9 := Try.sizeOf9
  v9 := Try.zeroValue9
  t46 := Try.underlying68
  a46 := Try.isAgg68
  z46 := Try.sizeOf68
  v46 := Try.zeroValue68
  t51 := Try.underlying69
  a51 := Try.isAgg69
  z51 := Try.sizeOf69
  v51 := Try.zeroValue69 }
open Go.RowKit Go.Lib in
/-- hashStr: "returns the hash and the appropriate multiplicative factor for use in Rabin-Karp algorithm": THE HASH OF ALL OF sep, AND 16777619 ^ len(sep), both in uint32. (LAID: no walk: one application.) -/
theorem Try.bytealg_hashStr (sep : ByteArray) (hs : sep.size < 4294967281) (w : World) :
    Calls Try.prog 51 #[.string sep] w fun e w' => e = .returned (.tuple #[.int .u32 (RK.H sep.data.toList % 4294967296), .int .u32 (16777619 ^ sep.size % 4294967296)]) ∧ w' = w := Any.bytealg_hashStr Try.lays314 sep hs w
def Try.lays267_ren : Go.Shelf.Ren := ⟨fun | 267 => 49 | 314 => 51 | n => n, fun | 9 => 9 | 3 => 3 | 146 => 70 | 51 => 69 | 4 => 4 | 5 => 5 | 46 => 68 | n => n, fun | n => n⟩
theorem Try.lays267 : Go.Proofs.Lays.n267 Try.prog Try.lays267_ren := {
  mixed := by kernel_rfl
  f267 := Try.func49.trans (congrArg some (by kernel_rfl))
  f314 := Try.func51.trans (congrArg some (by kernel_rfl))
  t3 := Try.underlying3
  a3 := Try.isAgg3
  z3 := Try.sizeOf3
  v3 := Try.zeroValue3
  t4 := Try.underlying4
  a4 := Try.isAgg4
  z4 := Try.sizeOf4
  v4 := Try.zeroValue4
  t5 := Try.underlying5
  a5 := Try.isAgg5
  z5 := Try.sizeOf5
  v5 := Try.zeroValue5
  t9 := Try.underlying9
  a9 := Try.isAgg9
  z9 := Try.sizeOf9
  v9 := Try.zeroValue9
  t46 := Try.underlying68
  a46 := Try.isAgg68
  z46 := Try.sizeOf68
  v46 := Try.zeroValue68
  t51 := Try.underlying69
  a51 := Try.isAgg69
  z51 := Try.sizeOf69
  v51 := Try.zeroValue69
  t146 := Try.underlying70
  a146 := Try.isAgg70
  z146 := Try.sizeOf70
  v146 := Try.zeroValue70 }
open Go.RowKit Go.Lib in
theorem Try.bytealg_IndexRabinKarp (s sep : ByteArray) (h1 : 1 ≤ sep.size) (h2 : sep.size ≤ s.size) (hs : s.size < 4294967281) (w : World) :
    Calls Try.prog 49 #[.string s, .string sep] w fun e w' => e = .returned (.int .i64 (Lib.index s.data.toList sep.data.toList)) ∧ w' = w := Any.bytealg_IndexRabinKarp Try.lays267 s sep h1 h2 hs w
def Try.lays219_ren : Go.Shelf.Ren := ⟨fun | 219 => 45 | 217 => 46 | 225 => 47 | 224 => 48 | 267 => 49 | 266 => 50 | 314 => 51 | n => n, fun | 9 => 9 | 3 => 3 | 4 => 4 | 5 => 5 | 46 => 68 | 146 => 70 | 51 => 69 | n => n, fun | 1 => 0 | n => n⟩
theorem Try.lays219 : Go.Proofs.Lays.n219 Try.prog Try.lays219_ren := {
  mixed := by kernel_rfl
  f217 := Try.func46.trans (congrArg some (by kernel_rfl))
  f219 := Try.func45.trans (congrArg some (by kernel_rfl))
  f224 := Try.func48.trans (congrArg some (by kernel_rfl))
  f225 := Try.func47.trans (congrArg some (by kernel_rfl))
  f266 := Try.func50.trans (congrArg some (by kernel_rfl))
  f267 := Try.func49.trans (congrArg some (by kernel_rfl))
  f314 := Try.func51.trans (congrArg some (by kernel_rfl))
  t3 := Try.underlying3
  a3 := Try.isAgg3
  z3 := Try.sizeOf3
  v3 := Try.zeroValue3
  t4 := Try.underlying4
  a4 := Try.isAgg4
  z4 := Try.sizeOf4
  v4 := Try.zeroValue4
  t5 := Try.underlying5
  a5 := Try.isAgg5
  z5 := Try.sizeOf5
  v5 := Try.zeroValue5
  t9 := Try.underlying9
  a9 := Try.isAgg9
  z9 := Try.sizeOf9
  v9 := Try.zeroValue9
  t46 := Try.underlying68
  a46 := Try.isAgg68
  z46 := Try.sizeOf68
  v46 := Try.zeroValue68
  t51 := Try.underlying69
  a51 := Try.isAgg69
  z51 := Try.sizeOf69
  v51 := Try.zeroValue69
  t146 := Try.underlying70
  a146 := Try.isAgg70
  z146 := Try.sizeOf70
  v146 := Try.zeroValue70
  g1 := by kernel_rfl }
open Go.RowKit Go.Lib in
/-- internal/stringslite.Index (what strings.Index calls) AT A substr OF ONE BYTE c: IT RETURNS 'Lib.indexByte s c'; the world is as it was. (LAID: no walk: one application.) -/
theorem Try.stringslite_Index_one (s : ByteArray) (c : UInt8) (w : World) :
    Calls Try.prog 45 #[.string s, .string ⟨#[c]⟩] w fun e w' => e = .returned (.int .i64 (Lib.indexByte s.data.toList c)) ∧ w' = w := Any.stringslite_Index_one Try.lays219 s c w
open Go.RowKit Go.Lib in
/-- internal/stringslite.Index (what strings.Index calls) AT A substr OF WHATEVER LENGTH: IT RETURNS 'Lib.index s substr'; the world is as it was. 'm': what internal/bytealg.MaxLen holds: whatever. (LAID: no walk: one application.) -/
theorem Try.stringslite_Index (s sub : ByteArray) (m : Int) (w : World) (hs : s.size < 4294967281) (hm : w.cell? ⟨0, 0, none⟩ = some (.int .i64 m)) :
    Calls Try.prog 45 #[.string s, .string sub] w fun e w' => e = .returned (.int .i64 (Lib.index s.data.toList sub.data.toList)) ∧ w' = w := Any.stringslite_Index Try.lays219 s sub m w hs hm
def Try.lays143_ren : Go.Shelf.Ren := ⟨fun | 143 => 44 | 219 => 45 | 217 => 46 | 225 => 47 | 224 => 48 | 267 => 49 | 266 => 50 | 314 => 51 | n => n, fun | 9 => 9 | 3 => 3 | 4 => 4 | 5 => 5 | 46 => 68 | 146 => 70 | 51 => 69 | n => n, fun | 1 => 0 | n => n⟩
theorem Try.lays143 : Go.Proofs.Lays.n143 Try.prog Try.lays143_ren := {
  mixed := by kernel_rfl
  f143 := Try.func44.trans (congrArg some (by kernel_rfl))
  f217 := Try.func46.trans (congrArg some (by kernel_rfl))
  f219 := Try.func45.trans (congrArg some (by kernel_rfl))
  f224 := Try.func48.trans (congrArg some (by kernel_rfl))
  f225 := Try.func47.trans (congrArg some (by kernel_rfl))
  f266 := Try.func50.trans (congrArg some (by kernel_rfl))
  f267 := Try.func49.trans (congrArg some (by kernel_rfl))
  f314 := Try.func51.trans (congrArg some (by kernel_rfl))
  t3 := Try.underlying3
  a3 := Try.isAgg3
  z3 := Try.sizeOf3
  v3 := Try.zeroValue3
  t4 := Try.underlying4
  a4 := Try.isAgg4
  z4 := Try.sizeOf4
  v4 := Try.zeroValue4
  t5 := Try.underlying5
  a5 := Try.isAgg5
  z5 := Try.sizeOf5
  v5 := Try.zeroValue5
  t9 := Try.underlying9
  a9 := Try.isAgg9
  z9 := Try.sizeOf9
  v9 := Try.zeroValue9
  t46 := Try.underlying68
  a46 := Try.isAgg68
  z46 := Try.sizeOf68
  v46 := Try.zeroValue68
  t51 := Try.underlying69
  a51 := Try.isAgg69
  z51 := Try.sizeOf69
  v51 := Try.zeroValue69
  t146 := Try.underlying70
  a146 := Try.isAgg70
  z146 := Try.sizeOf70
  v146 := Try.zeroValue70
  g1 := by kernel_rfl }
open Go.RowKit Go.Lib in
/-- strings.Index: "Index returns the index of the first instance of substr in s, or -1 if substr is not present in s.": AT A substr OF ONE BYTE c: IT RETURNS 'Lib.indexByte s c'; the world is as it was. (LAID: no walk: one application.) -/
theorem Try.strings_Index_one (s : ByteArray) (c : UInt8) (w : World) :
    Calls Try.prog 44 #[.string s, .string ⟨#[c]⟩] w fun e w' => e = .returned (.int .i64 (Lib.indexByte s.data.toList c)) ∧ w' = w := Any.strings_Index_one Try.lays143 s c w
open Go.RowKit Go.Lib in
/-- strings.Index: "Index returns the index of the first instance of substr in s, or -1 if substr is not present in s.": IT RETURNS 'Lib.index s substr'; the world is as it was. (LAID: no walk: one application.) -/
theorem Try.strings_Index (s sub : ByteArray) (m : Int) (w : World) (hs : s.size < 4294967281) (hm : w.cell? ⟨0, 0, none⟩ = some (.int .i64 m)) :
    Calls Try.prog 44 #[.string s, .string sub] w fun e w' => e = .returned (.int .i64 (Lib.index s.data.toList sub.data.toList)) ∧ w' = w := Any.strings_Index Try.lays143 s sub m w hs hm
def Try.lays144_ren : Go.Shelf.Ren := ⟨fun | 144 => 43 | 143 => 44 | 219 => 45 | 217 => 46 | 225 => 47 | 224 => 48 | 267 => 49 | 266 => 50 | 314 => 51 | n => n, fun | 9 => 9 | 4 => 4 | 3 => 3 | 5 => 5 | 46 => 68 | 146 => 70 | 51 => 69 | n => n, fun | 1 => 0 | n => n⟩
theorem Try.lays144 : Go.Proofs.Lays.n144 Try.prog Try.lays144_ren := {
  mixed := by kernel_rfl
  f143 := Try.func44.trans (congrArg some (by kernel_rfl))
  f144 := Try.func43.trans (congrArg some (by kernel_rfl))
  f217 := Try.func46.trans (congrArg some (by kernel_rfl))
  f219 := Try.func45.trans (congrArg some (by kernel_rfl))
  f224 := Try.func48.trans (congrArg some (by kernel_rfl))
  f225 := Try.func47.trans (congrArg some (by kernel_rfl))
  f266 := Try.func50.trans (congrArg some (by kernel_rfl))
  f267 := Try.func49.trans (congrArg some (by kernel_rfl))
  f314 := Try.func51.trans (congrArg some (by kernel_rfl))
  t3 := Try.underlying3
  a3 := Try.isAgg3
  z3 := Try.sizeOf3
  v3 := Try.zeroValue3
  t4 := Try.underlying4
  a4 := Try.isAgg4
  z4 := Try.sizeOf4
  v4 := Try.zeroValue4
  t5 := Try.underlying5
  a5 := Try.isAgg5
  z5 := Try.sizeOf5
  v5 := Try.zeroValue5
  t9 := Try.underlying9
  a9 := Try.isAgg9
  z9 := Try.sizeOf9
  v9 := Try.zeroValue9
  t46 := Try.underlying68
  a46 := Try.isAgg68
  z46 := Try.sizeOf68
  v46 := Try.zeroValue68
  t51 := Try.underlying69
  a51 := Try.isAgg69
  z51 := Try.sizeOf69
  v51 := Try.zeroValue69
  t146 := Try.underlying70
  a146 := Try.isAgg70
  z146 := Try.sizeOf70
  v146 := Try.zeroValue70
  g1 := by kernel_rfl }
open Go.RowKit Go.Lib in
/-- strings.Contains: "Contains reports whether substr is within s.": AT A substr OF ONE BYTE c: IT RETURNS 'decide (0 ≤ Lib.indexByte s c)'; the world is as it was. (LAID: no walk: one application.) -/
theorem Try.strings_Contains_one (s : ByteArray) (c : UInt8) (w : World) :
    Calls Try.prog 43 #[.string s, .string ⟨#[c]⟩] w fun e w' => e = .returned (.bool (decide (0 ≤ Lib.indexByte s.data.toList c))) ∧ w' = w := Any.strings_Contains_one Try.lays144 s c w
open Go.RowKit Go.Lib in
/-- strings.Contains: "Contains reports whether substr is within s.": IT RETURNS 'Lib.contains s substr'; the world is as it was. (LAID: no walk: one application.) -/
theorem Try.strings_Contains (s sub : ByteArray) (m : Int) (w : World) (hs : s.size < 4294967281) (hm : w.cell? ⟨0, 0, none⟩ = some (.int .i64 m)) :
    Calls Try.prog 43 #[.string s, .string sub] w fun e w' => e = .returned (.bool (Lib.contains s.data.toList sub.data.toList)) ∧ w' = w := Any.strings_Contains Try.lays144 s sub m w hs hm
def Try.laysM219_ren : Go.Shelf.Ren := ⟨fun | 219 => 45 | 217 => 46 | 225 => 47 | 224 => 48 | 267 => 49 | 266 => 50 | 314 => 51 | n => n, fun | 9 => 9 | 3 => 3 | 4 => 4 | 5 => 5 | 46 => 68 | 146 => 70 | 51 => 69 | n => n, fun | 1 => 0 | n => n⟩
theorem Try.laysM219 : Go.Proofs.LaysM.n219 Try.prog Try.laysM219_ren := {
  mixed := by kernel_rfl
  f217 := Try.func46.trans (congrArg some (by kernel_rfl))
  f219 := Try.func45.trans (congrArg some (by kernel_rfl))
  f224 := Try.func48.trans (congrArg some (by kernel_rfl))
  f225 := Try.func47.trans (congrArg some (by kernel_rfl))
  f266 := Try.func50.trans (congrArg some (by kernel_rfl))
  f267 := Try.func49.trans (congrArg some (by kernel_rfl))
  f314 := Try.func51.trans (congrArg some (by kernel_rfl))
  t3 := Try.underlying3
  a3 := Try.isAgg3
  z3 := Try.sizeOf3
  v3 := Try.zeroValue3
  t4 := Try.underlying4
  a4 := Try.isAgg4
  z4 := Try.sizeOf4
  v4 := Try.zeroValue4
  t5 := Try.underlying5
  a5 := Try.isAgg5
  z5 := Try.sizeOf5
  v5 := Try.zeroValue5
  t9 := Try.underlying9
  a9 := Try.isAgg9
  z9 := Try.sizeOf9
  v9 := Try.zeroValue9
  t46 := Try.underlying68
  a46 := Try.isAgg68
  z46 := Try.sizeOf68
  v46 := Try.zeroValue68
  t51 := Try.underlying69
  a51 := Try.isAgg69
  z51 := Try.sizeOf69
  v51 := Try.zeroValue69
  t146 := Try.underlying70
  a146 := Try.isAgg70
  z146 := Try.sizeOf70
  v146 := Try.zeroValue70
  g1 := by kernel_rfl
  i3 := by kernel_rfl
  i4 := by kernel_rfl
  i5 := by kernel_rfl
  i9 := by kernel_rfl
  i46 := by kernel_rfl
  i51 := by kernel_rfl
  i146 := by kernel_rfl
  m1 := by kernel_rfl
  s1_3 := fun w h => Go.Proofs.cell_of_shapedOpen_int (zero := #[.int .i64 0]) (t := 3) h (of_decide_eq_true (by kernel_rfl)) (by kernel_rfl) rfl (by kernel_rfl) (by kernel_rfl) Try.underlying3 }
open Go.RowKit Go.Lib in
theorem Try.stringslite_Index_shaped (s sub : ByteArray) (w : World) (h : w.ShapedOpen Try.prog) (hs : s.size < 4294967281) :
    Calls Try.prog 45 #[.string s, .string sub] w fun e w' => e = .returned (.int .i64 (Lib.index s.data.toList sub.data.toList)) ∧ w' = w := Any.stringslite_Index_shaped Try.laysM219 s sub w h hs
def Try.laysM143_ren : Go.Shelf.Ren := ⟨fun | 143 => 44 | 219 => 45 | 217 => 46 | 225 => 47 | 224 => 48 | 267 => 49 | 266 => 50 | 314 => 51 | n => n, fun | 9 => 9 | 3 => 3 | 4 => 4 | 5 => 5 | 46 => 68 | 146 => 70 | 51 => 69 | n => n, fun | 1 => 0 | n => n⟩
theorem Try.laysM143 : Go.Proofs.LaysM.n143 Try.prog Try.laysM143_ren := {
  mixed := by kernel_rfl
  f143 := Try.func44.trans (congrArg some (by kernel_rfl))
  f217 := Try.func46.trans (congrArg some (by kernel_rfl))
  f219 := Try.func45.trans (congrArg some (by kernel_rfl))
  f224 := Try.func48.trans (congrArg some (by kernel_rfl))
  f225 := Try.func47.trans (congrArg some (by kernel_rfl))
  f266 := Try.func50.trans (congrArg some (by kernel_rfl))
  f267 := Try.func49.trans (congrArg some (by kernel_rfl))
  f314 := Try.func51.trans (congrArg some (by kernel_rfl))
  t3 := Try.underlying3
  a3 := Try.isAgg3
  z3 := Try.sizeOf3
  v3 := Try.zeroValue3
  t4 := Try.underlying4
  a4 := Try.isAgg4
  z4 := Try.sizeOf4
  v4 := Try.zeroValue4
  t5 := Try.underlying5
  a5 := Try.isAgg5
  z5 := Try.sizeOf5
  v5 := Try.zeroValue5
  t9 := Try.underlying9
  a9 := Try.isAgg9
  z9 := Try.sizeOf9
  v9 := Try.zeroValue9
  t46 := Try.underlying68
  a46 := Try.isAgg68
  z46 := Try.sizeOf68
  v46 := Try.zeroValue68
  t51 := Try.underlying69
  a51 := Try.isAgg69
  z51 := Try.sizeOf69
  v51 := Try.zeroValue69
  t146 := Try.underlying70
  a146 := Try.isAgg70
  z146 := Try.sizeOf70
  v146 := Try.zeroValue70
  g1 := by kernel_rfl
  i3 := by kernel_rfl
  i4 := by kernel_rfl
  i5 := by kernel_rfl
  i9 := by kernel_rfl
  i46 := by kernel_rfl
  i51 := by kernel_rfl
  i146 := by kernel_rfl
  m1 := by kernel_rfl
  s1_3 := fun w h => Go.Proofs.cell_of_shapedOpen_int (zero := #[.int .i64 0]) (t := 3) h (of_decide_eq_true (by kernel_rfl)) (by kernel_rfl) rfl (by kernel_rfl) (by kernel_rfl) Try.underlying3 }
open Go.RowKit Go.Lib in
theorem Try.strings_Index_shaped (s sub : ByteArray) (w : World) (h : w.ShapedOpen Try.prog) (hs : s.size < 4294967281) :
    Calls Try.prog 44 #[.string s, .string sub] w fun e w' => e = .returned (.int .i64 (Lib.index s.data.toList sub.data.toList)) ∧ w' = w := Any.strings_Index_shaped Try.laysM143 s sub w h hs
def Try.laysM144_ren : Go.Shelf.Ren := ⟨fun | 144 => 43 | 143 => 44 | 219 => 45 | 217 => 46 | 225 => 47 | 224 => 48 | 267 => 49 | 266 => 50 | 314 => 51 | n => n, fun | 9 => 9 | 4 => 4 | 3 => 3 | 5 => 5 | 46 => 68 | 146 => 70 | 51 => 69 | n => n, fun | 1 => 0 | n => n⟩
theorem Try.laysM144 : Go.Proofs.LaysM.n144 Try.prog Try.laysM144_ren := {
  mixed := by kernel_rfl
  f143 := Try.func44.trans (congrArg some (by kernel_rfl))
  f144 := Try.func43.trans (congrArg some (by kernel_rfl))
  f217 := Try.func46.trans (congrArg some (by kernel_rfl))
  f219 := Try.func45.trans (congrArg some (by kernel_rfl))
  f224 := Try.func48.trans (congrArg some (by kernel_rfl))
  f225 := Try.func47.trans (congrArg some (by kernel_rfl))
  f266 := Try.func50.trans (congrArg some (by kernel_rfl))
  f267 := Try.func49.trans (congrArg some (by kernel_rfl))
  f314 := Try.func51.trans (congrArg some (by kernel_rfl))
  t3 := Try.underlying3
  a3 := Try.isAgg3
  z3 := Try.sizeOf3
  v3 := Try.zeroValue3
  t4 := Try.underlying4
  a4 := Try.isAgg4
  z4 := Try.sizeOf4
  v4 := Try.zeroValue4
  t5 := Try.underlying5
  a5 := Try.isAgg5
  z5 := Try.sizeOf5
  v5 := Try.zeroValue5
  t9 := Try.underlying9
  a9 := Try.isAgg9
  z9 := Try.sizeOf9
  v9 := Try.zeroValue9
  t46 := Try.underlying68
  a46 := Try.isAgg68
  z46 := Try.sizeOf68
  v46 := Try.zeroValue68
  t51 := Try.underlying69
  a51 := Try.isAgg69
  z51 := Try.sizeOf69
  v51 := Try.zeroValue69
  t146 := Try.underlying70
  a146 := Try.isAgg70
  z146 := Try.sizeOf70
  v146 := Try.zeroValue70
  g1 := by kernel_rfl
  i3 := by kernel_rfl
  i4 := by kernel_rfl
  i5 := by kernel_rfl
  i9 := by kernel_rfl
  i46 := by kernel_rfl
  i51 := by kernel_rfl
  i146 := by kernel_rfl
  m1 := by kernel_rfl
  s1_3 := fun w h => Go.Proofs.cell_of_shapedOpen_int (zero := #[.int .i64 0]) (t := 3) h (of_decide_eq_true (by kernel_rfl)) (by kernel_rfl) rfl (by kernel_rfl) (by kernel_rfl) Try.underlying3 }
open Go.RowKit Go.Lib in
theorem Try.strings_Contains_shaped (s sub : ByteArray) (w : World) (h : w.ShapedOpen Try.prog) (hs : s.size < 4294967281) :
    Calls Try.prog 43 #[.string s, .string sub] w fun e w' => e = .returned (.bool (Lib.contains s.data.toList sub.data.toList)) ∧ w' = w := Any.strings_Contains_shaped Try.laysM144 s sub w h hs
def Try.laysNm216_ren : Go.Shelf.Ren := ⟨fun | 16 => 20 | n => n, fun | 24 => 22 | 9 => 9 | 4 => 4 | n => n, fun | n => n⟩
theorem Try.laysNm216 : Go.Proofs.Lays2.n16 Try.prog Try.laysNm216_ren := {
  mixed := by kernel_rfl
  f16 := Try.func20.trans (congrArg some (by kernel_rfl))
  t4 := Try.underlying4
  a4 := Try.isAgg4
  z4 := Try.sizeOf4
  v4 := Try.zeroValue4
  t9 := Try.underlying9
  a9 := Try.isAgg9
  z9 := Try.sizeOf9
  v9 := Try.zeroValue9
  t24 := Try.underlying22
  a24 := Try.isAgg22
  z24 := Try.sizeOf22
  v24 := Try.zeroValue22
  i9 := by kernel_rfl }
open Go.RowKit Go.Lib in
/-- slices.Clone at []string: "Clone returns a copy of the slice. The elements are copied using assignment, so this is a shallow clone. The result may have additional unused capacity. The result preserves the nilness of s.": OF A SLICE THAT IS NOT nil IT RETURNS A SLICE THAT IS NOT nil, OF THE SAME ELEMENTS, IN MEMORY OF THE CALL's OWN: in the how-to's words (6f): 'w'.ownsRow B e 1 v' n cells': v' begins at the head of a row among the blocks from B on (B: the heap's size at the call), not frozen, whose first cells are the elements · 'Below B w w'': below B all is as it was. The capacity is whatever the run-time gives. 'zs': what the cells behind the slice's address hold; 'zs.take n': its elements. (LAID: no walk: one application.) -/
theorem Try.slices_Clone_string (b off n c : Nat) (zs : List ByteArray) (w : World) (hz : n ≤ zs.length) (hbig : n * 16 ≤ 140737488355328) (hc : ∀ j, j < zs.length → w.cell? ⟨b, off + j, none⟩ = some (.string (zs.getD j ByteArray.empty))) :
    Calls Try.prog 20 #[.slice (some ⟨b, off, none⟩) n c] w fun e w' => ∃ v', e = .returned v' ∧ w'.ownsRow w.heap.size 9 1 v' n ((zs.take n).map (Value.string)) ∧ v' ≠ .slice none 0 0 ∧ Below w.heap.size w w' := Any.slices_Clone_string Try.laysNm216 b off n c zs w hz hbig hc
open Go.RowKit Go.Lib in
/-- The same at nil: nil comes back; the world is as it was. (LAID: no walk: one application.) -/
theorem Try.slices_Clone_string_nil (n c : Nat) (w : World) :
    Calls Try.prog 20 #[.slice none n c] w fun e w' => e = .returned (.slice none 0 0) ∧ w' = w := Any.slices_Clone_string_nil Try.laysNm216 n c w
open Go.RowKit Go.Lib in
/-- The same at a slice of length 0 that is not nil, WHATEVER ITS ADDRESS (no cell is asked for): a slice that is not nil and owns nothing comes back. (LAID: no walk: one application.) -/
theorem Try.slices_Clone_string_zero (a : Addr) (c : Nat) (w : World) :
    Calls Try.prog 20 #[.slice (some a) 0 c] w fun e w' => ∃ v', e = .returned v' ∧ w'.ownsRow w.heap.size 9 1 v' 0 [] ∧ v' ≠ .slice none 0 0 ∧ Below w.heap.size w w' := Any.slices_Clone_string_zero Try.laysNm216 a c w
def Try.laysSlE041_f20_ren : Go.Shelf.Ren := ⟨fun | 41 => 20 | n => n, fun | 22 => 22 | 23 => 9 | 4 => 4 | n => n, fun | n => n⟩
theorem Try.laysSlE041_f20 : Go.Proofs.SlLaysE0.n41 Try.prog Try.laysSlE041_f20_ren := {
  mixed := by kernel_rfl
  f41 := ⟨Try.f20.name, by decide, Try.func20.trans (congrArg some (by kernel_rfl))⟩
  t4 := Try.underlying4
  a4 := Try.isAgg4
  z4 := Try.sizeOf4
  v4 := Try.zeroValue4
  t22 := Try.underlying22
  a22 := Try.isAgg22
  z22 := Try.sizeOf22
  v22 := Try.zeroValue22 }
open Go.RowKit Go.Lib in
/-- slices.Clone: "Clone returns a copy of the slice. The elements are copied using assignment, so this is a shallow clone. The result may have additional unused capacity. The result preserves the nilness of s.": OF A SLICE THAT IS NOT nil IT RETURNS A SLICE THAT IS NOT nil, OF THE SAME CELLS, IN MEMORY OF THE CALL's OWN ('ownsRow': the how-to's 6f); below the heap's size at the call all is as it was. (LAID AT THE INSTANCE 'slices.Clone[[]string,string]': no walk: one application.) -/
theorem Try.slices_Clone (i0 : TypeInfo) (z : Value) (size bytes : Nat) (hi : Try.prog.info? 9 = some i0) (hz0 : i0.zero = some z) (hz1 : i0.size = size) (hz2 : i0.bytes = bytes) (hzs : z.cells.size = size) (hsz : 0 < size) (z23 : ∀ w, (Go.sizeOf 9).run Try.prog w = .ok size w) (b off n c : Nat) (news : List Value) (w : World) (hl : news.length = n * size) (hn : n ≤ maxLen) (hbig : n * bytes ≤ 140737488355328) (hc : ∀ j u, news[j]? = some u → w.cell? ⟨b, off + j, none⟩ = some u) (h1 : ∀ u ∈ news, u.oneCell' = true) :
    Calls Try.prog 20 #[.slice (some ⟨b, off, none⟩) n c] w fun e w' => ∃ v', e = .returned v' ∧ w'.ownsRow w.heap.size 9 size v' n news ∧ v' ≠ .slice none 0 0 ∧ Below w.heap.size w w' := AnyE.slices_Clone Try.laysSlE041_f20 i0 z size bytes hi hz0 hz1 hz2 hzs hsz z23 b off n c news w hl hn hbig hc h1
open Go.RowKit Go.Lib in
/-- The same at nil: nil comes back; the world is as it was; nothing is asked of the element's type. (LAID AT THE INSTANCE 'slices.Clone[[]string,string]': no walk: one application.) -/
theorem Try.slices_Clone_nil (n c : Nat) (w : World) :
    Calls Try.prog 20 #[.slice none n c] w fun e w' => e = .returned (.slice none 0 0) ∧ w' = w := AnyE.slices_Clone_nil Try.laysSlE041_f20 n c w
end Go.Proofs

/- grammar.letter, reduce.works and what it calls. -/
namespace Go.Lg
open Go.Proofs
set_option linter.unusedSimpArgs false
set_option linter.unusedVariables false
attribute [local irreducible] Ap Rq asemC WP RunD Ret Gq thenA inBlockA bodyQ noGotoA RqL RqP OpP
set_option maxHeartbeats 1000000

theorem letter_fn (c : Int) : Fn Try.prog 42 [.val (.int .u8 c)] (boolA (letB c)) := by
  refine Fn.intro (by exact rfl) (by kernel_rfl) Try.func42 rfl rfl Try.ntmps42 (by exact Nat.le_of_ble_eq_true rfl) ?_; intro Γ hm
  (repeat' (first | refine WP.seq ?_ | refine go_n ?_ | refine WP.ret ?_ | refine bo_r ?_ | (refine WP.regionC (id := 0) ?_; (refine su (ap_assign (by exact rq_p rfl rfl)) ?_); refine asemC_end ?_) | (refine WP.regionC (id := 1) ?_; (refine su (ap_move (by exact rq_p rfl rfl)) ?_); (refine su (ap_geq (by exact rq_p rfl rfl) (by exact rq_p rfl rfl)) ?_); (refine su (ap_move (by exact rq_p rfl rfl)) ?_); (refine sg (by exact gq_vt rfl rfl) (fun he => ap_move (by exact rq_p rfl rfl)) ?_); (refine sg (by exact gq_vt rfl rfl) (fun he => ap_leq (by exact rq_c rfl rfl) (by exact rq_p rfl rfl)) ?_); (refine su (ap_and (by exact rq_p rfl rfl) (by exact rq_c rfl rfl)) ?_); (refine su (ap_move (by exact rq_p rfl rfl)) ?_); (refine sg (by exact gq_vf rfl rfl) (fun he => ap_move (by exact rq_p rfl rfl)) ?_); (refine sg (by exact gq_vf rfl rfl) (fun he => ap_geq (by exact rq_c rfl rfl) (by exact rq_p rfl rfl)) ?_); (refine sg (by exact gq_vf rfl rfl) (fun he => ap_move (by exact rq_c rfl rfl)) ?_); (refine sg (by exact gq_ct rfl rfl) (fun he => ap_move (by exact rq_p rfl rfl)) ?_); (refine sg (by exact gq_ct rfl rfl) (fun he => ap_leq (by exact rq_c rfl rfl) (by exact rq_p rfl rfl)) ?_); (refine sg (by exact gq_vf rfl rfl) (fun he => ap_and (by exact rq_c rfl rfl) (by exact rq_c rfl rfl)) ?_); (refine su (ap_or (by exact rq_p rfl rfl) (by exact rq_c rfl rfl)) ?_); (refine su (ap_assign (by exact rq_p rfl rfl)) ?_); refine asemC_end ?_) | exact ret_eq (by exact rfl) (by exact rfl) rfl))

/-- slices.IndexFunc over numbers -/
def indexP {α : Type} (p : α → Bool) (l : List α) : Int := match l.findIdx? p with
  | some i => i
  | none => -1
theorem indexP_at {α : Type} [Inhabited α] {p : α → Bool} {l : List α} {k : Nat} (hk : k < l.length) (h : (l.take k).any p = false) (hp : p (nth l k) = true) : indexP p l = k := by
  have : l.findIdx? p = some k := by
    rw [List.findIdx?_eq_some_iff_getElem]
    refine ⟨hk, by rwa [nth_eq hk] at hp, fun j hj => ?_⟩
    rw [List.any_eq_false] at h
    have := h l[j] (by rw [List.mem_take_iff_getElem]; exact ⟨j, by omega, rfl⟩)
    simpa using this
  simp [indexP, this]
theorem indexP_no {α : Type} {p : α → Bool} {l : List α} {k : Nat} (hk : l.length ≤ k) (h : (l.take k).any p = false) : indexP p l = -1 := by
  rw [List.take_of_length_le hk] at h
  have : l.findIdx? p = none := by rw [List.findIdx?_eq_none_iff]; intro x hx; rw [List.any_eq_false] at h; simpa using h x hx
  simp [indexP, this]
theorem indexP_any {α : Type} {p : α → Bool} {l : List α} : decide (0 ≤ indexP p l) = l.any p := by
  unfold indexP
  cases h : l.findIdx? p with
  | none => rw [List.findIdx?_eq_none_iff] at h; rw [show l.any p = false by rw [List.any_eq_false]; intro x hx; simp [h x hx]]; rfl
  | some i =>
    rw [List.findIdx?_eq_some_iff_getElem] at h
    obtain ⟨hi, hp, _⟩ := h
    rw [show l.any p = true by rw [List.any_eq_true]; exact ⟨_, List.getElem_mem hi, hp⟩]
    simp
theorem take_any_succ {α : Type} [Inhabited α] {l : List α} {f : α → Bool} {k : Nat} (hk : k < l.length) (h : (l.take k).any f = false) (hf : f (nth l k) = false) : (l.take (k + 1)).any f = false := by
  rw [take_succ_nth hk, List.any_append, h]; simp [hf]

theorem indexFunc_fn (l : List Int) (g : FuncId) (cap : List AV) (p : Int → Bool) (hcap : ∀ n, bdL n cap = true) (h : ∀ x, x ∈ l → Fn Try.prog g (intA x :: cap) (boolA (p x))) :
    Fn Try.prog 41 [intsA l, .clo (.func g) [] cap] (intA (indexP p l)) := by
  refine Fn.intro (by exact rfl) (by kernel_rfl) Try.func41 rfl rfl Try.ntmps41 (by exact Nat.le_of_ble_eq_true rfl) ?_; intro Γ hm
  refine wp_lens 0 rfl fun h0 => ?_
  rw [lens_intsA] at h0
  (repeat' (first | refine WP.seq ?_ | refine WP.block ?_ | refine go_n ?_ | (refine WP.regionC (id := 0) ?_; (refine su (ap_assign (by exact rq_p rfl rfl)) ?_); refine asemC_end ?_) | (refine WP.regionC (id := 1) ?_; (refine su (ap_move (by exact rq_p rfl rfl)) ?_); (refine su (ap_len_m (by exact rfl) (by exact rq_p rfl rfl)) ?_); (refine su (ap_move (by exact rq_p rfl rfl)) ?_); refine asemC_end ?_)))
  refine wp_loop (fun k => k ≤ l.length ∧ (l.take k).any p = false) (fun k => l.length - k) (fun k => (S 19 [(0, intsA l), (1, .clo (.func g) [] cap), (7, intA (l.length : Nat)), (8, intA (k : Nat))] 0 [])) 0 ⟨[], ToR.S rfl (by repeat' (first | exact rt_nil | refine rt_e (by exact rfl) (by exact rfl) ?_ | refine rt_p (by exact rfl) (by exact rfl) (by first | (simp [AV.bd, bdL, bdL_append]; done) | (simp [AV.bd, bdL, bdL_append, *]; done)) ?_)) (by repeat' (exact ro_nil)) (by decide) (by (rw [hm]; exact rfl)) (by exact rfl) (by simp [bdT, AV.bd, bdL, bdL_append, *]) (by repeat' (exact True.intro)) (by (rw [hm]; exact Nat.le_of_ble_eq_true rfl))⟩ ⟨Nat.zero_le _, rfl⟩ ?_
  rintro k ⟨hk, hall⟩
  (repeat' (first | refine WP.seq ?_ | refine WP.block ?_ | refine go_n ?_ | refine WP.skip ?_ | refine WP.exit ?_ | refine WP.ret ?_ | refine go_x ?_ | refine go_r ?_ | refine bl_n ?_ | refine bl_r ?_ | refine bl_x ?_ | refine bo_r ?_ | (refine wp_cond (by exact rfl) (fun hc => ?_) (fun hc => ?_) <;> (try simp only [decide_eq_true_eq, decide_eq_false_iff_not, Decidable.not_not, Bool.and_eq_true, Bool.or_eq_true, Bool.not_eq_true', Bool.not_eq_false', Bool.or_eq_false_iff, Bool.and_eq_false_iff, Int.not_lt, Int.not_le, reduceCtorEq, ne_eq, Bool.not_true, Bool.not_false, Bool.not_eq_true, Bool.not_eq_false] at hc) <;> (try (exfalso; omega))) | (refine WP.regionC (id := 2) ?_; (refine su (ap_lss (by exact rq_p rfl rfl) (by exact rq_p rfl rfl)) ?_); refine asemC_end ?_) | (refine WP.regionC (id := 3) ?_; (refine su (ap_move (by exact rq_p rfl rfl)) ?_); (refine su (ap_assign (by exact rq_p rfl rfl)) ?_); refine asemC_end ?_) | (refine WP.regionC (id := 4) ?_; (refine su (ap_move (by exact rq_p rfl rfl)) ?_); (refine su (ap_move (by exact rq_p rfl rfl)) ?_); (refine su (ap_move (by exact rq_p rfl rfl)) ?_); (refine su (ap_idx_n (by exact rq_p rfl rfl) (by exact rq_p rfl rfl) (by omega)) ?_); (refine su (ap_load_w (by exact rq_p rfl rfl) (by exact rfl)) ?_); (refine sc_p rfl rfl (by repeat' first | refine SubL.cons ?_ ?_ | exact SubL.rfl | exact Sub.refl) (by (simp [bdL, bdL_append, AV.bd, *]; done)) (h _ (nth_mem (by omega))) ?_); refine asemC_end ?_) | (refine WP.regionC (id := 5) ?_; (refine su (ap_move (by exact rq_p rfl rfl)) ?_); (refine su (ap_assign (by exact rq_p rfl rfl)) ?_); refine asemC_end ?_) | (refine WP.regionC (id := 6) ?_; (refine su (ap_add (by exact rq_p rfl rfl) (by exact rq_p rfl rfl) (by exact inr_i64_of (by omega))) ?_); (refine su (ap_move (by exact rq_p rfl rfl)) ?_); refine asemC_end ?_) | (refine WP.regionC (id := 7) ?_; (refine su (ap_assign (by exact rq_p rfl rfl)) ?_); refine asemC_end ?_) | refine ret_i (by exact rfl) ?_))
  · exact (indexP_at (by omega) hall hc).symm
  · exact ⟨k + 1, ⟨by omega, by omega, take_any_succ (by omega) hall hc⟩, ⟨[], ToR.S rfl (by repeat' (first | exact rt_nil | refine rt_e (by exact rfl) (by exact rfl) ?_ | refine rt_p (by exact rfl) (by exact rfl) (by first | (simp [AV.bd, bdL, bdL_append]; done) | (simp [AV.bd, bdL, bdL_append, *]; done)) ?_)) (by repeat' (exact ro_nil)) (by decide) (by (rw [hm]; exact rfl)) (by exact rfl) (by simp [bdT, AV.bd, bdL, bdL_append, *]) (by repeat' (exact True.intro)) (by (rw [hm]; exact Nat.le_of_ble_eq_true rfl))⟩⟩
  · exact (indexP_no (by omega) hall).symm

theorem containsFunc_fn (l : List Int) (g : FuncId) (cap : List AV) (p : Int → Bool) (hcap : ∀ n, bdL n cap = true) (h : ∀ x, x ∈ l → Fn Try.prog g (intA x :: cap) (boolA (p x))) :
    Fn Try.prog 33 [intsA l, .clo (.func g) [] cap] (boolA (l.any p)) := by
  refine Fn.intro (by exact rfl) (by kernel_rfl) Try.func33 rfl rfl Try.ntmps33 (by exact Nat.le_of_ble_eq_true rfl) ?_; intro Γ hm
  (repeat' (first | refine WP.seq ?_ | refine go_n ?_ | refine WP.ret ?_ | refine bo_r ?_ | (refine WP.regionC (id := 0) ?_; (refine su (ap_assign (by exact rq_p rfl rfl)) ?_); refine asemC_end ?_) | (refine WP.regionC (id := 1) ?_; (refine su (ap_move (by exact rq_p rfl rfl)) ?_); (refine su (ap_move (by exact rq_p rfl rfl)) ?_); (refine sc_p rfl rfl (by repeat' first | exact SubL.nil | refine SubL.cons ?_ ?_ | exact Sub.refl) (by (simp [bdL, bdL_append, AV.bd, *]; done)) (indexFunc_fn _ _ _ p hcap h) ?_); (refine su (ap_geq (by exact rq_p rfl rfl) (by exact rq_p rfl rfl)) ?_); (refine su (ap_assign (by exact rq_p rfl rfl)) ?_); refine asemC_end ?_) | refine ret_b (by exact rfl) ?_))
  exact indexP_any

/-- x < 0 && !productive[-1-x] -/
def badSym (is : List Bool) (x : Int) : Bool := decide (x < 0) && !nth is (-1 - x).toNat
theorem works1_fn (is : List Bool) (x : Int) (hn : is.length ≤ 9223372036854775807) (hx : -(is.length : Int) ≤ x) : Fn Try.prog 35 [intA x, .iptr [boolsA is] 0] (boolA (badSym is x)) := by
  refine Fn.intro (by exact rfl) (by kernel_rfl) Try.func35 rfl rfl Try.ntmps35 (by exact Nat.le_of_ble_eq_true rfl) ?_; intro Γ hm
  (repeat' (first | refine WP.seq ?_ | refine go_n ?_ | refine WP.ret ?_ | refine bo_r ?_ | (refine WP.regionC (id := 0) ?_; (refine su (ap_assign (by exact rq_p rfl rfl)) ?_); refine asemC_end ?_) | (refine WP.regionC (id := 1) ?_; (refine su (ap_move (by exact rq_p rfl rfl)) ?_); (refine su (ap_lss (by exact rq_p rfl rfl) (by exact rq_p rfl rfl)) ?_); (refine su (ap_move (by exact rq_p rfl rfl)) ?_); (refine sg (by exact gq_vt rfl rfl) (fun he => ap_load_i (by exact rq_p rfl rfl) (by exact rfl)) ?_); (refine sg (by exact gq_vt rfl rfl) (fun he => ap_move (by exact rq_p rfl rfl)) ?_); (refine sg (by exact gq_vt rfl rfl) (fun he => ap_sub (by exact rq_p rfl rfl) (by exact rq_c rfl rfl) (by (try simp only [List.all_cons, List.all_append, List.all_nil, id, Bool.and_true, decide_eq_true_eq, decide_eq_false_iff_not, Decidable.not_not, Bool.and_eq_true, Bool.or_eq_true, Bool.not_eq_true', Bool.not_eq_false', Bool.or_eq_false_iff, Bool.and_eq_false_iff, Int.not_lt, Int.not_le, reduceCtorEq, ne_eq, Bool.not_true, Bool.not_false, Bool.not_eq_true, Bool.not_eq_false] at he); exact inr_i64_of (by omega))) ?_); (refine sg (by exact gq_vt rfl rfl) (fun he => ap_idx_z (by exact rq_c rfl rfl) (by exact rq_c rfl rfl) (by (try simp only [List.all_cons, List.all_append, List.all_nil, id, Bool.and_true, decide_eq_true_eq, decide_eq_false_iff_not, Decidable.not_not, Bool.and_eq_true, Bool.or_eq_true, Bool.not_eq_true', Bool.not_eq_false', Bool.or_eq_false_iff, Bool.and_eq_false_iff, Int.not_lt, Int.not_le, reduceCtorEq, ne_eq, Bool.not_true, Bool.not_false, Bool.not_eq_true, Bool.not_eq_false] at he); omega)) ?_); (refine sg (by exact gq_vt rfl rfl) (fun he => ap_load_w (by exact rq_c rfl rfl) (by exact rfl)) ?_); (refine sg (by exact gq_vt rfl rfl) (fun he => ap_not (by exact rq_c rfl rfl)) ?_); (refine su (ap_and (by exact rq_p rfl rfl) (by exact rq_c rfl rfl)) ?_); (refine su (ap_assign (by exact rq_p rfl rfl)) ?_); refine asemC_end ?_) | exact ret_eq (by exact rfl) (by exact rfl) rfl))
theorem badSym_ok (is : List Bool) (x : Int) : badSym is x = !okSym is x := by
  unfold badSym okSym
  by_cases h : 0 ≤ x
  · have : ¬ x < 0 := by omega
    simp [h, this]
  · have : x < 0 := by omega
    simp [h, this]
theorem not_any_bad (is : List Bool) (l : List Int) : (!l.any (badSym is)) = l.all (okSym is) := by
  rw [List.not_any_eq_all_not]; congr 1; funext x; rw [badSym_ok]; simp
theorem works_fn (is : List Bool) (l : List Int) (hl : ∀ x, x ∈ l → -(is.length : Int) ≤ x) : Fn Try.prog 21 [intsA l, boolsA is] (boolA (l.all (okSym is))) := by
  refine Fn.intro (by exact rfl) (by kernel_rfl) Try.func21 rfl rfl Try.ntmps21 (by exact Nat.le_of_ble_eq_true rfl) ?_; intro Γ hm
  refine wp_lens 1 rfl fun h1 => ?_
  rw [lens_boolsA] at h1
  (repeat' (first | refine WP.seq ?_ | refine go_n ?_ | refine WP.ret ?_ | refine bo_r ?_ | (refine WP.regionC (id := 0) ?_; (refine se_box (by exact rfl) (by exact ⟨rfl, rfl⟩) ?_); (refine su (ap_assign (by exact rq_p rfl rfl)) ?_); refine asemC_end ?_) | (refine WP.regionC (id := 1) ?_; (refine su (ap_move (by exact rq_p rfl rfl)) ?_); (refine su (ap_clo (RqL.nil) (RqL.cons (by exact rq_p rfl rfl) (RqL.nil))) ?_); (refine sc_b rfl rfl (by repeat' first | exact FzL.nil | refine FzL.cons ?_ ?_ | (exact Fz.reflp (by simp [AV.bd, bdL, bdL_append])) | refine Fz.ptrL (by exact rfl) (by exact rfl) ?_ | refine Fz.cloL ?_ ?_) (containsFunc_fn _ _ _ (badSym is) (fun n => by simp [bdL, AV.bd]) (fun x hx => works1_fn is x h1 (hl x hx))) (by exact rfl) ?_); (refine su (ap_not (by exact rq_p rfl rfl)) ?_); (refine su (ap_assign (by exact rq_p rfl rfl)) ?_); refine asemC_end ?_) | refine ret_b (by exact rfl) ?_))
  exact not_any_bad is l
end Go.Lg

/- reduce.useful -/
namespace Go.Lg
open Go.Proofs
set_option linter.unusedSimpArgs false
set_option linter.unusedVariables false
attribute [local irreducible] Ap Rq asemC WP RunD Ret Gq thenA inBlockA bodyQ noGotoA RqL RqP OpP
set_option maxHeartbeats 4000000

theorem useful_fn (g : Gram) (is : List Bool) (hv : GVal g) (his : is.length = g.nonterms.length) : Fn Try.prog 19 [gramA g, boolsA is] (boolsA (usefulG g is)) := by
  refine Fn.intro (by simp [AV.bd, bdL, bdL_append]) (by kernel_rfl) Try.func19 rfl rfl Try.ntmps19 (by exact Nat.le_of_ble_eq_true rfl) ?_; intro Γ hm
  have hn2 := hv.n2
  have hr2 := hv.r2
  have hs0 := hv.s0
  have hsn := hv.sn
  (repeat' (first | refine WP.seq ?_ | refine WP.block ?_ | refine go_n ?_ | (refine WP.regionC (id := 0) ?_; (refine se_box (by exact rfl) (by exact ⟨rfl, rfl⟩) ?_); (refine su (ap_assign (by exact rq_p rfl rfl)) ?_); refine asemC_end ?_) | (refine WP.regionC (id := 1) ?_; (refine su (ap_field_p (by exact rq_p rfl rfl) (by exact rfl) (by exact rfl)) ?_); (refine su (ap_load_p (by exact rq_p rfl rfl) (by exact rfl) (by exact rfl) (by exact rfl)) ?_); (refine su (ap_len_m (by exact rfl) (by exact rq_p rfl rfl)) ?_); (refine se_makeT boolA false (by exact rfl) (by exact rfl) (by exact rfl) (by exact rfl) (by exact rfl) (by omega) ?_); (refine su (ap_assign (by exact rq_p rfl rfl)) ?_); refine asemC_end ?_) | (refine WP.regionC (id := 2) ?_; (refine su (ap_move (by exact rq_p rfl rfl)) ?_); (refine su (ap_field_p (by exact rq_p rfl rfl) (by exact rfl) (by exact rfl)) ?_); (refine su (ap_load_p (by exact rq_p rfl rfl) (by exact rfl) (by exact rfl) (by exact rfl)) ?_); (refine su (ap_idxr_z (by exact rq_p rfl rfl) (by exact rq_p rfl rfl) (by omega)) ?_); (refine se_store_t (by exact rfl) (by exact rfl) (by (simp only [List.length_replicate, List.length_set, List.length_append, List.length_map, List.length_cons, List.length_nil] <;> omega)) (by exact rfl) (by exact rfl) ?_); refine asemC_end ?_) | (refine WP.regionC (id := 3) ?_; (refine su (ap_assign (by exact rq_p rfl rfl)) ?_); refine asemC_end ?_)))
  refine wp_loop (fun (x : List Bool × Bool) => UnderU g is x.1 ∧ (x.2 = false → ∀ r, r ∈ g.rules → ClosedU is x.1 r)) (fun x => 2 * falses x.1 + if x.2 then 1 else 0)
    (fun x => (S 64 [(1, boolsA is), (2, .ptr 0 4 0 0), (5, .ref 1 1 0 g.nonterms.length), (6, boolA x.2)] 2 [(0, some (.arr 4 [gramA g])), (1, some (.arr 1 (x.1.map boolA)))])) (initU g, true) ⟨[0, 1], ToR.S rfl (by repeat' (first | exact rt_nil | refine rt_r (by exact rfl) (by exact rfl) ?_ | refine rt_t (by exact rfl) (by exact rfl) ?_ | refine rt_e (by exact rfl) (by exact rfl) ?_ | refine rt_p (by exact rfl) (by exact rfl) (by (simp [AV.bd, bdL, bdL_append]; done)) ?_)) (by repeat' (first | exact ro_nil | refine ro_p (by exact rfl) (by exact rfl) (by first | exact bdL_map (fun _ => by exact rfl) _ | (simp [bdL, bdL_append, AV.bd]; done)) ?_)) (by decide) (by (rw [hm]; exact rfl)) (by exact rfl) (by (simp [bdT, AV.bd, bdL, bdL_append]; done)) (by repeat' (first | exact True.intro | refine And.intro ?_ ?_ | exact bdL_map (fun _ => by exact rfl) _ | (simp [bdOq, bdL, bdL_append, AV.bd]; done))) (by (rw [hm]; exact Nat.le_of_ble_eq_true rfl))⟩ ⟨UnderU.init g _, by simp⟩ ?_
  rintro ⟨out, more⟩ ⟨hu, hc0⟩
  dsimp only at *
  have hol := hu.len
  (repeat' (first | refine WP.seq ?_ | refine WP.block ?_ | refine go_n ?_ | refine WP.skip ?_ | refine WP.exit ?_ | refine WP.ret ?_ | refine go_x ?_ | refine bl_x ?_ | refine bo_r ?_ | (refine wp_cond (by exact rfl) (fun hc => ?_) (fun hc => ?_) <;> (try simp only [decide_eq_true_eq, decide_eq_false_iff_not, Decidable.not_not, Bool.and_eq_true, Bool.or_eq_true, Bool.not_eq_true', Bool.not_eq_false', Bool.or_eq_false_iff, Bool.and_eq_false_iff, Int.not_lt, Int.not_le, reduceCtorEq, ne_eq, Bool.not_true, Bool.not_false, Bool.not_eq_true, Bool.not_eq_false] at hc) <;> (try (exfalso; omega))) | (refine WP.regionC (id := 4) ?_; (refine su (ap_move (by exact rq_p rfl rfl)) ?_); refine asemC_end ?_) | (refine WP.regionC (id := 5) ?_; (refine su (ap_assign (by exact rq_p rfl rfl)) ?_); refine asemC_end ?_) | (refine WP.regionC (id := 6) ?_; (refine su (ap_field_p (by exact rq_p rfl rfl) (by exact rfl) (by exact rfl)) ?_); (refine su (ap_load_p (by exact rq_p rfl rfl) (by exact rfl) (by exact rfl) (by exact rfl)) ?_); (refine su (ap_len_m (by exact rfl) (by exact rq_p rfl rfl)) ?_); (refine su (ap_move (by exact rq_p rfl rfl)) ?_); refine asemC_end ?_) | (refine WP.regionC (id := 17) ?_; (refine su (ap_move (by exact rq_p rfl rfl)) ?_); (refine su (ap_assign (by exact rq_p rfl rfl)) ?_); refine asemC_end ?_) | refine ret_sl (by exact rfl) (by exact rfl) (by first | exact rfl | assumption) (fun _ => by exact rfl) (fun _ => rfl) ?_))
  · refine wp_loop (fun (x : List Bool × Bool × Nat) => MidU g is out x.1 x.2.1 x.2.2) (fun x => g.rules.length - x.2.2)
      (fun x => (S 64 [(1, boolsA is), (2, .ptr 0 4 0 0), (5, .ref 1 1 0 g.nonterms.length), (6, boolA x.2.1), (21, rulesA g.rules), (22, intA (g.rules.length : Nat)), (23, intA (x.2.2 : Nat))] 2 [(0, some (.arr 4 [gramA g])), (1, some (.arr 1 (x.1.map boolA)))])) (out, false, 0) ⟨[0, 1], ToR.S rfl (by repeat' (first | exact rt_nil | refine rt_r (by exact rfl) (by exact rfl) ?_ | refine rt_t (by exact rfl) (by exact rfl) ?_ | refine rt_e (by exact rfl) (by exact rfl) ?_ | refine rt_p (by exact rfl) (by exact rfl) (by (simp [AV.bd, bdL, bdL_append]; done)) ?_)) (by repeat' (first | exact ro_nil | refine ro_p (by exact rfl) (by exact rfl) (by first | exact bdL_map (fun _ => by exact rfl) _ | (simp [bdL, bdL_append, AV.bd]; done)) ?_)) (by decide) (by (rw [hm]; exact rfl)) (by exact rfl) (by (simp [bdT, AV.bd, bdL, bdL_append]; done)) (by repeat' (first | exact True.intro | refine And.intro ?_ ?_ | exact bdL_map (fun _ => by exact rfl) _ | (simp [bdOq, bdL, bdL_append, AV.bd]; done))) (by (rw [hm]; exact Nat.le_of_ble_eq_true rfl))⟩ (MidU.start hu) ?_
    rintro ⟨o, mo, i⟩ hM
    dsimp only at *
    have hol' := hM.u.len
    have hi := hM.hi
    by_cases hlt : i < g.rules.length
    · have hr := hv.rule _ (nth_mem hlt)
      have hr0 := hr.h0
      have hrn := hr.hn
      have hrl := hr.len
      have hlo : ∀ x, x ∈ (nth g.rules i).body → -(is.length : Int) ≤ x := fun x hx => by have := hr.lo x hx; omega
      (repeat' (first | refine WP.seq ?_ | refine WP.block ?_ | refine go_n ?_ | refine WP.skip ?_ | refine WP.exit ?_ | refine go_x ?_ | refine bl_x ?_ | (refine wp_cond (by exact rfl) (fun hc => ?_) (fun hc => ?_) <;> (try simp only [decide_eq_true_eq, decide_eq_false_iff_not, Decidable.not_not, Bool.and_eq_true, Bool.or_eq_true, Bool.not_eq_true', Bool.not_eq_false', Bool.or_eq_false_iff, Bool.and_eq_false_iff, Int.not_lt, Int.not_le, reduceCtorEq, ne_eq, Bool.not_true, Bool.not_false, Bool.not_eq_true, Bool.not_eq_false] at hc) <;> (try (exfalso; omega))) | (refine WP.regionC (id := 7) ?_; (refine su (ap_lss (by exact rq_p rfl rfl) (by exact rq_p rfl rfl)) ?_); refine asemC_end ?_) | (refine WP.regionC (id := 8) ?_; (refine su (ap_idx_n (by exact rq_p rfl rfl) (by exact rq_p rfl rfl) (by omega)) ?_); (refine su (ap_load_w (by exact rq_p rfl rfl) (by exact rfl)) ?_); (refine se_alloc (by exact rfl) ?_); (refine se_store_b (by exact rfl) (by exact rfl) (by exact rfl) (by exact rfl) ?_); refine asemC_end ?_) | (refine WP.regionC (id := 9) ?_; (refine su (ap_move (by exact rq_p rfl rfl)) ?_); (refine su (ap_field_p (by exact rq_p rfl rfl) (by exact rfl) (by exact rfl)) ?_); (refine su (ap_load_p (by exact rq_p rfl rfl) (by exact rfl) (by exact rfl) (by exact rfl)) ?_); (refine su (ap_idxr_z (by exact rq_p rfl rfl) (by exact rq_p rfl rfl) (by omega)) ?_); (refine su (ap_load_pt (by exact rq_p rfl rfl) (by exact rfl) (by omega) (by exact rfl)) ?_); (refine su (ap_not (by exact rq_p rfl rfl)) ?_); (refine su (ap_move (by exact rq_p rfl rfl)) ?_); (refine sg (by exact gq_vf rfl rfl) (fun he => ap_field_p (by exact rq_p rfl rfl) (by exact rfl) (by exact rfl)) ?_); (refine sg (by exact gq_vf rfl rfl) (fun he => ap_load_p (by exact rq_c rfl rfl) (by exact rfl) (by exact rfl) (by exact rfl)) ?_); (refine sg (by exact gq_vf rfl rfl) (fun he => ap_move (by exact rq_p rfl rfl)) ?_); (refine sg_p (by exact gq_vf rfl rfl) (fun he => ⟨(by exact rq_p rfl rfl), (RqL.cons (by exact rq_c rfl rfl) (RqL.cons (by exact rq_c rfl rfl) (RqL.nil))), (by repeat' first | exact SubL.nil | refine SubL.cons ?_ ?_ | exact Sub.refl), (by (simp [bdL, bdL_append, AV.bd]; done)), works_fn _ _ (by assumption)⟩) ?_); (refine sg (by exact gq_vf rfl rfl) (fun he => ap_not (by exact rq_c rfl rfl)) ?_); (refine su (ap_or (by exact rq_p rfl rfl) (by exact rq_c rfl rfl)) ?_); refine asemC_end ?_) | (refine WP.regionC (id := 10) ?_; (refine su (ap_field_p (by exact rq_p rfl rfl) (by exact rfl) (by exact rfl)) ?_); (refine su (ap_load_p (by exact rq_p rfl rfl) (by exact rfl) (by exact rfl) (by exact rfl)) ?_); (refine su (ap_len_m (by exact rfl) (by exact rq_p rfl rfl)) ?_); (refine su (ap_move (by exact rq_p rfl rfl)) ?_); refine asemC_end ?_) | (refine WP.regionC (id := 16) ?_; (refine su (ap_add (by exact rq_p rfl rfl) (by exact rq_p rfl rfl) (by exact inr_i64_of (by omega))) ?_); (refine su (ap_move (by exact rq_p rfl rfl)) ?_); refine asemC_end ?_)))
      · exact ⟨(o, mo, i + 1), ⟨by dsimp only; omega, hM.skip hlt hc⟩, ⟨[0, 1], ToR.S rfl (by repeat' (first | exact rt_nil | refine rt_r (by exact rfl) (by exact rfl) ?_ | refine rt_t (by exact rfl) (by exact rfl) ?_ | refine rt_e (by exact rfl) (by exact rfl) ?_ | refine rt_p (by exact rfl) (by exact rfl) (by (simp [AV.bd, bdL, bdL_append]; done)) ?_)) (by repeat' (first | exact ro_nil | refine ro_p (by exact rfl) (by exact rfl) (by first | exact bdL_map (fun _ => by exact rfl) _ | (simp [bdL, bdL_append, AV.bd]; done)) ?_)) (by decide) (by (rw [hm]; exact rfl)) (by exact rfl) (by (simp [bdT, AV.bd, bdL, bdL_append]; done)) (by repeat' (first | exact True.intro | refine And.intro ?_ ?_ | exact bdL_map (fun _ => by exact rfl) _ | (simp [bdOq, bdL, bdL_append, AV.bd]; done))) (by (rw [hm]; exact Nat.le_of_ble_eq_true rfl))⟩⟩
      · obtain ⟨hc1, hc2⟩ := hc
        refine wp_loop (fun (x : List Bool × Bool × Nat) => InU g is out o x.1 mo x.2.1 i x.2.2) (fun x => (nth g.rules i).body.length - x.2.2)
          (fun x => (S 64 [(1, boolsA is), (2, .ptr 0 4 0 0), (5, .ref 1 1 0 g.nonterms.length), (6, boolA x.2.1), (21, rulesA g.rules), (22, intA (g.rules.length : Nat)), (23, intA (i : Nat)), (41, intsA (nth g.rules i).body), (42, intA ((nth g.rules i).body.length : Nat)), (43, intA (x.2.2 : Nat))] 2 [(0, some (.arr 4 [gramA g])), (1, some (.arr 1 (x.1.map boolA)))])) (o, mo, 0) ⟨[0, 1], ToR.S rfl (by repeat' (first | exact rt_nil | refine rt_r (by exact rfl) (by exact rfl) ?_ | refine rt_t (by exact rfl) (by exact rfl) ?_ | refine rt_e (by exact rfl) (by exact rfl) ?_ | refine rt_p (by exact rfl) (by exact rfl) (by (simp [AV.bd, bdL, bdL_append]; done)) ?_)) (by repeat' (first | exact ro_nil | refine ro_p (by exact rfl) (by exact rfl) (by first | exact bdL_map (fun _ => by exact rfl) _ | (simp [bdL, bdL_append, AV.bd]; done)) ?_)) (by decide) (by (rw [hm]; exact rfl)) (by exact rfl) (by (simp [bdT, AV.bd, bdL, bdL_append]; done)) (by repeat' (first | exact True.intro | refine And.intro ?_ ?_ | exact bdL_map (fun _ => by exact rfl) _ | (simp [bdOq, bdL, bdL_append, AV.bd]; done))) (by (rw [hm]; exact Nat.le_of_ble_eq_true rfl))⟩ (InU.start hM) ?_
        rintro ⟨p, mp, k⟩ hI
        dsimp only at *
        have hpl' := hI.u.len
        have hk := hI.hk
        by_cases hkl : k < (nth g.rules i).body.length
        · have hxl := hr.lo _ (nth_mem hkl)
          (repeat' (first | refine WP.seq ?_ | refine WP.block ?_ | refine go_n ?_ | refine WP.skip ?_ | refine bl_n ?_ | (refine wp_cond (by exact rfl) (fun hc => ?_) (fun hc => ?_) <;> (try simp only [decide_eq_true_eq, decide_eq_false_iff_not, Decidable.not_not, Bool.and_eq_true, Bool.or_eq_true, Bool.not_eq_true', Bool.not_eq_false', Bool.or_eq_false_iff, Bool.and_eq_false_iff, Int.not_lt, Int.not_le, reduceCtorEq, ne_eq, Bool.not_true, Bool.not_false, Bool.not_eq_true, Bool.not_eq_false] at hc) <;> (try (exfalso; omega))) | (refine WP.regionC (id := 11) ?_; (refine su (ap_lss (by exact rq_p rfl rfl) (by exact rq_p rfl rfl)) ?_); refine asemC_end ?_) | (refine WP.regionC (id := 12) ?_; (refine su (ap_idx_n (by exact rq_p rfl rfl) (by exact rq_p rfl rfl) (by omega)) ?_); (refine su (ap_load_w (by exact rq_p rfl rfl) (by exact rfl)) ?_); (refine su (ap_assign (by exact rq_p rfl rfl)) ?_); refine asemC_end ?_) | (refine WP.regionC (id := 13) ?_; (refine su (ap_move (by exact rq_p rfl rfl)) ?_); (refine su (ap_lss (by exact rq_p rfl rfl) (by exact rq_p rfl rfl)) ?_); (refine su (ap_move (by exact rq_p rfl rfl)) ?_); (refine sg (by exact gq_vt rfl rfl) (fun he => ap_move (by exact rq_p rfl rfl)) ?_); (refine sg (by exact gq_vt rfl rfl) (fun he => ap_move (by exact rq_p rfl rfl)) ?_); (refine sg (by exact gq_vt rfl rfl) (fun he => ap_sub (by exact rq_p rfl rfl) (by exact rq_c rfl rfl) (by (try simp only [List.all_cons, List.all_append, List.all_nil, id, Bool.and_true, decide_eq_true_eq, decide_eq_false_iff_not, Decidable.not_not, Bool.and_eq_true, Bool.or_eq_true, Bool.not_eq_true', Bool.not_eq_false', Bool.or_eq_false_iff, Bool.and_eq_false_iff, Int.not_lt, Int.not_le, reduceCtorEq, ne_eq, Bool.not_true, Bool.not_false, Bool.not_eq_true, Bool.not_eq_false] at he); exact inr_i64_of (by omega))) ?_); (refine sg (by exact gq_vt rfl rfl) (fun he => ap_idxr_z (by exact rq_c rfl rfl) (by exact rq_c rfl rfl) (by (try simp only [List.all_cons, List.all_append, List.all_nil, id, Bool.and_true, decide_eq_true_eq, decide_eq_false_iff_not, Decidable.not_not, Bool.and_eq_true, Bool.or_eq_true, Bool.not_eq_true', Bool.not_eq_false', Bool.or_eq_false_iff, Bool.and_eq_false_iff, Int.not_lt, Int.not_le, reduceCtorEq, ne_eq, Bool.not_true, Bool.not_false, Bool.not_eq_true, Bool.not_eq_false] at he); omega)) ?_); (refine sg (by exact gq_vt rfl rfl) (fun he => ap_load_pt (by exact rq_c rfl rfl) (by exact rfl) (by (try simp only [List.all_cons, List.all_append, List.all_nil, id, Bool.and_true, decide_eq_true_eq, decide_eq_false_iff_not, Decidable.not_not, Bool.and_eq_true, Bool.or_eq_true, Bool.not_eq_true', Bool.not_eq_false', Bool.or_eq_false_iff, Bool.and_eq_false_iff, Int.not_lt, Int.not_le, reduceCtorEq, ne_eq, Bool.not_true, Bool.not_false, Bool.not_eq_true, Bool.not_eq_false] at he); omega) (by exact rfl)) ?_); (refine sg (by exact gq_vt rfl rfl) (fun he => ap_not (by exact rq_c rfl rfl)) ?_); (refine su (ap_and (by exact rq_p rfl rfl) (by exact rq_c rfl rfl)) ?_); refine asemC_end ?_) | (refine WP.regionC (id := 14) ?_; (refine su (ap_move (by exact rq_p rfl rfl)) ?_); (refine su (ap_move (by exact rq_p rfl rfl)) ?_); (refine su (ap_sub (by exact rq_p rfl rfl) (by exact rq_p rfl rfl) (by exact inr_i64_of (by omega))) ?_); (refine su (ap_idxr_z (by exact rq_p rfl rfl) (by exact rq_p rfl rfl) (by omega)) ?_); (refine se_store_t (by exact rfl) (by exact rfl) (by omega) (by exact rfl) (by exact rfl) ?_); (refine su (ap_assign (by exact rq_p rfl rfl)) ?_); refine asemC_end ?_) | (refine WP.regionC (id := 15) ?_; (refine su (ap_add (by exact rq_p rfl rfl) (by exact rq_p rfl rfl) (by exact inr_i64_of (by omega))) ?_); (refine su (ap_move (by exact rq_p rfl rfl)) ?_); refine asemC_end ?_)))
          · exact ⟨(p.set (-1 - nth (nth g.rules i).body k).toNat true, true, k + 1), ⟨by dsimp only; omega, hI.set hv hlt hM hc1 hc2 hkl hc.1 hc.2⟩, ⟨[0, 1], ToR.S rfl (by repeat' (first | exact rt_nil | refine rt_r (by exact rfl) (by exact rfl) ?_ | refine rt_t (by exact rfl) (by exact rfl) ?_ | refine rt_e (by exact rfl) (by exact rfl) ?_ | refine rt_p (by exact rfl) (by exact rfl) (by (simp [AV.bd, bdL, bdL_append]; done)) ?_)) (by repeat' (first | exact ro_nil | refine ro_p (by exact rfl) (by exact rfl) (by first | exact bdL_map (fun _ => by exact rfl) _ | (simp [bdL, bdL_append, AV.bd]; done)) ?_)) (by decide) (by (rw [hm]; exact rfl)) (by exact rfl) (by (simp [bdT, AV.bd, bdL, bdL_append]; done)) (by repeat' (first | exact True.intro | refine And.intro ?_ ?_ | exact bdL_map (fun _ => by exact rfl) _ | (simp [bdOq, bdL, bdL_append, AV.bd]; done))) (by (rw [hm]; exact Nat.le_of_ble_eq_true rfl))⟩⟩
          · exact ⟨(p, mp, k + 1), ⟨by dsimp only; omega, hI.skip hkl hc⟩, ⟨[0, 1], ToR.S rfl (by repeat' (first | exact rt_nil | refine rt_r (by exact rfl) (by exact rfl) ?_ | refine rt_t (by exact rfl) (by exact rfl) ?_ | refine rt_e (by exact rfl) (by exact rfl) ?_ | refine rt_p (by exact rfl) (by exact rfl) (by (simp [AV.bd, bdL, bdL_append]; done)) ?_)) (by repeat' (first | exact ro_nil | refine ro_p (by exact rfl) (by exact rfl) (by first | exact bdL_map (fun _ => by exact rfl) _ | (simp [bdL, bdL_append, AV.bd]; done)) ?_)) (by decide) (by (rw [hm]; exact rfl)) (by exact rfl) (by (simp [bdT, AV.bd, bdL, bdL_append]; done)) (by repeat' (first | exact True.intro | refine And.intro ?_ ?_ | exact bdL_map (fun _ => by exact rfl) _ | (simp [bdOq, bdL, bdL_append, AV.bd]; done))) (by (rw [hm]; exact Nat.le_of_ble_eq_true rfl))⟩⟩
        · (repeat' (first | refine WP.seq ?_ | refine go_n ?_ | refine WP.exit ?_ | refine go_x ?_ | refine bl_n ?_ | refine bl_x ?_ | (refine wp_cond (by exact rfl) (fun hc => ?_) (fun hc => ?_) <;> (try simp only [decide_eq_true_eq, decide_eq_false_iff_not, Decidable.not_not, Bool.and_eq_true, Bool.or_eq_true, Bool.not_eq_true', Bool.not_eq_false', Bool.or_eq_false_iff, Bool.and_eq_false_iff, Int.not_lt, Int.not_le, reduceCtorEq, ne_eq, Bool.not_true, Bool.not_false, Bool.not_eq_true, Bool.not_eq_false] at hc) <;> (try (exfalso; omega))) | (refine WP.regionC (id := 11) ?_; (refine su (ap_lss (by exact rq_p rfl rfl) (by exact rq_p rfl rfl)) ?_); refine asemC_end ?_) | (refine WP.regionC (id := 16) ?_; (refine su (ap_add (by exact rq_p rfl rfl) (by exact rq_p rfl rfl) (by exact inr_i64_of (by omega))) ?_); (refine su (ap_move (by exact rq_p rfl rfl)) ?_); refine asemC_end ?_)))
          exact ⟨(p, mp, i + 1), ⟨by dsimp only; omega, hI.stop hM hlt (by omega)⟩, ⟨[0, 1], ToR.S rfl (by repeat' (first | exact rt_nil | refine rt_r (by exact rfl) (by exact rfl) ?_ | refine rt_t (by exact rfl) (by exact rfl) ?_ | refine rt_e (by exact rfl) (by exact rfl) ?_ | refine rt_p (by exact rfl) (by exact rfl) (by (simp [AV.bd, bdL, bdL_append]; done)) ?_)) (by repeat' (first | exact ro_nil | refine ro_p (by exact rfl) (by exact rfl) (by first | exact bdL_map (fun _ => by exact rfl) _ | (simp [bdL, bdL_append, AV.bd]; done)) ?_)) (by decide) (by (rw [hm]; exact rfl)) (by exact rfl) (by (simp [bdT, AV.bd, bdL, bdL_append]; done)) (by repeat' (first | exact True.intro | refine And.intro ?_ ?_ | exact bdL_map (fun _ => by exact rfl) _ | (simp [bdOq, bdL, bdL_append, AV.bd]; done))) (by (rw [hm]; exact Nat.le_of_ble_eq_true rfl))⟩⟩
    · (repeat' (first | refine WP.seq ?_ | refine go_n ?_ | refine WP.exit ?_ | refine go_x ?_ | refine bl_n ?_ | refine bl_x ?_ | (refine wp_cond (by exact rfl) (fun hc => ?_) (fun hc => ?_) <;> (try simp only [decide_eq_true_eq, decide_eq_false_iff_not, Decidable.not_not, Bool.and_eq_true, Bool.or_eq_true, Bool.not_eq_true', Bool.not_eq_false', Bool.or_eq_false_iff, Bool.and_eq_false_iff, Int.not_lt, Int.not_le, reduceCtorEq, ne_eq, Bool.not_true, Bool.not_false, Bool.not_eq_true, Bool.not_eq_false] at hc) <;> (try (exfalso; omega))) | (refine WP.regionC (id := 7) ?_; (refine su (ap_lss (by exact rq_p rfl rfl) (by exact rq_p rfl rfl)) ?_); refine asemC_end ?_)))
      refine ⟨(o, mo), ⟨?_, hM.u, fun h => hM.stop (by omega) h⟩, ⟨[0, 1], ToR.S rfl (by repeat' (first | exact rt_nil | refine rt_r (by exact rfl) (by exact rfl) ?_ | refine rt_t (by exact rfl) (by exact rfl) ?_ | refine rt_e (by exact rfl) (by exact rfl) ?_ | refine rt_p (by exact rfl) (by exact rfl) (by (simp [AV.bd, bdL, bdL_append]; done)) ?_)) (by repeat' (first | exact ro_nil | refine ro_p (by exact rfl) (by exact rfl) (by first | exact bdL_map (fun _ => by exact rfl) _ | (simp [bdL, bdL_append, AV.bd]; done)) ?_)) (by decide) (by (rw [hm]; exact rfl)) (by exact rfl) (by (simp [bdT, AV.bd, bdL, bdL_append]; done)) (by repeat' (first | exact True.intro | refine And.intro ?_ ?_ | exact bdL_map (fun _ => by exact rfl) _ | (simp [bdOq, bdL, bdL_append, AV.bd]; done))) (by (rw [hm]; exact Nat.le_of_ble_eq_true rfl))⟩⟩
      simp [*, hM.less]
  · exact hu.eq (hc0 hc)
end Go.Lg

/- analysis: all, heads$1$1, heads$1, Reachable$1 -/
namespace Go.Lg
open Go.Proofs
set_option linter.unusedSimpArgs false
set_option linter.unusedVariables false
attribute [local irreducible] Ap Rq asemC WP RunD Ret Gq thenA inBlockA bodyQ noGotoA RqL RqP OpP
set_option maxHeartbeats 4000000

theorem all_fn (l : List Int) (g : FuncId) (cap : List AV) (p : Int → Bool) (hcap : ∀ n, bdL n cap = true) (h : ∀ x, x ∈ l → Fn Try.prog g (intA x :: cap) (boolA (p x))) :
    Fn Try.prog 38 [intsA l, .clo (.func g) [] cap] (boolA (l.all p)) := by
  refine Fn.intro (by exact rfl) (by kernel_rfl) Try.func38 rfl rfl Try.ntmps38 (by exact Nat.le_of_ble_eq_true rfl) ?_; intro Γ hm
  refine wp_lens 0 rfl fun h0 => ?_
  rw [lens_intsA] at h0
  (repeat' (first | refine WP.seq ?_ | refine WP.block ?_ | refine go_n ?_ | (refine WP.regionC (id := 0) ?_; (refine su (ap_assign (by exact rq_p rfl rfl)) ?_); refine asemC_end ?_) | (refine WP.regionC (id := 1) ?_; (refine su (ap_move (by exact rq_p rfl rfl)) ?_); (refine su (ap_len_m (by exact rfl) (by exact rq_p rfl rfl)) ?_); (refine su (ap_move (by exact rq_p rfl rfl)) ?_); refine asemC_end ?_)))
  refine wp_loop (fun k => k ≤ l.length ∧ (l.take k).all p = true) (fun k => l.length - k) (fun k => (S 18 [(1, .clo (.func g) [] cap), (7, intsA l), (8, intA (l.length : Nat)), (9, intA (k : Nat))] 0 [])) 0 ⟨[], ToR.S rfl (by repeat' (first | exact rt_nil | refine rt_e (by exact rfl) (by exact rfl) ?_ | refine rt_p (by exact rfl) (by exact rfl) (by first | (simp [AV.bd, bdL, bdL_append]; done) | (simp [AV.bd, bdL, bdL_append, *]; done)) ?_)) (by repeat' (exact ro_nil)) (by decide) (by (rw [hm]; exact rfl)) (by exact rfl) (by simp [bdT, AV.bd, bdL, bdL_append, *]) (by repeat' (exact True.intro)) (by (rw [hm]; exact Nat.le_of_ble_eq_true rfl))⟩ ⟨Nat.zero_le _, rfl⟩ ?_
  rintro k ⟨hk, hall⟩
  (repeat' (first | refine WP.seq ?_ | refine WP.block ?_ | refine go_n ?_ | refine WP.skip ?_ | refine WP.exit ?_ | refine WP.ret ?_ | refine go_x ?_ | refine go_r ?_ | refine bl_n ?_ | refine bl_r ?_ | refine bl_x ?_ | refine bo_r ?_ | (refine wp_cond (by exact rfl) (fun hc => ?_) (fun hc => ?_) <;> (try simp only [decide_eq_true_eq, decide_eq_false_iff_not, Decidable.not_not, Bool.and_eq_true, Bool.or_eq_true, Bool.not_eq_true', Bool.not_eq_false', Bool.or_eq_false_iff, Bool.and_eq_false_iff, Int.not_lt, Int.not_le, reduceCtorEq, ne_eq, Bool.not_true, Bool.not_false, Bool.not_eq_true, Bool.not_eq_false] at hc) <;> (try (exfalso; omega))) | (refine WP.regionC (id := 2) ?_; (refine su (ap_lss (by exact rq_p rfl rfl) (by exact rq_p rfl rfl)) ?_); refine asemC_end ?_) | (refine WP.regionC (id := 3) ?_; (refine su (ap_idx_n (by exact rq_p rfl rfl) (by exact rq_p rfl rfl) (by omega)) ?_); (refine su (ap_load_w (by exact rq_p rfl rfl) (by exact rfl)) ?_); (refine su (ap_assign (by exact rq_p rfl rfl)) ?_); refine asemC_end ?_) | (refine WP.regionC (id := 4) ?_; (refine su (ap_move (by exact rq_p rfl rfl)) ?_); (refine su (ap_move (by exact rq_p rfl rfl)) ?_); (refine sc_p rfl rfl (by repeat' first | refine SubL.cons ?_ ?_ | exact SubL.rfl | exact Sub.refl) (by (simp [bdL, bdL_append, AV.bd, *]; done)) (h _ (nth_mem (by omega))) ?_); (refine su (ap_not (by exact rq_p rfl rfl)) ?_); refine asemC_end ?_) | (refine WP.regionC (id := 5) ?_; (refine su (ap_assign (by exact rq_p rfl rfl)) ?_); refine asemC_end ?_) | (refine WP.regionC (id := 6) ?_; (refine su (ap_add (by exact rq_p rfl rfl) (by exact rq_p rfl rfl) (by exact inr_i64_of (by omega))) ?_); (refine su (ap_move (by exact rq_p rfl rfl)) ?_); refine asemC_end ?_) | (refine WP.regionC (id := 7) ?_; (refine su (ap_assign (by exact rq_p rfl rfl)) ?_); refine asemC_end ?_) | refine ret_b (by exact rfl) ?_))
  · rw [all_nth_no (k := k) (by omega) hc]
  · exact ⟨k + 1, ⟨by omega, by omega, take_all_succ (by omega) hall hc⟩, ⟨[], ToR.S rfl (by repeat' (first | exact rt_nil | refine rt_e (by exact rfl) (by exact rfl) ?_ | refine rt_p (by exact rfl) (by exact rfl) (by first | (simp [AV.bd, bdL, bdL_append]; done) | (simp [AV.bd, bdL, bdL_append, *]; done)) ?_)) (by repeat' (exact ro_nil)) (by decide) (by (rw [hm]; exact rfl)) (by exact rfl) (by simp [bdT, AV.bd, bdL, bdL_append, *]) (by repeat' (exact True.intro)) (by (rw [hm]; exact Nat.le_of_ble_eq_true rfl))⟩⟩
  · rw [all_of_take' (by omega) hall]

theorem heads11_fn (out : List Bool) (x : Int) (hn : out.length ≤ 9223372036854775807) (hx : -(out.length : Int) ≤ x) : Fn Try.prog 39 [intA x, .iptr [boolA true] 0, .iptr [boolsA out] 0] (boolA (okSym out x)) := by
  refine Fn.intro (by exact rfl) (by kernel_rfl) Try.func39 rfl rfl Try.ntmps39 (by exact Nat.le_of_ble_eq_true rfl) ?_; intro Γ hm
  (repeat' (first | refine WP.seq ?_ | refine go_n ?_ | refine WP.ret ?_ | refine bo_r ?_ | (refine WP.regionC (id := 0) ?_; (refine su (ap_assign (by exact rq_p rfl rfl)) ?_); refine asemC_end ?_) | (refine WP.regionC (id := 1) ?_; (refine su (ap_move (by exact rq_p rfl rfl)) ?_); (refine su (ap_geq (by exact rq_p rfl rfl) (by exact rq_p rfl rfl)) ?_); (refine su (ap_move (by exact rq_p rfl rfl)) ?_); (refine sg (by exact gq_vt rfl rfl) (fun he => ap_load_i (by exact rq_p rfl rfl) (by exact rfl)) ?_); (refine su (ap_and (by exact rq_p rfl rfl) (by exact rq_c rfl rfl)) ?_); (refine su (ap_move (by exact rq_p rfl rfl)) ?_); (refine sg (by exact gq_vf rfl rfl) (fun he => ap_move (by exact rq_p rfl rfl)) ?_); (refine sg (by exact gq_vf rfl rfl) (fun he => ap_lss (by exact rq_c rfl rfl) (by exact rq_p rfl rfl)) ?_); (refine sg (by exact gq_vf rfl rfl) (fun he => ap_move (by exact rq_c rfl rfl)) ?_); (refine sg (by exact gq_ct rfl rfl) (fun he => ap_load_i (by exact rq_p rfl rfl) (by exact rfl)) ?_); (refine sg (by exact gq_ct rfl rfl) (fun he => ap_move (by exact rq_p rfl rfl)) ?_); (refine sg (by exact gq_ct rfl rfl) (fun he => ap_sub (by exact rq_p rfl rfl) (by exact rq_c rfl rfl) (by (try simp only [List.all_cons, List.all_append, List.all_nil, id, Bool.and_true, decide_eq_true_eq, decide_eq_false_iff_not, Decidable.not_not, Bool.and_eq_true, Bool.or_eq_true, Bool.not_eq_true', Bool.not_eq_false', Bool.or_eq_false_iff, Bool.and_eq_false_iff, Int.not_lt, Int.not_le, reduceCtorEq, ne_eq, Bool.not_true, Bool.not_false, Bool.not_eq_true, Bool.not_eq_false] at he); exact inr_i64_of (by omega))) ?_); (refine sg (by exact gq_ct rfl rfl) (fun he => ap_idx_z (by exact rq_c rfl rfl) (by exact rq_c rfl rfl) (by (try simp only [List.all_cons, List.all_append, List.all_nil, id, Bool.and_true, decide_eq_true_eq, decide_eq_false_iff_not, Decidable.not_not, Bool.and_eq_true, Bool.or_eq_true, Bool.not_eq_true', Bool.not_eq_false', Bool.or_eq_false_iff, Bool.and_eq_false_iff, Int.not_lt, Int.not_le, reduceCtorEq, ne_eq, Bool.not_true, Bool.not_false, Bool.not_eq_true, Bool.not_eq_false] at he); omega)) ?_); (refine sg (by exact gq_ct rfl rfl) (fun he => ap_load_w (by exact rq_c rfl rfl) (by exact rfl)) ?_); (refine sg (by exact gq_vf rfl rfl) (fun he => ap_and (by exact rq_c rfl rfl) (by exact rq_c rfl rfl)) ?_); (refine su (ap_or (by exact rq_p rfl rfl) (by exact rq_c rfl rfl)) ?_); (refine su (ap_assign (by exact rq_p rfl rfl)) ?_); refine asemC_end ?_) | refine ret_b (by exact rfl) ?_))
  simp only [okSym]
  by_cases h : 0 ≤ x
  · have : ¬ x < 0 := by omega
    simp [h, this]
  · have : x < 0 := by omega
    simp [h, this]

/-- the objects of heads: the variable out, its slice, terminals -/
def objH (n : Nat) (out : List Bool) : List AObj := [.arr 1 [.ref 1 1 0 n], .arr 1 (out.map boolA), .arr 1 [boolA true]]
@[simp] theorem objH_len (n : Nat) (out : List Bool) : (objH n out).length = 3 := rfl
def firesP (out : List Bool) (r : Rul) : Bool := !nth out r.head.toNat && r.body.all (okSym out)
def afterP (out : List Bool) (r : Rul) : List Bool := if firesP out r then out.set r.head.toNat true else out
theorem heads1_fn (n : Nat) (out : List Bool) (r : Rul) (hln : out.length = n) (hn : n ≤ 120) (h0 : 0 ≤ r.head) (h1 : r.head < out.length) (hlo : ∀ x, x ∈ r.body → -(out.length : Int) ≤ x) :
    FnM Try.prog 37 [ruleA r, .ptr 0 1 0 0, .ptr 2 1 0 0] (objH n out) fun x os' => x = boolA (firesP out r) ∧ os' = objH n (afterP out r) := by
  refine FnM.intro (by kernel_rfl) Try.func37 rfl rfl Try.ntmps37 (by exact Nat.le_of_ble_eq_true rfl) ?_; intro Γ hm
  (repeat' (first | refine WP.seq ?_ | refine go_n ?_ | refine WP.skip ?_ | refine WP.ret ?_ | refine go_r ?_ | refine bo_r ?_ | (refine wp_cond (by exact rfl) (fun hc => ?_) (fun hc => ?_) <;> (try simp only [decide_eq_true_eq, decide_eq_false_iff_not, Decidable.not_not, Bool.and_eq_true, Bool.or_eq_true, Bool.not_eq_true', Bool.not_eq_false', Bool.or_eq_false_iff, Bool.and_eq_false_iff, Int.not_lt, Int.not_le, reduceCtorEq, ne_eq, Bool.not_true, Bool.not_false, Bool.not_eq_true, Bool.not_eq_false] at hc) <;> (try (exfalso; omega))) | (refine WP.regionC (id := 0) ?_; (refine se_box (by exact rfl) (by exact ⟨rfl, rfl⟩) ?_); (refine su (ap_assign (by exact rq_p rfl rfl)) ?_); refine asemC_end ?_) | (refine WP.regionC (id := 1) ?_; (refine su (ap_load_pw (by exact rq_p rfl rfl) (by exact rfl) (by exact rfl) (by exact rfl)) ?_); (refine su (ap_field_p (by exact rq_p rfl rfl) (by exact rfl) (by exact rfl)) ?_); (refine su (ap_load_p (by exact rq_p rfl rfl) (by exact rfl) (by exact rfl) (by exact rfl)) ?_); (refine su (ap_idxr_z (by exact rq_p rfl rfl) (by exact rq_p rfl rfl) (by omega)) ?_); (refine su (ap_load_pt (by exact rq_p rfl rfl) (by exact rfl) (by omega) (by exact rfl)) ?_); (refine su (ap_move (by exact rq_p rfl rfl)) ?_); (refine sg (by exact gq_vf rfl rfl) (fun he => ap_field_p (by exact rq_p rfl rfl) (by exact rfl) (by exact rfl)) ?_); (refine sg (by exact gq_vf rfl rfl) (fun he => ap_load_p (by exact rq_c rfl rfl) (by exact rfl) (by exact rfl) (by exact rfl)) ?_); (refine sg (by exact gq_vf rfl rfl) (fun he => ap_clo (RqL.nil) (RqL.cons (by exact rq_p rfl rfl) (RqL.cons (by exact rq_p rfl rfl) (RqL.nil)))) ?_); (refine sg_b (by exact gq_vf rfl rfl) (fun he => ⟨(by exact rq_p rfl rfl), (RqL.cons (by exact rq_c rfl rfl) (RqL.cons (by exact rq_c rfl rfl) (RqL.nil))), (by repeat' first | exact FzL.nil | refine FzL.cons ?_ ?_ | (exact Fz.list (by exact rfl) (by assumption) (fun _ => by simp [AV.bd, bdL, bdL_append]) (fun _ => rfl)) | (exact Fz.reflp (by simp [AV.bd, bdL, bdL_append])) | refine Fz.ptrL (by exact rfl) (by exact rfl) ?_ | refine Fz.cloL ?_ ?_), all_fn _ _ _ (okSym out) (fun n => by simp [bdL, AV.bd]) (fun x hx => heads11_fn out x (by omega) (hlo x hx)), (by exact rfl)⟩) ?_); (refine sg (by exact gq_vf rfl rfl) (fun he => ap_not (by exact rq_c rfl rfl)) ?_); (refine su (ap_or (by exact rq_p rfl rfl) (by exact rq_c rfl rfl)) ?_); refine asemC_end ?_) | (refine WP.regionC (id := 2) ?_; (refine su (ap_assign (by exact rq_p rfl rfl)) ?_); refine asemC_end ?_) | (refine WP.regionC (id := 3) ?_; (refine su (ap_load_pw (by exact rq_p rfl rfl) (by exact rfl) (by exact rfl) (by exact rfl)) ?_); (refine su (ap_field_p (by exact rq_p rfl rfl) (by exact rfl) (by exact rfl)) ?_); (refine su (ap_load_p (by exact rq_p rfl rfl) (by exact rfl) (by exact rfl) (by exact rfl)) ?_); (refine su (ap_idxr_z (by exact rq_p rfl rfl) (by exact rq_p rfl rfl) (by omega)) ?_); (refine se_store_t (by exact rfl) (by exact rfl) (by omega) (by exact rfl) (by exact rfl) ?_); refine asemC_end ?_) | (refine WP.regionC (id := 4) ?_; (refine su (ap_assign (by exact rq_p rfl rfl)) ?_); refine asemC_end ?_)))
  · have hf : firesP out r = false := by
      unfold firesP; rcases hc with hc | hc
      · simp [hc]
      · simp [hc]
    exact retM_1 (os1 := [(0, some (.arr 1 [.ref 1 1 0 n])), (1, some (.arr 1 (out.map boolA))), (2, some (.arr 1 [boolA true]))]) (objH n out) (by exact rfl) rfl ⟨[0, 1, 2], ToR.S rfl (by repeat' (exact rt_nil)) (by repeat' (first | exact ro_nil | refine ro_e (by exact rfl) (by exact rfl) ?_ | refine ro_p (by exact rfl) (by exact rfl) (by exact bdL_map (fun _ => by exact rfl) _) ?_)) (by decide) (by exact rfl) (by exact rfl) (by (simp [bdT, AV.bd, bdL, bdL_append]; done)) (by repeat' (first | exact True.intro | exact rfl | refine And.intro ?_ ?_ | exact bdL_map (fun _ => by exact rfl) _)) (by exact Nat.le_of_ble_eq_true rfl)⟩ rfl ⟨by rw [hf]; rfl, by rw [afterP, if_neg (by simp [hf])]⟩
  · have hf : firesP out r = true := by unfold firesP; simp [hc]
    exact retM_1 (os1 := [(0, some (.arr 1 [.ref 1 1 0 n])), (1, some (.arr 1 ((out.set r.head.toNat true).map boolA))), (2, some (.arr 1 [boolA true]))]) [.arr 1 [.ref 1 1 0 n], .arr 1 ((out.set r.head.toNat true).map boolA), .arr 1 [boolA true]] (by exact rfl) rfl ⟨[0, 1, 2], ToR.S rfl (by repeat' (exact rt_nil)) (by repeat' (first | exact ro_nil | refine ro_e (by exact rfl) (by exact rfl) ?_ | refine ro_p (by exact rfl) (by exact rfl) (by exact bdL_map (fun _ => by exact rfl) _) ?_)) (by decide) (by exact rfl) (by exact rfl) (by (simp [bdT, AV.bd, bdL, bdL_append]; done)) (by repeat' (first | exact True.intro | exact rfl | refine And.intro ?_ ?_ | exact bdL_map (fun _ => by exact rfl) _)) (by exact Nat.le_of_ble_eq_true rfl)⟩ rfl ⟨by rw [hf]; rfl, by rw [afterP, if_pos hf]; simp [objH]⟩

/-- all nonterminals -/
def yesB (n : Nat) : List Bool := List.replicate n true
theorem all_yes {n : Nat} {l : List Int} (h : ∀ x, x ∈ l → -(n : Int) ≤ x) : l.all (okSym (yesB n)) = true := by
  rw [List.all_eq_true]; intro x hx
  have := h x hx
  simp only [okSym, Bool.or_eq_true, decide_eq_true_eq]
  by_cases h0 : 0 ≤ x
  · exact .inl h0
  · exact .inr (nth_replicate (by omega))
/-- the objects of Reachable: the variable out, its slice -/
def objR (n : Nat) (out : List Bool) : List AObj := [.arr 1 [.ref 1 1 0 n], .arr 1 (out.map boolA)]
@[simp] theorem objR_len (n : Nat) (out : List Bool) : (objR n out).length = 2 := rfl
/-- what one call of Reachable's closure does -/
structure StepR (g : Gram) (r : Rul) (out out' : List Bool) (ch : Bool) : Prop where
  len : out'.length = out.length
  u : UnderU g (yesB g.nonterms.length) out → UnderU g (yesB g.nonterms.length) out'
  le : leB out out'
  t : ch = true → falses out' < falses out
  f : ch = false → out' = out ∧ ClosedU (yesB g.nonterms.length) out r
/-- .. k symbols done -/
structure StepK (g : Gram) (r : Rul) (out o : List Bool) (ch : Bool) (k : Nat) : Prop where
  hk : k ≤ r.body.length
  u : UnderU g (yesB g.nonterms.length) out → UnderU g (yesB g.nonterms.length) o
  le : leB out o
  h : nth out r.head.toNat = false → o = out ∧ ch = false
  t : ch = true → falses o < falses out
  f : ch = false → o = out ∧ (nth out r.head.toNat = true → ∀ j, j < k → nth r.body j < 0 → nth out (-1 - nth r.body j).toNat = true)
theorem reach1_fn (g : Gram) (hv : GVal g) (out : List Bool) (r : Rul) (hr : r ∈ g.rules) (hn : out.length = g.nonterms.length) :
    FnM Try.prog 31 [ruleA r, .ptr 0 1 0 0] (objR g.nonterms.length out) fun x os' => ∃ out' ch, x = boolA ch ∧ os' = objR g.nonterms.length out' ∧ StepR g r out out' ch := by
  refine FnM.intro (by kernel_rfl) Try.func31 rfl rfl Try.ntmps31 (by exact Nat.le_of_ble_eq_true rfl) ?_; intro Γ hm
  have hr' := hv.rule r hr
  have h0 := hr'.h0
  have h1 := hr'.hn
  have hrl := hr'.len
  have hn2 := hv.n2
  (repeat' (first | refine WP.seq ?_ | refine WP.block ?_ | refine go_n ?_ | (refine WP.regionC (id := 0) ?_; (refine se_box (by exact rfl) (by exact ⟨rfl, rfl⟩) ?_); (refine su (ap_assign (by exact rq_p rfl rfl)) ?_); refine asemC_end ?_) | (refine WP.regionC (id := 1) ?_; (refine su (ap_assign (by exact rq_p rfl rfl)) ?_); refine asemC_end ?_) | (refine WP.regionC (id := 2) ?_; (refine su (ap_field_p (by exact rq_p rfl rfl) (by exact rfl) (by exact rfl)) ?_); (refine su (ap_load_p (by exact rq_p rfl rfl) (by exact rfl) (by exact rfl) (by exact rfl)) ?_); (refine su (ap_len_m (by exact rfl) (by exact rq_p rfl rfl)) ?_); (refine su (ap_move (by exact rq_p rfl rfl)) ?_); refine asemC_end ?_)))
  refine wp_loop (fun (x : List Bool × Bool × Nat) => StepK g r out x.1 x.2.1 x.2.2) (fun x => r.body.length - x.2.2)
    (fun x => (S 37 [(1, .ptr 0 1 0 0), (2, .ptr 2 3 0 0), (4, boolA x.2.1), (8, intsA r.body), (9, intA (r.body.length : Nat)), (10, intA (x.2.2 : Nat))] 3 [(0, some (.arr 1 [.ref 1 1 0 g.nonterms.length])), (1, some (.arr 1 (x.1.map boolA))), (2, some (.arr 3 [ruleA r]))])) (out, false, 0) ⟨[0, 1, 2], ToR.S rfl (by repeat' (first | exact rt_nil | refine rt_t (by exact rfl) (by exact rfl) ?_ | refine rt_e (by exact rfl) (by exact rfl) ?_ | refine rt_p (by exact rfl) (by exact rfl) (by (simp [AV.bd, bdL, bdL_append]; done)) ?_)) (by repeat' (first | exact ro_nil | refine ro_e (by exact rfl) (by exact rfl) ?_ | refine ro_p (by exact rfl) (by exact rfl) (by first | exact bdL_map (fun _ => by exact rfl) _ | (simp [bdL, bdL_append, AV.bd]; done)) ?_)) (by decide) (by (rw [hm]; exact rfl)) (by exact rfl) (by (simp [bdT, AV.bd, bdL, bdL_append]; done)) (by repeat' (first | exact True.intro | exact rfl | refine And.intro ?_ ?_ | exact bdL_map (fun _ => by exact rfl) _ | (simp [bdOq, bdL, bdL_append, AV.bd]; done))) (by (rw [hm]; exact Nat.le_of_ble_eq_true rfl))⟩
    ⟨Nat.zero_le _, id, .refl _, fun _ => ⟨rfl, rfl⟩, by simp, fun _ => ⟨rfl, fun _ j hj => absurd hj (Nat.not_lt_zero j)⟩⟩ ?_
  rintro ⟨o, ch, k⟩ hK
  dsimp only at *
  have hol : o.length = out.length := hK.le.1.symm
  have hk := hK.hk
  have hfo : falses o ≤ falses out := falses_mono hK.le
  by_cases hlt : k < r.body.length
  · have hxl := hr'.lo _ (nth_mem hlt)
    (repeat' (first | refine WP.seq ?_ | refine WP.block ?_ | refine go_n ?_ | refine WP.skip ?_ | refine bl_n ?_ | (refine wp_cond (by exact rfl) (fun hc => ?_) (fun hc => ?_) <;> (try simp only [decide_eq_true_eq, decide_eq_false_iff_not, Decidable.not_not, Bool.and_eq_true, Bool.or_eq_true, Bool.not_eq_true', Bool.not_eq_false', Bool.or_eq_false_iff, Bool.and_eq_false_iff, Int.not_lt, Int.not_le, reduceCtorEq, ne_eq, Bool.not_true, Bool.not_false, Bool.not_eq_true, Bool.not_eq_false] at hc) <;> (try (exfalso; omega))) | (refine WP.regionC (id := 3) ?_; (refine su (ap_lss (by exact rq_p rfl rfl) (by exact rq_p rfl rfl)) ?_); refine asemC_end ?_) | (refine WP.regionC (id := 4) ?_; (refine su (ap_idx_n (by exact rq_p rfl rfl) (by exact rq_p rfl rfl) (by omega)) ?_); (refine su (ap_load_w (by exact rq_p rfl rfl) (by exact rfl)) ?_); (refine su (ap_assign (by exact rq_p rfl rfl)) ?_); refine asemC_end ?_) | (refine WP.regionC (id := 5) ?_; (refine su (ap_load_pw (by exact rq_p rfl rfl) (by exact rfl) (by exact rfl) (by exact rfl)) ?_); (refine su (ap_field_p (by exact rq_p rfl rfl) (by exact rfl) (by exact rfl)) ?_); (refine su (ap_load_p (by exact rq_p rfl rfl) (by exact rfl) (by exact rfl) (by exact rfl)) ?_); (refine su (ap_idxr_z (by exact rq_p rfl rfl) (by exact rq_p rfl rfl) (by omega)) ?_); (refine su (ap_load_pt (by exact rq_p rfl rfl) (by exact rfl) (by omega) (by exact rfl)) ?_); (refine su (ap_move (by exact rq_p rfl rfl)) ?_); (refine sg (by exact gq_vt rfl rfl) (fun he => ap_move (by exact rq_p rfl rfl)) ?_); (refine sg (by exact gq_vt rfl rfl) (fun he => ap_lss (by exact rq_c rfl rfl) (by exact rq_p rfl rfl)) ?_); (refine su (ap_and (by exact rq_p rfl rfl) (by exact rq_c rfl rfl)) ?_); (refine su (ap_move (by exact rq_p rfl rfl)) ?_); (refine sg (by exact gq_vt rfl rfl) (fun he => ap_load_pw (by exact rq_p rfl rfl) (by exact rfl) (by exact rfl) (by exact rfl)) ?_); (refine sg (by exact gq_vt rfl rfl) (fun he => ap_move (by exact rq_p rfl rfl)) ?_); (refine sg (by exact gq_vt rfl rfl) (fun he => ap_sub (by exact rq_p rfl rfl) (by exact rq_c rfl rfl) (by (try simp only [List.all_cons, List.all_append, List.all_nil, id, Bool.and_true, decide_eq_true_eq, decide_eq_false_iff_not, Decidable.not_not, Bool.and_eq_true, Bool.or_eq_true, Bool.not_eq_true', Bool.not_eq_false', Bool.or_eq_false_iff, Bool.and_eq_false_iff, Int.not_lt, Int.not_le, reduceCtorEq, ne_eq, Bool.not_true, Bool.not_false, Bool.not_eq_true, Bool.not_eq_false] at he); exact inr_i64_of (by omega))) ?_); (refine sg (by exact gq_vt rfl rfl) (fun he => ap_idxr_z (by exact rq_c rfl rfl) (by exact rq_c rfl rfl) (by (try simp only [List.all_cons, List.all_append, List.all_nil, id, Bool.and_true, decide_eq_true_eq, decide_eq_false_iff_not, Decidable.not_not, Bool.and_eq_true, Bool.or_eq_true, Bool.not_eq_true', Bool.not_eq_false', Bool.or_eq_false_iff, Bool.and_eq_false_iff, Int.not_lt, Int.not_le, reduceCtorEq, ne_eq, Bool.not_true, Bool.not_false, Bool.not_eq_true, Bool.not_eq_false] at he); omega)) ?_); (refine sg (by exact gq_vt rfl rfl) (fun he => ap_load_pt (by exact rq_c rfl rfl) (by exact rfl) (by (try simp only [List.all_cons, List.all_append, List.all_nil, id, Bool.and_true, decide_eq_true_eq, decide_eq_false_iff_not, Decidable.not_not, Bool.and_eq_true, Bool.or_eq_true, Bool.not_eq_true', Bool.not_eq_false', Bool.or_eq_false_iff, Bool.and_eq_false_iff, Int.not_lt, Int.not_le, reduceCtorEq, ne_eq, Bool.not_true, Bool.not_false, Bool.not_eq_true, Bool.not_eq_false] at he); omega) (by exact rfl)) ?_); (refine sg (by exact gq_vt rfl rfl) (fun he => ap_not (by exact rq_c rfl rfl)) ?_); (refine su (ap_and (by exact rq_p rfl rfl) (by exact rq_c rfl rfl)) ?_); refine asemC_end ?_) | (refine WP.regionC (id := 6) ?_; (refine su (ap_load_pw (by exact rq_p rfl rfl) (by exact rfl) (by exact rfl) (by exact rfl)) ?_); (refine su (ap_move (by exact rq_p rfl rfl)) ?_); (refine su (ap_sub (by exact rq_p rfl rfl) (by exact rq_p rfl rfl) (by exact inr_i64_of (by omega))) ?_); (refine su (ap_idxr_z (by exact rq_p rfl rfl) (by exact rq_p rfl rfl) (by omega)) ?_); (refine se_store_t (by exact rfl) (by exact rfl) (by omega) (by exact rfl) (by exact rfl) ?_); (refine su (ap_assign (by exact rq_p rfl rfl)) ?_); refine asemC_end ?_) | (refine WP.regionC (id := 7) ?_; (refine su (ap_add (by exact rq_p rfl rfl) (by exact rq_p rfl rfl) (by exact inr_i64_of (by omega))) ?_); (refine su (ap_move (by exact rq_p rfl rfl)) ?_); refine asemC_end ?_)))
    · refine ⟨(o.set (-1 - nth r.body k).toNat true, true, k + 1), ⟨by dsimp only; omega, by dsimp only; omega, fun hu => ?_, hK.le.trans leB_set_up, fun h => ?_, fun _ => ?_, by simp⟩, ⟨[0, 1, 2], ToR.S rfl (by repeat' (first | exact rt_nil | refine rt_t (by exact rfl) (by exact rfl) ?_ | refine rt_e (by exact rfl) (by exact rfl) ?_ | refine rt_p (by exact rfl) (by exact rfl) (by (simp [AV.bd, bdL, bdL_append]; done)) ?_)) (by repeat' (first | exact ro_nil | refine ro_e (by exact rfl) (by exact rfl) ?_ | refine ro_p (by exact rfl) (by exact rfl) (by first | exact bdL_map (fun _ => by exact rfl) _ | (simp [bdL, bdL_append, AV.bd]; done)) ?_)) (by decide) (by (rw [hm]; exact rfl)) (by exact rfl) (by (simp [bdT, AV.bd, bdL, bdL_append]; done)) (by repeat' (first | exact True.intro | exact rfl | refine And.intro ?_ ?_ | exact bdL_map (fun _ => by exact rfl) _ | (simp [bdOq, bdL, bdL_append, AV.bd]; done))) (by (rw [hm]; exact Nat.le_of_ble_eq_true rfl))⟩⟩
      · exact (hK.u hu).set hv hr hc.1.1 (all_yes fun x hx => hr'.lo x hx) (nth_mem hlt) hc.1.2
      · rw [(hK.h h).1] at hc; rw [h] at hc; simp at hc
      · have := falses_set (l := o) (i := (-1 - nth r.body k).toNat) (by omega) hc.2
        dsimp only; omega
    · refine ⟨(o, ch, k + 1), ⟨by dsimp only; omega, by dsimp only; omega, hK.u, hK.le, hK.h, hK.t, fun h => ⟨(hK.f h).1, fun h1 j hj hx => ?_⟩⟩, ⟨[0, 1, 2], ToR.S rfl (by repeat' (first | exact rt_nil | refine rt_t (by exact rfl) (by exact rfl) ?_ | refine rt_e (by exact rfl) (by exact rfl) ?_ | refine rt_p (by exact rfl) (by exact rfl) (by (simp [AV.bd, bdL, bdL_append]; done)) ?_)) (by repeat' (first | exact ro_nil | refine ro_e (by exact rfl) (by exact rfl) ?_ | refine ro_p (by exact rfl) (by exact rfl) (by first | exact bdL_map (fun _ => by exact rfl) _ | (simp [bdL, bdL_append, AV.bd]; done)) ?_)) (by decide) (by (rw [hm]; exact rfl)) (by exact rfl) (by (simp [bdT, AV.bd, bdL, bdL_append]; done)) (by repeat' (first | exact True.intro | exact rfl | refine And.intro ?_ ?_ | exact bdL_map (fun _ => by exact rfl) _ | (simp [bdOq, bdL, bdL_append, AV.bd]; done))) (by (rw [hm]; exact Nat.le_of_ble_eq_true rfl))⟩⟩
      dsimp only at hj
      by_cases e : j = k
      · subst e
        rw [(hK.f h).1] at hc
        rcases hc with (hc | hc) | hc
        · rw [hc] at h1; cases h1
        · omega
        · exact hc
      · exact (hK.f h).2 h1 j (by omega) hx
  · (repeat' (first | refine WP.seq ?_ | refine go_n ?_ | refine WP.exit ?_ | refine WP.ret ?_ | refine go_x ?_ | refine bl_x ?_ | refine bo_r ?_ | (refine wp_cond (by exact rfl) (fun hc => ?_) (fun hc => ?_) <;> (try simp only [decide_eq_true_eq, decide_eq_false_iff_not, Decidable.not_not, Bool.and_eq_true, Bool.or_eq_true, Bool.not_eq_true', Bool.not_eq_false', Bool.or_eq_false_iff, Bool.and_eq_false_iff, Int.not_lt, Int.not_le, reduceCtorEq, ne_eq, Bool.not_true, Bool.not_false, Bool.not_eq_true, Bool.not_eq_false] at hc) <;> (try (exfalso; omega))) | (refine WP.regionC (id := 3) ?_; (refine su (ap_lss (by exact rq_p rfl rfl) (by exact rq_p rfl rfl)) ?_); refine asemC_end ?_) | (refine WP.regionC (id := 8) ?_; (refine su (ap_move (by exact rq_p rfl rfl)) ?_); (refine su (ap_assign (by exact rq_p rfl rfl)) ?_); refine asemC_end ?_)))
    refine retM_1 (os1 := [(0, some (.arr 1 [.ref 1 1 0 g.nonterms.length])), (1, some (.arr 1 (o.map boolA)))]) [.arr 1 [.ref 1 1 0 g.nonterms.length], .arr 1 (o.map boolA)] (by exact rfl) rfl ⟨[0, 1], ToR.S rfl (by repeat' (exact rt_nil)) (by repeat' (first | exact ro_nil | refine ro_e (by exact rfl) (by exact rfl) ?_ | refine ro_p (by exact rfl) (by exact rfl) (by exact bdL_map (fun _ => by exact rfl) _) ?_)) (by decide) (by exact rfl) (by exact rfl) (by (simp [bdT, AV.bd, bdL, bdL_append]; done)) (by repeat' (first | exact True.intro | exact rfl | refine And.intro ?_ ?_ | exact bdL_map (fun _ => by exact rfl) _)) (by exact Nat.le_of_ble_eq_true rfl)⟩ rfl ⟨o, ch, rfl, rfl, hol, hK.u, hK.le, hK.t, fun h => ⟨(hK.f h).1, fun h1 _ x hx hx0 => ?_⟩⟩
    obtain ⟨m, hm', rfl⟩ := List.getElem_of_mem hx
    have := (hK.f h).2 h1 m (by omega)
    rw [nth_eq hm'] at this
    exact this hx0
end Go.Lg

/- analysis: fixpoint over heads and Reachable; Productive, Reachable -/
namespace Go.Lg
open Go.Proofs
set_option linter.unusedSimpArgs false
set_option linter.unusedVariables false
attribute [local irreducible] Ap Rq asemC WP RunD Ret Gq thenA inBlockA bodyQ noGotoA RqL RqP OpP
set_option maxHeartbeats 4000000

theorem firesP_no {g : Gram} {out : List Bool} (h : ∀ j, j < g.rules.length → firesP out (nth g.rules j) = false) : ∀ r, r ∈ g.rules → r.body.all (okSym out) = true → nth out r.head.toNat = true := by
  intro r hr hb
  obtain ⟨j, hj, rfl⟩ := List.getElem_of_mem hr
  have := h j hj
  rw [nth_eq hj] at this
  unfold firesP at this
  rw [hb] at this
  simpa using this

theorem fixH_fn (g : Gram) (hv : GVal g) :
    FnM Try.prog 30 [gramA g, .clo (.func 37) [] [.ptr 0 1 0 0, .ptr 2 1 0 0]] (objH g.nonterms.length (nob g.nonterms.length)) fun _ os' => os' = objH g.nonterms.length (prodG g) := by
  refine FnM.intro (by kernel_rfl) Try.func30 rfl rfl Try.ntmps30 (by exact Nat.le_of_ble_eq_true rfl) ?_; intro Γ hm
  have hr2 := hv.r2
  have hn2 := hv.n2
  (repeat' (first | refine WP.seq ?_ | refine WP.label ?_ | refine WP.block ?_ | refine WP.scope ?_ | refine go_n ?_ | (refine WP.regionC (id := 0) ?_; (refine se_box (by exact rfl) (by exact ⟨rfl, rfl⟩) ?_); refine asemC_end ?_)))
  refine wp_loop (fun (out : List Bool) => UnderP g out) (fun out => falses out)
    (fun out => (S 17 [(1, .clo (.func 37) [] [.ptr 0 1 0 0, .ptr 2 1 0 0]), (2, .ptr 3 4 0 0)] 4 [(0, some (.arr 1 [.ref 1 1 0 g.nonterms.length])), (1, some (.arr 1 (out.map boolA))), (2, some (.arr 1 [boolA true])), (3, some (.arr 4 [gramA g]))])) (nob g.nonterms.length) ⟨[0, 1, 2, 3], ToR.S rfl (by repeat' (first | exact rt_nil | refine rt_t (by exact rfl) (by exact rfl) ?_ | refine rt_e (by exact rfl) (by exact rfl) ?_)) (by repeat' (first | exact ro_nil | refine ro_e (by exact rfl) (by exact rfl) ?_ | refine ro_p (by exact rfl) (by exact rfl) (by first | exact bdL_map (fun _ => by exact rfl) _ | (simp [bdL, bdL_append, AV.bd]; done)) ?_)) (by decide) (by (rw [hm]; exact rfl)) (by exact rfl) (by (simp [bdT, AV.bd, bdL, bdL_append]; done)) (by repeat' (first | exact True.intro | exact rfl | refine And.intro ?_ ?_ | exact bdL_map (fun _ => by exact rfl) _ | (simp [bdOq, bdL, bdL_append, AV.bd]; done))) (by (rw [hm]; exact Nat.le_of_ble_eq_true rfl))⟩ (UnderP.nob g) ?_
  rintro out hu
  have hol := hu.1
  (repeat' (first | refine WP.seq ?_ | refine WP.block ?_ | refine go_n ?_ | (refine WP.regionC (id := 1) ?_; (refine su (ap_field_p (by exact rq_p rfl rfl) (by exact rfl) (by exact rfl)) ?_); (refine su (ap_load_p (by exact rq_p rfl rfl) (by exact rfl) (by exact rfl) (by exact rfl)) ?_); (refine su (ap_len_m (by exact rfl) (by exact rq_p rfl rfl)) ?_); (refine su (ap_move (by exact rq_p rfl rfl)) ?_); refine asemC_end ?_)))
  refine wp_loop (fun (i : Nat) => i ≤ g.rules.length ∧ ∀ j, j < i → firesP out (nth g.rules j) = false) (fun i => g.rules.length - i)
    (fun i => (S 17 [(1, .clo (.func 37) [] [.ptr 0 1 0 0, .ptr 2 1 0 0]), (2, .ptr 3 4 0 0), (7, rulesA g.rules), (8, intA (g.rules.length : Nat)), (9, intA (i : Nat))] 4 [(0, some (.arr 1 [.ref 1 1 0 g.nonterms.length])), (1, some (.arr 1 (out.map boolA))), (2, some (.arr 1 [boolA true])), (3, some (.arr 4 [gramA g]))])) 0 ⟨[0, 1, 2, 3], ToR.S rfl (by repeat' (first | exact rt_nil | refine rt_t (by exact rfl) (by exact rfl) ?_ | refine rt_e (by exact rfl) (by exact rfl) ?_ | refine rt_p (by exact rfl) (by exact rfl) (by (simp [AV.bd, bdL, bdL_append]; done)) ?_)) (by repeat' (first | exact ro_nil | refine ro_e (by exact rfl) (by exact rfl) ?_ | refine ro_p (by exact rfl) (by exact rfl) (by first | exact bdL_map (fun _ => by exact rfl) _ | (simp [bdL, bdL_append, AV.bd]; done)) ?_)) (by decide) (by (rw [hm]; exact rfl)) (by exact rfl) (by (simp [bdT, AV.bd, bdL, bdL_append]; done)) (by repeat' (first | exact True.intro | exact rfl | refine And.intro ?_ ?_ | exact bdL_map (fun _ => by exact rfl) _ | (simp [bdOq, bdL, bdL_append, AV.bd]; done))) (by (rw [hm]; exact Nat.le_of_ble_eq_true rfl))⟩ ⟨Nat.zero_le _, by simp⟩ ?_
  rintro i ⟨hi, hall⟩
  by_cases hlt : i < g.rules.length
  · have hr := hv.rule _ (nth_mem hlt)
    have h0 := hr.h0
    have h1 := hr.hn
    have hlo : ∀ x, x ∈ (nth g.rules i).body → -(out.length : Int) ≤ x := fun x hx => by have := hr.lo x hx; omega
    (repeat' (first | refine WP.seq ?_ | refine WP.block ?_ | refine go_n ?_ | refine WP.skip ?_ | refine WP.exit ?_ | refine go_x ?_ | refine bl_n ?_ | refine bl_x ?_ | refine bl_y (by rfl) ?_ | (refine wp_cond (by exact rfl) (fun hc => ?_) (fun hc => ?_) <;> (try simp only [decide_eq_true_eq, decide_eq_false_iff_not, Decidable.not_not, Bool.and_eq_true, Bool.or_eq_true, Bool.not_eq_true', Bool.not_eq_false', Bool.or_eq_false_iff, Bool.and_eq_false_iff, Int.not_lt, Int.not_le, reduceCtorEq, ne_eq, Bool.not_true, Bool.not_false, Bool.not_eq_true, Bool.not_eq_false] at hc) <;> (try (exfalso; omega))) | (refine WP.regionC (id := 2) ?_; (refine su (ap_lss (by exact rq_p rfl rfl) (by exact rq_p rfl rfl)) ?_); refine asemC_end ?_) | (refine WP.regionC (id := 3) ?_; (refine su (ap_idx_n (by exact rq_p rfl rfl) (by exact rq_p rfl rfl) (by omega)) ?_); (refine su (ap_load_w (by exact rq_p rfl rfl) (by exact rfl)) ?_); (refine se_alloc (by exact rfl) ?_); (refine se_store_b (by exact rfl) (by exact rfl) (by exact rfl) (by exact rfl) ?_); refine asemC_end ?_) | (refine WP.regionC (id := 4) ?_; (refine su (ap_move (by exact rq_p rfl rfl)) ?_); (refine su (ap_load_pw (by exact rq_p rfl rfl) (by exact rfl) (by exact rfl) (by exact rfl)) ?_); (refine sc_v [0, 1, 2] rfl rfl (heads1_fn g.nonterms.length out (nth g.rules i) hol hn2 h0 (by omega) hlo) (Lend.S (by repeat' first | exact RenL.nil | refine RenL.cons (by first | exact rfl | exact ren_p (by simp [AV.bd, bdL, bdL_append])) ?_) (by repeat' first | exact LendO.nil | refine LendO.arr (by exact rfl) (by first | exact rfl | (exact (renL_pure (by exact bdL_map (fun _ => by exact rfl) _)).symm)) ?_) (by decide) (by exact rfl) (by simp [AV.bd, bdL, bdL_append]) (by repeat' (first | exact True.intro | refine And.intro ?_ ?_ | exact bdL_map (fun _ => by exact rfl) _ | simp [AV.bd, bdL, bdL_append]))) ?_; rintro r os' hlen ⟨rfl, rfl⟩; simp only [objH, upd, AObj.ren, renL, AV.ren, renL_pure, bdL_boolA, bdL_intA, bdL_strA, bd_boolA, bd_intA, bd_strA, apx, ap, List.length_cons, List.length_nil, List.getD_cons_zero, List.getD_cons_succ, Nat.lt_irrefl, if_true, if_false, Nat.zero_lt_succ, Nat.reduceLT, Nat.reduceAdd, intA, boolA, strA]); refine asemC_end ?_) | (refine WP.regionC (id := 5) ?_; (refine su (ap_add (by exact rq_p rfl rfl) (by exact rq_p rfl rfl) (by exact inr_i64_of (by omega))) ?_); (refine su (ap_move (by exact rq_p rfl rfl)) ?_); refine asemC_end ?_)))
    · have hf := hc
      simp only [firesP, Bool.and_eq_true, Bool.not_eq_true'] at hf
      have e : afterP out (nth g.rules i) = out.set (nth g.rules i).head.toNat true := by rw [afterP, if_pos hc]
      have hl : (afterP out (nth g.rules i)).length = out.length := by rw [e]; simp
      refine ⟨afterP out (nth g.rules i), ⟨?_, ?_⟩, ⟨[0, 1, 2, 3], ToR.S rfl (by repeat' (first | exact rt_nil | refine rt_t (by exact rfl) (by exact rfl) ?_ | refine rt_e (by exact rfl) (by exact rfl) ?_)) (by repeat' (first | exact ro_nil | refine ro_e (by exact rfl) (by exact rfl) ?_ | refine ro_p (by exact rfl) (by exact rfl) (by first | exact bdL_map (fun _ => by exact rfl) _ | (simp [bdL, bdL_append, AV.bd]; done)) ?_)) (by decide) (by (rw [hm]; exact rfl)) (by exact rfl) (by (simp [bdT, AV.bd, bdL, bdL_append]; done)) (by repeat' (first | exact True.intro | exact rfl | refine And.intro ?_ ?_ | exact bdL_map (fun _ => by exact rfl) _ | (simp [bdOq, bdL, bdL_append, AV.bd]; done))) (by (rw [hm]; exact Nat.le_of_ble_eq_true rfl))⟩⟩
      · have := falses_set (l := out) (i := (nth g.rules i).head.toNat) (by omega) hf.1
        rw [e]; omega
      · rw [e]; exact hu.set hv (nth_mem hlt) hf.2
    · have e : afterP out (nth g.rules i) = out := by rw [afterP, if_neg (by simp [hc])]
      refine ⟨i + 1, ⟨by omega, by omega, fun j hj => ?_⟩, by rw [e]; exact ⟨[0, 1, 2, 3], ToR.S rfl (by repeat' (first | exact rt_nil | refine rt_t (by exact rfl) (by exact rfl) ?_ | refine rt_e (by exact rfl) (by exact rfl) ?_ | refine rt_p (by exact rfl) (by exact rfl) (by (simp [AV.bd, bdL, bdL_append]; done)) ?_)) (by repeat' (first | exact ro_nil | refine ro_e (by exact rfl) (by exact rfl) ?_ | refine ro_p (by exact rfl) (by exact rfl) (by first | exact bdL_map (fun _ => by exact rfl) _ | (simp [bdL, bdL_append, AV.bd]; done)) ?_)) (by decide) (by (rw [hm]; exact rfl)) (by exact rfl) (by (simp [bdT, AV.bd, bdL, bdL_append]; done)) (by repeat' (first | exact True.intro | exact rfl | refine And.intro ?_ ?_ | exact bdL_map (fun _ => by exact rfl) _ | (simp [bdOq, bdL, bdL_append, AV.bd]; done))) (by (rw [hm]; exact Nat.le_of_ble_eq_true rfl))⟩⟩
      by_cases q : j = i
      · subst q; exact hc
      · exact hall j (by omega)
  · (repeat' (first | refine WP.seq ?_ | refine ng_r ?_ | refine go_n ?_ | refine WP.exit ?_ | refine WP.ret ?_ | refine go_x ?_ | refine go_r ?_ | refine bl_r ?_ | refine bl_x ?_ | refine bo_r ?_ | (refine wp_cond (by exact rfl) (fun hc => ?_) (fun hc => ?_) <;> (try simp only [decide_eq_true_eq, decide_eq_false_iff_not, Decidable.not_not, Bool.and_eq_true, Bool.or_eq_true, Bool.not_eq_true', Bool.not_eq_false', Bool.or_eq_false_iff, Bool.and_eq_false_iff, Int.not_lt, Int.not_le, reduceCtorEq, ne_eq, Bool.not_true, Bool.not_false, Bool.not_eq_true, Bool.not_eq_false] at hc) <;> (try (exfalso; omega))) | (refine WP.regionC (id := 2) ?_; (refine su (ap_lss (by exact rq_p rfl rfl) (by exact rq_p rfl rfl)) ?_); refine asemC_end ?_)))
    have e : out = prodG g := hu.eq (firesP_no fun j hj => hall j (by omega))
    exact retM_0 (os1 := [(0, some (.arr 1 [.ref 1 1 0 g.nonterms.length])), (1, some (.arr 1 (out.map boolA))), (2, some (.arr 1 [boolA true]))]) (objH g.nonterms.length out) ⟨[0, 1, 2], ToR.S rfl (by repeat' (exact rt_nil)) (by repeat' (first | exact ro_nil | refine ro_e (by exact rfl) (by exact rfl) ?_ | refine ro_p (by exact rfl) (by exact rfl) (by exact bdL_map (fun _ => by exact rfl) _) ?_)) (by decide) (by exact rfl) (by exact rfl) (by (simp [bdT, AV.bd, bdL, bdL_append]; done)) (by repeat' (first | exact True.intro | exact rfl | refine And.intro ?_ ?_ | exact bdL_map (fun _ => by exact rfl) _)) (by exact Nat.le_of_ble_eq_true rfl)⟩ rfl (by rw [e])

theorem fixR_fn (g : Gram) (hv : GVal g) :
    FnM Try.prog 30 [gramA g, .clo (.func 31) [] [.ptr 0 1 0 0]] (objR g.nonterms.length (initU g)) fun _ os' => os' = objR g.nonterms.length (usefulG g (yesB g.nonterms.length)) := by
  refine FnM.intro (by kernel_rfl) Try.func30 rfl rfl Try.ntmps30 (by exact Nat.le_of_ble_eq_true rfl) ?_; intro Γ hm
  have hr2 := hv.r2
  have hn2 := hv.n2
  (repeat' (first | refine WP.seq ?_ | refine WP.label ?_ | refine WP.block ?_ | refine WP.scope ?_ | refine go_n ?_ | (refine WP.regionC (id := 0) ?_; (refine se_box (by exact rfl) (by exact ⟨rfl, rfl⟩) ?_); refine asemC_end ?_)))
  refine wp_loop (fun (out : List Bool) => UnderU g (yesB g.nonterms.length) out) (fun out => falses out)
    (fun out => (S 17 [(1, .clo (.func 31) [] [.ptr 0 1 0 0]), (2, .ptr 2 4 0 0)] 3 [(0, some (.arr 1 [.ref 1 1 0 g.nonterms.length])), (1, some (.arr 1 (out.map boolA))), (2, some (.arr 4 [gramA g]))])) (initU g) ⟨[0, 1, 2], ToR.S rfl (by repeat' (first | exact rt_nil | refine rt_t (by exact rfl) (by exact rfl) ?_ | refine rt_e (by exact rfl) (by exact rfl) ?_)) (by repeat' (first | exact ro_nil | refine ro_e (by exact rfl) (by exact rfl) ?_ | refine ro_p (by exact rfl) (by exact rfl) (by first | exact bdL_map (fun _ => by exact rfl) _ | (simp [bdL, bdL_append, AV.bd]; done)) ?_)) (by decide) (by (rw [hm]; exact rfl)) (by exact rfl) (by (simp [bdT, AV.bd, bdL, bdL_append]; done)) (by repeat' (first | exact True.intro | exact rfl | refine And.intro ?_ ?_ | exact bdL_map (fun _ => by exact rfl) _ | (simp [bdOq, bdL, bdL_append, AV.bd]; done))) (by (rw [hm]; exact Nat.le_of_ble_eq_true rfl))⟩ (UnderU.init g _) ?_
  rintro out hu
  have hol := hu.len
  (repeat' (first | refine WP.seq ?_ | refine WP.block ?_ | refine go_n ?_ | (refine WP.regionC (id := 1) ?_; (refine su (ap_field_p (by exact rq_p rfl rfl) (by exact rfl) (by exact rfl)) ?_); (refine su (ap_load_p (by exact rq_p rfl rfl) (by exact rfl) (by exact rfl) (by exact rfl)) ?_); (refine su (ap_len_m (by exact rfl) (by exact rq_p rfl rfl)) ?_); (refine su (ap_move (by exact rq_p rfl rfl)) ?_); refine asemC_end ?_)))
  refine wp_loop (fun (i : Nat) => i ≤ g.rules.length ∧ ∀ j, j < i → ClosedU (yesB g.nonterms.length) out (nth g.rules j)) (fun i => g.rules.length - i)
    (fun i => (S 17 [(1, .clo (.func 31) [] [.ptr 0 1 0 0]), (2, .ptr 2 4 0 0), (7, rulesA g.rules), (8, intA (g.rules.length : Nat)), (9, intA (i : Nat))] 3 [(0, some (.arr 1 [.ref 1 1 0 g.nonterms.length])), (1, some (.arr 1 (out.map boolA))), (2, some (.arr 4 [gramA g]))])) 0 ⟨[0, 1, 2], ToR.S rfl (by repeat' (first | exact rt_nil | refine rt_t (by exact rfl) (by exact rfl) ?_ | refine rt_e (by exact rfl) (by exact rfl) ?_ | refine rt_p (by exact rfl) (by exact rfl) (by (simp [AV.bd, bdL, bdL_append]; done)) ?_)) (by repeat' (first | exact ro_nil | refine ro_e (by exact rfl) (by exact rfl) ?_ | refine ro_p (by exact rfl) (by exact rfl) (by first | exact bdL_map (fun _ => by exact rfl) _ | (simp [bdL, bdL_append, AV.bd]; done)) ?_)) (by decide) (by (rw [hm]; exact rfl)) (by exact rfl) (by (simp [bdT, AV.bd, bdL, bdL_append]; done)) (by repeat' (first | exact True.intro | exact rfl | refine And.intro ?_ ?_ | exact bdL_map (fun _ => by exact rfl) _ | (simp [bdOq, bdL, bdL_append, AV.bd]; done))) (by (rw [hm]; exact Nat.le_of_ble_eq_true rfl))⟩ ⟨Nat.zero_le _, by simp⟩ ?_
  rintro i ⟨hi, hall⟩
  by_cases hlt : i < g.rules.length
  · (repeat' (first | refine WP.seq ?_ | refine WP.block ?_ | refine go_n ?_ | refine WP.skip ?_ | refine WP.exit ?_ | refine go_x ?_ | refine bl_n ?_ | refine bl_x ?_ | refine bl_y (by rfl) ?_ | (refine wp_cond (by exact rfl) (fun hc => ?_) (fun hc => ?_) <;> (try simp only [decide_eq_true_eq, decide_eq_false_iff_not, Decidable.not_not, Bool.and_eq_true, Bool.or_eq_true, Bool.not_eq_true', Bool.not_eq_false', Bool.or_eq_false_iff, Bool.and_eq_false_iff, Int.not_lt, Int.not_le, reduceCtorEq, ne_eq, Bool.not_true, Bool.not_false, Bool.not_eq_true, Bool.not_eq_false] at hc) <;> (try (exfalso; omega))) | (refine WP.regionC (id := 2) ?_; (refine su (ap_lss (by exact rq_p rfl rfl) (by exact rq_p rfl rfl)) ?_); refine asemC_end ?_) | (refine WP.regionC (id := 3) ?_; (refine su (ap_idx_n (by exact rq_p rfl rfl) (by exact rq_p rfl rfl) (by omega)) ?_); (refine su (ap_load_w (by exact rq_p rfl rfl) (by exact rfl)) ?_); (refine se_alloc (by exact rfl) ?_); (refine se_store_b (by exact rfl) (by exact rfl) (by exact rfl) (by exact rfl) ?_); refine asemC_end ?_) | (refine WP.regionC (id := 4) ?_; (refine su (ap_move (by exact rq_p rfl rfl)) ?_); (refine su (ap_load_pw (by exact rq_p rfl rfl) (by exact rfl) (by exact rfl) (by exact rfl)) ?_); (refine sc_v [0, 1] rfl rfl (reach1_fn g hv out (nth g.rules i) (nth_mem hlt) hol) (Lend.S (by repeat' first | exact RenL.nil | refine RenL.cons (by first | exact rfl | exact ren_p (by simp [AV.bd, bdL, bdL_append])) ?_) (by repeat' first | exact LendO.nil | refine LendO.arr (by exact rfl) (by first | exact rfl | (exact (renL_pure (by exact bdL_map (fun _ => by exact rfl) _)).symm)) ?_) (by decide) (by exact rfl) (by simp [AV.bd, bdL, bdL_append]) (by repeat' (first | exact True.intro | refine And.intro ?_ ?_ | exact bdL_map (fun _ => by exact rfl) _ | simp [AV.bd, bdL, bdL_append]))) ?_; rintro r os' hlen ⟨out', ch, rfl, rfl, hst⟩; simp only [objR, upd, AObj.ren, renL, AV.ren, renL_pure, bdL_boolA, bdL_intA, bdL_strA, bd_boolA, bd_intA, bd_strA, apx, ap, List.length_cons, List.length_nil, List.getD_cons_zero, List.getD_cons_succ, Nat.lt_irrefl, if_true, if_false, Nat.zero_lt_succ, Nat.reduceLT, Nat.reduceAdd, intA, boolA, strA]); refine asemC_end ?_) | (refine WP.regionC (id := 5) ?_; (refine su (ap_add (by exact rq_p rfl rfl) (by exact rq_p rfl rfl) (by exact inr_i64_of (by omega))) ?_); (refine su (ap_move (by exact rq_p rfl rfl)) ?_); refine asemC_end ?_)))
    · exact ⟨out', ⟨hst.t hc, hst.u hu⟩, ⟨[0, 1, 2], ToR.S rfl (by repeat' (first | exact rt_nil | refine rt_t (by exact rfl) (by exact rfl) ?_ | refine rt_e (by exact rfl) (by exact rfl) ?_)) (by repeat' (first | exact ro_nil | refine ro_e (by exact rfl) (by exact rfl) ?_ | refine ro_p (by exact rfl) (by exact rfl) (by first | exact bdL_map (fun _ => by exact rfl) _ | (simp [bdL, bdL_append, AV.bd]; done)) ?_)) (by decide) (by (rw [hm]; exact rfl)) (by exact rfl) (by (simp [bdT, AV.bd, bdL, bdL_append]; done)) (by repeat' (first | exact True.intro | exact rfl | refine And.intro ?_ ?_ | exact bdL_map (fun _ => by exact rfl) _ | (simp [bdOq, bdL, bdL_append, AV.bd]; done))) (by (rw [hm]; exact Nat.le_of_ble_eq_true rfl))⟩⟩
    · obtain ⟨e, hcl⟩ := hst.f hc
      subst e
      refine ⟨i + 1, ⟨by omega, by omega, fun j hj => ?_⟩, ⟨[0, 1, 2], ToR.S rfl (by repeat' (first | exact rt_nil | refine rt_t (by exact rfl) (by exact rfl) ?_ | refine rt_e (by exact rfl) (by exact rfl) ?_ | refine rt_p (by exact rfl) (by exact rfl) (by (simp [AV.bd, bdL, bdL_append]; done)) ?_)) (by repeat' (first | exact ro_nil | refine ro_e (by exact rfl) (by exact rfl) ?_ | refine ro_p (by exact rfl) (by exact rfl) (by first | exact bdL_map (fun _ => by exact rfl) _ | (simp [bdL, bdL_append, AV.bd]; done)) ?_)) (by decide) (by (rw [hm]; exact rfl)) (by exact rfl) (by (simp [bdT, AV.bd, bdL, bdL_append]; done)) (by repeat' (first | exact True.intro | exact rfl | refine And.intro ?_ ?_ | exact bdL_map (fun _ => by exact rfl) _ | (simp [bdOq, bdL, bdL_append, AV.bd]; done))) (by (rw [hm]; exact Nat.le_of_ble_eq_true rfl))⟩⟩
      by_cases q : j = i
      · subst q; exact hcl
      · exact hall j (by omega)
  · (repeat' (first | refine WP.seq ?_ | refine ng_r ?_ | refine go_n ?_ | refine WP.exit ?_ | refine WP.ret ?_ | refine go_x ?_ | refine go_r ?_ | refine bl_r ?_ | refine bl_x ?_ | refine bo_r ?_ | (refine wp_cond (by exact rfl) (fun hc => ?_) (fun hc => ?_) <;> (try simp only [decide_eq_true_eq, decide_eq_false_iff_not, Decidable.not_not, Bool.and_eq_true, Bool.or_eq_true, Bool.not_eq_true', Bool.not_eq_false', Bool.or_eq_false_iff, Bool.and_eq_false_iff, Int.not_lt, Int.not_le, reduceCtorEq, ne_eq, Bool.not_true, Bool.not_false, Bool.not_eq_true, Bool.not_eq_false] at hc) <;> (try (exfalso; omega))) | (refine WP.regionC (id := 2) ?_; (refine su (ap_lss (by exact rq_p rfl rfl) (by exact rq_p rfl rfl)) ?_); refine asemC_end ?_)))
    have e : out = usefulG g (yesB g.nonterms.length) := hu.eq fun r hr => by
      obtain ⟨j, hj, rfl⟩ := List.getElem_of_mem hr
      have := hall j (by omega)
      rwa [nth_eq hj] at this
    exact retM_0 (os1 := [(0, some (.arr 1 [.ref 1 1 0 g.nonterms.length])), (1, some (.arr 1 (out.map boolA)))]) (objR g.nonterms.length out) ⟨[0, 1], ToR.S rfl (by repeat' (exact rt_nil)) (by repeat' (first | exact ro_nil | refine ro_e (by exact rfl) (by exact rfl) ?_ | refine ro_p (by exact rfl) (by exact rfl) (by exact bdL_map (fun _ => by exact rfl) _) ?_)) (by decide) (by exact rfl) (by exact rfl) (by (simp [bdT, AV.bd, bdL, bdL_append]; done)) (by repeat' (first | exact True.intro | exact rfl | refine And.intro ?_ ?_ | exact bdL_map (fun _ => by exact rfl) _)) (by exact Nat.le_of_ble_eq_true rfl)⟩ rfl (by rw [e])

theorem heads_fn (g : Gram) (hv : GVal g) : Fn Try.prog 29 [gramA g, boolA true] (boolsA (prodG g)) := by
  refine Fn.intro (by simp [AV.bd, bdL, bdL_append]) (by kernel_rfl) Try.func29 rfl rfl Try.ntmps29 (by exact Nat.le_of_ble_eq_true rfl) ?_; intro Γ hm
  have hpl := prodG_len g
  have hn2 := hv.n2
  (repeat' (first | refine WP.seq ?_ | refine go_n ?_ | refine WP.ret ?_ | refine bo_r ?_ | (refine WP.regionC (id := 0) ?_; (refine se_box (by exact rfl) (by exact ⟨rfl, rfl⟩) ?_); (refine se_box (by exact rfl) (by exact ⟨rfl, rfl⟩) ?_); (refine su (ap_assign (by exact rq_p rfl rfl)) ?_); refine asemC_end ?_) | (refine WP.regionC (id := 1) ?_; (refine su (ap_field_p (by exact rq_p rfl rfl) (by exact rfl) (by exact rfl)) ?_); (refine su (ap_load_p (by exact rq_p rfl rfl) (by exact rfl) (by exact rfl) (by exact rfl)) ?_); (refine su (ap_len_m (by exact rfl) (by exact rq_p rfl rfl)) ?_); (refine se_makeT boolA false (by exact rfl) (by exact rfl) (by exact rfl) (by exact rfl) (by exact rfl) (by omega) ?_); (refine se_alloc (by exact rfl) ?_); (refine se_store_b (by exact rfl) (by exact rfl) (by exact rfl) (by exact rfl) ?_); refine asemC_end ?_) | (refine WP.regionC (id := 2) ?_; (refine su (ap_load_pw (by exact rq_p rfl rfl) (by exact rfl) (by exact rfl) (by exact rfl)) ?_); (refine su (ap_clo (RqL.nil) (RqL.cons (by exact rq_p rfl rfl) (RqL.cons (by exact rq_p rfl rfl) (RqL.nil)))) ?_); (refine sc_v [3, 2, 1] rfl rfl (fixH_fn g hv) (Lend.S (by repeat' first | exact RenL.nil | refine RenL.cons (by first | exact rfl | exact ren_p (by simp [AV.bd, bdL, bdL_append])) ?_) (by repeat' first | exact LendO.nil | refine LendO.arr (by exact rfl) (by first | exact rfl | (exact (renL_pure (by exact bdL_map (fun _ => by exact rfl) _)).symm)) ?_) (by decide) (by exact rfl) (by simp [AV.bd, bdL, bdL_append]) (by repeat' (first | exact True.intro | refine And.intro ?_ ?_ | exact bdL_map (fun _ => by exact rfl) _ | simp [AV.bd, bdL, bdL_append]))) ?_; rintro r os' hlen rfl; simp only [objH, upd, AObj.ren, renL, AV.ren, renL_pure, bdL_boolA, bdL_intA, bdL_strA, bd_boolA, bd_intA, bd_strA, apx, ap, List.length_cons, List.length_nil, List.getD_cons_zero, List.getD_cons_succ, Nat.lt_irrefl, if_true, if_false, Nat.zero_lt_succ, Nat.reduceLT, Nat.reduceAdd, intA, boolA, strA]); refine asemC_end ?_) | (refine WP.regionC (id := 3) ?_; (refine su (ap_load_pw (by exact rq_p rfl rfl) (by exact rfl) (by exact rfl) (by exact rfl)) ?_); (refine su (ap_assign (by exact rq_p rfl rfl)) ?_); refine asemC_end ?_) | refine ret_sl (by exact rfl) (by exact rfl) (by first | exact rfl | assumption) (fun _ => by exact rfl) (fun _ => rfl) ?_))
  rfl
theorem productive_an (g : Gram) (hv : GVal g) : Fn Try.prog 16 [gramA g] (boolsA (prodG g)) := by
  refine Fn.intro (by simp [AV.bd, bdL, bdL_append]) (by kernel_rfl) Try.func16 rfl rfl Try.ntmps16 (by exact Nat.le_of_ble_eq_true rfl) ?_; intro Γ hm
  (repeat' (first | refine WP.seq ?_ | refine go_n ?_ | refine WP.ret ?_ | refine bo_r ?_ | (refine WP.regionC (id := 0) ?_; (refine se_box (by exact rfl) (by exact ⟨rfl, rfl⟩) ?_); (refine su (ap_assign (by exact rq_p rfl rfl)) ?_); refine asemC_end ?_) | (refine WP.regionC (id := 1) ?_; (refine su (ap_load_pw (by exact rq_p rfl rfl) (by exact rfl) (by exact rfl) (by exact rfl)) ?_); (refine sc_p rfl rfl (by repeat' first | exact SubL.nil | refine SubL.cons ?_ ?_ | exact Sub.refl) (by (simp [bdL, bdL_append, AV.bd]; done)) (heads_fn g hv) ?_); (refine su (ap_assign (by exact rq_p rfl rfl)) ?_); refine asemC_end ?_) | exact ret_eq (by exact rfl) (by (simp [AV.bd, bdL, bdL_append]; done)) rfl))
theorem reachable_an (g : Gram) (hv : GVal g) : Fn Try.prog 17 [gramA g] (boolsA (usefulG g (yesB g.nonterms.length))) := by
  refine Fn.intro (by simp [AV.bd, bdL, bdL_append]) (by kernel_rfl) Try.func17 rfl rfl Try.ntmps17 (by exact Nat.le_of_ble_eq_true rfl) ?_; intro Γ hm
  have hpl := usefulG_len g (yesB g.nonterms.length)
  have hn2 := hv.n2
  have hs0 := hv.s0
  have hsn := hv.sn
  (repeat' (first | refine WP.seq ?_ | refine go_n ?_ | refine WP.ret ?_ | refine bo_r ?_ | (refine WP.regionC (id := 0) ?_; (refine se_box (by exact rfl) (by exact ⟨rfl, rfl⟩) ?_); (refine su (ap_assign (by exact rq_p rfl rfl)) ?_); refine asemC_end ?_) | (refine WP.regionC (id := 1) ?_; (refine su (ap_field_p (by exact rq_p rfl rfl) (by exact rfl) (by exact rfl)) ?_); (refine su (ap_load_p (by exact rq_p rfl rfl) (by exact rfl) (by exact rfl) (by exact rfl)) ?_); (refine su (ap_len_m (by exact rfl) (by exact rq_p rfl rfl)) ?_); (refine se_makeT boolA false (by exact rfl) (by exact rfl) (by exact rfl) (by exact rfl) (by exact rfl) (by omega) ?_); (refine se_alloc (by exact rfl) ?_); (refine se_store_b (by exact rfl) (by exact rfl) (by exact rfl) (by exact rfl) ?_); refine asemC_end ?_) | (refine WP.regionC (id := 2) ?_; (refine su (ap_load_pw (by exact rq_p rfl rfl) (by exact rfl) (by exact rfl) (by exact rfl)) ?_); (refine su (ap_field_p (by exact rq_p rfl rfl) (by exact rfl) (by exact rfl)) ?_); (refine su (ap_load_p (by exact rq_p rfl rfl) (by exact rfl) (by exact rfl) (by exact rfl)) ?_); (refine su (ap_idxr_z (by exact rq_p rfl rfl) (by exact rq_p rfl rfl) (by omega)) ?_); (refine se_store_t (by exact rfl) (by exact rfl) (by (simp only [List.length_replicate, List.length_set, List.length_append, List.length_map, List.length_cons, List.length_nil] <;> omega)) (by exact rfl) (by exact rfl) ?_); refine asemC_end ?_) | (refine WP.regionC (id := 3) ?_; (refine su (ap_load_pw (by exact rq_p rfl rfl) (by exact rfl) (by exact rfl) (by exact rfl)) ?_); (refine su (ap_clo (RqL.nil) (RqL.cons (by exact rq_p rfl rfl) (RqL.nil))) ?_); (refine sc_v [2, 1] rfl rfl (fixR_fn g hv) (Lend.S (by repeat' first | exact RenL.nil | refine RenL.cons (by first | exact rfl | exact ren_p (by simp [AV.bd, bdL, bdL_append])) ?_) (by repeat' first | exact LendO.nil | refine LendO.arr (by exact rfl) (by first | exact rfl | (exact (renL_pure (by exact bdL_map (fun _ => by exact rfl) _)).symm)) ?_) (by decide) (by exact rfl) (by simp [AV.bd, bdL, bdL_append]) (by repeat' (first | exact True.intro | refine And.intro ?_ ?_ | exact bdL_map (fun _ => by exact rfl) _ | simp [AV.bd, bdL, bdL_append]))) ?_; rintro r os' hlen rfl; simp only [objR, upd, AObj.ren, renL, AV.ren, renL_pure, bdL_boolA, bdL_intA, bdL_strA, bd_boolA, bd_intA, bd_strA, apx, ap, List.length_cons, List.length_nil, List.getD_cons_zero, List.getD_cons_succ, Nat.lt_irrefl, if_true, if_false, Nat.zero_lt_succ, Nat.reduceLT, Nat.reduceAdd, intA, boolA, strA]); refine asemC_end ?_) | (refine WP.regionC (id := 4) ?_; (refine su (ap_load_pw (by exact rq_p rfl rfl) (by exact rfl) (by exact rfl) (by exact rfl)) ?_); (refine su (ap_assign (by exact rq_p rfl rfl)) ?_); refine asemC_end ?_) | refine ret_sl (by exact rfl) (by exact rfl) (by first | exact rfl | assumption) (fun _ => by exact rfl) (fun _ => rfl) ?_))
  rfl
end Go.Lg

/- grammar: name, named, Valid; slices.Clone -/
namespace Go.Lg
open Go.Proofs
set_option linter.unusedSimpArgs false
set_option linter.unusedVariables false
attribute [local irreducible] Ap Rq asemC WP RunD Ret Gq thenA inBlockA bodyQ noGotoA RqL RqP OpP
set_option maxHeartbeats 4000000

theorem contains_fn (s sub : ByteArray) (hs : s.size < 4294967281) : Fn Try.prog 43 [.val (.string s), .val (.string sub)] (.val (.bool (Lib.contains s.data.toList sub.data.toList))) := by
  refine Fn.of_same (vs := [.string s, .string sub]) (by kernel_rfl) rfl fun w hw => ?_
  obtain ⟨m, hm⟩ := hw (0, .i64) (by simp [gints])
  exact Try.strings_Contains s sub m w hs hm

theorem cloneStrs_fn (l : List ByteArray) (hl : l.length ≤ 1048576) : Fn Try.prog 20 [strsA l] (strsA l) := by
  have hin := @ti9
  refine Fn.clone (vf := Value.string) (e := 9) (bytes := 16) (by kernel_rfl) (fun _ => rfl) (fun c w => Try.slices_Clone_string_nil 0 c w) (fun a c w => (Try.slices_Clone_string_zero a c w).mono fun e w' ⟨v', h1, h2, _, h3⟩ => ⟨v', h1, h2, h3⟩) ?_ l (by omega)
  intro b off n c news w hn hm hbig hc hat
  obtain ⟨d, i0, hd, hi, hti⟩ := tinfo_of hin
  have h1 : i0.size = 1 := by have := congrArg TI.size hti; exact this.symm
  have h2 : i0.bytes = 16 := by have := congrArg TI.bytes hti; exact this.symm
  obtain ⟨z, hz, hzc⟩ : ∃ z, i0.zero = some z ∧ z.cells.size = 1 := by
    have := congrArg TI.zero hti
    cases hq : i0.zero with
    | none => rw [hq] at this; simp at this
    | some z => rw [hq] at this; simp at this; exact ⟨z, rfl, by have := congrArg List.length this; simpa using this.symm⟩
  refine (Try.slices_Clone i0 z 1 16 hi hz h1 h2 hzc (by decide) (fun w => by rw [run_sizeOf hin]) b off n c news w (by omega) hm hbig hc hat).mono fun e w' ⟨v', h1, h2, _, h3⟩ => ⟨v', h1, h2, h3⟩

def encOk (n : Nat) : Bool := Lib.contains [95, 46, 64] (Utf8.encode (n : Int)).data.toList == (decide ((n : Int) = 95) || decide ((n : Int) = 46) || decide ((n : Int) = 64))
theorem encOk_all : (List.range 256).all encOk = true := by kernel_rfl
theorem enc_byte (c : UInt8) : Lib.contains [95, 46, 64] (Utf8.encode c.toNat).data.toList = (decide ((c.toNat : Int) = 95) || decide ((c.toNat : Int) = 46) || decide ((c.toNat : Int) = 64)) := by
  have h := List.all_eq_true.1 encOk_all c.toNat (List.mem_range.2 c.toNat_lt)
  simpa [encOk] using h
/-- a byte of a name -/
def nameB (c : Int) : Bool := letB c || digB c || decide (c = 95) || decide (c = 46) || decide (c = 64)
theorem nth_bAt (s : ByteArray) (i : Nat) : ((nth s.data.toList i).toNat : Int) = bAt s i := rfl
theorem nameOk_of {s : ByteArray} (h0 : 0 < s.size) (h1 : s.size ≤ 48) (h2 : letB (bAt s 0) = true) (h : ∀ i, i < s.size → nameB (bAt s i) = true) : nameOk s = true := by
  simp only [nameOk, Bool.and_eq_true, decide_eq_true_eq, List.all_eq_true, List.mem_range]
  refine ⟨⟨h0, h1⟩, fun i hi => ?_⟩
  simp only [nameCh]
  by_cases e : i = 0
  · subst e; simp [h2]
  · have := h i hi
    simp only [nameB, Bool.or_assoc] at this
    simpa [e, Bool.or_assoc] using this
theorem nameOk_no {s : ByteArray} {i : Nat} (hi : i < s.size) (h : nameB (bAt s i) = false) : nameOk s = false := by
  have : nameCh s i = false := by
    simp only [nameB, Bool.or_eq_false_iff] at h
    simp only [nameCh, h.1.1.1.1, h.1.1.1.2, h.1.1.2, h.1.2, h.2, Bool.or_false, Bool.and_false, Bool.false_or]
  simp only [nameOk, range_all_no hi this, Bool.and_false]
theorem gname_fn (s : ByteArray) : Fn Try.prog 40 [strA s] (boolA (nameOk s)) := by
  refine Fn.intro (by exact rfl) (by kernel_rfl) Try.func40 rfl rfl Try.ntmps40 (by exact Nat.le_of_ble_eq_true rfl) ?_; intro Γ hm
  by_cases hs : s.size = 0
  · have : s = ⟨#[]⟩ := by
      obtain ⟨⟨l⟩⟩ := s
      have : l = [] := List.eq_nil_of_length_eq_zero (by simpa [ByteArray.size] using hs)
      subst this; rfl
    subst this
    (repeat' (first | refine WP.seq ?_ | refine WP.block ?_ | refine go_n ?_ | refine WP.skip ?_ | refine WP.ret ?_ | refine go_r ?_ | refine bo_r ?_ | (refine wp_cond (by exact rfl) (fun hc => ?_) (fun hc => ?_) <;> (try simp only [decide_eq_true_eq, decide_eq_false_iff_not, Decidable.not_not, Bool.and_eq_true, Bool.or_eq_true, Bool.not_eq_true', Bool.not_eq_false', Bool.or_eq_false_iff, Bool.and_eq_false_iff, Int.not_lt, Int.not_le, reduceCtorEq, ne_eq, Bool.not_true, Bool.not_false, Bool.not_eq_true, Bool.not_eq_false] at hc) <;> (try (exfalso; omega))) | (refine WP.regionC (id := 0) ?_; (refine su (ap_assign (by exact rq_p rfl rfl)) ?_); refine asemC_end ?_) | (refine WP.regionC (id := 1) ?_; (refine su (ap_move (by exact rq_p rfl rfl)) ?_); (refine su (ap_eqs (by exact rq_p rfl rfl) (by exact rq_p rfl rfl)) ?_); (refine su (ap_move (by exact rq_p rfl rfl)) ?_); (refine sg (by exact gq_vf rfl rfl) (fun he => ap_move (by exact rq_p rfl rfl)) ?_); (refine sg (by exact gq_vf rfl rfl) (fun he => ap_len_str (by exact rfl) (by exact rq_c rfl rfl)) ?_); (refine sg (by exact gq_vf rfl rfl) (fun he => ap_gtr (by exact rq_c rfl rfl) (by exact rq_p rfl rfl)) ?_); (refine su (ap_or (by exact rq_p rfl rfl) (by exact rq_c rfl rfl)) ?_); (refine su (ap_move (by exact rq_p rfl rfl)) ?_); (refine sg (by exact gq_vf rfl rfl) (fun he => ap_move (by exact rq_p rfl rfl)) ?_); (refine sg (by exact gq_vf rfl rfl) (fun he => ap_sidx_n (by exact rq_c rfl rfl) (by exact rq_p rfl rfl) (by exact rfl) (by (try simp only [List.all_cons, List.all_append, List.all_nil, id, Bool.and_true, decide_eq_true_eq, decide_eq_false_iff_not, Decidable.not_not, Bool.and_eq_true, Bool.or_eq_true, Bool.not_eq_true', Bool.not_eq_false', Bool.or_eq_false_iff, Bool.and_eq_false_iff, Int.not_lt, Int.not_le, reduceCtorEq, ne_eq, Bool.not_true, Bool.not_false, Bool.not_eq_true, Bool.not_eq_false] at he); (exfalso; simp at he; done))) ?_); (refine sg_p (by exact gq_vf rfl rfl) (fun he => ⟨(by exact rq_p rfl rfl), (RqL.cons (by exact rq_c rfl rfl) (RqL.nil)), (by repeat' first | exact SubL.nil | refine SubL.cons ?_ ?_ | exact Sub.refl), (by (simp [bdL, bdL_append, AV.bd]; done)), letter_fn _⟩) ?_); (refine sg (by exact gq_vf rfl rfl) (fun he => ap_not (by exact rq_c rfl rfl)) ?_); (refine su (ap_or (by exact rq_p rfl rfl) (by exact rq_c rfl rfl)) ?_); refine asemC_end ?_) | (refine WP.regionC (id := 2) ?_; (refine su (ap_assign (by exact rq_p rfl rfl)) ?_); refine asemC_end ?_) | (refine WP.regionC (id := 3) ?_; (refine su (ap_move (by exact rq_p rfl rfl)) ?_); (refine se_s2b (by kernel_rfl) (by exact rfl) (by omega) ?_); (refine su (ap_len_m (by exact rfl) (by exact rq_p rfl rfl)) ?_); (refine su (ap_move (by exact rq_p rfl rfl)) ?_); refine asemC_end ?_) | exact ret_eq (by exact rfl) (by exact rfl) rfl))
    simp at hc
  have hb0 := bAt_bd s 0
  have hne : ¬ s = ⟨#[]⟩ := by rintro rfl; exact hs rfl
  have hlen : s.data.toList.length = s.size := by simp
  (repeat' (first | refine WP.seq ?_ | refine WP.block ?_ | refine go_n ?_ | refine WP.skip ?_ | refine WP.ret ?_ | refine go_r ?_ | refine bo_r ?_ | (refine wp_cond (by exact rfl) (fun hc => ?_) (fun hc => ?_) <;> (try simp only [decide_eq_true_eq, decide_eq_false_iff_not, Decidable.not_not, Bool.and_eq_true, Bool.or_eq_true, Bool.not_eq_true', Bool.not_eq_false', Bool.or_eq_false_iff, Bool.and_eq_false_iff, Int.not_lt, Int.not_le, reduceCtorEq, ne_eq, Bool.not_true, Bool.not_false, Bool.not_eq_true, Bool.not_eq_false] at hc) <;> (try (exfalso; omega))) | (refine WP.regionC (id := 0) ?_; (refine su (ap_assign (by exact rq_p rfl rfl)) ?_); refine asemC_end ?_) | (refine WP.regionC (id := 1) ?_; (refine su (ap_move (by exact rq_p rfl rfl)) ?_); (refine su (ap_eqs (by exact rq_p rfl rfl) (by exact rq_p rfl rfl)) ?_); (refine su (ap_move (by exact rq_p rfl rfl)) ?_); (refine sg (by exact gq_vf rfl rfl) (fun he => ap_move (by exact rq_p rfl rfl)) ?_); (refine sg (by exact gq_vf rfl rfl) (fun he => ap_len_str (by exact rfl) (by exact rq_c rfl rfl)) ?_); (refine sg (by exact gq_vf rfl rfl) (fun he => ap_gtr (by exact rq_c rfl rfl) (by exact rq_p rfl rfl)) ?_); (refine su (ap_or (by exact rq_p rfl rfl) (by exact rq_c rfl rfl)) ?_); (refine su (ap_move (by exact rq_p rfl rfl)) ?_); (refine sg (by exact gq_vf rfl rfl) (fun he => ap_move (by exact rq_p rfl rfl)) ?_); (refine sg (by exact gq_vf rfl rfl) (fun he => ap_sidx_n (by exact rq_c rfl rfl) (by exact rq_p rfl rfl) (by exact rfl) (by (try simp only [List.all_cons, List.all_append, List.all_nil, id, Bool.and_true, decide_eq_true_eq, decide_eq_false_iff_not, Decidable.not_not, Bool.and_eq_true, Bool.or_eq_true, Bool.not_eq_true', Bool.not_eq_false', Bool.or_eq_false_iff, Bool.and_eq_false_iff, Int.not_lt, Int.not_le, reduceCtorEq, ne_eq, Bool.not_true, Bool.not_false, Bool.not_eq_true, Bool.not_eq_false] at he); (simp only [List.length_replicate, List.length_set, List.length_append, List.length_map, List.length_cons, List.length_nil] <;> omega))) ?_); (refine sg_p (by exact gq_vf rfl rfl) (fun he => ⟨(by exact rq_p rfl rfl), (RqL.cons (by exact rq_c rfl rfl) (RqL.nil)), (by repeat' first | exact SubL.nil | refine SubL.cons ?_ ?_ | exact Sub.refl), (by (simp [bdL, bdL_append, AV.bd]; done)), letter_fn _⟩) ?_); (refine sg (by exact gq_vf rfl rfl) (fun he => ap_not (by exact rq_c rfl rfl)) ?_); (refine su (ap_or (by exact rq_p rfl rfl) (by exact rq_c rfl rfl)) ?_); refine asemC_end ?_) | (refine WP.regionC (id := 2) ?_; (refine su (ap_assign (by exact rq_p rfl rfl)) ?_); refine asemC_end ?_) | (refine WP.regionC (id := 3) ?_; (refine su (ap_move (by exact rq_p rfl rfl)) ?_); (refine se_s2b (by kernel_rfl) (by exact rfl) (by omega) ?_); (refine su (ap_len_m (by exact rfl) (by exact rq_p rfl rfl)) ?_); (refine su (ap_move (by exact rq_p rfl rfl)) ?_); refine asemC_end ?_) | refine ret_b (by exact rfl) ?_))
  · rcases hc with (hc | hc) | hc
    · exact absurd hc hne
    · simp [nameOk]; omega
    · have : nameCh s 0 = false := by simp [nameCh, hc]
      simp only [nameOk, range_all_no (k := 0) (n := s.size) (by omega) this, Bool.and_false]
  obtain ⟨⟨_, h48⟩, hl0⟩ := hc
  refine wp_loop (fun (k : Nat) => k ≤ s.size ∧ ∀ i, i < k → nameB (bAt s i) = true) (fun k => s.size - k)
    (fun k => (S 43 [(19, .sl 1 (s.data.toList.map byteA)), (20, intA (s.data.toList.length : Nat)), (21, intA (k : Nat))] 0 [])) 0 ⟨[], ToR.S rfl (by repeat' (first | exact rt_nil | refine rt_e (by exact rfl) (by exact rfl) ?_ | refine rt_p (by exact rfl) (by exact rfl) (by (simp [AV.bd, bdL, bdL_append]; done)) ?_)) (by repeat' (exact ro_nil)) (by decide) (by (rw [hm]; exact rfl)) (by exact rfl) (by (simp [bdT, AV.bd, bdL, bdL_append]; done)) (by repeat' (exact True.intro)) (by (rw [hm]; exact Nat.le_of_ble_eq_true rfl))⟩ ⟨Nat.zero_le _, by simp⟩ ?_
  rintro k ⟨hk, hall⟩
  by_cases hlt : k < s.size
  · have hbk := bAt_bd s k
    have hlt' : k < s.data.toList.length := by omega
    have hnb := nth_bAt s k
    (repeat' (first | refine WP.seq ?_ | refine WP.block ?_ | refine go_n ?_ | refine WP.skip ?_ | refine WP.ret ?_ | refine go_r ?_ | refine bl_n ?_ | refine bl_r ?_ | refine bo_r ?_ | (refine wp_cond (by exact rfl) (fun hc => ?_) (fun hc => ?_) <;> (try simp only [decide_eq_true_eq, decide_eq_false_iff_not, Decidable.not_not, Bool.and_eq_true, Bool.or_eq_true, Bool.not_eq_true', Bool.not_eq_false', Bool.or_eq_false_iff, Bool.and_eq_false_iff, Int.not_lt, Int.not_le, reduceCtorEq, ne_eq, Bool.not_true, Bool.not_false, Bool.not_eq_true, Bool.not_eq_false] at hc) <;> (try (exfalso; omega))) | (refine WP.regionC (id := 4) ?_; (refine su (ap_lss (by exact rq_p rfl rfl) (by exact rq_p rfl rfl)) ?_); refine asemC_end ?_) | (refine WP.regionC (id := 5) ?_; (refine su (ap_idx_n (by exact rq_p rfl rfl) (by exact rq_p rfl rfl) (by omega)) ?_); (refine su (ap_load_w (by exact rq_p rfl rfl) (by exact rfl)) ?_); (refine su (ap_assign (by exact rq_p rfl rfl)) ?_); refine asemC_end ?_) | (refine WP.regionC (id := 6) ?_; (refine su (ap_move (by exact rq_p rfl rfl)) ?_); (refine sc_p rfl rfl (by repeat' first | exact SubL.nil | refine SubL.cons ?_ ?_ | exact Sub.refl) (by (simp [bdL, bdL_append, AV.bd]; done)) (letter_fn _) ?_); (refine su (ap_not (by exact rq_p rfl rfl)) ?_); (refine su (ap_move (by exact rq_p rfl rfl)) ?_); (refine sg (by exact gq_vt rfl rfl) (fun he => ap_move (by exact rq_p rfl rfl)) ?_); (refine sg (by exact gq_vt rfl rfl) (fun he => ap_lss (by exact rq_c rfl rfl) (by exact rq_p rfl rfl)) ?_); (refine sg (by exact gq_vt rfl rfl) (fun he => ap_move (by exact rq_c rfl rfl)) ?_); (refine sg (by exact gq_cf rfl rfl) (fun he => ap_move (by exact rq_p rfl rfl)) ?_); (refine sg (by exact gq_cf rfl rfl) (fun he => ap_gtr (by exact rq_c rfl rfl) (by exact rq_p rfl rfl)) ?_); (refine sg (by exact gq_vt rfl rfl) (fun he => ap_or (by exact rq_c rfl rfl) (by exact rq_c rfl rfl)) ?_); (refine su (ap_and (by exact rq_p rfl rfl) (by exact rq_c rfl rfl)) ?_); (refine su (ap_move (by exact rq_p rfl rfl)) ?_); (refine sg (by exact gq_vt rfl rfl) (fun he => ap_move (by exact rq_p rfl rfl)) ?_); (refine sg (by exact gq_vt rfl rfl) (fun he => ap_conv_is (by exact rq_c rfl rfl) (by exact rfl) (by exact rfl) (by kernel_rfl)) ?_); (refine sg_p (by exact gq_vt rfl rfl) (fun he => ⟨(by exact rq_p rfl rfl), (RqL.cons (by exact rq_p rfl rfl) (RqL.cons (by exact rq_c rfl rfl) (RqL.nil))), (by repeat' first | exact SubL.nil | refine SubL.cons ?_ ?_ | exact Sub.refl), (by (simp [bdL, bdL_append, AV.bd]; done)), contains_fn _ _ (by decide)⟩) ?_); (refine sg (by exact gq_vt rfl rfl) (fun he => ap_not (by exact rq_c rfl rfl)) ?_); (refine su (ap_and (by exact rq_p rfl rfl) (by exact rq_c rfl rfl)) ?_); refine asemC_end ?_) | (refine WP.regionC (id := 7) ?_; (refine su (ap_assign (by exact rq_p rfl rfl)) ?_); refine asemC_end ?_) | (refine WP.regionC (id := 8) ?_; (refine su (ap_add (by exact rq_p rfl rfl) (by exact rq_p rfl rfl) (by exact inr_i64_of (by omega))) ?_); (refine su (ap_move (by exact rq_p rfl rfl)) ?_); refine asemC_end ?_) | refine ret_b (by exact rfl) ?_))
    · obtain ⟨⟨h1, h2⟩, h3⟩ := hc
      rw [enc_byte, hnb] at h3
      rw [hnb] at h1 h2
      simp only [Bool.or_eq_false_iff] at h3
      rw [nameOk_no hlt]
      simp only [nameB, h1, h3.1.1, h3.1.2, h3.2, Bool.or_false, Bool.false_or, digB]
      simp; omega
    · refine ⟨k + 1, ⟨by omega, by omega, fun i hi => ?_⟩, ⟨[], ToR.S rfl (by repeat' (first | exact rt_nil | refine rt_e (by exact rfl) (by exact rfl) ?_ | refine rt_p (by exact rfl) (by exact rfl) (by (simp [AV.bd, bdL, bdL_append]; done)) ?_)) (by repeat' (exact ro_nil)) (by decide) (by (rw [hm]; exact rfl)) (by exact rfl) (by (simp [bdT, AV.bd, bdL, bdL_append]; done)) (by repeat' (exact True.intro)) (by (rw [hm]; exact Nat.le_of_ble_eq_true rfl))⟩⟩
      by_cases e : i = k
      · subst e
        rw [enc_byte, hnb] at hc
        simp only [nameB, digB]
        simp only [Bool.or_eq_true, Bool.and_eq_true, decide_eq_true_eq] at hc ⊢
        rcases hc with (hc | hc) | (hc | hc) | hc
        · simp [hc]
        · simp [hc]
        · simp [hc]
        · simp [hc]
        · simp [hc]
      · exact hall i (by omega)
  · (repeat' (first | refine WP.seq ?_ | refine go_n ?_ | refine WP.exit ?_ | refine WP.ret ?_ | refine go_x ?_ | refine bl_x ?_ | refine bo_r ?_ | (refine wp_cond (by exact rfl) (fun hc => ?_) (fun hc => ?_) <;> (try simp only [decide_eq_true_eq, decide_eq_false_iff_not, Decidable.not_not, Bool.and_eq_true, Bool.or_eq_true, Bool.not_eq_true', Bool.not_eq_false', Bool.or_eq_false_iff, Bool.and_eq_false_iff, Int.not_lt, Int.not_le, reduceCtorEq, ne_eq, Bool.not_true, Bool.not_false, Bool.not_eq_true, Bool.not_eq_false] at hc) <;> (try (exfalso; omega))) | (refine WP.regionC (id := 4) ?_; (refine su (ap_lss (by exact rq_p rfl rfl) (by exact rq_p rfl rfl)) ?_); refine asemC_end ?_) | (refine WP.regionC (id := 9) ?_; (refine su (ap_assign (by exact rq_p rfl rfl)) ?_); refine asemC_end ?_) | refine ret_b (by exact rfl) ?_))
    rw [nameOk_of (by omega) (by omega) hl0 fun i hi => hall i (by omega)]
end Go.Lg

/- grammar: named, Valid -/
namespace Go.Lg
open Go.Proofs
set_option linter.unusedSimpArgs false
set_option linter.unusedVariables false
attribute [local irreducible] Ap Rq asemC WP RunD Ret Gq thenA inBlockA bodyQ noGotoA RqL RqP OpP
set_option maxHeartbeats 4000000

/-- the names seen so far -/
structure Seen (m : List (ByteArray × Unit)) (l : List ByteArray) : Prop where
  ok : ∀ x, x ∈ l → nameOk x = true
  nd : l.Nodup
  mem : ∀ x, (aget m x).isSome = true ↔ x ∈ l
theorem Seen.nil : Seen [] [] := ⟨by simp, by simp, by simp [aget, afind]⟩
theorem Seen.add {m : List (ByteArray × Unit)} {l : List ByteArray} {x : ByteArray} (h : Seen m l) (h1 : (aget m x).isSome = false) (h2 : nameOk x = true) : Seen (aset m x ()) (l ++ [x]) := by
  have hx : x ∉ l := fun e => by have := (h.mem x).2 e; rw [h1] at this; cases this
  refine ⟨fun y hy => ?_, ?_, fun y => ?_⟩
  · rcases List.mem_append.1 hy with hy | hy
    · exact h.ok y hy
    · rw [List.mem_singleton.1 hy]; exact h2
  · rw [List.nodup_append]; exact ⟨h.nd, by simp, fun a ha b hb => by rw [List.mem_singleton.1 hb]; rintro rfl; exact hx ha⟩
  · rw [aget_aset]
    by_cases e : y = x
    · subst e; simp
    · rw [if_neg e, h.mem y]; simp [e]
theorem Seen.all {m : List (ByteArray × Unit)} {l : List ByteArray} (h : Seen m l) : namesOk l = true := by
  simp only [namesOk, Bool.and_eq_true, decide_eq_true_eq, List.all_eq_true]; exact ⟨h.ok, h.nd⟩
theorem Seen.no {m : List (ByteArray × Unit)} {l r : List ByteArray} {x : ByteArray} (h : Seen m l) (h1 : (aget m x).isSome = true ∨ nameOk x = false) : namesOk (l ++ x :: r) = false := by
  cases hq : namesOk (l ++ x :: r) with
  | false => rfl
  | true =>
    simp only [namesOk, Bool.and_eq_true, decide_eq_true_eq, List.all_eq_true] at hq
    rcases h1 with h1 | h1
    · have := (h.mem x).1 h1
      exact absurd rfl ((List.nodup_append.1 hq.2).2.2 x this x (by simp))
    · have := hq.1 x (by simp); rw [h1] at this; cases this
theorem take_flatten {α : Type} [Inhabited α] {L : List (List α)} {j : Nat} (h : j < L.length) : (L.take (j + 1)).flatten = (L.take j).flatten ++ nth L j := by
  rw [take_succ_nth h, List.flatten_append]; simp
theorem split_at {α : Type} [Inhabited α] {L : List (List α)} {j k : Nat} (h : j < L.length) (hk : k < (nth L j).length) : ∃ r, L.flatten = ((L.take j).flatten ++ (nth L j).take k) ++ nth (nth L j) k :: r := by
  refine ⟨(nth L j).drop (k + 1) ++ (L.drop (j + 1)).flatten, ?_⟩
  conv => lhs; rw [← List.take_append_drop (j + 1) L, List.flatten_append, take_flatten h]
  conv => lhs; rw [← List.take_append_drop k (nth L j)]
  rw [List.drop_eq_getElem_cons hk, ← nth_eq hk]
  simp

theorem named_fn (g : Gram) (h1 : g.terms.length ≤ 120) (h2 : g.nonterms.length ≤ 120) : Fn Try.prog 32 [gramA g] (boolA (namesOk (g.terms ++ g.nonterms))) := by
  refine Fn.intro (by exact rfl) (by kernel_rfl) Try.func32 rfl rfl Try.ntmps32 (by exact Nat.le_of_ble_eq_true rfl) ?_; intro Γ hm
  have hfl : [g.terms, g.nonterms].flatten = g.terms ++ g.nonterms := by simp
  have hln : ∀ j, j < 2 → (nth [g.terms, g.nonterms] j).length ≤ 120 := by
    intro j hj
    match j, hj with
    | 0, _ => exact h1
    | 1, _ => exact h2
  have hll : [g.terms, g.nonterms].length = 2 := rfl
  rw [← hfl]
  (repeat' (first | refine WP.seq ?_ | refine WP.block ?_ | refine go_n ?_ | (refine WP.regionC (id := 0) ?_; (refine se_box (by exact rfl) (by exact ⟨rfl, rfl⟩) ?_); (refine su (ap_assign (by exact rq_p rfl rfl)) ?_); refine asemC_end ?_) | (refine WP.regionC (id := 1) ?_; (refine se_mkmap ?_); (refine su (ap_assign (by exact rq_p rfl rfl)) ?_); refine asemC_end ?_) | (refine WP.regionC (id := 2) ?_; (refine su (ap_field_p (by exact rq_p rfl rfl) (by exact rfl) (by exact rfl)) ?_); (refine su (ap_load_p (by exact rq_p rfl rfl) (by exact rfl) (by exact rfl) (by exact rfl)) ?_); (refine su (ap_field_p (by exact rq_p rfl rfl) (by exact rfl) (by exact rfl)) ?_); (refine su (ap_load_p (by exact rq_p rfl rfl) (by exact rfl) (by exact rfl) (by exact rfl)) ?_); (refine se_lit (OpP.cons (by exact rfl) (OpP.cons (by exact rfl) (OpP.nil))) (by exact rfl) (by exact rfl) (by exact rfl) (by exact rfl) (by exact rfl) (by exact rfl) ?_); (refine su (ap_len_r (by exact rfl) (by exact rq_p rfl rfl)) ?_); (refine su (ap_move (by exact rq_p rfl rfl)) ?_); refine asemC_end ?_)))
  refine wp_loop (fun (x : Nat × List (ByteArray × Unit)) => x.1 ≤ 2 ∧ Seen x.2 ([g.terms, g.nonterms].take x.1).flatten) (fun x => 2 - x.1)
    (fun x => (S 44 [(3, .map 0), (15, .ref 1 1 0 2), (16, intA (2 : Nat)), (17, intA (x.1 : Nat))] 2 [(0, some (.map (mapA strK unitA x.2))), (1, some (.arr 1 ([g.terms, g.nonterms].map strsA)))])) (0, []) ⟨[1, 2], ToR.S rfl (by repeat' (first | exact rt_nil | refine rt_r (by exact rfl) (by exact rfl) ?_ | refine rt_m (by exact rfl) (by exact rfl) ?_ | refine rt_e (by exact rfl) (by exact rfl) ?_)) (by repeat' (first | exact ro_nil | refine ro_p (by exact rfl) (by exact rfl) (by exact bdL_map (fun _ => by simp [AV.bd, bdL, bdL_append]) _) ?_ | refine ro_m (by exact rfl) (by exact rfl) (mapA_bd (fun _ => by exact rfl) _) ?_)) (by decide) (by (rw [hm]; exact rfl)) (by exact rfl) (by (simp [bdT, AV.bd, bdL, bdL_append]; done)) (by repeat' (first | exact True.intro | exact rfl | refine And.intro ?_ ?_ | exact bdL_map (fun _ => by simp [AV.bd, bdL, bdL_append]) _)) (by (rw [hm]; exact Nat.le_of_ble_eq_true rfl))⟩ ⟨by decide, Seen.nil⟩ ?_
  rintro ⟨j, m⟩ ⟨hj, hs⟩
  dsimp only at *
  by_cases hlt : j < 2
  · have hjl := hln j hlt
    (repeat' (first | refine WP.seq ?_ | refine WP.block ?_ | refine go_n ?_ | refine WP.skip ?_ | (refine wp_cond (by exact rfl) (fun hc => ?_) (fun hc => ?_) <;> (try simp only [decide_eq_true_eq, decide_eq_false_iff_not, Decidable.not_not, Bool.and_eq_true, Bool.or_eq_true, Bool.not_eq_true', Bool.not_eq_false', Bool.or_eq_false_iff, Bool.and_eq_false_iff, Int.not_lt, Int.not_le, reduceCtorEq, ne_eq, Bool.not_true, Bool.not_false, Bool.not_eq_true, Bool.not_eq_false] at hc) <;> (try (exfalso; omega))) | (refine WP.regionC (id := 3) ?_; (refine su (ap_lss (by exact rq_p rfl rfl) (by exact rq_p rfl rfl)) ?_); refine asemC_end ?_) | (refine WP.regionC (id := 4) ?_; (refine su (ap_idxr_n (by exact rq_p rfl rfl) (by exact rq_p rfl rfl) (by omega)) ?_); (refine su (ap_load_pt (by exact rq_p rfl rfl) (by exact rfl) (by omega) (by exact rfl)) ?_); (refine su (ap_assign (by exact rq_p rfl rfl)) ?_); refine asemC_end ?_) | (refine WP.regionC (id := 5) ?_; (refine su (ap_move (by exact rq_p rfl rfl)) ?_); (refine su (ap_len_m (by exact rfl) (by exact rq_p rfl rfl)) ?_); (refine su (ap_move (by exact rq_p rfl rfl)) ?_); refine asemC_end ?_)))
    refine wp_loop (fun (x : Nat × List (ByteArray × Unit)) => x.1 ≤ (nth [g.terms, g.nonterms] j).length ∧ Seen x.2 (([g.terms, g.nonterms].take j).flatten ++ (nth [g.terms, g.nonterms] j).take x.1)) (fun x => (nth [g.terms, g.nonterms] j).length - x.1)
      (fun x => (S 44 [(3, .map 0), (15, .ref 1 1 0 2), (16, intA (2 : Nat)), (17, intA (j : Nat)), (21, strsA (nth [g.terms, g.nonterms] j)), (22, intA ((nth [g.terms, g.nonterms] j).length : Nat)), (23, intA (x.1 : Nat))] 2 [(0, some (.map (mapA strK unitA x.2))), (1, some (.arr 1 ([g.terms, g.nonterms].map strsA)))])) (0, m) ⟨[0, 1], ToR.S rfl (by repeat' (first | exact rt_nil | refine rt_r (by exact rfl) (by exact rfl) ?_ | refine rt_m (by exact rfl) (by exact rfl) ?_ | refine rt_e (by exact rfl) (by exact rfl) ?_ | refine rt_p (by exact rfl) (by exact rfl) (by (simp [AV.bd, bdL, bdL_append]; done)) ?_)) (by repeat' (first | exact ro_nil | refine ro_p (by exact rfl) (by exact rfl) (by exact bdL_map (fun _ => by simp [AV.bd, bdL, bdL_append]) _) ?_ | refine ro_m (by exact rfl) (by exact rfl) (mapA_bd (fun _ => by exact rfl) _) ?_)) (by decide) (by (rw [hm]; exact rfl)) (by exact rfl) (by (simp [bdT, AV.bd, bdL, bdL_append]; done)) (by repeat' (first | exact True.intro | exact mapA_all (fun _ => by exact rfl) _ | refine And.intro ?_ ?_ | exact bdL_map (fun _ => by simp [AV.bd, bdL, bdL_append]) _)) (by (rw [hm]; exact Nat.le_of_ble_eq_true rfl))⟩ ⟨Nat.zero_le _, by simpa using hs⟩ ?_
    rintro ⟨k, m2⟩ ⟨hk, hs2⟩
    dsimp only at *
    by_cases hkl : k < (nth [g.terms, g.nonterms] j).length
    · (repeat' (first | refine WP.seq ?_ | refine WP.block ?_ | refine go_n ?_ | refine WP.skip ?_ | refine WP.ret ?_ | refine go_r ?_ | refine bl_n ?_ | refine bl_r ?_ | refine bo_r ?_ | (refine wp_cond (by exact rfl) (fun hc => ?_) (fun hc => ?_) <;> (try simp only [decide_eq_true_eq, decide_eq_false_iff_not, Decidable.not_not, Bool.and_eq_true, Bool.or_eq_true, Bool.not_eq_true', Bool.not_eq_false', Bool.or_eq_false_iff, Bool.and_eq_false_iff, Int.not_lt, Int.not_le, reduceCtorEq, ne_eq, Bool.not_true, Bool.not_false, Bool.not_eq_true, Bool.not_eq_false] at hc) <;> (try (exfalso; omega))) | (refine WP.regionC (id := 6) ?_; (refine su (ap_lss (by exact rq_p rfl rfl) (by exact rq_p rfl rfl)) ?_); refine asemC_end ?_) | (refine WP.regionC (id := 7) ?_; (refine su (ap_idx_n (by exact rq_p rfl rfl) (by exact rq_p rfl rfl) (by omega)) ?_); (refine su (ap_load_w (by exact rq_p rfl rfl) (by exact rfl)) ?_); (refine su (ap_assign (by exact rq_p rfl rfl)) ?_); refine asemC_end ?_) | (refine WP.regionC (id := 8) ?_; (refine su (ap_move (by exact rq_p rfl rfl)) ?_); (refine su (ap_move (by exact rq_p rfl rfl)) ?_); (refine su (ap_look2 (kf := strK) (f := unitA) (z0 := ()) (by exact rq_p rfl rfl) (by exact rfl) (by exact rq_p rfl rfl) (by exact rfl)) ?_); (refine su (ap_move (by exact rq_p rfl rfl)) ?_); (refine su (ap_extract (by exact rq_p rfl rfl) (by exact rfl)) ?_); (refine su (ap_extract (by exact rq_p rfl rfl) (by exact rfl)) ?_); (refine se_unit_alloc (by kernel_rfl) ?_); (refine se_store_b (by exact rfl) (by exact rfl) (by exact rfl) (by exact rfl) ?_); (refine su (ap_assign (by exact rq_p rfl rfl)) ?_); refine asemC_end ?_) | (refine WP.regionC (id := 9) ?_; (refine su (ap_move (by exact rq_p rfl rfl)) ?_); (refine su (ap_move (by exact rq_p rfl rfl)) ?_); (refine sg (by exact gq_vf rfl rfl) (fun he => ap_move (by exact rq_p rfl rfl)) ?_); (refine sg_p (by exact gq_vf rfl rfl) (fun he => ⟨(by exact rq_p rfl rfl), (RqL.cons (by exact rq_c rfl rfl) (RqL.nil)), (by repeat' first | exact SubL.nil | refine SubL.cons ?_ ?_ | exact Sub.refl), (by (simp [bdL, bdL_append, AV.bd]; done)), gname_fn _⟩) ?_); (refine sg (by exact gq_vf rfl rfl) (fun he => ap_not (by exact rq_c rfl rfl)) ?_); (refine su (ap_or (by exact rq_p rfl rfl) (by exact rq_c rfl rfl)) ?_); refine asemC_end ?_) | (refine WP.regionC (id := 10) ?_; (refine su (ap_assign (by exact rq_p rfl rfl)) ?_); refine asemC_end ?_) | (refine WP.regionC (id := 11) ?_; (refine su (ap_move (by exact rq_p rfl rfl)) ?_); (refine su (ap_move (by exact rq_p rfl rfl)) ?_); (refine se_unit_build (by kernel_rfl) ?_); (refine se_mapset (kf := strK) (f := unitA) (v := ()) (by exact rfl) (by exact rfl) (by exact rfl) (by exact rfl) ?_); refine asemC_end ?_) | (refine WP.regionC (id := 12) ?_; (refine su (ap_add (by exact rq_p rfl rfl) (by exact rq_p rfl rfl) (by exact inr_i64_of (by omega))) ?_); (refine su (ap_move (by exact rq_p rfl rfl)) ?_); refine asemC_end ?_) | refine ret_b (by exact rfl) ?_))
      · obtain ⟨r, hr⟩ := split_at (L := [g.terms, g.nonterms]) (by omega) hkl
        rw [hr, hs2.no hc]
      · refine ⟨(k + 1, aset m2 (nth (nth [g.terms, g.nonterms] j) k) ()), ⟨by dsimp only; omega, by dsimp only; omega, ?_⟩, ⟨[0, 1], ToR.S rfl (by repeat' (first | exact rt_nil | refine rt_r (by exact rfl) (by exact rfl) ?_ | refine rt_m (by exact rfl) (by exact rfl) ?_ | refine rt_e (by exact rfl) (by exact rfl) ?_ | refine rt_p (by exact rfl) (by exact rfl) (by (simp [AV.bd, bdL, bdL_append]; done)) ?_)) (by repeat' (first | exact ro_nil | refine ro_p (by exact rfl) (by exact rfl) (by exact bdL_map (fun _ => by simp [AV.bd, bdL, bdL_append]) _) ?_ | refine ro_m (by exact rfl) (by exact rfl) (mapA_bd (fun _ => by exact rfl) _) ?_)) (by decide) (by (rw [hm]; exact rfl)) (by exact rfl) (by (simp [bdT, AV.bd, bdL, bdL_append]; done)) (by repeat' (first | exact True.intro | exact mapA_all (fun _ => by exact rfl) _ | refine And.intro ?_ ?_ | exact bdL_map (fun _ => by simp [AV.bd, bdL, bdL_append]) _)) (by (rw [hm]; exact Nat.le_of_ble_eq_true rfl))⟩⟩
        have := hs2.add hc.1 hc.2
        rw [List.append_assoc, ← take_succ_nth hkl] at this
        exact this
    · (repeat' (first | refine WP.seq ?_ | refine go_n ?_ | refine WP.exit ?_ | refine go_x ?_ | refine bl_n ?_ | refine bl_x ?_ | (refine wp_cond (by exact rfl) (fun hc => ?_) (fun hc => ?_) <;> (try simp only [decide_eq_true_eq, decide_eq_false_iff_not, Decidable.not_not, Bool.and_eq_true, Bool.or_eq_true, Bool.not_eq_true', Bool.not_eq_false', Bool.or_eq_false_iff, Bool.and_eq_false_iff, Int.not_lt, Int.not_le, reduceCtorEq, ne_eq, Bool.not_true, Bool.not_false, Bool.not_eq_true, Bool.not_eq_false] at hc) <;> (try (exfalso; omega))) | (refine WP.regionC (id := 6) ?_; (refine su (ap_lss (by exact rq_p rfl rfl) (by exact rq_p rfl rfl)) ?_); refine asemC_end ?_) | (refine WP.regionC (id := 13) ?_; (refine su (ap_add (by exact rq_p rfl rfl) (by exact rq_p rfl rfl) (by exact inr_i64_of (by omega))) ?_); (refine su (ap_move (by exact rq_p rfl rfl)) ?_); refine asemC_end ?_)))
      refine ⟨(j + 1, m2), ⟨by dsimp only; omega, by dsimp only; omega, ?_⟩, ⟨[0, 1], ToR.S rfl (by repeat' (first | exact rt_nil | refine rt_r (by exact rfl) (by exact rfl) ?_ | refine rt_m (by exact rfl) (by exact rfl) ?_ | refine rt_e (by exact rfl) (by exact rfl) ?_)) (by repeat' (first | exact ro_nil | refine ro_p (by exact rfl) (by exact rfl) (by exact bdL_map (fun _ => by simp [AV.bd, bdL, bdL_append]) _) ?_ | refine ro_m (by exact rfl) (by exact rfl) (mapA_bd (fun _ => by exact rfl) _) ?_)) (by decide) (by (rw [hm]; exact rfl)) (by exact rfl) (by (simp [bdT, AV.bd, bdL, bdL_append]; done)) (by repeat' (first | exact True.intro | exact mapA_all (fun _ => by exact rfl) _ | refine And.intro ?_ ?_ | exact bdL_map (fun _ => by simp [AV.bd, bdL, bdL_append]) _)) (by (rw [hm]; exact Nat.le_of_ble_eq_true rfl))⟩⟩
      dsimp only
      rw [take_flatten (by omega)]
      rw [List.take_of_length_le (l := nth [g.terms, g.nonterms] j) (by omega)] at hs2
      exact hs2
  · (repeat' (first | refine WP.seq ?_ | refine go_n ?_ | refine WP.exit ?_ | refine WP.ret ?_ | refine go_x ?_ | refine bl_x ?_ | refine bo_r ?_ | (refine wp_cond (by exact rfl) (fun hc => ?_) (fun hc => ?_) <;> (try simp only [decide_eq_true_eq, decide_eq_false_iff_not, Decidable.not_not, Bool.and_eq_true, Bool.or_eq_true, Bool.not_eq_true', Bool.not_eq_false', Bool.or_eq_false_iff, Bool.and_eq_false_iff, Int.not_lt, Int.not_le, reduceCtorEq, ne_eq, Bool.not_true, Bool.not_false, Bool.not_eq_true, Bool.not_eq_false] at hc) <;> (try (exfalso; omega))) | (refine WP.regionC (id := 3) ?_; (refine su (ap_lss (by exact rq_p rfl rfl) (by exact rq_p rfl rfl)) ?_); refine asemC_end ?_) | (refine WP.regionC (id := 14) ?_; (refine su (ap_assign (by exact rq_p rfl rfl)) ?_); refine asemC_end ?_) | refine ret_b (by exact rfl) ?_))
    rw [List.take_of_length_le (by omega)] at hs
    exact hs.all.symm

theorem gvalid1_fn (g : Gram) (x : Int) (hn : g.nonterms.length ≤ 120) : Fn Try.prog 34 [intA x, .iptr (gramA g).cells 0] (boolA (!symOk g x)) := by
  refine Fn.intro (by exact rfl) (by kernel_rfl) Try.func34 rfl rfl Try.ntmps34 (by exact Nat.le_of_ble_eq_true rfl) ?_; intro Γ hm
  (repeat' (first | refine WP.seq ?_ | refine go_n ?_ | refine WP.ret ?_ | refine bo_r ?_ | (refine WP.regionC (id := 0) ?_; (refine su (ap_assign (by exact rq_p rfl rfl)) ?_); refine asemC_end ?_) | (refine WP.regionC (id := 1) ?_; (refine su (ap_move (by exact rq_p rfl rfl)) ?_); (refine su (ap_field_i (by exact rq_p rfl rfl) (by exact rfl) (by exact rfl)) ?_); (refine su (ap_load_i (by exact rq_p rfl rfl) (by exact rfl)) ?_); (refine su (ap_len_m (by exact rfl) (by exact rq_p rfl rfl)) ?_); (refine su (ap_geq (by exact rq_p rfl rfl) (by exact rq_p rfl rfl)) ?_); (refine su (ap_move (by exact rq_p rfl rfl)) ?_); (refine sg (by exact gq_vf rfl rfl) (fun he => ap_move (by exact rq_p rfl rfl)) ?_); (refine sg (by exact gq_vf rfl rfl) (fun he => ap_field_i (by exact rq_p rfl rfl) (by exact rfl) (by exact rfl)) ?_); (refine sg (by exact gq_vf rfl rfl) (fun he => ap_load_i (by exact rq_c rfl rfl) (by exact rfl)) ?_); (refine sg (by exact gq_vf rfl rfl) (fun he => ap_len_m (by exact rfl) (by exact rq_c rfl rfl)) ?_); (refine sg (by exact gq_vf rfl rfl) (fun he => ap_neg (by exact rq_c rfl rfl) (by (try simp only [List.all_cons, List.all_append, List.all_nil, id, Bool.and_true, decide_eq_true_eq, decide_eq_false_iff_not, Decidable.not_not, Bool.and_eq_true, Bool.or_eq_true, Bool.not_eq_true', Bool.not_eq_false', Bool.or_eq_false_iff, Bool.and_eq_false_iff, Int.not_lt, Int.not_le, reduceCtorEq, ne_eq, Bool.not_true, Bool.not_false, Bool.not_eq_true, Bool.not_eq_false] at he); exact inr_i64_of (by omega))) ?_); (refine sg (by exact gq_vf rfl rfl) (fun he => ap_lss (by exact rq_c rfl rfl) (by exact rq_c rfl rfl)) ?_); (refine su (ap_or (by exact rq_p rfl rfl) (by exact rq_c rfl rfl)) ?_); (refine su (ap_assign (by exact rq_p rfl rfl)) ?_); refine asemC_end ?_) | refine ret_b (by exact rfl) ?_))
  simp only [symOk]
  rw [Bool.eq_iff_iff]
  simp
  try omega
theorem any_not_sym {g : Gram} {l : List Int} : l.any (fun x => !symOk g x) = !l.all (symOk g) := by
  induction l with
  | nil => rfl
  | cons x l ih => simp only [List.any_cons, List.all_cons, ih, Bool.not_and]
theorem gvalid_fn (g : Gram) : Fn Try.prog 18 [gramA g] (boolA (validG g)) := by
  refine Fn.intro (by exact rfl) (by kernel_rfl) Try.func18 rfl rfl Try.ntmps18 (by exact Nat.le_of_ble_eq_true rfl) ?_; intro Γ hm
  refine wp_lens 0 rfl fun hl => ?_
  obtain ⟨hl1, hl2, hl3, hl4⟩ := (lens_gramA g).1 hl
  (repeat' (first | refine WP.seq ?_ | refine WP.block ?_ | refine go_n ?_ | refine WP.skip ?_ | refine WP.ret ?_ | refine go_r ?_ | refine bo_r ?_ | (refine wp_cond (by exact rfl) (fun hc => ?_) (fun hc => ?_) <;> (try simp only [decide_eq_true_eq, decide_eq_false_iff_not, Decidable.not_not, Bool.and_eq_true, Bool.or_eq_true, Bool.not_eq_true', Bool.not_eq_false', Bool.or_eq_false_iff, Bool.and_eq_false_iff, Int.not_lt, Int.not_le, reduceCtorEq, ne_eq, Bool.not_true, Bool.not_false, Bool.not_eq_true, Bool.not_eq_false] at hc) <;> (try (exfalso; omega))) | (refine WP.regionC (id := 0) ?_; (refine se_box (by exact rfl) (by exact ⟨rfl, rfl⟩) ?_); (refine su (ap_assign (by exact rq_p rfl rfl)) ?_); refine asemC_end ?_) | (refine WP.regionC (id := 1) ?_; (refine su (ap_field_p (by exact rq_p rfl rfl) (by exact rfl) (by exact rfl)) ?_); (refine su (ap_load_p (by exact rq_p rfl rfl) (by exact rfl) (by exact rfl) (by exact rfl)) ?_); (refine su (ap_len_m (by exact rfl) (by exact rq_p rfl rfl)) ?_); (refine su (ap_gtr (by exact rq_p rfl rfl) (by exact rq_p rfl rfl)) ?_); (refine su (ap_move (by exact rq_p rfl rfl)) ?_); (refine sg (by exact gq_vf rfl rfl) (fun he => ap_field_p (by exact rq_p rfl rfl) (by exact rfl) (by exact rfl)) ?_); (refine sg (by exact gq_vf rfl rfl) (fun he => ap_load_p (by exact rq_c rfl rfl) (by exact rfl) (by exact rfl) (by exact rfl)) ?_); (refine sg (by exact gq_vf rfl rfl) (fun he => ap_len_m (by exact rfl) (by exact rq_c rfl rfl)) ?_); (refine sg (by exact gq_vf rfl rfl) (fun he => ap_lss (by exact rq_c rfl rfl) (by exact rq_p rfl rfl)) ?_); (refine su (ap_or (by exact rq_p rfl rfl) (by exact rq_c rfl rfl)) ?_); (refine su (ap_move (by exact rq_p rfl rfl)) ?_); (refine sg (by exact gq_vf rfl rfl) (fun he => ap_field_p (by exact rq_p rfl rfl) (by exact rfl) (by exact rfl)) ?_); (refine sg (by exact gq_vf rfl rfl) (fun he => ap_load_p (by exact rq_c rfl rfl) (by exact rfl) (by exact rfl) (by exact rfl)) ?_); (refine sg (by exact gq_vf rfl rfl) (fun he => ap_len_m (by exact rfl) (by exact rq_c rfl rfl)) ?_); (refine sg (by exact gq_vf rfl rfl) (fun he => ap_gtr (by exact rq_c rfl rfl) (by exact rq_p rfl rfl)) ?_); (refine su (ap_or (by exact rq_p rfl rfl) (by exact rq_c rfl rfl)) ?_); (refine su (ap_move (by exact rq_p rfl rfl)) ?_); (refine sg (by exact gq_vf rfl rfl) (fun he => ap_load_pw (by exact rq_p rfl rfl) (by exact rfl) (by exact rfl) (by exact rfl)) ?_); (refine sg_p (by exact gq_vf rfl rfl) (fun he => ⟨(by exact rq_p rfl rfl), (RqL.cons (by exact rq_c rfl rfl) (RqL.nil)), (by repeat' first | exact SubL.nil | refine SubL.cons ?_ ?_ | exact Sub.refl), (by (simp [bdL, bdL_append, AV.bd]; done)), named_fn _ (by (try simp only [List.all_cons, List.all_append, List.all_nil, id, Bool.and_true, decide_eq_true_eq, decide_eq_false_iff_not, Decidable.not_not, Bool.and_eq_true, Bool.or_eq_true, Bool.not_eq_true', Bool.not_eq_false', Bool.or_eq_false_iff, Bool.and_eq_false_iff, Int.not_lt, Int.not_le, reduceCtorEq, ne_eq, Bool.not_true, Bool.not_false, Bool.not_eq_true, Bool.not_eq_false] at he); omega) (by (try simp only [List.all_cons, List.all_append, List.all_nil, id, Bool.and_true, decide_eq_true_eq, decide_eq_false_iff_not, Decidable.not_not, Bool.and_eq_true, Bool.or_eq_true, Bool.not_eq_true', Bool.not_eq_false', Bool.or_eq_false_iff, Bool.and_eq_false_iff, Int.not_lt, Int.not_le, reduceCtorEq, ne_eq, Bool.not_true, Bool.not_false, Bool.not_eq_true, Bool.not_eq_false] at he); omega)⟩) ?_); (refine sg (by exact gq_vf rfl rfl) (fun he => ap_not (by exact rq_c rfl rfl)) ?_); (refine su (ap_or (by exact rq_p rfl rfl) (by exact rq_c rfl rfl)) ?_); (refine su (ap_move (by exact rq_p rfl rfl)) ?_); (refine sg (by exact gq_vf rfl rfl) (fun he => ap_field_p (by exact rq_p rfl rfl) (by exact rfl) (by exact rfl)) ?_); (refine sg (by exact gq_vf rfl rfl) (fun he => ap_load_p (by exact rq_c rfl rfl) (by exact rfl) (by exact rfl) (by exact rfl)) ?_); (refine sg (by exact gq_vf rfl rfl) (fun he => ap_lss (by exact rq_c rfl rfl) (by exact rq_p rfl rfl)) ?_); (refine su (ap_or (by exact rq_p rfl rfl) (by exact rq_c rfl rfl)) ?_); (refine su (ap_move (by exact rq_p rfl rfl)) ?_); (refine sg (by exact gq_vf rfl rfl) (fun he => ap_field_p (by exact rq_p rfl rfl) (by exact rfl) (by exact rfl)) ?_); (refine sg (by exact gq_vf rfl rfl) (fun he => ap_load_p (by exact rq_c rfl rfl) (by exact rfl) (by exact rfl) (by exact rfl)) ?_); (refine sg (by exact gq_vf rfl rfl) (fun he => ap_field_p (by exact rq_p rfl rfl) (by exact rfl) (by exact rfl)) ?_); (refine sg (by exact gq_vf rfl rfl) (fun he => ap_load_p (by exact rq_c rfl rfl) (by exact rfl) (by exact rfl) (by exact rfl)) ?_); (refine sg (by exact gq_vf rfl rfl) (fun he => ap_len_m (by exact rfl) (by exact rq_c rfl rfl)) ?_); (refine sg (by exact gq_vf rfl rfl) (fun he => ap_geq (by exact rq_c rfl rfl) (by exact rq_c rfl rfl)) ?_); (refine su (ap_or (by exact rq_p rfl rfl) (by exact rq_c rfl rfl)) ?_); (refine su (ap_move (by exact rq_p rfl rfl)) ?_); (refine sg (by exact gq_vf rfl rfl) (fun he => ap_field_p (by exact rq_p rfl rfl) (by exact rfl) (by exact rfl)) ?_); (refine sg (by exact gq_vf rfl rfl) (fun he => ap_load_p (by exact rq_c rfl rfl) (by exact rfl) (by exact rfl) (by exact rfl)) ?_); (refine sg (by exact gq_vf rfl rfl) (fun he => ap_len_m (by exact rfl) (by exact rq_c rfl rfl)) ?_); (refine sg (by exact gq_vf rfl rfl) (fun he => ap_lss (by exact rq_c rfl rfl) (by exact rq_p rfl rfl)) ?_); (refine su (ap_or (by exact rq_p rfl rfl) (by exact rq_c rfl rfl)) ?_); (refine su (ap_move (by exact rq_p rfl rfl)) ?_); (refine sg (by exact gq_vf rfl rfl) (fun he => ap_field_p (by exact rq_p rfl rfl) (by exact rfl) (by exact rfl)) ?_); (refine sg (by exact gq_vf rfl rfl) (fun he => ap_load_p (by exact rq_c rfl rfl) (by exact rfl) (by exact rfl) (by exact rfl)) ?_); (refine sg (by exact gq_vf rfl rfl) (fun he => ap_len_m (by exact rfl) (by exact rq_c rfl rfl)) ?_); (refine sg (by exact gq_vf rfl rfl) (fun he => ap_gtr (by exact rq_c rfl rfl) (by exact rq_p rfl rfl)) ?_); (refine su (ap_or (by exact rq_p rfl rfl) (by exact rq_c rfl rfl)) ?_); refine asemC_end ?_) | (refine WP.regionC (id := 2) ?_; (refine su (ap_assign (by exact rq_p rfl rfl)) ?_); refine asemC_end ?_) | (refine WP.regionC (id := 3) ?_; (refine su (ap_field_p (by exact rq_p rfl rfl) (by exact rfl) (by exact rfl)) ?_); (refine su (ap_load_p (by exact rq_p rfl rfl) (by exact rfl) (by exact rfl) (by exact rfl)) ?_); (refine su (ap_len_m (by exact rfl) (by exact rq_p rfl rfl)) ?_); (refine su (ap_move (by exact rq_p rfl rfl)) ?_); refine asemC_end ?_) | refine ret_b (by exact rfl) ?_))
  · by_cases hns : namesOk (g.terms ++ g.nonterms) = true
    · simp only [hns, Bool.true_eq_false, or_false] at hc
      simp [validG]; omega
    · simp [validG, hns]
  have hns : namesOk (g.terms ++ g.nonterms) = true := hc.1.1.1.1.2
  have hn2 : g.nonterms.length ≤ 120 := by omega
  refine wp_loop (fun (i : Nat) => i ≤ g.rules.length ∧ (g.rules.take i).all (ruleOk g) = true) (fun i => g.rules.length - i)
    (fun i => (S 90 [(1, .ptr 0 4 0 0), (52, rulesA g.rules), (53, intA (g.rules.length : Nat)), (54, intA (i : Nat))] 1 [(0, some (.arr 4 [gramA g]))])) 0 ⟨[0], ToR.S rfl (by repeat' (first | exact rt_nil | refine rt_t (by exact rfl) (by exact rfl) ?_ | refine rt_e (by exact rfl) (by exact rfl) ?_ | refine rt_p (by exact rfl) (by exact rfl) (by (simp [AV.bd, bdL, bdL_append]; done)) ?_)) (by repeat' (first | exact ro_nil | refine ro_p (by exact rfl) (by exact rfl) (by (simp [bdL, bdL_append, AV.bd]; done)) ?_)) (by decide) (by (rw [hm]; exact rfl)) (by exact rfl) (by (simp [bdT, AV.bd, bdL, bdL_append]; done)) (by repeat' (first | exact True.intro | refine And.intro ?_ ?_ | (simp [bdOq, bdL, bdL_append, AV.bd]; done))) (by (rw [hm]; exact Nat.le_of_ble_eq_true rfl))⟩ ⟨Nat.zero_le _, rfl⟩ ?_
  rintro i ⟨hi, hall⟩
  (repeat' (first | refine WP.seq ?_ | refine WP.block ?_ | refine go_n ?_ | refine WP.skip ?_ | refine WP.exit ?_ | refine WP.ret ?_ | refine go_x ?_ | refine go_r ?_ | refine bl_n ?_ | refine bl_r ?_ | refine bl_x ?_ | refine bo_r ?_ | (refine wp_cond (by exact rfl) (fun hc => ?_) (fun hc => ?_) <;> (try simp only [decide_eq_true_eq, decide_eq_false_iff_not, Decidable.not_not, Bool.and_eq_true, Bool.or_eq_true, Bool.not_eq_true', Bool.not_eq_false', Bool.or_eq_false_iff, Bool.and_eq_false_iff, Int.not_lt, Int.not_le, reduceCtorEq, ne_eq, Bool.not_true, Bool.not_false, Bool.not_eq_true, Bool.not_eq_false] at hc) <;> (try (exfalso; omega))) | (refine WP.regionC (id := 4) ?_; (refine su (ap_lss (by exact rq_p rfl rfl) (by exact rq_p rfl rfl)) ?_); refine asemC_end ?_) | (refine WP.regionC (id := 5) ?_; (refine su (ap_idx_n (by exact rq_p rfl rfl) (by exact rq_p rfl rfl) (by omega)) ?_); (refine su (ap_load_w (by exact rq_p rfl rfl) (by exact rfl)) ?_); (refine se_alloc (by exact rfl) ?_); (refine se_store_b (by exact rfl) (by exact rfl) (by exact rfl) (by exact rfl) ?_); refine asemC_end ?_) | (refine WP.regionC (id := 6) ?_; (refine su (ap_field_p (by exact rq_p rfl rfl) (by exact rfl) (by exact rfl)) ?_); (refine su (ap_load_p (by exact rq_p rfl rfl) (by exact rfl) (by exact rfl) (by exact rfl)) ?_); (refine su (ap_lss (by exact rq_p rfl rfl) (by exact rq_p rfl rfl)) ?_); (refine su (ap_move (by exact rq_p rfl rfl)) ?_); (refine sg (by exact gq_vf rfl rfl) (fun he => ap_field_p (by exact rq_p rfl rfl) (by exact rfl) (by exact rfl)) ?_); (refine sg (by exact gq_vf rfl rfl) (fun he => ap_load_p (by exact rq_c rfl rfl) (by exact rfl) (by exact rfl) (by exact rfl)) ?_); (refine sg (by exact gq_vf rfl rfl) (fun he => ap_field_p (by exact rq_p rfl rfl) (by exact rfl) (by exact rfl)) ?_); (refine sg (by exact gq_vf rfl rfl) (fun he => ap_load_p (by exact rq_c rfl rfl) (by exact rfl) (by exact rfl) (by exact rfl)) ?_); (refine sg (by exact gq_vf rfl rfl) (fun he => ap_len_m (by exact rfl) (by exact rq_c rfl rfl)) ?_); (refine sg (by exact gq_vf rfl rfl) (fun he => ap_geq (by exact rq_c rfl rfl) (by exact rq_c rfl rfl)) ?_); (refine su (ap_or (by exact rq_p rfl rfl) (by exact rq_c rfl rfl)) ?_); (refine su (ap_move (by exact rq_p rfl rfl)) ?_); (refine sg (by exact gq_vf rfl rfl) (fun he => ap_field_p (by exact rq_p rfl rfl) (by exact rfl) (by exact rfl)) ?_); (refine sg (by exact gq_vf rfl rfl) (fun he => ap_load_p (by exact rq_c rfl rfl) (by exact rfl) (by exact rfl) (by exact rfl)) ?_); (refine sg (by exact gq_vf rfl rfl) (fun he => ap_len_m (by exact rfl) (by exact rq_c rfl rfl)) ?_); (refine sg (by exact gq_vf rfl rfl) (fun he => ap_gtr (by exact rq_c rfl rfl) (by exact rq_p rfl rfl)) ?_); (refine su (ap_or (by exact rq_p rfl rfl) (by exact rq_c rfl rfl)) ?_); (refine su (ap_move (by exact rq_p rfl rfl)) ?_); (refine sg (by exact gq_vf rfl rfl) (fun he => ap_field_p (by exact rq_p rfl rfl) (by exact rfl) (by exact rfl)) ?_); (refine sg (by exact gq_vf rfl rfl) (fun he => ap_load_p (by exact rq_c rfl rfl) (by exact rfl) (by exact rfl) (by exact rfl)) ?_); (refine sg (by exact gq_vf rfl rfl) (fun he => ap_lss (by exact rq_c rfl rfl) (by exact rq_p rfl rfl)) ?_); (refine su (ap_or (by exact rq_p rfl rfl) (by exact rq_c rfl rfl)) ?_); (refine su (ap_move (by exact rq_p rfl rfl)) ?_); (refine sg (by exact gq_vf rfl rfl) (fun he => ap_field_p (by exact rq_p rfl rfl) (by exact rfl) (by exact rfl)) ?_); (refine sg (by exact gq_vf rfl rfl) (fun he => ap_load_p (by exact rq_c rfl rfl) (by exact rfl) (by exact rfl) (by exact rfl)) ?_); (refine sg (by exact gq_vf rfl rfl) (fun he => ap_gtr (by exact rq_c rfl rfl) (by exact rq_p rfl rfl)) ?_); (refine su (ap_or (by exact rq_p rfl rfl) (by exact rq_c rfl rfl)) ?_); refine asemC_end ?_) | (refine WP.regionC (id := 7) ?_; (refine su (ap_assign (by exact rq_p rfl rfl)) ?_); refine asemC_end ?_) | (refine WP.regionC (id := 8) ?_; (refine su (ap_field_p (by exact rq_p rfl rfl) (by exact rfl) (by exact rfl)) ?_); (refine su (ap_load_p (by exact rq_p rfl rfl) (by exact rfl) (by exact rfl) (by exact rfl)) ?_); (refine su (ap_clo (RqL.nil) (RqL.cons (by exact rq_p rfl rfl) (RqL.nil))) ?_); (refine sc_b rfl rfl (by repeat' first | exact FzL.nil | refine FzL.cons ?_ ?_ | (exact Fz.reflp (by simp [AV.bd, bdL, bdL_append])) | refine Fz.ptrL (by exact rfl) (by exact rfl) ?_ | refine Fz.cloL ?_ ?_) (containsFunc_fn _ _ _ (fun x => !symOk g x) (fun n => by simp [bdL, AV.bd, AV.cells, gramA]) (fun x hx => gvalid1_fn g x hn2)) (by exact rfl) ?_); refine asemC_end ?_) | (refine WP.regionC (id := 9) ?_; (refine su (ap_assign (by exact rq_p rfl rfl)) ?_); refine asemC_end ?_) | (refine WP.regionC (id := 10) ?_; (refine su (ap_add (by exact rq_p rfl rfl) (by exact rq_p rfl rfl) (by exact inr_i64_of (by omega))) ?_); (refine su (ap_move (by exact rq_p rfl rfl)) ?_); refine asemC_end ?_) | (refine WP.regionC (id := 11) ?_; (refine su (ap_assign (by exact rq_p rfl rfl)) ?_); refine asemC_end ?_) | refine ret_b (by exact rfl) ?_))
  · rw [validG_no (i := i) (by omega) (by simp [ruleOk]; omega)]
  · rw [any_not_sym, Bool.not_eq_true'] at hc
    rw [validG_no (i := i) (by omega) (by simp only [ruleOk, hc, Bool.and_false])]
  · rw [any_not_sym, Bool.not_eq_false'] at hc
    exact ⟨i + 1, ⟨by omega, by omega, take_all_succ (by omega) hall (by simp only [ruleOk, hc, Bool.and_true]; simp; omega)⟩, ⟨[0], ToR.S rfl (by repeat' (first | exact rt_nil | refine rt_t (by exact rfl) (by exact rfl) ?_ | refine rt_e (by exact rfl) (by exact rfl) ?_ | refine rt_p (by exact rfl) (by exact rfl) (by (simp [AV.bd, bdL, bdL_append]; done)) ?_)) (by repeat' (first | exact ro_nil | refine ro_p (by exact rfl) (by exact rfl) (by (simp [bdL, bdL_append, AV.bd]; done)) ?_)) (by decide) (by (rw [hm]; exact rfl)) (by exact rfl) (by (simp [bdT, AV.bd, bdL, bdL_append]; done)) (by repeat' (first | exact True.intro | refine And.intro ?_ ?_ | (simp [bdOq, bdL, bdL_append, AV.bd]; done))) (by (rw [hm]; exact Nat.le_of_ble_eq_true rfl))⟩⟩
  simp [validG, hns, all_of_take' (by omega) hall]; omega
end Go.Lg

/- reduce.Reduce -/
namespace Go.Lg
open Go.Proofs
set_option linter.unusedSimpArgs false
set_option linter.unusedVariables false
attribute [local irreducible] Ap Rq asemC WP RunD Ret Gq thenA inBlockA bodyQ noGotoA RqL RqP OpP
set_option maxHeartbeats 8000000

/-- the numbers given so far -/
def NumM (use : List Bool) (i : Nat) (m : List (Int × Int)) : Prop := ∀ x : Int, 0 ≤ x → x < i → (aget m x).getD 0 = (numB use x.toNat : Int)
theorem NumM.no {use : List Bool} {i : Nat} {m : List (Int × Int)} (h : NumM use i m) (hn : nth use i = false) (hf : aget m (i : Int) = none) : NumM use (i + 1) m := by
  intro x h0 h1
  by_cases e : x = i
  · subst e; simp [hf, numB, hn]
  · exact h x h0 (by omega)
theorem NumM.yes {use : List Bool} {i : Nat} {m : List (Int × Int)} (h : NumM use i m) (hn : nth use i = true) : NumM use (i + 1) (aset m (i : Int) (cntB use i : Int)) := by
  intro x h0 h1
  rw [aget_aset]
  by_cases e : x = i
  · subst e; simp [numB, hn]
  · rw [if_neg e]; exact h x h0 (by omega)
theorem none_aset {i : Nat} {m : List (Int × Int)} {v : Int} (h : ∀ x : Int, (i : Int) ≤ x → aget m x = none) : ∀ x : Int, ((i + 1 : Nat) : Int) ≤ x → aget (aset m (i : Int) v) x = none := by
  intro x hx
  rw [aget_aset, if_neg (by omega)]; exact h x (by omega)

theorem reduce_fn (g : Gram) : Fn Try.prog 10 [gramA g] (reduceA g) := by
  refine Fn.intro (by simp [AV.bd, bdL, bdL_append]) (by kernel_rfl) Try.func10 rfl rfl Try.ntmps10 (by exact Nat.le_of_ble_eq_true rfl) ?_; intro Γ hm
  by_cases hval : validG g = true
  · have hv := validG_iff.1 hval
    have hn2 := hv.n2
    have hr2 := hv.r2
    have ht2 := hv.terms
    have hs0 := hv.s0
    have hsn := hv.sn
    have hpl := prodG_len g
    have hul := usefulG_len g (prodG g)
    have hlo : ∀ i, i < g.rules.length → ∀ x, x ∈ (nth g.rules i).body → -((prodG g).length : Int) ≤ x := fun i hi x hx => by have := (hv.rule _ (nth_mem hi)).lo x hx; omega
    (repeat' (first | refine WP.seq ?_ | refine go_n ?_ | refine WP.skip ?_ | refine WP.ret ?_ | refine go_r ?_ | refine bo_r ?_ | (refine wp_cond (by exact rfl) (fun hc => ?_) (fun hc => ?_) <;> (try simp only [decide_eq_true_eq, decide_eq_false_iff_not, Decidable.not_not, Bool.and_eq_true, Bool.or_eq_true, Bool.not_eq_true', Bool.not_eq_false', Bool.or_eq_false_iff, Bool.and_eq_false_iff, Int.not_lt, Int.not_le, reduceCtorEq, ne_eq, Bool.not_true, Bool.not_false, Bool.not_eq_true, Bool.not_eq_false] at hc) <;> (try (exfalso; omega))) | (refine WP.regionC (id := 0) ?_; (refine se_box (by exact rfl) (by exact ⟨rfl, rfl⟩) ?_); (refine se_alloc (by exact rfl) ?_); (refine su (ap_assign (by exact rq_p rfl rfl)) ?_); (refine su (ap_assign (by exact rq_p rfl rfl)) ?_); refine asemC_end ?_) | (refine WP.regionC (id := 1) ?_; (refine su (ap_load_pw (by exact rq_p rfl rfl) (by exact rfl) (by exact rfl) (by exact rfl)) ?_); (refine sc_p rfl rfl (by repeat' first | exact SubL.nil | refine SubL.cons ?_ ?_ | exact Sub.refl) (by first | (simp [bdL, bdL_append, AV.bd]; done) | fail) (gvalid_fn _) ?_); (refine su (ap_not (by exact rq_p rfl rfl)) ?_); refine asemC_end ?_) | (refine WP.regionC (id := 2) ?_; (refine su (ap_build (RqP.nil) (by exact rfl)) ?_); (refine se_store_b (by exact rfl) (by exact rfl) (by exact rfl) (by exact rfl) ?_); (refine su (ap_assign (by exact rq_p rfl rfl)) ?_); (refine su (ap_assign (by exact rq_p rfl rfl)) ?_); refine asemC_end ?_) | (refine WP.regionC (id := 3) ?_; (refine su (ap_load_pw (by exact rq_p rfl rfl) (by exact rfl) (by exact rfl) (by exact rfl)) ?_); (refine sc_p rfl rfl (by repeat' first | exact SubL.nil | refine SubL.cons ?_ ?_ | exact Sub.refl) (by first | (simp [bdL, bdL_append, AV.bd]; done) | fail) (productive_an _ (by assumption)) ?_); (refine su (ap_assign (by exact rq_p rfl rfl)) ?_); refine asemC_end ?_) | (refine WP.regionC (id := 4) ?_; (refine su (ap_move (by exact rq_p rfl rfl)) ?_); (refine su (ap_field_p (by exact rq_p rfl rfl) (by exact rfl) (by exact rfl)) ?_); (refine su (ap_load_p (by exact rq_p rfl rfl) (by exact rfl) (by exact rfl) (by exact rfl)) ?_); (refine su (ap_idx_z (by exact rq_p rfl rfl) (by exact rq_p rfl rfl) (by omega)) ?_); (refine su (ap_load_w (by exact rq_p rfl rfl) (by exact rfl)) ?_); (refine su (ap_not (by exact rq_p rfl rfl)) ?_); refine asemC_end ?_) | (refine WP.regionC (id := 5) ?_; (refine su (ap_build (RqP.nil) (by exact rfl)) ?_); (refine se_store_b (by exact rfl) (by exact rfl) (by exact rfl) (by exact rfl) ?_); (refine su (ap_assign (by exact rq_p rfl rfl)) ?_); (refine su (ap_assign (by exact rq_p rfl rfl)) ?_); refine asemC_end ?_) | (refine WP.regionC (id := 6) ?_; (refine su (ap_load_pw (by exact rq_p rfl rfl) (by exact rfl) (by exact rfl) (by exact rfl)) ?_); (refine su (ap_move (by exact rq_p rfl rfl)) ?_); (refine sc_p rfl rfl (by repeat' first | exact SubL.nil | refine SubL.cons ?_ ?_ | exact Sub.refl) (by first | (simp [bdL, bdL_append, AV.bd]; done) | fail) (useful_fn _ _ (by assumption) (by assumption)) ?_); (refine su (ap_assign (by exact rq_p rfl rfl)) ?_); refine asemC_end ?_) | (refine WP.regionC (id := 7) ?_; (refine se_mkmap ?_); (refine su (ap_assign (by exact rq_p rfl rfl)) ?_); refine asemC_end ?_) | (refine WP.regionC (id := 8) ?_; (refine su (ap_field_p (by exact rq_p rfl rfl) (by exact rfl) (by exact rfl)) ?_); (refine su (ap_load_p (by exact rq_p rfl rfl) (by exact rfl) (by exact rfl) (by exact rfl)) ?_); (refine sc_p rfl rfl (by repeat' first | exact SubL.nil | refine SubL.cons ?_ ?_ | exact Sub.refl) (by first | (simp [bdL, bdL_append, AV.bd]; done) | fail) (cloneStrs_fn _ (by omega)) ?_); (refine su (ap_build (RqP.cons (by exact rq_p rfl rfl) (RqP.nil)) (by exact rfl)) ?_); (refine se_alloc (by exact rfl) ?_); (refine se_store_b (by exact rfl) (by exact rfl) (by exact rfl) (by exact rfl) ?_); refine asemC_end ?_)))
    · rw [hval] at hc; cases hc
    · rw [reduceA_10 hval hc]
      exact ret_many (.cellT (by exact rfl) (by exact rfl) (by exact rfl) (by exact rfl) (.tmp (by exact rfl) (.tmp (by exact rfl) .nil))) (by decide) (by repeat' first | exact FzL.nil | refine FzL.cons ?_ ?_ | exact Fz.nil | (exact Fz.reflp (by simp [AV.bd, bdL, bdL_append])) | refine Fz.aggL ?_)
    have hpr : nth (prodG g) g.start.toNat = true := hc
    generalize hU : usefulG g (prodG g) = use at *
    refine wp_nilo 3 1 1 (by exact rfl) (by exact rfl) (wp_nilo 3 3 3 (by exact rfl) (by exact rfl) ?_)
    (repeat' (first | refine WP.block ?_ | refine go_n ?_ | (refine WP.regionC (id := 9) ?_; (refine su (ap_field_p (by exact rq_p rfl rfl) (by exact rfl) (by exact rfl)) ?_); (refine su (ap_load_p (by exact rq_p rfl rfl) (by exact rfl) (by exact rfl) (by exact rfl)) ?_); (refine su (ap_len_m (by exact rfl) (by exact rq_p rfl rfl)) ?_); (refine su (ap_move (by exact rq_p rfl rfl)) ?_); refine asemC_end ?_)))
    refine wp_loop (fun (x : Nat × List (Int × Int)) => x.1 ≤ g.nonterms.length ∧ NumM use x.1 x.2 ∧ ∀ y : Int, (x.1 : Int) ≤ y → aget x.2 y = none) (fun x => g.nonterms.length - x.1)
      (fun x => (S 129 [(1, .ptr 0 4 0 0), (2, .ptr 1 4 0 0), (5, boolsA (prodG g)), (6, boolsA use), (7, .map 2), (8, .ptr 3 4 0 0), (39, strsA g.nonterms), (40, intA (g.nonterms.length : Nat)), (41, intA (x.1 : Nat))] 6 [(0, some (.arr 4 [gramA g])), (1, some (.arr 4 [zgA])), (2, some (.map (mapA intK intA x.2))), (3, some (.arr 4 [.agg [strsA g.terms, .ref 4 1 0 (namesTo g use x.1).length, intA 0, .ref 5 3 0 0]])), (4, some (.arr 1 ((namesTo g use x.1).map strA))), (5, some (.arr 3 []))])) (0, []) ⟨[0, 1, 2, 3, 4, 5], ToR.S rfl (by repeat' (first | exact rt_nil | refine rt_t (by exact rfl) (by exact rfl) ?_ | refine rt_m (by exact rfl) (by exact rfl) ?_ | refine rt_e (by exact rfl) (by exact rfl) ?_ | refine rt_p (by exact rfl) (by exact rfl) (by first | (simp [AV.bd, bdL, bdL_append]; done) | fail) ?_)) (by repeat' (first | exact ro_nil | refine ro_e (by exact rfl) (by exact rfl) ?_ | refine ro_p (by exact rfl) (by first | exact rfl | fail) (by first | (simp [bdL, bdL_append, AV.bd]; done) | fail) ?_ | refine ro_m (by exact rfl) (by exact rfl) (mapA_bd (fun _ => by exact rfl) _) ?_ | refine ro_e (by exact rfl) (by simp only [renL, AV.ren, ren_strsA, ren_intsA]; exact rfl) ?_)) (by decide) (by (rw [hm]; exact rfl)) (by exact rfl) (by (simp [bdT, AV.bd, bdL, bdL_append]; done)) (by repeat' (first | exact True.intro | exact rfl | refine And.intro ?_ ?_ | (simp [bdOq, bdL, bdL_append, AV.bd]; done))) (by (rw [hm]; exact Nat.le_of_ble_eq_true rfl))⟩ ⟨Nat.zero_le _, fun x h0 h1 => by simp at h1; omega, fun y _ => rfl⟩ ?_
    rintro ⟨i, m⟩ ⟨hi, hm1, hm2⟩
    dsimp only at *
    by_cases hlt : i < g.nonterms.length
    · have hnl : (namesTo g use i).length ≤ i := by rw [namesTo_len]; exact cntB_le use i
      (repeat' (first | refine WP.seq ?_ | refine WP.block ?_ | refine go_n ?_ | refine WP.skip ?_ | refine bl_n ?_ | (refine wp_cond (by exact rfl) (fun hc => ?_) (fun hc => ?_) <;> (try simp only [decide_eq_true_eq, decide_eq_false_iff_not, Decidable.not_not, Bool.and_eq_true, Bool.or_eq_true, Bool.not_eq_true', Bool.not_eq_false', Bool.or_eq_false_iff, Bool.and_eq_false_iff, Int.not_lt, Int.not_le, reduceCtorEq, ne_eq, Bool.not_true, Bool.not_false, Bool.not_eq_true, Bool.not_eq_false] at hc) <;> (try (exfalso; omega))) | (refine WP.regionC (id := 10) ?_; (refine su (ap_lss (by exact rq_p rfl rfl) (by exact rq_p rfl rfl)) ?_); refine asemC_end ?_) | (refine WP.regionC (id := 11) ?_; (refine su (ap_move (by exact rq_p rfl rfl)) ?_); (refine su (ap_idx_n (by exact rq_p rfl rfl) (by exact rq_p rfl rfl) (by omega)) ?_); (refine su (ap_load_w (by exact rq_p rfl rfl) (by exact rfl)) ?_); (refine su (ap_assign (by exact rq_p rfl rfl)) ?_); (refine su (ap_assign (by exact rq_p rfl rfl)) ?_); refine asemC_end ?_) | (refine WP.regionC (id := 12) ?_; (refine su (ap_move (by exact rq_p rfl rfl)) ?_); (refine su (ap_move (by exact rq_p rfl rfl)) ?_); (refine su (ap_idx_n (by exact rq_p rfl rfl) (by exact rq_p rfl rfl) (by omega)) ?_); (refine su (ap_load_w (by exact rq_p rfl rfl) (by exact rfl)) ?_); refine asemC_end ?_) | (refine WP.regionC (id := 13) ?_; (refine su (ap_move (by exact rq_p rfl rfl)) ?_); (refine su (ap_move (by exact rq_p rfl rfl)) ?_); (refine su (ap_field_p (by exact rq_p rfl rfl) (by exact rfl) (by exact rfl)) ?_); (refine su (ap_load_p (by exact rq_p rfl rfl) (by exact rfl) (by exact rfl) (by exact rfl)) ?_); (refine su (ap_len_r (by exact rfl) (by exact rq_p rfl rfl)) ?_); (refine se_mapset (kf := intK) (by exact rfl) (by exact rfl) (by exact rfl) (by exact rfl) ?_); refine asemC_end ?_) | (refine WP.regionC (id := 14) ?_; (refine su (ap_field_p (by exact rq_p rfl rfl) (by exact rfl) (by exact rfl)) ?_); (refine su (ap_load_p (by exact rq_p rfl rfl) (by exact rfl) (by exact rfl) (by exact rfl)) ?_); (refine su (ap_move (by exact rq_p rfl rfl)) ?_); (refine se_lit (OpP.cons (by exact rfl) (OpP.nil)) (by exact rfl) (by exact rfl) (by exact rfl) (by exact rfl) (by exact rfl) (by exact rfl) ?_); (refine se_app1 (by exact rfl) (by exact rfl) (by exact rfl) (by exact rfl) (by exact rfl) (by exact rfl) (by exact rfl) (by exact rfl) (by omega) ?_); (refine su (ap_field_p (by exact rq_p rfl rfl) (by exact rfl) (by exact rfl)) ?_); (refine se_store_b (by exact rfl) (by exact rfl) (by exact rfl) (by exact rfl) ?_); refine asemC_end ?_) | (refine WP.regionC (id := 15) ?_; (refine su (ap_add (by exact rq_p rfl rfl) (by exact rq_p rfl rfl) (by exact inr_i64_of (by omega))) ?_); (refine su (ap_move (by exact rq_p rfl rfl)) ?_); refine asemC_end ?_)))
      · refine ⟨(i + 1, aset m (i : Int) (cntB use i : Int)), ⟨by dsimp only; omega, by dsimp only; omega, hm1.yes hc, none_aset hm2⟩, ?_⟩
        dsimp only
        rw [namesTo_yes hc, ← namesTo_len (g := g)]
        exact ⟨[0, 1, 2, 3, 7, 5], ToR.S rfl (by repeat' (first | exact rt_nil | refine rt_t (by exact rfl) (by exact rfl) ?_ | refine rt_m (by exact rfl) (by exact rfl) ?_ | refine rt_e (by exact rfl) (by exact rfl) ?_ | refine rt_p (by exact rfl) (by exact rfl) (by first | (simp [AV.bd, bdL, bdL_append]; done) | fail) ?_)) (by repeat' (first | exact ro_nil | refine ro_e (by exact rfl) (by exact rfl) ?_ | refine ro_p (by exact rfl) (by first | exact rfl | fail) (by first | exact bdL_map (fun _ => by exact rfl) _ | (simp [bdL, bdL_append, AV.bd]; done) | fail) ?_ | refine ro_m (by exact rfl) (by exact rfl) (mapA_bd (fun _ => by exact rfl) _) ?_ | refine ro_e (by exact rfl) (by simp only [renL, AV.ren, ren_strsA, ren_intsA]; exact rfl) ?_)) (by decide) (by (rw [hm]; exact rfl)) (by exact rfl) (by (simp [bdT, AV.bd, bdL, bdL_append]; done)) (by repeat' (first | exact True.intro | exact rfl | exact mapA_all (fun _ => by exact rfl) _ | refine And.intro ?_ ?_ | exact bdL_map (fun _ => by exact rfl) _ | (simp [bdOq, bdL, bdL_append, AV.bd]; done))) (by (rw [hm]; exact Nat.le_of_ble_eq_true rfl))⟩
      · refine ⟨(i + 1, m), ⟨by dsimp only; omega, by dsimp only; omega, hm1.no hc (hm2 _ (Int.le_refl _)), fun y hy => hm2 y (by omega)⟩, ?_⟩
        dsimp only
        rw [namesTo_no hc]
        exact ⟨[0, 1, 2, 3, 4, 5], ToR.S rfl (by repeat' (first | exact rt_nil | refine rt_t (by exact rfl) (by exact rfl) ?_ | refine rt_m (by exact rfl) (by exact rfl) ?_ | refine rt_e (by exact rfl) (by exact rfl) ?_ | refine rt_p (by exact rfl) (by exact rfl) (by first | (simp [AV.bd, bdL, bdL_append]; done) | fail) ?_)) (by repeat' (first | exact ro_nil | refine ro_e (by exact rfl) (by exact rfl) ?_ | refine ro_p (by exact rfl) (by first | exact rfl | fail) (by first | exact bdL_map (fun _ => by exact rfl) _ | (simp [bdL, bdL_append, AV.bd]; done) | fail) ?_ | refine ro_m (by exact rfl) (by exact rfl) (mapA_bd (fun _ => by exact rfl) _) ?_ | refine ro_e (by exact rfl) (by simp only [renL, AV.ren, ren_strsA, ren_intsA]; exact rfl) ?_)) (by decide) (by (rw [hm]; exact rfl)) (by exact rfl) (by (simp [bdT, AV.bd, bdL, bdL_append]; done)) (by repeat' (first | exact True.intro | exact rfl | exact mapA_all (fun _ => by exact rfl) _ | refine And.intro ?_ ?_ | exact bdL_map (fun _ => by exact rfl) _ | (simp [bdOq, bdL, bdL_append, AV.bd]; done))) (by (rw [hm]; exact Nat.le_of_ble_eq_true rfl))⟩
    obtain rfl : i = g.nonterms.length := by omega
    have hnl : (namesTo g use g.nonterms.length).length ≤ g.nonterms.length := by rw [namesTo_len]; exact cntB_le use _
    have hst : (aget m g.start).getD 0 = (numB use g.start.toNat : Int) := hm1 _ hs0 hsn
    (repeat' (first | refine WP.seq ?_ | refine WP.block ?_ | refine go_n ?_ | refine WP.exit ?_ | refine go_x ?_ | refine bl_x ?_ | (refine wp_cond (by exact rfl) (fun hc => ?_) (fun hc => ?_) <;> (try simp only [decide_eq_true_eq, decide_eq_false_iff_not, Decidable.not_not, Bool.and_eq_true, Bool.or_eq_true, Bool.not_eq_true', Bool.not_eq_false', Bool.or_eq_false_iff, Bool.and_eq_false_iff, Int.not_lt, Int.not_le, reduceCtorEq, ne_eq, Bool.not_true, Bool.not_false, Bool.not_eq_true, Bool.not_eq_false] at hc) <;> (try (exfalso; omega))) | (refine WP.regionC (id := 10) ?_; (refine su (ap_lss (by exact rq_p rfl rfl) (by exact rq_p rfl rfl)) ?_); refine asemC_end ?_) | (refine WP.regionC (id := 16) ?_; (refine su (ap_move (by exact rq_p rfl rfl)) ?_); (refine su (ap_field_p (by exact rq_p rfl rfl) (by exact rfl) (by exact rfl)) ?_); (refine su (ap_load_p (by exact rq_p rfl rfl) (by exact rfl) (by exact rfl) (by exact rfl)) ?_); (refine su (ap_look (kf := intK) (by exact rq_p rfl rfl) (by exact rfl) (by exact rq_p rfl rfl) (by exact rfl)) ?_); (refine su (ap_field_p (by exact rq_p rfl rfl) (by exact rfl) (by exact rfl)) ?_); (refine se_store_b (by exact rfl) (by exact rfl) (by exact rfl) (by exact rfl) ?_); refine asemC_end ?_) | (refine WP.regionC (id := 17) ?_; (refine su (ap_assign (by exact rq_p rfl rfl)) ?_); refine asemC_end ?_) | (refine WP.regionC (id := 18) ?_; (refine su (ap_field_p (by exact rq_p rfl rfl) (by exact rfl) (by exact rfl)) ?_); (refine su (ap_load_p (by exact rq_p rfl rfl) (by exact rfl) (by exact rfl) (by exact rfl)) ?_); (refine su (ap_len_m (by exact rfl) (by exact rq_p rfl rfl)) ?_); (refine su (ap_move (by exact rq_p rfl rfl)) ?_); refine asemC_end ?_)))
    rw [hst]
    refine wp_nil 11 1 (by exact rfl) ?_
    refine wp_loop (fun (i : Nat) => i ≤ g.rules.length) (fun i => g.rules.length - i)
      (fun i => (S 129 [(2, .ptr 1 4 0 0), (5, boolsA (prodG g)), (6, boolsA use), (7, .map 2), (8, .ptr 3 4 0 0), (11, .ref 6 1 0 (fromTo g (prodG g) use i).length), (68, rulesA g.rules), (69, intA (g.rules.length : Nat)), (70, intA (i : Nat))] 7 [(0, some (.arr 4 [gramA g])), (1, some (.arr 4 [zgA])), (2, some (.map (mapA intK intA m))), (3, some (.arr 4 [.agg [strsA g.terms, .ref 4 1 0 (namesTo g use g.nonterms.length).length, intA (numB use g.start.toNat : Nat), .ref 5 3 0 (rulesTo g (prodG g) use i).length]])), (4, some (.arr 1 ((namesTo g use g.nonterms.length).map strA))), (5, some (.arr 3 ((rulesTo g (prodG g) use i).map ruleA))), (6, some (.arr 1 ((fromTo g (prodG g) use i).map intA)))])) 0 ⟨[0, 1, 2, 3, 4, 5, 6], ToR.S rfl (by repeat' (first | exact rt_nil | refine rt_r (by exact rfl) (by exact rfl) ?_ | refine rt_t (by exact rfl) (by exact rfl) ?_ | refine rt_m (by exact rfl) (by exact rfl) ?_ | refine rt_e (by exact rfl) (by exact rfl) ?_ | refine rt_p (by exact rfl) (by exact rfl) (by first | (simp [AV.bd, bdL, bdL_append]; done) | fail) ?_)) (by repeat' (first | exact ro_nil | refine ro_e (by exact rfl) (by exact rfl) ?_ | refine ro_p (by exact rfl) (by first | exact rfl | fail) (by first | exact bdL_map (fun _ => by exact rfl) _ | (simp [bdL, bdL_append, AV.bd]; done) | fail) ?_ | refine ro_m (by exact rfl) (by exact rfl) (mapA_bd (fun _ => by exact rfl) _) ?_ | refine ro_e (by exact rfl) (by simp only [renL, AV.ren, ren_strsA, ren_intsA]; exact rfl) ?_)) (by decide) (by (rw [hm]; exact rfl)) (by exact rfl) (by (simp [bdT, AV.bd, bdL, bdL_append]; done)) (by repeat' (first | exact True.intro | exact rfl | exact mapA_all (fun _ => by exact rfl) _ | refine And.intro ?_ ?_ | exact bdL_map (fun _ => by exact rfl) _ | (simp [bdOq, bdL, bdL_append, AV.bd]; done))) (by (rw [hm]; exact Nat.le_of_ble_eq_true rfl))⟩ (Nat.zero_le _) ?_
    rintro i hi
    by_cases hlt : i < g.rules.length
    · have hr := hv.rule _ (nth_mem hlt)
      have hr0 := hr.h0
      have hrn := hr.hn
      have hrl := hr.len
      have hlo' := hlo i hlt
      have hrl2 := rules_le (g := g) (is := prodG g) (use := use) (i := i)
      have hfl2 := from_le (g := g) (is := prodG g) (use := use) (i := i)
      have hnv : (aget m (nth g.rules i).head).getD 0 = (numB use (nth g.rules i).head.toNat : Int) := hm1 _ hr0 hrn
      (repeat' (first | refine WP.seq ?_ | refine WP.block ?_ | refine go_n ?_ | refine WP.skip ?_ | refine WP.exit ?_ | refine go_x ?_ | refine bl_x ?_ | (refine wp_cond (by exact rfl) (fun hc => ?_) (fun hc => ?_) <;> (try simp only [decide_eq_true_eq, decide_eq_false_iff_not, Decidable.not_not, Bool.and_eq_true, Bool.or_eq_true, Bool.not_eq_true', Bool.not_eq_false', Bool.or_eq_false_iff, Bool.and_eq_false_iff, Int.not_lt, Int.not_le, reduceCtorEq, ne_eq, Bool.not_true, Bool.not_false, Bool.not_eq_true, Bool.not_eq_false] at hc) <;> (try (exfalso; omega))) | (refine WP.regionC (id := 19) ?_; (refine su (ap_lss (by exact rq_p rfl rfl) (by exact rq_p rfl rfl)) ?_); refine asemC_end ?_) | (refine WP.regionC (id := 20) ?_; (refine su (ap_move (by exact rq_p rfl rfl)) ?_); (refine su (ap_idx_n (by exact rq_p rfl rfl) (by exact rq_p rfl rfl) (by omega)) ?_); (refine su (ap_load_w (by exact rq_p rfl rfl) (by exact rfl)) ?_); (refine se_alloc (by exact rfl) ?_); (refine su (ap_assign (by exact rq_p rfl rfl)) ?_); (refine se_store_b (by exact rfl) (by exact rfl) (by exact rfl) (by exact rfl) ?_); refine asemC_end ?_) | (refine WP.regionC (id := 21) ?_; (refine su (ap_move (by exact rq_p rfl rfl)) ?_); (refine su (ap_field_p (by exact rq_p rfl rfl) (by exact rfl) (by exact rfl)) ?_); (refine su (ap_load_p (by exact rq_p rfl rfl) (by exact rfl) (by exact rfl) (by exact rfl)) ?_); (refine su (ap_idx_z (by exact rq_p rfl rfl) (by exact rq_p rfl rfl) (by omega)) ?_); (refine su (ap_load_w (by exact rq_p rfl rfl) (by exact rfl)) ?_); (refine su (ap_not (by exact rq_p rfl rfl)) ?_); (refine su (ap_move (by exact rq_p rfl rfl)) ?_); (refine sg (by exact gq_vf rfl rfl) (fun he => ap_field_p (by exact rq_p rfl rfl) (by exact rfl) (by exact rfl)) ?_); (refine sg (by exact gq_vf rfl rfl) (fun he => ap_load_p (by exact rq_c rfl rfl) (by exact rfl) (by exact rfl) (by exact rfl)) ?_); (refine sg (by exact gq_vf rfl rfl) (fun he => ap_move (by exact rq_p rfl rfl)) ?_); (refine sg_p (by exact gq_vf rfl rfl) (fun he => ⟨(by exact rq_p rfl rfl), (RqL.cons (by exact rq_c rfl rfl) (RqL.cons (by exact rq_c rfl rfl) (RqL.nil))), (by repeat' first | exact SubL.nil | refine SubL.cons ?_ ?_ | exact Sub.refl), (by first | (simp [bdL, bdL_append, AV.bd]; done) | fail), works_fn _ _ (by assumption)⟩) ?_); (refine sg (by exact gq_vf rfl rfl) (fun he => ap_not (by exact rq_c rfl rfl)) ?_); (refine su (ap_or (by exact rq_p rfl rfl) (by exact rq_c rfl rfl)) ?_); refine asemC_end ?_) | (refine WP.regionC (id := 32) ?_; (refine su (ap_add (by exact rq_p rfl rfl) (by exact rq_p rfl rfl) (by exact inr_i64_of (by omega))) ?_); (refine su (ap_move (by exact rq_p rfl rfl)) ?_); refine asemC_end ?_)))
      · refine ⟨i + 1, ⟨by omega, by omega⟩, ?_⟩
        have hk : keepR (prodG g) use (nth g.rules i) = false := by unfold keepR; rcases hc with hc | hc <;> simp [hc]
        rw [rules_no hk, from_no hk]
        exact ⟨[0, 1, 2, 3, 4, 5, 6], ToR.S rfl (by repeat' (first | exact rt_nil | refine rt_r (by exact rfl) (by exact rfl) ?_ | refine rt_t (by exact rfl) (by exact rfl) ?_ | refine rt_m (by exact rfl) (by exact rfl) ?_ | refine rt_e (by exact rfl) (by exact rfl) ?_ | refine rt_p (by exact rfl) (by exact rfl) (by first | (simp [AV.bd, bdL, bdL_append]; done) | fail) ?_)) (by repeat' (first | exact ro_nil | refine ro_e (by exact rfl) (by exact rfl) ?_ | refine ro_p (by exact rfl) (by first | exact rfl | fail) (by first | exact bdL_map (fun _ => by first | exact rfl | simp [AV.bd, bdL, bdL_append]) _ | (simp [bdL, bdL_append, AV.bd]; done) | fail) ?_ | refine ro_m (by exact rfl) (by exact rfl) (mapA_bd (fun _ => by exact rfl) _) ?_ | refine ro_e (by exact rfl) (by simp only [renL, AV.ren, ren_strsA, ren_intsA]; exact rfl) ?_)) (by decide) (by (rw [hm]; exact rfl)) (by exact rfl) (by (simp [bdT, AV.bd, bdL, bdL_append]; done)) (by repeat' (first | exact True.intro | exact rfl | exact mapA_all (fun _ => by exact rfl) _ | refine And.intro ?_ ?_ | exact bdL_map (fun _ => by first | exact rfl | simp [AV.bd, bdL, bdL_append]) _ | (simp [bdOq, bdL, bdL_append, AV.bd]; done))) (by (rw [hm]; exact Nat.le_of_ble_eq_true rfl))⟩
      have hk : keepR (prodG g) use (nth g.rules i) = true := by unfold keepR; simp [hc]
      (repeat' (first | refine WP.seq ?_ | refine go_n ?_ | (refine WP.regionC (id := 22) ?_; (refine su (ap_move (by exact rq_p rfl rfl)) ?_); (refine su (ap_field_p (by exact rq_p rfl rfl) (by exact rfl) (by exact rfl)) ?_); (refine su (ap_load_p (by exact rq_p rfl rfl) (by exact rfl) (by exact rfl) (by exact rfl)) ?_); (refine su (ap_look (kf := intK) (by exact rq_p rfl rfl) (by exact rfl) (by exact rq_p rfl rfl) (by exact rfl)) ?_); (refine su (ap_field_p (by exact rq_p rfl rfl) (by exact rfl) (by exact rfl)) ?_); (refine su (ap_load_p (by exact rq_p rfl rfl) (by exact rfl) (by exact rfl) (by exact rfl)) ?_); (refine su (ap_build (RqP.cons (by exact rq_p rfl rfl) (RqP.cons (by exact rq_p rfl rfl) (RqP.nil))) (by exact rfl)) ?_); (refine se_alloc (by exact rfl) ?_); (refine se_store_b (by exact rfl) (by exact rfl) (by exact rfl) (by exact rfl) ?_); refine asemC_end ?_)))
      rw [hnv]
      refine wp_nilo 8 1 1 (by exact rfl) (by exact rfl) ?_
      (repeat' (first | refine WP.block ?_ | refine go_n ?_ | (refine WP.regionC (id := 23) ?_; (refine su (ap_field_p (by exact rq_p rfl rfl) (by exact rfl) (by exact rfl)) ?_); (refine su (ap_load_p (by exact rq_p rfl rfl) (by exact rfl) (by exact rfl) (by exact rfl)) ?_); (refine su (ap_len_m (by exact rfl) (by exact rq_p rfl rfl)) ?_); (refine su (ap_move (by exact rq_p rfl rfl)) ?_); refine asemC_end ?_)))
      refine wp_loop (fun (k : Nat) => k ≤ (nth g.rules i).body.length) (fun k => (nth g.rules i).body.length - k)
        (fun k => (S 129 [(2, .ptr 1 4 0 0), (5, boolsA (prodG g)), (6, boolsA use), (7, .map 2), (8, .ptr 3 4 0 0), (11, .ref 6 1 0 (fromTo g (prodG g) use i).length), (12, intA (i : Nat)), (14, .ptr 7 3 0 0), (68, rulesA g.rules), (69, intA (g.rules.length : Nat)), (70, intA (i : Nat)), (96, intsA (nth g.rules i).body), (97, intA ((nth g.rules i).body.length : Nat)), (98, intA (k : Nat))] 9 [(0, some (.arr 4 [gramA g])), (1, some (.arr 4 [zgA])), (2, some (.map (mapA intK intA m))), (3, some (.arr 4 [.agg [strsA g.terms, .ref 4 1 0 (namesTo g use g.nonterms.length).length, intA (numB use g.start.toNat : Nat), .ref 5 3 0 (rulesTo g (prodG g) use i).length]])), (4, some (.arr 1 ((namesTo g use g.nonterms.length).map strA))), (5, some (.arr 3 ((rulesTo g (prodG g) use i).map ruleA))), (6, some (.arr 1 ((fromTo g (prodG g) use i).map intA))), (7, some (.arr 3 [.agg [intA (numB use (nth g.rules i).head.toNat : Nat), .ref 8 1 0 (bodyTo use (nth g.rules i) k).length, intA (nth g.rules i).price]])), (8, some (.arr 1 ((bodyTo use (nth g.rules i) k).map intA)))])) 0 ⟨[0, 1, 2, 3, 4, 5, 6, 8, 9], ToR.S rfl (by repeat' (first | exact rt_nil | refine rt_r (by exact rfl) (by exact rfl) ?_ | refine rt_t (by exact rfl) (by exact rfl) ?_ | refine rt_m (by exact rfl) (by exact rfl) ?_ | refine rt_e (by exact rfl) (by exact rfl) ?_ | refine rt_p (by exact rfl) (by exact rfl) (by first | (simp [AV.bd, bdL, bdL_append]; done) | fail) ?_)) (by repeat' (first | exact ro_nil | refine ro_e (by exact rfl) (by exact rfl) ?_ | refine ro_p (by exact rfl) (by first | exact rfl | fail) (by first | exact bdL_map (fun _ => by first | exact rfl | simp [AV.bd, bdL, bdL_append]) _ | (simp [bdL, bdL_append, AV.bd]; done) | fail) ?_ | refine ro_m (by exact rfl) (by exact rfl) (mapA_bd (fun _ => by exact rfl) _) ?_ | refine ro_e (by exact rfl) (by simp only [renL, AV.ren, ren_strsA, ren_intsA]; exact rfl) ?_)) (by decide) (by (rw [hm]; exact rfl)) (by exact rfl) (by (simp [bdT, AV.bd, bdL, bdL_append]; done)) (by repeat' (first | exact True.intro | exact rfl | exact mapA_all (fun _ => by exact rfl) _ | refine And.intro ?_ ?_ | exact bdL_map (fun _ => by first | exact rfl | simp [AV.bd, bdL, bdL_append]) _ | (simp [bdOq, bdL, bdL_append, AV.bd]; done))) (by (rw [hm]; exact Nat.le_of_ble_eq_true rfl))⟩ (Nat.zero_le _) ?_
      rintro k hk2
      have hbl := bodyTo_len (use := use) hk2
      by_cases hkl : k < (nth g.rules i).body.length
      · have hxl := hlo' _ (nth_mem hkl)
        (repeat' (first | refine WP.seq ?_ | refine WP.block ?_ | refine go_n ?_ | refine WP.skip ?_ | refine bl_n ?_ | (refine wp_cond (by exact rfl) (fun hc => ?_) (fun hc => ?_) <;> (try simp only [decide_eq_true_eq, decide_eq_false_iff_not, Decidable.not_not, Bool.and_eq_true, Bool.or_eq_true, Bool.not_eq_true', Bool.not_eq_false', Bool.or_eq_false_iff, Bool.and_eq_false_iff, Int.not_lt, Int.not_le, reduceCtorEq, ne_eq, Bool.not_true, Bool.not_false, Bool.not_eq_true, Bool.not_eq_false] at hc) <;> (try (exfalso; omega))) | (refine WP.regionC (id := 24) ?_; (refine su (ap_lss (by exact rq_p rfl rfl) (by exact rq_p rfl rfl)) ?_); refine asemC_end ?_) | (refine WP.regionC (id := 25) ?_; (refine su (ap_idx_n (by exact rq_p rfl rfl) (by exact rq_p rfl rfl) (by omega)) ?_); (refine su (ap_load_w (by exact rq_p rfl rfl) (by exact rfl)) ?_); (refine su (ap_assign (by exact rq_p rfl rfl)) ?_); refine asemC_end ?_) | (refine WP.regionC (id := 26) ?_; (refine su (ap_move (by exact rq_p rfl rfl)) ?_); (refine su (ap_lss (by exact rq_p rfl rfl) (by exact rq_p rfl rfl)) ?_); refine asemC_end ?_) | (refine WP.regionC (id := 28) ?_; (refine su (ap_field_p (by exact rq_p rfl rfl) (by exact rfl) (by exact rfl)) ?_); (refine su (ap_load_p (by exact rq_p rfl rfl) (by exact rfl) (by exact rfl) (by exact rfl)) ?_); (refine su (ap_move (by exact rq_p rfl rfl)) ?_); (refine se_lit (OpP.cons (by exact rfl) (OpP.nil)) (by exact rfl) (by exact rfl) (by exact rfl) (by exact rfl) (by exact rfl) (by exact rfl) ?_); (refine se_app1 (by exact rfl) (by exact rfl) (by exact rfl) (by exact rfl) (by exact rfl) (by exact rfl) (by exact rfl) (by exact rfl) (by omega) ?_); (refine su (ap_field_p (by exact rq_p rfl rfl) (by exact rfl) (by exact rfl)) ?_); (refine se_store_b (by exact rfl) (by exact rfl) (by exact rfl) (by exact rfl) ?_); refine asemC_end ?_) | (refine WP.regionC (id := 29) ?_; (refine su (ap_add (by exact rq_p rfl rfl) (by exact rq_p rfl rfl) (by exact inr_i64_of (by omega))) ?_); (refine su (ap_move (by exact rq_p rfl rfl)) ?_); refine asemC_end ?_)))
        · have hnx := hm1 (-1 - nth (nth g.rules i).body k) (by omega) (by omega)
          have hle := cntB_le use (-1 - nth (nth g.rules i).body k).toNat
          have hn0 : 0 ≤ (aget m (-1 - nth (nth g.rules i).body k)).getD 0 := by rw [hnx]; omega
          have hn1 : (aget m (-1 - nth (nth g.rules i).body k)).getD 0 ≤ 120 := by rw [hnx, numB]; split <;> omega
          (repeat' (first | refine go_n ?_ | refine bl_n ?_ | (refine WP.regionC (id := 27) ?_; (refine su (ap_move (by exact rq_p rfl rfl)) ?_); (refine su (ap_move (by exact rq_p rfl rfl)) ?_); (refine su (ap_sub (by exact rq_p rfl rfl) (by exact rq_p rfl rfl) (by exact inr_i64_of (by omega))) ?_); (refine su (ap_look (kf := intK) (by exact rq_p rfl rfl) (by exact rfl) (by exact rq_p rfl rfl) (by exact rfl)) ?_); (refine su (ap_sub (by exact rq_p rfl rfl) (by exact rq_p rfl rfl) (by exact inr_i64_of (by omega))) ?_); (refine su (ap_assign (by exact rq_p rfl rfl)) ?_); refine asemC_end ?_) | (refine WP.regionC (id := 28) ?_; (refine su (ap_field_p (by exact rq_p rfl rfl) (by exact rfl) (by exact rfl)) ?_); (refine su (ap_load_p (by exact rq_p rfl rfl) (by exact rfl) (by exact rfl) (by exact rfl)) ?_); (refine su (ap_move (by exact rq_p rfl rfl)) ?_); (refine se_lit (OpP.cons (by exact rfl) (OpP.nil)) (by exact rfl) (by exact rfl) (by exact rfl) (by exact rfl) (by exact rfl) (by exact rfl) ?_); (refine se_app1 (by exact rfl) (by exact rfl) (by exact rfl) (by exact rfl) (by exact rfl) (by exact rfl) (by exact rfl) (by exact rfl) (by omega) ?_); (refine su (ap_field_p (by exact rq_p rfl rfl) (by exact rfl) (by exact rfl)) ?_); (refine se_store_b (by exact rfl) (by exact rfl) (by exact rfl) (by exact rfl) ?_); refine asemC_end ?_) | (refine WP.regionC (id := 29) ?_; (refine su (ap_add (by exact rq_p rfl rfl) (by exact rq_p rfl rfl) (by exact inr_i64_of (by omega))) ?_); (refine su (ap_move (by exact rq_p rfl rfl)) ?_); refine asemC_end ?_)))
          refine ⟨k + 1, ⟨by omega, by omega⟩, ?_⟩
          rw [bodyTo_neg hkl hc, ← hnx]
          exact ⟨[0, 1, 2, 3, 4, 5, 6, 7, 10], ToR.S rfl (by repeat' (first | exact rt_nil | refine rt_r (by exact rfl) (by exact rfl) ?_ | refine rt_t (by exact rfl) (by exact rfl) ?_ | refine rt_m (by exact rfl) (by exact rfl) ?_ | refine rt_e (by exact rfl) (by exact rfl) ?_ | refine rt_p (by exact rfl) (by exact rfl) (by first | (simp [AV.bd, bdL, bdL_append]; done) | fail) ?_)) (by repeat' (first | exact ro_nil | refine ro_e (by exact rfl) (by exact rfl) ?_ | refine ro_p (by exact rfl) (by first | exact rfl | fail) (by first | exact bdL_map (fun _ => by first | exact rfl | simp [AV.bd, bdL, bdL_append]) _ | (simp [bdL, bdL_append, AV.bd]; done) | fail) ?_ | refine ro_m (by exact rfl) (by exact rfl) (mapA_bd (fun _ => by exact rfl) _) ?_ | refine ro_e (by exact rfl) (by simp only [renL, AV.ren, ren_strsA, ren_intsA]; exact rfl) ?_)) (by decide) (by (rw [hm]; exact rfl)) (by exact rfl) (by (simp [bdT, AV.bd, bdL, bdL_append]; done)) (by repeat' (first | exact True.intro | exact rfl | exact mapA_all (fun _ => by exact rfl) _ | refine And.intro ?_ ?_ | exact bdL_map (fun _ => by first | exact rfl | simp [AV.bd, bdL, bdL_append]) _ | (simp [bdOq, bdL, bdL_append, AV.bd]; done))) (by (rw [hm]; exact Nat.le_of_ble_eq_true rfl))⟩
        · refine ⟨k + 1, ⟨by omega, by omega⟩, ?_⟩
          rw [bodyTo_pos hkl hc]
          exact ⟨[0, 1, 2, 3, 4, 5, 6, 7, 10], ToR.S rfl (by repeat' (first | exact rt_nil | refine rt_r (by exact rfl) (by exact rfl) ?_ | refine rt_t (by exact rfl) (by exact rfl) ?_ | refine rt_m (by exact rfl) (by exact rfl) ?_ | refine rt_e (by exact rfl) (by exact rfl) ?_ | refine rt_p (by exact rfl) (by exact rfl) (by first | (simp [AV.bd, bdL, bdL_append]; done) | fail) ?_)) (by repeat' (first | exact ro_nil | refine ro_e (by exact rfl) (by exact rfl) ?_ | refine ro_p (by exact rfl) (by first | exact rfl | fail) (by first | exact bdL_map (fun _ => by first | exact rfl | simp [AV.bd, bdL, bdL_append]) _ | (simp [bdL, bdL_append, AV.bd]; done) | fail) ?_ | refine ro_m (by exact rfl) (by exact rfl) (mapA_bd (fun _ => by exact rfl) _) ?_ | refine ro_e (by exact rfl) (by simp only [renL, AV.ren, ren_strsA, ren_intsA]; exact rfl) ?_)) (by decide) (by (rw [hm]; exact rfl)) (by exact rfl) (by (simp [bdT, AV.bd, bdL, bdL_append]; done)) (by repeat' (first | exact True.intro | exact rfl | exact mapA_all (fun _ => by exact rfl) _ | refine And.intro ?_ ?_ | exact bdL_map (fun _ => by first | exact rfl | simp [AV.bd, bdL, bdL_append]) _ | (simp [bdOq, bdL, bdL_append, AV.bd]; done))) (by (rw [hm]; exact Nat.le_of_ble_eq_true rfl))⟩
      · (repeat' (first | refine WP.seq ?_ | refine go_n ?_ | refine WP.exit ?_ | refine go_x ?_ | refine bl_x ?_ | (refine wp_cond (by exact rfl) (fun hc => ?_) (fun hc => ?_) <;> (try simp only [decide_eq_true_eq, decide_eq_false_iff_not, Decidable.not_not, Bool.and_eq_true, Bool.or_eq_true, Bool.not_eq_true', Bool.not_eq_false', Bool.or_eq_false_iff, Bool.and_eq_false_iff, Int.not_lt, Int.not_le, reduceCtorEq, ne_eq, Bool.not_true, Bool.not_false, Bool.not_eq_true, Bool.not_eq_false] at hc) <;> (try (exfalso; omega))) | (refine WP.regionC (id := 24) ?_; (refine su (ap_lss (by exact rq_p rfl rfl) (by exact rq_p rfl rfl)) ?_); refine asemC_end ?_)))
        refine wp_frzo (id := 8) (k := 1) (f := intA) (L := bodyTo use (nth g.rules i) k) 7 1 hm (by exact rfl) (by exact rfl) (by exact rfl) (by exact rfl) (by exact rfl) (fun _ => rfl) (fun _ => rfl) ?_
        rw [bodyTo_all (by omega)]
        (repeat' (first | refine go_n ?_ | refine bl_n ?_ | (refine WP.regionC (id := 30) ?_; (refine su (ap_field_p (by exact rq_p rfl rfl) (by exact rfl) (by exact rfl)) ?_); (refine su (ap_load_p (by exact rq_p rfl rfl) (by exact rfl) (by exact rfl) (by exact rfl)) ?_); (refine su (ap_load_pw (by exact rq_p rfl rfl) (by exact rfl) (by exact rfl) (by exact rfl)) ?_); (refine se_lit (OpP.cons (by exact rfl) (OpP.nil)) (by exact rfl) (by exact rfl) (by exact rfl) (by exact rfl) (by exact rfl) (by exact rfl) ?_); (refine se_app1R (by exact rfl) (by exact rfl) (by exact rfl) (by exact rfl) (by exact rfl) (by exact rfl) (by exact rfl) (by exact rfl) (by omega) ?_); (refine su (ap_field_p (by exact rq_p rfl rfl) (by exact rfl) (by exact rfl)) ?_); (refine se_store_b (by exact rfl) (by exact rfl) (by exact rfl) (by exact rfl) ?_); refine asemC_end ?_) | (refine WP.regionC (id := 31) ?_; (refine su (ap_move (by exact rq_p rfl rfl)) ?_); (refine su (ap_move (by exact rq_p rfl rfl)) ?_); (refine se_lit (OpP.cons (by exact rfl) (OpP.nil)) (by exact rfl) (by exact rfl) (by exact rfl) (by exact rfl) (by exact rfl) (by exact rfl) ?_); (refine se_app1 (by exact rfl) (by exact rfl) (by exact rfl) (by exact rfl) (by exact rfl) (by exact rfl) (by exact rfl) (by exact rfl) (by omega) ?_); (refine su (ap_assign (by exact rq_p rfl rfl)) ?_); refine asemC_end ?_) | (refine WP.regionC (id := 32) ?_; (refine su (ap_add (by exact rq_p rfl rfl) (by exact rq_p rfl rfl) (by exact inr_i64_of (by omega))) ?_); (refine su (ap_move (by exact rq_p rfl rfl)) ?_); refine asemC_end ?_)))
        refine ⟨i + 1, ⟨by omega, by omega⟩, ?_⟩
        have hrx : mapRul use (nth g.rules i) = ⟨numB use (nth g.rules i).head.toNat, (nth g.rules i).body.map (mapSym use), (nth g.rules i).price⟩ := rfl
        rw [rules_yes hk, from_yes hk, hrx]
        exact ⟨[0, 1, 2, 3, 4, 10, 12], ToR.S rfl (by repeat' (first | exact rt_nil | refine rt_r (by exact rfl) (by exact rfl) ?_ | refine rt_t (by exact rfl) (by exact rfl) ?_ | refine rt_m (by exact rfl) (by exact rfl) ?_ | refine rt_e (by exact rfl) (by exact rfl) ?_ | refine rt_p (by exact rfl) (by exact rfl) (by first | (simp [AV.bd, bdL, bdL_append]; done) | fail) ?_)) (by repeat' (first | exact ro_nil | refine ro_e (by exact rfl) (by exact rfl) ?_ | refine ro_p (by exact rfl) (by first | exact rfl | fail) (by first | exact bdL_map (fun _ => by first | exact rfl | simp [AV.bd, bdL, bdL_append]) _ | (simp [bdL, bdL_append, AV.bd]; done) | fail) ?_ | refine ro_m (by exact rfl) (by exact rfl) (mapA_bd (fun _ => by exact rfl) _) ?_ | refine ro_e (by exact rfl) (by simp only [renL, AV.ren, ren_strsA, ren_intsA]; exact rfl) ?_)) (by decide) (by (rw [hm]; exact rfl)) (by exact rfl) (by (simp [bdT, AV.bd, bdL, bdL_append]; done)) (by repeat' (first | exact True.intro | exact rfl | exact mapA_all (fun _ => by exact rfl) _ | refine And.intro ?_ ?_ | exact bdL_map (fun _ => by first | exact rfl | simp [AV.bd, bdL, bdL_append]) _ | (simp [bdOq, bdL, bdL_append, AV.bd]; done))) (by (rw [hm]; exact Nat.le_of_ble_eq_true rfl))⟩
    · obtain rfl : i = g.rules.length := by omega
      (repeat' (first | refine WP.seq ?_ | refine go_n ?_ | refine WP.exit ?_ | refine WP.ret ?_ | refine go_x ?_ | refine bl_x ?_ | refine bo_r ?_ | (refine wp_cond (by exact rfl) (fun hc => ?_) (fun hc => ?_) <;> (try simp only [decide_eq_true_eq, decide_eq_false_iff_not, Decidable.not_not, Bool.and_eq_true, Bool.or_eq_true, Bool.not_eq_true', Bool.not_eq_false', Bool.or_eq_false_iff, Bool.and_eq_false_iff, Int.not_lt, Int.not_le, reduceCtorEq, ne_eq, Bool.not_true, Bool.not_false, Bool.not_eq_true, Bool.not_eq_false] at hc) <;> (try (exfalso; omega))) | (refine WP.regionC (id := 19) ?_; (refine su (ap_lss (by exact rq_p rfl rfl) (by exact rq_p rfl rfl)) ?_); refine asemC_end ?_) | (refine WP.regionC (id := 33) ?_; (refine su (ap_load_pw (by exact rq_p rfl rfl) (by exact rfl) (by exact rfl) (by exact rfl)) ?_); (refine su (ap_move (by exact rq_p rfl rfl)) ?_); (refine se_store_b (by exact rfl) (by exact rfl) (by exact rfl) (by exact rfl) ?_); (refine su (ap_assign (by exact rq_p rfl rfl)) ?_); (refine su (ap_assign (by exact rq_p rfl rfl)) ?_); refine asemC_end ?_)))
      rw [reduceA_0 hval hpr, hU]
      exact ret_many (xs := [.agg [strsA g.terms, .ref 4 1 0 (namesTo g use g.nonterms.length).length, intA (numB use g.start.toNat : Nat), .ref 5 3 0 (rulesTo g (prodG g) use g.rules.length).length], .ref 6 1 0 (fromTo g (prodG g) use g.rules.length).length, .val (.int .i64 0)]) (.cellT (by exact rfl) (by exact rfl) (by exact rfl) (by exact rfl) (.tmp (by exact rfl) (.tmp (by exact rfl) .nil))) (by simp) (by repeat' first | exact FzL.nil | refine FzL.cons ?_ ?_ | (exact Fz.list (by exact rfl) (by exact rfl) (fun _ => by simp [AV.bd, bdL, bdL_append]) (fun _ => rfl)) | (exact Fz.reflp (by simp [AV.bd, bdL, bdL_append])) | refine Fz.aggL ?_)
  · have hv0 : validG g = false := by simpa using hval
    (repeat' (first | refine WP.seq ?_ | refine go_n ?_ | refine WP.skip ?_ | refine WP.ret ?_ | refine go_r ?_ | refine bo_r ?_ | (refine wp_cond (by exact rfl) (fun hc => ?_) (fun hc => ?_) <;> (try simp only [decide_eq_true_eq, decide_eq_false_iff_not, Decidable.not_not, Bool.and_eq_true, Bool.or_eq_true, Bool.not_eq_true', Bool.not_eq_false', Bool.or_eq_false_iff, Bool.and_eq_false_iff, Int.not_lt, Int.not_le, reduceCtorEq, ne_eq, Bool.not_true, Bool.not_false, Bool.not_eq_true, Bool.not_eq_false] at hc) <;> (try (exfalso; omega))) | (refine WP.regionC (id := 0) ?_; (refine se_box (by exact rfl) (by exact ⟨rfl, rfl⟩) ?_); (refine se_alloc (by exact rfl) ?_); (refine su (ap_assign (by exact rq_p rfl rfl)) ?_); (refine su (ap_assign (by exact rq_p rfl rfl)) ?_); refine asemC_end ?_) | (refine WP.regionC (id := 1) ?_; (refine su (ap_load_pw (by exact rq_p rfl rfl) (by exact rfl) (by exact rfl) (by exact rfl)) ?_); (refine sc_p rfl rfl (by repeat' first | exact SubL.nil | refine SubL.cons ?_ ?_ | exact Sub.refl) (by first | (simp [bdL, bdL_append, AV.bd]; done) | fail) (gvalid_fn _) ?_); (refine su (ap_not (by exact rq_p rfl rfl)) ?_); refine asemC_end ?_) | (refine WP.regionC (id := 2) ?_; (refine su (ap_build (RqP.nil) (by exact rfl)) ?_); (refine se_store_b (by exact rfl) (by exact rfl) (by exact rfl) (by exact rfl) ?_); (refine su (ap_assign (by exact rq_p rfl rfl)) ?_); (refine su (ap_assign (by exact rq_p rfl rfl)) ?_); refine asemC_end ?_)))
    · rw [reduceA_1 hv0]
      exact ret_many (.cellT (by exact rfl) (by exact rfl) (by exact rfl) (by exact rfl) (.tmp (by exact rfl) (.tmp (by exact rfl) .nil))) (by decide) (by repeat' first | exact FzL.nil | refine FzL.cons ?_ ?_ | exact Fz.nil | (exact Fz.reflp (by simp [AV.bd, bdL, bdL_append])) | refine Fz.aggL ?_)
    · rw [hv0] at hc; cases hc
end Go.Lg

/- the law's second half: awake -/
namespace Go.Lg
open Go.Proofs
set_option linter.unusedSimpArgs false
set_option linter.unusedVariables false
attribute [local irreducible] Ap Rq asemC WP RunD Ret Gq thenA inBlockA bodyQ noGotoA RqL RqP OpP
set_option maxHeartbeats 8000000

def b1 (n : UInt8) : ByteArray := ⟨#[n]⟩
def awkG : Gram := ⟨[b1 97, b1 98, b1 99, b1 100], [b1 83, b1 66, b1 67, b1 68], 0, [⟨0, [0, -2], 0⟩, ⟨0, [-3], 0⟩, ⟨1, [1], 7⟩, ⟨2, [-3, 2], 0⟩, ⟨3, [3], 0⟩]⟩
def awkW : Gram := ⟨[b1 97, b1 98, b1 99, b1 100], [b1 83, b1 66], 0, [⟨0, [0, -2], 0⟩, ⟨1, [1], 7⟩]⟩
theorem awk_red : reduceR awkG = (awkW, [0, 2], 0) := by decide +kernel
theorem awk_red2 : reduceR { awkG with start := 2 } = (emptyG, [], 10) := by decide +kernel
theorem awk_redA : reduceA awkG = .tup [gramA awkW, intsA [0, 2], intA 0] := by rw [reduceA, awk_red]
theorem awk_redA2 : reduceA { awkG with start := 2 } = .tup [gramA emptyG, intsA [], intA 10] := by rw [reduceA, awk_red2]

def awkG2 : Gram := { awkG with start := 2 }
theorem awk1_fn : Fn Try.prog 10 [gramA awkG] (.tup [gramA awkW, intsA [0, 2], intA 0]) := awk_redA ▸ reduce_fn awkG
theorem awk2_fn : Fn Try.prog 10 [gramA awkG2] (.tup [gramA emptyG, intsA [], intA 10]) := awk_redA2 ▸ reduce_fn awkG2

theorem awake_fn : Fn Try.prog 9 [] (boolA true) := by
  refine Fn.intro (by exact rfl) (by kernel_rfl) Try.func9 rfl rfl Try.ntmps9 (by exact Nat.le_of_ble_eq_true rfl) ?_; intro Γ hm
  (repeat' (first | refine WP.seq ?_ | refine go_n ?_ | (refine WP.regionC (id := 0) ?_; (refine su (ap_assign (by exact rq_p rfl rfl)) ?_); refine asemC_end ?_) | (refine WP.regionC (id := 1) ?_; (refine se_lit (OpP.cons (by exact rfl) (OpP.cons (by exact rfl) (OpP.cons (by exact rfl) (OpP.cons (by exact rfl) (OpP.nil))))) (by exact rfl) (by exact rfl) (by exact rfl) (by exact rfl) (by exact rfl) (by exact rfl) ?_); (refine se_lit (OpP.cons (by exact rfl) (OpP.cons (by exact rfl) (OpP.cons (by exact rfl) (OpP.cons (by exact rfl) (OpP.nil))))) (by exact rfl) (by exact rfl) (by exact rfl) (by exact rfl) (by exact rfl) (by exact rfl) ?_); (refine se_lit (OpP.cons (by exact rfl) (OpP.cons (by exact rfl) (OpP.nil))) (by exact rfl) (by exact rfl) (by exact rfl) (by exact rfl) (by exact rfl) (by exact rfl) ?_); (refine su (ap_build (RqP.cons (by exact rq_p rfl rfl) (RqP.cons (by exact rq_p rfl rfl) (RqP.nil))) (by exact rfl)) ?_); (refine se_lit (OpP.cons (by exact rfl) (OpP.nil)) (by exact rfl) (by exact rfl) (by exact rfl) (by exact rfl) (by exact rfl) (by exact rfl) ?_); (refine su (ap_build (RqP.cons (by exact rq_p rfl rfl) (RqP.cons (by exact rq_p rfl rfl) (RqP.nil))) (by exact rfl)) ?_); (refine se_lit (OpP.cons (by exact rfl) (OpP.nil)) (by exact rfl) (by exact rfl) (by exact rfl) (by exact rfl) (by exact rfl) (by exact rfl) ?_); (refine su (ap_build (RqP.cons (by exact rq_p rfl rfl) (RqP.cons (by exact rq_p rfl rfl) (RqP.cons (by exact rq_p rfl rfl) (RqP.nil)))) (by exact rfl)) ?_); (refine se_lit (OpP.cons (by exact rfl) (OpP.cons (by exact rfl) (OpP.nil))) (by exact rfl) (by exact rfl) (by exact rfl) (by exact rfl) (by exact rfl) (by exact rfl) ?_); (refine su (ap_build (RqP.cons (by exact rq_p rfl rfl) (RqP.cons (by exact rq_p rfl rfl) (RqP.nil))) (by exact rfl)) ?_); (refine se_lit (OpP.cons (by exact rfl) (OpP.nil)) (by exact rfl) (by exact rfl) (by exact rfl) (by exact rfl) (by exact rfl) (by exact rfl) ?_); (refine su (ap_build (RqP.cons (by exact rq_p rfl rfl) (RqP.cons (by exact rq_p rfl rfl) (RqP.nil))) (by exact rfl)) ?_); (refine se_lit (OpP.cons (by exact rfl) (OpP.cons (by exact rfl) (OpP.cons (by exact rfl) (OpP.cons (by exact rfl) (OpP.cons (by exact rfl) (OpP.nil)))))) (by exact rfl) (by exact rfl) (by exact rfl) (by exact rfl) (by exact rfl) (by exact rfl) ?_); (refine su (ap_build (RqP.cons (by exact rq_p rfl rfl) (RqP.cons (by exact rq_p rfl rfl) (RqP.cons (by exact rq_p rfl rfl) (RqP.nil)))) (by exact rfl)) ?_); (refine se_alloc (by exact rfl) ?_); (refine se_store_b (by exact rfl) (by exact rfl) (by exact rfl) (by exact rfl) ?_); refine asemC_end ?_)))
  refine wp_frzx (id := 2) (k := 1) (f := intA) (L := [0, -2]) 7 1 [] _ hm (by exact rfl) (by exact rfl) (by exact rfl) (by exact rfl) (by exact rfl) (fun _ => rfl) (fun _ => rfl) ?_
  refine wp_frzx (id := 3) (k := 1) (f := intA) (L := [-3]) 7 1 [ruleA ⟨0, [0, -2], 0⟩] _ hm (by exact rfl) (by exact rfl) (by exact rfl) (by exact rfl) (by exact rfl) (fun _ => rfl) (fun _ => rfl) ?_
  refine wp_frzx (id := 4) (k := 1) (f := intA) (L := [1]) 7 1 [ruleA ⟨0, [0, -2], 0⟩, ruleA ⟨0, [-3], 0⟩] _ hm (by exact rfl) (by exact rfl) (by exact rfl) (by exact rfl) (by exact rfl) (fun _ => rfl) (fun _ => rfl) ?_
  refine wp_frzx (id := 5) (k := 1) (f := intA) (L := [-3, 2]) 7 1 [ruleA ⟨0, [0, -2], 0⟩, ruleA ⟨0, [-3], 0⟩, ruleA ⟨1, [1], 7⟩] _ hm (by exact rfl) (by exact rfl) (by exact rfl) (by exact rfl) (by exact rfl) (fun _ => rfl) (fun _ => rfl) ?_
  refine wp_frzx (id := 6) (k := 1) (f := intA) (L := [3]) 7 1 [ruleA ⟨0, [0, -2], 0⟩, ruleA ⟨0, [-3], 0⟩, ruleA ⟨1, [1], 7⟩, ruleA ⟨2, [-3, 2], 0⟩] _ hm (by exact rfl) (by exact rfl) (by exact rfl) (by exact rfl) (by exact rfl) (fun _ => rfl) (fun _ => rfl) ?_
  refine wp_frzo (id := 0) (k := 1) (f := strA) (L := awkG.terms) 8 0 hm (by exact rfl) (by exact rfl) (by exact rfl) (by exact rfl) (by exact rfl) (fun _ => rfl) (fun _ => rfl) ?_
  refine wp_frzo (id := 1) (k := 1) (f := strA) (L := awkG.nonterms) 8 1 hm (by exact rfl) (by exact rfl) (by exact rfl) (by exact rfl) (by exact rfl) (fun _ => rfl) (fun _ => rfl) ?_
  refine wp_frzo (id := 7) (k := 3) (f := ruleA) (L := awkG.rules) 8 3 hm (by exact rfl) (by exact rfl) (by exact rfl) (by exact rfl) (by exact rfl) (fun _ => by simp) (fun _ => rfl) ?_
  refine wp_st (S 61 [(1, .ptr 0 4 0 0)] 1 [(0, some (.arr 4 [gramA awkG]))]) ⟨[8], ToR.S rfl (by repeat' (first | exact rt_nil | refine rt_t (by exact rfl) (by exact rfl) ?_)) (by repeat' (first | exact ro_nil | refine ro_e (by exact rfl) (by exact rfl) ?_)) (by decide) (by (rw [hm]; exact rfl)) (by exact rfl) (by (simp [bdT, AV.bd, bdL, bdL_append]; done)) (by repeat' (first | exact True.intro | exact rfl | refine And.intro ?_ ?_)) (by (rw [hm]; exact Nat.le_of_ble_eq_true rfl))⟩ ?_
  (repeat' (first | refine WP.seq ?_ | refine go_n ?_ | (refine WP.regionC (id := 2) ?_; (refine su (ap_load_pw (by exact rq_p rfl rfl) (by exact rfl) (by exact rfl) (by exact rfl)) ?_); (refine sc_p rfl rfl (by repeat' first | exact SubL.nil | refine SubL.cons ?_ ?_ | exact Sub.refl) (by (simp [bdL, bdL_append, AV.bd]; done)) (reduce_fn _) ?_); (refine su (ap_move (by exact rq_p rfl rfl)) ?_); (refine su (ap_extract (by exact rq_p rfl rfl) (by exact rfl)) ?_); (refine su (ap_extract (by exact rq_p rfl rfl) (by exact rfl)) ?_); (refine su (ap_extract (by exact rq_p rfl rfl) (by exact rfl)) ?_); (refine se_alloc (by exact rfl) ?_); (refine se_store_b (by exact rfl) (by exact rfl) (by exact rfl) (by exact rfl) ?_); (refine su (ap_assign (by exact rq_p rfl rfl)) ?_); (refine su (ap_assign (by exact rq_p rfl rfl)) ?_); refine asemC_end ?_) | (refine WP.regionC (id := 3) ?_; (refine su (ap_field_p (by exact rq_p rfl rfl) (by exact rfl) (by exact rfl)) ?_); (refine su (ap_load_p (by exact rq_p rfl rfl) (by exact rfl) (by exact rfl) (by exact rfl)) ?_); (refine se_lit (OpP.cons (by exact rfl) (OpP.cons (by exact rfl) (OpP.nil))) (by exact rfl) (by exact rfl) (by exact rfl) (by exact rfl) (by exact rfl) (by exact rfl) ?_); (refine se_lit (OpP.cons (by exact rfl) (OpP.cons (by exact rfl) (OpP.nil))) (by exact rfl) (by exact rfl) (by exact rfl) (by exact rfl) (by exact rfl) (by exact rfl) ?_); (refine su (ap_build (RqP.cons (by exact rq_p rfl rfl) (RqP.cons (by exact rq_p rfl rfl) (RqP.nil))) (by exact rfl)) ?_); (refine se_lit (OpP.cons (by exact rfl) (OpP.nil)) (by exact rfl) (by exact rfl) (by exact rfl) (by exact rfl) (by exact rfl) (by exact rfl) ?_); (refine su (ap_build (RqP.cons (by exact rq_p rfl rfl) (RqP.cons (by exact rq_p rfl rfl) (RqP.cons (by exact rq_p rfl rfl) (RqP.nil)))) (by exact rfl)) ?_); (refine se_lit (OpP.cons (by exact rfl) (OpP.cons (by exact rfl) (OpP.nil))) (by exact rfl) (by exact rfl) (by exact rfl) (by exact rfl) (by exact rfl) (by exact rfl) ?_); (refine su (ap_build (RqP.cons (by exact rq_p rfl rfl) (RqP.cons (by exact rq_p rfl rfl) (RqP.cons (by exact rq_p rfl rfl) (RqP.nil)))) (by exact rfl)) ?_); (refine se_alloc (by exact rfl) ?_); (refine se_store_b (by exact rfl) (by exact rfl) (by exact rfl) (by exact rfl) ?_); refine asemC_end ?_)))
  refine wp_frzx (id := 3) (k := 1) (f := intA) (L := [0, -2]) 5 1 [] _ hm (by exact rfl) (by exact rfl) (by exact rfl) (by exact rfl) (by exact rfl) (fun _ => rfl) (fun _ => rfl) ?_
  refine wp_frzx (id := 4) (k := 1) (f := intA) (L := [1]) 5 1 [ruleA ⟨0, [0, -2], 0⟩] _ hm (by exact rfl) (by exact rfl) (by exact rfl) (by exact rfl) (by exact rfl) (fun _ => rfl) (fun _ => rfl) ?_
  refine wp_frzo (id := 2) (k := 1) (f := strA) (L := awkW.nonterms) 6 1 hm (by exact rfl) (by exact rfl) (by exact rfl) (by exact rfl) (by exact rfl) (fun _ => rfl) (fun _ => rfl) ?_
  refine wp_frzo (id := 5) (k := 3) (f := ruleA) (L := awkW.rules) 6 3 hm (by exact rfl) (by exact rfl) (by exact rfl) (by exact rfl) (by exact rfl) (fun _ => by simp) (fun _ => rfl) ?_
  refine wp_st (S 61 [(1, .ptr 0 4 0 0), (2, .ptr 1 4 0 0), (3, intsA [0, 2]), (4, intA 0), (5, .ptr 2 4 0 0)] 3 [(0, some (.arr 4 [gramA awkG])), (1, some (.arr 4 [gramA awkW])), (2, some (.arr 4 [gramA awkW]))]) ⟨[0, 1, 6], ToR.S rfl (by repeat' (first | exact rt_nil | refine rt_t (by exact rfl) (by exact rfl) ?_ | refine rt_e (by exact rfl) (by exact rfl) ?_)) (by repeat' (first | exact ro_nil | refine ro_e (by exact rfl) (by exact rfl) ?_)) (by decide) (by (rw [hm]; exact rfl)) (by exact rfl) (by (simp [bdT, AV.bd, bdL, bdL_append]; done)) (by repeat' (first | exact True.intro | exact rfl | refine And.intro ?_ ?_)) (by (rw [hm]; exact Nat.le_of_ble_eq_true rfl))⟩ ?_
  (repeat' (first | refine WP.seq ?_ | refine go_n ?_ | (refine WP.regionC (id := 4) ?_; (refine su (ap_field_p (by exact rq_p rfl rfl) (by exact rfl) (by exact rfl)) ?_); (refine se_store_b (by exact rfl) (by exact rfl) (by exact rfl) (by exact rfl) ?_); refine asemC_end ?_)))
  refine wp_st (S 61 [(1, .ptr 0 4 0 0), (2, .ptr 1 4 0 0), (3, intsA [0, 2]), (4, intA 0), (5, .ptr 2 4 0 0)] 3 [(0, some (.arr 4 [gramA awkG2])), (1, some (.arr 4 [gramA awkW])), (2, some (.arr 4 [gramA awkW]))]) ⟨[0, 1, 2], ToR.S rfl (by repeat' (first | exact rt_nil | refine rt_t (by exact rfl) (by exact rfl) ?_ | refine rt_e (by exact rfl) (by exact rfl) ?_)) (by repeat' (first | exact ro_nil | refine ro_e (by exact rfl) (by exact rfl) ?_)) (by decide) (by (rw [hm]; exact rfl)) (by exact rfl) (by (simp [bdT, AV.bd, bdL, bdL_append]; done)) (by repeat' (first | exact True.intro | exact rfl | refine And.intro ?_ ?_)) (by (rw [hm]; exact Nat.le_of_ble_eq_true rfl))⟩ ?_
  (repeat' (first | refine WP.seq ?_ | refine go_n ?_ | refine WP.ret ?_ | refine bo_r ?_ | (refine WP.regionC (id := 5) ?_; (refine su (ap_load_pw (by exact rq_p rfl rfl) (by exact rfl) (by exact rfl) (by exact rfl)) ?_); (refine sc_p rfl rfl (by repeat' first | exact SubL.nil | refine SubL.cons ?_ ?_ | exact Sub.refl) (by (simp [bdL, bdL_append, AV.bd]; done)) (reduce_fn _) ?_); (refine su (ap_move (by exact rq_p rfl rfl)) ?_); (refine su (ap_extract (by exact rq_p rfl rfl) (by exact rfl)) ?_); (refine su (ap_extract (by exact rq_p rfl rfl) (by exact rfl)) ?_); (refine su (ap_extract (by exact rq_p rfl rfl) (by exact rfl)) ?_); (refine se_alloc (by exact rfl) ?_); (refine se_store_b (by exact rfl) (by exact rfl) (by exact rfl) (by exact rfl) ?_); (refine su (ap_assign (by exact rq_p rfl rfl)) ?_); (refine su (ap_assign (by exact rq_p rfl rfl)) ?_); refine asemC_end ?_) | (refine WP.regionC (id := 6) ?_; (refine su (ap_move (by exact rq_p rfl rfl)) ?_); (refine su (ap_eql (by exact rq_p rfl rfl) (by exact rq_p rfl rfl)) ?_); (refine su (ap_move (by exact rq_p rfl rfl)) ?_); (refine sg (by exact gq_vt rfl rfl) (fun he => ap_load_pw (by exact rq_p rfl rfl) (by exact rfl) (by exact rfl) (by exact rfl)) ?_); (refine sg (by exact gq_vt rfl rfl) (fun he => ap_load_pw (by exact rq_p rfl rfl) (by exact rfl) (by exact rfl) (by exact rfl)) ?_); (refine sg_p (by exact gq_vt rfl rfl) (fun he => ⟨(by exact rq_p rfl rfl), (RqL.cons (by exact rq_c rfl rfl) (RqL.cons (by exact rq_c rfl rfl) (RqL.nil))), (by repeat' first | exact SubL.nil | refine SubL.cons ?_ ?_ | exact Sub.refl), (by (simp [bdL, bdL_append, AV.bd]; done)), requal_fn _ _⟩) ?_); (refine su (ap_and (by exact rq_p rfl rfl) (by exact rq_c rfl rfl)) ?_); (refine su (ap_move (by exact rq_p rfl rfl)) ?_); (refine sg (by exact gq_vt rfl rfl) (fun he => ap_move (by exact rq_p rfl rfl)) ?_); (refine sgt_lit (by exact rfl) (by exact rfl) (by exact rfl) (OpP.cons (by exact rfl) (OpP.cons (by exact rfl) (OpP.nil))) (by exact rfl) (by exact rfl) (by exact rfl) (by exact rfl) (by exact rfl) (by exact rfl) ?_); (refine sg_b (as' := ([intsA [0, 2], intsA [0, 2]])) (by exact gq_vt rfl rfl) (fun he => ⟨(by exact rq_p rfl rfl), (RqL.cons (by exact rq_c rfl rfl) (RqL.cons (by exact rq_p rfl rfl) (RqL.nil))), (by repeat' first | exact FzL.nil | refine FzL.cons ?_ ?_ | (exact Fz.list (by exact rfl) (by exact rfl) (fun _ => by simp [AV.bd, bdL, bdL_append]) (fun _ => rfl)) | (exact Fz.reflp (by simp [AV.bd, bdL, bdL_append]))), ints_fn [0, 2] [0, 2], (by exact rfl)⟩) ?_); (refine su (ap_and (by exact rq_p rfl rfl) (by exact rq_c rfl rfl)) ?_); (refine su (ap_move (by exact rq_p rfl rfl)) ?_); (refine sg (by exact gq_vt rfl rfl) (fun he => ap_move (by exact rq_p rfl rfl)) ?_); (refine sg (by exact gq_vt rfl rfl) (fun he => ap_eql (by exact rq_c rfl rfl) (by exact rq_p rfl rfl)) ?_); (refine su (ap_and (by exact rq_p rfl rfl) (by exact rq_c rfl rfl)) ?_); (refine su (ap_assign (by exact rq_p rfl rfl)) ?_); refine asemC_end ?_) | exact ret_eq (by exact rfl) (by exact rfl) rfl))
end Go.Lg

/- emendateref22.Few: a grammar has few symbols and short rules. -/
namespace Go.Lg
open Go.Proofs
set_option linter.unusedSimpArgs false
set_option linter.unusedVariables false
attribute [local irreducible] Ap Rq asemC WP RunD Ret Gq thenA inBlockA bodyQ noGotoA RqL RqP OpP
set_option maxHeartbeats 1000000

def few (g : Gram) (n : Int) : Bool := decide ((g.rules.length : Int) ≤ n) && decide (g.terms.length ≤ 12) && decide (g.nonterms.length ≤ 16) && g.rules.all (fun r => decide (r.body.length ≤ 6)) && g.terms.all (fun s => decide (s.size ≤ 40)) && g.nonterms.all (fun s => decide (s.size ≤ 40))

theorem few_fn (g : Gram) (n : Int) : Fn Try.prog 8 [gramA g, intA n] (boolA (few g n)) := by
  refine Fn.intro (by exact rfl) (by kernel_rfl) Try.func8 rfl rfl Try.ntmps8 (by exact Nat.le_of_ble_eq_true rfl) ?_; intro Γ hm
  refine wp_lens 0 rfl fun hl => ?_
  obtain ⟨hl1, hl2, hl3, hl4⟩ := (lens_gramA g).1 hl
  (repeat' (first | refine WP.seq ?_ | refine WP.block ?_ | refine go_n ?_ | refine WP.skip ?_ | refine WP.ret ?_ | refine go_r ?_ | refine bo_r ?_ | (refine wp_cond (by exact rfl) (fun hc => ?_) (fun hc => ?_) <;> (try simp only [decide_eq_true_eq, decide_eq_false_iff_not, Decidable.not_not, Bool.and_eq_true, Bool.or_eq_true, Bool.not_eq_true', Bool.not_eq_false', Bool.or_eq_false_iff, Bool.and_eq_false_iff, Int.not_lt, Int.not_le, reduceCtorEq, ne_eq, Bool.not_true, Bool.not_false, Bool.not_eq_true, Bool.not_eq_false] at hc) <;> (try (exfalso; omega))) | (refine WP.regionC (id := 0) ?_; (refine se_box (by exact rfl) (by exact ⟨rfl, rfl⟩) ?_); (refine su (ap_assign (by exact rq_p rfl rfl)) ?_); refine asemC_end ?_) | (refine WP.regionC (id := 1) ?_; (refine su (ap_field_p (by exact rq_p rfl rfl) (by exact rfl) (by exact rfl)) ?_); (refine su (ap_load_p (by exact rq_p rfl rfl) (by exact rfl) (by exact rfl) (by exact rfl)) ?_); (refine su (ap_len_m (by exact rfl) (by exact rq_p rfl rfl)) ?_); (refine su (ap_move (by exact rq_p rfl rfl)) ?_); (refine su (ap_gtr (by exact rq_p rfl rfl) (by exact rq_p rfl rfl)) ?_); (refine su (ap_move (by exact rq_p rfl rfl)) ?_); (refine sg (by exact gq_vf rfl rfl) (fun he => ap_field_p (by exact rq_p rfl rfl) (by exact rfl) (by exact rfl)) ?_); (refine sg (by exact gq_vf rfl rfl) (fun he => ap_load_p (by exact rq_c rfl rfl) (by exact rfl) (by exact rfl) (by exact rfl)) ?_); (refine sg (by exact gq_vf rfl rfl) (fun he => ap_len_m (by exact rfl) (by exact rq_c rfl rfl)) ?_); (refine sg (by exact gq_vf rfl rfl) (fun he => ap_gtr (by exact rq_c rfl rfl) (by exact rq_p rfl rfl)) ?_); (refine su (ap_or (by exact rq_p rfl rfl) (by exact rq_c rfl rfl)) ?_); (refine su (ap_move (by exact rq_p rfl rfl)) ?_); (refine sg (by exact gq_vf rfl rfl) (fun he => ap_field_p (by exact rq_p rfl rfl) (by exact rfl) (by exact rfl)) ?_); (refine sg (by exact gq_vf rfl rfl) (fun he => ap_load_p (by exact rq_c rfl rfl) (by exact rfl) (by exact rfl) (by exact rfl)) ?_); (refine sg (by exact gq_vf rfl rfl) (fun he => ap_len_m (by exact rfl) (by exact rq_c rfl rfl)) ?_); (refine sg (by exact gq_vf rfl rfl) (fun he => ap_gtr (by exact rq_c rfl rfl) (by exact rq_p rfl rfl)) ?_); (refine su (ap_or (by exact rq_p rfl rfl) (by exact rq_c rfl rfl)) ?_); refine asemC_end ?_) | (refine WP.regionC (id := 2) ?_; (refine su (ap_assign (by exact rq_p rfl rfl)) ?_); refine asemC_end ?_) | (refine WP.regionC (id := 3) ?_; (refine su (ap_assign (by exact rq_p rfl rfl)) ?_); refine asemC_end ?_) | refine ret_b (by exact rfl) ?_))
  · simp [few]; omega
  refine wp_loop (fun k => k ≤ g.rules.length ∧ (g.rules.take k).all (fun r => decide (r.body.length ≤ 6)) = true) (fun k => g.rules.length - k)
    (fun k => (S 68 [(0, gramA g), (1, intA n), (2, .ptr 0 4 0 0), (5, intA (k : Nat))] 1 [(0, some (.arr 4 [gramA g]))])) 0 ⟨[0], ToR.S rfl (by repeat' (first | exact rt_nil | refine rt_t (by exact rfl) (by exact rfl) ?_ | refine rt_e (by exact rfl) (by exact rfl) ?_ | refine rt_p (by exact rfl) (by exact rfl) (by (simp [AV.bd, bdL, bdL_append]; done)) ?_)) (by repeat' (first | exact ro_nil | refine ro_p (by exact rfl) (by exact rfl) (by (simp [bdL, bdL_append, AV.bd]; done)) ?_)) (by decide) (by (rw [hm]; exact rfl)) (by exact rfl) (by (simp [bdT, AV.bd, bdL, bdL_append]; done)) (by repeat' (first | exact True.intro | refine And.intro ?_ ?_ | (simp [bdOq, bdL, bdL_append, AV.bd]; done))) (by (rw [hm]; exact Nat.le_of_ble_eq_true rfl))⟩ ⟨Nat.zero_le _, rfl⟩ ?_
  rintro k ⟨hk, hall⟩
  (repeat' (first | refine WP.seq ?_ | refine WP.block ?_ | refine go_n ?_ | refine WP.skip ?_ | refine WP.exit ?_ | refine WP.ret ?_ | refine go_x ?_ | refine go_r ?_ | refine bl_n ?_ | refine bl_r ?_ | refine bl_x ?_ | refine bo_r ?_ | (refine wp_cond (by exact rfl) (fun hc => ?_) (fun hc => ?_) <;> (try simp only [decide_eq_true_eq, decide_eq_false_iff_not, Decidable.not_not, Bool.and_eq_true, Bool.or_eq_true, Bool.not_eq_true', Bool.not_eq_false', Bool.or_eq_false_iff, Bool.and_eq_false_iff, Int.not_lt, Int.not_le, reduceCtorEq, ne_eq, Bool.not_true, Bool.not_false, Bool.not_eq_true, Bool.not_eq_false] at hc) <;> (try (exfalso; omega))) | (refine WP.regionC (id := 4) ?_; (refine su (ap_move (by exact rq_p rfl rfl)) ?_); (refine su (ap_field_p (by exact rq_p rfl rfl) (by exact rfl) (by exact rfl)) ?_); (refine su (ap_load_p (by exact rq_p rfl rfl) (by exact rfl) (by exact rfl) (by exact rfl)) ?_); (refine su (ap_len_m (by exact rfl) (by exact rq_p rfl rfl)) ?_); (refine su (ap_lss (by exact rq_p rfl rfl) (by exact rq_p rfl rfl)) ?_); refine asemC_end ?_) | (refine WP.regionC (id := 6) ?_; (refine su (ap_field_p (by exact rq_p rfl rfl) (by exact rfl) (by exact rfl)) ?_); (refine su (ap_load_p (by exact rq_p rfl rfl) (by exact rfl) (by exact rfl) (by exact rfl)) ?_); (refine su (ap_move (by exact rq_p rfl rfl)) ?_); (refine su (ap_idx_n (by exact rq_p rfl rfl) (by exact rq_p rfl rfl) (by omega)) ?_); (refine su (ap_field_i (by exact rq_p rfl rfl) (by exact rfl) (by exact rfl)) ?_); (refine su (ap_load_i (by exact rq_p rfl rfl) (by exact rfl)) ?_); (refine su (ap_len_m (by exact rfl) (by exact rq_p rfl rfl)) ?_); (refine su (ap_gtr (by exact rq_p rfl rfl) (by exact rq_p rfl rfl)) ?_); refine asemC_end ?_) | (refine WP.regionC (id := 7) ?_; (refine su (ap_assign (by exact rq_p rfl rfl)) ?_); refine asemC_end ?_) | (refine WP.regionC (id := 5) ?_; (refine su (ap_move (by exact rq_p rfl rfl)) ?_); (refine su (ap_add (by exact rq_p rfl rfl) (by exact rq_p rfl rfl) (by exact inr_i64_of (by omega))) ?_); (refine su (ap_assign (by exact rq_p rfl rfl)) ?_); refine asemC_end ?_) | (refine WP.regionC (id := 8) ?_; (refine su (ap_assign (by exact rq_p rfl rfl)) ?_); refine asemC_end ?_) | refine ret_b (by exact rfl) ?_))
  · have h := all_nth_no (l := g.rules) (f := fun r => decide (r.body.length ≤ 6)) (k := k) (by omega) (by simp; omega)
    simp only [few, h, Bool.and_false, Bool.false_and]
  · exact ⟨k + 1, ⟨by omega, by omega, take_all_succ (by omega) hall (by simp; omega)⟩, ⟨[0], ToR.S rfl (by repeat' (first | exact rt_nil | refine rt_t (by exact rfl) (by exact rfl) ?_ | refine rt_e (by exact rfl) (by exact rfl) ?_ | refine rt_p (by exact rfl) (by exact rfl) (by (simp [AV.bd, bdL, bdL_append]; done)) ?_)) (by repeat' (first | exact ro_nil | refine ro_p (by exact rfl) (by exact rfl) (by (simp [bdL, bdL_append, AV.bd]; done)) ?_)) (by decide) (by (rw [hm]; exact rfl)) (by exact rfl) (by (simp [bdT, AV.bd, bdL, bdL_append]; done)) (by repeat' (first | exact True.intro | refine And.intro ?_ ?_ | (simp [bdOq, bdL, bdL_append, AV.bd]; done))) (by (rw [hm]; exact Nat.le_of_ble_eq_true rfl))⟩⟩
  have h1 := all_of_take' (by omega) hall
  refine wp_loop (fun k => k ≤ g.terms.length ∧ (g.terms.take k).all (fun s => decide (s.size ≤ 40)) = true) (fun k => g.terms.length - k)
    (fun k => (S 68 [(0, gramA g), (1, intA n), (2, .ptr 0 4 0 0), (6, intA (k : Nat))] 1 [(0, some (.arr 4 [gramA g]))])) 0 ⟨[0], ToR.S rfl (by repeat' (first | exact rt_nil | refine rt_t (by exact rfl) (by exact rfl) ?_ | refine rt_e (by exact rfl) (by exact rfl) ?_ | refine rt_p (by exact rfl) (by exact rfl) (by (simp [AV.bd, bdL, bdL_append]; done)) ?_)) (by repeat' (first | exact ro_nil | refine ro_p (by exact rfl) (by exact rfl) (by (simp [bdL, bdL_append, AV.bd]; done)) ?_)) (by decide) (by (rw [hm]; exact rfl)) (by exact rfl) (by (simp [bdT, AV.bd, bdL, bdL_append]; done)) (by repeat' (first | exact True.intro | refine And.intro ?_ ?_ | (simp [bdOq, bdL, bdL_append, AV.bd]; done))) (by (rw [hm]; exact Nat.le_of_ble_eq_true rfl))⟩ ⟨Nat.zero_le _, rfl⟩ ?_
  rintro k ⟨hk, hall⟩
  (repeat' (first | refine WP.seq ?_ | refine WP.block ?_ | refine go_n ?_ | refine WP.skip ?_ | refine WP.exit ?_ | refine WP.ret ?_ | refine go_x ?_ | refine go_r ?_ | refine bl_n ?_ | refine bl_r ?_ | refine bl_x ?_ | refine bo_r ?_ | (refine wp_cond (by exact rfl) (fun hc => ?_) (fun hc => ?_) <;> (try simp only [decide_eq_true_eq, decide_eq_false_iff_not, Decidable.not_not, Bool.and_eq_true, Bool.or_eq_true, Bool.not_eq_true', Bool.not_eq_false', Bool.or_eq_false_iff, Bool.and_eq_false_iff, Int.not_lt, Int.not_le, reduceCtorEq, ne_eq, Bool.not_true, Bool.not_false, Bool.not_eq_true, Bool.not_eq_false] at hc) <;> (try (exfalso; omega))) | (refine WP.regionC (id := 9) ?_; (refine su (ap_move (by exact rq_p rfl rfl)) ?_); (refine su (ap_field_p (by exact rq_p rfl rfl) (by exact rfl) (by exact rfl)) ?_); (refine su (ap_load_p (by exact rq_p rfl rfl) (by exact rfl) (by exact rfl) (by exact rfl)) ?_); (refine su (ap_len_m (by exact rfl) (by exact rq_p rfl rfl)) ?_); (refine su (ap_lss (by exact rq_p rfl rfl) (by exact rq_p rfl rfl)) ?_); refine asemC_end ?_) | (refine WP.regionC (id := 11) ?_; (refine su (ap_field_p (by exact rq_p rfl rfl) (by exact rfl) (by exact rfl)) ?_); (refine su (ap_load_p (by exact rq_p rfl rfl) (by exact rfl) (by exact rfl) (by exact rfl)) ?_); (refine su (ap_move (by exact rq_p rfl rfl)) ?_); (refine su (ap_idx_n (by exact rq_p rfl rfl) (by exact rq_p rfl rfl) (by omega)) ?_); (refine su (ap_load_w (by exact rq_p rfl rfl) (by exact rfl)) ?_); (refine su (ap_len_str (by exact rfl) (by exact rq_p rfl rfl)) ?_); (refine su (ap_gtr (by exact rq_p rfl rfl) (by exact rq_p rfl rfl)) ?_); refine asemC_end ?_) | (refine WP.regionC (id := 12) ?_; (refine su (ap_assign (by exact rq_p rfl rfl)) ?_); refine asemC_end ?_) | (refine WP.regionC (id := 10) ?_; (refine su (ap_move (by exact rq_p rfl rfl)) ?_); (refine su (ap_add (by exact rq_p rfl rfl) (by exact rq_p rfl rfl) (by exact inr_i64_of (by omega))) ?_); (refine su (ap_assign (by exact rq_p rfl rfl)) ?_); refine asemC_end ?_) | (refine WP.regionC (id := 13) ?_; (refine su (ap_assign (by exact rq_p rfl rfl)) ?_); refine asemC_end ?_) | refine ret_b (by exact rfl) ?_))
  · have h := all_nth_no (l := g.terms) (f := fun s => decide (s.size ≤ 40)) (k := k) (by omega) (by simp; omega)
    simp only [few, h, Bool.and_false, Bool.false_and]
  · exact ⟨k + 1, ⟨by omega, by omega, take_all_succ (by omega) hall (by simp; omega)⟩, ⟨[0], ToR.S rfl (by repeat' (first | exact rt_nil | refine rt_t (by exact rfl) (by exact rfl) ?_ | refine rt_e (by exact rfl) (by exact rfl) ?_ | refine rt_p (by exact rfl) (by exact rfl) (by (simp [AV.bd, bdL, bdL_append]; done)) ?_)) (by repeat' (first | exact ro_nil | refine ro_p (by exact rfl) (by exact rfl) (by (simp [bdL, bdL_append, AV.bd]; done)) ?_)) (by decide) (by (rw [hm]; exact rfl)) (by exact rfl) (by (simp [bdT, AV.bd, bdL, bdL_append]; done)) (by repeat' (first | exact True.intro | refine And.intro ?_ ?_ | (simp [bdOq, bdL, bdL_append, AV.bd]; done))) (by (rw [hm]; exact Nat.le_of_ble_eq_true rfl))⟩⟩
  have h2 := all_of_take' (by omega) hall
  refine wp_loop (fun k => k ≤ g.nonterms.length ∧ (g.nonterms.take k).all (fun s => decide (s.size ≤ 40)) = true) (fun k => g.nonterms.length - k)
    (fun k => (S 68 [(0, gramA g), (1, intA n), (2, .ptr 0 4 0 0), (7, intA (k : Nat))] 1 [(0, some (.arr 4 [gramA g]))])) 0 ⟨[0], ToR.S rfl (by repeat' (first | exact rt_nil | refine rt_t (by exact rfl) (by exact rfl) ?_ | refine rt_e (by exact rfl) (by exact rfl) ?_ | refine rt_p (by exact rfl) (by exact rfl) (by (simp [AV.bd, bdL, bdL_append]; done)) ?_)) (by repeat' (first | exact ro_nil | refine ro_p (by exact rfl) (by exact rfl) (by (simp [bdL, bdL_append, AV.bd]; done)) ?_)) (by decide) (by (rw [hm]; exact rfl)) (by exact rfl) (by (simp [bdT, AV.bd, bdL, bdL_append]; done)) (by repeat' (first | exact True.intro | refine And.intro ?_ ?_ | (simp [bdOq, bdL, bdL_append, AV.bd]; done))) (by (rw [hm]; exact Nat.le_of_ble_eq_true rfl))⟩ ⟨Nat.zero_le _, rfl⟩ ?_
  rintro k ⟨hk, hall⟩
  (repeat' (first | refine WP.seq ?_ | refine WP.block ?_ | refine go_n ?_ | refine WP.skip ?_ | refine WP.exit ?_ | refine WP.ret ?_ | refine go_x ?_ | refine go_r ?_ | refine bl_n ?_ | refine bl_r ?_ | refine bl_x ?_ | refine bo_r ?_ | (refine wp_cond (by exact rfl) (fun hc => ?_) (fun hc => ?_) <;> (try simp only [decide_eq_true_eq, decide_eq_false_iff_not, Decidable.not_not, Bool.and_eq_true, Bool.or_eq_true, Bool.not_eq_true', Bool.not_eq_false', Bool.or_eq_false_iff, Bool.and_eq_false_iff, Int.not_lt, Int.not_le, reduceCtorEq, ne_eq, Bool.not_true, Bool.not_false, Bool.not_eq_true, Bool.not_eq_false] at hc) <;> (try (exfalso; omega))) | (refine WP.regionC (id := 14) ?_; (refine su (ap_move (by exact rq_p rfl rfl)) ?_); (refine su (ap_field_p (by exact rq_p rfl rfl) (by exact rfl) (by exact rfl)) ?_); (refine su (ap_load_p (by exact rq_p rfl rfl) (by exact rfl) (by exact rfl) (by exact rfl)) ?_); (refine su (ap_len_m (by exact rfl) (by exact rq_p rfl rfl)) ?_); (refine su (ap_lss (by exact rq_p rfl rfl) (by exact rq_p rfl rfl)) ?_); refine asemC_end ?_) | (refine WP.regionC (id := 16) ?_; (refine su (ap_field_p (by exact rq_p rfl rfl) (by exact rfl) (by exact rfl)) ?_); (refine su (ap_load_p (by exact rq_p rfl rfl) (by exact rfl) (by exact rfl) (by exact rfl)) ?_); (refine su (ap_move (by exact rq_p rfl rfl)) ?_); (refine su (ap_idx_n (by exact rq_p rfl rfl) (by exact rq_p rfl rfl) (by omega)) ?_); (refine su (ap_load_w (by exact rq_p rfl rfl) (by exact rfl)) ?_); (refine su (ap_len_str (by exact rfl) (by exact rq_p rfl rfl)) ?_); (refine su (ap_gtr (by exact rq_p rfl rfl) (by exact rq_p rfl rfl)) ?_); refine asemC_end ?_) | (refine WP.regionC (id := 17) ?_; (refine su (ap_assign (by exact rq_p rfl rfl)) ?_); refine asemC_end ?_) | (refine WP.regionC (id := 15) ?_; (refine su (ap_move (by exact rq_p rfl rfl)) ?_); (refine su (ap_add (by exact rq_p rfl rfl) (by exact rq_p rfl rfl) (by exact inr_i64_of (by omega))) ?_); (refine su (ap_assign (by exact rq_p rfl rfl)) ?_); refine asemC_end ?_) | (refine WP.regionC (id := 18) ?_; (refine su (ap_assign (by exact rq_p rfl rfl)) ?_); refine asemC_end ?_) | refine ret_b (by exact rfl) ?_))
  · have h := all_nth_no (l := g.nonterms) (f := fun s => decide (s.size ≤ 40)) (k := k) (by omega) (by simp; omega)
    simp only [few, h, Bool.and_false, Bool.false_and]
  · exact ⟨k + 1, ⟨by omega, by omega, take_all_succ (by omega) hall (by simp; omega)⟩, ⟨[0], ToR.S rfl (by repeat' (first | exact rt_nil | refine rt_t (by exact rfl) (by exact rfl) ?_ | refine rt_e (by exact rfl) (by exact rfl) ?_ | refine rt_p (by exact rfl) (by exact rfl) (by (simp [AV.bd, bdL, bdL_append]; done)) ?_)) (by repeat' (first | exact ro_nil | refine ro_p (by exact rfl) (by exact rfl) (by (simp [bdL, bdL_append, AV.bd]; done)) ?_)) (by decide) (by (rw [hm]; exact rfl)) (by exact rfl) (by (simp [bdT, AV.bd, bdL, bdL_append]; done)) (by repeat' (first | exact True.intro | refine And.intro ?_ ?_ | (simp [bdOq, bdL, bdL_append, AV.bd]; done))) (by (rw [hm]; exact Nat.le_of_ble_eq_true rfl))⟩⟩
  have h3 := all_of_take' (by omega) hall
  simp [few, h1, h2, h3]; omega
end Go.Lg

/- What Reduce leaves is valid, and all of it is productive and useful (plain law). -/
namespace Go.Lg
set_option linter.unusedSectionVars false

theorem yesB_len (n : Nat) : (yesB n).length = n := by simp [yesB]
theorem yesB_at {n i : Nat} (h : i < n) : nth (yesB n) i = true := nth_replicate h
theorem eq_yes {l : List Bool} {n : Nat} (hl : l.length = n) (h : ∀ i, i < n → nth l i = true) : l = yesB n :=
  nth_ext (by rw [hl, yesB_len]) fun i hi => by rw [h i (by omega), yesB_at (by omega)]

theorem cntB_mono {use : List Bool} {i j : Nat} (h : i ≤ j) : cntB use i ≤ cntB use j := by
  induction j with
  | zero => have : i = 0 := by omega
            subst this; exact Nat.le_refl _
  | succ j ih =>
    by_cases e : i = j + 1
    · subst e; exact Nat.le_refl _
    · have := ih (by omega)
      rw [cntB_succ]; omega
theorem cntB_lt {use : List Bool} {i n : Nat} (h : nth use i = true) (hi : i < n) : cntB use i < cntB use n := by
  have h1 := cntB_mono (use := use) (i := i + 1) (j := n) (by omega)
  rw [cntB_succ, if_pos h] at h1; omega
/-- each number is given -/
theorem cntB_onto {use : List Bool} {n : Nat} : ∀ {j : Nat}, j < cntB use n → ∃ i, i < n ∧ nth use i = true ∧ cntB use i = j := by
  induction n with
  | zero => intro j h; simp [cntB] at h
  | succ n ih =>
    intro j h
    rw [cntB_succ] at h
    by_cases hu : nth use n = true
    · rw [if_pos hu] at h
      by_cases e : j = cntB use n
      · exact ⟨n, by omega, hu, e.symm⟩
      · obtain ⟨i, h1, h2, h3⟩ := ih (j := j) (by omega)
        exact ⟨i, by omega, h2, h3⟩
    · rw [if_neg hu] at h
      obtain ⟨i, h1, h2, h3⟩ := ih (j := j) (by omega)
      exact ⟨i, by omega, h2, h3⟩
theorem names_at {g : Gram} {use : List Bool} {i : Nat} (h : nth use i = true) : ∀ {n : Nat}, i < n → nth (namesTo g use n) (cntB use i) = nth g.nonterms i
  | 0, hi => by omega
  | n + 1, hi => by
    cases hu : nth use n with
    | true =>
      rw [namesTo_yes hu, nth_append, namesTo_len]
      by_cases e : i = n
      · subst e; simp [nth]
      · rw [if_pos (cntB_lt h (by omega))]; exact names_at h (by omega)
    | false =>
      rw [namesTo_no hu]
      have : i ≠ n := by rintro rfl; rw [hu] at h; cases h
      exact names_at h (by omega)

/-- What is said of the grammar that is left. -/
structure Kept (g : Gram) (is use : List Bool) : Prop where
  v : GVal g
  pl : is.length = g.nonterms.length
  ul : use.length = g.nonterms.length
  sub : ∀ i, nth use i = true → nth is i = true
  st : nth use g.start.toNat = true
  cl : ∀ r, r ∈ g.rules → ClosedU is use r
theorem kept_of {g : Gram} (hv : GVal g) (hs : nth (prodG g) g.start.toNat = true) : Kept g (prodG g) (usefulG g (prodG g)) := by
  have hfix : stepU g (prodG g) (usefulG g (prodG g)) = usefulG g (prodG g) := lfpB_fix (stepU_mono g _ _) (initU_len g)
  have hup : leB (initU g) (usefulG g (prodG g)) := lfpB_up (stepU_mono g _ _) (initU_len g)
  have hs0 := hv.s0
  have hsn := hv.sn
  refine ⟨hv, prodG_len g, usefulG_len g _, ?_, ?_, ?_⟩
  · have h1 : leB (initU g) (prodG g) := leB_set (nob_le (prodG_len g)) hs
    have h2 : stepU g (prodG g) (prodG g) = prodG g := stepU_closed fun r _ _ h x hx h0 => by
      have := List.all_eq_true.1 h x hx
      simpa [okSym, show ¬ 0 ≤ x by omega] using this
    exact (lfpB_least (stepU_mono g _ _) (initU_len g) h1 (by rw [h2]; exact .refl _)).2
  · exact hup.2 _ (by rw [initU, nth_set (by rw [nob_len]; omega), if_pos rfl])
  · intro r hr h1 h2 x hx h0
    exact stepU_closes (by rw [hfix]; exact .refl _) hr h1 h2 hx h0 (by rw [usefulG_len]; exact (hv.rule r hr).lo x hx)
section
variable {g : Gram} {is use : List Bool} (h : Kept g is use)
include h
/-- the grammar that is left -/
abbrev redOf (g : Gram) (is use : List Bool) : Gram := ⟨g.terms, namesTo g use g.nonterms.length, (numB use g.start.toNat : Int), rulesTo g is use g.rules.length⟩
theorem Kept.nl : (redOf g is use).nonterms.length = cntB use g.nonterms.length := namesTo_len
theorem Kept.num {i : Nat} (hi : nth use i = true) : numB use i < cntB use g.nonterms.length := by
  rw [numB, if_pos hi]; exact cntB_lt hi (by have := nth_lt hi; rw [h.ul] at this; exact this)
/-- a rule that is kept -/
theorem Kept.rule {r : Rul} (hr : r ∈ rulesTo g is use g.rules.length) : ∃ q, q ∈ g.rules ∧ keepR is use q = true ∧ r = mapRul use q := by
  simp only [rulesTo, keptTo, List.mem_map, List.mem_filter, List.mem_range] at hr
  obtain ⟨j, ⟨h1, h2⟩, rfl⟩ := hr
  exact ⟨_, nth_mem h1, h2, rfl⟩
theorem Kept.mem {q : Rul} (hq : q ∈ g.rules) (hk : keepR is use q = true) : mapRul use q ∈ rulesTo g is use g.rules.length := by
  obtain ⟨j, hj, rfl⟩ := List.getElem_of_mem hq
  simp only [rulesTo, keptTo, List.mem_map, List.mem_filter, List.mem_range]
  exact ⟨j, ⟨hj, by rw [nth_eq hj]; exact hk⟩, by rw [nth_eq hj]⟩
/-- the symbols of a rule that is kept -/
theorem Kept.sym {q : Rul} (hq : q ∈ g.rules) (hk : keepR is use q = true) {x : Int} (hx : x ∈ q.body) (h0 : x < 0) : nth use (-1 - x).toNat = true := by
  simp only [keepR, Bool.and_eq_true] at hk
  exact h.cl q hq hk.1 hk.2 x hx h0
theorem Kept.val (hr1 : 1 ≤ (rulesTo g is use g.rules.length).length) : GVal (redOf g is use) := by
  have hv := h.v
  have hn1 : 1 ≤ cntB use g.nonterms.length := by have := h.num h.st; omega
  have hn2 := cntB_le use g.nonterms.length
  have hnv := hv.n2
  have hrv := hv.r2
  have hrl := rules_le (g := g) (is := is) (use := use) (i := g.rules.length)
  refine ⟨hv.terms, by rw [h.nl]; exact hn1, by rw [h.nl]; omega, hr1, by show (rulesTo g is use g.rules.length).length ≤ 120; omega, ?_, ?_, ?_, ?_⟩
  · show (0 : Int) ≤ (numB use g.start.toNat : Int); omega
  · rw [h.nl]; have := h.num h.st; show (numB use g.start.toNat : Int) < _; omega
  · have hs : List.Sublist (namesTo g use g.nonterms.length) g.nonterms := by
      have : g.nonterms = (List.range g.nonterms.length).map (nth g.nonterms) := nth_ext (by simp) fun i hi => by rw [nth_range hi]
      conv => rhs; rw [this]
      exact List.Sublist.map _ List.filter_sublist
    have hall := hv.names
    simp only [namesOk, Bool.and_eq_true, decide_eq_true_eq, List.all_eq_true] at hall ⊢
    have hs2 : List.Sublist (g.terms ++ namesTo g use g.nonterms.length) (g.terms ++ g.nonterms) := (List.Sublist.refl _).append hs
    exact ⟨fun x hx => hall.1 x (hs2.subset hx), hall.2.sublist hs2⟩
  · intro r hr
    obtain ⟨q, hq, hk, rfl⟩ := h.rule hr
    have hf := hv.rule q hq
    have hkk := hk
    simp only [keepR, Bool.and_eq_true] at hkk
    refine ⟨by simp [mapRul], by rw [h.nl]; have := h.num hkk.1; simp only [mapRul]; omega, by simpa [mapRul] using hf.len, hf.p0, hf.p1, ?_, ?_⟩
    · intro x hx
      simp only [mapRul, List.mem_map] at hx
      obtain ⟨y, hy, rfl⟩ := hx
      unfold mapSym
      split
      · show -1 - (numB use (-1 - y).toNat : Int) < (g.terms.length : Int); omega
      · exact hf.hi y hy
    · intro x hx
      simp only [mapRul, List.mem_map] at hx
      obtain ⟨y, hy, rfl⟩ := hx
      rw [h.nl]
      unfold mapSym
      split
      · rename_i h0
        have := h.num (h.sym hq hk hy h0)
        omega
      · have := hf.lo y hy; omega
end
theorem all_map_ok {use is' : List Bool} {l : List Int} (h : ∀ x, x ∈ l → x < 0 → nth is' (numB use (-1 - x).toNat) = true) : (l.map (mapSym use)).all (okSym is') = true := by
  rw [List.all_eq_true]
  intro x hx
  obtain ⟨y, hy, rfl⟩ := List.mem_map.1 hx
  unfold mapSym
  split
  · rename_i h0
    have := h y hy h0
    simp only [okSym, Bool.or_eq_true, decide_eq_true_eq]
    right
    rw [show (-1 - (-1 - (numB use (-1 - y).toNat : Int))).toNat = numB use (-1 - y).toNat by omega]; exact this
  · simp only [okSym, Bool.or_eq_true, decide_eq_true_eq]; left; omega
/-- All that is left is productive. -/
theorem Kept.prod {g : Gram} {use : List Bool} (h : Kept g (prodG g) use) : prodG (redOf g (prodG g) use) = yesB (cntB use g.nonterms.length) := by
  let G := redOf g (prodG g) use
  have hnl : G.nonterms.length = cntB use g.nonterms.length := h.nl
  have hfix : stepP G (prodG G) = prodG G := lfpB_fix (stepP_mono G _) (nob_len _)
  have hl : (prodG G).length = cntB use g.nonterms.length := by rw [prodG_len, hnl]
  let T : List Bool := (List.range g.nonterms.length).map fun i => nth (prodG g) i && (!nth use i || nth (prodG G) (numB use i))
  have hT : ∀ i, i < g.nonterms.length → nth T i = (nth (prodG g) i && (!nth use i || nth (prodG G) (numB use i))) := fun i hi => nth_range hi
  have hTl : T.length = g.nonterms.length := by simp [T]
  have hgfix : stepP g (prodG g) = prodG g := lfpB_fix (stepP_mono g _) (nob_len _)
  have hTp : leB T (prodG g) := ⟨by rw [hTl, prodG_len], fun i hi => by
    have := nth_lt hi
    rw [hT i (by omega)] at hi
    simp only [Bool.and_eq_true] at hi; exact hi.1⟩
  have hc : stepP g T = T := stepP_closed fun r hr hb => by
    have hf := h.v.rule r hr
    have hrn := hf.hn
    have hr0 := hf.h0
    have hb' : r.body.all (okSym (prodG g)) = true := by
      rw [List.all_eq_true] at hb ⊢
      exact fun x hx => okSym_mono hTp (hb x hx)
    have hP : nth (prodG g) r.head.toNat = true := stepP_closes (by rw [hgfix]; exact .refl _) hr hr0 (by rw [prodG_len]; exact hrn) hb'
    rw [hT _ (by omega), hP, Bool.true_and, Bool.or_eq_true, Bool.not_eq_true']
    cases hu : nth use r.head.toNat with
    | false => exact .inl rfl
    | true =>
      right
      have hk : keepR (prodG g) use r = true := by simp [keepR, hu, hb']
      have hm := h.mem hr hk
      have := stepP_closes (g := G) (S := prodG G) (by rw [hfix]; exact .refl _) hm (by simp [mapRul]) (by rw [hl]; have := h.num hu; simp only [mapRul]; omega) (all_map_ok fun x hx h0 => by
        have hux := h.sym hr hk hx h0
        have hlo := hf.lo x hx
        have h1 := List.all_eq_true.1 hb x hx
        simp only [okSym, Bool.or_eq_true, decide_eq_true_eq] at h1
        rcases h1 with h1 | h1
        · omega
        · rw [hT _ (by omega)] at h1
          simp only [Bool.and_eq_true, Bool.or_eq_true, Bool.not_eq_true'] at h1
          rcases h1.2 with h2 | h2
          · rw [hux] at h2; cases h2
          · exact h2)
      simpa [mapRul] using this
  have hle := lfpB_least (stepP_mono g _) (nob_len _) (nob_le hTl) (by rw [hc]; exact .refl _)
  refine eq_yes hl fun j hj => ?_
  obtain ⟨i, hi, hu, rfl⟩ := cntB_onto hj
  have h1 := hle.2 i (h.sub i hu)
  rw [hT i hi] at h1
  simp only [Bool.and_eq_true, Bool.or_eq_true, Bool.not_eq_true'] at h1
  rcases h1.2 with h2 | h2
  · rw [hu] at h2; cases h2
  · rwa [numB, if_pos hu] at h2
/-- All that is left is useful. -/
theorem Kept.used {g : Gram} (h : Kept g (prodG g) (usefulG g (prodG g))) : usefulG (redOf g (prodG g) (usefulG g (prodG g))) (yesB (cntB (usefulG g (prodG g)) g.nonterms.length)) = yesB (cntB (usefulG g (prodG g)) g.nonterms.length) := by
  generalize hU : usefulG g (prodG g) = use at *
  let G := redOf g (prodG g) use
  let n' := cntB use g.nonterms.length
  have hnl : G.nonterms.length = n' := h.nl
  have hfix : stepU G (yesB n') (usefulG G (yesB n')) = usefulG G (yesB n') := lfpB_fix (stepU_mono G _ _) (initU_len G)
  have hup : leB (initU G) (usefulG G (yesB n')) := lfpB_up (stepU_mono G _ _) (initU_len G)
  have hl : (usefulG G (yesB n')).length = n' := by rw [usefulG_len, hnl]
  let T : List Bool := (List.range g.nonterms.length).map fun i => nth use i && nth (usefulG G (yesB n')) (numB use i)
  have hT : ∀ i, i < g.nonterms.length → nth T i = (nth use i && nth (usefulG G (yesB n')) (numB use i)) := fun i hi => nth_range hi
  have hTl : T.length = g.nonterms.length := by simp [T]
  have hs0 := h.v.s0
  have hsn := h.v.sn
  have hst : nth (usefulG G (yesB n')) (numB use g.start.toNat) = true := hup.2 _ (by
    have := h.num h.st
    rw [initU, nth_set (by rw [nob_len, hnl]; show ((numB use g.start.toNat : Int)).toNat < _; omega), if_pos (by show ((numB use g.start.toNat : Int)).toNat = _; omega)])
  have hi : leB (initU g) T := leB_set (nob_le hTl) (by rw [hT _ (by omega), h.st, hst]; rfl)
  have hc : stepU g (prodG g) T = T := stepU_closed fun r hr h1 h2 x hx h0 => by
    have hf := h.v.rule r hr
    have hrn := hf.hn
    have hr0 := hf.h0
    have hlo := hf.lo x hx
    rw [hT _ (by omega), Bool.and_eq_true] at h1
    have hk : keepR (prodG g) use r = true := by simp [keepR, h1.1, h2]
    have hux := h.sym hr hk hx h0
    have hm := h.mem hr hk
    have hnx := h.num hux
    have := stepU_closes (g := G) (is := yesB n') (S := usefulG G (yesB n')) (by rw [hfix]; exact .refl _) hm (by simpa [mapRul] using h1.2)
      (all_map_ok fun y hy hy0 => yesB_at (h.num (h.sym hr hk hy hy0))) (x := mapSym use x) (by simp only [mapRul]; exact List.mem_map_of_mem hx) (by unfold mapSym; rw [if_pos h0]; omega) (by rw [hl]; unfold mapSym; rw [if_pos h0]; omega)
    rw [hT _ (by omega), hux, Bool.true_and]
    rw [mapSym, if_pos h0, show (-1 - (-1 - (numB use (-1 - x).toNat : Int))).toNat = numB use (-1 - x).toNat by omega] at this
    exact this
  have hle : leB use T := by
    rw [← hU]
    exact lfpB_least (stepU_mono g _ _) (initU_len g) hi (by rw [hc]; exact .refl _)
  refine eq_yes hl fun j hj => ?_
  obtain ⟨i, hi, hu, rfl⟩ := cntB_onto hj
  have h1 := hle.2 i hu
  rw [hT i hi, Bool.and_eq_true] at h1
  have := h1.2
  rwa [numB, if_pos hu] at this
theorem Kept.some_rule {g : Gram} {use : List Bool} (h : Kept g (prodG g) use) : 1 ≤ (rulesTo g (prodG g) use g.rules.length).length := by
  rcases Nat.eq_zero_or_pos (rulesTo g (prodG g) use g.rules.length).length with h0 | h0
  · exfalso
    have he : rulesTo g (prodG g) use g.rules.length = [] := List.eq_nil_of_length_eq_zero h0
    have h1 := h.prod
    have h2 : prodG (redOf g (prodG g) use) = nob (redOf g (prodG g) use).nonterms.length :=
      lfpB_eq (stepP_mono _ _) (nob_len _) (.refl _) (stepP_closed fun r (hr : r ∈ rulesTo g (prodG g) use g.rules.length) _ => by rw [he] at hr; cases hr) (fun S hS _ => hS)
    have h3 := h.num h.st
    have h4 : nth (yesB (cntB use g.nonterms.length)) 0 = true := yesB_at (by omega)
    rw [← h1, h2, nob, nth_replicate (by rw [h.nl]; omega)] at h4
    cases h4
  · exact h0
theorem cntB_yes {n : Nat} : ∀ {i : Nat}, i ≤ n → cntB (yesB n) i = i
  | 0, _ => rfl
  | i + 1, h => by rw [cntB_succ, cntB_yes (by omega), if_pos (yesB_at (by omega))]
theorem numB_yes {n i : Nat} (h : i < n) : numB (yesB n) i = i := by rw [numB, if_pos (yesB_at h), cntB_yes (by omega)]
def iota (n : Nat) : List Int := (List.range n).map Int.ofNat
theorem iota_len (n : Nat) : (iota n).length = n := by simp [iota]
theorem iota_at {n i : Nat} (h : i < n) : nth (iota n) i = (i : Int) := nth_range h
theorem full_map {α : Type} [Inhabited α] (l : List α) : (List.range l.length).map (nth l) = l := nth_ext (by simp) fun i hi => by rw [nth_range (by simpa using hi)]
/-- Where all is productive and useful, nothing is left out. -/
theorem red_full {G : Gram} (hv : GVal G) (hp : prodG G = yesB G.nonterms.length) (hu : usefulG G (yesB G.nonterms.length) = yesB G.nonterms.length) : reduceR G = (G, iota G.rules.length, 0) := by
  have hs0 := hv.s0
  have hsn := hv.sn
  have hn : namesTo G (yesB G.nonterms.length) G.nonterms.length = G.nonterms := by
    rw [namesTo, List.filter_eq_self.2 fun i hi => yesB_at (List.mem_range.1 hi), full_map]
  have hk : keptTo G (yesB G.nonterms.length) (yesB G.nonterms.length) G.rules.length = List.range G.rules.length := by
    rw [keptTo, List.filter_eq_self]
    intro i hi
    have hf := hv.rule _ (nth_mem (List.mem_range.1 hi))
    have h0 := hf.h0
    have h1 := hf.hn
    simp only [keepR, Bool.and_eq_true]
    exact ⟨yesB_at (by omega), all_yes hf.lo⟩
  have hr : rulesTo G (yesB G.nonterms.length) (yesB G.nonterms.length) G.rules.length = G.rules := by
    rw [rulesTo, hk]
    refine nth_ext (by simp) fun i hi => ?_
    have hi : i < G.rules.length := by simpa using hi
    rw [nth_range hi]
    have hf := hv.rule _ (nth_mem hi)
    have h0 := hf.h0
    have h1 := hf.hn
    have hb : (nth G.rules i).body.map (mapSym (yesB G.nonterms.length)) = (nth G.rules i).body := by
      conv => rhs; rw [← List.map_id (nth G.rules i).body]
      refine List.map_congr_left fun x hx => ?_
      unfold mapSym
      split
      · have := hf.lo x hx
        rw [numB_yes (by omega)]; simp only [id]; omega
      · rfl
    rw [mapRul, hb, numB_yes (by omega)]
    have : ((nth G.rules i).head.toNat : Int) = (nth G.rules i).head := by omega
    rw [this]
  have hst : ((numB (yesB G.nonterms.length) G.start.toNat : Nat) : Int) = G.start := by rw [numB_yes (by omega)]; omega
  have hsp : nth (prodG G) G.start.toNat = true := by rw [hp]; exact yesB_at (by omega)
  rw [reduceR, if_pos (validG_iff.2 hv), if_pos hsp]
  simp only [redG, hp, hu, hn, hr, hst, fromTo, hk, iota]
/-- The cases of Reduce. -/
theorem reduce_ok {g : Gram} (h : (reduceR g).2.2 = 0) : ∃ _ : Kept g (prodG g) (usefulG g (prodG g)), reduceR g = (redOf g (prodG g) (usefulG g (prodG g)), fromTo g (prodG g) (usefulG g (prodG g)) g.rules.length, 0) := by
  unfold reduceR at h ⊢
  by_cases h1 : validG g = true
  · rw [if_pos h1] at h ⊢
    by_cases h2 : nth (prodG g) g.start.toNat = true
    · rw [if_pos h2]
      exact ⟨kept_of (validG_iff.1 h1) h2, rfl⟩
    · rw [if_neg h2] at h; simp at h
  · rw [if_neg h1] at h; simp at h
theorem reduce_no {g : Gram} (h : (reduceR g).2.2 ≠ 0) : (reduceR g).1 = emptyG := by
  unfold reduceR at h ⊢
  split
  · rename_i h1
    rw [if_pos h1] at h
    split
    · rename_i h2; rw [if_pos h2] at h; exact absurd rfl h
    · rfl
  · rfl
theorem reduce_val {g : Gram} (h : (reduceR g).2.2 = 0) : GVal (reduceR g).1 := by
  obtain ⟨hk, he⟩ := reduce_ok h
  rw [he]; exact hk.val hk.some_rule
theorem reduce_prod {g : Gram} (h : (reduceR g).2.2 = 0) : prodG (reduceR g).1 = yesB (reduceR g).1.nonterms.length := by
  obtain ⟨hk, he⟩ := reduce_ok h
  rw [he]; show prodG (redOf g (prodG g) (usefulG g (prodG g))) = _
  rw [hk.prod]; show _ = yesB (namesTo _ _ _).length
  rw [namesTo_len]
theorem reduce_used {g : Gram} (h : (reduceR g).2.2 = 0) : usefulG (reduceR g).1 (yesB (reduceR g).1.nonterms.length) = yesB (reduceR g).1.nonterms.length := by
  obtain ⟨hk, he⟩ := reduce_ok h
  rw [he]; show usefulG (redOf g (prodG g) (usefulG g (prodG g))) (yesB (namesTo _ _ _).length) = yesB (namesTo _ _ _).length
  rw [namesTo_len]; exact hk.used
theorem reduce_again {g : Gram} (h : (reduceR g).2.2 = 0) : reduceR (reduceR g).1 = ((reduceR g).1, iota (reduceR g).1.rules.length, 0) :=
  red_full (reduce_val h) (reduce_prod h) (reduce_used h)
end Go.Lg

/- The indices that Reduce returns (plain law). -/
namespace Go.Lg
theorem filter_inc (p : Nat → Bool) : ∀ n : Nat, ((List.range n).filter p).Pairwise (· < ·) := fun n => List.Pairwise.filter p List.pairwise_lt_range
theorem nth_pairwise {l : List Nat} (h : l.Pairwise (· < ·)) {i j : Nat} (hij : i < j) (hj : j < l.length) : nth l i < nth l j := by
  rw [nth_eq (by omega), nth_eq hj]
  exact List.pairwise_iff_getElem.1 h i j _ _ hij
structure FromFacts (g r : Gram) (fr : List Int) : Prop where
  v : GVal g
  vr : GVal r
  fl : fr.length = r.rules.length
  st : nth r.nonterms r.start.toNat = nth g.nonterms g.start.toNat
  lo : ∀ i, i < fr.length → 0 ≤ nth fr i
  hi : ∀ i, i < fr.length → nth fr i < g.rules.length
  inc : ∀ i, i < fr.length → 0 < i → nth fr (i - 1) < nth fr i
  price : ∀ i, i < fr.length → (nth r.rules i).price = (nth g.rules (nth fr i).toNat).price
  head : ∀ i, i < fr.length → nth r.nonterms (nth r.rules i).head.toNat = nth g.nonterms (nth g.rules (nth fr i).toNat).head.toNat
  blen : ∀ i, i < fr.length → (nth r.rules i).body.length = (nth g.rules (nth fr i).toNat).body.length
  pos : ∀ i k, i < fr.length → k < (nth r.rules i).body.length → 0 ≤ nth (nth r.rules i).body k → nth (nth r.rules i).body k = nth (nth g.rules (nth fr i).toNat).body k
  neg : ∀ i k, i < fr.length → k < (nth r.rules i).body.length → nth (nth r.rules i).body k < 0 → nth (nth g.rules (nth fr i).toNat).body k < 0 ∧ nth r.nonterms (-1 - nth (nth r.rules i).body k).toNat = nth g.nonterms (-1 - nth (nth g.rules (nth fr i).toNat).body k).toNat
theorem from_facts {g : Gram} (h : (reduceR g).2.2 = 0) : FromFacts g (reduceR g).1 (reduceR g).2.1 := by
  have hvr := reduce_val h
  obtain ⟨hk, he⟩ := reduce_ok h
  rw [he] at hvr ⊢
  generalize hU : usefulG g (prodG g) = use at *
  generalize hI : prodG g = is at *
  simp only
  have hfl : (fromTo g is use g.rules.length).length = (keptTo g is use g.rules.length).length := by simp [fromTo]
  have hfa : ∀ i, i < (keptTo g is use g.rules.length).length → nth (fromTo g is use g.rules.length) i = ((nth (keptTo g is use g.rules.length) i : Nat) : Int) := fun i hi => by
    rw [fromTo, nth_map hi]; rfl
  have hra : ∀ i, i < (keptTo g is use g.rules.length).length → nth (rulesTo g is use g.rules.length) i = mapRul use (nth g.rules (nth (keptTo g is use g.rules.length) i)) := fun i hi => by
    rw [rulesTo, nth_map hi]
  have hmem : ∀ i, i < (keptTo g is use g.rules.length).length → nth (keptTo g is use g.rules.length) i < g.rules.length ∧ keepR is use (nth g.rules (nth (keptTo g is use g.rules.length) i)) = true := fun i hi => by
    have := nth_mem hi
    simpa only [keptTo, List.mem_filter, List.mem_range] using this
  have hname : ∀ j, nth use j = true → nth (namesTo g use g.nonterms.length) (numB use j) = nth g.nonterms j := fun j hj => by
    rw [numB, if_pos hj]; exact names_at hj (by have := nth_lt hj; rw [hk.ul] at this; exact this)
  refine ⟨hk.v, hvr, by simp [fromTo, rulesTo], ?_, ?_, ?_, ?_, ?_, ?_, ?_, ?_, ?_⟩
  · show nth (namesTo g use g.nonterms.length) ((numB use g.start.toNat : Int)).toNat = _
    rw [show ((numB use g.start.toNat : Int)).toNat = numB use g.start.toNat by omega]; exact hname _ hk.st
  · intro i hi; rw [hfl] at hi; rw [hfa i hi]; omega
  · intro i hi; rw [hfl] at hi; rw [hfa i hi]; have := (hmem i hi).1; omega
  · intro i hi h0; rw [hfl] at hi; rw [hfa i hi, hfa (i - 1) (by omega)]
    have := nth_pairwise (filter_inc (fun j => keepR is use (nth g.rules j)) g.rules.length) (i := i - 1) (j := i) (by omega) hi
    exact Int.ofNat_lt.2 this
  · intro i hi; rw [hfl] at hi
    show (nth (rulesTo g is use g.rules.length) i).price = _
    rw [hfa i hi, hra i hi, Int.toNat_natCast]; rfl
  · intro i hi; rw [hfl] at hi
    show nth (namesTo g use g.nonterms.length) (nth (rulesTo g is use g.rules.length) i).head.toNat = _
    rw [hfa i hi, hra i hi, Int.toNat_natCast]
    have := (hmem i hi).2
    simp only [keepR, Bool.and_eq_true] at this
    simp only [mapRul, Int.toNat_natCast]
    exact hname _ this.1
  · intro i hi; rw [hfl] at hi
    show (nth (rulesTo g is use g.rules.length) i).body.length = _
    rw [hfa i hi, hra i hi, Int.toNat_natCast]; simp [mapRul]
  · intro i k hi hkl; rw [hfl] at hi
    show 0 ≤ nth (nth (rulesTo g is use g.rules.length) i).body k → nth (nth (rulesTo g is use g.rules.length) i).body k = _
    have hkl : k < (nth (rulesTo g is use g.rules.length) i).body.length := hkl
    rw [hra i hi] at hkl
    rw [hfa i hi, hra i hi, Int.toNat_natCast]
    simp only [mapRul, List.length_map] at hkl ⊢
    rw [nth_map hkl]
    unfold mapSym
    split
    · intro h; omega
    · intro _; rfl
  · intro i k hi hkl; rw [hfl] at hi
    show nth (nth (rulesTo g is use g.rules.length) i).body k < 0 → _ ∧ nth (namesTo g use g.nonterms.length) (-1 - nth (nth (rulesTo g is use g.rules.length) i).body k).toNat = _
    have hkl : k < (nth (rulesTo g is use g.rules.length) i).body.length := hkl
    rw [hra i hi] at hkl
    rw [hfa i hi, hra i hi, Int.toNat_natCast]
    simp only [mapRul, List.length_map] at hkl ⊢
    rw [nth_map hkl]
    unfold mapSym
    split
    · rename_i h0
      intro _
      refine ⟨h0, ?_⟩
      rw [show ∀ m : Nat, (-1 - (-1 - (m : Int))).toNat = m from fun m => by omega]
      exact hname _ (hk.sym (nth_mem (hmem i hi).1) (hmem i hi).2 (nth_mem hkl) h0)
    · intro h
      have hr := hk.v.rule _ (nth_mem (hmem i hi).1)
      omega
end Go.Lg

/-
  Guarded calls in drawn regions.
-/
namespace Go.Lg
section
variable {P : Program} {n M N i : Nat} {l : List (Nat × AV)} {os : List (Nat × Option AObj)} {d t : Tmp} {ty : TypeId} {pos : String} {af : Array Edge} {ops : Array Oper} {rest : List Oper} {K : List Rec → St → Prop} {rs : List Rec} {j : Nat} {want : Bool} {X : AV}
/-- a guarded call in a drawn region that is known to run -/
theorem rdg_call {g : FuncId} {first cap us us' : List AV} {f : Operand} {args : Array Operand} {tys : Array TypeId} (ht : (ops[j]?).bind (·.dst) = some t) (hg : opq n l (.tmp t) = some (.val (.bool want))) (hf : opq n l f = some (.clo (.func g) first cap)) (has : opqL n l args.toList = some us) (hsub : SubL (first ++ us ++ cap) us') (hp : bdL 0 (first ++ us ++ cap) = true) (hspec : Fn P g us' X)
    (hk : RunD P ops N (i + 1) rest (S n ((d, X) :: l) M os) (rs ++ [⟨some d, [], topq n l (Op.operands (.call ⟨.value f, args, tys⟩)).toList⟩]) K) : RunD P ops N i (⟨some d, .call ⟨.value f, args, tys⟩, ty, pos, af, some (j, want)⟩ :: rest) (S n l M os) rs K := by
  have e := opqL_op (M := M) (os := os) has
  refine ⟨.did (X, .none), _, ⟨rfl, .inr ⟨_, f, g, first, cap, rfl, rfl, opq_op hf, by rw [e]; exact (hspec.sub hsub).spec, by rw [e]; exact hp, rfl⟩, yielded_q ht hg⟩, ?_⟩
  show RunD P ops N (i + 1) rest ((S n l M os).put (some d) X) (rs ++ [⟨some d, [], topIds (S n l M os) _⟩]) K
  rw [topq_ids, S_put]
  exact hk
/-- a guarded pick in a drawn region that is known to run, its condition known -/
theorem rdg_pick_t {c a b : Operand} {x : AV} (ht : (ops[j]?).bind (·.dst) = some t) (hg : opq n l (.tmp t) = some (.val (.bool want))) (hc : opq n l c = some (.val (.bool true))) (ha : opq n l a = some x) (hk : RunD P ops N (i + 1) rest (S n ((d, x) :: l) M os) (rs ++ [⟨some d, [], topq n l [c, a, b]⟩]) K) : RunD P ops N i (⟨some d, .pick c a b, ty, pos, af, some (j, want)⟩ :: rest) (S n l M os) rs K := by
  refine rdg (x, .none) ht hg ?_ ?_
  · simp only [aop, opq_op hc, opq_op ha, pickA, pure']
    split <;> simp_all
  · simp only [St.eff, S_put, Eff.ids]; exact hk
theorem rdg_pick_f {c a b : Operand} {x : AV} (ht : (ops[j]?).bind (·.dst) = some t) (hg : opq n l (.tmp t) = some (.val (.bool want))) (hc : opq n l c = some (.val (.bool false))) (hb : opq n l b = some x) (hk : RunD P ops N (i + 1) rest (S n ((d, x) :: l) M os) (rs ++ [⟨some d, [], topq n l [c, a, b]⟩]) K) : RunD P ops N i (⟨some d, .pick c a b, ty, pos, af, some (j, want)⟩ :: rest) (S n l M os) rs K := by
  refine rdg (x, .none) ht hg ?_ ?_
  · simp only [aop, opq_op hc, opq_op hb, pickA, pure']
    split <;> simp_all
  · simp only [St.eff, S_put, Eff.ids]; exact hk
end
end Go.Lg
