/-
  Part 3 of the proof of PrecedenceUnambiguousCard: the logic over the model, the functions' contracts and the plain laws.
-/
import Derived.Test.YtmgpndmmodkhhaaDoorPu2
import Derived.Laws.StructEq

set_option linter.unusedSimpArgs false
set_option linter.unusedVariables false
set_option linter.unusedSectionVars false
set_option linter.defProp false

namespace Go.Lg
open Go.RowKit
def fieldA (ti : TI) (f : Nat) : AV -> Option AV
  | .ptr id k i j => match ti.fields[f]? with
    | some (off, sz) => if sz = 0 then none else some (.ptr id k i (j + off))
    | none => none
  | .iptr cs j => match ti.fields[f]? with
    | some (off, sz) => if sz = 0 then none else some (.iptr cs (j + off))
    | none => none
  | _ => none
def indexA (te : TI) (x ix : AV) : Option AV :=
 match ix with
 | .val (.int _ n) => if 0 <= n then
   match x with
   | .sl k es => if k = te.size then (es[n.toNat]?).map fun e => .iptr e.cells 0 else none
   | .ref id k off len => if k = te.size /\ n.toNat < len then some (.ptr id k (off + n.toNat) 0) else none
   | _ => none
  else none
 | _ => none
def bget (s : ByteArray) (i : Nat) : Option UInt8 := s.data.toList[i]?
def sindexA (x ix : AV) : Option AV :=
 match x, ix with
 | .val (.string s), .val (.int _ n) => if 0 <= n then (bget s n.toNat).map fun b => .val (.int .u8 b.toNat) else none
 | _, _ => none
def lenA (look : Nat -> Option AObj) : AV -> Option Nat
  | .sl _ es => some es.length
  | .ref _ _ _ len => some len
  | .val (.slice _ n _) => some n
  | .val (.string s) => some s.size
  | .map id => match look id with
    | some (.map m) => some m.length
    | _ => none
  | _ => none
def bound (o : Option AV) (d : Nat) : Option Nat :=
 match o with
 | none => some d
 | some (.val (.int _ n)) => if 0 <= n then some n.toNat else none
 | _ => none
def sliceA (te : TI) (x : AV) (lo hi : Option AV) : Option AV :=
 match x with
 | .sl k es => if k = te.size then (bound lo 0).bind fun l => (bound hi es.length).bind fun h => if l <= h /\ h <= es.length then some (.sl k ((es.take h).drop l)) else none else none
 | .ref id k off len => if k = te.size then (bound lo 0).bind fun l => (bound hi len).bind fun h => if l < h /\ h <= len then some (.ref id k (off + l) (h - l)) else none else none
 | _ => none
def ssliceA (x : AV) (lo hi : Option AV) : Option AV :=
 match x with
 | .val (.string s) => (bound lo 0).bind fun l => (bound hi s.size).bind fun h => if l <= h /\ h <= s.size then some (.val (.string (s.extract l h))) else none
 | _ => none
def inr (k : IntKind) (n : Int) : Prop := k.min <= n /\ n <= k.max
instance (k : IntKind) (n : Int) : Decidable (inr k n) := by unfold inr; infer_instance
theorem inr_wrap {k : IntKind} {n : Int} (h : inr k n) : k.wrap n = n := by
 cases k <;> simp [inr, IntKind.min, IntKind.max, IntKind.signed, IntKind.bits] at h
 ·exact IntWalk.i8_in n h
 ·exact IntWalk.i16_in n h
 ·exact IntWalk.i32_in n h
 ·exact IntWalk.i64_in n h
 ·exact IntWalk.u8_in n h
 ·exact IntWalk.u16_in n h
 ·exact IntWalk.u32_in n h
 ·exact IntWalk.u64_in n h
theorem inr_i64 (n : Int) : inr .i64 n ↔ -9223372036854775808 <= n /\ n <= 9223372036854775807 := by simp [inr, IntKind.min, IntKind.max, IntKind.signed, IntKind.bits]
theorem inr_u8 (n : Int) : inr .u8 n ↔ 0 <= n /\ n <= 255 := by simp [inr, IntKind.min, IntKind.max, IntKind.signed, IntKind.bits]
def shrI (k : IntKind) (a b : Int) : Int := a.fdiv (2 ^ (min b.toNat k.bits))
def binA (op : BinOp) (x y : AV) : Option AV :=
 match x, y with
 | .val (.int k a), .val (.int k' b) => if k = k' then
   match op with
   | .add => if inr k (a + b) then some (.val (.int k (a + b))) else some (.val (.int k (k.wrap (a + b))))
   | .sub => if inr k (a - b) then some (.val (.int k (a - b))) else some (.val (.int k (k.wrap (a - b))))
   | .mul => if inr k (a * b) then some (.val (.int k (a * b))) else none
   | .quo => if b ≠ 0 /\ inr k (a.tdiv b) then some (.val (.int k (a.tdiv b))) else none
   | .rem => if b ≠ 0 then some (.val (.int k (a.tmod b))) else none
   | .shr => if 0 <= b then some (.val (.int k (shrI k a b))) else none
   | .eql => some (.val (.bool (decide (a = b))))
   | .neq => some (.val (.bool (decide (a ≠ b))))
   | .lss => some (.val (.bool (decide (a < b))))
   | .leq => some (.val (.bool (decide (a <= b))))
   | .gtr => some (.val (.bool (decide (b < a))))
   | .geq => some (.val (.bool (decide (b <= a))))
   | _ => none
  else none
 | .val (.string a), .val (.string b) =>
   match op with
   | .eql => some (.val (.bool (decide (a = b))))
   | .neq => some (.val (.bool (decide (a ≠ b))))
   | .add => if a.size + b.size <= 9223372036854775807 then some (.val (.string (a ++ b))) else none
   | .lss => some (.val (.bool (Op.bytesLess a.toList b.toList)))
   | _ => none
 | _, _ => none
def unA (op : UnOp) (x : AV) : Option AV :=
 match op, x with
 | .not, .val (.bool b) => some (.val (.bool !b))
 | .neg, .val (.int k n) => if inr k (0 - n) then some (.val (.int k (0 - n))) else none
 | _, _ => none
def pickA (c x y : AV) : Option AV :=
  match c with
  | .val (.bool b) => match x, y with
    | .val (.bool p), .val (.bool q) => some (.val (.bool (if b then p else q)))
    | x, y => some (if b then x else y)
  | _ => none
def fieldVA (P : Program) (t : TypeId) (i : Nat) (x : AV) : Option AV :=
 match P.underlying t, x with
 | some (.struct fields), .agg cs => (fields[i]?).bind fun f => (tinfo P f.type).bind fun ti => part ti cs f.offset
 | _, _ => none
def extractA (x : AV) (i : Nat) : Option AV :=
 match x with
 | .tup vs => vs[i]?
 | _ => none
section
variable {P : Program} {t : TypeId} {ti : TI} {A : Nat -> Prop} {ρ : Nat -> Option Nat} {I : Nat -> Prop} {w : World}
theorem fields_spec (ht : tinfo P t = some ti) {f off sz : Nat} (hf : ti.fields[f]? = some (off, sz)) (hz : sz ≠ 0) :
  ∃ fs fd i, P.underlying t = some (.struct fs) /\ fs[f]? = some fd /\ fd.offset = off /\ P.info? fd.type = some i /\ i.size = sz := by
 obtain ⟨d, i, hd, hi, rfl⟩ := tinfo_of ht
 cases d with
 | struct fs =>
  simp only [fieldsD, List.getElem?_map, Option.map_eq_some_iff, Prod.mk.injEq] at hf
  obtain ⟨fd, hfd, rfl, hs⟩ := hf
  cases hq : P.info? fd.type with
  | none => simp [hq] at hs; exact absurd hs.symm hz
  | some i' => exact ⟨fs, fd, i', hd, by simpa using hfd, rfl, hq, by simpa [hq] using hs⟩
 | _ => simp [fieldsD] at hf
theorem run_fieldAt (ht : tinfo P t = some ti) {f off sz : Nat} (hf : ti.fields[f]? = some (off, sz)) (hz : sz ≠ 0) (b o : Nat) :
  (Instr.fieldAt t (.pointer (some ⟨b, o, none⟩)) f).run P w = .ok (.pointer (some ⟨b, o + off, none⟩)) w := by
 obtain ⟨fs, fd, i, hd, hfd, rfl, hq, rfl⟩ := fields_spec ht hf hz
 simp [Instr.fieldAt, run_underlying hd, hfd, Instr.sureAddr, fieldPlace, sizeOf, typeInfo, hq, hz, add_lit]
theorem fieldA_sound (ht : tinfo P t = some ti) {f : Nat} {x y : AV} {v : Value} (hx : RV A ρ I w x v) (h : fieldA ti f x = some y) : ∃ u, (Instr.fieldAt t v f).run P w = .ok u w /\ RV A ρ I w y u := by
 cases hx with
 | @ptr id k i j b hA hb =>
  simp only [fieldA] at h
  split at h
  ·rename_i off sz hf
   split at h
   ·cases h
   ·rename_i hz
    injection h with h
    subst h
    refine ⟨_, run_fieldAt ht hf hz _ _, ?_⟩
    rw [Nat.add_assoc]
    exact .ptr hA hb
  ·cases h
 | @iptr cs j b o g hI hc ha hr =>
  simp only [fieldA] at h
  split at h
  ·rename_i off sz hf
   split at h
   ·cases h
   ·rename_i hz
    injection h with h
    subst h
    refine ⟨_, run_fieldAt ht hf hz _ _, ?_⟩
    rw [Nat.add_assoc]
    exact .iptr g hI hc ha hr
  ·cases h
 | _ => simp [fieldA] at h
theorem elem_spec (ht : tinfo P t = some ti) {e : TypeId} (he : ti.elem = some e) : P.underlying t = some (.slice e) := by
 obtain ⟨d, i, hd, hi, rfl⟩ := tinfo_of ht
 cases d <;> simp [elemD] at he
 subst he
 exact hd
theorem run_indexAt (ht : tinfo P t = some ti) {e : TypeId} (he : ti.elem = some e) {te : TI} (hte : tinfo P e = some te) (b o len cap : Nat) (kd : IntKind) (n : Int) (h0 : 0 <= n) (hn : n.toNat < len) :
  (Instr.indexAt t (.slice (some ⟨b, o, none⟩) len cap) (.int kd n)).run P w = .ok (.pointer (some ⟨b, o + n.toNat * te.size, none⟩)) w := by
 have hu := elem_spec ht he
 have hlt : n < (len : Int) := by omega
 simp [Instr.indexAt, asIntOf, run_underlying hu, h0, hlt, run_sizeOf hte, add_lit]
theorem indexA_sound (ht : tinfo P t = some ti) {e : TypeId} (he : ti.elem = some e) {te : TI} (hte : tinfo P e = some te) {x ix y : AV} {v u : Value} (hx : RV A ρ I w x v) (hix : RV A ρ I w ix u) (h : indexA te x ix = some y) :
  ∃ z, (Instr.indexAt t v u).run P w = .ok z w /\ RV A ρ I w y z := by
 unfold indexA at h
 split at h
 ·rename_i kd n
  cases hix
  split at h
  ·rename_i h0
   cases hx with
   | nils => simp at h
   | @sl k es b o c g hn hI hk hc ha hr =>
    simp only at h
    split at h
    ·rename_i hks
     subst hks
     cases hg : es[n.toNat]? with
     | none => simp [hg] at h
     | some el =>
      simp only [hg, Option.map_some, Option.some.injEq] at h
      subst h
      have hlt : n.toNat < es.length := (List.getElem?_eq_some_iff.1 hg).1
      have hek := hk el (List.mem_of_getElem? hg)
      have hb : ∀ i, i < el.cells.length -> n.toNat * te.size + i < (flat es).length := fun i hi => by
       have := flat_bound hk hlt (j := i + 1) (by omega); omega
      refine ⟨_, run_indexAt ht he hte b o es.length c kd n h0 hlt, .iptr (j := 0) (fun i => g (n.toNat * te.size + i)) hI (fun i hi => by have := hc _ (hb i hi); rwa [<- Nat.add_assoc] at this) (fun i hi => ha _ (hb i hi)) (fun i x hx => ?_)⟩
      have hi : i < el.cells.length := (List.getElem?_eq_some_iff.1 hx).1
      exact hr _ _ (by rw [flat_get hk n.toNat i el hg (by omega)]; exact hx)
    ·cases h
   | @ref id k off len cap b hA hb hl hs hm =>
    simp only at h
    split at h
    ·rename_i hks
     obtain ⟨rfl, hlt⟩ := hks
     injection h with h
     subst h
     refine ⟨_, run_indexAt ht he hte b _ len cap kd n h0 hlt, ?_⟩
     have := RV.ptr (I := I) (w := w) (k := te.size) (i := off + n.toNat) (j := 0) hA hb
     rwa [Nat.add_zero, Nat.add_mul] at this
    ·cases h
   | refn hA hb => simp at h
   | _ => simp at h
  ·cases h
 ·cases h
theorem string_get (s : ByteArray) (i : Nat) : s[i]? = bget s i := by
 unfold bget
 by_cases h : i < s.size
 ·rw [getElem?_pos s i h, List.getElem?_eq_getElem (by simpa using h)]
  rfl
 ·rw [getElem?_neg s i h, List.getElem?_eq_none (by simpa using h)]
theorem sindexA_sound (ht : P.underlying t = some .string) {x ix y : AV} {v u : Value} (hx : RV A ρ I w x v) (hix : RV A ρ I w ix u) (h : sindexA x ix = some y) :
  ∃ z, (Instr.index t v u).run P w = .ok z w /\ RV A ρ I w y z := by
 unfold sindexA at h
 split at h
 ·rename_i s kd n
  cases hx; cases hix
  split at h
  ·rename_i h0
   simp only [Option.map_eq_some_iff] at h
   obtain ⟨b, hb, rfl⟩ := h
   refine ⟨.int .u8 b.toNat, ?_, .val rfl⟩
   simp [Instr.index, asIntOf, run_underlying ht, h0, string_get, hb]
  ·cases h
 ·cases h
theorem bound_sound {o : Option AV} {d n : Nat} {ov : Option Value} (ho : match o, ov with | none, none => True | some x, some v => RV A ρ I w x v | _, _ => False) (h : bound o d = some n) :
  (o = none /\ ov = none /\ n = d) \/ ∃ k m, ov = some (.int k m) /\ 0 <= m /\ m.toNat = n := by
 unfold bound at h
 split at h
 ·cases ov with
  | none => injection h with h; exact .inl ⟨rfl, rfl, h.symm⟩
  | some v => exact ho.elim
 ·rename_i k m
  cases ov with
  | none => exact ho.elim
  | some v =>
   simp only at ho
   cases ho
   split at h
   ·rename_i h0
    injection h with h
    exact .inr ⟨k, m, rfl, h0, h⟩
   ·cases h
 ·cases h
theorem run_slice_bounds {lo hi : Option Value} {len cap l h : Nat} {sl : Bool} (hlo : (lo = none /\ l = 0) \/ ∃ k m, lo = some (.int k m) /\ 0 <= m /\ m.toNat = l)
  (hhi : (hi = none /\ h = len) \/ ∃ k m, hi = some (.int k m) /\ 0 <= m /\ m.toNat = h) (h1 : l <= h) (h2 : h <= len) (h3 : len <= cap) :
  (Instr.sliceBounds sl len cap lo hi none).run P w = .ok (l, h, cap) w := by
 have sb : ∀ (k : IntKind) (m : Int) (y n : Nat) (c : BoundsCode), 0 <= m -> m.toNat = n -> n <= y -> (Instr.sliceBound (.int k m) y c).run P w = .ok n w := by
  intro k m y n c h0 hn hy
  have : m <= (y : Int) := by omega
  simp [Instr.sliceBound, asIntOf, h0, this, hn]
 rcases hlo with ⟨rfl, rfl⟩ | ⟨k, m, rfl, h0, hm⟩ <;> rcases hhi with ⟨rfl, rfl⟩ | ⟨k', m', rfl, h0', hm'⟩
 ·simp [Instr.sliceBounds]
 ·simp [Instr.sliceBounds, sb k' m' cap h _ h0' hm' (by omega)]
 ·simp [Instr.sliceBounds, sb k m _ l _ h0 hm h1]
 ·simp [Instr.sliceBounds, sb k' m' cap h _ h0' hm' (by omega), sb k m _ l _ h0 hm h1]
end
def okOpt (R : AV -> Value -> Prop) : Option AV -> Option Value -> Prop
 | none, none => True
 | some x, some v => R x v
 | _, _ => False
section
variable {P : Program} {t : TypeId} {ti : TI} {A : Nat -> Prop} {ρ : Nat -> Option Nat} {I : Nat -> Prop} {w : World}
theorem bound_ok {o : Option AV} {d n : Nat} {ov : Option Value} (ho : okOpt (RV A ρ I w) o ov) (h : bound o d = some n) : (ov = none /\ n = d) \/ ∃ k m, ov = some (.int k m) /\ 0 <= m /\ m.toNat = n := by
 rcases bound_sound (o := o) (ov := ov) (by cases o <;> cases ov <;> exact ho) h with ⟨_, h1, h2⟩ | h
 ·exact .inl ⟨h1, h2⟩
 ·exact .inr h
theorem sliceA_sound (ht : tinfo P t = some ti) {e : TypeId} (he : ti.elem = some e) {te : TI} (hte : tinfo P e = some te) {x y : AV} {v : Value} {lo hi : Option AV} {lv hv : Option Value}
  (hx : RV A ρ I w x v) (hlo : okOpt (RV A ρ I w) lo lv) (hhi : okOpt (RV A ρ I w) hi hv) (h : sliceA te x lo hi = some y) :
  ∃ z, (Instr.sliceAt t v lv hv none).run P w = .ok z w /\ RV A ρ I w y z := by
 have hu := elem_spec ht he
 cases hx with
 | @nils k a c =>
  simp only [sliceA] at h
  split at h
  ·simp only [Option.bind_eq_some_iff] at h
   obtain ⟨l, hl, r, hr, h⟩ := h
   split at h
   ·rename_i hb
    injection h with h
    subst h
    have h1 := bound_ok hlo hl
    have h2 := bound_ok hhi hr
    simp only [List.length_nil] at hb h2
    have hs := run_slice_bounds (P := P) (w := w) (sl := true) (cap := c) h1 h2 hb.1 hb.2 (by omega)
    obtain rfl : r = 0 := by omega
    obtain rfl : l = 0 := by omega
    refine ⟨.slice (if c = 0 then a else a.map (·.add (0 * te.size))) (0 - 0) (c - 0), ?_, ?_⟩
    ·simp [Instr.sliceAt, Instr.slice, run_underlying hu, hs, run_sizeOf hte]
    ·simpa using RV.nils
   ·cases h
  ·cases h
 | @sl k es b o c g hn hI hk hc ha hr =>
  simp only [sliceA] at h
  split at h
  ·rename_i hks
   subst hks
   simp only [Option.bind_eq_some_iff] at h
   obtain ⟨l, hl, r, hrr, h⟩ := h
   split at h
   ·rename_i hb
    injection h with h
    subst h
    have h1 := bound_ok hlo hl
    have h2 := bound_ok hhi hrr
    have hs := run_slice_bounds (P := P) (w := w) (sl := true) (cap := c) h1 h2 hb.1 hb.2 hn.1
    have hlen : ((es.take r).drop l).length = r - l := by simp; omega
    refine ⟨.slice (if c = l then some ⟨b, o, none⟩ else some ⟨b, o + l * te.size, none⟩) (r - l) (c - l), ?_, ?_⟩
    ·simp [Instr.sliceAt, Instr.slice, run_underlying hu, hs, run_sizeOf hte, add_lit]
    ·by_cases hz : r = l
     ·subst hz
      have : (es.take r).drop r = [] := by rw [List.drop_eq_nil_iff]; simp; omega
      rw [this, Nat.sub_self]
      exact .nils
     ·have hcl : ¬ c = l := by omega
      rw [if_neg hcl, <- hlen]
      have hsub : ∀ e, e ∈ (es.take r).drop l -> e ∈ es := fun e he => List.mem_of_mem_take (List.mem_of_mem_drop he)
      have hfl := flat_length hk
      have hf : ∀ j, j < (flat ((es.take r).drop l)).length -> (flat ((es.take r).drop l))[j]? = (flat es)[l * te.size + j]? := by
       intro j hj
       have e1 : es = es.take l ++ (es.take r).drop l ++ es.drop r := by
        have : es.take l = (es.take r).take l := by rw [List.take_take, Nat.min_eq_left hb.1]
        rw [this, List.take_append_drop, List.take_append_drop]
       have hl1 : (flat (es.take l)).length = l * te.size := by
        rw [flat_length (k := te.size) (fun e he => hk e (List.mem_of_mem_take he)), List.length_take, Nat.min_eq_left (by omega)]
       conv => rhs; rw [e1]
       rw [flat_append, flat_append, List.append_assoc, List.getElem?_append_right (by omega), hl1, Nat.add_sub_cancel_left, List.getElem?_append_left hj]
      have hlt : ∀ j, j < (flat ((es.take r).drop l)).length -> l * te.size + j < (flat es).length := by
       intro j hj
       have := hf j hj
       rw [List.getElem?_eq_getElem hj] at this
       exact (List.getElem?_eq_some_iff.1 this.symm).1
      refine .sl (fun j => g (l * te.size + j)) (by omega) hI (fun e he => hk e (hsub e he)) (fun j hj => by rw [Nat.add_assoc]; exact hc _ (hlt j hj)) (fun j hj => ha _ (hlt j hj)) (fun j x hx => ?_)
      have hj : j < (flat ((es.take r).drop l)).length := (List.getElem?_eq_some_iff.1 hx).1
      exact hr _ _ (by rw [<- hf j hj]; exact hx)
   ·cases h
  ·cases h
 | @ref id k off len cap b hA hb hl hs hm =>
  simp only [sliceA] at h
  split at h
  ·rename_i hks
   subst hks
   simp only [Option.bind_eq_some_iff] at h
   obtain ⟨l, hll, r, hrr, h⟩ := h
   split at h
   ·rename_i hbd
    injection h with h
    subst h
    have h1 := bound_ok hlo hll
    have h2 := bound_ok hhi hrr
    have hsb := run_slice_bounds (P := P) (w := w) (sl := true) (cap := cap) h1 h2 (by omega) hbd.2 hl
    have hcl : ¬ cap = l := by omega
    refine ⟨.slice (some ⟨b, off * te.size + l * te.size, none⟩) (r - l) (cap - l), ?_, ?_⟩
    ·simp [Instr.sliceAt, Instr.slice, run_underlying hu, hsb, run_sizeOf hte, add_lit, hcl]
    ·rw [<- Nat.add_mul]
     exact .ref hA hb (by omega) (by rw [hs]; congr 2; omega) (by omega)
   ·cases h
  ·cases h
 | refn hA hb =>
  simp only [sliceA] at h
  split at h
  ·simp only [Option.bind_eq_some_iff] at h
   obtain ⟨l, _, r, _, h⟩ := h
   split at h
   ·omega
   ·cases h
  ·cases h
 | _ => simp [sliceA] at h
theorem ssliceA_sound (ht : P.underlying t = some .string) {x y : AV} {v : Value} {lo hi : Option AV} {lv hv : Option Value}
  (hx : RV A ρ I w x v) (hlo : okOpt (RV A ρ I w) lo lv) (hhi : okOpt (RV A ρ I w) hi hv) (h : ssliceA x lo hi = some y) :
  ∃ z, (Instr.sliceAt t v lv hv none).run P w = .ok z w /\ RV A ρ I w y z := by
 unfold ssliceA at h
 split at h
 ·rename_i s
  cases hx
  simp only [Option.bind_eq_some_iff] at h
  obtain ⟨l, hll, r', hrr, h⟩ := h
  split at h
  ·rename_i hbd
   injection h with h
   subst h
   have h1 := bound_ok hlo hll
   have h2 := bound_ok hhi hrr
   have hsb := run_slice_bounds (P := P) (w := w) (sl := false) (cap := s.size) h1 h2 hbd.1 hbd.2 (Nat.le_refl _)
   exact ⟨.string (s.extract l r'), by simp [Instr.sliceAt, Instr.slice, run_underlying ht, hsb], .val rfl⟩
  ·cases h
 ·cases h
theorem barr_eq (a b : ByteArray) : (a.toList == b.toList) = decide (a = b) := by
 have h : ∀ x : ByteArray, x.toList = x.data.toList := fun x => ByteArray.toList_eq x
 rw [h, h]
 by_cases e : a = b
 ·subst e; simp
 ·rw [decide_eq_false e]
  cases a; cases b
  rw [beq_eq_false_iff_ne]
  intro h'
  exact e (by congr; exact Array.ext' h')
theorem binA_sound {op : BinOp} {x y z : AV} {v u : Value} (hx : RV A ρ I w x v) (hy : RV A ρ I w y u) (h : binA op x y = some z) (t : TypeId) (ox oy : Operand) :
  ∃ r, (do eqGuard op t ox oy v u; binOp op t v u).run P w = .ok r w /\ RV A ρ I w z r := by
 unfold binA at h
 split at h
 ·rename_i k a k' b
  cases hx; cases hy
  split at h
  ·rename_i hk
   subst hk
   cases op <;> simp only at h
   case add =>
    split at h
    ·rename_i hr
     injection h with h; subst h
     exact ⟨.int k (a + b), by simp [eqGuard, binOp, Op.intArith, inr_wrap hr], .val rfl⟩
    ·injection h with h; subst h
     exact ⟨.int k (k.wrap (a + b)), by simp [eqGuard, binOp, Op.intArith], .val rfl⟩
   case sub =>
    split at h
    ·rename_i hr
     injection h with h; subst h
     exact ⟨.int k (a - b), by simp [eqGuard, binOp, Op.intArith, inr_wrap hr], .val rfl⟩
    ·injection h with h; subst h
     exact ⟨.int k (k.wrap (a - b)), by simp [eqGuard, binOp, Op.intArith], .val rfl⟩
   case mul =>
    split at h
    ·rename_i hr
     injection h with h; subst h
     exact ⟨.int k (a * b), by simp [eqGuard, binOp, Op.intArith, inr_wrap hr], .val rfl⟩
    ·cases h
   case quo =>
    split at h
    ·rename_i hr
     injection h with h; subst h
     exact ⟨.int k (a.tdiv b), by simp [eqGuard, binOp, Op.intDiv, hr.1, inr_wrap hr.2], .val rfl⟩
    ·cases h
   case rem =>
    split at h
    ·rename_i hr
     injection h with h; subst h
     exact ⟨.int k (a.tmod b), by simp [eqGuard, binOp, Op.intDiv, hr], .val rfl⟩
    ·cases h
   case shr =>
    split at h
    ·rename_i hr
     injection h with h; subst h
     have hr' : ¬ b < 0 := by omega
     exact ⟨.int k (shrI k a b), by simp [eqGuard, binOp, Op.shift, hr', shrI], .val rfl⟩
    ·cases h
   case eql => injection h with h; subst h; exact ⟨.bool (a == b), by simp [eqGuard, binOp, Op.intCmp], by rw [show (a == b) = decide (a = b) from rfl]; exact .val rfl⟩
   case neq => injection h with h; subst h; exact ⟨.bool (a != b), by simp [eqGuard, binOp, Op.intCmp], by rw [show (a != b) = decide (a ≠ b) by by_cases e : a = b <;> simp [e]]; exact .val rfl⟩
   case lss => injection h with h; subst h; exact ⟨.bool (decide (a < b)), by simp [eqGuard, binOp, Op.intCmp], .val rfl⟩
   case leq => injection h with h; subst h; exact ⟨.bool (decide (a <= b)), by simp [eqGuard, binOp, Op.intCmp], .val rfl⟩
   case gtr => injection h with h; subst h; exact ⟨.bool (decide (b < a)), by simp [eqGuard, binOp, Op.intCmp], .val rfl⟩
   case geq => injection h with h; subst h; exact ⟨.bool (decide (b <= a)), by simp [eqGuard, binOp, Op.intCmp], .val rfl⟩
   all_goals cases h
  ·cases h
 ·rename_i a b
  cases hx; cases hy
  have hb := barr_eq a b
  cases op <;> simp only at h
  case add =>
   split at h
   ·rename_i hr
    injection h with h; subst h
    have : ¬ ((9223372036854775807 : Int) < (a.size : Int) + (b.size : Int)) := by omega
    exact ⟨.string (a ++ b), by simp [eqGuard, binOp, Op.stringOp, IntKind.max, IntKind.signed, IntKind.bits, this], .val rfl⟩
   ·cases h
  case eql => injection h with h; subst h; exact ⟨.bool (a.toList == b.toList), by simp [eqGuard, binOp, Op.stringOp], by rw [hb]; exact .val rfl⟩
  case neq => injection h with h; subst h; exact ⟨.bool (!(a.toList == b.toList)), by simp [eqGuard, binOp, Op.stringOp], by rw [hb, show (!decide (a = b)) = decide (a ≠ b) by by_cases e : a = b <;> simp [e]]; exact .val rfl⟩
  case lss => injection h with h; subst h; exact ⟨.bool (Op.bytesLess a.toList b.toList), by simp [eqGuard, binOp, Op.stringOp], .val rfl⟩
  all_goals cases h
 ·cases h
def eqFs (P : Program) : Nat -> List Field -> List AV -> List AV -> Option Bool
 | _, [], _, _ => some true
 | i, f :: fs, .val (.int k a) :: xs, .val (.int k' b) :: ys => if k = k' ∧ f.offset = i ∧ f.name ≠ "_" then
   match P.underlying f.type with
   | some (.int _) => (eqFs P (i + 1) fs xs ys).map (decide (a = b) && ·)
   | _ => none
  else none
 | _, _ :: _, _, _ => none
theorem eqFs_sound {us vs : Array Value} (d : Nat) : ∀ (fs : List Field) (i : Nat) (xs ys : List AV) (b : Bool), (∀ j x, xs[j]? = some x -> ∃ v, us[i + j]? = some v /\ RV A ρ I w x v) -> (∀ j x, ys[j]? = some x -> ∃ v, vs[i + j]? = some v /\ RV A ρ I w x v) ->
    eqFs P i fs xs ys = some b -> (Op.eqFields (d + 1) us vs fs).run P w = .ok b w
  | [], i, xs, ys, b, _, _, h => by
    simp only [eqFs, Option.some.injEq] at h
    subst h
    simp [Op.eqFields]
  | f :: fs, i, xs, ys, b, hx, hy, h => by
    unfold eqFs at h
    split at h
    · rename_i he; cases he
    · rename_i i' f' fs' k a xs k' c ys' heq
      cases heq
      split at h
      · rename_i hc
        obtain ⟨rfl, rfl, hn⟩ := hc
        split at h
        · rename_i hu
          obtain ⟨b', hb', rfl⟩ := Option.map_eq_some_iff.1 h
          obtain ⟨u, hu1, hu2⟩ := hx 0 _ rfl
          obtain ⟨v, hv1, hv2⟩ := hy 0 _ rfl
          cases hu2; cases hv2
          rw [Nat.add_zero] at hu1 hv1
          have ih := eqFs_sound d fs (f.offset + 1) xs ys' b' (fun j x hj => by have := hx (j + 1) x (by simpa using hj); rwa [show f.offset + (j + 1) = f.offset + 1 + j by omega] at this) (fun j x hj => by have := hy (j + 1) x (by simpa using hj); rwa [show f.offset + (j + 1) = f.offset + 1 + j by omega] at this) hb'
          have p1 : (Go.part f.type us f.offset).run P w = Result.ok (.int k a) w := by simp [Go.part, Go.isAgg, run_underlying hu, hu1]
          have p2 : (Go.part f.type vs f.offset).run P w = Result.ok (.int k c) w := by simp [Go.part, Go.isAgg, run_underlying hu, hv1]
          simp only [Op.eqFields, if_pos hn, Sem.run_bind, p1, Result.andThen_ok, p2, run_equalIn_int _ _ _ _ _ _ _ hu]
          by_cases e : a = c
          · subst e; simp [ih]
          · have : (a == c) = false := by simpa using e
            simp [this, e]
        · cases h
      · cases h
    · cases h
def eqT (P : Program) (t : TypeId) (xs ys : List AV) : Option Bool :=
 match P.underlying t with
 | some (.struct fs) => if P.stoodInHeld t = false /\ P.eqGuardType P.depth t = false then eqFs P 0 fs.toList xs ys else none
 | _ => none
theorem eqT_sound {t : TypeId} {xs ys : List AV} {b : Bool} {v u : Value} (hx : RV A ρ I w (.agg xs) v) (hy : RV A ρ I w (.agg ys) u) (h : eqT P t xs ys = some b) (op : BinOp) (ox oy : Operand) :
  (eqGuard op t ox oy v u).run P w = .ok () w /\ (Op.equalIn 10000 t v u).run P w = .ok b w /\ ∃ us vs, v = .agg us /\ u = .agg vs := by
 unfold eqT at h
 split at h
 ·rename_i fs hf
  split at h
  ·rename_i hc
   cases hx with
   | @agg _ us hl _ ha =>
    cases hy with
    | @agg _ vs hl' _ ha' =>
     refine ⟨run_eqGuard_agg w op t ox oy _ _ hc.2, ?_, _, _, rfl, rfl⟩
     have hfo : P.fieldsOf t = fs := by simp [Program.fieldsOf, hf]
     rw [run_equalIn_agg w 9999 t _ _ (by rw [hfo]; exact hf) hc.1, hfo]
     refine eqFs_sound (A := A) (ρ := ρ) (I := I) 9998 fs.toList 0 xs ys b ?_ ?_ h
     ·intro j x hj
      have hlt := (List.getElem?_eq_some_iff.1 hj).1
      exact ⟨us[j]'(by omega), by rw [Nat.zero_add]; exact Array.getElem?_eq_getElem (by omega), ha j x _ hj (Array.getElem?_eq_getElem (by omega))⟩
     ·intro j x hj
      have hlt := (List.getElem?_eq_some_iff.1 hj).1
      exact ⟨vs[j]'(by omega), by rw [Nat.zero_add]; exact Array.getElem?_eq_getElem (by omega), ha' j x _ hj (Array.getElem?_eq_getElem (by omega))⟩
  ·cases h
 ·cases h
def binT (P : Program) (op : BinOp) (t : TypeId) (x y : AV) : Option AV :=
  match x, y with
  | .val (.bool a), .val (.bool b) => match P.underlying t, op with
    | some .bool, .eql => some (.val (.bool (decide (a = b))))
    | some .bool, .neq => some (.val (.bool (!decide (a = b))))
    | _, _ => none
  | .agg xs, .agg ys => match op with
    | .eql => (eqT P t xs ys).map fun b => .val (.bool b)
    | .neq => (eqT P t xs ys).map fun b => .val (.bool !b)
    | _ => none
  | x, y => binA op x y
theorem binT_sound {op : BinOp} {x y z : AV} {v u : Value} (hx : RV A ρ I w x v) (hy : RV A ρ I w y u) (t : TypeId) (h : binT P op t x y = some z) (ox oy : Operand) :
  ∃ r, (do eqGuard op t ox oy v u; binOp op t v u).run P w = .ok r w /\ RV A ρ I w z r := by
 unfold binT at h
 split at h
 ·rename_i a b
  cases hx; cases hy
  have hq : ∀ d, P.underlying t = some .bool -> (Op.equalIn (d + 1) t (.bool a) (.bool b)).run P w = .ok (a == b) w := fun d hd => by
   simp [Op.equalIn, run_underlying hd]
  split at h
  ·rename_i hd
   injection h with h; subst h
   exact ⟨.bool (a == b), by simp [eqGuard, binOp, Op.equal, Op.maxDepth, hq 9999 hd], by rw [show (a == b) = decide (a = b) by cases a <;> cases b <;> rfl]; exact .val rfl⟩
  ·rename_i hd
   injection h with h; subst h
   exact ⟨.bool (!(a == b)), by simp [eqGuard, binOp, Op.equal, Op.maxDepth, hq 9999 hd], by rw [show (a == b) = decide (a = b) by cases a <;> cases b <;> rfl]; exact .val rfl⟩
  ·cases h
 ·rename_i xs ys
  split at h
  ·obtain ⟨b, hb, rfl⟩ := Option.map_eq_some_iff.1 h
   obtain ⟨h1, h2, us, vs, rfl, rfl⟩ := eqT_sound hx hy hb .eql ox oy
   exact ⟨.bool b, by simp only [Sem.run_bind, h1, Result.andThen_ok, run_eql_struct, h2], .val rfl⟩
  ·obtain ⟨b, hb, rfl⟩ := Option.map_eq_some_iff.1 h
   obtain ⟨h1, h2, us, vs, rfl, rfl⟩ := eqT_sound hx hy hb .neq ox oy
   exact ⟨.bool !b, by simp only [Sem.run_bind, h1, Result.andThen_ok, run_neq_struct, h2], .val rfl⟩
  ·cases h
 ·exact binA_sound hx hy h t ox oy
theorem unA_sound {op : UnOp} {x z : AV} {v : Value} (hx : RV A ρ I w x v) (h : unA op x = some z) : ∃ r, (Op.unary op v).run P w = .ok r w /\ RV A ρ I w z r := by
 unfold unA at h
 split at h
 ·cases hx
  injection h with h; subst h
  rename_i b _
  exact ⟨.bool (!b), by simp [Op.unary], .val rfl⟩
 ·cases hx
  split at h
  ·rename_i hr
   injection h with h; subst h
   exact ⟨_, by simp only [Op.unary, Op.intArith, inr_wrap hr, Sem.run_pure], .val rfl⟩
  ·cases h
 ·cases h
theorem pickA_sound {c x y z : AV} {cv v u : Value} (hc : RV A ρ I w c cv) (hx : RV A ρ I w x v) (hy : RV A ρ I w y u) (h : pickA c x y = some z) :
  ∃ r, (do pure (.value (if <- asBool cv then v else u)) : Sem Next).run P w = .ok (.value r) w /\ RV A ρ I w z r := by
 unfold pickA at h
 split at h
 ·rename_i b
  cases hc
  refine ⟨if b then v else u, by simp [asBool], ?_⟩
  split at h
  ·injection h with h; subst h
   cases hx; cases hy
   cases b <;> exact .val rfl
  ·injection h with h; subst h
   cases b
   ·simpa using hy
   ·simpa using hx
 ·cases h
theorem fieldVA_sound {t : TypeId} {x z : AV} {v : Value} {i : Nat} (hx : RV A ρ I w x v) (h : fieldVA P t i x = some z) : ∃ r, (Instr.field t v i).run P w = .ok r w /\ RV A ρ I w z r := by
 cases hx with
 | @agg cs vs hl ha hr =>
  unfold fieldVA at h
  cases hu : P.underlying t with
  | none => rw [hu] at h; cases h
  | some d =>
   rw [hu] at h
   cases d with
   | struct fields =>
    simp only at h
    obtain ⟨f, hf, h⟩ := Option.bind_eq_some_iff.1 h
    obtain ⟨ti, hti, h⟩ := Option.bind_eq_some_iff.1 h
    unfold part at h
    cases hg : ti.agg with
    | true =>
     rw [hg] at h
     simp only [if_true] at h
     split at h
     ·rename_i hle
      injection h with h
      subst h
      refine ⟨.agg (vs.extract f.offset (f.offset + ti.size)), by simp [Instr.field, run_underlying hu, hf, asAgg, Go.part, run_isAgg hti, run_sizeOf hti, hg], .agg (by simp; omega) ?_ ?_⟩
      ·intro j v hv
       simp only [Array.getElem?_extract] at hv
       split at hv
       ·exact ha _ v hv
       ·cases hv
      ·intro j y v hy hv
       simp only [Array.getElem?_extract] at hv
       split at hv
       ·have hj : j < ti.size := (by have := (List.getElem?_eq_some_iff.1 hy).1; simp at this; omega)
        rw [List.getElem?_take, if_pos hj, List.getElem?_drop] at hy
        exact hr _ _ _ hy hv
       ·cases hv
     ·cases h
    | false =>
     rw [hg] at h
     simp only [Bool.false_eq_true, if_false] at h
     have hj : f.offset < cs.length := (List.getElem?_eq_some_iff.1 h).1
     have hv : vs[f.offset]? = some (vs[f.offset]'(by omega)) := Array.getElem?_eq_getElem (by omega)
     exact ⟨_, by simp [Instr.field, run_underlying hu, hf, asAgg, Go.part, run_isAgg hti, hg, hv], hr _ _ _ h hv⟩
   | _ => simp at h
 | _ => simp only [fieldVA] at h; split at h <;> simp_all
theorem extractA_sound {x z : AV} {v : Value} {i : Nat} (hx : RV A ρ I w x v) (h : extractA x i = some z) : ∃ r, (Instr.extract v i).run P w = .ok r w /\ RV A ρ I w z r := by
 cases hx with
 | @tup cs vs hl hr =>
  simp only [extractA] at h
  have hi : i < cs.length := (List.getElem?_eq_some_iff.1 h).1
  have hv : vs[i]? = some (vs[i]'(by omega)) := Array.getElem?_eq_getElem (by omega)
  exact ⟨_, by simp [Instr.extract, hv], hr i z _ h hv⟩
 | _ => simp [extractA] at h
end
def AV.store : AV -> Bool
 | .agg _ => true
 | x => x.one
section
variable (A : Nat -> Prop) (ρ : Nat -> Option Nat) (I : Nat -> Prop) (w : World)
structure CR (acs : List AV) (vs : List Value) : Prop where
 len : vs.length = acs.length
 atoms : ∀ v, v ∈ vs -> atom v = true
 vals : ∀ (i : Nat) x v, acs[i]? = some x -> vs[i]? = some v -> RV A ρ I w x v
end
section
variable {A : Nat -> Prop} {ρ : Nat -> Option Nat} {I : Nat -> Prop} {w : World}
theorem RV.cr1 {x : AV} {v : Value} (h : RV A ρ I w x v) (h1 : x.one = true) : CR A ρ I w x.cells v.cells.toList := by
 have hat := h.atom_of h1
 rw [atom_cells hat, one_cells h1]
 exact ⟨by simp, by simp [hat], fun m y u hx hv => by
  cases m with
  | zero => simp at hx hv; subst hx hv; exact h
  | succ m => simp at hx⟩
theorem RV.cr {x : AV} {v : Value} (h : RV A ρ I w x v) (hs : x.store = true) : CR A ρ I w x.cells v.cells.toList := by
 by_cases h1 : x.one = true
 ·exact h.cr1 h1
 ·cases h with
  | agg hl ha hr =>
   refine ⟨by simpa [Value.cells, AV.cells] using hl.symm, ?_, ?_⟩
   ·intro v hv
    obtain ⟨m, hm⟩ := List.getElem?_of_mem hv
    exact ha m v (by simpa [Value.cells] using hm)
   ·intro m x v hx hv
    exact hr m x v hx (by simpa [Value.cells] using hv)
  | _ => exact absurd hs h1
theorem CR.agg {acs : List AV} {vs : Array Value} (h : CR A ρ I w acs vs.toList) : RV A ρ I w (.agg acs) (.agg vs) :=
 .agg (by simpa using h.len.symm) (fun i v hv => h.atoms v (by rw [<- Array.getElem?_toList] at hv; exact List.mem_of_getElem? hv)) (fun i x v hx hv => h.vals i x v hx (by simpa using hv))
theorem CR.splice {acs xs : List AV} {vs us : List Value} (h : CR A ρ I w acs vs) (g : CR A ρ I w xs us) {q : Nat} (hq : q + xs.length <= acs.length) :
  CR A ρ I w (acs.take q ++ xs ++ acs.drop (q + xs.length)) (vs.take q ++ us ++ vs.drop (q + us.length)) := by
 have h1 := h.len
 have h2 := g.len
 refine ⟨by simp; omega, ?_, ?_⟩
 ·intro v hv
  simp only [List.mem_append] at hv
  rcases hv with (hv | hv) | hv
  ·exact h.atoms v (List.mem_of_mem_take hv)
  ·exact g.atoms v hv
  ·exact h.atoms v (List.mem_of_mem_drop hv)
 ·intro i x v hx hv
  rw [seg_get _ _ _ _ hq] at hx
  rw [seg_get _ _ _ _ (by omega), h2] at hv
  split at hx
  ·rename_i hp; rw [if_pos hp] at hv; exact h.vals i x v hx hv
  ·rename_i hp
   rw [if_neg hp] at hv
   split at hx
   ·rename_i hp2; rw [if_pos hp2] at hv; exact g.vals _ x v hx hv
   ·rename_i hp2; rw [if_neg hp2] at hv; exact h.vals i x v hx hv
theorem CR.append {xs ys : List AV} {vs us : List Value} (h : CR A ρ I w xs vs) (g : CR A ρ I w ys us) : CR A ρ I w (xs ++ ys) (vs ++ us) := by
 have h1 := h.len
 refine ⟨by simp [h.len, g.len], fun v hv => (List.mem_append.1 hv).elim (h.atoms v) (g.atoms v), fun i x v hx hv => ?_⟩
 rw [List.getElem?_append] at hx hv
 rw [h1] at hv
 split at hx
 ·rename_i hi; rw [if_pos hi] at hv; exact h.vals i x v hx hv
 ·rename_i hi; rw [if_neg hi] at hv; exact g.vals _ x v hx hv
theorem CR.row {k : Nat} {es : List AV} {vs : List Value} (h : CR A ρ I w (flat es) vs) (hk : ∀ e, e ∈ es -> e.cells.length = k) (more : List Value) : Row A ρ I w k es (vs ++ more).toArray := by
 have h1 := h.len
 refine ⟨by simp; omega, hk, fun j v hj hv => ?_, fun j x v hx hv => ?_⟩
 ·simp only [List.getElem?_toArray] at hv
  rw [List.getElem?_append_left (by omega)] at hv
  exact h.atoms v (List.mem_of_getElem? hv)
 ·have hj : j < (flat es).length := (List.getElem?_eq_some_iff.1 hx).1
  simp only [List.getElem?_toArray] at hv
  rw [List.getElem?_append_left (by omega)] at hv
  exact h.vals j x v hx hv
theorem Row.cr {k : Nat} {es : List AV} {cs : Array Value} (h : Row A ρ I w k es cs) : CR A ρ I w (flat es) (cs.toList.take (flat es).length) := by
 have := h.len
 refine ⟨by simp; omega, fun v hv => ?_, fun i x v hx hv => ?_⟩
 ·obtain ⟨m, hm⟩ := List.getElem?_of_mem hv
  rw [List.getElem?_take] at hm
  split at hm
  ·rename_i hlt; exact h.atoms m v hlt (by simpa using hm)
  ·cases hm
 ·rw [List.getElem?_take] at hv
  split at hv
  ·exact h.vals i x v hx (by simpa using hv)
  ·cases hv
theorem cr_vals {vs : List Value} (h : vs.all atom = true) : CR A ρ I w (vs.map .val) vs := by
 rw [List.all_eq_true] at h
 refine ⟨by simp, h, fun i x v hx hv => ?_⟩
 simp only [List.getElem?_map, hv, Option.map_some, Option.some.injEq] at hx
 subst hx
 exact .val (h v (List.mem_of_getElem? hv))
end
def zeroA (ti : TI) : Option AV :=
 if ti.size ≠ 0 /\ ti.zero.length = ti.size /\ ti.zero.all atom = true then
  (if ti.agg then some (.agg (ti.zero.map .val)) else match ti.zero with
   | [v] => some (.val v)
   | _ => none)
 else none
theorem zeroA_spec {P : Program} {t : TypeId} {ti : TI} (ht : tinfo P t = some ti) {z : AV} (h : zeroA ti = some z) :
  ∃ zv : Value, (∀ w : World, (zeroValue t).run P w = .ok zv w) /\ zv.cells.toList = ti.zero /\ z.cells = ti.zero.map .val /\ ti.zero.all atom = true /\ ti.zero.length = ti.size /\ ti.size ≠ 0 /\ z.store = true /\ ∃ i, P.info? t = some i /\ i.zero = some zv /\ i.size = ti.size /\ i.bytes = ti.bytes := by
 obtain ⟨d, i, hd, hi, hti⟩ := tinfo_of ht
 unfold zeroA at h
 split at h
 ·rename_i hc
  obtain ⟨h0, hl, ha⟩ := hc
  have hz : ∃ zv, i.zero = some zv := by
   cases hq : i.zero with
   | some zv => exact ⟨zv, rfl⟩
   | none => rw [hti] at hl h0; simp [hq] at hl; exact absurd hl.symm h0
  obtain ⟨zv, hz⟩ := hz
  have hzc : zv.cells.toList = ti.zero := by rw [hti]; simp [hz]
  have e1 : i.size = ti.size := by rw [hti]
  have e2 : i.bytes = ti.bytes := by rw [hti]
  refine ⟨zv, fun w => by simp [zeroValue, typeInfo, hi, hz], hzc, ?_, ha, hl, h0, ?_, i, hi, hz, e1, e2⟩
  ·split at h
   ·injection h with h; subst h; rfl
   ·split at h
    ·rename_i v hv; injection h with h; subst h; rw [hv]; rfl
    ·cases h
  ·split at h
   ·injection h with h; subst h; rfl
   ·split at h
    ·injection h with h; subst h; rfl
    ·cases h
 ·cases h
def allocA (ti : TI) : Option AObj := (zeroA ti).map fun z => .arr ti.size [z]
def boxA (ti : TI) (x : AV) : Option AObj := if x.cells.length = ti.size /\ x.store = true then some (.arr ti.size [x]) else none
def fillA (place : Nat -> Option (Nat × Nat)) : List AV -> List (Nat × AV) -> Option (List AV)
  | acs, [] => some acs
  | acs, (i, x) :: r => match place i with
    | some (off, sz) => if x.cells.length = sz /\ off + sz <= acs.length /\ x.store = true then fillA place (acs.take off ++ x.cells ++ acs.drop (off + sz)) r else none
    | none => none
def TI.place (ti : TI) (i : Nat) : Option (Nat × Nat) := if ti.sh = .arr then some (i * 1, 1) else ti.fields[i]?
def buildA (ti : TI) (parts : List (Nat × AV)) : Option AV :=
 if ti.whole /\ ti.zero.length = ti.size /\ ti.size ≠ 0 /\ ti.zero.all atom = true then (fillA ti.place (ti.zero.map .val) parts).map .agg else none
def fillE (k : Nat) : List AV -> List (Nat × AV) -> Option (List AV)
 | es, [] => some es
 | es, (i, x) :: r => if x.cells.length = k /\ i < es.length /\ x.store = true then fillE k (es.set i x) r else none
def buildSliceA (te : TI) (len : Nat) (parts : List (Nat × AV)) : Option AObj :=
 if len = 0 then (if parts.isEmpty then some (.arr te.size []) else none) else (zeroA te).bind fun z => if len * te.size <= 16777216 then (fillE te.size (List.replicate len z) parts).map (.arr te.size) else none
section
variable {P : Program} {A : Nat -> Prop} {ρ : Nat -> Option Nat} {I : Nat -> Prop} {w : World}
theorem fold_set (off : Nat) : ∀ (l : List Value) (n : Nat) (cells : Array Value), off + n + l.length <= cells.size ->
    ((l.zipIdx n).foldl (fun cs (p : Value × Nat) => cs.setIfInBounds (off + p.2) p.1) cells).toList = cells.toList.take (off + n) ++ l ++ cells.toList.drop (off + n + l.length)
  | [], n, cells, _ => by simp
  | v :: l, n, cells, h => by
    simp only [List.length_cons] at h
    have ih := fold_set off l (n + 1) (cells.setIfInBounds (off + n) v) (by simp; omega)
    simp only [List.zipIdx_cons, List.foldl_cons, ih]
    have := list_seg_step cells.toList (off + n) v l (by simp; omega)
    simpa [Array.toList_setIfInBounds, Nat.add_assoc] using this
theorem fillA_sound (place : Nat -> Option (Nat × Nat)) : ∀ (parts : List (Nat × AV)) (pv : List (Nat × Value)) (acs acs' : List AV) (cs : Array Value), CR A ρ I w acs cs.toList ->
    pv.length = parts.length -> (∀ (m : Nat) p q, parts[m]? = some p -> pv[m]? = some q -> q.1 = p.1 /\ RV A ρ I w p.2 q.2) -> fillA place acs parts = some acs' ->
    ∃ cs', Instr.fill place cs pv = some cs' /\ CR A ρ I w acs' cs'.toList
  | [], [], acs, acs', cs, hc, _, _, h => by
    simp only [fillA, Option.some.injEq] at h
    subst h
    exact ⟨cs, rfl, hc⟩
  | (i, x) :: r, (j, v) :: rv, acs, acs', cs, hc, hl, hr, h => by
    obtain ⟨hij, hx⟩ := hr 0 (i, x) (j, v) rfl rfl
    simp only at hij hx
    subst hij
    simp only [fillA] at h
    split at h
    · rename_i off sz hp
      split at h
      · rename_i hcond
        obtain ⟨h1, h2, h3⟩ := hcond
        have hv := hx.cr h3
        have hvl := hv.len
        have hcl := hc.len
        simp only [Array.length_toList] at hvl hcl
        have hsp := hc.splice hv (q := off) (by omega)
        have hf := fold_set off v.cells.toList 0 cs (by simp; omega)
        simp only [Nat.add_zero] at hf
        have hset : (v.cells.zipIdx.foldl (fun cs (c, m) => cs.setIfInBounds (off + m) c) cs).toList = cs.toList.take off ++ v.cells.toList ++ cs.toList.drop (off + v.cells.toList.length) := by
          rw [<- hf, <- Array.foldl_toList]; simp
        rw [<- h1] at h
        obtain ⟨cs', hcs, hrr⟩ := fillA_sound place r rv _ acs' (v.cells.zipIdx.foldl (fun cs (c, m) => cs.setIfInBounds (off + m) c) cs) (by rw [hset]; exact hsp) (by simpa using hl)
          (fun m p q hp hq => hr (m + 1) p q (by simpa using hp) (by simpa using hq)) h
        refine ⟨cs', ?_, hrr⟩
        simp only [Instr.fill, hp]
        rw [if_neg]
        · exact hcs
        · simp only [ne_eq, gt_iff_lt, Bool.or_eq_true, decide_eq_true_eq, not_or, Decidable.not_not, Nat.not_lt]
          omega
      · cases h
    · cases h
  | [], _ :: _, _, _, _, _, hl, _, _ => by simp at hl
  | _ :: _, [], _, _, _, _, hl, _, _ => by simp at hl
theorem mapM_places {fs : List Field} {places : List (Nat × Nat)} (h : fs.mapM (fun f => (P.info? f.type).map fun i => (f.offset, i.size)) = some places) :
  places = fs.map fun f => (f.offset, ((P.info? f.type).map (·.size)).getD 0) := by
 induction fs generalizing places with
 | nil => simp at h; simp [h]
 | cons f fs ih =>
  simp only [List.mapM_cons, Option.bind_eq_bind, Option.pure_def, Option.bind_eq_some_iff] at h
  obtain ⟨a, ha, b, hb, hab⟩ := h
  simp only [Option.some.injEq] at hab
  subst hab
  rw [ih hb]
  simp only [Option.map_eq_some_iff] at ha
  obtain ⟨i, hi, rfl⟩ := ha
  simp [hi]
theorem buildA_sound {t : TypeId} {ti : TI} (ht : tinfo P t = some ti) {parts : List (Nat × AV)} {pv : Array (Nat × Value)} (hl : pv.size = parts.length)
  (hr : ∀ (m : Nat) p q, parts[m]? = some p -> pv[m]? = some q -> q.1 = p.1 /\ RV A ρ I w p.2 q.2) {y : AV} (h : buildA ti parts = some y) : ∃ u, (Instr.build t pv).run P w = .ok u w /\ RV A ρ I w y u := by
 obtain ⟨d, i, hd, hi, hti⟩ := tinfo_of ht
 unfold buildA at h
 split at h
 ·rename_i hc
  obtain ⟨hw, hz1, hz2, hz3⟩ := hc
  simp only [Option.map_eq_some_iff] at h
  obtain ⟨acs, hf, rfl⟩ := h
  have hz : ∃ zv, i.zero = some zv := by
   cases hq : i.zero with
   | some zv => exact ⟨zv, rfl⟩
   | none => rw [hti] at hz1 hz2; simp [hq] at hz1; exact absurd hz1.symm hz2
  obtain ⟨zv, hz⟩ := hz
  have hzc : zv.cells.toList = ti.zero := by rw [hti]; simp [hz]
  cases d with
  | struct fs =>
   have hw' : (fs.toList.mapM fun f => (P.info? f.type).map fun i => (f.offset, i.size)).isSome = true := by rw [hti] at hw; exact hw
   obtain ⟨places, hp⟩ := Option.isSome_iff_exists.1 hw'
   have hpl := mapM_places hp
   have hfl : ti.fields = places := by rw [hti, hpl]; rfl
   have hpc : ti.place = fun x => ti.fields[x]? := by
    funext x; unfold TI.place
    rw [if_neg (by rw [hti]; simp [shD])]
   rw [hpc] at hf
   obtain ⟨cs, hcs, hcr⟩ := fillA_sound (fun x => ti.fields[x]?) parts pv.toList (ti.zero.map .val) acs zv.cells (by rw [hzc]; exact cr_vals hz3) (by simpa using hl) (fun m p q hp hq => hr m p q hp (by simpa using hq)) hf
   refine ⟨.agg cs, run_build w t pv cs ?_, hcr.agg⟩
   simp only [Program.built, hi, hd, hz, hp]
   rw [<- hcs, hfl]
   simp
  | array n e =>
   have hw' : (P.info? e).map (·.size) = some 1 := by rw [hti] at hw; simpa [wholeD] using hw
   obtain ⟨ie, hie, hs1⟩ := Option.map_eq_some_iff.1 hw'
   have hpc : ti.place = fun x => some (x * 1, 1) := by
    funext x; unfold TI.place
    rw [if_pos (by rw [hti]; rfl)]
   rw [hpc] at hf
   obtain ⟨cs, hcs, hcr⟩ := fillA_sound (fun x => some (x * 1, 1)) parts pv.toList (ti.zero.map .val) acs zv.cells (by rw [hzc]; exact cr_vals hz3) (by simpa using hl) (fun m p q hp hq => hr m p q hp (by simpa using hq)) hf
   refine ⟨.agg cs, run_build w t pv cs ?_, hcr.agg⟩
   simp only [Program.built, hi, hd, hz, hie, hs1]
   exact hcs
  | _ => rw [hti] at hw; simp [wholeD] at hw
 ·cases h
theorem fillE_sound {k : Nat} : ∀ (parts : List (Nat × AV)) (pv : List (Nat × Value)) (es es' : List AV) (cs : Array Value), (∀ e, e ∈ es -> e.cells.length = k) -> CR A ρ I w (flat es) cs.toList ->
    pv.length = parts.length -> (∀ (m : Nat) p q, parts[m]? = some p -> pv[m]? = some q -> q.1 = p.1 /\ RV A ρ I w p.2 q.2) -> fillE k es parts = some es' ->
    ∃ cs', Instr.fill (fun i => some (i * k, k)) cs pv = some cs' /\ CR A ρ I w (flat es') cs'.toList /\ (∀ e, e ∈ es' -> e.cells.length = k) /\ es'.length = es.length
  | [], [], es, es', cs, hk, hc, _, _, h => by
    simp only [fillE, Option.some.injEq] at h
    subst h
    exact ⟨cs, rfl, hc, hk, rfl⟩
  | (i, x) :: r, (j, v) :: rv, es, es', cs, hk, hc, hl, hr, h => by
    obtain ⟨hij, hx⟩ := hr 0 (i, x) (j, v) rfl rfl
    simp only at hij hx
    subst hij
    simp only [fillE] at h
    split at h
    · rename_i hcond
      obtain ⟨h1, h2, h3⟩ := hcond
      have hv := hx.cr h3
      have hvl := hv.len
      have hcl := hc.len
      simp only [Array.length_toList] at hvl hcl
      have hb := flat_bound hk h2 (j := k) (Nat.le_refl _)
      have he : es[j]? = some es[j] := List.getElem?_eq_getElem h2
      have hfs := flat_set hk j 0 es[j] x x.cells he (by omega) (by have := hk _ (List.getElem_mem h2); rw [List.take_zero, List.nil_append, Nat.zero_add, List.drop_eq_nil_of_le (by omega), List.append_nil])
      have hsp := hc.splice hv (q := j * k) (by omega)
      simp only [Nat.add_zero] at hfs
      rw [<- hfs] at hsp
      have hf := fold_set (j * k) v.cells.toList 0 cs (by simp; omega)
      simp only [Nat.add_zero] at hf
      have hset : (v.cells.zipIdx.foldl (fun cs (c, m) => cs.setIfInBounds (j * k + m) c) cs).toList = cs.toList.take (j * k) ++ v.cells.toList ++ cs.toList.drop (j * k + v.cells.toList.length) := by
        rw [<- hf, <- Array.foldl_toList]; simp
      obtain ⟨cs', hcs, hrr, hk', hlen⟩ := fillE_sound r rv _ es' (v.cells.zipIdx.foldl (fun cs (c, m) => cs.setIfInBounds (j * k + m) c) cs)
        (fun e he => (List.mem_or_eq_of_mem_set he).elim (hk e) (fun e1 => e1 ▸ h1)) (by rw [hset]; exact hsp) (by simpa using hl)
        (fun m p q hp hq => hr (m + 1) p q (by simpa using hp) (by simpa using hq)) h
      refine ⟨cs', ?_, hrr, hk', by simpa using hlen⟩
      simp only [Instr.fill]
      rw [if_neg]
      · exact hcs
      · simp only [ne_eq, gt_iff_lt, Bool.or_eq_true, decide_eq_true_eq, not_or, Decidable.not_not, Nat.not_lt]
        omega
    · cases h
  | [], _ :: _, _, _, _, _, _, hl, _, _ => by simp at hl
  | _ :: _, [], _, _, _, _, _, hl, _, _ => by simp at hl
theorem flat_replicate {z : AV} {zs : List AV} (h : z.cells = zs) (n : Nat) : flat (List.replicate n z) = (List.replicate n zs).flatten := by
 induction n with
 | zero => rfl
 | succ n ih => simp only [flat] at ih; simp [flat, List.replicate_succ, h, ih]
theorem made_flatten (zs : List Value) (n : Nat) (h : zs ≠ []) : (Array.range (n * zs.length)).map (fun x => zs.toArray[x % zs.toArray.size]!) = (List.replicate n zs).flatten.toArray := by
 have hpos : 0 < zs.length := List.length_pos_iff.2 h
 apply Array.ext'
 simp only [Array.toList_map, Array.toList_range]
 induction n with
 | zero => simp
 | succ n ih =>
  rw [List.replicate_succ', List.flatten_append, List.flatten_singleton, <- ih, Nat.add_mul, Nat.one_mul, List.range_add, List.map_append, List.map_map]
  congr 1
  apply List.ext_getElem
  ·simp
  ·intro i h1 h2
   simp at h1
   simp [Nat.mul_comm n, Nat.mod_eq_of_lt h1, h1]
theorem cr_replicate {z : AV} {zs : List Value} (hz : z.cells = zs.map .val) (ha : zs.all atom = true) (n : Nat) : CR A ρ I w (flat (List.replicate n z)) (List.replicate n zs).flatten := by
 rw [flat_replicate hz]
 induction n with
 | zero => exact ⟨rfl, by simp, by simp⟩
 | succ n ih => simp only [List.replicate_succ, List.flatten_cons]; exact (cr_vals ha).append ih
end
def St.grow (s : St) (id nid : Nat) (o : AObj) : St := (s.set id none).set nid (some o)
section
variable {Γ : Cx} {A : Nat -> Prop} {ρ : Nat -> Option Nat} {s : St} {a : Act} {w : World}
theorem SRa.newNil (h : SRa Γ A ρ s a w) {nid : Nat} (hn : nid < s.objs.length) (hA : ¬ A nid) (k : Nat) :
  SRa Γ (fun i => A i \/ i = nid) (fun i => if i = nid then none else ρ i) (s.set nid (some (.arr k []))) a w := by
 have hne : ∀ id, A id -> id ≠ nid := fun id hi e => hA (e ▸ hi)
 have hA' : ∀ id, A id -> (A id \/ id = nid) /\ (if id = nid then none else ρ id) = ρ id := fun id hi => ⟨.inl hi, if_neg (hne id hi)⟩
 have hI : ∀ b, Im Γ ρ s w b -> Im Γ (fun i => if i = nid then none else ρ i) (s.set nid (some (.arr k []))) w b /\ w.heap[b]? = w.heap[b]? := by
  rintro b ⟨h1, h2, h3⟩
  refine ⟨⟨h1, h2, fun id o' hl => ?_⟩, rfl⟩
  rcases St.live_set hl with ⟨rfl, _⟩ | ⟨hi, hl⟩
  ·simp
  ·simp only [if_neg hi]; exact h3 id o' hl
 refine h.turn rfl hA' hI (fun _ _ hn => hn) ?_ ?_ ?_ ?_ ?_ h.fr
 ·intro id o' hl
  rcases St.live_set hl with ⟨rfl, rfl⟩ | ⟨hi, hl⟩
  ·simp only [if_true]; exact .inr ⟨k, rfl⟩
  ·simp only [if_neg hi]; exact (h.obj id o' hl).mono hA' hI (fun _ _ hn => hn) (fun _ _ => rfl)
 ·intro id o' hl
  rcases St.live_set hl with ⟨rfl, _⟩ | ⟨hi, hl⟩
  ·exact .inr rfl
  ·exact .inl (h.made id o' hl)
 ·rintro id (hi | rfl)
  ·simpa using h.bound id hi
  ·simpa using hn
 ·intro id o' b hl hb
  rcases St.live_set hl with ⟨rfl, _⟩ | ⟨hi, hl⟩
  ·simp at hb
  ·simp only [if_neg hi] at hb; exact h.own id o' b hl hb
 ·intro id id' o1 o2 b hl hl' hb hb'
  rcases St.live_set hl with ⟨rfl, _⟩ | ⟨hi, hx⟩
  ·simp at hb
  ·rcases St.live_set hl' with ⟨rfl, _⟩ | ⟨hi', hx'⟩
   ·simp at hb'
   ·simp only [if_neg hi] at hb
    simp only [if_neg hi'] at hb'
    exact h.inj _ _ _ _ b hx hx' hb hb'
end
def srcA (te : TI) (look : Nat -> Option AObj) : AV -> Option (List AV)
  | .sl k es => if k = te.size then some es else none
  | .ref id k off len => match look id with
    | some (.arr k' es) => if k = te.size /\ k' = te.size /\ off + len <= es.length then some ((es.drop off).take len) else none
    | _ => none
  | .val (.slice none 0 _) => some []
  | .val (.string s) => if te.size = 1 then some (s.data.toList.map fun b => .val (.int .u8 b.toNat)) else none
  | _ => none
def room (te : TI) (n : Nat) : Prop := n * te.bytes <= 140737488355328 /\ te.bytes ≠ 0
instance (te : TI) (n : Nat) : Decidable (room te n) := by unfold room; infer_instance
def appendA (te : TI) (look : Nat -> Option AObj) (x y : AV) : Option (Option Nat × List AV) :=
  if (zeroA te).isSome then
    match x with
    | .val (.slice none 0 0) => (srcA te look y).bind fun ys => if room te ys.length then some (none, ys) else none
    | .ref id k off len => match look id with
      | some (.arr k' es) => if k = te.size /\ k' = te.size /\ off = 0 /\ es.length = len then (srcA te look y).bind fun ys => if room te (es.length + ys.length) then some (some id, es ++ ys) else none else none
      | _ => none
    | _ => none
  else none
section
variable {P : Program} {Γ : Cx} {A : Nat -> Prop} {ρ : Nat -> Option Nat} {s : St} {a : Act} {w : World}
structure Src (P : Program) (w : World) (size : Nat) (v : Value) (n : Nat) (news : List Value) : Prop where
 len : ∀ w' : World, (Builtin.lenOf v).run P w' = .ok n w'
 cells : ∀ d : Nat, (Builtin.firstCells size n v).run P { w with drawn := d } = .ok news.toArray { w with drawn := d }
theorem firstCells_some (size n : Nat) (b o c : Nat) (news : List Value) (hl : news.length = n * size) (hn : ∀ j u, news[j]? = some u -> w.cell? ⟨b, o + j, none⟩ = some u) (d m : Nat) :
  (Builtin.firstCells size n (.slice (some ⟨b, o, none⟩) m c)).run P { w with drawn := d } = .ok news.toArray { w with drawn := d } := by
 simp only [Builtin.firstCells, <- hl]
 exact run_loadCells_list (w := { w with drawn := d }) _ news (fun j u hu => by rw [add_lit]; exact hn j u hu)
theorem srcA_sound (h : SRa Γ A ρ s a w) {te : TI} {y : AV} {v : Value} (hy : RV A ρ (Im Γ ρ s w) w y v) {ys : List AV} (hs : srcA te s.look y = some ys) :
  ∃ news, Src P w te.size v ys.length news /\ CR A ρ (Im Γ ρ s w) w (flat ys) news /\ (∀ e, e ∈ ys -> e.cells.length = te.size) := by
 cases hy with
 | @nils k ad c =>
  simp only [srcA] at hs
  split at hs
  ·injection hs with hs
   subst hs
   refine ⟨[], ⟨fun w' => by simp [Builtin.lenOf], fun d => ?_⟩, ⟨rfl, by simp, by simp [flat]⟩, by simp⟩
   cases ad with
   | none => simp [Builtin.firstCells]
   | some a => simp [Builtin.firstCells, loadCells, loadCellsFrom]
  ·cases hs
 | @sl k es b o c f hn hI hk hc ha hr =>
  simp only [srcA] at hs
  split at hs
  ·rename_i hks
   subst hks
   injection hs with hs
   subst hs
   have hfl := flat_length hk
   refine ⟨(List.range (flat es).length).map f, ⟨fun w' => by simp [Builtin.lenOf], fun d => ?_⟩, ⟨by simp, ?_, ?_⟩, hk⟩
   ·refine firstCells_some te.size es.length b o c _ (by simp [hfl]) (fun j u hu => ?_) d _
    simp only [List.getElem?_map, Option.map_eq_some_iff] at hu
    obtain ⟨i, hi, rfl⟩ := hu
    obtain ⟨hlt, he⟩ := List.getElem?_eq_some_iff.1 hi
    simp at hlt he
    subst he
    exact hc _ hlt
   ·intro v hv
    simp only [List.mem_map, List.mem_range] at hv
    obtain ⟨j, hj, rfl⟩ := hv
    exact ha j hj
   ·intro i x v hx hv
    simp only [List.getElem?_map, Option.map_eq_some_iff] at hv
    obtain ⟨j, hj, rfl⟩ := hv
    obtain ⟨hlt, he⟩ := List.getElem?_eq_some_iff.1 hj
    simp at he
    subst he
    exact hr _ x hx
  ·cases hs
 | @ref id k off len cap b hA hb hl hcs hm =>
  simp only [srcA] at hs
  split at hs
  ·rename_i k' es hlook
   split at hs
   ·rename_i hc
    obtain ⟨rfl, rfl, hle⟩ := hc
    injection hs with hs
    subst hs
    obtain ⟨cs, t, hblk, hrow⟩ := h.row hlook hb
    have hsub : ∀ e, e ∈ (es.drop off).take len -> e ∈ es := fun e he => List.mem_of_mem_drop (List.mem_of_mem_take he)
    have hk := fun e he => hrow.wide e (hsub e he)
    have hfl := flat_length hk
    have hlen : ((es.drop off).take len).length = len := by simp; omega
    have hft := flat_length hrow.wide
    have hrl := hrow.len
    have hidx : ∀ j, j < len * te.size -> (flat ((es.drop off).take len))[j]? = (flat es)[off * te.size + j]? := by
     intro j hj
     have e1 : es = es.take off ++ ((es.drop off).take len ++ (es.drop off).drop len) := by rw [List.take_append_drop, List.take_append_drop]
     have h1 : (flat (es.take off)).length = off * te.size := by
      rw [flat_length (k := te.size) (fun e he => hrow.wide e (List.mem_of_mem_take he)), List.length_take, Nat.min_eq_left (by omega)]
     conv => rhs; rw [e1]
     rw [flat_append, flat_append, List.getElem?_append_right (by omega), h1, Nat.add_sub_cancel_left, List.getElem?_append_left (by rw [hfl, hlen]; exact hj)]
    have hbd : off * te.size + len * te.size <= (flat es).length := by rw [hft, <- Nat.add_mul]; exact Nat.mul_le_mul_right _ hle
    have hget : ∀ j, j < len * te.size -> cs[off * te.size + j]? = some (cs.getD (off * te.size + j) undef) := fun j hj => by
     have : off * te.size + j < cs.size := by omega
     simp [Array.getD, this]
    refine ⟨(List.range (len * te.size)).map (fun j => cs.getD (off * te.size + j) undef), ⟨fun w' => by simp [Builtin.lenOf]; omega, fun d => ?_⟩, ⟨by rw [hfl, hlen]; simp, ?_, ?_⟩, hk⟩
    ·refine firstCells_some te.size _ b _ cap _ (by simp [hlen]) (fun j u hu => ?_) d _
     simp only [List.getElem?_map, Option.map_eq_some_iff] at hu
     obtain ⟨i, hi, rfl⟩ := hu
     obtain ⟨hlt, he⟩ := List.getElem?_eq_some_iff.1 hi
     simp at hlt he
     subst he
     rw [cell_of_block hblk]
     exact hget _ hlt
    ·intro v hv
     simp only [List.mem_map, List.mem_range] at hv
     obtain ⟨j, hj, rfl⟩ := hv
     exact hrow.atoms _ _ (by omega) (hget j hj)
    ·intro i x v hx hv
     simp only [List.getElem?_map, Option.map_eq_some_iff] at hv
     obtain ⟨j, hj, rfl⟩ := hv
     obtain ⟨hlt, he⟩ := List.getElem?_eq_some_iff.1 hj
     simp at hlt he
     subst he
     rw [hidx _ hlt] at hx
     exact hrow.vals _ x _ hx (hget _ hlt)
   ·cases hs
  ·cases hs
 | @refn id k hA hb =>
  simp only [srcA] at hs
  split at hs
  ·split at hs
   ·injection hs with hs
    subst hs
    exact ⟨[], ⟨fun w' => by simp [Builtin.lenOf], fun d => by simp [Builtin.firstCells]⟩, ⟨rfl, by simp, by simp [flat]⟩, by simp⟩
   ·cases hs
  ·cases hs
 | @val v hv =>
  cases v with
  | slice ad n c =>
   cases ad with
   | none =>
    cases n with
    | zero =>
     simp only [srcA, Option.some.injEq] at hs
     subst hs
     exact ⟨[], ⟨fun w' => by simp [Builtin.lenOf], fun d => by simp [Builtin.firstCells]⟩, ⟨rfl, by simp, by simp [flat]⟩, by simp⟩
    | succ n => simp [srcA] at hs
   | some ad => simp [srcA] at hs
  | string str =>
   simp only [srcA] at hs
   split at hs
   ·rename_i h1
    injection hs with hs
    subst hs
    have hlen : str.data.toList.length = str.size := by simp
    have hfl : ∀ l : List UInt8, flat (l.map fun b => AV.val (.int .u8 b.toNat)) = (l.map fun b => Value.int .u8 b.toNat).map .val := by
     intro l; induction l with
     | nil => rfl
     | cons b l ih => simp only [flat] at ih; simp [flat, AV.cells, ih]
    refine ⟨str.data.toList.map fun b => .int .u8 b.toNat, ⟨fun w' => by simp [Builtin.lenOf], fun d => ?_⟩, ?_, ?_⟩
    ·have e : str.extract 0 (List.map (fun b : UInt8 => AV.val (.int .u8 b.toNat)) str.data.toList).length = str := by
      simp
     simp only [Builtin.firstCells, e, Sem.run_pure]
     congr 1
     apply Array.ext'
     simp
    ·rw [hfl]; exact cr_vals (by rw [List.all_eq_true]; intro x hx; simp only [List.mem_map] at hx; obtain ⟨b, _, rfl⟩ := hx; rfl)
    ·intro e he
     simp only [List.mem_map] at he
     obtain ⟨b, _, rfl⟩ := he
     simp [AV.cells, h1]
   ·cases hs
  | _ => simp [srcA] at hs
 | _ => simp [srcA] at hs
theorem not_int {tx : TypeId} {d : TypeDesc} (hd : P.underlying tx = some d) (hi : ∀ k, d ≠ .int k) (w : World) : (do pure ((<- underlying tx) matches .int _) : Sem Bool).run P w = .ok false w := by
 simp only [Sem.run_bind, run_underlying hd, Result.andThen_ok]
 cases d <;> first | rfl | exact absurd rfl (hi _)
theorem run_append_gen {t tx ty e : TypeId} {i : TypeInfo} {z : Value} (ht : P.underlying t = some (.slice e)) {d : TypeDesc} (hd : P.underlying tx = some d) (hd' : ∀ k, d ≠ .int k) (hi : P.info? e = some i) (hz : i.zero = some z)
    {base : Option Addr} {sLen sCap : Nat} {olds : List Value} (ho : ∀ d, (Builtin.firstCells i.size sLen (.slice base sLen sCap)).run P { w with drawn := d } = .ok olds.toArray { w with drawn := d })
    {x : Value} {n : Nat} {news : List Value} (hx : Src P w i.size x n news) (hroom : (sLen + n) * i.bytes <= 140737488355328) (hb : i.bytes ≠ 0) :
    (sLen + n <= sCap -> ∀ w', (match base with | some a => storeCells (a.add (sLen * i.size)) news | none => pure ()).run P w = .ok () w' -> (Builtin.append_ #[t, tx] ty #[.slice base sLen sCap, x]).run P w = .ok (.slice base (sLen + n) sCap) w') /\
    (sCap < sLen + n -> (Builtin.append_ #[t, tx] ty #[.slice base sLen sCap, x]).run P w = .ok (.slice (some ⟨w.heap.size, 0, none⟩) (sLen + n) (grownCap w (sLen + n) sCap e))
        (w.drew.alloc (.cells (olds.toArray ++ news.toArray ++ Builtin.zeroCells z.cells (grownCap w (sLen + n) sCap e - (sLen + n))) e))) := by
  have hni := not_int (P := P) hd hd'
  have hpos : sLen + n <= 140737488355328 := by
    calc sLen + n = (sLen + n) * 1 := by omega
      _ <= (sLen + n) * i.bytes := Nat.mul_le_mul_left _ (by omega)
      _ <= _ := hroom
  constructor
  · intro hle w' hst
    cases base with
    | none =>
      simp only [Sem.run_pure] at hst
      injection hst with _ hst
      subst hst
      have h0 := hx.cells w.drawn
      have e0 : ({ w with drawn := w.drawn } : World) = w := rfl
      rw [e0] at h0
      simp only [Builtin.append_]
      simp [run_underlying ht, run_underlying hd, sizeOf, typeInfo, hi, hx.len, hle, h0]
    | some ad =>
      have h0 := hx.cells w.drawn
      have e0 : ({ w with drawn := w.drawn } : World) = w := rfl
      rw [e0] at h0
      simp only at hst
      simp only [Builtin.append_]
      simp [run_underlying ht, run_underlying hd, sizeOf, typeInfo, hi]
      cases d <;> first | exact absurd rfl (hd' _) | simp [hx.len, hle, h0, hst]
  · intro hlt
    have hn : ¬ (sLen + n <= sCap) := by omega
    have h63' : ¬ (9223372036854775807 < ((sLen : Int) + (n : Int))) := by omega
    have h48 := growslice_fits hlt hroom
    have h48' : ¬ (281474976710656 < Builtin.nextslicecap (sLen + n) sCap * i.bytes) := by omega
    have h1 : (Builtin.firstCells i.size n x).run P w.drew = .ok news.toArray w.drew := hx.cells (w.drawn + 1)
    have h2 : (Builtin.firstCells i.size sLen (.slice base sLen sCap)).run P w.drew = .ok olds.toArray w.drew := ho (w.drawn + 1)
    simp only [Builtin.append_]
    simp [run_underlying ht, run_underlying hd, sizeOf, typeInfo, hi]
    cases d <;> first | exact absurd rfl (hd' _) | simp [hx.len, hn, h63', h48', Question.forced, h1, h2, zeroValue, typeInfo, hi, hz, newRow, grownCap]
    all_goals (congr 2; apply Array.ext'; simp [List.append_assoc])
theorem live_len {id : Nat} {o : AObj} (h : s.live id o) : id < s.objs.length := (List.getElem?_eq_some_iff.1 h).1
theorem objs_comm (l : List (Option AObj)) {i j : Nat} (h : i ≠ j) (x y : Option AObj) : (l.set i x).set j y = (l.set j y).set i x := List.set_comm x y h
def St.appended (s : St) (nid : Nat) (r : Option Nat × List AV) (k : Nat) : St :=
 match r.1 with
 | none => s.set nid (some (.arr k r.2))
 | some id => s.grow id nid (.arr k r.2)
theorem RV.ref0 {A : Nat -> Prop} {ρ : Nat -> Option Nat} {I : Nat -> Prop} {w : World} {id k len cap b : Nat} (hA : A id) (hb : ρ id = some b) (hl : len <= cap) (hs : csize w b = some (cap * k)) (hm : cap <= maxLen) :
  RV A ρ I w (.ref id k 0 len) (.slice (some ⟨b, 0, none⟩) len cap) := by
 have := RV.ref (I := I) (off := 0) (k := k) hA hb hl (by simpa using hs) hm
 simpa using this
theorem Row.drawn {A : Nat -> Prop} {ρ : Nat -> Option Nat} {Γ : Cx} {s : St} {w : World} {k : Nat} {es : List AV} {cs : Array Value} (h : Row A ρ (Im Γ ρ s w) w k es cs) (n : Nat) :
  Row A ρ (Im Γ ρ s { w with drawn := n }) { w with drawn := n } k es cs :=
 Row.mono (w := w) (I := Im Γ ρ s w) (w' := { w with drawn := n }) (I' := Im Γ ρ s { w with drawn := n }) (fun _ hA => ⟨hA, rfl⟩) (fun _ hb => ⟨hb, rfl⟩) (fun _ _ hk => hk) h
theorem csize_block {b : Nat} {cs : Array Value} {t : TypeId} (h : w.heap[b]? = some (.cells cs t (0, 0))) : csize w b = some cs.size := by simp [csize, h]
set_option maxHeartbeats 1600000 in
theorem appendA_sound (h : SRa Γ A ρ s a w) {t tx ty e : TypeId} {ti te : TI} (ht : tinfo P t = some ti) (he : ti.elem = some e) (hte : tinfo P e = some te) {d : TypeDesc} (hd : P.underlying tx = some d) (hd' : ∀ k, d ≠ .int k)
    {x y : AV} {v u : Value} (hx : RV A ρ (Im Γ ρ s w) w x v) (hy : RV A ρ (Im Γ ρ s w) w y u) {r : Option Nat × List AV} (hr : appendA te s.look x y = some r) {nid : Nat} (hn : nid < s.objs.length) (hA : ¬ A nid) :
    ∃ z w' ρ', (Builtin.append_ #[t, tx] ty #[v, u]).run P w = .ok z w' /\ SRa Γ (fun i => A i \/ i = nid) ρ' (s.appended nid r te.size) a w' /\
      RV (fun i => A i \/ i = nid) ρ' (Im Γ ρ' (s.appended nid r te.size) w') w' (.ref nid te.size 0 r.2.length) z := by
  have hu := elem_spec ht he
  unfold appendA at hr
  split at hr
  case isFalse => cases hr
  rename_i hzs
  obtain ⟨z0, hz0⟩ := Option.isSome_iff_exists.1 hzs
  obtain ⟨zv, _, hzc, _, _, hzl, hs0, _, i, hi, hz, hsz, hby⟩ := zeroA_spec hte hz0
  have hzcs : zv.cells.size = te.size := by rw [<- Array.length_toList, hzc, hzl]
  have grow : ∀ (olds news : List Value) (es ys : List AV) (old : Nat), old < es.length + ys.length -> CR A ρ (Im Γ ρ s w) w (flat es) olds -> CR A ρ (Im Γ ρ s w) w (flat ys) news -> (∀ e, e ∈ es -> e.cells.length = te.size) -> (∀ e, e ∈ ys -> e.cells.length = te.size) ->
      room te (es.length + ys.length) ->
      let w' := w.drew.alloc (.cells (olds.toArray ++ news.toArray ++ Builtin.zeroCells zv.cells (grownCap w (es.length + ys.length) old e - (es.length + ys.length))) e)
      let ρ' := fun i => if i = nid then some w.heap.size else ρ i
      SRa Γ (fun i => A i \/ i = nid) ρ' (s.set nid (some (.arr te.size (es ++ ys)))) a w' /\
      csize w' w.heap.size = some (grownCap w (es.length + ys.length) old e * te.size) /\ es.length + ys.length <= grownCap w (es.length + ys.length) old e /\ grownCap w (es.length + ys.length) old e <= maxLen := by
    intro olds news es ys old hold ho hnw hke hky hroom w' ρ'
    have hall : ∀ e, e ∈ es ++ ys -> e.cells.length = te.size := fun e he => (List.mem_append.1 he).elim (hke e) (hky e)
    have hcr : CR A ρ (Im Γ ρ s w) w (flat (es ++ ys)) (olds ++ news) := by rw [flat_append]; exact ho.append hnw
    have hfl := flat_length hall
    have hl := hcr.len
    have hrow := hcr.row hall (Builtin.zeroCells zv.cells (grownCap w (es.length + ys.length) old e - (es.length + ys.length))).toList
    have heq : (olds ++ news ++ (Builtin.zeroCells zv.cells (grownCap w (es.length + ys.length) old e - (es.length + ys.length))).toList).toArray = olds.toArray ++ news.toArray ++ Builtin.zeroCells zv.cells (grownCap w (es.length + ys.length) old e - (es.length + ys.length)) := by
      apply Array.ext'; simp
    rw [heq] at hrow
    have hge := grownCap_ge w (es.length + ys.length) old e
    have hpos : es.length + ys.length <= maxLen := by
      have hb := hroom.1
      have : es.length + ys.length <= (es.length + ys.length) * te.bytes := Nat.le_mul_of_pos_right _ (Nat.pos_of_ne_zero hroom.2)
      simp only [maxLen]; omega
    refine ⟨(h.drawn (w.drawn + 1)).newRow hn hA e (hrow.drawn _), ?_, hge, grownCap_le_maxLen w _ old e hpos⟩
    refine (csize_block (heap_alloc_new w.drew _)).trans ?_
    congr 1
    rw [<- heq]
    simp only [List.size_toArray, List.length_append, hfl, Array.length_toList, size_zeroCells, hzcs] at hl ⊢
    rw [hl, <- Nat.add_mul]
    congr 1
    omega
  split at hr
  · -- a nil slice
    cases hx
    simp only [Option.bind_eq_some_iff] at hr
    obtain ⟨ys, hys, hr⟩ := hr
    split at hr
    case isFalse => cases hr
    rename_i hroom
    injection hr with hr
    subst hr
    obtain ⟨news, hsrc, hcr, hky⟩ := srcA_sound h hy hys
    have hrun := run_append_gen (P := P) (w := w) (t := t) (tx := tx) (ty := ty) hu hd hd' hi hz (base := none) (sLen := 0) (sCap := 0) (olds := []) (fun d => by simp [Builtin.firstCells]) (by rw [hsz]; exact hsrc) (by rw [hby]; simpa using hroom.1) (by rw [hby]; exact hroom.2)
    simp only [St.appended]
    by_cases h0 : ys.length = 0
    · have hnil : ys = [] := List.eq_nil_of_length_eq_zero h0
      subst hnil
      exact ⟨_, w, _, hrun.1 (by simp) w (by simp), h.newNil hn hA te.size, .refn (.inr rfl) (by simp)⟩
    · have hg := grow [] news [] ys 0 (by simp; omega) ⟨rfl, by simp, by simp [flat]⟩ hcr (by simp) hky (by simpa using hroom)
      simp only [List.length_nil, Nat.zero_add, List.nil_append] at hg hrun
      obtain ⟨g1, g2, g3, g4⟩ := hg
      exact ⟨_, _, _, hrun.2 (by omega), g1, .ref0 (.inr rfl) (by simp) g3 g2 g4⟩
  · -- a row of an object
    rename_i id k off len
    split at hr
    case h_2 => cases hr
    rename_i k' es hlook
    split at hr
    case isFalse => cases hr
    rename_i hc
    obtain ⟨rfl, rfl, rfl, hel⟩ := hc
    simp only [Option.bind_eq_some_iff] at hr
    obtain ⟨ys, hys, hr⟩ := hr
    split at hr
    case isFalse => cases hr
    rename_i hroom
    injection hr with hr
    subst hr
    obtain ⟨news, hsrc, hcr, hky⟩ := srcA_sound h hy hys
    have hlive := St.look_some.1 hlook
    have hidne : id ≠ nid := fun e => hA (e ▸ h.made id _ hlive)
    simp only [St.appended, St.grow]
    cases hx with
    | @ref _ _ _ _ cap b hAi hb hl hcs hm =>
      subst hel
      obtain ⟨cs, t', hblk, hrow⟩ := h.row hlook hb
      have hft := flat_length hrow.wide
      have hcap : cs.size = cap * te.size := by rw [csize_block hblk] at hcs; simpa using hcs
      have hocr := hrow.cr
      have hll := hocr.len
      have hof : ∀ d, (Builtin.firstCells i.size es.length (.slice (some ⟨b, 0 * te.size, none⟩) es.length cap)).run P { w with drawn := d } = .ok (cs.toList.take (flat es).length).toArray { w with drawn := d } := fun d => by
        refine firstCells_some i.size es.length b _ cap _ (by rw [hll, hft, hsz]) (fun j u hu => ?_) d es.length
        rw [cell_of_block hblk]
        rw [List.getElem?_take] at hu
        split at hu
        · simpa using hu
        · cases hu
      have hrun := run_append_gen (P := P) (w := w) (t := t) (tx := tx) (ty := ty) hu hd hd' hi hz hof (by rw [hsz]; exact hsrc) (by rw [hby]; exact hroom.1) (by rw [hby]; exact hroom.2)
      by_cases hle : es.length + ys.length <= cap
      · -- there is room
        have hnl := hcr.len
        have hyl := flat_length hky
        have hfit : es.length * te.size + news.length <= cs.size := by
          rw [hnl, hyl, hcap, <- Nat.add_mul]; exact Nat.mul_le_mul_right _ hle
        have hst := run_storeCells_at P b (es.length * te.size) t' news 0 cs w hblk (by simpa using hfit) hcr.atoms
        simp only [Nat.add_zero] at hst
        have hall : ∀ e, e ∈ es ++ ys -> e.cells.length = te.size := fun e he => (List.mem_append.1 he).elim (hrow.wide e) (hky e)
        have hrow2 : Row A ρ (Im Γ ρ s w) w te.size (es ++ ys) (cs.toList.take (es.length * te.size) ++ news ++ cs.toList.drop (es.length * te.size + news.length)).toArray := by
          have := (hocr.append hcr)
          rw [<- flat_append, hft] at this
          exact this.row hall _
        have hw1 := h.writeRow (w' := w.setRow b (cs.toList.take (es.length * te.size) ++ news ++ cs.toList.drop (es.length * te.size + news.length)).toArray) hlive hb (by simp) rfl rfl rfl (fun c hc => setRow_grow w b c _ hc) hblk (setRow_heap w b cs _ t' (0, 0) hblk)
          (by simp only [List.size_toArray, List.length_append, List.length_take, List.length_drop, Array.length_toList]; omega) hrow2
        have hlv : (s.set id (some (.arr te.size (es ++ ys)))).live id (.arr te.size (es ++ ys)) := by simp [St.live, live_len hlive]
        have hw2 := hw1.rename hlv (by simpa using hn) hA
        have hset : ((s.set id (some (.arr te.size (es ++ ys)))).set id none).set nid (some (.arr te.size (es ++ ys))) = (s.set id none).set nid (some (.arr te.size (es ++ ys))) := by simp [St.set]
        rw [hset] at hw2
        refine ⟨_, _, _, hrun.1 hle _ ?_, hw2, ?_⟩
        · simpa [hsz, add_lit] using hst
        · rw [List.length_append]
          have hcz := csize_block (setRow_heap w b cs (cs.toList.take (es.length * te.size) ++ news ++ cs.toList.drop (es.length * te.size + news.length)).toArray t' (0, 0) hblk)
          refine .ref (.inr rfl) (by simpa using hb) hle (hcz.trans ?_) hm
          congr 1
          rw [Nat.zero_add, <- hcap]
          simp only [List.size_toArray, List.length_append, List.length_take, List.length_drop, Array.length_toList]
          omega
      · -- a new block
        have hg := grow _ news es ys cap (by omega) hocr hcr hrow.wide hky hroom
        obtain ⟨g1, g2, g3, g4⟩ := hg
        have hk := g1.kill id
        have hset : (s.set nid (some (.arr te.size (es ++ ys)))).set id none = (s.set id none).set nid (some (.arr te.size (es ++ ys))) := by simp only [St.set]; rw [objs_comm _ (fun e => hidne e.symm)]
        rw [hset] at hk
        refine ⟨_, _, _, hrun.2 (by omega), hk, ?_⟩
        rw [List.length_append]
        exact .ref0 (.inr rfl) (by simp) g3 g2 g4
    | refn hAi hb =>
      have hnone := h.obj id _ hlive
      rw [hb] at hnone
      obtain ⟨k0, hk0⟩ := hnone.resolve_left (by simp)
      injection hk0 with _ hes
      subst hes
      have hrun := run_append_gen (P := P) (w := w) (t := t) (tx := tx) (ty := ty) hu hd hd' hi hz (base := none) (sLen := 0) (sCap := 0) (olds := []) (fun d => by simp [Builtin.firstCells]) (by rw [hsz]; exact hsrc) (by rw [hby]; simpa using hroom.1) (by rw [hby]; exact hroom.2)
      have hset : ∀ o, (s.set nid (some o)).set id none = (s.set id none).set nid (some o) := fun o => by simp only [St.set]; rw [objs_comm _ (fun e => hidne e.symm)]
      by_cases h0 : ys.length = 0
      · have hnil : ys = [] := List.eq_nil_of_length_eq_zero h0
        subst hnil
        have hk := (h.newNil hn hA te.size).kill id
        rw [hset] at hk
        exact ⟨_, w, _, hrun.1 (by simp) w (by simp), hk, .refn (.inr rfl) (by simp)⟩
      · have hg := grow [] news [] ys 0 (by simp; omega) ⟨rfl, by simp, by simp [flat]⟩ hcr (by simp) hky (by simpa using hroom)
        simp only [List.length_nil, Nat.zero_add, List.nil_append] at hg hrun
        obtain ⟨g1, g2, g3, g4⟩ := hg
        have hk := g1.kill id
        rw [hset] at hk
        exact ⟨_, _, _, hrun.2 (by omega), hk, .ref0 (.inr rfl) (by simp) g3 g2 g4⟩
  · cases hr
end
end Go.Lg
