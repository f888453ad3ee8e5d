/-
  Part 4 of the proof of PrecedenceUnambiguousCard: the logic over the model, the functions' contracts and the plain laws.
-/
import Derived.Test.YtmgpndmmodkhhaaDoorPu3
import Derived.MapKept
import Derived.Lib.ConvBytes
import Derived.Laws.BytesArg
import Derived.Laws.Runes

set_option linter.unusedSimpArgs false
set_option linter.unusedVariables false
set_option linter.unusedSectionVars false
set_option linter.defProp false

namespace Go.Lg
open Go.RowKit Go.MapKept
def unitT (P : Program) (t : TypeId) : Bool :=
  match P.underlying t, P.info? t with
  | some (.struct fs), some i => fs.isEmpty && decide (i.size = 0) && (match i.zero with
    | some (.agg cs) => cs.isEmpty
    | _ => false)
  | _, _ => false
theorem unitT_spec {P : Program} {t : TypeId} (h : unitT P t = true) : P.underlying t = some (.struct #[]) /\ (∃ i, P.info? t = some i /\ i.size = 0) /\ ∀ w : World, (zeroValue t).run P w = .ok (.agg #[]) w := by
 unfold unitT at h
 split at h
 ·rename_i fs i hu hi
  simp only [Bool.and_eq_true, decide_eq_true_eq, Array.isEmpty_iff] at h
  obtain ⟨⟨h1, h2⟩, h3⟩ := h
  subst h1
  split at h3
  ·rename_i cs hz
   simp only [Array.isEmpty_iff] at h3
   subst h3
   exact ⟨hu, ⟨i, hi, h2⟩, fun w => by simp [zeroValue, typeInfo, hi, hz]⟩
  ·cases h3
 ·cases h
def valM (v : Value) : Option AV :=
 if atom v then some (.val v) else match v with
  | .agg cs => if cs.toList.all atom then some (.agg (cs.toList.map .val)) else none
  | _ => none
def zeroM (P : Program) (e : TypeId) : Option AV := ((P.info? e).bind (·.zero)).bind valM
def mapKE (P : Program) (t : TypeId) : Option (TypeDesc × TypeId × TypeId) :=
 match P.underlying t with
 | some (.map k e) => (P.underlying k).map fun d => (d, k, e)
 | _ => none
theorem mapKE_spec {P : Program} {t k e : TypeId} {d : TypeDesc} (h : mapKE P t = some (d, k, e)) : P.underlying t = some (.map k e) /\ P.underlying k = some d := by
 unfold mapKE at h
 split at h
 ·rename_i k' e' hu
  obtain ⟨d', hd, h⟩ := Option.map_eq_some_iff.1 h
  simp only [Prod.mk.injEq] at h
  obtain ⟨rfl, rfl, rfl⟩ := h
  exact ⟨hu, hd⟩
 ·cases h
def isKeyB : TypeDesc -> Value -> Bool
 | .bool, .bool _ => true
 | .int k, .int k' _ => decide (k' = k)
 | .string, .string _ => true
 | _, _ => false
theorem isKeyB_iff {d : TypeDesc} {v : Value} (h : isKeyB d v = true) : IsKey d v := by
 unfold isKeyB at h
 unfold IsKey
 split at h <;> simp_all
def mfind (d : TypeDesc) (k : Value) : List (Value × AV) -> Nat -> Option (Nat × AV)
 | [], _ => none
 | p :: m, i => if Instr.sameNow d k p.1 = some true then some (i, p.2) else mfind d k m (i + 1)
section
variable {P : Program} {Γ : Cx} {A : Nat -> Prop} {ρ : Nat -> Option Nat} {I : Nat -> Prop} {s : St} {a : Act} {w : World}
theorem RV.veq {v u : Value} (h : RV A ρ I w (.val v) u) : u = v := by cases h; rfl
theorem mfind_sound {d : TypeDesc} {k : Value} (hk : IsKey d k) : ∀ (es : List MapEntry) (m : List (Value × AV)) (i : Nat), (m.all fun p => isKeyB d p.1) = true -> es.length = m.length ->
    (∀ (j : Nat) e p, es[j]? = some e -> m[j]? = some p -> e.key = p.1 /\ RV A ρ I w p.2 e.val) ->
    match mfind d k m i with
    | none => Instr.findNow d k es i = some none
    | some (j, y) => ∃ e, Instr.findNow d k es i = some (some (j, e.val)) /\ i <= j /\ es[j - i]? = some e /\ e.key = k /\ RV A ρ I w y e.val
  | [], [], i, _, _, _ => rfl
  | e :: es, p :: m, i, hm, hl, h => by
    simp only [List.all_cons, Bool.and_eq_true] at hm
    obtain ⟨h1, h2⟩ := h 0 e p rfl rfl
    obtain ⟨r, hr, hiff⟩ := sameNow_of_keys hk (isKeyB_iff hm.1)
    simp only [mfind]
    rw [hr]
    cases r with
    | true =>
      simp only [if_true]
      refine ⟨e, by simp [Instr.findNow, h1, hr], Nat.le_refl _, by simp, ?_, h2⟩
      rw [h1]; exact (hiff.1 rfl).symm
    | false =>
      simp only [Option.some.injEq, Bool.false_eq_true, if_false]
      have ih := mfind_sound hk es m (i + 1) hm.2 (by simpa using hl) fun j e p he hp => h (j + 1) e p (by simpa using he) (by simpa using hp)
      cases hf : mfind d k m (i + 1) with
      | none => rw [hf] at ih; simpa [Instr.findNow, h1, hr] using ih
      | some q =>
        obtain ⟨j, y⟩ := q
        rw [hf] at ih
        obtain ⟨e', g1, g2, g3, g4, g5⟩ := ih
        refine ⟨e', by simpa [Instr.findNow, h1, hr] using g1, by omega, ?_, g4, g5⟩
        rw [show j - i = (j - (i + 1)) + 1 by omega]
        simpa using g3
  | [], _ :: _, _, _, hl, _ => by simp at hl
  | _ :: _, [], _, _, hl, _ => by simp at hl
def lookupA (P : Program) (d : TypeDesc) (e : TypeId) (look : Nat -> Option AObj) (x k : AV) (ok : Bool) : Option AV :=
  match x, k with
  | .map id, .val kv => match look id with
    | some (.map m) => if isKeyB d kv = true /\ (m.all fun p => isKeyB d p.1) = true then
        (match mfind d kv m 0 with
          | some (_, y) => some (if ok then .tup [y, .val (.bool true)] else y)
          | none => (zeroM P e).map fun z => if ok then .tup [z, .val (.bool false)] else z)
      else none
    | _ => none
  | _, _ => none
theorem valM_sound {v : Value} {z : AV} (h : valM v = some z) : RV A ρ I w z v := by
 unfold valM at h
 split at h
 ·rename_i ha; injection h with h; subst h; exact .val ha
 ·split at h
  ·split at h
   ·rename_i ha; injection h with h; subst h; exact CR.agg (cr_vals ha)
   ·cases h
  ·cases h
theorem zeroM_sound {e : TypeId} {z : AV} (h : zeroM P e = some z) : ∃ zv, (∀ w : World, (zeroValue e).run P w = .ok zv w) /\ RV A ρ I w z zv := by
 obtain ⟨zv, hz, hv⟩ := Option.bind_eq_some_iff.1 h
 obtain ⟨i, hi, hz⟩ := Option.bind_eq_some_iff.1 hz
 exact ⟨zv, fun w => by simp [zeroValue, typeInfo, hi, hz], valM_sound hv⟩
theorem lookupA_sound (h : SRa Γ A ρ s a w) {t k e : TypeId} {d : TypeDesc} (ht : mapKE P t = some (d, k, e)) {x y : AV} {v u : Value} (hx : RV A ρ (Im Γ ρ s w) w x v) (hy : RV A ρ (Im Γ ρ s w) w y u) {ok : Bool} {z : AV} (hl : lookupA P d e s.look x y ok = some z) :
  ∃ r, (Instr.lookup t v u ok).run P w = .ok r w /\ RV A ρ (Im Γ ρ s w) w z r := by
 obtain ⟨hu, hd⟩ := mapKE_spec ht
 unfold lookupA at hl
 split at hl
 ·rename_i id kv
  have hkv := hy.veq
  subst hkv
  split at hl
  ·rename_i m hlook
   split at hl
   ·rename_i hc
    cases hx with
    | map hA hb =>
     have ho := h.obj id _ (St.look_some.1 hlook)
     rw [hb] at ho
     obtain ⟨es, clock, hblk, hsz, hes, hclk, hborn⟩ := ho
     have hk := isKeyB_iff hc.1
     have hf := mfind_sound (A := A) (ρ := ρ) (I := Im Γ ρ s w) (w := w) hk es.toList m 0 hc.2 (by simpa using hsz) (fun j e p he hp => hes j e p (by simpa using he) hp)
     have hck : ∀ b : Bool, (Instr.checkKey b 10000 k u).run P w = .ok () w := fun b => MapKept.run_checkKey hd hk b 9999
     cases hm : mfind d u m 0 with
     | none =>
      rw [hm] at hf hl
      obtain ⟨zz, hz, rfl⟩ := Option.map_eq_some_iff.1 hl
      obtain ⟨zv, hzr, hzv⟩ := zeroM_sound (A := A) (ρ := ρ) (I := Im Γ ρ s w) (w := w) hz
      refine ⟨if ok then .tuple #[zv, .bool false] else zv, ?_, ?_⟩
      ·cases ok <;> simp [Instr.lookup, run_underlying hu, MapKept.run_getObj_map hblk, hck, MapKept.run_findKey hd hf, hzr]
      ·cases ok with
       | false => simpa using hzv
       | true =>
        refine .tup rfl fun i x v hx hv => ?_
        match i, hx, hv with
        | 0, hx, hv => simp at hx hv; subst hx hv; exact hzv
        | 1, hx, hv => simp at hx hv; subst hx hv; exact .val rfl
     | some q =>
      obtain ⟨j, yv⟩ := q
      rw [hm] at hf hl
      obtain ⟨e', g1, g2, g3, g4, g5⟩ := hf
      injection hl with hl
      subst hl
      refine ⟨if ok then .tuple #[e'.val, .bool true] else e'.val, ?_, ?_⟩
      ·cases ok <;> simp [Instr.lookup, run_underlying hu, MapKept.run_getObj_map hblk, hck, MapKept.run_findKey hd g1]
      ·cases ok with
       | false => simpa using g5
       | true =>
        refine .tup rfl fun i x v hx hv => ?_
        match i, hx, hv with
        | 0, hx, hv => simp at hx hv; subst hx hv; exact g5
        | 1, hx, hv => simp at hx hv; subst hx hv; exact .val rfl
   ·cases hl
  ·cases hl
 ·cases hl
def updateA (d : TypeDesc) (look : Nat -> Option AObj) (x k y : AV) : Option (Nat × AObj) :=
  match x, k with
  | .map id, .val kv => match look id with
    | some (.map m) => if isKeyB d kv = true /\ (m.all fun p => isKeyB d p.1) = true then
        (match mfind d kv m 0 with
          | some (j, _) => some (id, .map (m.set j (kv, y)))
          | none => some (id, .map (m ++ [(kv, y)])))
      else none
    | _ => none
  | _, _ => none
theorem updateA_sound (h : SRa Γ A ρ s a w) {t k e : TypeId} {d : TypeDesc} (ht : mapKE P t = some (d, k, e)) {x y z : AV} {v u q : Value} (hx : RV A ρ (Im Γ ρ s w) w x v) (hy : RV A ρ (Im Γ ρ s w) w y u) (hz : RV A ρ (Im Γ ρ s w) w z q) {id : Nat} {o : AObj} (hl : updateA d s.look x y z = some (id, o)) :
  ∃ w', (Instr.mapUpdate t v u q).run P w = .ok () w' /\ SRa Γ A ρ (s.set id (some o)) a w' := by
 obtain ⟨hu, hd⟩ := mapKE_spec ht
 unfold updateA at hl
 split at hl
 ·rename_i id0 kv
  have hkv := hy.veq
  subst hkv
  split at hl
  ·rename_i m hlook
   split at hl
   ·rename_i hc
    cases hx with
    | @map _ b hA hb =>
     have hlive := St.look_some.1 hlook
     have ho := h.obj id0 _ hlive
     rw [hb] at ho
     obtain ⟨es, clock, hblk, hsz, hes, hclk, hborn⟩ := ho
     have hk := isKeyB_iff hc.1
     have hf := mfind_sound (A := A) (ρ := ρ) (I := Im Γ ρ s w) (w := w) hk es.toList m 0 hc.2 (by simpa using hsz) (fun j e p he hp => hes j e p (by simpa using he) hp)
     have hck : ∀ b : Bool, (Instr.checkKey b 10000 k u).run P w = .ok () w := fun b => MapKept.run_checkKey hd hk b 9999
     have key : ∀ (es' : Array MapEntry) (clock' : Nat) (m' : List (Value × AV)), es'.size = m'.length -> (∀ (j : Nat) e p, es'[j]? = some e -> m'[j]? = some p -> e.key = p.1 /\ RV A ρ (Im Γ ρ s w) w p.2 e.val) -> (clock' = es'.size /\ ∀ (j : Nat) e, es'[j]? = some e -> e.born = j) ->
       SRa Γ A ρ (s.set id0 (some (.map m'))) a { w with heap := w.heap.setIfInBounds b (.map es' clock') } := fun es' clock' m' h1 h2 h3 =>
      h.write hlive hb (by simp) rfl rfl rfl (fun c hcb => (heap_set hblk).2 c hcb) (fun n hn => by simp [csize, hblk] at hn) (fun I' hI hs => ⟨es', clock', (heap_set hblk).1, h1, fun j e p he hp => ⟨(h2 j e p he hp).1, (h2 j e p he hp).2.mono (fun i hi => ⟨hi, rfl⟩) hI hs⟩, h3⟩)
     cases hm : mfind d u m 0 with
     | none =>
      rw [hm] at hf hl
      injection hl with hl
      simp only [Prod.mk.injEq] at hl
      obtain ⟨rfl, rfl⟩ := hl
      refine ⟨_, by simp [Instr.mapUpdate, run_underlying hu, MapKept.run_getObj_map hblk, hck, MapKept.run_findKey hd hf, MapKept.run_setObj_map _ hblk]; rfl, key _ _ _ (by simp [hsz]) (fun j e' p he hp => ?_) ⟨by simp [hclk], fun j e' he => ?_⟩⟩
      ·rw [Array.getElem?_push] at he
       rw [List.getElem?_append] at hp
       by_cases hj : j = es.size
       ·rw [if_pos hj] at he
        rw [if_neg (by omega), show j - m.length = 0 by omega] at hp
        simp at he hp
        subst he hp
        exact ⟨rfl, hz⟩
       ·rw [if_neg hj] at he
        have hlt : j < es.size := (Array.getElem?_eq_some_iff.1 he).1
        rw [if_pos (by omega)] at hp
        exact hes j e' p he hp
      ·rw [Array.getElem?_push] at he
       by_cases hj : j = es.size
       ·rw [if_pos hj] at he
        simp at he
        subst he
        simp [hclk, hj]
       ·rw [if_neg hj] at he
        exact hborn j e' he
     | some r =>
      obtain ⟨j0, yv⟩ := r
      rw [hm] at hf hl
      obtain ⟨e', g1, g2, g3, g4, g5⟩ := hf
      injection hl with hl
      simp only [Prod.mk.injEq] at hl
      obtain ⟨rfl, rfl⟩ := hl
      have hj : es[j0]? = some e' := by simpa using g3
      refine ⟨_, by simp [Instr.mapUpdate, run_underlying hu, MapKept.run_getObj_map hblk, hck, MapKept.run_findKey hd g1, hj, g4, MapKept.run_keyThatStays hk, MapKept.run_setObj_map _ hblk]; rfl, key _ _ _ (by simp [hsz]) (fun j e2 p he hp => ?_) ⟨by simp [hclk], fun j e2 he => ?_⟩⟩
      ·rw [Array.getElem?_modify] at he
       rw [List.getElem?_set] at hp
       by_cases hjj : j0 = j
       ·subst hjj
        rw [if_pos rfl, hj] at he
        simp only [if_true] at hp
        split at hp
        ·simp at he hp; subst he hp; exact ⟨rfl, hz⟩
        ·cases hp
       ·rw [if_neg hjj] at he hp
        exact hes j e2 p he hp
      ·rw [Array.getElem?_modify] at he
       by_cases hjj : j0 = j
       ·subst hjj
        rw [if_pos rfl, hj] at he
        simp at he
        subst he
        exact hborn _ e' hj
       ·rw [if_neg hjj] at he
        exact hborn j e2 he
   ·cases hl
  ·cases hl
 ·cases hl
end
def b8 (P : Program) (ti : TI) : Bool := match ti.sh, ti.elem with
  | .slice, some e => (match P.underlying e with
    | some (.int .u8) => true
    | _ => false)
  | _, _ => false
theorem flat_one {α : Type} {f : α -> AV} (h : ∀ x, (f x).cells = [f x]) : ∀ l : List α, flat (l.map f) = l.map f
  | [] => rfl
  | x :: l => by
    have ih := flat_one h l
    simp only [flat] at ih
    simp only [List.map_cons, flat, List.flatMap_cons, ih, h, List.singleton_append]
def u8v : AV -> Option Int
 | .val (.int .u8 n) => some n
 | _ => none
def bytesA : List AV -> Option (List Int)
  | [] => some []
  | x :: xs => match u8v x, bytesA xs with
    | some n, some ns => some (n :: ns)
    | _, _ => none
theorem bytesA_eq : ∀ {es : List AV} {ns : List Int}, bytesA es = some ns -> es = ns.map fun n => AV.val (.int .u8 n)
  | [], ns, h => by simp [bytesA] at h; subst h; rfl
  | x :: xs, ns, h => by
    simp only [bytesA] at h
    split at h
    · rename_i n ns' h1 h2
      injection h with h; subst h
      rw [List.map_cons, bytesA_eq h2]
      unfold u8v at h1
      split at h1
      · injection h1 with h1; subst h1; rfl
      · cases h1
    · cases h
def convA (P : Program) (look : Nat -> Option AObj) (tj ti : TI) (x : AV) : Option AV :=
  match ti.kind with
  | some k => (match x with
    | .val (.int _ n) => if inr k n then some (.val (.int k n)) else none
    | _ => none)
  | none => if ti.sh = .string then
      (match x with
        | .val (.int _ n) => some (.val (.string (Utf8.encode n)))
        | .val (.string s) => some (.val (.string s))
        | .sl 1 es => if b8 P tj then (bytesA es).map fun ns => .val (.string (strOfNums ns)) else none
        | .ref id 1 off len => if b8 P tj then (match look id with
            | some (.arr 1 es) => if off + len <= es.length then (bytesA ((es.drop off).take len)).map fun ns => .val (.string (strOfNums ns)) else none
            | _ => none) else none
        | _ => none)
    else none
section
variable {P : Program} {Γ : Cx} {A : Nat -> Prop} {ρ : Nat -> Option Nat} {I : Nat -> Prop} {s : St} {a : Act} {w : World}
theorem b8_spec {src : TypeId} {tj : TI} (htj : tinfo P src = some tj) (h : b8 P tj = true) : ∃ e, P.underlying src = some (.slice e) /\ P.underlying e = some (.int .u8) := by
 unfold b8 at h
 split at h
 ·rename_i e hsh hel
  obtain ⟨e', hu⟩ := sh_slice htj hsh
  have := elem_spec htj hel
  refine ⟨e, this, ?_⟩
  split at h
  ·assumption
  ·cases h
 ·cases h
theorem run_bytes_nil {src dst e : TypeId} (hs : P.underlying src = some (.slice e)) (he : P.underlying e = some (.int .u8)) (hd : P.underlying dst = some .string) (ad : Option Addr) (c : Nat) :
  (convert src dst (.slice ad 0 c)).run P w = .ok (.string (strOfNums [])) w := by
 rw [run_convert_bytes_string w src dst e _ _ _ hs he hd]
 cases ad with
 | none => simp [Conv.bytesToString]; rfl
 | some ad =>
  have := run_bytesToString (P := P) w ad 0 c [] (by simpa using run_loadCells_list (P := P) w ad [] (fun j v hj => by simp at hj))
  rw [this]; rfl
theorem convA_sound (h : SRa Γ A ρ s a w) {src t : TypeId} {tj ti : TI} (htj : tinfo P src = some tj) (hti : tinfo P t = some ti) {x y : AV} {v : Value} (hx : RV A ρ (Im Γ ρ s w) w x v) (hy : convA P s.look tj ti x = some y) :
  ∃ u, (convert src t v).run P w = .ok u w /\ RV A ρ (Im Γ ρ s w) w y u := by
 obtain ⟨d, i, hd, _⟩ := tinfo_of htj
 unfold convA at hy
 split at hy
 ·rename_i k hk
  have hu := kind_int hti hk
  split at hy
  ·split at hy
   ·rename_i n hin
    injection hy with hy; subst hy
    rw [hx.veq]
    exact ⟨.int k n, by simp [convert, run_underlying hd, run_underlying hu, Conv.intToInt, inr_wrap hin], .val rfl⟩
   ·cases hy
  ·cases hy
 ·split at hy
  ·rename_i hs
   have hu := sh_string hti hs
   split at hy
   ·rename_i n
    injection hy with hy; subst hy
    rw [hx.veq]
    exact ⟨_, by simp [convert, run_underlying hd, run_underlying hu, Conv.intToString], .val rfl⟩
   ·rename_i st
    injection hy with hy; subst hy
    rw [hx.veq]
    exact ⟨_, by simp [convert, run_underlying hd, run_underlying hu], .val rfl⟩
   ·rename_i es
    split at hy
    ·rename_i hb
     obtain ⟨e, hse, he⟩ := b8_spec htj hb
     obtain ⟨ns, hns, rfl⟩ := Option.map_eq_some_iff.1 hy
     have hes := bytesA_eq hns
     subst hes
     refine ⟨_, ?_, .val rfl⟩
     generalize hq : List.map (fun n => AV.val (.int .u8 n)) ns = es at hx
     cases hx with
     | nils =>
      have : ns = [] := by simpa using hq
      subst this
      exact run_bytes_nil hse he hu _ _
     | @sl _ _ b o c f hn hI hk hc ha hr =>
      subst hq
      have hfl : flat (ns.map fun n => AV.val (.int .u8 n)) = ns.map fun n => AV.val (.int .u8 n) := flat_one (fun _ => rfl) ns
      rw [hfl] at hc hr
      have := run_convert_bytes_arg (P := P) w src e hse he b o ns.length c ns rfl (fun i hi => by
       rw [hc i (by simpa using hi)]
       have := (hr i (.val (.int .u8 (ns.getD i 0))) (by simp [List.getD, hi])).veq
       rw [this]) t hu
      simpa using this
    ·cases hy
   ·rename_i id off len
    split at hy
    ·rename_i hb
     obtain ⟨e, hse, he⟩ := b8_spec htj hb
     split at hy
     ·rename_i es hlook
      split at hy
      ·rename_i hle
       obtain ⟨ns, hns, rfl⟩ := Option.map_eq_some_iff.1 hy
       have hes := bytesA_eq hns
       have hlen : ns.length = len := by
        have := congrArg List.length hes
        simp at this; omega
       refine ⟨_, ?_, .val rfl⟩
       cases hx with
       | @ref _ _ _ _ cap b hA hbk hl hcs hm =>
        obtain ⟨cs, tt, hblk, hrow⟩ := h.row hlook hbk
        rw [Nat.mul_one]
        refine run_convert_bytes_arg (P := P) w src e hse he b off len cap ns hlen (fun i hi => ?_) t hu
        rw [cell_of_block hblk]
        have hge : es[off + i]? = some (.val (.int .u8 (ns.getD i 0))) := by
         have h1 : ((es.drop off).take len)[i]? = some (.val (.int .u8 (ns.getD i 0))) := by rw [hes]; simp [List.getD, show i < ns.length by omega]
         rw [List.getElem?_take, if_pos hi, List.getElem?_drop] at h1
         exact h1
        have hf := flat_get hrow.wide (off + i) 0 _ hge (by omega)
        simp only [Nat.mul_one, Nat.add_zero, AV.cells, List.getElem?_cons_zero] at hf
        have hlt : off + i < cs.size := Nat.lt_of_lt_of_le (List.getElem?_eq_some_iff.1 hf).1 hrow.len
        have := hrow.vals (off + i) _ _ hf (Array.getElem?_eq_getElem hlt)
        rw [Array.getElem?_eq_getElem hlt, this.veq]
       | refn hA hbk =>
        have : ns = [] := List.eq_nil_of_length_eq_zero hlen
        subst this
        exact run_bytes_nil hse he hu _ _
      ·cases hy
     ·cases hy
    ·cases hy
   ·cases hy
  ·cases hy
theorem SRa.same' (h : SRa Γ A ρ s a w) {w' : World} (hsz : w.heap.size <= w'.heap.size) (hos : w'.os = w.os) (htp : w'.tape = w.tape) (hout : w'.output = w.output) (hb : ∀ b, b < w.heap.size -> w'.heap[b]? = w.heap[b]?) : SRa Γ A ρ s a w' := by
 have hs : ∀ b n, csize w b = some n -> csize w' b = some n := fun b n hn => by have := csize_lt hn; unfold csize at *; rw [hb b this]; exact hn
 have hI : ∀ b, Im Γ ρ s w b -> Im Γ ρ s w' b /\ w'.heap[b]? = w.heap[b]? := fun b ⟨h1, h2, h3⟩ => ⟨⟨h1, by omega, h3⟩, hb b h2⟩
 refine h.turn rfl (fun _ hA => ⟨hA, rfl⟩) hI hs (fun id o hl => (h.obj id o hl).mono (fun _ hA => ⟨hA, rfl⟩) hI hs (fun c hc => hb c ?_)) h.made h.bound h.own h.inj (h.fr.turn hsz hos htp hout (fun b hlt => .inl (hb b hlt)) hs)
 have := h.obj id o hl
 rw [hc] at this
 cases o with
 | arr k es => obtain ⟨cs, t, h1, _⟩ := this; exact World.lt_of_block h1
 | map m => obtain ⟨cs, t, h1, _⟩ := this; exact World.lt_of_block h1
 | bytes l => obtain ⟨cs, h1, _⟩ := this; exact World.lt_of_block h1
 | bld T x => obtain ⟨p, v, h1, _⟩ := this; exact World.lt_of_block h1
 | lop c ts => obtain ⟨tm, df, h1, _⟩ := this; exact World.lt_of_block h1
 | itr i n l => obtain ⟨b', sn, h1, _⟩ := this; exact World.lt_of_block h1
def byteA (b : UInt8) : AV := .val (.int .u8 b.toNat)
def s2bA (x : AV) : Option AV :=
 match x with
 | .val (.string s) => if s.size <= 4611686018427387904 then some (.sl 1 (s.data.toList.map byteA)) else none
 | _ => none
theorem flat_bytes (l : List UInt8) : flat (l.map byteA) = l.map byteA := flat_one (fun _ => rfl) l
theorem s2b_sound (h : SRa Γ A ρ s a w) {src t : TypeId} {tj ti : TI} (htj : tinfo P src = some tj) (hti : tinfo P t = some ti) (hb : b8 P ti = true) {x y : AV} {v : Value} (hx : RV A ρ (Im Γ ρ s w) w x v) (hy : s2bA x = some y) :
  ∃ u w', (convert src t v).run P w = .ok u w' /\ SRa Γ A ρ s a w' /\ RV A ρ (Im Γ ρ s w') w' y u := by
 obtain ⟨d, i, hd, _⟩ := tinfo_of htj
 obtain ⟨e, hue, he⟩ := b8_spec hti hb
 unfold s2bA at hy
 split at hy
 ·rename_i st
  split at hy
  ·rename_i hsz
   injection hy with hy; subst hy
   rw [hx.veq]
   have hw := h.same' (w' := Lib.bytesWorld w e st) (by rw [Lib.bytesWorld_size]; omega) rfl rfl rfl (fun b hb => Lib.bytesWorld_at_old w e st b hb)
   refine ⟨_, _, Lib.run_convert_string_bytes w src t e st hd hue he, hw, ?_⟩
   have hnew := Lib.bytesWorld_at_new w e st
   have hlen : (st.data.toList.map byteA).length = st.size := by simp
   have hI : Im Γ ρ s (Lib.bytesWorld w e st) w.heap.size := by
    refine ⟨.inr h.fr.size, by rw [Lib.bytesWorld_size]; omega, fun id o hl hr => ?_⟩
    have ho := h.obj id o hl
    rw [hr] at ho
    have : w.heap.size < w.heap.size := by
     cases o with
     | arr k es => obtain ⟨cs, t, h1, _⟩ := ho; exact World.lt_of_block h1
     | map m => obtain ⟨cs, t, h1, _⟩ := ho; exact World.lt_of_block h1
     | bytes l => obtain ⟨cs, h1, _⟩ := ho; exact World.lt_of_block h1
     | bld T x => obtain ⟨p, v, h1, _⟩ := ho; exact World.lt_of_block h1
     | lop c ts => obtain ⟨tm, df, h1, _⟩ := ho; exact World.lt_of_block h1
     | itr i n l => obtain ⟨b', sn, h1, _⟩ := ho; exact World.lt_of_block h1
    omega
   have key : RV A ρ (Im Γ ρ s (Lib.bytesWorld w e st)) (Lib.bytesWorld w e st) (.sl 1 (st.data.toList.map byteA)) (.slice (some ⟨w.heap.size, 0, none⟩) (st.data.toList.map byteA).length (grownCap w st.size 0 e)) := by
    refine .sl (fun j => .int .u8 (st.data.toList.getD j 0).toNat) ⟨by rw [hlen]; exact grownCap_ge _ _ _ _, grownCap_le_maxLen _ _ _ _ (by unfold maxLen; omega)⟩ hI (fun e he => by obtain ⟨b, _, rfl⟩ := List.mem_map.1 he; rfl) (fun j hj => ?_) (fun j hj => rfl) (fun j x hx => ?_)
    ·rw [flat_bytes, hlen] at hj
     have := Lib.bytesWorld_cell w e st j hj
     rw [Nat.zero_add]; exact this
    ·rw [flat_bytes, List.getElem?_map, Option.map_eq_some_iff] at hx
     obtain ⟨b, hb, rfl⟩ := hx
     have : st.data.toList.getD j 0 = b := by simp only [List.getD, hb, Option.getD_some]
     rw [this]
     exact .val rfl
   rwa [hlen] at key
  ·cases hy
 ·cases hy
theorem run_build_unit {t : TypeId} (h : unitT P t = true) : (Instr.build t #[]).run P w = .ok (.agg #[]) w := by
 obtain ⟨hu, _, hz⟩ := unitT_spec h
 simp [Instr.build, hz, run_underlying hu, Instr.fill, Value.cells]
theorem buildA_unit {t : TypeId} {ti : TI} (h : unitT P t = true) (ht : tinfo P t = some ti) (xs : List (Nat × AV)) : buildA ti xs = none := by
 obtain ⟨_, ⟨i, hi, h0⟩, _⟩ := unitT_spec h
 obtain ⟨d, i', _, hi', rfl⟩ := tinfo_of ht
 rw [hi] at hi'; injection hi' with hi'; subst hi'
 unfold buildA
 rw [if_neg]
 simp [h0]
theorem allocA_unit {t : TypeId} {ti : TI} {o : AObj} (ht : tinfo P t = some ti) (ho : allocA ti = some o) : unitT P t = false := by
 cases h : unitT P t with
 | false => rfl
 | true =>
  obtain ⟨_, ⟨i, hi, h0⟩, _⟩ := unitT_spec h
  obtain ⟨d, i', _, hi', rfl⟩ := tinfo_of ht
  rw [hi] at hi'; injection hi' with hi'; subst hi'
  simp [allocA, zeroA, h0] at ho
end
end Go.Lg
namespace Go.Lg
open Go.RowKit
inductive Eff where
 | none
 | new (o : AObj)
 | set (id : Nat) (o : AObj)
 | app (r : Option Nat × List AV) (k : Nat)
def St.eff (s : St) (nid : Nat) : Eff -> St
 | .none => s
 | .new o => s.set nid (some o)
 | .set id o => s.set id (some o)
 | .app r k => s.appended nid r k
def makeSliceA (te : TI) (l c : AV) : Option (AObj × Nat) :=
 match l, c with
 | .val (.int _ n), .val (.int _ m) => (zeroA te).bind fun z => if 0 <= n /\ n <= m /\ (te.bytes : Int) * m <= 281474976710656 /\ te.bytes ≠ 0 then some (.arr te.size (List.replicate n.toNat z), n.toNat) else none
 | _, _ => none
def lenOp (P : Program) (look : Nat -> Option AObj) (t : TypeId) (x : AV) : Option AV :=
  (tinfo P t).bind fun ti => match ti.sh, x with
    | .slice, .sl _ es => some (.val (.int .i64 es.length))
    | .slice, .ref _ _ _ len => some (.val (.int .i64 len))
    | .slice, .val (.slice _ n _) => some (.val (.int .i64 n))
    | .string, .val (.string s) => some (.val (.int .i64 s.size))
    | .map, .map id => match look id with
      | some (.map m) => some (.val (.int .i64 m.length))
      | _ => none
    | _, _ => none
def pure' (x : Option AV) : Option (AV × Eff) := x.map fun y => (y, .none)
def mmA (g : Bool) : AV -> AV -> Option AV
 | .val (.int k p), .val (.int _ q) => some (.val (.int k (if g then max p q else min p q)))
 | _, _ => none
def nilcA : AV -> Option AV
 | .ptr id k i j => some (.ptr id k i j)
 | _ => none
def aop (P : Program) (look : Nat -> Option AObj) (nid : Nat) (ev : Operand -> AV) : Op -> Option (AV × Eff)
  | .move x => some (ev x, .none)
  | .assign x => some (ev x, .none)
  | .nilCheck x => pure' (nilcA (ev x))
  | .pick c x y => pure' (pickA (ev c) (ev x) (ev y))
  | .alloc t => if unitT P t then some (.ptr nid 0 0 0, .new (.arr 0 [.agg []])) else (tinfo P t).bind fun ti => (allocA ti).map fun o => (.ptr nid ti.size 0 0, .new o)
  | .box t x => (tinfo P t).bind fun ti => (boxA ti (ev x)).map fun o => (.ptr nid ti.size 0 0, .new o)
  | .build t ps => if unitT P t /\ ps = #[] then some (.agg [], .none) else (tinfo P t).bind fun ti => pure' (buildA ti (ps.toList.map fun p => (p.1, ev p.2)))
  | .buildSlice t n ps => (tinfo P t).bind fun ti => ti.elem.bind fun e => (tinfo P e).bind fun te => (buildSliceA te n (ps.toList.map fun p => (p.1, ev p.2))).map fun o => (.ref nid te.size 0 n, .new o)
  | .load t x => (tinfo P t).bind fun ti => pure' (loadA ti look (ev x))
  | .store t x y => (tinfo P t).bind fun ti => (storeA ti look (ev x) (ev y)).map fun p => (.any, .set p.1 p.2)
  | .binOp op t x y _ => pure' (binT P op t (ev x) (ev y))
  | .unOp op _ x => pure' (unA op (ev x))
  | .convert src t x => (tinfo P src).bind fun tj => (tinfo P t).bind fun ti => if b8 P ti then pure' (s2bA (ev x)) else pure' (convA P look tj ti (ev x))
  | .makeMap t none => if (mapKE P t).isSome then some (.map nid, .new (.map [])) else none
  | .lookup t x k ok => (mapKE P t).bind fun d => pure' (lookupA P d.1 d.2.2 look (ev x) (ev k) ok)
  | .mapUpdate t x k y => (mapKE P t).bind fun d => (updateA d.1 look (ev x) (ev k) (ev y)).map fun p => (.any, .set p.1 p.2)
  | .makeFunc fn xs ys => some (.clo fn (xs.toList.map ev) (ys.toList.map ev), .none)
  | .makeSlice t l c => (tinfo P t).bind fun ti => ti.elem.bind fun e => (tinfo P e).bind fun te => (makeSliceA te (ev l) (ev c)).map fun p => (.ref nid te.size 0 p.2, .new p.1)
  | .slice t x lo hi none => (tinfo P t).bind fun ti => match ti.sh with
    | .string => pure' (ssliceA (ev x) (lo.map ev) (hi.map ev))
    | .slice => ti.elem.bind fun e => (tinfo P e).bind fun te => pure' (sliceA te (ev x) (lo.map ev) (hi.map ev))
    | _ => none
  | .fieldAddr t x f => (tinfo P t).bind fun ti => pure' (fieldA ti f (ev x))
  | .indexAddr t x i => (tinfo P t).bind fun ti => ti.elem.bind fun e => (tinfo P e).bind fun te => pure' (indexA te (ev x) (ev i))
  | .index t x i => (tinfo P t).bind fun ti => if ti.sh = .string then pure' (sindexA (ev x) (ev i)) else none
  | .field t x i => pure' (fieldVA P t i (ev x))
  | .extract x i => pure' (extractA (ev x) i)
  | .call c => match c.callee, c.args.toList, c.argTypes.toList with
    | .builtin .len, [x], [t] => pure' (lenOp P look t (ev x))
    | .builtin .append, [x, y], [t, tx] => (tinfo P t).bind fun ti => ti.elem.bind fun e => (tinfo P e).bind fun te => (tinfo P tx).bind fun tj => if tj.sh = .int then none else (appendA te look (ev x) (ev y)).map fun r => (.ref nid te.size 0 r.2.length, .app r te.size)
    | .builtin .max, [x, y], [_, _] => pure' (mmA true (ev x) (ev y))
    | .builtin .min, [x, y], [_, _] => pure' (mmA false (ev x) (ev y))
    | _, _, _ => none
  | _ => none
section
variable {P : Program} {Γ : Cx} {A : Nat -> Prop} {ρ : Nat -> Option Nat} {s : St} {a : Act} {w : World}
theorem RV.val_eq {I : Nat -> Prop} {v u : Value} (h : RV A ρ I w (.val v) u) : u = v := by cases h; rfl
theorem okOpt_map (h : SRa Γ A ρ s a w) (o : Option Operand) : okOpt (RV A ρ (Im Γ ρ s w) w) (o.map s.op) (o.map a.eval) := by
 cases o with
 | none => trivial
 | some x => exact h.eval x
theorem parts_ok (h : SRa Γ A ρ s a w) (ps : Array (Nat × Operand)) : (ps.map fun (p : Nat × Operand) => (p.1, a.eval p.2)).size = (ps.toList.map fun p => (p.1, s.op p.2)).length /\
  ∀ (m : Nat) p q, (ps.toList.map fun p => (p.1, s.op p.2))[m]? = some p -> (ps.map fun (p : Nat × Operand) => (p.1, a.eval p.2))[m]? = some q -> q.1 = p.1 /\ RV A ρ (Im Γ ρ s w) w p.2 q.2 := by
 refine ⟨by simp, fun m p q hp hq => ?_⟩
 simp only [List.getElem?_map, Option.map_eq_some_iff, Array.getElem?_toList] at hp
 simp only [Array.getElem?_map, Option.map_eq_some_iff] at hq
 obtain ⟨x, hx, rfl⟩ := hp
 obtain ⟨y, hy, rfl⟩ := hq
 rw [hx] at hy
 injection hy with hy
 subst hy
 exact ⟨rfl, h.eval _⟩
theorem bind_some {α β : Type} {o : Option α} {f : α -> Option β} {y : β} (h : o.bind f = some y) : ∃ x, o = some x /\ f x = some y := Option.bind_eq_some_iff.1 h
theorem pure_some {x : Option AV} {r : AV × Eff} (h : pure' x = some r) : ∃ y, x = some y /\ r = (y, .none) := by
 unfold pure' at h
 obtain ⟨y, hy, h⟩ := Option.map_eq_some_iff.1 h
 exact ⟨y, hy, h.symm⟩
def Eff.made (A : Nat -> Prop) (nid : Nat) : Eff -> Nat -> Prop
 | .new _ | .app _ _ => fun i => A i \/ i = nid
 | _ => A
def Fits (P : Program) (Γ : Cx) (A : Nat -> Prop) (s : St) (a : Act) (w : World) (nid : Nat) (r : AV × Eff) (m : Sem Next) : Prop :=
 ∃ nx v w' ρ', m.run P w = .ok nx w' /\ (nx = .value v \/ (nx = .skip /\ v = undef)) /\ SRa Γ (r.2.made A nid) ρ' (s.eff nid r.2) a w' /\ RV (r.2.made A nid) ρ' (Im Γ ρ' (s.eff nid r.2) w') w' r.1 v
theorem fits_pure (h : SRa Γ A ρ s a w) {nid : Nat} {x : AV} {m : Sem Value} (hm : ∃ v, m.run P w = .ok v w /\ RV A ρ (Im Γ ρ s w) w x v) : Fits P Γ A s a w nid (x, .none) (do pure (.value (<- m))) := by
 obtain ⟨v, hv, hr⟩ := hm
 exact ⟨.value v, v, w, ρ, by simp [hv], .inl rfl, h, hr⟩
theorem row1 (x : AV) (v : Value) (hcr : CR A ρ (Im Γ ρ s w) w x.cells v.cells.toList) : Row A ρ (Im Γ ρ s w) w x.cells.length [x] v.cells := by
 have := CR.row (k := x.cells.length) (es := [x]) (by simpa [flat] using hcr) (by simp) []
 simpa using this
theorem fits_new (h : SRa Γ A ρ s a w) {nid : Nat} (hn : nid < s.objs.length) (hA : ¬ A nid) {x : AV} {v : Value} (t : TypeId) (hx : CR A ρ (Im Γ ρ s w) w x.cells v.cells.toList) {k : Nat} (hk : x.cells.length = k) {m : Sem Value}
  (hm : m.run P w = .ok (.pointer (some ⟨w.heap.size, 0, none⟩)) (w.alloc (.cells v.cells t))) : Fits P Γ A s a w nid (.ptr nid k 0 0, .new (.arr k [x])) (do pure (.value (<- m))) := by
 subst hk
 have hw := h.newRow hn hA t (row1 x v hx)
 refine ⟨.value (.pointer (some ⟨w.heap.size, 0, none⟩)), _, _, _, by simp [hm], .inl rfl, hw, ?_⟩
 have := RV.ptr (A := fun i => A i \/ i = nid) (ρ := fun i => if i = nid then some w.heap.size else ρ i) (I := Im Γ (fun i => if i = nid then some w.heap.size else ρ i) (s.set nid (some (.arr x.cells.length [x]))) (w.alloc (.cells v.cells t)))
  (w := w.alloc (.cells v.cells t)) (id := nid) (k := x.cells.length) (i := 0) (j := 0) (b := w.heap.size) (.inr rfl) (by simp)
 rw [Nat.zero_mul] at this
 exact this
theorem fits_row (h : SRa Γ A ρ s a w) {nid : Nat} (hn : nid < s.objs.length) (hA : ¬ A nid) {k : Nat} {es : List AV} {cs : Array Value} (t : TypeId) (hr : Row A ρ (Im Γ ρ s w) w k es cs) {c n : Nat} (hc : cs.size = c * k) (hnc : n <= c) (hm' : c <= maxLen) {m : Sem Value}
  (hm : m.run P w = .ok (.slice (some ⟨w.heap.size, 0, none⟩) n c) (w.alloc (.cells cs t))) : Fits P Γ A s a w nid (.ref nid k 0 n, .new (.arr k es)) (do pure (.value (<- m))) := by
 have hw := h.newRow hn hA t hr
 refine ⟨.value (.slice (some ⟨w.heap.size, 0, none⟩) n c), _, _, _, by simp [hm], .inl rfl, hw, ?_⟩
 exact .ref0 (.inr rfl) (by simp) hnc ((csize_block (heap_alloc_new w _)).trans (by rw [hc])) hm'
theorem fits_alloc (h : SRa Γ A ρ s a w) {nid : Nat} (hn : nid < s.objs.length) (hA : ¬ A nid) {t : TypeId} {ti : TI} (ht : tinfo P t = some ti) {o : AObj} (ho : allocA ti = some o) :
  Fits P Γ A s a w nid (.ptr nid ti.size 0 0, .new o) (do pure (.value (<- Instr.alloc t true (.tuple #[])))) := by
 obtain ⟨z, hz, rfl⟩ := Option.map_eq_some_iff.1 ho
 obtain ⟨zv, hrun, hzc, hcells, hall, hlen, h0, hst, _⟩ := zeroA_spec ht hz
 refine fits_new h hn hA (v := zv) t (by rw [hcells, hzc]; exact cr_vals hall) (by simp [hcells, hlen]) ?_
 simp [Instr.alloc, hrun, newVar, newRow]
theorem fits_box (h : SRa Γ A ρ s a w) {nid : Nat} (hn : nid < s.objs.length) (hA : ¬ A nid) {t : TypeId} {ti : TI} {x : AV} {v : Value} (hx : RV A ρ (Im Γ ρ s w) w x v) {o : AObj} (ho : boxA ti x = some o) :
  Fits P Γ A s a w nid (.ptr nid ti.size 0 0, .new o) (do pure (.value (<- Instr.box t v))) := by
 unfold boxA at ho
 split at ho
 ·rename_i hc
  injection ho with ho
  subst ho
  refine fits_new h hn hA (v := v) t (hx.cr hc.2) hc.1 ?_
  simp [Instr.box, newVar, newRow]
 ·cases ho
theorem made_eq (zv : Value) (n k : Nat) (hk : zv.cells.size = k) (h0 : k ≠ 0) : madeCells zv.cells (n * k) = (List.replicate n zv.cells.toList).flatten.toArray := by
 have := made_flatten zv.cells.toList n (by intro e; rw [<- hk] at h0; exact h0 (by rw [<- Array.length_toList, e]; rfl))
 rw [<- this]
 subst hk
 unfold madeCells
 simp
theorem fits_makeSlice (h : SRa Γ A ρ s a w) {nid : Nat} (hn : nid < s.objs.length) (hA : ¬ A nid) {t e : TypeId} {ti te : TI} (ht : tinfo P t = some ti) (he : ti.elem = some e) (hte : tinfo P e = some te) {x y : AV} {v u : Value}
  (hx : RV A ρ (Im Γ ρ s w) w x v) (hy : RV A ρ (Im Γ ρ s w) w y u) {p : AObj × Nat} (hp : makeSliceA te x y = some p) : Fits P Γ A s a w nid (.ref nid te.size 0 p.2, .new p.1) (do pure (.value (<- Instr.makeSlice t v u))) := by
 unfold makeSliceA at hp
 split at hp
 ·rename_i k n k' m
  cases hx; cases hy
  obtain ⟨z, hz, hp⟩ := bind_some hp
  split at hp
  ·rename_i hc
   obtain ⟨h0, hnm, hb, hb0⟩ := hc
   injection hp with hp
   subst hp
   obtain ⟨zv, hrun, hzc, hcells, hall, hlen, hs0, hst, i, hi, hzi, hsz, hby⟩ := zeroA_spec hte hz
   have hzs : zv.cells.size = te.size := by rw [<- Array.length_toList, hzc, hlen]
   have hm63 : m <= 281474976710656 := by
    have h1 : (1 : Int) * m <= (te.bytes : Int) * m := Int.mul_le_mul_of_nonneg_right (by omega) (by omega)
    omega
   have hmk := run_make (P := P) w t e i zv (elem_spec ht he) hi hzi k k' n m h0 hnm (by rw [hby]; exact hb) (by omega)
   rw [hsz, made_eq zv m.toNat te.size hzs hs0] at hmk
   have hcr : CR A ρ (Im Γ ρ s w) w (flat (List.replicate n.toNat z)) (List.replicate n.toNat zv.cells.toList).flatten := cr_replicate (by rw [hcells, hzc]) (by rw [hzc]; exact hall) n.toNat
   have hw : ∀ e, e ∈ List.replicate n.toNat z -> e.cells.length = te.size := fun e he => by rw [(List.mem_replicate.1 he).2, hcells]; simpa using hlen
   have hrow := hcr.row hw (List.replicate (m.toNat - n.toNat) zv.cells.toList).flatten
   rw [<- List.flatten_append, List.replicate_append_replicate, show n.toNat + (m.toNat - n.toNat) = m.toNat by omega] at hrow
   refine fits_row h hn hA e hrow (c := m.toNat) ?_ (by omega) (by simp only [maxLen]; omega) hmk
   simp [List.length_flatten, hzs]
  ·cases hp
 ·cases hp
theorem fits_buildSlice (h : SRa Γ A ρ s a w) {nid : Nat} (hn : nid < s.objs.length) (hA : ¬ A nid) {t e : TypeId} {ti te : TI} (ht : tinfo P t = some ti) (he : ti.elem = some e) (hte : tinfo P e = some te) {n : Nat} {parts : List (Nat × AV)} {pv : Array (Nat × Value)}
  (hl : pv.size = parts.length) (hr : ∀ (m : Nat) p q, parts[m]? = some p -> pv[m]? = some q -> q.1 = p.1 /\ RV A ρ (Im Γ ρ s w) w p.2 q.2) {o : AObj} (ho : buildSliceA te n parts = some o) :
  Fits P Γ A s a w nid (.ref nid te.size 0 n, .new o) (do pure (.value (<- Instr.buildSlice t n pv))) := by
 have hu := elem_spec ht he
 unfold buildSliceA at ho
 split at ho
 ·rename_i h0
  subst h0
  split at ho
  ·rename_i hp
   injection ho with ho
   subst ho
   have hpv : pv = #[] := by
    have : parts = [] := by simpa using hp
    subst this
    exact Array.eq_empty_of_size_eq_zero (by simpa using hl)
   subst hpv
   have hrow : Row A ρ (Im Γ ρ s w) w te.size [] #[] := ⟨by simp [flat], by simp, by simp [flat], by simp [flat]⟩
   refine fits_row h hn hA e hrow (c := 0) (by simp) (Nat.le_refl _) (by simp) ?_
   have h00 : ∀ g : Nat -> Value, (Array.range 0).map g = #[] := fun g => by apply Array.eq_empty_of_size_eq_zero; simp
   simp only [Instr.buildSlice, Sem.run_bind, run_underlying hu, Result.andThen_ok, run_sizeOf hte, Nat.zero_mul, h00]
   simp [Instr.fill, newRow]
  ·cases ho
 ·rename_i h0
  obtain ⟨z, hz, ho⟩ := bind_some ho
  split at ho
  ·rename_i hbig
   obtain ⟨es, hes, rfl⟩ := Option.map_eq_some_iff.1 ho
   obtain ⟨zv, hrun, hzc, hcells, hall, hlen, hs0, hst, i, hi, hzi, hsz, hby⟩ := zeroA_spec hte hz
   have hzs : zv.cells.size = te.size := by rw [<- Array.length_toList, hzc, hlen]
   have hcr : CR A ρ (Im Γ ρ s w) w (flat (List.replicate n z)) (madeCells zv.cells (n * te.size)).toList := by
    rw [made_eq zv n te.size hzs hs0]; exact cr_replicate (by rw [hcells, hzc]) (by rw [hzc]; exact hall) n
   have hw : ∀ e, e ∈ List.replicate n z -> e.cells.length = te.size := fun e he => by rw [(List.mem_replicate.1 he).2, hcells]; simpa using hlen
   obtain ⟨cs', hcs, hcr', hk', hlen'⟩ := fillE_sound parts pv.toList (List.replicate n z) es (madeCells zv.cells (n * te.size)) hw hcr (by simpa using hl) (fun m p q hp hq => hr m p q hp (by simpa using hq)) hes
   have hl' := hcr'.len
   have hfl := flat_length hk'
   have hrow := hcr'.row hk' []
   simp only [List.append_nil, Array.toArray_toList] at hrow
   have hnpos : ¬ n * te.size = 0 := by simp only [Nat.mul_eq_zero]; omega
   refine fits_row h hn hA e hrow (c := n) (by simp only [Array.length_toList] at hl'; rw [hl', hfl, hlen']; simp) (Nat.le_refl _) ?_ ?_
   ·have : n * 1 <= n * te.size := Nat.mul_le_mul_left _ (by omega)
    simp only [maxLen]; omega
   ·have hnb : ¬ (16777216 < n * te.size) := by omega
    have hfill : Instr.fill (fun i => some (i * te.size, te.size)) ((Array.range (n * te.size)).map (zv.cells[· % zv.cells.size]!)) pv.toList = some cs' := hcs
    simp only [Instr.buildSlice, Sem.run_bind, run_underlying hu, Result.andThen_ok, run_sizeOf hte]
    rw [if_neg (by simpa using hnb), if_neg hnpos]
    simp [hrun, hfill, newRow]
  ·cases ho
theorem mmA_sound {A : Nat -> Prop} {ρ : Nat -> Option Nat} {I : Nat -> Prop} {w : World} {P : Program} {x y z : AV} {u v : Value} (hx : RV A ρ I w x u) (hy : RV A ρ I w y v) (ts : Array TypeId) (ty : TypeId) :
  (mmA true x y = some z -> ∃ r, (Builtin.max_ ts ty #[u, v]).run P w = .ok r w /\ RV A ρ I w z r) /\ (mmA false x y = some z -> ∃ r, (Builtin.min_ ts ty #[u, v]).run P w = .ok r w /\ RV A ρ I w z r) := by
 cases x with
 | val a =>
  cases y with
  | val b =>
   have hu := hx.val_eq
   have hv := hy.val_eq
   subst hu hv
   cases u with
   | int k p =>
    cases v with
    | int k2 q =>
     constructor
     ·intro h
      simp only [mmA, if_true, Option.some.injEq] at h
      subst h
      refine ⟨.int k (max p q), ?_, .val rfl⟩
      simp only [Builtin.max_, List.foldlM_cons, List.foldlM_nil, Builtin.max2]
      have : (if q > p then q else p) = max p q := by split <;> omega
      rw [this]; simp
     ·intro h
      simp only [mmA, Bool.false_eq_true, if_false, Option.some.injEq] at h
      subst h
      refine ⟨.int k (min p q), ?_, .val rfl⟩
      simp only [Builtin.min_, List.foldlM_cons, List.foldlM_nil, Builtin.min2]
      have : (if q < p then q else p) = min p q := by split <;> omega
      rw [this]; simp
    | _ => exact ⟨fun h => by simp [mmA] at h, fun h => by simp [mmA] at h⟩
   | _ => exact ⟨fun h => by simp [mmA] at h, fun h => by simp [mmA] at h⟩
  | _ => exact ⟨fun h => by cases a <;> simp [mmA] at h, fun h => by cases a <;> simp [mmA] at h⟩
 | _ => exact ⟨fun h => by simp [mmA] at h, fun h => by simp [mmA] at h⟩
theorem lenOp_sound (h : SRa Γ A ρ s a w) {t ty : TypeId} {x y : AV} {v : Value} (hx : RV A ρ (Im Γ ρ s w) w x v) (hq : lenOp P s.look t x = some y) : ∃ u, (Builtin.len_ #[t] ty #[v]).run P w = .ok u w /\ RV A ρ (Im Γ ρ s w) w y u := by
 obtain ⟨ti, ht, hy⟩ := bind_some hq
 clear hq
 split at hy
 ·rename_i hs
  obtain ⟨e, hu⟩ := sh_slice ht hs
  injection hy with hy
  subst hy
  cases hx with
  | nils => exact ⟨.int .i64 0, by simp [Builtin.len_, run_underlying hu, goInt], .val rfl⟩
  | sl f hn hI hk hc ha hr => exact ⟨.int .i64 _, by simp only [Builtin.len_, List.getElem?_toArray, List.getElem?_cons_zero, Sem.run_bind, run_underlying hu, Result.andThen_ok, goInt, Sem.run_pure], .val rfl⟩
 ·rename_i hs
  obtain ⟨e, hu⟩ := sh_slice ht hs
  injection hy with hy
  subst hy
  cases hx with
  | ref hA hb hl hs hm => exact ⟨.int .i64 _, by simp only [Builtin.len_, List.getElem?_toArray, List.getElem?_cons_zero, Sem.run_bind, run_underlying hu, Result.andThen_ok, goInt, Sem.run_pure], .val rfl⟩
  | refn hA hb => exact ⟨.int .i64 (0 : Nat), by simp [Builtin.len_, run_underlying hu, goInt], .val rfl⟩
 ·rename_i hs
  obtain ⟨e, hu⟩ := sh_slice ht hs
  injection hy with hy
  subst hy
  cases hx
  exact ⟨.int .i64 _, by simp only [Builtin.len_, List.getElem?_toArray, List.getElem?_cons_zero, Sem.run_bind, run_underlying hu, Result.andThen_ok, goInt, Sem.run_pure], .val rfl⟩
 ·rename_i hs
  have hu := sh_string ht hs
  injection hy with hy
  subst hy
  cases hx
  exact ⟨.int .i64 _, by simp only [Builtin.len_, List.getElem?_toArray, List.getElem?_cons_zero, Sem.run_bind, run_underlying hu, Result.andThen_ok, goInt, Sem.run_pure], .val rfl⟩
 ·rename_i id hs
  obtain ⟨k, e, hu⟩ := sh_map ht hs
  split at hy
  ·rename_i m hlook
   injection hy with hy
   subst hy
   cases hx with
   | map hA hb =>
    have ho := h.obj id _ (St.look_some.1 hlook)
    rw [hb] at ho
    obtain ⟨es, clock, hblk, hsz, _⟩ := ho
    exact ⟨.int .i64 m.length, by simp [Builtin.len_, run_underlying hu, goInt, getObj, Sem.run, hblk, hsz], .val rfl⟩
  ·cases hy
 ·cases hy
theorem aop_sound (h : SRa Γ A ρ s a w) {nid : Nat} (hn : nid < s.objs.length) (hA : ¬ A nid) {o : Oper} {r : AV × Eff} (hr : aop P s.look nid s.op o.op = some r) : Fits P Γ A s a w nid r (execOp a.eval o) := by
 obtain ⟨dst, op, type, pos, after, guard⟩ := o
 simp only at hr
 cases op with
 | move x =>
  simp only [aop, Option.some.injEq] at hr
  subst hr
  exact ⟨.value (a.eval x), _, w, ρ, by simp [execOp], .inl rfl, h, h.eval x⟩
 | assign x =>
  simp only [aop, Option.some.injEq] at hr
  subst hr
  exact ⟨.value (a.eval x), _, w, ρ, by simp [execOp], .inl rfl, h, h.eval x⟩
 | nilCheck x =>
  obtain ⟨z, hz, rfl⟩ := pure_some hr
  have hx := h.eval x
  generalize s.op x = y at hx hz
  generalize hv : a.eval x = v at hx
  cases y with
  | ptr id k i j =>
   simp only [nilcA, Option.some.injEq] at hz
   subst hz
   cases hx with
   | ptr h1 h2 => exact ⟨.value _, _, w, ρ, by simp [execOp, hv], .inl rfl, h, .ptr h1 h2⟩
  | _ => simp [nilcA] at hz
 | pick c x y =>
  obtain ⟨z, hz, rfl⟩ := pure_some hr
  obtain ⟨v, hv, hrv⟩ := pickA_sound (P := P) (h.eval c) (h.eval x) (h.eval y) hz
  exact ⟨.value v, v, w, ρ, hv, .inl rfl, h, hrv⟩
 | alloc t =>
  simp only [aop] at hr
  split at hr
  ·rename_i hu
   injection hr with hr; subst hr
   refine fits_new h hn hA (x := .agg []) (v := .agg #[]) t ⟨rfl, by simp [Value.cells], by simp [AV.cells]⟩ rfl ?_
   simp [Instr.alloc, (unitT_spec hu).2.2, newVar, newRow]
  ·obtain ⟨ti, ht, hr⟩ := bind_some hr
   obtain ⟨o, ho, rfl⟩ := Option.map_eq_some_iff.1 hr
   exact fits_alloc h hn hA ht ho
 | box t x =>
  obtain ⟨ti, ht, hr⟩ := bind_some hr
  obtain ⟨o, ho, rfl⟩ := Option.map_eq_some_iff.1 hr
  exact fits_box h hn hA (h.eval x) ho
 | build t ps =>
  simp only [aop] at hr
  split at hr
  ·rename_i hu
   injection hr with hr; subst hr
   obtain ⟨hu, rfl⟩ := hu
   exact fits_pure h ⟨.agg #[], by simpa using run_build_unit (w := w) hu, RV.agg (cs := []) (vs := #[]) rfl (by simp) (by simp)⟩
  ·obtain ⟨ti, ht, hr⟩ := bind_some hr
   obtain ⟨z, hz, rfl⟩ := pure_some hr
   have hp := parts_ok h ps
   exact fits_pure h (buildA_sound ht hp.1 hp.2 hz)
 | buildSlice t n ps =>
  obtain ⟨ti, ht, hr⟩ := bind_some hr
  obtain ⟨e, he, hr⟩ := bind_some hr
  obtain ⟨te, hte, hr⟩ := bind_some hr
  obtain ⟨o, ho, rfl⟩ := Option.map_eq_some_iff.1 hr
  have hp := parts_ok h ps
  exact fits_buildSlice h hn hA ht he hte hp.1 hp.2 ho
 | load t x =>
  obtain ⟨ti, ht, hr⟩ := bind_some hr
  obtain ⟨z, hz, rfl⟩ := pure_some hr
  exact fits_pure h (loadA_sound h ht (h.eval x) hz)
 | store t x y =>
  obtain ⟨ti, ht, hr⟩ := bind_some hr
  obtain ⟨⟨id, o⟩, ho, rfl⟩ := Option.map_eq_some_iff.1 hr
  obtain ⟨w', hw, hs⟩ := storeA_sound h ht (h.eval x) (h.eval y) ho
  exact ⟨.skip, undef, w', ρ, by simp [execOp, hw], .inr ⟨rfl, rfl⟩, hs, .any⟩
 | binOp op t x y t2 =>
  obtain ⟨z, hz, rfl⟩ := pure_some hr
  exact fits_pure h (binT_sound (h.eval x) (h.eval y) t hz x y)
 | unOp op t x =>
  obtain ⟨z, hz, rfl⟩ := pure_some hr
  exact fits_pure h (unA_sound (h.eval x) hz)
 | convert src t x =>
  obtain ⟨tj, htj, hr⟩ := bind_some hr
  obtain ⟨ti, ht, hr⟩ := bind_some hr
  split at hr
  ·rename_i hb
   obtain ⟨z, hz, rfl⟩ := pure_some hr
   obtain ⟨u, w', hrun, hs, hrv⟩ := s2b_sound h htj ht hb (h.eval x) hz
   exact ⟨.value u, u, w', ρ, by simp [execOp, hrun], .inl rfl, hs, hrv⟩
  ·obtain ⟨z, hz, rfl⟩ := pure_some hr
   exact fits_pure h (convA_sound h htj ht (h.eval x) hz)
 | makeMap t r =>
  cases r with
  | some r => simp [aop] at hr
  | none =>
   simp only [aop] at hr
   split at hr
   ·injection hr with hr; subst hr
    have hw := h.new (ob := .map #[] 0) (o := .map []) hn hA fun A' ρ' I' _ _ => ⟨#[], 0, (MapKept.heap_alloc w _).1, rfl, by simp, rfl, by simp⟩
    refine ⟨.value (.map (some w.heap.size)), _, _, _, by simp [execOp, run_makeMap], .inl rfl, hw, ?_⟩
    exact .map (.inr rfl) (by simp)
   ·cases hr
 | lookup t x k ok =>
  obtain ⟨⟨d, kt, e⟩, ht, hr⟩ := bind_some hr
  obtain ⟨z, hz, rfl⟩ := pure_some hr
  exact fits_pure h (lookupA_sound h ht (h.eval x) (h.eval k) hz)
 | mapUpdate t x k y =>
  obtain ⟨⟨d, kt, e⟩, ht, hr⟩ := bind_some hr
  obtain ⟨⟨id, o⟩, ho, rfl⟩ := Option.map_eq_some_iff.1 hr
  obtain ⟨w', hw, hs⟩ := updateA_sound h ht (h.eval x) (h.eval k) (h.eval y) ho
  exact ⟨.skip, undef, w', ρ, by simp [execOp, hw], .inr ⟨rfl, rfl⟩, hs, .any⟩
 | makeFunc fn xs ys =>
  simp only [aop, Option.some.injEq] at hr
  subst hr
  refine ⟨.value (.func fn (xs.map a.eval) (ys.map a.eval)), _, w, ρ, by simp [execOp, Instr.makeFunc], .inl rfl, h, .clo (by simp) (by simp) ?_ ?_⟩
  ·intro i x v hx hv
   simp only [List.getElem?_map, Option.map_eq_some_iff, Array.getElem?_toList] at hx
   simp only [Array.getElem?_map, Option.map_eq_some_iff] at hv
   obtain ⟨p, hp, rfl⟩ := hx
   obtain ⟨q, hq, rfl⟩ := hv
   rw [hp] at hq; injection hq with hq; subst hq
   exact h.eval p
  ·intro i x v hx hv
   simp only [List.getElem?_map, Option.map_eq_some_iff, Array.getElem?_toList] at hx
   simp only [Array.getElem?_map, Option.map_eq_some_iff] at hv
   obtain ⟨p, hp, rfl⟩ := hx
   obtain ⟨q, hq, rfl⟩ := hv
   rw [hp] at hq; injection hq with hq; subst hq
   exact h.eval p
 | makeSlice t l c =>
  obtain ⟨ti, ht, hr⟩ := bind_some hr
  obtain ⟨e, he, hr⟩ := bind_some hr
  obtain ⟨te, hte, hr⟩ := bind_some hr
  obtain ⟨p, hp, rfl⟩ := Option.map_eq_some_iff.1 hr
  exact fits_makeSlice h hn hA ht he hte (h.eval l) (h.eval c) hp
 | slice t x lo hi mx =>
  cases mx with
  | some m => simp [aop] at hr
  | none =>
   obtain ⟨ti, ht, hr⟩ := bind_some hr
   split at hr
   ·rename_i hs
    obtain ⟨z, hz, rfl⟩ := pure_some hr
    exact fits_pure h (ssliceA_sound (sh_string ht hs) (h.eval x) (okOpt_map h lo) (okOpt_map h hi) hz)
   ·rename_i hs
    obtain ⟨e, he, hr⟩ := bind_some hr
    obtain ⟨te, hte, hr⟩ := bind_some hr
    obtain ⟨z, hz, rfl⟩ := pure_some hr
    exact fits_pure h (sliceA_sound ht he hte (h.eval x) (okOpt_map h lo) (okOpt_map h hi) hz)
   ·cases hr
 | fieldAddr t x f =>
  obtain ⟨ti, ht, hr⟩ := bind_some hr
  obtain ⟨z, hz, rfl⟩ := pure_some hr
  exact fits_pure h (fieldA_sound ht (h.eval x) hz)
 | indexAddr t x i =>
  obtain ⟨ti, ht, hr⟩ := bind_some hr
  obtain ⟨e, he, hr⟩ := bind_some hr
  obtain ⟨te, hte, hr⟩ := bind_some hr
  obtain ⟨z, hz, rfl⟩ := pure_some hr
  exact fits_pure h (indexA_sound ht he hte (h.eval x) (h.eval i) hz)
 | index t x i =>
  obtain ⟨ti, ht, hr⟩ := bind_some hr
  split at hr
  ·rename_i hs
   obtain ⟨z, hz, rfl⟩ := pure_some hr
   exact fits_pure h (sindexA_sound (sh_string ht hs) (h.eval x) (h.eval i) hz)
  ·cases hr
 | field t x i =>
  obtain ⟨z, hz, rfl⟩ := pure_some hr
  exact fits_pure h (fieldVA_sound (h.eval x) hz)
 | extract x i =>
  obtain ⟨z, hz, rfl⟩ := pure_some hr
  exact fits_pure h (extractA_sound (h.eval x) hz)
 | call c =>
  obtain ⟨callee, args, argTypes⟩ := c
  obtain ⟨args⟩ := args
  obtain ⟨argTypes⟩ := argTypes
  simp only [aop] at hr
  split at hr
  ·rename_i x t
   obtain ⟨z, hz, rfl⟩ := pure_some hr
   obtain ⟨u, hu, hrv⟩ := lenOp_sound (P := P) (ty := type) h (h.eval x) hz
   subst_vars
   exact ⟨.value u, u, w, ρ, by simp_all [execOp, resolve, invoke, builtin], .inl rfl, h, hrv⟩
  ·rename_i x y t tx
   obtain ⟨ti, ht, hr⟩ := bind_some hr
   obtain ⟨e, he, hr⟩ := bind_some hr
   obtain ⟨te, hte, hr⟩ := bind_some hr
   obtain ⟨tj, htj, hr⟩ := bind_some hr
   split at hr
   ·cases hr
   ·rename_i hni
    obtain ⟨r, hap, rfl⟩ := Option.map_eq_some_iff.1 hr
    obtain ⟨d, hd, hd'⟩ := sh_not_int htj hni
    obtain ⟨z, w', ρ', hrun, hs, hrv⟩ := appendA_sound (P := P) (ty := type) h ht he hte hd hd' (h.eval x) (h.eval y) hap hn hA
    subst_vars
    exact ⟨.value z, z, w', ρ', by simp_all [execOp, resolve, invoke, builtin], .inl rfl, hs, hrv⟩
  ·rename_i x y t t2
   obtain ⟨z, hz, rfl⟩ := pure_some hr
   obtain ⟨u, hu, hrv⟩ := (mmA_sound (P := P) (h.eval x) (h.eval y) #[t, t2] type).1 hz
   subst_vars
   exact ⟨.value u, u, w, ρ, by simp_all [execOp, resolve, invoke, builtin], .inl rfl, h, hrv⟩
  ·rename_i x y t t2
   obtain ⟨z, hz, rfl⟩ := pure_some hr
   obtain ⟨u, hu, hrv⟩ := (mmA_sound (P := P) (h.eval x) (h.eval y) #[t, t2] type).2 hz
   subst_vars
   exact ⟨.value u, u, w, ρ, by simp_all [execOp, resolve, invoke, builtin], .inl rfl, h, hrv⟩
  ·cases hr
 | _ => simp [aop] at hr
end
end Go.Lg
