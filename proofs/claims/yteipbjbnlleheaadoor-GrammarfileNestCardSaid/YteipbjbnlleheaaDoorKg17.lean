/-
  Part 17 of the proof of GrammarfileLinesCard: the logic over the model, the functions' contracts and the plain laws.
-/
import Derived.Test.YteipbjbnlleheaaDoorKg16
import Derived.HandedShaped
import Derived.Handed
import Derived.LaidMore
import Derived.LaidHandle
import Derived.Lib.LaidTab

set_option linter.unusedSimpArgs false
set_option linter.unusedVariables false
set_option linter.unusedSectionVars false

/-
  A row whose listed variables are tables: the memory is shaped, and the tables hold their numbers.
-/
namespace Go.Lg
open Go.RowKit Go.ChangeShapes Go.WideShapes

theorem handed_laid {H : Type} {enc : TypeId × Value → H} {a : Assume} {C : Checked} {os : Os} {f : FuncId} {fn : Func} {s : ChangeSpec} {conds : List PathCond} {apart fresh handsOn again : Bool} {X : World → Array Value → Prop}
    (hX : ∀ (w w' : World) (args : Array Value), w.heap = w'.heap → X w args → X w' args)
    (own : ownKnob C.prog.godebug = none) (started : os.Started) (noInit : C.prog.inits.idxOf? f = none) (hfn : C.prog.funcs[f]? = some fn)
    (witness : ∃ (w : World) (tape : Tape) (i : Input), w.os = os ∧ (w.forCall tape i).Shaped C.prog ∧ i.vars = [] ∧ Input.okWide C.prog (w.forCall tape i) .any w.heap.size f i ∧
      ((s.pre enc C.prog fn conds apart (w.forCall tape i).memory i.args ∧ X (w.forCall tape i).memory i.args) ∧ sizedMet enc C.prog fn (OpenSpec.ofChange s) apart (w.forCall tape i).memory i.args) ∧ a.holds C.prog (lone (Frame.enter C.prog f i.args .normal) [] (w.forCall tape i)))
    (contract : ∀ (W : World) (base : Nat) (args : Array Value) (ds gs : List (DataW H)) (before : List MemPlace),
      (∀ (j : Nat) t v, fn.params[j]? = some t → args[j]? = some v → Value.okWide C.prog W .any base t v) →
      DataW.Whole enc C.prog fn.params.toList s.vars apart W args.toList ds gs before → W.ShapedOpen C.prog → X W args →
      Calls C.prog f args W fun e W' => ∃ v, e = .returned v ∧ s.post enc C.prog fn apart fresh handsOn again W args v W') :
    ReturnsInHanded a C os f .any (fun w args => (s.pre enc C.prog fn conds apart w args ∧ X w args) ∧ sizedMet enc C.prog fn (OpenSpec.ofChange s) apart w args) (s.post enc C.prog fn apart fresh handsOn again) := by
  refine returnsInHanded_of_calls own started noInit witness ?_
  intro w tape i _ hsh _ hok hpre hholds
  obtain ⟨_, _, _, fn', hfn', _, _, _, _, hval⟩ := hok
  have e : fn' = fn := Option.some.inj (hfn'.symm.trans hfn)
  subst e
  obtain ⟨⟨⟨ds, gs, before, hw, hc⟩, hx⟩, hz⟩ := hpre
  have hw' := DataW.Whole.of_heap (w' := w.forCall tape i) (by rfl) hw
  refine (contract (w.forCall tape i) w.heap.size i.args ds gs before hval hw' hsh (hX _ _ _ (by rfl) hx)).mono fun e W' ⟨v, he, hp⟩ => ?_
  subst he
  exact ChangeSpec.post_blind hp

theorem laid_tab {P : Program} {W : World} {k : IntKind} {zs : List Int} {g : Nat} {t e : TypeId} {n : Nat} {name : String}
    (hg : P.globalNamed name = some g) (hty : (P.globals[g]?).map (·.type) = some t) (ht : P.underlying t = some (.array n e)) (he : P.underlying e = some (.int k)) (hce : P.cellsOf e = 1) (hct : P.cellsOf t = n) :
    ∀ {laid : List (String × DataW Unit)} {ps : List MemPlace}, DataW.LaidVars P W laid ps → (name, Lib.tabData k zs) ∈ laid → ∃ t' z, W.heap[g]? = some (.cells (zs.map (Value.int k)).toArray t' z)
  | [], _, _, hm => by cases hm
  | (nm, d) :: r, ps, h, hm => by
    obtain ⟨g', t', cs, fuel, p, q, hg', ht', hvar, hd, hr, _⟩ := h
    rcases List.mem_cons.1 hm with hm | hm
    · injection hm with h1 h2
      subst h1 h2
      obtain rfl := Option.some.inj (hg.symm.trans hg')
      obtain rfl := Option.some.inj (hty.symm.trans ht')
      have hcs := Lib.cells_of_tab ht he hce hct hd
      unfold World.var? at hvar
      rw [hg] at hvar
      simp only [Option.bind_some] at hvar
      split at hvar
      · rename_i cs' t2 z2 hh
        injection hvar with hvar
        subst hvar
        refine ⟨t2, z2, ?_⟩
        rw [hh, ← hcs]
      · cases hvar
    · exact laid_tab hg hty ht he hce hct hr hm
end Go.Lg

/- Grammar files read as data, with the bounds on what is met in reading. -/
namespace Go.Lg
open Go.Proofs Go.RowKit Go.ChangeShapes Go.WideShapes

def wtOk (l : List Nat) : Bool := l.all (· ≤ reachBytes)
theorem wtOk_app {a b : List Nat} : wtOk (a ++ b) = true ↔ wtOk a = true ∧ wtOk b = true := by simp [wtOk]
/-- Data of type t whose weights are within reach are the values f a. -/
structure DatW (P : Program) (t : TypeId) {α : Type} (f : α → AV) : Prop where
  dat : ∀ {H : Type} {enc : TypeId × Value → H} {w : World} {fuel : Nat} {cs : List Value} {x : DataW H × List MemPlace},
    DataW.trod enc P w 0 (fun _ => true) true fuel t cs = some x → wtOk (x.1.weights P t) = true → ∃ a : α, CW0 w (f a).cells cs
theorem DatW.of {P : Program} {t : TypeId} {α : Type} {f : α → AV} (h : Dat P t f) : DatW P t f := ⟨fun hx _ => h.dat hx⟩

theorem weightsAll_ok {P : Program} {H : Type} {e : TypeId} : ∀ {l : List (DataW H)}, wtOk (DataW.weightsAll P e l) = true → ∀ d, d ∈ l → wtOk (d.weights P e) = true
  | [], _, d, hd => by cases hd
  | x :: l, h, d, hd => by
    rw [DataW.weightsAll, wtOk_app] at h
    rcases List.mem_cons.1 hd with rfl | hd
    · exact h.1
    · exact weightsAll_ok h.2 d hd

section
variable {P : Program} {w : World}
theorem sl_len {k len c : Nat} {es : List AV} {a : Option Addr} (h : RW0 w (.sl k es) (.slice a len c)) : es.length = len := by
  generalize hv : Value.slice a len c = v at h
  cases h with
  | nils => injection hv with h1 h2 h3; subst h2; rfl
  | sl => injection hv with h1 h2 h3; exact h2.symm
theorem cw0_one {x : AV} {v : Value} (hx : x.one = true) (h : CW0 w [x] [v]) : RW0 w x v := h.vals 0 x v rfl rfl
/-- a slice of flat elements -/
theorem datw_flat {t e : TypeId} {α : Type} {f : α → AV} {k bt : Nat} (ht : P.underlying t = some (.slice e)) (hb : P.bytesOf e = bt) (hb0 : 0 < bt) (h : Dat P t (fun l : List α => AV.sl k (l.map f))) : DatW P t (fun l : {l : List α // l.length ≤ 140737488355328} => AV.sl k (l.1.map f)) := ⟨fun {H} {enc} {w} {fuel} {cs} {x} hx hw => by
  obtain ⟨l, hl⟩ := h.dat hx
  refine ⟨⟨l, ?_⟩, hl⟩
  rcases DataW.trod_slice ht hx with ⟨rfl, rfl⟩ | ⟨a, len, cap, elems, rest, n, _, rfl, rfl, _, _, _, hlen, _, _⟩
  · have := sl_len (cw0_one rfl hl)
    rw [List.length_map] at this; omega
  · have h2 := sl_len (cw0_one rfl hl)
    rw [List.length_map] at h2
    simp only [DataW.weights, ht, List.length_map, wtOk, List.all_cons, Bool.and_eq_true, decide_eq_true_eq, hb] at hw
    have h3 := hw.1
    have h4 : elems.length ≤ (elems.length + rest.length) * bt := by
      calc elems.length ≤ elems.length + rest.length := Nat.le_add_right _ _
        _ ≤ (elems.length + rest.length) * bt := Nat.le_mul_of_pos_right _ hb0
    unfold reachBytes at h3
    omega⟩
theorem datw_slice {t e : TypeId} {α : Type} {f : α → AV} {k : Nat} (ht : P.underlying t = some (.slice e)) (hk : P.cellsOf e = k) (hk0 : 0 < k) (hf : ∀ a, (f a).cells.length = k) (he : DatW P e f) : DatW P t (fun l : List α => AV.sl k (l.map f)) := ⟨fun {H} {enc} {w} {fuel} {cs} {x} h hw => by
  rcases DataW.trod_slice ht h with ⟨rfl, _⟩ | ⟨a, len, cap, elems, rest, n, hn, rfl, rfl, hb, hl, hm, hlen, hel, _⟩
  · exact ⟨[], CR.one .nils rfl⟩
  · simp only [DataW.weights, ht] at hw
    rw [show ∀ (a : Nat) (b : List Nat), a :: b = [a] ++ b from fun _ _ => rfl, wtOk_app, wtOk_app] at hw
    have hwe := weightsAll_ok hw.2.1
    have each : ∀ i, i < elems.length → ∃ y : α, ∃ cs : List Value, CW0 w (f y).cells cs ∧ ∀ j, j < k → w.cell? ((a.add (i * k)).add j) = cs[j]? := fun i hi => by
      have := hel i (by omega)
      rw [List.getElem?_eq_getElem hi, Option.bind_eq_some_iff, hk] at this
      obtain ⟨cs, h1, h2⟩ := this
      obtain ⟨y, hy⟩ := he.dat h2 (hwe _ (List.mem_map.2 ⟨_, List.getElem_mem hi, rfl⟩))
      exact ⟨y, cs, hy, (World.cells?_some h1).2.2⟩
    obtain ⟨zs, h1, h2⟩ := list_of_each each
    refine ⟨zs, ?_⟩
    cases zs with
    | nil =>
      have : len = 0 := by simp at h1; omega
      subst this
      exact CR.one .nils rfl
    | cons y zs =>
      obtain ⟨cs0, c1, c2⟩ := h2 0 y rfl
      have hcs0 : cs0.length = k := by rw [c1.len, hf]
      have hcell0 : w.cell? ((a.add (0 * k)).add 0) = some (cs0[0]'(by omega)) := by rw [c2 0 hk0, List.getElem?_eq_getElem (by omega)]
      have hsp : a.spot = none := by
        have := World.cell?_spot hcell0
        simpa [Addr.add] using this
      obtain ⟨b, o, sp⟩ := a
      simp only at hsp; subst hsp
      have hlt : b < w.heap.size := by
        have : w.cell? ⟨b, o, none⟩ ≠ none := by
          have := hcell0
          simp [Addr.add] at this
          rw [this]; simp
        by_cases hb : b < w.heap.size
        · exact hb
        · exfalso; apply this; unfold World.cell?; simp [Array.getElem?_eq_none (Nat.le_of_not_lt hb)]
      obtain ⟨g, hg⟩ := cr_flat (k := k) (cell := fun j => w.cell? ⟨b, j, none⟩) ((y :: zs).map f) o (fun e he => by obtain ⟨z, _, rfl⟩ := List.mem_map.1 he; exact hf z) (fun i e hi => by
        rw [List.getElem?_map, Option.map_eq_some_iff] at hi
        obtain ⟨z, hz, rfl⟩ := hi
        obtain ⟨cs, q1, q2⟩ := h2 i z hz
        refine ⟨cs, q1, fun j hj => ?_⟩
        have := q2 j hj
        rwa [add_lit, add_lit] at this)
      have hlen' : ((y :: zs).map f).length = len := by simp only [List.length_map]; omega
      have key : RW0 w (.sl k ((y :: zs).map f)) (.slice (some ⟨b, o, none⟩) ((y :: zs).map f).length cap) :=
        .sl g ⟨by omega, hm⟩ hlt (fun e he => by obtain ⟨z, _, rfl⟩ := List.mem_map.1 he; exact hf z) (fun j hj => (hg j hj).1) (fun j hj => (hg j hj).2.1) (fun j x hx => (hg j ((List.getElem?_eq_some_iff.1 hx).1)).2.2 x hx)
      rw [hlen'] at key
      exact CR.one key rfl⟩

def eachFieldW {H : Type} (enc : TypeId × Value → H) (P : Program) (w : World) (cs : List Value) : List (TypeId × Nat) → Prop
  | [] => True
  | (t, o) :: r => (∃ fuel x, DataW.trod enc P w 0 (fun _ => true) true fuel t ((cs.drop o).take (P.cellsOf t)) = some x ∧ wtOk (x.1.weights P t) = true) ∧ eachFieldW enc P w cs r
theorem datw_fields {t : TypeId} {l : List (TypeId × Nat)} {α : Type} {f : α → AV} {m : Nat} (hl : fieldTO P t = some l) (hm : P.cellsOf t = m)
    (h : ∀ {H : Type} {enc : TypeId × Value → H} {w : World} {cs : List Value}, cs.length = m → eachFieldW enc P w cs l → ∃ a : α, CW0 w (f a).cells (cs.drop 0)) : DatW P t f := ⟨fun {H} {enc} {w} {fuel} {cs} {x} hx hw => by
  unfold fieldTO at hl
  split at hl
  · rename_i fs ht
    injection hl with hl
    obtain ⟨xs, n, hn, rfl, hlc, hlen, hf⟩ := DataW.trod_struct ht hx
    simp only [DataW.weights, ht] at hw
    rw [hm] at hlc
    have gen : ∀ (gs : List Field) (ys : List (DataW H × List MemPlace)), gs.length = ys.length → (∀ (i : Nat) (g : Field), gs[i]? = some g → DataW.trod enc P w 0 (fun _ => true) true n g.type ((cs.drop g.offset).take (P.cellsOf g.type)) = ys[i]?) →
        wtOk (DataW.weightsEach P (gs.map (·.type)) (ys.map (·.1))) = true → eachFieldW enc P w cs (gs.map fun g => (g.type, g.offset)) := by
      intro gs
      induction gs with
      | nil => intro _ _ _ _; trivial
      | cons g gs ih =>
        intro ys hly hg hw
        cases ys with
        | nil => simp at hly
        | cons y ys =>
          simp only [List.map_cons, DataW.weightsEach, wtOk_app] at hw
          exact ⟨⟨n, y, by have := hg 0 g rfl; simpa using this, hw.1⟩, ih ys (by simpa using hly) (fun i g' hg' => by have := hg (i + 1) g' (by simpa using hg'); simpa using this) hw.2⟩
    have := h (enc := enc) (w := w) hlc (by
      rw [← hl]
      exact gen fs.toList xs (by simp [hlen]) (fun i g hg => hf i g (by rw [← Array.getElem?_toList]; exact hg)) hw)
    simpa using this
  · cases hl⟩
theorem fieldw_dat {H : Type} {enc : TypeId × Value → H} {t : TypeId} {o n : Nat} {α : Type} {f : α → AV} {cs : List Value} (hd : DatW P t f) (h : ∃ fuel x, DataW.trod enc P w 0 (fun _ => true) true fuel t ((cs.drop o).take (P.cellsOf t)) = some x ∧ wtOk (x.1.weights P t) = true) (hn : P.cellsOf t = n) : ∃ a : α, CW0 w (f a).cells ((cs.drop o).take n) := by
  obtain ⟨fuel, x, hx, hw⟩ := h
  rw [hn] at hx
  exact hd.dat hx hw
end

theorem datw_strs : DatW Tryd.prog 44 (fun l : {l : List {s : ByteArray // SzOk s} // l.length ≤ 140737488355328} => AV.sl 1 (l.1.map fun s => strA s.1)) :=
  datw_flat (e := 9) (bt := 16) (by kernel_rfl) (by kernel_rfl) (by decide) (dat_slice (e := 9) (k := 1) (f := fun s : {s : ByteArray // SzOk s} => strA s.1) (by kernel_rfl) (by kernel_rfl) (by decide) (fun _ => rfl))
def LvB (l : GLe) : Prop := l.fit ∧ l.tokens.length ≤ 140737488355328
theorem datw_level : DatW Tryd.prog 47 (fun l : {l : GLe // LvB l} => levelA l.1) := datw_fields (l := [(3, 0), (44, 1)]) (m := 2) (by kernel_rfl) (by kernel_rfl) fun hc ⟨h0, h1, _⟩ => by
  obtain ⟨a0, h0⟩ := fieldw_dat (DatW.of dat_int_i) h0 (n := 1) (by kernel_rfl)
  obtain ⟨a1, h1⟩ := fieldw_dat datw_strs h1 (n := 1) (by kernel_rfl)
  rw [map_val] at h1
  exact ⟨⟨⟨a0, a1.1.map Subtype.val⟩, val_ok a1.1, by simpa using a1.2⟩, CR.seg h0 (CR.seg h1 (CR.fin (by omega)))⟩
theorem datw_levels : DatW Tryd.prog 22 (fun l : List {l : GLe // LvB l} => .sl 2 (l.map fun l => levelA l.1)) := datw_slice (e := 47) (k := 2) (by kernel_rfl) (by kernel_rfl) (by decide) (fun _ => rfl) datw_level
theorem datw_file : DatW Tryd.prog 25 (fun f : {f : GFi // f.fit ∧ TokB f} => fileA f.1) := datw_fields (l := [(9, 0), (22, 1), (23, 2)]) (m := 3) (by kernel_rfl) (by kernel_rfl) fun hc ⟨h0, h1, h2, _⟩ => by
  obtain ⟨a0, h0⟩ := fieldw_dat (DatW.of dat_str_i) h0 (n := 1) (by kernel_rfl)
  obtain ⟨a1, h1⟩ := fieldw_dat datw_levels h1 (n := 1) (by kernel_rfl)
  obtain ⟨a2, h2⟩ := fieldw_dat (DatW.of dat_grules_i) h2 (n := 1) (by kernel_rfl)
  rw [map_val] at h1 h2
  exact ⟨⟨⟨a0.1, a1.map Subtype.val, a2.map Subtype.val⟩, ⟨a0.2, fun l hl => (val_ok a1 l hl).1, val_ok a2⟩, fun l hl => (val_ok a1 l hl).2⟩, CR.seg h0 (CR.seg h1 (CR.seg h2 (CR.fin (by omega))))⟩
set_option maxRecDepth 20000
theorem arg_fileW {H : Type} {enc : TypeId × Value → H} {w : World} {v : Value} {d : DataW H} {ps : List MemPlace} (h : DataW.Trod enc Tryd.prog w 0 (fun _ => true) true 25 v d ps) {r : Reach} {b0 : Nat} (hval : Value.okWide Tryd.prog w r b0 25 v) (hw : wtOk (d.weights Tryd.prog 25) = true) : ∃ g : GFi, (g.fit ∧ TokB g) ∧ RW0 w (fileA g) v := by
  obtain ⟨fs, hfs⟩ := agg_file
  obtain ⟨fuel, h⟩ := h
  obtain ⟨g, hg⟩ := datw_file.dat h hw
  obtain ⟨vs, rfl, _⟩ := okWide_struct hfs hval
  exact ⟨g.1, g.2, CR.agg hg⟩
/-- handed_laid with the weights of what is met. -/
theorem handed_laidW {H : Type} {enc : TypeId × Value → H} {a : Assume} {C : Checked} {os : Os} {f : FuncId} {fn : Func} {s : ChangeSpec} {conds : List PathCond} {apart fresh handsOn again : Bool} {X : World → Array Value → Prop}
    (hX : ∀ (w w' : World) (args : Array Value), w.heap = w'.heap → X w args → X w' args)
    (own : ownKnob C.prog.godebug = none) (started : os.Started) (noInit : C.prog.inits.idxOf? f = none) (hfn : C.prog.funcs[f]? = some fn)
    (witness : ∃ (w : World) (tape : Tape) (i : Input), w.os = os ∧ (w.forCall tape i).Shaped C.prog ∧ i.vars = [] ∧ Input.okWide C.prog (w.forCall tape i) .any w.heap.size f i ∧
      ((s.pre enc C.prog fn conds apart (w.forCall tape i).memory i.args ∧ X (w.forCall tape i).memory i.args) ∧ sizedMet enc C.prog fn (OpenSpec.ofChange s) apart (w.forCall tape i).memory i.args) ∧ a.holds C.prog (lone (Frame.enter C.prog f i.args .normal) [] (w.forCall tape i)))
    (contract : ∀ (W : World) (base : Nat) (args : Array Value) (ds gs : List (DataW H)) (before : List MemPlace),
      (∀ (j : Nat) t v, fn.params[j]? = some t → args[j]? = some v → Value.okWide C.prog W .any base t v) →
      DataW.Whole enc C.prog fn.params.toList s.vars apart W args.toList ds gs before → W.ShapedOpen C.prog → X W args → wtOk (DataW.weightsEach C.prog (fn.params.toList ++ (OpenSpec.ofChange s).bare.plain.varTypes C.prog) (ds ++ gs)) = true →
      Calls C.prog f args W fun e W' => ∃ v, e = .returned v ∧ s.post enc C.prog fn apart fresh handsOn again W args v W') :
    ReturnsInHanded a C os f .any (fun w args => (s.pre enc C.prog fn conds apart w args ∧ X w args) ∧ sizedMet enc C.prog fn (OpenSpec.ofChange s) apart w args) (s.post enc C.prog fn apart fresh handsOn again) := by
  refine returnsInHanded_of_calls own started noInit witness ?_
  intro w tape i _ hsh _ hok hpre hholds
  obtain ⟨_, _, _, fn', hfn', _, _, _, _, hval⟩ := hok
  have e : fn' = fn := Option.some.inj (hfn'.symm.trans hfn)
  subst e
  obtain ⟨⟨⟨ds, gs, before, hw, hc⟩, hx⟩, hz⟩ := hpre
  have hwt := hz.weights hw
  have hw' := DataW.Whole.of_heap (w' := w.forCall tape i) (by rfl) hw
  refine (contract (w.forCall tape i) w.heap.size i.args ds gs before hval hw' hsh (hX _ _ _ (by rfl) hx) hwt).mono fun e W' ⟨v, he, hp⟩ => ?_
  subst he
  exact ChangeSpec.post_blind hp
end Go.Lg
